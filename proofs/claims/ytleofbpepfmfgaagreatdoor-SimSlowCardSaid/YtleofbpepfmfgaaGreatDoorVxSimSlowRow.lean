import Derived.Test.YtleofbpepfmfgaaGreatDoorVxSimWhLaw
import Derived.Test.YtleofbpepfmfgaaGreatDoorVxOpenC
import Derived.Test.YtleofbpepfmfgaaGreatDoorRows
import Derived.Test.YtleofbpepfmfgaaGreatDoorVxOpen64
set_option linter.unusedSimpArgs false
set_option linter.unusedVariables false
set_option maxRecDepth 100000
namespace Go.Proofs.YtleofbpepfmfgaaGreatDoor
open Go Go.Vx
open Go.Vx.IOp Go.Vx.IR Go.Vx.Opd
def irw_biremelaw27_SimSlow:Vx.Fn:={ nt:=88,res:=[.t 8],body:=seq (ops (.run [x 4 (vb (t 0)),x 5 (vb (t 1)),x 7 (vb (t 3)),x 8 (mv (c (.bool false)))] <| .nil)) (seq (ops (.run [x 17 (vlds 5 5 11),x 9 (va [i 0,i 0,i 0,i 0,i 0,i 0,i 0,i 0,i 0,i 0,i 0]),x 9 (vst 9 9 (t 17) 11)] <| .nil)) (seq (seq (ops (.run [x 10 (mv (c (i 0)))] <| .nil)) (block 0 (loop [(9,10),(18,33)] (seq (seq (ops (.run [x 18 (mv (t 10)),x 19 (bin .lss (t 18) (c (i 4)))] <| .nil)) (cond (t 19) (skip) (exit 0))) (seq (block 1 (tree [x 22 (mv (t 10)),x 23 (fa (t 9) 4),x 24 (ir 9 23 (t 22) 4),x 25 (vld 9 24),x 26 (mv (t 10)),x 27 (iap (t 7) (t 26) 1 4),x 28 (vld 7 27),x 29 (div .rem (t 28) (c (.int .u8 4))),x 30 (cvN .i64 (t 29)),x 31 (bin .sub (t 25) (t 30)),x 32 (fa (t 9) 4),x 33 (ir 9 32 (t 22) 4),x 9 (vst 9 33 (t 31) 1)] (.pure 0 (.pure 1 (.pure 2 (.pure 3 (.pure 4 (.pure 5 (.pure 6 (.pure 7 (.pure 8 (.pure 9 (.alt 10 (.pure 11 (.alt 12 (RT.nil) (.done))) (.done)))))))))))))) (ops (.run [x 20 (mv (t 10)),x 21 (binN .add (t 20) (c (i 1))),x 10 (mv (t 21))] <| .nil))))))) (seq (seq (ops (.run [x 34 (vlds 4 4 6),x 35 (vlds 5 5 11),x 36 (mv (t 2)),x 37 (call 27 [t 34,t 35,t 36]),x 38 (un .not (t 37)),x 39 (mv (t 38))] <| .sc 39 false [(40,42)] (.run [x 40 (vlds 9 9 11),x 41 (call 28 [t 40]),x 42 (bin .neq (t 41) (c (i 0)))] <| .nil) 43 (t 42) <| .nil)) (cond (t 43) (seq (ops (.run [x 44 (call 14 []),x 8 (mv (t 44))] <| .nil)) (ret)) (skip))) (seq (tree [x 46 (vlds 4 4 6),x 47 (callG 15 [t 46]),x 48 (vlds 5 5 11),x 49 (mv (t 2)),x 50 (callG 17 [t 47,t 48,t 49,c (i 400),c (ns)]),x 45 (mv (t 50)),x 51 (ext (t 45) 0),x 52 (ext (t 45) 1),x 53 (ext (t 45) 2),x 11 (va [ns,i 0,i 0]),x 11 (vst 11 11 (t 51) 3),x 12 (mv (t 52)),x 13 (mv (t 53))] (.pure 0 (.pure 2 (.pure 3 (.alt 1 (.alt 4 (.pure 5 (.pure 6 (.pure 7 (.pure 8 (.alt 9 (.alt 10 (.pure 11 (.pure 12 (RT.nil))) (.done)) (.done)))))) (.alt 9 (.alt 4 (.pure 5 (.pure 6 (.pure 7 (.pure 8 (.alt 10 (.pure 11 (.pure 12 (RT.nil))) (.done)))))) (.done)) (.done))) (.alt 9 (.alt 1 (.alt 4 (.pure 5 (.pure 6 (.pure 7 (.pure 8 (.alt 10 (.pure 11 (.pure 12 (RT.nil))) (.done)))))) (.done)) (.done)) (.done))))))) (seq (tree [x 55 (vlds 4 4 6),x 56 (callG 15 [t 55]),x 57 (vlds 9 9 11),x 58 (mv (t 2)),x 59 (callG 17 [t 56,t 57,t 58,c (i 400),c (ns)]),x 54 (mv (t 59)),x 60 (ext (t 54) 0),x 61 (ext (t 54) 1),x 62 (ext (t 54) 2),x 14 (va [ns,i 0,i 0]),x 14 (vst 14 14 (t 60) 3),x 15 (mv (t 61)),x 16 (mv (t 62))] (.pure 0 (.pure 2 (.pure 3 (.alt 1 (.alt 4 (.pure 5 (.pure 6 (.pure 7 (.pure 8 (.alt 9 (.alt 10 (.pure 11 (.pure 12 (RT.nil))) (.done)) (.done)))))) (.alt 9 (.alt 4 (.pure 5 (.pure 6 (.pure 7 (.pure 8 (.alt 10 (.pure 11 (.pure 12 (RT.nil))) (.done)))))) (.done)) (.done))) (.alt 9 (.alt 1 (.alt 4 (.pure 5 (.pure 6 (.pure 7 (.pure 8 (.alt 10 (.pure 11 (.pure 12 (RT.nil))) (.done)))))) (.done)) (.done)) (.done))))))) (seq (ops (.run [x 63 (vlds 4 4 6),x 64 (vlds 9 9 11),x 65 (mv (t 2)),x 66 (call 27 [t 63,t 64,t 65]),x 67 (mv (t 66))] <| .sc 67 true [(68,69)] (.run [x 68 (mv (t 13)),x 69 (bin .eql (t 68) (c (i 0)))] <| .nil) 70 (t 69) <| .run [x 71 (mv (t 70))] <| .sc 71 true [(72,73)] (.run [x 72 (mv (t 16)),x 73 (bin .eql (t 72) (c (i 0)))] <| .nil) 74 (t 73) <| .run [x 75 (mv (t 74))] <| .sc 75 true [(76,78)] (.run [x 76 (mv (t 12)),x 77 (mv (t 15)),x 78 (bin .eql (t 76) (t 77))] <| .nil) 79 (t 78) <| .run [x 80 (mv (t 79))] <| .sc 80 true [(81,83)] (.run [x 81 (vlds 11 11 3),x 82 (vlds 14 14 3),x 83 (call 19 [t 81,t 82])] <| .nil) 84 (t 83) <| .run [x 85 (mv (t 84))] <| .sc 85 true [(86,86)] (.run [x 86 (call 14 [])] <| .nil) 87 (t 86) <| .run [x 8 (mv (t 87))] <| .nil)) (ret))))))) }
theorem okw_biremelaw27_SimSlow:okFn Tryz.prog Tryz.f6 irw_biremelaw27_SimSlow = true:=by kernel_rfl
def lessL (M:Mac) (f:Nat → Int) (j:Nat):Int:=IntKind.i64.wrap (M.lat j - (f j).tmod 4)
def lessK (M:Mac) (f:Nat → Int) (k:Nat):Mac :=
 { M with l0:=if 0 < k then lessL M f 0 else M.l0,l1:=if 1 < k then lessL M f 1 else M.l1,l2:=if 2 < k then lessL M f 2 else M.l2,l3:=if 3 < k then lessL M f 3 else M.l3 }
structure SameBut (M M':Mac):Prop where
 u0:M'.u0 = M.u0
 u1:M'.u1 = M.u1
 u2:M'.u2 = M.u2
 u3:M'.u3 = M.u3
 rg:M'.rg = M.rg
 bk:M'.bk = M.bk
 pt:M'.pt = M.pt
theorem lessK_but (M:Mac) (f:Nat → Int) (k:Nat):SameBut M (lessK M f k):=⟨rfl,rfl,rfl,rfl,rfl,rfl,rfl⟩
def UseR.onM (X:UseR) (M':Mac):UseR:={ X with M:=M' }
theorem UseR.on_incU (X:UseR) (M':Mac) (k:Nat):(X.onM M').incU k = (X.incU k).onM M':=by unfold UseR.incU;split <;> rfl
theorem UseR.on_incR (X:UseR) (M':Mac) (k:Nat):(X.onM M').incR k = (X.incR k).onM M':=by unfold UseR.incR;split <;> rfl
theorem bank_on {M':Mac}:∀ (L:List Int) {X:UseR},M'.bk = X.M.bk → bankS (X.onM M') L = (bankS X L).onM M'
 | [],X,h=>rfl
 | r :: L,X,h=>by
  show bankS ((X.onM M').incR (r.tmod M'.bk).toNat) L = (bankS (X.incR (r.tmod X.M.bk).toNat) L).onM M'
  rw [UseR.on_incR,h,bank_on L (by rw [UseR.incR_M];exact h)]
theorem with_on {M':Mac} {X:UseR} (o:OpR) (h:M'.bk = X.M.bk):withS (X.onM M') o = (withS X o).onM M':=by
 unfold withS
 rw [UseR.on_incU,bank_on _ (by rw [UseR.incU_M];exact h)]
theorem fold_on {M':Mac}:∀ (O:List OpR) {X:UseR},M'.bk = X.M.bk → O.foldl withS (X.onM M') = (O.foldl withS X).onM M'
 | [],X,h=>rfl
 | o :: O,X,h=>by rw [List.foldl_cons,List.foldl_cons,with_on o h,fold_on O (by rw [withS_M];exact h)]
theorem fits_same {M M':Mac} (h:SameBut M M') (O:List OpR):fitsS (usesAll M' O) = fitsS (usesAll M O):=by
 have e:usesAll M' O = (usesAll M O).onM M':=fold_on O (X:=newU M) h.bk
 have em:(usesAll M O).M = M:=fold_M O (newU M)
 rw [e]
 generalize usesAll M O = X at em
 subst em
 show (((decide (X.u0 ≤ M'.u0) && decide (X.u1 ≤ M'.u1)) && (decide (X.u2 ≤ M'.u2) && decide (X.u3 ≤ M'.u3))) && X.readL.all fun x=>decide (x ≤ M'.pt)) = _
 rw [h.u0,h.u1,h.u2,h.u3,h.pt]
 rfl
theorem fitsCode_same {C:CodeR} {M M':Mac} (h:SameBut M M') (hM:M'.ok = true) (hf:fitsCode C M = 0):fitsCode C M' = 0:=by
 unfold fitsCode at hf ⊢
 simp only [fits_same h,h.rg,hM]
 split
 ·rename_i h1;rw [if_pos h1] at hf;exact absurd hf h1
 ·rename_i h1
  rw [if_neg h1] at hf
  split at hf
  ·cases hf
  ·rw [if_neg (by simp)];exact hf
theorem lessL_le {M:Mac} (hM:M.ok = true) {f:Nat → Int} (hf:∀ j,0 ≤ f j ∧ f j ≤ 255) (j:Nat):lessL M f j ≤ M.lat j:=by
 have h1:=lat_all hM j
 have h8:M.lat j ≤ 8:=by
  match j with
  | 0=>exact (lat_in hM (q:=0) (by decide)).2
  | 1=>exact (lat_in hM (q:=1) (by decide)).2
  | 2=>exact (lat_in hM (q:=2) (by decide)).2
  | j + 3=>exact (lat_in hM (q:=3) (by decide)).2
 have h3:=Int.tmod_nonneg 4 (hf j).1
 have h4:=Int.tmod_lt_of_pos (f j) (show (0:Int) < 4 by decide)
 unfold lessL
 rw [wrap_i64 (by omega) (by omega)]
 omega
theorem less_lat {M:Mac} (hM:M.ok = true) {f:Nat → Int} (hf:∀ j,0 ≤ f j ∧ f j ≤ 255) (j:Nat):(lessK M f 4).lat j ≤ M.lat j:=by
 match j with
 | 0=>exact lessL_le hM hf 0
 | 1=>exact lessL_le hM hf 1
 | 2=>exact lessL_le hM hf 2
 | j + 3=>exact lessL_le hM hf 3
theorem strict_slow {C:CodeR} {M:Mac} {al:Nat} {f:Nat → Int} (hf:∀ j,0 ≤ f j ∧ f j ≤ 255) (hM:(lessK M f 4).ok = true) (hs:StrictIs C M al) (hL:fitsCode (cut27 C) (lessK M f 4) = 0 → ∃ A,Least (cut27 C) (lessK M f 4) A):StrictIs C (lessK M f 4) al:=by
 obtain ⟨h1,h2,h3,A,hA,hS⟩:=hs
 obtain ⟨_,hM0⟩:=fits_ok3 h2
 have h2':=fitsCode_same (lessK_but M f 4) hM h2
 obtain ⟨A',hA'⟩:=hL h2'
 exact ⟨h1,h2',h3,A',hA',strictA_less (fun o=>Int.toNat_le_toNat (less_lat hM0 hf _)) hA' hA.is hS⟩
theorem runs_slow {C:CodeR} {M:Mac} {A:WS} {f:Nat → Int} (hf:∀ j,0 ≤ f j ∧ f j ≤ 255) (hC:CodeOK C) (hM:M.ok = true) (hM':(lessK M f 4).ok = true) (hA:Least C M A) (hS:strictA C M A) (args:List Int) (n:Nat) :
  Same (runS C M [] n (beginS C args)) (runS C (lessK M f 4) [] n (beginS C args)) :=
 (run_same hC hA.is hS (latOK [] (lat_all hM) fun _=>Int.le_refl _) (latOK [] (lat_all hM') (less_lat hM hf)) (Rel2.begin hA.is args)).1
theorem lawStrict_ok2 {m:Mem} {T:Nat} {fr:Nat × Nat} (hm:m 0 = some (.cells ⟨cells0⟩ T fr)) (V:CV) {C:CodeR} (M:Mac) (hV:CodeAt m V C) {aa:Option Addr} {al ca:Nat} :
  CallsM Tryz.prog 27 [V.val C,M.val,.slice aa al ca] m fun e m'=>∃ b,e = .returned (.bool b) ∧ Mem.le m m' ∧ (b = true ↔ StrictIs C M al) ∧ (okC C = true → (al:Int) = C.pr → fitsCode (cut27 C) M = 0 → ∃ A,Least (cut27 C) M A):=by
 refine calls_of mixed Tryz.func27 ok_biremelaw27_strict rfl ?_
 conv=>whnf
 refine WCall.mk (lawCut_ok V hV) ?_
 rintro _ m1 ⟨V1,rfl,l1,hV1⟩
 conv=>whnf
 refine WSc.mk (v:=decide (fitsCode (cut27 C) M ≠ 0)) (fun _=>?_) ?_
 ·conv=>whnf
  refine WCall.mk (refFits_ok V1 hV1 M) ?_
  rintro _ m2 ⟨rfl,l2⟩
  conv=>whnf
  refine And.intro l2 ?_
  show some (Value.bool (fitsCode (cut27 C) M != 0)) = some (Value.bool (decide (fitsCode (cut27 C) M ≠ 0)))
  by_cases h:fitsCode (cut27 C) M = 0 <;> simp [h]
 conv=>whnf
 refine WSc.mk (v:=(al:Int) != C.pr) (fun _=>And.intro (Mem.le.refl _) rfl) ?_
 conv=>whnf
 refine Br.mk (fun hh=>?_) (fun hh=>?_)
 ·have hh:((!okC C || decide (fitsCode (cut27 C) M ≠ 0)) || (al:Int) != C.pr) = true:=hh
  conv=>whnf
  refine WRet.same ⟨false,rfl,l1,⟨(fun h=>by cases h),fun h=>?_⟩,fun h1 h3 h2=>?_⟩
  ·obtain ⟨h1,h2,h3,_⟩:=h
   rw [h1,h2,h3] at hh
   simp at hh
  ·rw [h1,h2,h3] at hh
   simp at hh
 ·have hh:((!okC C || decide (fitsCode (cut27 C) M ≠ 0)) || (al:Int) != C.pr) = false:=hh
  simp only [Bool.or_eq_false_iff,Bool.not_eq_false',decide_eq_false_iff_not,ne_eq,Decidable.not_not,bne_eq_false_iff_eq] at hh
  conv=>whnf
  refine ⟨?_,trivial⟩
  conv=>whnf
  refine WCall.mk (lawOwn_ok V (hV.mono l1)) ?_
  rintro _ m2 ⟨V2,rfl,l2,hV2⟩
  conv=>whnf
  refine ⟨?_,trivial⟩
  conv=>whnf
  refine WCall.mk (strict_ok ((l1.trans l2) _ _ hm) V2 M hV2) ?_
  rintro _ m3 ⟨b,A,rfl,l3,_,hst⟩
  obtain ⟨hLe,hiff⟩:=hst hh.1.2
  rw [hh.1.2]
  conv=>whnf
  refine WSc.mk (v:=true) (fun _=>And.intro (Mem.le.refl _) rfl) ?_
  conv=>whnf
  refine WRet.same ⟨b,?_,(l1.trans l2).trans l3,⟨fun h=>⟨hh.1.1,hh.1.2,hh.2,A,hLe,hiff.1 h⟩,fun h=>?_⟩,fun _ _ _=>⟨A,hLe⟩⟩
  ·show Ending.returned (.bool (b && true)) = _;rw [Bool.and_true]
  ·obtain ⟨_,_,_,A',hA',hs⟩:=h
   exact hiff.2 (by rw [hLe.uniq hA'];exact hs)
def slPart:Nat → IR:=fun k=>match k,irw_biremelaw27_SimSlow.body with
 | 0,.seq a _=>a
 | 1,.seq _ (.seq a _)=>a
 | 2,.seq _ (.seq _ (.seq a _))=>a
 | 3,.seq _ (.seq _ (.seq _ (.seq a _)))=>a
 | 4,.seq _ (.seq _ (.seq _ (.seq _ (.seq a _))))=>a
 | 5,.seq _ (.seq _ (.seq _ (.seq _ (.seq _ (.seq a _)))))=>a
 | _,.seq _ (.seq _ (.seq _ (.seq _ (.seq _ (.seq _ r)))))=>r
 | _,r=>r
def slEnd:IR:=slPart 6
theorem sl_body:irw_biremelaw27_SimSlow.body = .seq (slPart 0) (.seq (slPart 1) (.seq (slPart 2) (.seq (slPart 3) (.seq (slPart 4) (.seq (slPart 5) slEnd))))):=rfl
theorem iat_no (m:Mem):IAt m (.slice none ([]:List Int).length 0) []:=⟨none,0,rfl,fun _=>rfl,(fun ad h=>by cases h),Nat.le_refl _⟩
section
variable {m0 m:Mem} {P:List Int} {kd nn:Int} {k:Int} {A B:Option Addr} {c d:Nat} {V:CV} {C:CodeR} {M':Mac} {aa:Option Addr} {ca al:Nat}
theorem slEnd_ok (hle:Mem.le m0 m) (h1:OutAt m (.agg ⟨[.slice A P.length c,i kd,i nn]⟩) P kd nn) (h2:OutAt m (.agg ⟨[.slice B P.length d,i kd,i nn]⟩) P kd nn) (hl:P.length ≤ 1000000000)
  (hst:CallsM Tryz.prog 27 [V.val C,M'.val,.slice aa al ca] m fun e m'=>e = .returned (.bool true) ∧ Mem.le m m')
  (hal:∀ m',Mem.le m0 m' → CallsM Tryz.prog 14 [] m' fun e m''=>e = .returned (.bool true) ∧ m'' = m') :
  wpI Tryz.prog slEnd (retPost [.t 8] fun e m'=>e = .returned (.bool true) ∧ Mem.le m0 m')
   (envL [(2,.val (.slice aa al ca)),(4,.var (V.cells C)),(9,.var M'.cells),(11,.var [.slice A P.length c,i kd,i nn]),(12,.val (i k)),(13,.val (i 0)),(14,.var [.slice B P.length d,i kd,i nn]),(15,.val (i k)),(16,.val (i 0))]) m:=by
 have kk:(k == k) = true:=by simp
 conv=>whnf
 refine WCall.mk hst ?_
 rintro _ m2 ⟨rfl,l2⟩
 conv=>whnf
 refine WSc.mk (v:=true) (fun _=>And.intro (Mem.le.refl _) rfl) ?_
 conv=>whnf
 refine WSc.mk (v:=true) (fun _=>And.intro (Mem.le.refl _) rfl) ?_
 conv=>whnf
 refine WSc.mk (v:=k == k) (fun _=>And.intro (Mem.le.refl _) rfl) ?_
 conv=>whnf
 refine WSc.mk (v:=true) (fun _=>?_) ?_
 ·conv=>whnf
  refine WCall.mk (same_ok (h1.mono l2) (h2.mono l2) hl) ?_
  rintro _ _ ⟨rfl,rfl⟩
  conv=>whnf
  exact And.intro (Mem.le.refl _) rfl
 conv=>whnf
 refine WSc.mk (v:=true) (fun _=>?_) ?_
 ·conv=>whnf
  refine WCall.mk (hal _ (hle.trans l2)) ?_
  rintro _ _ ⟨rfl,rfl⟩
  conv=>whnf
  exact And.intro (Mem.le.refl _) rfl
 conv=>whnf
 refine WRet.same ⟨?_,hle.trans l2⟩
 show Ending.returned (.bool (((((true && true) && true) && (k == k)) && true) && true)) = _
 rw [kk];rfl
attribute [irreducible] slEnd
end
theorem lawRunF_ok {m:Mem} {T:Nat} {fr:Nat × Nat} {V:CV} {C:CodeR} {M:Mac} {aa:Option Addr} {ca:Nat} {args:List Int} (hm:m 0 = some (.cells ⟨cells0⟩ T fr)) (hV:CodeAt m V C) (hfit:fitsCode C M = 0) (hpa:(args.length:Int) = C.pr) (hargs:IAt m (.slice aa args.length ca) args) :
  CallsM Tryz.prog 17 [V.val C,M.val,.slice aa args.length ca,i 400,.slice none 0 0] m fun e m'=>∃ A c,e = .returned (.tuple ⟨[.agg ⟨[.slice A (runS C M [] 400 (beginS C args)).prints.length c,i (runS C M [] 400 (beginS C args)).kind,i (runS C M [] 400 (beginS C args)).value]⟩,i ((runS C M [] 400 (beginS C args)).took:Int),i 0]⟩) ∧ Mem.le m m' ∧
   OutAt m' (.agg ⟨[.slice A (runS C M [] 400 (beginS C args)).prints.length c,i (runS C M [] 400 (beginS C args)).kind,i (runS C M [] 400 (beginS C args)).value]⟩) (runS C M [] 400 (beginS C args)).prints (runS C M [] 400 (beginS C args)).kind (runS C M [] 400 (beginS C args)).value:=by
 refine CallsM.mono (simRun_ok hm V M hV hargs (iat_no m) 400 (.inl (by decide))) fun e m' hR=>?_
 obtain ⟨hle,_,h2⟩:=hR
 obtain ⟨v,e1,A,c,e2,hI⟩:=h2 (can_strict hfit hpa (by decide) (by decide))
 subst e2
 exact ⟨A,c,e1,hle,A,c,rfl,hI⟩
theorem simSlow_law {m:Mem} {T:Nat} {fr:Nat × Nat} {V:CV} {C:CodeR} {M:Mac} {aa:Option Addr} {ca:Nat} {args:List Int} (hm:m 0 = some (.cells ⟨cells0⟩ T fr)) (hV:CodeAt m V C) (hargs:IAt m (.slice aa args.length ca) args) {fv:Value} {f:Nat → Int} (hf:U4 fv f)
  (hal:∀ m',Mem.le m m' → CallsM Tryz.prog 14 [] m' fun e m''=>e = .returned (.bool true) ∧ m'' = m') :
  CallsM Tryz.prog 6 [V.val C,M.val,.slice aa args.length ca,fv] m fun e m'=>e = .returned (.bool true) ∧ Mem.le m m':=by
 obtain ⟨rfl,hf⟩:=hf
 refine calls_of mixed Tryz.func6 okw_biremelaw27_SimSlow rfl ?_
 unfold Fn.asks
 rw [sl_body]
 conv=>whnf
 refine WLoop.mk Nat (fun j=>[(9,.var (lessK M f j).cells),(10,.val (i j))]) (fun j m'=>m = m' ∧ j ≤ 4) (fun j=>4 - j) 0 ⟨rfl,rfl,trivial⟩ ⟨rfl,Nat.zero_le _⟩ ?_
 rintro j m' ⟨rfl,hj⟩
 conv=>whnf
 refine Br.mk (fun hb=>?_) (fun hb=>?_)
 ·have hj4:j < 4:=by
   have:(j:Int) < 4:=of_decide_eq_true hb
   omega
  have hjs:j = 0 ∨ j = 1 ∨ j = 2 ∨ j = 3:=by omega
  conv=>whnf
  have hL:(cellsL (lessK M f j).val)[4 + ((j:Int)).toNat]? = some (i (M.lat j)):=by rcases hjs with rfl | rfl | rfl | rfl <;> rfl
  have hU:(cellsL (.agg ⟨[.int .u8 (f 0),.int .u8 (f 1),.int .u8 (f 2),.int .u8 (f 3)]⟩))[0 + ((j:Int)).toNat]? = some (.int .u8 (f j)):=by rcases hjs with rfl | rfl | rfl | rfl <;> rfl
  have hB:(0:Int) ≤ ((4:Nat):Int) + (((j:Int).toNat:Nat):Int) ∧ ((4:Nat):Int) + (((j:Int).toNat:Nat):Int) < (((lessK M f j).cells.length:Nat):Int):=by
   show _ ∧ _ < ((11:Nat):Int)
   omega
  have hJ:(0:Int) ≤ (j:Int) ∧ (j:Int) < ((4:Nat):Int):=by omega
  have h3:=Int.tmod_nonneg 4 (hf j).1
  have h4:=Int.tmod_lt_of_pos (f j) (show (0:Int) < 4 by decide)
  repeat' (conv=>whnf
           first
           | exact trivial
           | (refine WBnd.mk hB ?_)
           | (refine WBnd.mk hJ ?_)
           | (refine ⟨j + 1,⟨?_,rfl,trivial⟩,⟨rfl,hj4⟩,Nat.sub_lt_sub_left hj4 (Nat.lt_succ_self j)⟩;rcases hjs with rfl | rfl | rfl | rfl <;> rfl)
           | (refine WGet.mk _ hL ?_)
           | (refine WGet.mk _ hU ?_)
           | (refine WNe.mk (by decide) ?_)
           | (refine WRng.mk (by apply wrap_i64 <;> omega) ?_)
           | (refine And.intro ?_ ?_))
 ·have hj4:j = 4:=by
   have:¬ (j:Int) < 4:=of_decide_eq_false hb
   omega
  subst hj4
  conv=>whnf
  refine WCall.mk (lawStrict_ok hm V M hV (al:=args.length)) ?_
  rintro _ m1 ⟨b,rfl,l1,hb1⟩
  conv=>whnf
  have hok:(decide (((if (lessK M f 4).ok = true then (0:Int) else 2)) ≠ 0)) = !(lessK M f 4).ok:=by cases (lessK M f 4).ok <;> rfl
  refine WSc.mk (v:=!(lessK M f 4).ok) (fun _=>?_) ?_
  ·conv=>whnf
   refine WCall.pure (refCheck_ok m1 (lessK M f 4)) ?_
   conv=>whnf
   refine And.intro (Mem.le.refl _) ?_
   show some (Value.bool ((if (lessK M f 4).ok = true then (0:Int) else 2) != 0)) = some (Value.bool (!(lessK M f 4).ok))
   cases (lessK M f 4).ok <;> rfl
  conv=>whnf
  refine Br.mk (fun hh=>?_) (fun hh=>?_)
  ·conv=>whnf
   refine WCall.mk (hal _ l1) ?_
   rintro _ _ ⟨rfl,rfl⟩
   conv=>whnf
   exact WRet.same ⟨rfl,l1⟩
  have hh:(!b || !(lessK M f 4).ok) = false:=hh
  simp only [Bool.or_eq_false_iff,Bool.not_eq_false'] at hh
  have hs:StrictIs C M args.length:=hb1.1 hh.1
  have hM':=hh.2
  obtain ⟨hC,hM,hal2⟩:=hs.fit
  obtain ⟨A0,hA,hS⟩:=hs.2.2.2
  have S:=runs_slow hf hC hM hM' hA hS args 400
  have hfit':=fitsCode_same (lessK_but M f 4) hM' hs.2.1
  have hPl:(runS (cut27 C) M [] 400 (beginS (cut27 C) args)).prints.length ≤ 1000000000:=lim400 hC hal2 (by decide)
  have hrun:=fun (m':Mem) (hm':Mem.le m m') (V':CV) (hV':CodeAt m' V' (cut27 C))=>lawRunF_ok (hm' _ _ hm) hV' hs.2.1 hs.2.2.1 (hargs.mono hm')
  have hrun':=fun (m':Mem) (hm':Mem.le m m') (V':CV) (hV':CodeAt m' V' (cut27 C))=>lawRunF_ok (hm' _ _ hm) hV' hfit' hs.2.2.1 (hargs.mono hm')
  rw [← S.prints,← S.kind,← S.value,← S.took] at hrun'
  generalize hP:(runS (cut27 C) M [] 400 (beginS (cut27 C) args)).prints = P at hrun hrun' hPl
  generalize hkd:(runS (cut27 C) M [] 400 (beginS (cut27 C) args)).kind = kd at hrun hrun'
  generalize hnn:(runS (cut27 C) M [] 400 (beginS (cut27 C) args)).value = nn at hrun hrun'
  generalize hk:((runS (cut27 C) M [] 400 (beginS (cut27 C) args)).took:Int) = k at hrun hrun'
  have hst:=fun (m':Mem) (hm':Mem.le m m')=>CallsM.mono (lawStrict_ok2 (hm' _ _ hm) V (lessK M f 4) (hV.mono hm') (aa:=aa) (al:=args.length) (ca:=ca)) (R':=fun e m2=>e = .returned (.bool true) ∧ Mem.le m' m2) fun e m2 hR=>by
   obtain ⟨b',rfl,l,hi,hL⟩:=hR
   refine ⟨?_,l⟩
   rw [hi.2 (strict_slow hf hM' hs (hL hs.1 hs.2.2.1))]
  repeat' (conv=>whnf
           first
           | exact trivial
           | (refine WCallG.mk (lawOwn_ok V (hV.mono l1)) ?_;rintro _ m2 ⟨V2,rfl,l2,hV2⟩;refine ⟨l2,?_⟩)
           | (refine WCallG.mk (hrun m2 (l1.trans l2) V2 hV2) ?_;rintro _ m3 ⟨B,d,rfl,l3,hJ⟩;refine ⟨l3,?_⟩)
           | (refine WCallG.mk (lawOwn_ok V (hV.mono ((l1.trans l2).trans l3))) ?_;rintro _ m4 ⟨V4,rfl,l4,hV4⟩;refine ⟨l4,?_⟩)
           | (refine WCallG.mk (hrun' m4 (((l1.trans l2).trans l3).trans l4) V4 hV4) ?_;rintro _ m5 ⟨D,d5,rfl,l5,hJ5⟩;refine ⟨l5,?_⟩)
           | (exact rest_envL (slEnd_ok ((((l1.trans l2).trans l3).trans l4).trans l5) (hJ.mono (l4.trans l5)) hJ5 hPl (hst _ ((((l1.trans l2).trans l3).trans l4).trans l5)) hal) ⟨rfl,rfl,rfl,rfl,rfl,rfl,rfl,rfl,rfl,trivial⟩)
           | (refine And.intro ?_ ?_))
end Go.Proofs.YtleofbpepfmfgaaGreatDoor
set_option maxRecDepth 100000
namespace Go.Proofs.YtleofbpepfmfgaaGreatDoor
open Go Go.Vx
theorem simSlow_ok {m:Mem} {V:CV} {C:CodeR} {M:Mac} {v2 v3:Value} {args:List Int} {f:Nat → Int} (hV:CodeAt m V C) (h2:IAt m v2 args) (h3:U4 v3 f) {T:Nat} {fr:Nat × Nat} (hm:m 0 = some (.cells ⟨cells0⟩ T fr)) :
  CallsM Tryz.prog 6 [V.val C,M.val,v2,v3] m fun e m'=>e = .returned (.bool true) ∧ Mem.le m m':=by
 have g2:=h2
 obtain ⟨a2,c2,rfl,_⟩:=h2
 exact simSlow_law hm hV g2 h3 fun m' hle=>alive_ok (hle _ _ hm)
end Go.Proofs.YtleofbpepfmfgaaGreatDoor
set_option linter.unusedVariables false
set_option maxRecDepth 100000
namespace Go.Proofs.YtleofbpepfmfgaaGreatDoor
open Go.ChangeShapes Go.WideShapes Go.ChangeAt Go.RowKit
open Go Go.Vx
theorem simSlow_lifted (os:Os) (started:os.Started) (H:Type) (enc:TypeId × Value → H) :
  ReturnsInHanded {} Tryz.checked os 6 .any (fun w args=>(Rows.simSlowSpec.pre enc Tryz.prog Tryz.f6 [] false w args ∧ laidMetH Tryz.prog laid1 w) ∧ sizedMet enc Tryz.prog Tryz.f6 (OpenSpec.ofChange Rows.simSlowSpec) false w args)
   (Rows.simSlowSpec.post enc Tryz.prog Tryz.f6 false true false false):=by
 refine returnsInHanded_of_change_and (C:=Tryz.checked) (X:=fun w _=>laidMetH Tryz.prog laid1 w) (fun _ _ _ hh h=>h.of_heap hh) own started (by kernel_rfl) Tryz.func6
  (ChangeSpec.witness_shaped (enc:=enc) (C:=Tryz.checked) (os:=os) (X:=fun w _=>laidMetH Tryz.prog laid1 w) false (World.doorLaid Tryz.prog 400 os) #[.agg #[.slice none 0 0,.int .i64 0,.int .i64 0,.int .i64 0,.int .i64 0,.slice none 0 0],.agg #[.int .i64 0,.int .i64 0,.int .i64 0,.int .i64 0,.int .i64 0,.int .i64 0,.int .i64 0,.int .i64 0,.int .i64 0,.int .i64 0,.int .i64 0],.slice none 0 0,.agg #[.int .u8 0,.int .u8 0,.int .u8 0,.int .u8 0]] 8 rfl (World.shaped_of_RefB (by kernel_rfl) (by kernel_rfl)) (by kernel_rfl) (by kernel_rfl) (by kernel_rfl) (door_met os _)) ?_
 intro W base args ds gs before hval0 hW _ _ hL _
 have hval:∀ (j:Nat) t v,Tryz.f6.params[j]? = some t → args[j]? = some v → Value.okWide Tryz.prog W .any base t v:=hval0
 have hW':=hW
 obtain ⟨p,q,hA0,hV,rfl,hfz,hnd⟩:=hW
 have hA:DataW.TrodAll enc Tryz.prog W 0 (fun _=>true) true Tryz.f6.params.toList args.toList ds p:=hA0
 rw [Tryz.params6] at hA hval
 obtain ⟨v0,vs0,d0,ds0,p0,q0,hargs,rfl,rfl,h0,r0⟩:=trodAll_cons hA
 obtain ⟨v1,vs1,d1,ds1,p1,q1,rfl,rfl,rfl,h1,r1⟩:=trodAll_cons r0
 obtain ⟨v2,vs2,d2,ds2,p2,q2,rfl,rfl,rfl,h2,r2⟩:=trodAll_cons r1
 obtain ⟨v3,vs3,d3,ds3,p3,q3,rfl,rfl,rfl,h3,r3⟩:=trodAll_cons r2
 obtain ⟨rfl,rfl,rfl⟩:=trodAll_nil r3
 obtain rfl:args = #[v0,v1,v2,v3]:=by cases args;simp_all
 obtain ⟨rfl,rfl⟩:=trodVars_none hV
 have k0:=h0
 have lt0:∀ x ∈ p0,x.block < W.heap.size:=by obtain ⟨m,hm⟩:=k0;exact DataW.trod_lt m _ _ _ hm
 obtain ⟨V0,C0,rfl,hV0⟩:=open_code h0
 have k1:=h1
 have lt1:∀ x ∈ p1,x.block < W.heap.size:=by obtain ⟨m,hm⟩:=k1;exact DataW.trod_lt m _ _ _ hm
 obtain ⟨M1,rfl⟩:=open_mac (by kernel_rfl) (by kernel_rfl) ⟨_,Tryz.underlying28⟩ h1
 obtain ⟨a2,len2,cap2,e2⟩:=okWide_slice Tryz.underlying29 (hval 2 29 v2 rfl rfl)
 have k2:=h2
 have lt2:∀ x ∈ p2,x.block < W.heap.size:=by obtain ⟨m,hm⟩:=k2;exact DataW.trod_lt m _ _ _ hm
 obtain ⟨C2,hC2,hCl2⟩:∃ C,IAt (memOf W) v2 C ∧ C.length < 2 ^ 63:=by obtain ⟨fuel,hf⟩:=h2;exact iat_of (open_is64 hf) e2
 have k3:=h3
 have lt3:∀ x ∈ p3,x.block < W.heap.size:=by obtain ⟨m,hm⟩:=k3;exact DataW.trod_lt m _ _ _ hm
 obtain ⟨U3,hU3⟩:=open_u4 h3
 obtain ⟨T,fr,hT⟩:=of_laid hL
 clear hA0 hval0
 have hcall:Calls Tryz.prog 6 #[V0.val C0,M1.val,v2,v3] W fun e W'=>e = .returned (.bool true) ∧ Below W.heap.size W W':=by
  refine ((simSlow_ok hV0 hC2 hU3 (T:=T) (fr:=fr) hT).2 W (memOf_sub W)).mono fun e W' hR=>?_
  obtain ⟨m',h1,rfl,h2⟩:=hR
  exact ⟨rfl,step_below' (h1.forget h2)⟩
 refine hcall.mono fun e W' ⟨he,bel⟩=>?_
 subst he
 exact ⟨_,rfl,_,_,_,[],_,[],hW',trodAll_mk1 (shut_bool Tryz.underlying4 _),(trodAll_cons_mk (Below.trod laidOut (by kernel_rfl) (of_decide_eq_true (by kernel_rfl)) k0 bel lt0) (trodAll_cons_mk (Below.trod laidOut (by kernel_rfl) (of_decide_eq_true (by kernel_rfl)) k1 bel lt1) (trodAll_cons_mk (Below.trod laidOut (by kernel_rfl) (of_decide_eq_true (by kernel_rfl)) k2 bel lt2) (trodAll_cons_mk (Below.trod laidOut (by kernel_rfl) (of_decide_eq_true (by kernel_rfl)) k3 bel lt3) trodAll_mk0)))),rfl,bel.frame _,fun h=>by cases h⟩
theorem simSlow_place:(Rows.simSlowRow.inPlace == Tryz.prog.inPlace 6) = true:=by kernel_rfl
theorem simSlow_unf:(Rows.simSlowRow.unfollowed == Tryz.prog.unfollowed 6) = true:=by kernel_rfl
theorem simSlow_rec:(Rows.simSlowRow.recurses == Tryz.prog.recurses 6) = true:=by kernel_rfl
theorem simSlow_named:(Rows.simSlowRow.named == Tryz.prog.varsNamed 6) = true:=by kernel_rfl
theorem simSlow_facts:joinedFacts Tryz.prog 6 Tryz.f6 Rows.simSlowSpec Rows.simSlowRow = true:=by
 simp only [joinedFacts,laidOut,jk_maps,jk_heard,jk_enter,jk_lifts,jk_plain,simSlow_place,simSlow_unf,simSlow_rec,simSlow_named,Bool.and_true]
 kernel_rfl
theorem simSlow_holds:Rows.SimSlowSaid :=
 OpenClaim.holds_of_wide 6 Tryz.f6 rfl rfl rfl rfl rfl rfl rfl ⟨rfl,rfl,rfl,rfl,rfl⟩ rfl rfl rfl rfl rfl (by kernel_rfl) Tryz.func6 simSlow_facts
  (of_decide_eq_true (by kernel_rfl)) (by unfold Func.isWrapper;rw [if_neg (of_decide_eq_false (by kernel_rfl))];exact ⟨rfl,rfl⟩)
  (fun os started H enc _=>simSlow_lifted os started H enc)
end Go.Proofs.YtleofbpepfmfgaaGreatDoor
