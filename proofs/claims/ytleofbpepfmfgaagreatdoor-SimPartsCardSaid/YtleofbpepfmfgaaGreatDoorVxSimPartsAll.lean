import Derived.Test.YtleofbpepfmfgaaGreatDoorVxSimWhLaw
import Derived.Test.YtleofbpepfmfgaaGreatDoorVxOpenB
set_option linter.unusedSimpArgs false
set_option linter.unusedVariables false
set_option maxRecDepth 100000
namespace Go.Proofs.YtleofbpepfmfgaaGreatDoor
open Go Go.Vx
open Go.Vx.IOp Go.Vx.IR Go.Vx.Opd
def KindOK (s:St):Prop:=s.kind = 3 ↔ s.ended = false
section
variable {C:CodeR} {M:Mac} {sh:List Int} {s:St}
theorem KindOK.end (s:St) {k n:Int} (hk:k ≠ 3):KindOK (endS s k n):=⟨fun e=>absurd e hk,fun e=>by cases e⟩
theorem KindOK.mem (h:KindOK s) {o:OpR}:KindOK (memS M sh s o).1:=by
 unfold memS
 split
 ·exact h
 ·split
  ·exact h
  ·generalize nMem s o = n
   split
   ·exact h
   ·split
    ·exact h
    ·split <;> exact h
theorem KindOK.out (h:KindOK s) {o:OpR}:KindOK (outS s o).s:=by
 unfold outS
 split
 ·exact h
 ·split
  ·exact h
  ·split
   ·exact h
   ·split
    ·split <;> exact h
    ·split
     ·exact KindOK.end s (by decide)
     ·split <;> exact h
theorem KindOK.do (h:KindOK s) {o:OpR}:KindOK (doS M sh s o).s:=by
 unfold doS
 split
 ·exact h
 ·split
  ·exact h
  ·unfold bodyS
   split
   ·exact h.mem
   ·split
    ·exact h.out
    ·split <;> exact h
theorem KindOK.trap (h:KindOK s) {ct n:Int}:KindOK (trapS C s ct n):=by
 unfold trapS
 split
 ·exact KindOK.end s (by decide)
 ·exact h
theorem KindOK.ops {ct:Int}:∀ {L:List OpR} {s:St},KindOK s → KindOK (opsS C M sh ct L s)
 | [],s,h=>h
 | o :: L,s,h=>by
  unfold opsS
  split
  ·exact h.do.trap
  ·split
   ·exact h.do
   ·exact KindOK.ops h.do
theorem KindOK.run:∀ {n:Nat} {s:St},KindOK s → KindOK (runS C M sh n s)
 | 0,s,h=>h
 | n + 1,s,h=>by
  rw [runS_succ]
  split
  ·exact h
  ·have h1:KindOK (goS s):=h
   have h2:=KindOK.ops (C:=C) (M:=M) (sh:=sh) (ct:=(wordAt C s.word).ct) (L:=(wordAt C s.word).ops) h1
   exact KindOK.run (s:=cycS C M sh s) h2
theorem begin_kind (C:CodeR) (args:List Int):KindOK (beginS C args):=⟨fun _=>rfl,fun _=>rfl⟩
end
theorem lawWrong_ok {m:Mem} (V:CV) {C:CodeR} (M:Mac) (hV:CodeAt m V C) {aa sa:Option Addr} {al ca sl cs:Nat} (n:Int) :
  CallsM Tryz.prog 18 [V.val C,M.val,.slice aa al ca,i n,.slice sa sl cs] m fun e m'=>e = .returned (i (canS C M al n sl)) ∧ Mem.le m m':=by
 refine calls_of mixed Tryz.func18 ok_biremelaw27_wrong rfl ?_
 conv=>whnf
 refine WCall.mk (refFits_ok V hV M) ?_
 rintro _ m1 ⟨rfl,l1⟩
 conv=>whnf
 refine Br.mk (fun h0=>?_) (fun h0=>?_)
 ·have h0:fitsCode C M ≠ 0:=by simpa using h0
  conv=>whnf
  exact WRet.same ⟨by unfold canS;rw [if_pos h0];rfl,l1⟩
 ·have h0:¬ fitsCode C M ≠ 0:=by simpa using h0
  conv=>whnf
  refine WSc.mk (v:=decide (n < 0)) (fun _=>And.intro (Mem.le.refl _) rfl) ?_
  conv=>whnf
  refine WSc.mk (v:=decide (n > 4194304)) (fun _=>And.intro (Mem.le.refl _) rfl) ?_
  conv=>whnf
  refine Br.mk (fun h1=>?_) (fun h1=>?_)
  ·have h1:((al:Int) != C.pr || decide (n < 0) || decide (n > 4194304)) = true:=h1
   conv=>whnf
   exact WRet.same ⟨by unfold canS;rw [if_neg h0,if_pos h1];rfl,l1⟩
  ·have h1:¬ ((al:Int) != C.pr || decide (n < 0) || decide (n > 4194304)) = true:=by
    have h1:((al:Int) != C.pr || decide (n < 0) || decide (n > 4194304)) = false:=h1
    rw [h1];decide
   conv=>whnf
   refine Br.mk (fun h2=>?_) (fun h2=>?_)
   ·have h2:(sl:Int) > 1000:=of_decide_eq_true h2
    conv=>whnf
    exact WRet.same ⟨by unfold canS;rw [if_neg h0,if_neg h1,if_pos h2];rfl,l1⟩
   ·have h2:¬ (sl:Int) > 1000:=of_decide_eq_false h2
    conv=>whnf
    exact WRet.same ⟨by unfold canS;rw [if_neg h0,if_neg h1,if_neg h2];rfl,l1⟩
theorem can_fits {C:CodeR} {M:Mac} {al sl:Nat} {n:Int} (h:canS C M al n sl = 0):fitsCode C M = 0:=by
 unfold canS at h
 split at h
 ·rename_i h1;exact absurd h h1
 ·rename_i h1;exact Decidable.not_not.1 h1
theorem start_of {C:CodeR} {M:Mac} {al sl:Nat} (h:fitsCode C M = 0) (ha:(al:Int) = C.pr) (hs:sl ≤ 1000):startS C M al sl = 0:=by
 unfold startS;rw [if_neg (by simp [h]),if_neg (by simp [ha]),if_neg (by omega)]
def ptEnd:IR:=(match ir_biremelaw27_SimParts.body with | .seq _ (.seq _ (.seq _ (.seq _ (.seq _ (.seq _ (.seq _ (.seq _ (.seq _ r))))))))=>r | r=>r)
def ptHead:List IR:=(match ir_biremelaw27_SimParts.body with | .seq u0 (.seq u1 (.seq u2 (.seq u3 (.seq u4 (.seq u5 (.seq u6 (.seq u7 (.seq u8 _))))))))=>[u0,u1,u2,u3,u4,u5,u6,u7,u8] | _=>[])
theorem pt_body:ir_biremelaw27_SimParts.body = .seq (ptHead.getD 0 .skip) (.seq (ptHead.getD 1 .skip) (.seq (ptHead.getD 2 .skip) (.seq (ptHead.getD 3 .skip) (.seq (ptHead.getD 4 .skip) (.seq (ptHead.getD 5 .skip) (.seq (ptHead.getD 6 .skip) (.seq (ptHead.getD 7 .skip) (.seq (ptHead.getD 8 .skip) ptEnd)))))))):=rfl
section
variable {m0 mb m:Mem} {P:List Int} {kd nn:Int} {A B:Option Addr} {c d:Nat} {V:CV} {C:CodeR} {M:Mac} {sv:Value} {p:Nat} {H:HdF} {s:St} {sh:List Int}
theorem ptEnd_ok (hle:Mem.le m0 m) (hS:SimAt mb m V C M sv p H s) (hB:SimBase mb V C M sv sh) (hK:KindOK s) (hP:s.prints = P) (hkd:s.kind = kd) (h1:OutAt m (.agg ⟨[.slice A P.length c,i kd,i nn]⟩) P kd nn) (h2:OutAt m (.agg ⟨[.slice B P.length d,i kd,i nn]⟩) P kd nn) (hl:P.length ≤ 1000000000)
  (hal:CallsM Tryz.prog 14 [] m fun e m''=>e = .returned (.bool true) ∧ m'' = m) :
  wpI Tryz.prog ptEnd (retPost [.t 10] fun e m'=>e = .returned (.bool true) ∧ Mem.le m0 m')
   (envL [(13,.val (ptr p)),(16,.var [.slice A P.length c,i kd,i nn]),(17,.val (.bool s.ended)),(18,.val (i 0)),(20,.var [.slice B P.length d,i kd,i nn]),(21,.val (i (s.took:Int))),(22,.val (i 0))]) m:=by
 have kk:((s.took:Int) == (s.took:Int)) = true:=by simp
 have ek:(s.ended == (kd != 3)) = true:=by
  unfold KindOK at hK
  rw [hkd] at hK
  cases he:s.ended with
  | true =>
   have:kd ≠ 3:=fun e=>by rw [hK.1 e] at he;cases he
   simp [this]
  | false =>
   have:kd = 3:=hK.2 he
   simp [this]
 conv=>whnf
 refine WSc.mk (v:=true) (fun _=>And.intro (Mem.le.refl _) rfl) ?_
 conv=>whnf
 refine WSc.mk (v:=(s.took:Int) == (s.took:Int)) (fun _=>?_) ?_
 ·conv=>whnf
  refine WCall.pure (sCycles_ok hS hB) ?_
  conv=>whnf
  exact And.intro (Mem.le.refl _) rfl
 conv=>whnf
 refine WSc.mk (v:=s.ended == (kd != 3)) (fun _=>And.intro (Mem.le.refl _) rfl) ?_
 conv=>whnf
 refine WSc.mk (v:=true) (fun _=>?_) ?_
 ·conv=>whnf
  refine WCall.mk (same_ok h2 h1 hl) ?_
  rintro _ _ ⟨rfl,rfl⟩
  conv=>whnf
  exact And.intro (Mem.le.refl _) rfl
 conv=>whnf
 refine WSc.mk (v:=true) (fun _=>?_) ?_
 ·conv=>whnf
  refine WCall.mk hal ?_
  rintro _ _ ⟨rfl,rfl⟩
  conv=>whnf
  exact And.intro (Mem.le.refl _) rfl
 conv=>whnf
 refine WRet.same ⟨?_,hle⟩
 show Ending.returned (.bool (((((true && true) && ((s.took:Int) == (s.took:Int))) && (s.ended == (kd != 3))) && true) && true)) = _
 rw [kk,ek];rfl
attribute [irreducible] ptEnd
end
theorem BAt.cell {m:Mem} {ad:Addr} {L:List Int} (h:CellsAt m ad (L.map (Value.int .u8))) {k:Nat} (hk:k < L.length):CellAt m (ad.add k) (.int .u8 L[k]):=h k _ (by simp [hk])
theorem mod16 {x:Int} (h:0 ≤ x ∧ x ≤ 255):0 ≤ x.tmod 16 ∧ x.tmod 16 ≤ 15:=by
 have h1:=Int.tmod_nonneg 16 h.1
 have h2:=Int.tmod_lt_of_pos x (show (0:Int) < 16 by decide)
 omega
section
variable {m:Mem} {T:Nat} {fr:Nat × Nat} {V:CV} {C:CodeR} {M:Mac} {aa:Option Addr} {ca:Nat} {args:List Int}
theorem lawRunN_ok (hm:m 0 = some (.cells ⟨cells0⟩ T fr)) (hV:CodeAt m V C) (hfit:fitsCode C M = 0) (hpa:(args.length:Int) = C.pr) (hargs:IAt m (.slice aa args.length ca) args) {sa:Option Addr} {cs:Nat} {sh:List Int} (hsh:IAt m (.slice sa sh.length cs) sh) (hl:sh.length ≤ 1000) {q:Nat} (hq:q ≤ 1000) :
  CallsM Tryz.prog 17 [V.val C,M.val,.slice aa args.length ca,i (q:Int),.slice sa sh.length cs] m fun e m'=>∃ A c,e = .returned (.tuple ⟨[.agg ⟨[.slice A (runS C M sh q (beginS C args)).prints.length c,i (runS C M sh q (beginS C args)).kind,i (runS C M sh q (beginS C args)).value]⟩,i ((runS C M sh q (beginS C args)).took:Int),i 0]⟩) ∧ Mem.le m m' ∧
   OutAt m' (.agg ⟨[.slice A (runS C M sh q (beginS C args)).prints.length c,i (runS C M sh q (beginS C args)).kind,i (runS C M sh q (beginS C args)).value]⟩) (runS C M sh q (beginS C args)).prints (runS C M sh q (beginS C args)).kind (runS C M sh q (beginS C args)).value:=by
 refine CallsM.mono (simRun_ok hm V M hV hargs hsh (q:Int) (.inl (by omega))) fun e m' hR=>?_
 obtain ⟨hle,_,h2⟩:=hR
 obtain ⟨v,e1,A,c,e2,hI⟩:=h2 (can_strict hfit hpa ⟨by omega,by omega⟩ hl)
 subst e2
 rw [Int.toNat_natCast] at e1 hI
 exact ⟨A,c,e1,hle,A,c,rfl,hI⟩
theorem simParts_law (hm:m 0 = some (.cells ⟨cells0⟩ T fr)) (hV:CodeAt m V C) (hargs:IAt m (.slice aa args.length ca) args) {sh:List Int} {sa:Option Addr} {sc:Nat} (hsh:IAt m (.slice sa sh.length sc) sh) {parts:List Int} {pa:Option Addr} {pc:Nat} (hparts:BAt m (.slice pa parts.length pc) parts)
  (hal:∀ m',Mem.le m m' → CallsM Tryz.prog 14 [] m' fun e m''=>e = .returned (.bool true) ∧ m'' = m') :
  CallsM Tryz.prog 9 [V.val C,M.val,.slice aa args.length ca,.slice sa sh.length sc,.slice pa parts.length pc] m fun e m'=>e = .returned (.bool true) ∧ Mem.le m m':=by
 refine calls_of mixed Tryz.func9 ok_biremelaw27_SimParts rfl ?_
 obtain ⟨pa',pc',epe,b0,b1,_,b3⟩:=hparts
 injection epe with ep1 _ ep3
 subst ep1;subst ep3
 unfold Fn.asks
 rw [pt_body]
 conv=>whnf
 refine WCall.mk (lawCut_ok V hV) ?_
 rintro _ m1 ⟨V1,rfl,l1,hV1⟩
 conv=>whnf
 refine WSc.mk (v:=decide (canS (cut27 C) M args.length 0 sh.length ≠ 0)) (fun _=>?_) ?_
 ·conv=>whnf
  refine WCall.mk (lawWrong_ok V1 M hV1 0) ?_
  rintro _ m2 ⟨rfl,l2⟩
  conv=>whnf
  refine And.intro l2 ?_
  show some (Value.bool (canS (cut27 C) M args.length 0 sh.length != 0)) = some (Value.bool (decide (canS (cut27 C) M args.length 0 sh.length ≠ 0)))
  by_cases h:canS (cut27 C) M args.length 0 sh.length = 0 <;> simp [h]
 conv=>whnf
 refine Br.mk (fun hh=>?_) (fun hh=>?_)
 ·conv=>whnf
  refine WCall.mk (hal _ l1) ?_
  rintro _ _ ⟨rfl,rfl⟩
  conv=>whnf
  exact WRet.same ⟨rfl,l1⟩
 have hh:(!okC C || decide (canS (cut27 C) M args.length 0 sh.length ≠ 0)) = false:=hh
 simp only [Bool.or_eq_false_iff,Bool.not_eq_false',decide_eq_false_iff_not,ne_eq,Decidable.not_not] at hh
 have hcan:=hh.2
 obtain ⟨hC,hM,hpa,_,_,hsl⟩:=can_zero hcan
 have hfit:=can_fits hcan
 have hpr:=hC.pr
 have hal2:args.length ≤ (cut27 C).rg.toNat:=by omega
 conv=>whnf
 refine ⟨?_,trivial⟩
 conv=>whnf
 refine WCall.mk (lawOwn_ok V (hV.mono l1)) ?_
 rintro _ m2 ⟨V2,rfl,l2,hV2⟩
 conv=>whnf
 refine ⟨?_,trivial⟩
 conv=>whnf
 refine WCall.mk (few_all (hsh.mono (l1.trans l2)) hsl) ?_
 rintro _ m3 ⟨A3,c3,rfl,l3,hI3⟩
 have L3:=(l1.trans l2).trans l3
 conv=>whnf
 refine ⟨?_,trivial⟩
 conv=>whnf
 refine WCall.mk (simStart_ok (L3 _ _ hm) V2 M (hV2.mono l3) (hargs.mono L3) hI3) ?_
 rintro _ m4 ⟨l4,_,hs⟩
 obtain ⟨p,mb,V4,sv,H,rfl,lb,hB,hS⟩:=hs (start_of hfit hpa hsl)
 have Lb:=L3.trans lb
 conv=>whnf
 refine WSc.mk (v:=false) (fun _=>And.intro (Mem.le.refl _) rfl) ?_
 conv=>whnf
 refine Br.mk (fun h=>by cases h) (fun _=>?_)
 have hG:=begin_good hC (args:=args) hal2
 have hrun:=fun (m':Mem) (H':HdF) (q n:Nat) (hq:q + n ≤ 1000) (hS':SimAt mb m' V4 (cut27 C) M sv p H' (runS (cut27 C) M sh q (beginS (cut27 C) args))) (ht:(runS (cut27 C) M sh q (beginS (cut27 C) args)).took ≤ 4194304) =>
  sRun_ok hS' hB (Good.run (M:=M) (sh:=sh) hC (n:=q) hG) n (by omega) (by omega) ht
 have htk:∀ q,q ≤ 1000 → (runS (cut27 C) M sh q (beginS (cut27 C) args)).took ≤ 4194304:=fun q hq=>by
  have:=(Good.run (M:=M) (sh:=sh) hC (n:=q) hG).lim.took
  omega
 conv=>whnf
 refine WCall.mk (hrun m4 H 0 0 (by decide) hS (htk 0 (by decide))) ?_
 rintro _ m5 ⟨H5,_,G5,rfl,A5,c5,rfl,hI5⟩
 conv=>whnf
 refine WLoop.mk (Nat × Nat × HdF × Option Addr × Nat) (fun x=>[(15,.val (i x.2.1)),(16,.var [.slice x.2.2.2.1 (runS (cut27 C) M sh x.2.1 (beginS (cut27 C) args)).prints.length x.2.2.2.2,i (runS (cut27 C) M sh x.2.1 (beginS (cut27 C) args)).kind,i (runS (cut27 C) M sh x.2.1 (beginS (cut27 C) args)).value]),
   (17,.val (.bool (runS (cut27 C) M sh x.2.1 (beginS (cut27 C) args)).ended)),(18,.val (i 0)),(19,.val (i x.1))])
  (fun x m'=>x.1 ≤ 20 ∧ x.1 ≤ parts.length ∧ x.2.1 ≤ 15 * x.1 ∧ SimAt mb m' V4 (cut27 C) M sv p x.2.2.1 (runS (cut27 C) M sh x.2.1 (beginS (cut27 C) args)) ∧
   OutAt m' (.agg ⟨[.slice x.2.2.2.1 (runS (cut27 C) M sh x.2.1 (beginS (cut27 C) args)).prints.length x.2.2.2.2,i (runS (cut27 C) M sh x.2.1 (beginS (cut27 C) args)).kind,i (runS (cut27 C) M sh x.2.1 (beginS (cut27 C) args)).value]⟩) (runS (cut27 C) M sh x.2.1 (beginS (cut27 C) args)).prints (runS (cut27 C) M sh x.2.1 (beginS (cut27 C) args)).kind (runS (cut27 C) M sh x.2.1 (beginS (cut27 C) args)).value)
  (fun x=>parts.length - x.1) (0,0,H5,A5,c5) ⟨rfl,rfl,rfl,rfl,rfl,trivial⟩ ⟨Nat.zero_le _,Nat.zero_le _,Nat.zero_le _,G5.at',A5,c5,rfl,hI5⟩ ?_
 rintro ⟨j,q,Hj,Aj,cj⟩ m6 ⟨hj1,hj2,hq,hSj,hOj⟩
 simp only at hj1 hj2 hq hSj hOj
 have L6:Mem.le m m6:=Lb.trans hSj.le
 have hadd:=fun n=>runS_add (cut27 C) M sh q n (beginS (cut27 C) args)
 have hK:KindOK (runS (cut27 C) M sh q (beginS (cut27 C) args)):=KindOK.run (begin_kind _ _)
 have hprl:(runS (cut27 C) M sh q (beginS (cut27 C) args)).prints.length ≤ 1000000000:=lim400 hC hal2 (by omega)
 have hrunq:=fun (m':Mem) (hm':Mem.le m m') (V':CV) (hV':CodeAt m' V' (cut27 C)) (sa:Option Addr) (cs:Nat) (hsh:IAt m' (.slice sa sh.length cs) sh)=>lawRunN_ok (q:=q) (hm' _ _ hm) hV' hfit hpa (hargs.mono hm') hsh hsl (by omega)
 conv=>whnf
 refine WSc.mk (v:=decide ((j:Int) < 20)) (fun _=>And.intro (Mem.le.refl _) rfl) ?_
 conv=>whnf
 refine Br.mk (fun hb=>?_) (fun hb=>?_)
 ·have hb:(decide ((j:Int) < (parts.length:Nat)) && decide ((j:Int) < 20)) = true:=hb
  rw [Bool.and_eq_true,decide_eq_true_eq,decide_eq_true_eq] at hb
  have hj3:j < parts.length:=by omega
  obtain ⟨ad,rfl⟩:∃ ad,pa = some ad:=by
   cases pa with
   | none=>rw [b0 rfl] at hj3;simp at hj3
   | some ad=>exact ⟨ad,rfl⟩
  have hcell:CellAt m6 (ad.add j) (.int .u8 parts[j]):=(BAt.cell (b1 ad rfl) hj3).mono L6
  have h16:=mod16 (b3 _ (List.getElem_mem hj3))
  obtain ⟨n,hn⟩:∃ n:Nat,parts[j].tmod 16 = n:=⟨(parts[j].tmod 16).toNat,by omega⟩
  have hn15:n ≤ 15:=by omega
  conv=>whnf
  refine WIdx.mk ad rfl ⟨by omega,by omega⟩ ?_
  conv=>whnf
  refine WLd.mk (.int .u8 parts[j]) (by simpa using hcell) ?_
  conv=>whnf
  refine WNe.mk (by decide) ?_
  conv=>whnf
  refine WRng.mk (by apply wrap_i64 <;> omega) ?_
  conv=>whnf
  refine WRng.mk (by show IntKind.i64.wrap ((q:Int) + parts[j].tmod 16) = (q:Int) + parts[j].tmod 16;apply wrap_i64 <;> omega) ?_
  conv=>whnf
  refine WIdx.mk ad rfl ⟨by omega,by omega⟩ ?_
  conv=>whnf
  refine WLd.mk (.int .u8 parts[j]) (by simpa using hcell) ?_
  conv=>whnf
  refine WNe.mk (by decide) ?_
  conv=>whnf
  refine WRng.mk (by apply wrap_i64 <;> omega) ?_
  conv=>whnf
  rw [hn]
  refine WCall.mk (hrun m6 Hj q n (by omega) hSj (htk q (by omega))) ?_
  rw [← hadd n]
  rintro _ m7 ⟨H7,_,G7,rfl,A7,c7,rfl,hI7⟩
  conv=>whnf
  refine Br.mk (fun h=>by cases h) (fun _=>?_)
  conv=>whnf
  refine WRng.mk (by apply wrap_i64 <;> omega) ?_
  conv=>whnf
  refine ⟨(j + 1,q + n,H7,A7,c7),⟨?_,rfl,rfl,rfl,rfl,trivial⟩,⟨by show j + 1 ≤ 20;omega,hj3,by show q + n ≤ 15 * (j + 1);omega,G7.at',A7,c7,rfl,hI7⟩,Nat.sub_lt_sub_left hj3 (Nat.lt_succ_self j)⟩
  rfl
 ·generalize hP:(runS (cut27 C) M sh q (beginS (cut27 C) args)).prints = P at hrunq hOj hprl
  generalize hkd:(runS (cut27 C) M sh q (beginS (cut27 C) args)).kind = kd at hrunq hOj
  generalize hnn:(runS (cut27 C) M sh q (beginS (cut27 C) args)).value = nn at hrunq hOj
  repeat' (conv=>whnf
           first
           | exact trivial
           | (refine WCallG.mk (lawOwn_ok V (hV.mono L6)) ?_;rintro _ m7 ⟨V7,rfl,l7,hV7⟩;refine ⟨l7,?_⟩)
           | (refine WCallG.mk (few_all (hsh.mono (L6.trans l7)) hsl) ?_;rintro _ m8 ⟨A8,c8,rfl,l8,hI8⟩;refine ⟨l8,?_⟩)
           | (refine WCallG.mk (hrunq m8 ((L6.trans l7).trans l8) V7 (hV7.mono l8) A8 c8 hI8) ?_;rintro _ m9 ⟨B,d,rfl,l9,hJ⟩;refine ⟨l9,?_⟩)
           | (refine rest_envL (ptEnd_ok (((L6.trans l7).trans l8).trans l9) (hSj.mono ((l7.trans l8).trans l9)) hB hK hP hkd (hOj.mono ((l7.trans l8).trans l9)) hJ hprl (hal _ (((L6.trans l7).trans l8).trans l9))) ⟨rfl,?_,rfl,rfl,rfl,rfl,rfl,trivial⟩;subst hP hkd hnn;rfl)
           | (refine And.intro ?_ ?_))
end
end Go.Proofs.YtleofbpepfmfgaaGreatDoor
set_option maxRecDepth 100000
namespace Go.Proofs.YtleofbpepfmfgaaGreatDoor
open Go Go.Vx
theorem simParts_ok {m:Mem} {V:CV} {C:CodeR} {M:Mac} {v2 v3 v4:Value} {args sh parts:List Int} (hV:CodeAt m V C) (h2:IAt m v2 args) (h3:IAt m v3 sh) (h4:BAt m v4 parts) {T:Nat} {fr:Nat × Nat} (hm:m 0 = some (.cells ⟨cells0⟩ T fr)) :
  CallsM Tryz.prog 9 [V.val C,M.val,v2,v3,v4] m fun e m'=>e = .returned (.bool true) ∧ Mem.le m m':=by
 have g2:=h2
 have g3:=h3
 have g4:=h4
 obtain ⟨a2,c2,rfl,_⟩:=h2
 obtain ⟨a3,c3,rfl,_⟩:=h3
 obtain ⟨a4,c4,rfl,_⟩:=h4
 exact simParts_law hm hV g2 g3 g4 fun m' hle=>alive_ok (hle _ _ hm)
end Go.Proofs.YtleofbpepfmfgaaGreatDoor
