import Derived.Test.YtleofbpepfmfgaaGreatDoorVxSimRc
set_option linter.unusedSimpArgs false
set_option linter.unusedVariables false
set_option maxRecDepth 100000
namespace Go.Proofs.YtleofbpepfmfgaaGreatDoor
open Go Go.Vx
open Go.Vx.IOp Go.Vx.IR Go.Vx.Opd
def irw_biremeref27_Waits:Vx.Fn:={ nt:=118,res:=[.t 4],body:=seq (ops (.run [x 2 (vb (t 0)),x 3 (vb (t 1)),x 4 (mv (c (ns)))] <| .nil)) (seq (ops (.run [x 12 (fa (t 2) 5),x 13 (vld 2 12),x 14 (len (t 13)),x 15 (mk 22 24 [ns] (t 14) (t 14)),x 5 (mv (t 15))] <| .nil)) (seq (ops (.run [x 16 (mv (t 5)),x 17 (fa (t 2) 2),x 18 (vld 2 17),x 19 (mk 3 8 [i 0] (t 18) (t 18)),x 20 (ia (t 16) (c (i 0)) 1),n (st (t 20) (t 19) 1)] <| .nil)) (seq (ops (.run [x 21 (bs 3 1 [i 0] [(0,1,c (i 0))]),x 6 (mv (t 21))] <| .nil)) (seq (block 0 (loop [(6,11),(22,116)] (seq (seq (ops (.run [x 22 (mv (t 6)),x 23 (len (t 22)),x 24 (bin .gtr (t 23) (c (i 0)))] <| .nil)) (cond (t 24) (skip) (exit 0))) (block 1 (seq (ops (.run [x 25 (mv (t 6)),x 26 (ia (t 25) (c (i 0)) 1),x 27 (ld (t 26)),x 7 (mv (t 27))] <| .nil)) (seq (ops (.run [x 28 (mv (t 6)),x 29 (sl (t 28) (some (c (i 1))) none 1),x 6 (mv (t 29))] <| .nil)) (seq (tree [x 30 (vlds 2 2 6),x 31 (vlds 3 3 11),x 32 (mv (t 7)),x 33 (mv (t 5)),x 34 (mv (t 7)),x 35 (ia (t 33) (t 34) 1),x 36 (ld (t 35)),x 37 (call 56 [t 30,t 31,t 32,t 36]),x 8 (mv (t 37))] (.pure 0 (.pure 1 (.pure 2 (.pure 3 (.pure 4 (.pure 5 (.pure 6 (.alt 7 (.pure 8 (RT.nil)) (.done)))))))))) (seq (ops (.run [x 9 (mv (c (i 0)))] <| .nil)) (block 2 (loop [(6,6),(9,11),(38,116)] (seq (seq (ops (.run [x 38 (mv (t 9)),x 39 (mv (t 8)),x 40 (len (t 39)),x 41 (bin .lss (t 38) (t 40))] <| .nil)) (cond (t 41) (skip) (exit 2))) (seq (block 3 (seqj [(10,10),(44,52)] (ops (.run [x 44 (mv (t 5)),x 45 (mv (t 8)),x 46 (mv (t 9)),x 47 (ia (t 45) (t 46) 2),x 48 (fa (t 47) 0),x 49 (ld (t 48)),x 50 (ia (t 44) (t 49) 1),x 51 (ld (t 50)),x 52 (eq .s false (t 51) (c (ns))),x 10 (mv (t 52))] <| .nil)) (seqj [(53,63)] (seq (ops (.run [x 53 (mv (t 10))] <| .nil)) (cond (t 53) (tree [x 54 (mv (t 5)),x 55 (mv (t 8)),x 56 (mv (t 9)),x 57 (ia (t 55) (t 56) 2),x 58 (fa (t 57) 0),x 59 (ld (t 58)),x 60 (fa (t 2) 2),x 61 (vld 2 60),x 62 (mk 3 8 [i 0] (t 61) (t 61)),x 63 (ia (t 54) (t 59) 1),n (st (t 63) (t 62) 1)] (.pure 0 (.pure 1 (.pure 2 (.pure 3 (.pure 4 (.pure 5 (.pure 6 (.pure 7 (.alt 8 (.pure 9 (.alt 10 (RT.nil) (.done))) (.done))))))))))) (skip))) (seq (seq (ops (.run [x 11 (mv (c (i 0)))] <| .nil)) (block 4 (loop [(10,11),(64,107)] (seq (seq (ops (.run [x 64 (mv (t 11)),x 65 (fa (t 2) 2),x 66 (vld 2 65),x 67 (bin .lss (t 64) (t 66))] <| .nil)) (cond (t 67) (skip) (exit 4))) (seq (block 5 (seq (tree [x 70 (mv (t 8)),x 71 (mv (t 9)),x 72 (ia (t 70) (t 71) 2),x 73 (fa (t 72) 1),x 74 (ld (t 73)),x 75 (mv (t 11)),x 76 (ia (t 74) (t 75) 1),x 77 (ld (t 76)),x 78 (mv (t 5)),x 79 (mv (t 8)),x 80 (mv (t 9)),x 81 (ia (t 79) (t 80) 2),x 82 (fa (t 81) 0),x 83 (ld (t 82)),x 84 (ia (t 78) (t 83) 1),x 85 (ld (t 84)),x 86 (mv (t 11)),x 87 (ia (t 85) (t 86) 1),x 88 (ld (t 87)),x 89 (bin .gtr (t 77) (t 88))] (.pure 0 (.pure 1 (.pure 2 (.pure 3 (.pure 4 (.pure 5 (.pure 6 (.pure 7 (.pure 8 (.pure 9 (.pure 10 (.pure 11 (.pure 12 (.pure 13 (.pure 14 (.pure 15 (.pure 16 (.pure 17 (.pure 18 (.pure 19 (RT.nil)))))))))))))))))))))) (cond (t 89) (tree [x 90 (mv (t 5)),x 91 (mv (t 8)),x 92 (mv (t 9)),x 93 (ia (t 91) (t 92) 2),x 94 (fa (t 93) 0),x 95 (ld (t 94)),x 96 (ia (t 90) (t 95) 1),x 97 (ld (t 96)),x 98 (mv (t 11)),x 99 (mv (t 8)),x 100 (mv (t 9)),x 101 (ia (t 99) (t 100) 2),x 102 (fa (t 101) 1),x 103 (ld (t 102)),x 104 (mv (t 11)),x 105 (ia (t 103) (t 104) 1),x 106 (ld (t 105)),x 107 (ia (t 97) (t 98) 1),n (st (t 107) (t 106) 1),x 10 (mv (c (.bool true)))] (.pure 0 (.pure 1 (.pure 2 (.pure 3 (.pure 4 (.pure 5 (.pure 6 (.pure 7 (.pure 8 (.pure 9 (.pure 10 (.pure 11 (.pure 12 (.pure 13 (.pure 14 (.pure 15 (.pure 16 (.pure 17 (.alt 18 (.pure 19 (RT.nil)) (.done))))))))))))))))))))) (skip)))) (ops (.run [x 68 (mv (t 11)),x 69 (binN .add (t 68) (c (i 1))),x 11 (mv (t 69))] <| .nil))))))) (seq (ops (.run [x 108 (mv (t 10))] <| .nil)) (cond (t 108) (ops (.run [x 109 (mv (t 6)),x 110 (mv (t 8)),x 111 (mv (t 9)),x 112 (ia (t 110) (t 111) 2),x 113 (fa (t 112) 0),x 114 (ld (t 113)),x 115 (bs 3 1 [i 0] [(0,1,t 114)]),x 116 (ap 3 1 8 [i 0] (t 109) (t 115)),x 6 (mv (t 116))] <| .nil)) (skip))))))) (ops (.run [x 42 (mv (t 9)),x 43 (binN .add (t 42) (c (i 1))),x 9 (mv (t 43))] <| .nil)))))))))))))) (seq (ops (.run [x 117 (mv (t 5)),x 4 (mv (t 117))] <| .nil)) (ret)))))) }
theorem okw_biremeref27_Waits:okFn Tryz.prog Tryz.f26 irw_biremeref27_Waits = true:=by kernel_rfl
theorem wayC_get:∀ {P:List (Nat × List Nat)} {R:List (Nat × Nat)} {q:Nat} {p:Nat × List Nat} {r:Nat × Nat},P[q]? = some p → R[q]? = some r →
  (wayC P R)[q * 2]? = some (i (p.1:Int)) ∧ (wayC P R)[q * 2 + 1]? = some (.slice (some ⟨r.1,0,none⟩) p.2.length r.2)
 | [],_,q,p,r,h,_=>by cases h
 | _ :: _,[],q,p,r,_,h=>by cases h
 | p0 :: P,r0 :: R,q,p,r,h,h2=>by
  have e:wayC (p0 :: P) (r0 :: R) = i (p0.1:Int) :: .slice (some ⟨r0.1,0,none⟩) p0.2.length r0.2 :: wayC P R:=by simp [wayC]
  rw [e]
  cases q with
  | zero=>cases h;cases h2;exact ⟨rfl,rfl⟩
  | succ q =>
   obtain ⟨g1,g2⟩:=wayC_get (P:=P) (R:=R) (q:=q) h h2
   rw [show (q + 1) * 2 = q * 2 + 1 + 1 by omega]
   exact ⟨g1,g2⟩
theorem meet_is {A:WS} {W:List Nat} {p:Nat × List Nat} {x:Option (List Nat)} {w1:List Nat} (hx:A[p.1]? = some x) (hw:w1 = x.getD (List.replicate p.2.length 0)) :
  meetW (A,W) p = ((A.set p.1 (some (maxW w1 p.2))),if (x.isNone || decide (maxW w1 p.2 ≠ w1)) = true then W ++ [p.1] else W):=by
 unfold meetW
 cases x with
 | none =>
  simp only [hx]
  have hw:w1 = List.replicate p.2.length 0:=hw
  rw [hw,max_zero]
  simp
 | some w =>
  have hw:w1 = w:=hw
  subst hw
  simp only [hx]
  by_cases e:maxW w1 p.2 = w1
  ·rw [if_pos e,e]
   have:A.set p.1 (some w1) = A:=by
    apply List.ext_getElem? ;intro j
    rw [List.getElem?_set]
    split
    ·rename_i e2;subst e2;rw [if_pos (List.getElem?_eq_some_iff.1 hx).1,hx]
    ·rfl
   rw [this];simp
  ·rw [if_neg e];simp [e]
theorem set_self {A:WS} {k:Nat} {x:Option (List Nat)} (h:A[k]? = some x):A.set k x = A:=by
 apply List.ext_getElem?;intro j
 rw [List.getElem?_set]
 split
 ·rename_i e;subst e;rw [if_pos (List.getElem?_eq_some_iff.1 h).1,h]
 ·rfl
theorem waysR_len (C:CodeR) (M:Mac) (k:Nat) (ct:Int):∀ (L:List OpR) (w:List Nat),(waysR C M k ct L w).length ≤ 2 * L.length + 1
 | [],w=>by simp [waysR]
 | o :: os,w=>by
  unfold waysR
  have ih:=waysR_len C M k ct os (stepW M w o)
  have a1:(if mayTrapS o = true ∧ 0 ≤ ct then [(ct.toNat,zerosW C)] else []).length ≤ 1:=by split <;> simp
  have a2:(if o.kd = 21 ∨ o.kd = 26 then [(o.n.toNat,decW w)] else []).length ≤ 1:=by split <;> simp
  have a3:(if leavesS o = true then [] else waysR C M k ct os (stepW M w o)).length ≤ 2 * os.length + 1:=by
   split
   ·simp
   ·exact ih
  rw [List.length_append,List.length_append,List.length_cons]
  omega
def wayB (a:Option Addr) (R:List (Nat × Nat)) (b:Nat):Prop:=(∃ ad,a = some ad ∧ b = ad.block) ∨ ∃ r ∈ R,b = r.1
theorem WaysAt.keep {m0 m m':Mem} {a:Option Addr} {c:Nat} {P:List (Nat × List Nat)} {R:List (Nat × Nat)} {F:Nat → Prop} (h:WaysAt m0 m a c P R) (hk:Keep F m m') (hn:∀ b,wayB a R b → ¬ F b):WaysAt m0 m' a c P R :=
 h.same (fun ad o ha ho=>hk _ _ ho (hn _ (.inl ⟨ad,ha,rfl⟩))) fun r hr o ho=>hk _ _ ho (hn _ (.inr ⟨r,hr,rfl⟩))
theorem WaysAt.live {m0 m:Mem} {a:Option Addr} {c:Nat} {P:List (Nat × List Nat)} {R:List (Nat × Nat)} (h:WaysAt m0 m a c P R) {b:Nat} (hb:wayB a R b):∃ o,m b = some o:=by
 rcases hb with ⟨ad,ha,rfl⟩ | ⟨r,hr,rfl⟩
 ·obtain ⟨b',pre,rest,e,h1,_⟩:=h.lst.at' ad ha
  subst e;exact ⟨_,h1⟩
 ·obtain ⟨j,hj⟩:=List.mem_iff_getElem?.1 hr
  have hl:=h.rl
  have hj2:=(List.getElem?_eq_some_iff.1 hj).1
  obtain ⟨rest,h1,_⟩:=h.row j P[j] r (List.getElem?_eq_getElem (by omega)) hj
  exact ⟨_,h1⟩
set_option maxHeartbeats 4000000 in
theorem rWaits_ok {m0:Mem} (V:CV) {C:CodeR} (M:Mac) (hV:CodeAt m0 V C) (hC:CodeOK C) (hM:M.ok = true) :
  CallsM Tryz.prog 26 [V.val C,M.val] m0 fun e m'=>∃ ob rb A,e = .returned (.slice (some ⟨ob,0,none⟩) C.ws.length C.ws.length) ∧ Mem.le m0 m' ∧ OutsAt m' ob rb A ∧ Least C M A ∧ OkW C A:=by
 have hrg:=hC.rg
 have hwl:=hC.wl
 have hn2:=hV.n2
 have hd8:∀ o,dlS M o ≤ 8:=fun o=>(dl_le hM o).2
 refine calls_of mixed Tryz.func26 okw_biremeref27_Waits rfl ?_
 conv=>whnf
 rw [hn2]
 refine WMake.mk ⟨by omega,Int.le_refl _,by omega⟩ fun ob hob=>?_
 have l1:=Mem.le_set (o:=Cells (List.replicate (Int.toNat (C.ws.length:Int)) [ns]).flatten TO) hob
 have co:m0.set ob (Cells (List.replicate (Int.toNat (C.ws.length:Int)) [ns]).flatten TO) ob = some (Cells (List.replicate C.ws.length ns) TO):=by
  rw [Mem.set_same,Int.toNat_natCast];simp
 generalize m0.set ob (Cells (List.replicate (Int.toNat (C.ws.length:Int)) [ns]).flatten TO) = m1 at l1 co ⊢
 have hA0:∀ (k:Nat) (w:List Nat),¬ (List.replicate C.ws.length (none:Option (List Nat)))[k]? = some (some w):=fun k w hk=>by
  rw [List.getElem?_replicate] at hk
  split at hk <;> cases hk
 have hS0:RWAt m1 ob ⟨fun _=>0,List.replicate C.ws.length none,none,0,[]⟩:=by
  refine ⟨⟨⟨_,co,by simp,fun k x hk=>?_⟩,fun k w hk=>absurd hk (hA0 k w),fun j k v w hj=>absurd hj (hA0 j v)⟩,LstAt.nil _ _ _,fun k w ad hk=>absurd hk (hA0 k w)⟩
  have hk:(List.replicate C.ws.length (none:Option (List Nat)))[k]? = some x:=hk
  rw [List.getElem?_replicate] at hk ⊢
  split at hk
  ·rename_i h1;cases hk;rw [if_pos h1];rfl
  ·cases hk
 conv=>whnf
 refine WMake.mk ⟨by omega,Int.le_refl _,by omega⟩ fun zb hzb=>?_
 have hzl:(zerosW C).length = C.rg.toNat:=by simp [zerosW]
 have ez:(List.replicate (Int.toNat C.rg) [i 0]).flatten = numL (zerosW C):=by simp [zerosW]
 rw [ez]
 have hnew:=hS0.newRow (k:=0) (w:=zerosW C) (by rw [List.getElem?_replicate,if_pos (by omega)]) hzb co
 conv=>whnf
 refine WIdx.mk _ rfl ⟨by omega,by rw [Int.toNat_natCast];omega⟩ ?_
 conv=>whnf
 rw [hzl] at hnew
 have hoz:ob ≠ zb:=ne_free co hzb
 show WSt (m1.set zb (Cells (numL (zerosW C)) 3)) ((⟨ob,0,none⟩:Addr).add 0) [.slice (some ⟨zb,0,none⟩) C.rg.toNat C.rg.toNat] _
 refine WSt.at _ _ (by rw [Mem.set_other _ _ hoz];exact co) (by simp;omega) ?_
 have l2:Mem.le m0 ((m1.set zb (Cells (numL (zerosW C)) 3)).set ob (Cells (spliceL (List.replicate C.ws.length ns) 0 [.slice (some ⟨zb,0,none⟩) C.rg.toNat C.rg.toNat]) TO)):=le_setF (le_setF l1 (none_of_le l1 hzb)) hob
 generalize (m1.set zb (Cells (numL (zerosW C)) 3)).set ob (Cells (spliceL (List.replicate C.ws.length ns) 0 [.slice (some ⟨zb,0,none⟩) C.rg.toNat C.rg.toNat]) TO) = m2 at l2 hnew ⊢
 have hf1:∀ b,(RW.newRow ⟨fun _=>0,List.replicate C.ws.length none,none,0,[]⟩ 0 zb (zerosW C)).foot ob b → m0 b = none:=fun b hb=>by
  rcases RW.foot_newRow (by rw [List.getElem?_replicate,if_pos (by omega)]) hb with hb | hb
  ·rcases hb with hb | ⟨k,w,hk,_⟩ | ⟨ad,ha,_⟩
   ·rw [hb];exact hob
   ·exact absurd hk (hA0 k w)
   ·cases ha
  ·rw [hb];exact none_of_le l1 hzb
 conv=>whnf
 refine WNew.ab fun tb m3 htb l3 ct=>?_
 have ct2:m3 tb = some (Cells [i 0] 3):=ct
 have htb0:=none_of_le l2 htb
 have hS1:RWAt m3 ob ⟨(RW.newRow ⟨fun _=>0,List.replicate C.ws.length none,none,0,[]⟩ 0 zb (zerosW C)).rb,(List.replicate C.ws.length none).set 0 (some (zerosW C)),some ⟨tb,0,none⟩,1,[0]⟩ :=
  ⟨(hnew.mono l3).outs,⟨rfl,Nat.le_refl _,(fun h=>by cases h),fun ad ha=>by cases ha;exact ⟨tb,[],[],rfl,ct2,by simp⟩⟩,fun k w ad hk ha=>by cases ha;exact (ne_free (hnew.outs.row k w hk) htb).symm⟩
 have hfS1:∀ b,(⟨(RW.newRow ⟨fun _=>0,List.replicate C.ws.length none,none,0,[]⟩ 0 zb (zerosW C)).rb,(List.replicate C.ws.length none).set 0 (some (zerosW C)),some ⟨tb,0,none⟩,1,[0]⟩:RW).foot ob b → m0 b = none:=fun b hb=>by
  rcases hb with hb | hb | ⟨ad,ha,hb⟩
  ·rw [hb];exact hob
  ·exact hf1 b (.inr (.inl hb))
  ·cases ha;rw [hb];exact htb0
 have hinv1:=begin_inv (M:=M) hC
 have hb1:2 * phi C.rg.toNat ((List.replicate C.ws.length none).set 0 (some (zerosW C))) + 1 ≤ 100000000000:=by
  have:=phi_le hinv1.ok
  rw [hinv1.ok.len] at this
  have h7:(8 * C.rg.toNat + 1) * C.ws.length ≤ (8 * 4096 + 1) * 60000:=Nat.mul_le_mul (by omega) hwl.2
  omega
 generalize (RW.newRow ⟨fun _=>0,List.replicate C.ws.length none,none,0,[]⟩ 0 zb (zerosW C)).rb = rb1 at *
 conv=>whnf
 refine WLoop.mk RW (fun S=>[(6,.val (.slice S.a S.W.length S.c))]) (fun S m'=>RWAt m' ob S ∧ Mem.le m0 m' ∧ (∀ b,S.foot ob b → m0 b = none) ∧ InvW C M S.A S.W ∧ 2 * phi C.rg.toNat S.A + S.W.length ≤ 100000000000) (fun S=>2 * phi C.rg.toNat S.A + S.W.length) ⟨rb1,(List.replicate C.ws.length none).set 0 (some (zerosW C)),some ⟨tb,0,none⟩,1,[0]⟩ ⟨rfl,trivial⟩ ⟨hS1,l2.trans l3,hfS1,hinv1,hb1⟩ ?_
 rintro S m4 ⟨hS,l4,hfS,hinv,hbd⟩
 conv=>whnf
 refine Br.mk (fun hb=>?_) (fun hb=>?_)
 ·have hW0:S.W.length ≠ 0:=by
   have:((S.W.length:Nat):Int) > 0:=of_decide_eq_true hb
   omega
  obtain ⟨k,W',hWk⟩:∃ k W',S.W = k :: W':=by
   cases h:S.W with
   | nil=>rw [h] at hW0;simp at hW0
   | cons k W'=>exact ⟨k,W',rfl⟩
  have htodo:=hS.todo
  obtain ⟨ad,had⟩:∃ ad,S.a = some ad:=by
   cases h:S.a with
   | none=>have:=htodo.no h;have:=htodo.cap;omega
   | some ad=>exact ⟨ad,rfl⟩
  rw [had,hWk] at htodo
  have hkc:=htodo.cells rfl
  have hpop:=htodo.pop
  obtain ⟨w,hkw⟩:=hinv.wk k (by rw [hWk];simp)
  have hkl:k < C.ws.length:=by rw [← hinv.ok.len];exact (List.getElem?_eq_some_iff.1 hkw).1
  conv=>whnf
  rw [had]
  refine WIdx.mk ad rfl ⟨by omega,by omega⟩ ?_
  conv=>whnf
  refine WLd.mk (i (k:Int)) (by simpa using hkc 0 _ rfl) ?_
  conv=>whnf
  have hWl:S.W.length = W'.length + 1:=by rw [hWk];rfl
  have hScap:=hS.todo.cap
  refine WSl.mk ⟨by decide,by omega,by omega⟩ ?_
  have hpb:∀ ad',(if ((S.c:Nat):Int) = 1 then some ad else (some ad).map (·.add (Int.toNat 1 * 1))) = some ad' → ad'.block = ad.block:=fun ad' h=>by
   split at h
   ·cases h;rfl
   ·cases h;unfold Addr.add;split <;> rfl
  conv=>whnf
  have e1:(k :: W').length - 1 = W'.length:=rfl
  rw [e1] at hpop
  have e2:((S.W.length:Nat):Int).toNat - Int.toNat 1 = W'.length:=by
   rw [Int.toNat_natCast,hWl];rfl
  generalize ha5:(if ((S.c:Nat):Int) = 1 then some ad else (some ad).map (·.add (Int.toNat 1 * 1))) = a5 at hpb hpop
  generalize hc5:S.c - Int.toNat 1 = c5 at hpop
  have hS2:RWAt m4 ob ⟨S.rb,S.A,a5,c5,W'⟩:=⟨hS.outs,hpop,fun j v ad' hj h=>by rw [hpb ad' h];exact hS.dis j v ad hj had⟩
  have hf2:∀ b,(⟨S.rb,S.A,a5,c5,W'⟩:RW).foot ob b → S.foot ob b:=fun b hb=>by
   rcases hb with hb | hb | ⟨ad',h,hb⟩
   ·exact .inl hb
   ·exact .inr (.inl hb)
   ·exact .inr (.inr ⟨ad,had,by rw [hb];exact hpb ad' h⟩)
  refine WIdx.mk _ rfl ⟨by omega,by rw [Int.toNat_natCast];omega⟩ ?_
  conv=>whnf
  refine WLd.mk (.slice (some ⟨S.rb k,0,none⟩) w.length w.length) (by have:=hS.cellRow hkw;simpa [rowR] using this) ?_
  conv=>whnf
  refine ⟨?_,trivial⟩
  conv=>whnf
  have hwlen:=hinv.ok.wl k w hkw
  refine WCall.mk (rWays_ok V M (hV.mono l4) hC hM hkl hwlen (hinv.ok.ub k w hkw) (hC.ol _ (wordAt_mem hkl)) (hC.op _ (wordAt_mem hkl)) (rb:=S.rb k) (rc:=w.length) (rr:=[]) (by rw [List.append_nil];exact hS.outs.row k w hkw)) ?_
  rintro _ m5 ⟨la,lc,R,rfl,l5,hWy⟩
  have hPm:∀ p,p ∈ waysR C M k (wordAt C k).ct (wordAt C k).ops w ↔ p ∈ outsW C M k (wordAt C k).ct (wordAt C k).ops w:=fun p=>mem_waysR
  have hPl:(waysR C M k (wordAt C k).ct (wordAt C k).ops w).length ≤ 1000000000:=by
   have h1:=waysR_len C M k (wordAt C k).ct (wordAt C k).ops w
   have h2:=hC.ol _ (wordAt_mem hkl)
   omega
  generalize waysR C M k (wordAt C k).ct (wordAt C k).ops w = P at hWy hPm hPl ⊢
  have hPok:∀ p ∈ P,OkP C p:=fun p hp=>outs_ok hC hd8 hinv.ok hkw p ((hPm p).1 hp)
  have hri:=round_inv2 (R:=W') hC hd8 hPm hinv hkw (fun x hx=>by rw [hWk] at hx;exact List.mem_cons.1 hx) (fun x hx=>by rw [hWk];exact List.mem_cons_of_mem _ hx)
  have hSm:=hS2.mono l5
  have hfy:∀ b,wayB la R b → ¬ (⟨S.rb,S.A,a5,c5,W'⟩:RW).foot ob b:=fun b hb hfb=>by
   obtain ⟨o,ho⟩:=hS2.live hfb
   rcases hb with ⟨ad',h,rfl⟩ | ⟨r,hr,rfl⟩
   ·rw [hWy.fr _ h] at ho;cases ho
   ·rw [hWy.frr r hr] at ho;cases ho
  conv=>whnf
  refine WLoop.mk (Nat × RW) (fun s=>[(6,.val (.slice s.2.a s.2.W.length s.2.c)),(9,.val (i s.1))]) (fun s m'=>s.1 ≤ P.length ∧ RWAt m' ob s.2 ∧ (s.2.A,s.2.W) = (P.take s.1).foldl meetW (S.A,W') ∧ OkW C s.2.A ∧ 2 * phi C.rg.toNat s.2.A + s.2.W.length ≤ 100000000000 ∧ Mem.le m0 m' ∧ (∀ b,s.2.foot ob b → m0 b = none) ∧ WaysAt m4 m' la lc P R ∧ ∀ b,wayB la R b → ¬ s.2.foot ob b)
   (fun s=>P.length - s.1) (0,⟨S.rb,S.A,a5,c5,W'⟩) ⟨by rw [← e2,← ha5,← hc5];rfl,rfl,trivial⟩ ⟨Nat.zero_le _,hSm,rfl,hinv.ok,by show 2 * phi C.rg.toNat S.A + W'.length ≤ _;omega,l4.trans l5,fun b hb=>hfS b (hf2 b hb),hWy,hfy⟩ ?_
  rintro ⟨q,S3⟩ m6 ⟨hq,hS3,hA3,hok3,hbd3,l6,hf3,hWy3,hfy3⟩
  simp only at hq hS3 hA3 hok3 hbd3 hf3 hfy3
  conv=>whnf
  refine Br.mk (fun hb=>?_) (fun hb=>?_)
  ·have hq2:q < P.length:=by
    have:(q:Int) < (P.length:Nat):=of_decide_eq_true hb
    omega
   obtain ⟨p,hp⟩:∃ p,P[q]? = some p:=⟨_,List.getElem?_eq_getElem hq2⟩
   obtain ⟨r,hr⟩:∃ r,R[q]? = some r:=⟨_,List.getElem?_eq_getElem (by rw [hWy3.rl];exact hq2)⟩
   have hpm:=hPok p (List.mem_of_getElem? hp)
   obtain ⟨lad,hlad⟩:∃ ad,la = some ad:=by
    cases h:la with
    | none=>have:=hWy3.lst.no h;have:=hWy3.lst.cap;omega
    | some ad=>exact ⟨ad,rfl⟩
   have hlc:=fun (m':Mem) (h:WaysAt m4 m' la lc P R)=>h.lst.cells hlad
   obtain ⟨hg1,hg2⟩:=wayC_get hp hr
   have hto:∀ m',WaysAt m4 m' la lc P R → CellAt m' ((lad.add (q * 2)).add 0) (i (p.1:Int)):=fun m' h=>by
    rw [add_add];exact hlc m' h _ _ hg1
   have hwt:∀ m',WaysAt m4 m' la lc P R → CellAt m' ((lad.add (q * 2)).add 1) (.slice (some ⟨r.1,0,none⟩) p.2.length r.2):=fun m' h=>by
    rw [add_add];exact hlc m' h _ _ hg2
   have hlt3:p.1 < S3.A.length:=by rw [hok3.len];exact hpm.lt
   obtain ⟨ox,hox⟩:∃ x,S3.A[p.1]? = some x:=⟨_,List.getElem?_eq_getElem hlt3⟩
   have hcl3:=hok3.len
   have hplt:=hpm.lt
   conv=>whnf
   refine WJoin.mk Unit (fun _=>[(10,.val (.bool ox.isNone))]) (fun _ m'=>m' = m6) ?_ ?_
   ·conv=>whnf
    refine WIdx.mk lad hlad ⟨by omega,by omega⟩ ?_
    conv=>whnf
    refine WLd.mk (i (p.1:Int)) (by simpa using hto m6 hWy3) ?_
    conv=>whnf
    refine WIdx.mk _ rfl ⟨by omega,by rw [Int.toNat_natCast];omega⟩ ?_
    conv=>whnf
    refine WLd.mk (rowR S3.rb p.1 ox) (by simpa using hS3.cellRow hox) ?_
    cases ox with
    | none =>
     conv=>whnf
     exact ⟨(),⟨rfl,trivial⟩,rfl⟩
    | some w0 =>
     conv=>whnf
     exact ⟨(),⟨rfl,trivial⟩,rfl⟩
   rintro _ m7 hm7
   subst hm7
   conv=>whnf
   refine WJoin.mk (RW × List Nat) (fun _=>[]) (fun s m'=>RWAt m' ob s.1 ∧ s.1.A = S3.A.set p.1 (some s.2) ∧ s.2 = ox.getD (List.replicate p.2.length 0) ∧ s.2.length = C.rg.toNat ∧ s.1.W = S3.W ∧ s.1.a = S3.a ∧ s.1.c = S3.c ∧ Mem.le m0 m' ∧ (∀ b,s.1.foot ob b → m0 b = none) ∧ WaysAt m4 m' la lc P R ∧ ∀ b,wayB la R b → ¬ s.1.foot ob b) ?_ ?_
   ·conv=>whnf
    refine Br.mk (fun hn=>?_) (fun hn=>?_)
    ·cases ox with
     | some w0=>cases hn
     | none =>
     conv=>whnf
     refine WIdx.mk lad hlad ⟨by omega,by omega⟩ ?_
     conv=>whnf
     refine WLd.mk (i (p.1:Int)) (by simpa using hto m7 hWy3) ?_
     conv=>whnf
     refine ⟨?_,trivial⟩
     conv=>whnf
     refine WMake.mk ⟨by omega,Int.le_refl _,by omega⟩ fun nb hnb=>?_
     rw [ez]
     obtain ⟨L,hL1,hL2,hL3⟩:=hS3.outs.out
     have hnew:=hS3.newRow hox hnb hL1 (w:=zerosW C)
     rw [hzl] at hnew
     conv=>whnf
     refine WIdx.mk _ rfl ⟨by omega,by rw [Int.toNat_natCast];omega⟩ ?_
     conv=>whnf
     refine ⟨?_,trivial⟩
     conv=>whnf
     have hon:ob ≠ nb:=ne_free hL1 hnb
     show WSt (m7.set nb (Cells (numL (zerosW C)) 3)) ((⟨ob,0,none⟩:Addr).add ((p.1:Int).toNat * 1)) [.slice (some ⟨nb,0,none⟩) C.rg.toNat C.rg.toNat] _
     rw [Int.toNat_natCast,Nat.mul_one]
     refine WSt.at _ _ (by rw [Mem.set_other _ _ hon];exact hL1) (by simp;omega) ?_
     conv=>whnf
     have hkeep:Keep (S3.foot ob) m7 ((m7.set nb (Cells (numL (zerosW C)) 3)).set ob (Cells (spliceL L p.1 [.slice (some ⟨nb,0,none⟩) C.rg.toNat C.rg.toNat]) TO)):=Keep.set (Keep.of_le (Mem.le_set hnb)) (.inl (.inl rfl))
     refine ⟨(S3.newRow p.1 nb (zerosW C),zerosW C),trivial,hnew,rfl,?_,hzl,rfl,rfl,rfl,hkeep.le l6 hf3,fun b hb=>?_,hWy3.keep hkeep hfy3,fun b hb hfb=>?_⟩
     ·show zerosW C = List.replicate p.2.length 0
      rw [hpm.wl];rfl
     ·rcases RW.foot_newRow hox hb with h | h
      ·exact hf3 b h
      ·rw [h];exact none_of_le l6 hnb
     ·rcases RW.foot_newRow hox hfb with h | h
      ·exact hfy3 b hb h
      ·obtain ⟨o,ho⟩:=hWy3.live hb
       rw [h,hnb] at ho;cases ho
    ·cases ox with
     | none=>cases hn
     | some w0 =>
     conv=>whnf
     exact ⟨(S3,w0),trivial,hS3,(set_self hox).symm,rfl,hok3.wl _ _ hox,rfl,rfl,rfl,l6,hf3,hWy3,hfy3⟩
   rintro ⟨S8,w1⟩ m8 ⟨hS8,hA8,hw1,hw1l,hW8,ha8,hc8,l8,hf8,hWy8,hfy8⟩
   simp only at hS8 hA8 hw1 hw1l hW8 ha8 hc8 hf8 hfy8
   have hk8:S8.A[p.1]? = some (some w1):=by rw [hA8,set_get hlt3,if_pos rfl]
   have hpwl:=hpm.wl
   have hset8:∀ w',S8.A.set p.1 (some w') = S3.A.set p.1 (some w'):=fun w'=>by rw [hA8,List.set_set]
   have hS80:RWAt m8 ob { S8 with A:=S8.A.set p.1 (some (preW w1 p.2 0)) }:=by
    have:({ S8 with A:=S8.A.set p.1 (some (preW w1 p.2 0)) }:RW) = S8:=by
     show ({ S8 with A:=S8.A.set p.1 (some w1) }:RW) = S8
     rw [set_self hk8]
    rw [this];exact hS8
   have hfoot8:∀ w' b,({ S8 with A:=S8.A.set p.1 (some w') }:RW).foot ob b → S8.foot ob b:=fun w' b hb=>RW.foot_setRow hk8 hb
   conv=>whnf
   refine WLoop.mk (Nat × Bool) (fun s=>[(10,.val (.bool s.2)),(11,.val (i s.1))]) (fun s m'=>s.1 ≤ p.2.length ∧ RWAt m' ob { S8 with A:=S8.A.set p.1 (some (preW w1 p.2 s.1)) } ∧ s.2 = (ox.isNone || decide (preW w1 p.2 s.1 ≠ w1)) ∧ Keep (S8.foot ob) m8 m')
    (fun s=>p.2.length - s.1) (0,ox.isNone) ⟨rfl,rfl,trivial⟩ ⟨Nat.zero_le _,hS80,by show ox.isNone = (ox.isNone || decide (w1 ≠ w1));simp,Keep.refl _ _⟩ ?_
   rintro ⟨rr,mb⟩ m9 ⟨hrr,hS9,hmb,hkp9⟩
   simp only at hrr hS9 hmb
   have l9:Mem.le m0 m9:=hkp9.le l8 hf8
   have hWy9:=hWy8.keep hkp9 hfy8
   have hlt8:p.1 < S8.A.length:=by rw [hA8,List.length_set];exact hlt3
   have hk9:({ S8 with A:=S8.A.set p.1 (some (preW w1 p.2 rr)) }:RW).A[p.1]? = some (some (preW w1 p.2 rr)):=by
    show (S8.A.set p.1 _)[p.1]? = _
    rw [set_get hlt8,if_pos rfl]
   have hpl9:=pre_len w1 p.2 rr
   have hrow9:=hS9.outs.row p.1 _ hk9
   have hcr9:CellAt m9 ((⟨ob,0,none⟩:Addr).add p.1) (.slice (some ⟨S8.rb p.1,0,none⟩) (preW w1 p.2 rr).length (preW w1 p.2 rr).length):=hS9.cellRow hk9
   obtain ⟨rest9,hpr9,hpc9⟩:=hWy9.row q p r hp hr
   conv=>whnf
   refine Br.mk (fun hb=>?_) (fun hb=>?_)
   ·have hr9:rr < p.2.length:=by
     have:(rr:Int) < C.rg:=of_decide_eq_true hb
     omega
    have hx9:CellAt m9 ((⟨r.1,0,none⟩:Addr).add rr) (i ((p.2.getD rr 0:Nat):Int)):=numL_cell hpr9 hr9
    have hy9:CellAt m9 ((⟨S8.rb p.1,0,none⟩:Addr).add rr) (i (((preW w1 p.2 rr).getD rr 0:Nat):Int)):=numL_cell (rest:=[]) (by rw [List.append_nil];exact hrow9) (by omega)
    conv=>whnf
    refine WIdx.mk lad hlad ⟨by omega,by omega⟩ ?_
    conv=>whnf
    refine WLd.mk (.slice (some ⟨r.1,0,none⟩) p.2.length r.2) (by simpa using hwt m9 hWy9) ?_
    conv=>whnf
    refine WIdx.mk _ rfl ⟨by omega,by omega⟩ ?_
    conv=>whnf
    refine WLd.mk (i ((p.2.getD rr 0:Nat):Int)) (by simpa using hx9) ?_
    conv=>whnf
    refine WIdx.mk lad hlad ⟨by omega,by omega⟩ ?_
    conv=>whnf
    refine WLd.mk (i (p.1:Int)) (by simpa using hto m9 hWy9) ?_
    conv=>whnf
    refine WIdx.mk _ rfl ⟨by omega,by rw [Int.toNat_natCast];omega⟩ ?_
    conv=>whnf
    refine WLd.mk (.slice (some ⟨S8.rb p.1,0,none⟩) (preW w1 p.2 rr).length (preW w1 p.2 rr).length) (by simpa using hcr9) ?_
    conv=>whnf
    refine WIdx.mk _ rfl ⟨by omega,by omega⟩ ?_
    conv=>whnf
    refine WLd.mk (i (((preW w1 p.2 rr).getD rr 0:Nat):Int)) (by simpa using hy9) ?_
    conv=>whnf
    refine Br.mk (fun hg=>?_) (fun hg=>?_)
    ·have hg2:p.2.getD rr 0 > (preW w1 p.2 rr).getD rr 0:=by
      have:((p.2.getD rr 0:Nat):Int) > (((preW w1 p.2 rr).getD rr 0:Nat):Int):=of_decide_eq_true hg
      omega
     obtain ⟨hn1,hn2⟩:=pre_new (by omega) hg2
     conv=>whnf
     refine WIdx.mk lad hlad ⟨by omega,by omega⟩ ?_
     conv=>whnf
     refine WLd.mk (i (p.1:Int)) (by simpa using hto m9 hWy9) ?_
     conv=>whnf
     refine WIdx.mk _ rfl ⟨by omega,by rw [Int.toNat_natCast];omega⟩ ?_
     conv=>whnf
     refine WLd.mk (.slice (some ⟨S8.rb p.1,0,none⟩) (preW w1 p.2 rr).length (preW w1 p.2 rr).length) (by simpa using hcr9) ?_
     conv=>whnf
     refine WIdx.mk lad hlad ⟨by omega,by omega⟩ ?_
     conv=>whnf
     refine WLd.mk (.slice (some ⟨r.1,0,none⟩) p.2.length r.2) (by simpa using hwt m9 hWy9) ?_
     conv=>whnf
     refine WIdx.mk _ rfl ⟨by omega,by omega⟩ ?_
     conv=>whnf
     refine WLd.mk (i ((p.2.getD rr 0:Nat):Int)) (by simpa using hx9) ?_
     conv=>whnf
     refine WIdx.mk _ rfl ⟨by omega,by omega⟩ ?_
     conv=>whnf
     refine ⟨?_,trivial⟩
     conv=>whnf
     show WSt m9 ((⟨S8.rb p.1,0,none⟩:Addr).add ((rr:Int).toNat * 1)) [i ((p.2.getD rr 0:Nat):Int)] _
     rw [Int.toNat_natCast,Nat.mul_one]
     refine WSt.at _ _ hrow9 (by simp;omega) ?_
     have es:spliceL (numL (preW w1 p.2 rr)) rr [i ((p.2.getD rr 0:Nat):Int)] = numL (preW w1 p.2 (rr + 1)):=by
      have:=set_rowN (w:=preW w1 p.2 rr) (rest:=[]) (r:=rr) (x:=p.2.getD rr 0) (by omega)
      rw [List.append_nil,List.append_nil] at this
      rw [this,hn1]
     rw [es]
     have hS10:=hS9.setRow hk9 (w':=preW w1 p.2 (rr + 1)) (by rw [pre_len,pre_len])
     have hAs:(S8.A.set p.1 (some (preW w1 p.2 rr))).set p.1 (some (preW w1 p.2 (rr + 1))) = S8.A.set p.1 (some (preW w1 p.2 (rr + 1))):=by rw [List.set_set]
     simp only [hAs] at hS10
     conv=>whnf
     refine WRng.mk (by apply wrap_i64 <;> omega) ?_
     conv=>whnf
     refine ⟨(rr + 1,true),⟨rfl,rfl,trivial⟩,⟨hr9,hS10,by simp [hn2],hkp9.set (.inl (.inr (.inl ⟨p.1,w1,hk8,rfl⟩)))⟩,Nat.sub_lt_sub_left hr9 (Nat.lt_succ_self rr)⟩
    ·have hg2:¬ p.2.getD rr 0 > (preW w1 p.2 rr).getD rr 0:=by
      have:¬ ((p.2.getD rr 0:Nat):Int) > (((preW w1 p.2 rr).getD rr 0:Nat):Int):=of_decide_eq_false hg
      omega
     have hn1:=pre_keep hg2
     conv=>whnf
     refine WRng.mk (by apply wrap_i64 <;> omega) ?_
     conv=>whnf
     refine ⟨(rr + 1,mb),⟨rfl,rfl,trivial⟩,⟨hr9,by show RWAt m9 ob { S8 with A:=S8.A.set p.1 (some (preW w1 p.2 (rr + 1))) };rw [hn1];exact hS9,by show mb = (ox.isNone || decide (preW w1 p.2 (rr + 1) ≠ w1));rw [hn1];exact hmb,hkp9⟩,Nat.sub_lt_sub_left hr9 (Nat.lt_succ_self rr)⟩
   ·have hr9:rr = p.2.length:=by
     have:¬ (rr:Int) < C.rg:=of_decide_eq_false hb
     omega
    subst hr9
    rw [pre_all (by omega)] at hmb hS9
    have hmt:=meet_is (W:=S3.W) hox hw1
    rw [← hmb] at hmt
    obtain ⟨a1,_,_,a4,_⟩:=meet_all (W:=S3.W) hok3 hpm
    have htk:(P.take (q + 1)).foldl meetW (S.A,W') = meetW (S3.A,S3.W) p:=by
     rw [List.take_add_one,hp]
     simp only [Option.toList_some,List.foldl_append,List.foldl_cons,List.foldl_nil]
     rw [← hA3]
    rw [hmt] at a1 a4 htk
    rw [hset8] at hS9
    have hf9:∀ b,({ S8 with A:=S3.A.set p.1 (some (maxW w1 p.2)) }:RW).foot ob b → S8.foot ob b:=fun b hb=>by
     rw [← hset8] at hb
     exact hfoot8 _ b hb
    conv=>whnf
    refine Br.mk (fun hm=>?_) (fun hm=>?_)
    ·have hm:mb = true:=hm
     subst hm
     rw [if_pos rfl] at a1 a4 htk
     conv=>whnf
     refine WIdx.mk lad hlad ⟨by omega,by omega⟩ ?_
     conv=>whnf
     refine WLd.mk (i (p.1:Int)) (by simpa using hto m9 hWy9) ?_
     conv=>whnf
     refine WNew.ab fun bx m10 hbx l10 cx=>?_
     have cx2:m10 bx = some (Cells [i (p.1:Int)] 3):=cx
     conv=>whnf
     show WApp m10 3 1 8 [i 0] S3.a S3.W.length S3.c (some ⟨bx,0,none⟩) 1 _
     rw [← ha8,← hW8,← hc8]
     have hbW:(S8.W.length + 1) * 8 ≤ 35184372088832:=by rw [hW8];omega
     refine (hS9.mono l10).push (x:=p.1) (bx:=bx) cx2 hbW fun a' c' m11 hS11 hk11 hf11=>?_
     conv=>whnf
     refine WRng.mk (by apply wrap_i64 <;> omega) ?_
     conv=>whnf
     refine ⟨(q + 1,{ S8 with A:=S3.A.set p.1 (some (maxW w1 p.2)),a:=some a',c:=c',W:=S8.W ++ [p.1] }),⟨?_,rfl,trivial⟩,⟨hq2,hS11,?_,a1,?_,hk11.le (l9.trans l10) fun b hb=>hf8 b (hf9 b hb),fun b hb=>?_,(hWy9.mono l10).keep hk11 fun b hb hfb=>hfy8 b hb (hf9 b hfb),fun b hb hfb=>?_⟩,Nat.sub_lt_sub_left hq2 (Nat.lt_succ_self q)⟩
     ·show some (AV.val (.slice (some a') (S8.W.length + 1) c')) = some (AV.val (.slice (some a') (S8.W ++ [p.1]).length c'))
      rw [List.length_append];rfl
     ·show (S3.A.set p.1 (some (maxW w1 p.2)),S8.W ++ [p.1]) = _
      rw [htk,hW8]
     ·show 2 * phi C.rg.toNat (S3.A.set p.1 (some (maxW w1 p.2))) + (S8.W ++ [p.1]).length ≤ _
      rw [hW8];simp only at a4;omega
     ·rcases hf11 b hb with h | h
      ·exact hf8 b (hf9 b h)
      ·exact none_of_le (l9.trans l10) h
     ·rcases hf11 b hfb with h | h
      ·exact hfy8 b hb (hf9 b h)
      ·obtain ⟨o,ho⟩:=(hWy9.mono l10).live hb
       rw [h] at ho;cases ho
    ·have hm:mb = false:=hm
     subst hm
     rw [if_neg (by decide)] at a1 a4 htk
     conv=>whnf
     refine WRng.mk (by apply wrap_i64 <;> omega) ?_
     conv=>whnf
     refine ⟨(q + 1,{ S8 with A:=S3.A.set p.1 (some (maxW w1 p.2)) }),⟨by show some (AV.val (.slice S3.a S3.W.length S3.c)) = some (AV.val (.slice S8.a S8.W.length S8.c));rw [ha8,hW8,hc8],rfl,trivial⟩,⟨hq2,hS9,?_,a1,?_,l9,fun b hb=>hf8 b (hf9 b hb),hWy9,fun b hb hfb=>hfy8 b hb (hf9 b hfb)⟩,Nat.sub_lt_sub_left hq2 (Nat.lt_succ_self q)⟩
     ·show (S3.A.set p.1 (some (maxW w1 p.2)),S8.W) = _
      rw [htk,hW8]
     ·show 2 * phi C.rg.toNat (S3.A.set p.1 (some (maxW w1 p.2))) + S8.W.length ≤ _
      rw [hW8];simp only at a4;omega
  ·have hq2:q = P.length:=by
    have:¬ (q:Int) < (P.length:Nat):=of_decide_eq_false hb
    omega
   subst hq2
   rw [List.take_length] at hA3
   rw [← hA3] at hri
   conv=>whnf
   refine ⟨S3,⟨rfl,trivial⟩,⟨hS3,l6,hf3,hri.1,hbd3⟩,?_⟩
   have:=hri.2
   simp only at this
   omega
 ·have hW0:S.W = []:=by
   have:¬ ((S.W.length:Nat):Int) > 0:=of_decide_eq_false hb
   exact List.length_eq_zero_iff.1 (by omega)
  rw [hW0] at hinv
  conv=>whnf
  exact WRet.same ⟨ob,S.rb,S.A,rfl,l4,hS.outs,hinv.least,hinv.ok⟩
end Go.Proofs.YtleofbpepfmfgaaGreatDoor
