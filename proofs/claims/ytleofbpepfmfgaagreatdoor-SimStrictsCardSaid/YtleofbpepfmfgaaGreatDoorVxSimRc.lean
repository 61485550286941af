import Derived.Test.YtleofbpepfmfgaaGreatDoorVxSimRa
set_option linter.unusedSimpArgs false
set_option linter.unusedVariables false
set_option maxRecDepth 100000
namespace Go.Proofs.YtleofbpepfmfgaaGreatDoor
open Go Go.Vx
open Go.Vx.IOp Go.Vx.IR Go.Vx.Opd
def irw_biremeref27_ways:Vx.Fn:={ nt:=114,res:=[.t 8],body:=seq (ops (.run [x 4 (vb (t 0)),x 5 (vb (t 1)),x 8 (mv (c (ns)))] <| .nil)) (seq (ops (.run [x 17 (fa (t 4) 5),x 18 (vld 4 17),x 19 (mv (t 2)),x 20 (ia (t 18) (t 19) 2),x 21 (lds (t 20) 2),x 9 (va [ns,i 0]),x 9 (vst 9 9 (t 21) 2)] <| .nil)) (seq (ops (.run [x 22 (mv (t 3)),x 23 (len (t 22)),x 24 (mk 3 8 [i 0] (t 23) (t 23)),x 10 (mv (t 24))] <| .nil)) (seq (seq (ops (.run [x 11 (mv (c (i 0)))] <| .nil)) (block 0 (loop [(11,11),(25,39)] (seq (seq (ops (.run [x 25 (mv (t 11)),x 26 (mv (t 3)),x 27 (len (t 26)),x 28 (bin .lss (t 25) (t 27))] <| .nil)) (cond (t 28) (skip) (exit 0))) (seq (block 1 (ops (.run [x 31 (mv (t 10)),x 32 (mv (t 11)),x 33 (mv (t 3)),x 34 (mv (t 11)),x 35 (ia (t 33) (t 34) 1),x 36 (ld (t 35)),x 37 (binN .sub (t 36) (c (i 1))),x 38 (mm true [t 37,c (i 0)]),x 39 (ia (t 31) (t 32) 1),n (st (t 39) (t 38) 1)] <| .nil))) (ops (.run [x 29 (mv (t 11)),x 30 (binN .add (t 29) (c (i 1))),x 11 (mv (t 30))] <| .nil))))))) (seq (ops (.run [x 12 (mv (c (ns)))] <| .nil)) (seq (seq (ops (.run [x 13 (mv (c (i 0)))] <| .nil)) (block 2 (loop [(8,8),(12,16),(40,106)] (seq (seq (ops (.run [x 40 (mv (t 13)),x 41 (fa (t 9) 0),x 42 (vld 9 41),x 43 (len (t 42)),x 44 (bin .lss (t 40) (t 43))] <| .nil)) (cond (t 44) (skip) (exit 2))) (seq (block 3 (seq (ops (.run [x 47 (fa (t 9) 0),x 48 (vld 9 47),x 49 (mv (t 13)),x 50 (ia (t 48) (t 49) 7),x 51 (lds (t 50) 7),x 14 (va [i 0,i 0,i 0,i 0,i 0,i 0,i 0]),x 14 (vst 14 14 (t 51) 7)] <| .nil)) (seqj [(12,12),(52,67)] (seq (ops (.run [x 52 (vlds 14 14 7),x 53 (call 86 [t 52]),x 54 (mv (t 53))] <| .sc 54 true [(55,57)] (.run [x 55 (fa (t 9) 1),x 56 (vld 9 55),x 57 (bin .geq (t 56) (c (i 0)))] <| .nil) 58 (t 57) <| .nil)) (cond (t 58) (tree [x 59 (mv (t 12)),x 60 (fa (t 9) 1),x 61 (vld 9 60),x 62 (mv (t 3)),x 63 (len (t 62)),x 64 (mk 3 8 [i 0] (t 63) (t 63)),x 65 (bd [i 0,ns] [(0,1,t 61),(1,1,t 64)]),x 66 (bs 124 1 [i 0,ns] [(0,2,t 65)]),x 67 (ap 124 2 32 [i 0,ns] (t 59) (t 66)),x 12 (mv (t 67))] (.pure 0 (.pure 1 (.pure 2 (.pure 3 (.pure 4 (.alt 5 (.pure 6 (.alt 7 (.alt 8 (.pure 9 (RT.nil)) (.done)) (.done))) (.done)))))))) (skip))) (seqj [(12,12),(68,84)] (seq (ops (.run [x 68 (fa (t 14) 0),x 69 (vld 14 68),x 70 (bin .eql (t 69) (c (i 21))),x 71 (mv (t 70))] <| .sc 71 false [(72,74)] (.run [x 72 (fa (t 14) 0),x 73 (vld 14 72),x 74 (bin .eql (t 73) (c (i 26)))] <| .nil) 75 (t 74) <| .nil)) (cond (t 75) (tree [x 76 (mv (t 12)),x 77 (fa (t 14) 5),x 78 (vld 14 77),x 79 (bs 3 0 [] []),x 80 (mv (t 10)),x 81 (ap 3 1 8 [i 0] (t 79) (t 80)),x 82 (bd [i 0,ns] [(0,1,t 78),(1,1,t 81)]),x 83 (bs 124 1 [i 0,ns] [(0,2,t 82)]),x 84 (ap 124 2 32 [i 0,ns] (t 76) (t 83)),x 12 (mv (t 84))] (.pure 0 (.pure 1 (.pure 2 (.pure 4 (.alt 3 (.alt 5 (.pure 6 (.alt 7 (.alt 8 (.pure 9 (RT.nil)) (.done)) (.done))) (.done)) (.done))))))) (skip))) (seq (seq (ops (.run [x 85 (vlds 14 14 7),x 86 (call 81 [t 85])] <| .nil)) (cond (t 86) (seq (ops (.run [x 87 (mv (t 12)),x 8 (mv (t 87))] <| .nil)) (ret)) (skip))) (seq (ops (.run [x 89 (vlds 14 14 7),x 90 (call 84 [t 89]),x 88 (mv (t 90)),x 91 (ext (t 88) 0),x 92 (ext (t 88) 1),x 15 (mv (t 91)),x 16 (mv (t 92))] <| .nil)) (seq (ops (.run [x 93 (mv (t 16))] <| .nil)) (cond (t 93) (tree [x 94 (mv (t 10)),x 95 (mv (t 15)),x 96 (mv (t 10)),x 97 (mv (t 15)),x 98 (ia (t 96) (t 97) 1),x 99 (ld (t 98)),x 100 (vlds 5 5 11),x 101 (fa (t 14) 0),x 102 (vld 14 101),x 103 (callG 85 [t 100,t 102]),x 104 (binN .sub (t 103) (c (i 1))),x 105 (mm true [t 99,t 104]),x 106 (ia (t 94) (t 95) 1),n (st (t 106) (t 105) 1)] (.pure 0 (.pure 1 (.pure 2 (.pure 3 (.pure 4 (.pure 5 (.pure 6 (.pure 7 (.pure 8 (.alt 9 (.pure 10 (.pure 11 (.pure 12 (.alt 13 (RT.nil) (.done))))) (.done)))))))))))) (skip))))))))) (ops (.run [x 45 (mv (t 13)),x 46 (binN .add (t 45) (c (i 1))),x 13 (mv (t 46))] <| .nil))))))) (seq (ops (.run [x 107 (mv (t 12)),x 108 (mv (t 2)),x 109 (binN .add (t 108) (c (i 1))),x 110 (mv (t 10)),x 111 (bd [i 0,ns] [(0,1,t 109),(1,1,t 110)]),x 112 (bs 124 1 [i 0,ns] [(0,2,t 111)]),x 113 (ap 124 2 32 [i 0,ns] (t 107) (t 112)),x 8 (mv (t 113))] <| .nil)) (ret))))))) }
theorem okw_biremeref27_ways:okFn Tryz.prog Tryz.f56 irw_biremeref27_ways = true:=by kernel_rfl
def wayC (P:List (Nat × List Nat)) (R:List (Nat × Nat)):List Value:=((P.zip R).map fun x=>[i (x.1.1:Int),.slice (some ⟨x.2.1,0,none⟩) x.1.2.length x.2.2]).flatten
theorem wayC_app {P:List (Nat × List Nat)} {R:List (Nat × Nat)} (h:R.length = P.length) (p:Nat × List Nat) (r:Nat × Nat):wayC (P ++ [p]) (R ++ [r]) = wayC P R ++ [i (p.1:Int),.slice (some ⟨r.1,0,none⟩) p.2.length r.2]:=by
 unfold wayC
 rw [List.zip_append h.symm]
 simp
abbrev TY:TypeId:=124
structure WaysAt (m0 m:Mem) (a:Option Addr) (c:Nat) (P:List (Nat × List Nat)) (R:List (Nat × Nat)):Prop where
 rl:R.length = P.length
 lst:LstAt m TY 2 a P.length c (wayC P R)
 row:∀ (j:Nat) (p:Nat × List Nat) (r:Nat × Nat),P[j]? = some p → R[j]? = some r → ∃ rest,m r.1 = some (Cells (numL p.2 ++ rest) 3) ∧ p.2.length ≤ r.2
 fr:∀ ad,a = some ad → m0 ad.block = none
 frr:∀ r ∈ R,m0 r.1 = none
section
variable {m0 m m':Mem} {a:Option Addr} {c:Nat} {P:List (Nat × List Nat)} {R:List (Nat × Nat)}
theorem WaysAt.nil (m0 m:Mem):WaysAt m0 m none 0 [] []:=⟨rfl,LstAt.nil _ _ _,(fun j p r h=>by cases h),(fun ad h=>by cases h),fun r h=>by cases h⟩
theorem WaysAt.same (h:WaysAt m0 m a c P R) (h1:∀ ad o,a = some ad → m ad.block = some o → m' ad.block = some o) (h2:∀ r ∈ R,∀ o,m r.1 = some o → m' r.1 = some o):WaysAt m0 m' a c P R :=
 ⟨h.rl,h.lst.same h1,fun j p r hp hr=>by
  obtain ⟨rest,g1,g2⟩:=h.row j p r hp hr
  exact ⟨rest,h2 r (List.mem_of_getElem? hr) _ g1,g2⟩,h.fr,h.frr⟩
theorem WaysAt.mono (h:WaysAt m0 m a c P R) (hle:Mem.le m m'):WaysAt m0 m' a c P R:=h.same (fun _ o _ hb=>hle _ o hb) fun _ _ o hb=>hle _ o hb
theorem WaysAt.ne (h:WaysAt m0 m a c P R) {ad:Addr} (ha:a = some ad) {b:Nat} {L:List Value} (hb:m b = some (Cells L 3)):ad.block ≠ b:=by
 obtain ⟨b',pre,rest,e,h1,_⟩:=h.lst.at' ad ha
 subst e
 exact ne_type h1 hb (by decide)
theorem WaysAt.setRow (h:WaysAt m0 m a c P R) {nb:Nat} {L:List Value} {o:Obj} (hb:m nb = some (Cells L 3)) (hR:∀ r ∈ R,r.1 ≠ nb):WaysAt m0 (m.set nb o) a c P R :=
 h.same (fun ad o' ha ho=>by rw [Mem.set_other _ _ (h.ne ha hb)];exact ho) fun r hr o' ho=>by rw [Mem.set_other _ _ (hR r hr)];exact ho
theorem WaysAt.push (h:WaysAt m0 m a c P R) (hle:Mem.le m0 m) {p:Nat × List Nat} {r:Nat × Nat} {bx:Nat} {K:Value → Mem → Prop} (hx:m bx = some (Cells [i (p.1:Int),.slice (some ⟨r.1,0,none⟩) p.2.length r.2] TY))
  (hr:∃ rest,m r.1 = some (Cells (numL p.2 ++ rest) 3) ∧ p.2.length ≤ r.2) (hr0:m0 r.1 = none) (hl:P.length ≤ 1000000000)
  (k:∀ a' c' m',WaysAt m0 m' (some a') c' (P ++ [p]) (R ++ [r]) → Mem.le m0 m' → (∀ b L,m b = some (Cells L 3) → m' b = some (Cells L 3)) → K (.slice (some a') (P.length + 1) c') m') :
  WApp m TY 2 32 [i 0,ns] a P.length c (some ⟨bx,0,none⟩) 1 K:=by
 refine h.lst.push rfl hx rfl rfl (by omega) fun b' o' c' m' h1 h2 h3=>?_
 have hint:∀ b L,m b = some (Cells L 3) → m' b = some (Cells L 3):=fun b L hb=>by
  have hne:b ≠ b':=fun e=>by
   subst e
   rcases h2 with h2 | ⟨o,h2⟩
   ·rw [hb] at h2;cases h2
   ·exact h.ne h2 hb rfl
  rw [h3 b hne];exact hb
 have hb0:m0 b' = none:=by
  rcases h2 with h2 | ⟨o,h2⟩
  ·exact none_of_le hle h2
  ·exact h.fr _ h2
 refine k ⟨b',o',none⟩ c' m' ⟨by simp [h.rl],?_,fun j q s hp hs=>?_,fun ad had=>by cases had;exact hb0,fun s hs=>?_⟩ (fun b o hb=>?_) hint
 ·rw [wayC_app h.rl,List.length_append];exact h1
 ·have hjl:j < P.length ∨ j = P.length:=by
   have:=(List.getElem?_eq_some_iff.1 hp).1
   simp at this;omega
  rcases hjl with hj | hj
  ·rw [List.getElem?_append_left hj] at hp
   rw [List.getElem?_append_left (by rw [h.rl];exact hj)] at hs
   obtain ⟨rest,g1,g2⟩:=h.row j q s hp hs
   exact ⟨rest,hint _ _ g1,g2⟩
  ·subst hj
   rw [List.getElem?_append_right (Nat.le_refl _),Nat.sub_self] at hp
   rw [← h.rl,List.getElem?_append_right (Nat.le_refl _),Nat.sub_self] at hs
   cases hp;cases hs
   obtain ⟨rest,g1,g2⟩:=hr
   exact ⟨rest,hint _ _ g1,g2⟩
 ·rcases List.mem_append.1 hs with hs | hs
  ·exact h.frr s hs
  ·rw [List.mem_singleton] at hs;subst hs;exact hr0
 ·have hne:b ≠ b':=fun e=>by subst e;rw [hb0] at hb;cases hb
  rw [h3 b hne];exact hle _ _ hb
end
theorem le_setF {m0 m:Mem} (h:Mem.le m0 m) {b:Nat} (hb:m0 b = none) {o:Obj}:Mem.le m0 (m.set b o):=fun b' o' h'=>by
 rw [Mem.set_other _ _ (ne_free h' hb)];exact h _ _ h'
theorem set_rowN {w:List Nat} {rest:List Value} {r x:Nat} (h:r < w.length):spliceL (numL w ++ rest) r [i (x:Int)] = numL (w.set r x) ++ rest:=by
 rw [spliceL_eq _ _ _ (by simp;omega)]
 have hl:(numL w).length = w.length:=by simp
 rw [List.take_append_of_le_length (by omega),List.drop_append_of_le_length (by simp;omega)]
 rw [List.set_eq_take_append_cons_drop,if_pos h]
 simp [numL,List.map_take,List.map_drop]
def preN (w:List Nat) (r:Nat):List Nat:=(decW w).take r ++ List.replicate (w.length - r) 0
theorem preN_len (w:List Nat) {r:Nat} (h:r ≤ w.length):(preN w r).length = w.length:=by
 unfold preN;simp [dec_len];omega
theorem preN_set (w:List Nat) {r:Nat} (h:r < w.length):(preN w r).set r (w.getD r 0 - 1) = preN w (r + 1):=by
 unfold preN
 have e1:((decW w).take r).length = r:=by rw [List.length_take,dec_len];omega
 rw [List.set_append_right _ _ (by omega),e1,Nat.sub_self,show w.length - r = (w.length - (r + 1)) + 1 by omega,List.replicate_succ,List.set_cons_zero,List.take_add_one]
 rw [List.getElem?_eq_getElem (by rw [dec_len];exact h)]
 have:(decW w)[r]'(by rw [dec_len];exact h) = w.getD r 0 - 1:=by
  rw [← dec_get,List.getD_eq_getElem?_getD,List.getElem?_eq_getElem];rfl
 rw [this]
 simp
theorem preN_all (w:List Nat):preN w w.length = decW w:=by
 unfold preN;rw [Nat.sub_self,List.take_of_length_le (by rw [dec_len];exact Nat.le_refl _)];simp
theorem dec_stepN {M:Mac} {w:List Nat} {o:OpR} {d:Nat} (h:wrS o = some d):(decW w).set d (max ((decW w).getD d 0) (dlS M o - 1)) = decW (stepW M w o):=by
 unfold stepW
 rw [h]
 simp only
 rw [dec_get]
 unfold decW
 rw [List.map_set]
 congr 1
 omega
theorem numL_cell {m:Mem} {b:Nat} {w:List Nat} {rest:List Value} (h:m b = some (Cells (numL w ++ rest) 3)) {r:Nat} (hr:r < w.length):CellAt m ((⟨b,0,none⟩:Addr).add r) (i ((w.getD r 0:Nat):Int)) :=
 CellsAt.blk h (off:=0) (vs:=numL w) (fun j v hj=>by rw [Nat.zero_add,List.getElem?_append_left (List.getElem?_eq_some_iff.1 hj).1];exact hj) r _ (by
  rw [List.getElem?_map,List.getD_eq_getElem?_getD,List.getElem?_eq_getElem hr];rfl)
theorem waysR_at {C:CodeR} {M:Mac} {k:Nat} {ct:Int} {ops:List OpR} {w:List Nat} {j:Nat} (hj:j < ops.length) {P:List (Nat × List Nat)} (h:waysR C M k ct ops w = P ++ waysR C M k ct (ops.drop j) (nowAt M ops w j)) :
  waysR C M k ct ops w = P ++ ((if mayTrapS ops[j] = true ∧ 0 ≤ ct then [(ct.toNat,zerosW C)] else []) ++ ((if ops[j].kd = 21 ∨ ops[j].kd = 26 then [(ops[j].n.toNat,decW (nowAt M ops w j))] else []) ++ (if leavesS ops[j] = true then [] else waysR C M k ct (ops.drop (j + 1)) (nowAt M ops w (j + 1))))):=by
 rw [h,drop_cons hj,now_succ hj];rfl
set_option maxHeartbeats 4000000 in
theorem rWays_ok {m0:Mem} (V:CV) {C:CodeR} (M:Mac) (hV:CodeAt m0 V C) (hC:CodeOK C) (hM:M.ok = true) {k:Nat} (hk:k < C.ws.length) {w:List Nat} (hwl:w.length = C.rg.toNat) (hub:∀ x ∈ w,x ≤ 8) (hol:(wordAt C k).ops.length ≤ 400) (hops:∀ o ∈ (wordAt C k).ops,OpOK C o) {rb rc:Nat} {rr:List Value} (hw:m0 rb = some (Cells (numL w ++ rr) 3)) :
  CallsM Tryz.prog 56 [V.val C,M.val,i k,.slice (some ⟨rb,0,none⟩) w.length rc] m0 fun e m'=>∃ a c R,e = .returned (.slice a (waysR C M k (wordAt C k).ct (wordAt C k).ops w).length c) ∧ Mem.le m0 m' ∧ WaysAt m0 m' a c (waysR C M k (wordAt C k).ct (wordAt C k).ops w) R:=by
 refine calls_of mixed Tryz.func56 okw_biremeref27_ways rfl ?_
 have hn2:=hV.n2
 have hrg:=hC.rg
 have hwl':=hC.wl
 obtain ⟨ad,a3,c3,had,hcells,hO⟩:=word_cells hV hk
 generalize hops':(wordAt C k).ops = ops at *
 generalize hct':(wordAt C k).ct = ct at *
 conv=>whnf
 rw [hn2]
 refine WIdx.mk ad had ⟨by omega,by omega⟩ ?_
 conv=>whnf
 refine WLds.mk [.slice a3 ops.length c3,i ct] (by simpa using hcells) rfl ?_
 conv=>whnf
 refine WMake.mk ⟨by omega,Int.le_refl _,by omega⟩ fun nb hnb=>?_
 have l1:=Mem.le_set (o:=Cells (List.replicate (Int.toNat (w.length:Int)) [i 0]).flatten 3) hnb
 have cn:m0.set nb (Cells (List.replicate (Int.toNat (w.length:Int)) [i 0]).flatten 3) nb = some (Cells (numL (preN w 0)) 3):=by
  rw [Mem.set_same,Int.toNat_natCast]
  have:(List.replicate w.length [i 0]).flatten = numL (preN w 0):=by simp [preN]
  rw [this]
 have hwn:rb ≠ nb:=ne_free hw hnb
 have hw1:=l1 _ _ hw
 generalize m0.set nb (Cells (List.replicate (Int.toNat (w.length:Int)) [i 0]).flatten 3) = m1 at l1 cn hw1 ⊢
 conv=>whnf
 refine WLoop.mk Nat (fun r=>[(11,.val (i r))]) (fun r m'=>r ≤ w.length ∧ Mem.le m0 m' ∧ m' nb = some (Cells (numL (preN w r)) 3)) (fun r=>w.length - r) 0 ⟨rfl,trivial⟩ ⟨Nat.zero_le _,l1,cn⟩ ?_
 rintro r m2 ⟨hr,l2,c2⟩
 conv=>whnf
 refine Br.mk (fun hb=>?_) (fun hb=>?_)
 ·have hr2:r < w.length:=by
   have:(r:Int) < (w.length:Nat):=of_decide_eq_true hb
   omega
  have hx8:w.getD r 0 ≤ 8:=by
   rw [List.getD_eq_getElem?_getD,List.getElem?_eq_getElem hr2];exact hub _ (List.getElem_mem hr2)
  conv=>whnf
  refine WIdx.mk _ rfl ⟨by omega,by omega⟩ ?_
  conv=>whnf
  refine WLd.mk (i ((w.getD r 0:Nat):Int)) (by simpa using numL_cell (l2 _ _ hw) hr2) ?_
  conv=>whnf
  refine WRng.mk (by apply wrap_i64 <;> omega) ?_
  conv=>whnf
  refine WIdx.mk _ rfl ⟨by omega,by rw [Int.toNat_natCast];omega⟩ ?_
  conv=>whnf
  have e0:(if (0:Int) > ((w.getD r 0:Nat):Int) - 1 then (0:Int) else ((w.getD r 0:Nat):Int) - 1) = ((w.getD r 0 - 1:Nat):Int):=by split <;> omega
  show WSt m2 ((⟨nb,0,none⟩:Addr).add ((r:Int).toNat * 1)) [i (if (0:Int) > ((w.getD r 0:Nat):Int) - 1 then (0:Int) else ((w.getD r 0:Nat):Int) - 1)] _
  rw [Int.toNat_natCast,Nat.mul_one,e0]
  have hpl:=preN_len w hr
  refine WSt.at _ _ c2 (by simp [hpl];omega) ?_
  have es:spliceL (numL (preN w r)) r [i ((w.getD r 0 - 1:Nat):Int)] = numL (preN w (r + 1)):=by
   have:=set_rowN (w:=preN w r) (rest:=[]) (r:=r) (x:=w.getD r 0 - 1) (by omega)
   rw [List.append_nil,List.append_nil] at this
   rw [this,preN_set w hr2]
  rw [es]
  conv=>whnf
  refine WRng.mk (by apply wrap_i64 <;> omega) ?_
  conv=>whnf
  refine ⟨r + 1,⟨rfl,trivial⟩,⟨hr2,le_setF l2 hnb,by rw [Mem.set_same]⟩,Nat.sub_lt_sub_left hr2 (Nat.lt_succ_self r)⟩
 ·have hr2:r = w.length:=by
   have:¬ (r:Int) < (w.length:Nat):=of_decide_eq_false hb
   omega
  subst hr2
  rw [preN_all] at c2
  conv=>whnf
  refine WLoop.mk (Nat × Option Addr × Nat × List (Nat × List Nat) × List (Nat × Nat)) (fun s=>[(12,.val (.slice s.2.1 s.2.2.2.1.length s.2.2.1)),(13,.val (i s.1))])
   (fun s m'=>s.1 ≤ ops.length ∧ Mem.le m0 m' ∧ m' nb = some (Cells (numL (decW (nowAt M ops w s.1))) 3) ∧ WaysAt m0 m' s.2.1 s.2.2.1 s.2.2.2.1 s.2.2.2.2 ∧ (∀ r ∈ s.2.2.2.2,r.1 ≠ nb) ∧ s.2.2.2.1.length ≤ 2 * s.1 ∧ waysR C M k ct ops w = s.2.2.2.1 ++ waysR C M k ct (ops.drop s.1) (nowAt M ops w s.1))
   (fun s=>ops.length - s.1) (0,none,0,[],[]) ⟨rfl,rfl,trivial⟩ ⟨Nat.zero_le _,l2,c2,WaysAt.nil _ _,(fun r h=>by cases h),Nat.zero_le _,rfl⟩ ?_
  rintro ⟨j,a,c,P,R⟩ m3 ⟨hj,l3,c3,hW,hR,hPl,hP⟩
  simp only at hj l3 c3 hW hR hPl hP
  conv=>whnf
  refine Br.mk (fun hb=>?_) (fun hb=>?_)
  ·have hj2:j < ops.length:=by
    have:(j:Int) < (ops.length:Nat):=of_decide_eq_true hb
    omega
   obtain ⟨ad2,e2,hop⟩:=op_at hO l3 hj2
   have hP2:=waysR_at hj2 hP
   have hok:=hops _ (List.getElem_mem hj2)
   have hns:=now_succ (M:=M) (w0:=w) hj2
   generalize ops[j] = o at *
   conv=>whnf
   refine WIdx.mk ad2 e2 ⟨by omega,by omega⟩ ?_
   conv=>whnf
   refine WLds.mk o.cells (by simpa using hop) rfl ?_
   conv=>whnf
   refine WJoin.mk (Option Addr × Nat × List (Nat × List Nat) × List (Nat × Nat)) (fun s=>[(12,.val (.slice s.1 s.2.2.1.length s.2.1))])
    (fun s m'=>Mem.le m0 m' ∧ m' nb = some (Cells (numL (decW (nowAt M ops w j))) 3) ∧ WaysAt m0 m' s.1 s.2.1 s.2.2.1 s.2.2.2 ∧ (∀ r ∈ s.2.2.2,r.1 ≠ nb) ∧ s.2.2.1 = P ++ (if mayTrapS o = true ∧ 0 ≤ ct then [(ct.toNat,zerosW C)] else [])) ?_ ?_
   ·conv=>whnf
    refine WCall.pure (refTraps_ok m3 o) ?_
    conv=>whnf
    refine WSc.mk (v:=decide (ct ≥ 0)) (fun _=>And.intro (Mem.le.refl _) rfl) ?_
    conv=>whnf
    refine Br.mk (fun ht=>?_) (fun ht=>?_)
    ·have ht:(mayTrapS o && decide (ct ≥ 0)) = true:=ht
     rw [Bool.and_eq_true,decide_eq_true_eq] at ht
     conv=>whnf
     refine ⟨?_,trivial⟩
     conv=>whnf
     refine WMake.mk ⟨by omega,Int.le_refl _,by omega⟩ fun zb hzb=>?_
     have l5:=Mem.le_set (o:=Cells (List.replicate (Int.toNat (w.length:Int)) [i 0]).flatten 3) hzb
     have cz:m3.set zb (Cells (List.replicate (Int.toNat (w.length:Int)) [i 0]).flatten 3) zb = some (Cells (numL (zerosW C)) 3):=by
      rw [Mem.set_same,Int.toNat_natCast]
      have:(List.replicate w.length [i 0]).flatten = numL (zerosW C):=by rw [hwl];simp [zerosW]
      rw [this]
     have hW5:=hW.mono l5
     have c5:=l5 _ _ c3
     have hzn:zb ≠ nb:=(ne_free c3 hzb).symm
     have hz0:=none_of_le l3 hzb
     generalize m3.set zb (Cells (List.replicate (Int.toNat (w.length:Int)) [i 0]).flatten 3) = m5 at l5 cz hW5 c5 ⊢
     conv=>whnf
     refine ⟨?_,trivial⟩
     conv=>whnf
     refine WNew.ab fun bx m6 hbx l6 cx=>?_
     conv=>whnf
     refine ⟨?_,trivial⟩
     conv=>whnf
     have hzl:(zerosW C).length = w.length:=by rw [hwl];simp [zerosW]
     have cx2:m6 bx = some (Cells [i ((ct.toNat:Nat):Int),.slice (some ⟨zb,0,none⟩) (zerosW C).length w.length] TY):=by
      rw [hzl,show ((ct.toNat:Nat):Int) = ct by omega];exact cx
     refine (hW5.mono l6).push (p:=(ct.toNat,zerosW C)) (r:=(zb,w.length)) ((l3.trans l5).trans l6) cx2 ⟨[],by rw [List.append_nil];exact l6 _ _ cz,by rw [hzl];exact Nat.le_refl _⟩ hz0 (by omega) fun a7 c7 m7 hW7 l7 hi7=>?_
     conv=>whnf
     refine ⟨(some a7,c7,P ++ [(ct.toNat,zerosW C)],R ++ [(zb,w.length)]),⟨?_,trivial⟩,l7,hi7 _ _ (l6 _ _ c5),hW7,fun r hr=>?_,?_⟩
     ·show some (AV.val (.slice (some a7) (P.length + 1) c7)) = some (AV.val (.slice (some a7) (P ++ [(ct.toNat,zerosW C)]).length c7))
      rw [List.length_append];rfl
     ·rcases List.mem_append.1 hr with hr | hr
      ·exact hR r hr
      ·rw [List.mem_singleton] at hr;subst hr;exact hzn
     ·rw [if_pos ht]
    ·have ht:(mayTrapS o && decide (ct ≥ 0)) = false:=ht
     conv=>whnf
     refine ⟨(a,c,P,R),⟨rfl,trivial⟩,l3,c3,hW,hR,?_⟩
     rw [if_neg (fun h=>by rw [h.1,decide_eq_true h.2] at ht;cases ht),List.append_nil]
   rintro ⟨a4,c4,P4,R4⟩ m4 ⟨l4,cn4,hW4,hR4,hP4⟩
   simp only at l4 cn4 hW4 hR4 hP4
   rw [← List.append_assoc,← hP4] at hP2
   have hP4l:P4.length ≤ 2 * j + 1:=by
    rw [hP4,List.length_append];split
    ·simp;omega
    ·simp;omega
   conv=>whnf
   refine WJoin.mk (Option Addr × Nat × List (Nat × List Nat) × List (Nat × Nat)) (fun s=>[(12,.val (.slice s.1 s.2.2.1.length s.2.1))])
    (fun s m'=>Mem.le m0 m' ∧ m' nb = some (Cells (numL (decW (nowAt M ops w j))) 3) ∧ WaysAt m0 m' s.1 s.2.1 s.2.2.1 s.2.2.2 ∧ (∀ r ∈ s.2.2.2,r.1 ≠ nb) ∧ s.2.2.1 = P4 ++ (if o.kd = 21 ∨ o.kd = 26 then [(o.n.toNat,decW (nowAt M ops w j))] else [])) ?_ ?_
   ·conv=>whnf
    refine WSc.mk (v:=o.kd == 26) (fun _=>And.intro (Mem.le.refl _) rfl) ?_
    conv=>whnf
    refine Br.mk (fun ht=>?_) (fun ht=>?_)
    ·have ht:(o.kd == 21 || o.kd == 26) = true:=ht
     rw [Bool.or_eq_true,beq_iff_eq,beq_iff_eq] at ht
     have hon:=hok.n.2.2 ht
     conv=>whnf
     refine ⟨?_,trivial⟩
     refine WNew.mk fun b1 hb1=>?_
     conv=>whnf
     refine ⟨?_,trivial⟩
     conv=>whnf
     have hnl:(decW (nowAt M ops w j)).length = w.length:=by rw [dec_len,now_len]
     have hc5:CellsAt m4 ⟨nb,0,none⟩ (numL (decW (nowAt M ops w j))):=CellsAt.blk cn4 fun q v hq=>by rw [Nat.zero_add];exact hq
     refine WApp.copyB hb1 (A:=some ⟨nb,0,none⟩) (n:=w.length) rfl rfl (numL (decW (nowAt M ops w j))) ⟨by simp [hnl],fun ad had=>by cases had;exact hc5⟩ (fun h=>by cases h) (by omega) fun b5 cb5 m5 rest5 l5 hcb5 hb5 hc6=>?_
     have hW5:=hW4.mono l5
     have c5:=l5 _ _ cn4
     have hzn:b5 ≠ nb:=(ne_free cn4 hb5).symm
     have hz0:=none_of_le l4 hb5
     conv=>whnf
     refine ⟨?_,trivial⟩
     conv=>whnf
     refine WNew.ab fun bx m6 hbx l6 cx=>?_
     conv=>whnf
     refine ⟨?_,trivial⟩
     conv=>whnf
     have cx2:m6 bx = some (Cells [i ((o.n.toNat:Nat):Int),.slice (some ⟨b5,0,none⟩) (decW (nowAt M ops w j)).length cb5] TY):=by
      rw [hnl,show ((o.n.toNat:Nat):Int) = o.n by omega];exact cx
     refine (hW5.mono l6).push (p:=(o.n.toNat,decW (nowAt M ops w j))) (r:=(b5,cb5)) ((l4.trans l5).trans l6) cx2 ⟨rest5,l6 _ _ hc6,by rw [hnl];exact hcb5⟩ hz0 (by omega) fun a7 c7 m7 hW7 l7 hi7=>?_
     conv=>whnf
     refine ⟨(some a7,c7,P4 ++ [(o.n.toNat,decW (nowAt M ops w j))],R4 ++ [(b5,cb5)]),⟨?_,trivial⟩,l7,hi7 _ _ (l6 _ _ c5),hW7,fun r hr=>?_,?_⟩
     ·show some (AV.val (.slice (some a7) (P4.length + 1) c7)) = some (AV.val (.slice (some a7) (P4 ++ [(o.n.toNat,decW (nowAt M ops w j))]).length c7))
      rw [List.length_append];rfl
     ·rcases List.mem_append.1 hr with hr | hr
      ·exact hR4 r hr
      ·rw [List.mem_singleton] at hr;subst hr;exact hzn
     ·rw [if_pos ht]
    ·have ht:(o.kd == 21 || o.kd == 26) = false:=ht
     conv=>whnf
     refine ⟨(a4,c4,P4,R4),⟨rfl,trivial⟩,l4,cn4,hW4,hR4,?_⟩
     rw [if_neg (fun h=>by rcases h with h | h <;> rw [h] at ht <;> cases ht),List.append_nil]
   rintro ⟨a8,c8,P8,R8⟩ m8 ⟨l8,cn8,hW8,hR8,hP8⟩
   simp only at l8 cn8 hW8 hR8 hP8
   rw [← List.append_assoc,← hP8] at hP2
   have hP8l:P8.length ≤ 2 * j + 2:=by
    rw [hP8,List.length_append];split
    ·simp;omega
    ·simp;omega
   conv=>whnf
   refine WCall.pure (rLeaves_ok m8 o) ?_
   conv=>whnf
   refine Br.mk (fun hl=>?_) (fun hl=>?_)
   ·rw [if_pos hl,List.append_nil] at hP2
    conv=>whnf
    refine WRet.same ⟨a8,c8,R8,?_,l8,?_⟩
    ·rw [hP2];rfl
    ·rw [hP2];exact hW8
   ·rw [if_neg (by rw [hl];decide)] at hP2
    conv=>whnf
    refine WCall.pure (refWrites_ok m8 o hok.kd) ?_
    conv=>whnf
    refine Br.mk (fun hu=>?_) (fun hu=>?_)
    ·have hu:uD o.kd = true:=hu
     rw [if_pos hu]
     have hds:=hok.ds
     have hnl:(decW (nowAt M ops w j)).length = w.length:=by rw [dec_len,now_len]
     have hdn:o.ds.toNat < (decW (nowAt M ops w j)).length:=by rw [hnl,hwl];omega
     have hdl:=dl_le hM o
     have hn8:(decW (nowAt M ops w j)).getD o.ds.toNat 0 ≤ 8:=by
      have h8:=now_ub (fun o=>(dl_le hM o).2) (ops:=ops) hub j
      have:(nowAt M ops w j).getD o.ds.toNat 0 ≤ 8:=by
       rw [List.getD_eq_getElem?_getD]
       cases hg:(nowAt M ops w j)[o.ds.toNat]? with
       | none=>exact Nat.zero_le _
       | some x=>exact h8 x (List.mem_of_getElem? hg)
      rw [dec_get];omega
     conv=>whnf
     refine WIdx.mk _ rfl ⟨hds.1,by rw [Int.toNat_natCast];omega⟩ ?_
     conv=>whnf
     refine WLd.mk (i (((decW (nowAt M ops w j)).getD o.ds.toNat 0:Nat):Int)) (by simpa using numL_cell (rest:=[]) (by rw [List.append_nil];exact cn8) hdn) ?_
     conv=>whnf
     refine ⟨?_,trivial⟩
     conv=>whnf
     refine WCallG.mk (refLat_ok m8 M o.kd) ?_
     rintro _ m9 ⟨rfl,e9⟩
     have e9:=e9.symm
     subst e9
     refine ⟨Mem.le.refl _,?_⟩
     have hlat:M.lat (classS o.kd).1.toNat = ((dlS M o:Nat):Int):=by
      have:=hdl.1;unfold dlS at this ⊢;omega
     rw [hlat]
     conv=>whnf
     refine WRng.mk (by apply wrap_i64 <;> omega) ?_
     conv=>whnf
     refine WIdx.mk _ rfl ⟨hds.1,by rw [Int.toNat_natCast];omega⟩ ?_
     conv=>whnf
     refine ⟨?_,trivial⟩
     conv=>whnf
     generalize hx:(decW (nowAt M ops w j)).getD o.ds.toNat 0 = x0 at *
     have e0:(if ((dlS M o:Nat):Int) - 1 > (x0:Int) then ((dlS M o:Nat):Int) - 1 else (x0:Int)) = ((max x0 (dlS M o - 1):Nat):Int):=by split <;> omega
     show WSt m8 ((⟨nb,0,none⟩:Addr).add (o.ds.toNat * 1)) [i (if ((dlS M o:Nat):Int) - 1 > (x0:Int) then ((dlS M o:Nat):Int) - 1 else (x0:Int))] _
     rw [Nat.mul_one,e0]
     refine WSt.at _ _ cn8 (by simp;omega) ?_
     have es:spliceL (numL (decW (nowAt M ops w j))) o.ds.toNat [i ((max x0 (dlS M o - 1):Nat):Int)] = numL (decW (nowAt M ops w (j + 1))):=by
      have:=set_rowN (w:=decW (nowAt M ops w j)) (rest:=[]) (r:=o.ds.toNat) (x:=max x0 (dlS M o - 1)) hdn
      rw [List.append_nil,List.append_nil] at this
      rw [this,hns,← dec_stepN (wr_get o hu),hx]
     rw [es]
     conv=>whnf
     refine WRng.mk (by apply wrap_i64 <;> omega) ?_
     conv=>whnf
     refine ⟨(j + 1,a8,c8,P8,R8),⟨rfl,rfl,trivial⟩,⟨hj2,le_setF l8 hnb,by rw [Mem.set_same],hW8.setRow cn8 hR8,hR8,by show P8.length ≤ 2 * (j + 1);omega,hP2⟩,Nat.sub_lt_sub_left hj2 (Nat.lt_succ_self j)⟩
    ·have hu:uD o.kd = false:=hu
     conv=>whnf
     refine WRng.mk (by apply wrap_i64 <;> omega) ?_
     conv=>whnf
     have hnn:nowAt M ops w (j + 1) = nowAt M ops w j:=by rw [hns];unfold stepW;rw [wr_none o hu]
     refine ⟨(j + 1,a8,c8,P8,R8),⟨rfl,rfl,trivial⟩,⟨hj2,l8,by rw [hnn];exact cn8,hW8,hR8,by show P8.length ≤ 2 * (j + 1);omega,hP2⟩,Nat.sub_lt_sub_left hj2 (Nat.lt_succ_self j)⟩
  ·have hj2:j = ops.length:=by
    have:¬ (j:Int) < (ops.length:Nat):=of_decide_eq_false hb
    omega
   subst hj2
   rw [List.drop_length] at hP
   conv=>whnf
   refine WRng.mk (by apply wrap_i64 <;> omega) ?_
   conv=>whnf
   refine WNew.ab fun bx m6 hbx l6 cx=>?_
   conv=>whnf
   have hnl:(decW (nowAt M ops w ops.length)).length = w.length:=by rw [dec_len,now_len]
   have cx2:m6 bx = some (Cells [i ((k + 1:Nat):Int),.slice (some ⟨nb,0,none⟩) (decW (nowAt M ops w ops.length)).length w.length] TY):=by
    rw [hnl];exact cx
   refine (hW.mono l6).push (p:=(k + 1,decW (nowAt M ops w ops.length))) (r:=(nb,w.length)) (l3.trans l6) cx2 ⟨[],by rw [List.append_nil];exact l6 _ _ c3,by rw [hnl];exact Nat.le_refl _⟩ hnb (by omega) fun a7 c7 m7 hW7 l7 hi7=>?_
   conv=>whnf
   have hP3:waysR C M k ct ops w = P ++ [(k + 1,decW (nowAt M ops w ops.length))]:=hP
   refine WRet.same ⟨some a7,c7,R ++ [(nb,w.length)],?_,l7,?_⟩
   ·rw [hP3,List.length_append];rfl
   ·rw [hP3];exact hW7
end Go.Proofs.YtleofbpepfmfgaaGreatDoor
set_option linter.unusedSimpArgs false
set_option linter.unusedVariables false
set_option maxRecDepth 100000
namespace Go.Proofs.YtleofbpepfmfgaaGreatDoor
open Go Go.Vx
open Go.Vx.IOp Go.Vx.IR Go.Vx.Opd
abbrev TO:TypeId:=22
def rowR (rb:Nat → Nat) (k:Nat):Option (List Nat) → Value
 | none=>.slice none 0 0
 | some w=>.slice (some ⟨rb k,0,none⟩) w.length w.length
structure OutsAt (m:Mem) (ob:Nat) (rb:Nat → Nat) (A:WS):Prop where
 out:∃ L:List Value,m ob = some (Cells L TO) ∧ L.length = A.length ∧ ∀ (k:Nat) (x:Option (List Nat)),A[k]? = some x → L[k]? = some (rowR rb k x)
 row:∀ (k:Nat) (w:List Nat),A[k]? = some (some w) → m (rb k) = some (Cells (numL w) 3)
 inj:∀ (j k:Nat) (v w:List Nat),A[j]? = some (some v) → A[k]? = some (some w) → rb j = rb k → j = k
structure RW where
 rb:Nat → Nat
 A:WS
 a:Option Addr
 c:Nat
 W:List Nat
def RW.foot (ob:Nat) (S:RW) (b:Nat):Prop:=b = ob ∨ (∃ (k:Nat) (w:List Nat),S.A[k]? = some (some w) ∧ b = S.rb k) ∨ ∃ ad,S.a = some ad ∧ b = ad.block
structure RWAt (m:Mem) (ob:Nat) (S:RW):Prop where
 outs:OutsAt m ob S.rb S.A
 todo:LstAt m 3 1 S.a S.W.length S.c (numL S.W)
 dis:∀ (k:Nat) (w:List Nat) ad,S.A[k]? = some (some w) → S.a = some ad → ad.block ≠ S.rb k
section
variable {m m':Mem} {ob:Nat} {S:RW}
theorem RWAt.todoCells (h:RWAt m ob S) {ad:Addr} (ha:S.a = some ad):∃ L,m ad.block = some (Cells L 3):=by
 obtain ⟨b,pre,rest,e,h1,_⟩:=h.todo.at' ad ha
 subst e;exact ⟨_,h1⟩
theorem RWAt.live (h:RWAt m ob S) {b:Nat} (hb:S.foot ob b):∃ o,m b = some o:=by
 rcases hb with rfl | ⟨k,w,hk,rfl⟩ | ⟨ad,ha,rfl⟩
 ·obtain ⟨L,h1,_⟩:=h.outs.out;exact ⟨_,h1⟩
 ·exact ⟨_,h.outs.row k w hk⟩
 ·obtain ⟨L,hL⟩:=h.todoCells ha;exact ⟨_,hL⟩
theorem RWAt.same (h:RWAt m ob S) (hk:∀ b o,S.foot ob b → m b = some o → m' b = some o):RWAt m' ob S where
 outs:=⟨by obtain ⟨L,h1,h2⟩:=h.outs.out;exact ⟨L,hk _ _ (.inl rfl) h1,h2⟩,fun k w hw=>hk _ _ (.inr (.inl ⟨k,w,hw,rfl⟩)) (h.outs.row k w hw),h.outs.inj⟩
 todo:=h.todo.same fun ad o ha ho=>hk _ _ (.inr (.inr ⟨ad,ha,rfl⟩)) ho
 dis:=h.dis
theorem RWAt.mono (h:RWAt m ob S) (hle:Mem.le m m'):RWAt m' ob S:=h.same fun b o _ ho=>hle b o ho
theorem RWAt.cellRow (h:RWAt m ob S) {k:Nat} {x:Option (List Nat)} (hk:S.A[k]? = some x):CellAt m ((⟨ob,0,none⟩:Addr).add k) (rowR S.rb k x):=by
 obtain ⟨L,h1,h2,h3⟩:=h.outs.out
 exact CellsAt.blk h1 (off:=0) (vs:=L) (fun j v hj=>by rw [Nat.zero_add];exact hj) k _ (h3 k x hk)
theorem RWAt.setRow (h:RWAt m ob S) {k:Nat} {w w':List Nat} (hk:S.A[k]? = some (some w)) (hl:w'.length = w.length):RWAt (m.set (S.rb k) (Cells (numL w') 3)) ob { S with A:=S.A.set k (some w') }:=by
 have hkl:k < S.A.length:=(List.getElem?_eq_some_iff.1 hk).1
 have hr:=h.outs.row k w hk
 obtain ⟨L,h1,h2,h3⟩:=h.outs.out
 have hob:ob ≠ S.rb k:=ne_type h1 hr (by decide)
 have hget:∀ (j:Nat) (v:List Nat),(S.A.set k (some w'))[j]? = some (some v) → ∃ u:List Nat,S.A[j]? = some (some u):=fun j v hj=>by
  rw [set_get hkl] at hj
  split at hj
  ·rename_i e;subst e;exact ⟨w,hk⟩
  ·exact ⟨v,hj⟩
 refine ⟨⟨⟨L,by rw [Mem.set_other _ _ hob];exact h1,by simp [h2],fun j x hj=>?_⟩,fun j v hj=>?_,fun i j v u hi hj e=>?_⟩,?_,fun j v ad hj ha=>?_⟩
 ·replace hj:(S.A.set k (some w'))[j]? = some x:=hj
  rw [set_get hkl] at hj
  split at hj
  ·rename_i e;subst e;cases hj
   rw [h3 k _ hk]
   simp [rowR,hl]
  ·exact h3 j x hj
 ·replace hj:(S.A.set k (some w'))[j]? = some (some v):=hj
  rw [set_get hkl] at hj
  split at hj
  ·rename_i e;subst e;cases hj;exact Mem.set_same _ _ _
  ·rename_i e
   have:S.rb j ≠ S.rb k:=fun e2=>e (h.outs.inj j k v w hj hk e2).symm
   show (m.set (S.rb k) _) (S.rb j) = _
   rw [Mem.set_other _ _ this];exact h.outs.row j v hj
 ·obtain ⟨v',hv⟩:=hget i v hi
  obtain ⟨u',hu⟩:=hget j u hj
  exact h.outs.inj i j v' u' hv hu e
 ·exact h.todo.same fun ad o ha ho=>by rw [Mem.set_other _ _ (h.dis k w ad hk ha)];exact ho
 ·obtain ⟨u,hu⟩:=hget j v hj
  exact h.dis j u ad hu ha
theorem RW.foot_setRow {k:Nat} {w w':List Nat} (hk:S.A[k]? = some (some w)) {b:Nat} (hb:({ S with A:=S.A.set k (some w') }:RW).foot ob b):S.foot ob b:=by
 rcases hb with hb | ⟨j,v,hj,hb⟩ | hb
 ·exact .inl hb
 ·refine .inr (.inl ?_)
  have hj:(S.A.set k (some w'))[j]? = some (some v):=hj
  rw [set_get (List.getElem?_eq_some_iff.1 hk).1] at hj
  split at hj
  ·rename_i e;subst e;exact ⟨k,w,hk,hb⟩
  ·exact ⟨j,v,hj,hb⟩
 ·exact .inr (.inr hb)
def RW.newRow (S:RW) (k b:Nat) (w:List Nat):RW:={ S with A:=S.A.set k (some w),rb:=fun j=>if j = k then b else S.rb j }
theorem RWAt.newRow (h:RWAt m ob S) {k b:Nat} {w:List Nat} (hk:S.A[k]? = some none) (hb:m b = none) {L:List Value} (hL:m ob = some (Cells L TO)) :
  RWAt ((m.set b (Cells (numL w) 3)).set ob (Cells (spliceL L k [.slice (some ⟨b,0,none⟩) w.length w.length]) TO)) ob (S.newRow k b w):=by
 have hkl:k < S.A.length:=(List.getElem?_eq_some_iff.1 hk).1
 obtain ⟨L',h1,h2,h3⟩:=h.outs.out
 rw [hL] at h1;cases h1
 have hbo:b ≠ ob:=(ne_free hL hb).symm
 have hbr:∀ (j:Nat) (v:List Nat),S.A[j]? = some (some v) → S.rb j ≠ b:=fun j v hj=>ne_free (h.outs.row j v hj) hb
 have hro:∀ (j:Nat) (v:List Nat),S.A[j]? = some (some v) → S.rb j ≠ ob:=fun j v hj=>ne_type (h.outs.row j v hj) hL (by decide)
 refine ⟨⟨⟨_,Mem.set_same _ _ _,?_,fun j x hj=>?_⟩,fun j v hj=>?_,fun i j v u hi hj e=>?_⟩,?_,fun j v ad hj ha=>?_⟩
 ·show (L.set k _).length = (S.A.set k _).length
  rw [List.length_set,List.length_set,h2]
 ·replace hj:(S.A.set k (some w))[j]? = some x:=hj
  show (L.set k _)[j]? = _
  rw [set_get hkl] at hj
  rw [List.getElem?_set]
  split at hj
  ·rename_i e;subst e;cases hj
   rw [if_pos rfl,if_pos (by rw [h2];exact hkl)]
   simp [rowR,RW.newRow]
  ·rename_i e
   rw [if_neg e,h3 j x hj]
   cases x with
   | none=>rfl
   | some v=>simp only [rowR,RW.newRow];rw [if_neg (fun e2=>e e2.symm)]
 ·replace hj:(S.A.set k (some w))[j]? = some (some v):=hj
  show Mem.set _ _ _ (if j = k then b else S.rb j) = _
  rw [set_get hkl] at hj
  split at hj
  ·rename_i e;subst e;cases hj
   rw [if_pos rfl,Mem.set_other _ _ hbo,Mem.set_same]
  ·rename_i e
   rw [if_neg (fun e2=>e e2.symm),Mem.set_other _ _ (hro j v hj),Mem.set_other _ _ (hbr j v hj)];exact h.outs.row j v hj
 ·replace hi:(S.A.set k (some w))[i]? = some (some v):=hi
  replace hj:(S.A.set k (some w))[j]? = some (some u):=hj
  have e:(if i = k then b else S.rb i) = (if j = k then b else S.rb j):=e
  rw [set_get hkl] at hi hj
  split at hi
  ·rename_i e1
   split at hj
   ·rename_i e2;rw [← e1,← e2]
   ·rename_i e2
    rw [if_pos e1.symm,if_neg (fun e3=>e2 e3.symm)] at e
    exact absurd e.symm (hbr j u hj)
  ·rename_i e1
   split at hj
   ·rename_i e2
    rw [if_neg (fun e3=>e1 e3.symm),if_pos e2.symm] at e
    exact absurd e (hbr i v hi)
   ·rename_i e2
    rw [if_neg (fun e3=>e1 e3.symm),if_neg (fun e3=>e2 e3.symm)] at e
    exact h.outs.inj i j v u hi hj e
 ·exact h.todo.same fun ad o ha ho=>by
   obtain ⟨L2,hL2⟩:=h.todoCells ha
   rw [Mem.set_other _ _ (ne_type hL2 hL (by decide)),Mem.set_other _ _ (ne_free hL2 hb)];exact ho
 ·replace hj:(S.A.set k (some w))[j]? = some (some v):=hj
  show ad.block ≠ (if j = k then b else S.rb j)
  obtain ⟨L2,hL2⟩:=h.todoCells ha
  rw [set_get hkl] at hj
  split at hj
  ·rename_i e;subst e;rw [if_pos rfl];exact ne_free hL2 hb
  ·rename_i e;rw [if_neg (fun e2=>e e2.symm)];exact h.dis j v ad hj ha
theorem RW.foot_newRow {k b0:Nat} {w:List Nat} (hk:S.A[k]? = some none) {b:Nat} (hb:(S.newRow k b0 w).foot ob b):S.foot ob b ∨ b = b0:=by
 rcases hb with hb | ⟨j,v,hj,hb⟩ | hb
 ·exact .inl (.inl hb)
 ·replace hj:(S.A.set k (some w))[j]? = some (some v):=hj
  have hb:b = (if j = k then b0 else S.rb j):=hb
  rw [set_get (List.getElem?_eq_some_iff.1 hk).1] at hj
  split at hj
  ·rename_i e;subst e;rw [if_pos rfl] at hb;exact .inr hb
  ·rename_i e;rw [if_neg (fun e2=>e e2.symm)] at hb;exact .inl (.inr (.inl ⟨j,v,hj,hb⟩))
 ·exact .inl (.inr (.inr hb))
theorem RWAt.push (h:RWAt m ob S) {bx x:Nat} {K:Value → Mem → Prop} (hx:m bx = some (Cells [i (x:Int)] 3)) (hlen:(S.W.length + 1) * 8 ≤ 35184372088832)
  (k:∀ a' c' m',RWAt m' ob { S with a:=some a',c:=c',W:=S.W ++ [x] } → Keep (S.foot ob) m m' → (∀ b,({ S with a:=some a',c:=c',W:=S.W ++ [x] }:RW).foot ob b → S.foot ob b ∨ m b = none) → K (.slice (some a') (S.W.length + 1) c') m') :
  WApp m 3 1 8 [i 0] S.a S.W.length S.c (some ⟨bx,0,none⟩) 1 K:=by
 refine h.todo.push rfl hx rfl rfl hlen fun b' o' c' m' h1 h2 h3=>?_
 have hb':S.foot ob b' ∨ m b' = none:=by
  rcases h2 with h2 | ⟨o,h2⟩
  ·exact .inr h2
  ·exact .inl (.inr (.inr ⟨_,h2,rfl⟩))
 obtain ⟨L,g1,g2,g3⟩:=h.outs.out
 have hob:ob ≠ b':=fun e=>by
  subst e
  rcases h2 with h2 | ⟨o,h2⟩
  ·rw [g1] at h2;cases h2
  ·obtain ⟨L2,hL2⟩:=h.todoCells h2
   exact ne_type g1 hL2 (by decide) rfl
 have hrow:∀ (j:Nat) (v:List Nat),S.A[j]? = some (some v) → S.rb j ≠ b':=fun j v hj e=>by
  subst e
  rcases h2 with h2 | ⟨o,h2⟩
  ·rw [h.outs.row j v hj] at h2;cases h2
  ·exact h.dis j v _ hj h2 rfl
 refine k ⟨b',o',none⟩ c' m' ⟨⟨⟨L,by rw [h3 _ hob];exact g1,g2,g3⟩,fun j v hj=>by rw [h3 _ (hrow j v hj)];exact h.outs.row j v hj,h.outs.inj⟩,?_,fun j v ad hj ha=>?_⟩ (fun b o hb hn=>?_) (fun b hb=>?_)
 ·have e:numL (S.W ++ [x]) = numL S.W ++ [i (x:Int)]:=by simp
  show LstAt m' _ 1 _ (S.W ++ [x]).length _ (numL (S.W ++ [x]))
  rw [e,List.length_append];exact h1
 ·cases ha;exact (hrow j v hj).symm
 ·by_cases e:b = b'
  ·subst e
   rcases hb' with hb' | hb'
   ·exact absurd hb' hn
   ·rw [hb'] at hb;cases hb
  ·rw [h3 b e];exact hb
 ·rcases hb with hb | hb | ⟨ad,ha,hb⟩
  ·exact .inl (.inl hb)
  ·exact .inl (.inr (.inl hb))
  ·cases ha;subst hb;exact hb'
end
end Go.Proofs.YtleofbpepfmfgaaGreatDoor
