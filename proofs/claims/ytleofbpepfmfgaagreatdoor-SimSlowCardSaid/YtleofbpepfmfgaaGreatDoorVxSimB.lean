import Derived.Test.YtleofbpepfmfgaaGreatDoorVxOpen64
import Derived.Test.YtleofbpepfmfgaaGreatDoorVxSimF
set_option linter.unusedSimpArgs false
set_option linter.unusedVariables false
set_option maxRecDepth 100000
namespace Go.Proofs.YtleofbpepfmfgaaGreatDoor
open Go Go.Vx
open Go.Vx.IOp Go.Vx.IR Go.Vx.Opd
theorem useBit {k:Int} (h1:1 ≤ k) (h2:k ≤ 25):(IntKind.i64.wrap (BitVec.ofInt IntKind.i64.bits (useT k) &&& BitVec.ofInt IntKind.i64.bits 1).toNat != 0) = uD k:=by
 rcases kinds h1 h2 with rfl|rfl|rfl|rfl|rfl|rfl|rfl|rfl|rfl|rfl|rfl|rfl|rfl|rfl|rfl|rfl|rfl|rfl|rfl|rfl|rfl|rfl|rfl|rfl|rfl <;> rfl
theorem write_ok {m:Mem} {T:Nat} {fr:Nat × Nat} (hm:m 0 = some (.cells ⟨cells0⟩ T fr)) (o:OpR) (hk:1 ≤ o.kd ∧ o.kd ≤ 25) :
  PureM Tryz.prog 110 [o.val] m (i (if uD o.kd = true then o.ds else -1)):=by
 refine calls_of mixed Tryz.func110 ok_code_Write rfl ?_
 conv=>whnf
 refine WCall.pure (of_ok hm o.kd) ?_
 rw [if_pos hk,decide_eq_true hk]
 conv=>whnf
 rw [useBit hk.1 hk.2]
 refine Br.mk (fun hb=>?_) (fun hb=>?_)
 ·rw [if_pos hb]
  conv=>whnf
  exact WRet.same ⟨rfl,rfl⟩
 ·rw [if_neg (by rw [hb];decide)]
  conv=>whnf
  exact WRet.same ⟨rfl,rfl⟩
theorem writes_ok {m:Mem} {T:Nat} {fr:Nat × Nat} (hm:m 0 = some (.cells ⟨cells0⟩ T fr)) (o:OpR) (hk:1 ≤ o.kd ∧ o.kd ≤ 28) :
  PureM Tryz.prog 77 [o.val] m (i (if uD o.kd = true then o.ds else -1)):=by
 refine calls_of mixed Tryz.func77 ok_sim_writes rfl ?_
 conv=>whnf
 refine Br.mk (fun hb=>?_) (fun hb=>?_)
 ·have hb':o.kd ≥ 26:=of_decide_eq_true hb
  have h:o.kd = 26 ∨ o.kd = 27 ∨ o.kd = 28:=by omega
  have hu:uD o.kd = false:=by rcases h with h | h | h <;> rw [h] <;> rfl
  rw [if_neg (by rw [hu];decide)]
  conv=>whnf
  exact WRet.same ⟨rfl,rfl⟩
 ·have hb':¬ o.kd ≥ 26:=of_decide_eq_false hb
  conv=>whnf
  refine WCall.pure (write_ok hm o ⟨hk.1,by omega⟩) ?_
  conv=>whnf
  exact WRet.same ⟨rfl,rfl⟩
theorem mayTrap_ok (m:Mem) (o:OpR):PureM Tryz.prog 138 [o.val] m (.bool (mayTrapS o)):=by
 refine calls_of mixed Tryz.func138 ok_words_MayTrap rfl ?_
 have key:∀ z:Bool,(o.kd == 14 || o.kd == 15 || o.kd == 16 || o.kd == 17 || o.kd == 20 || o.kd == 21 || o.kd == 22 || o.kd == 27 || o.kd == 28) = z → mayTrapS o = (z || o.gd != -1):=fun z h=>by unfold mayTrapS;rw [h]
 repeat' (conv=>whnf
          first
          | (refine Br.mk (fun hh=>?_) (fun hh=>?_) <;> try (cases hh;done))
          | (exact WRet.same ⟨by first | (rw [key true (by simp_all)];rfl) | (rw [key false (by simp_all)];rfl),rfl⟩))
abbrev v8 (n:Nat):Value:=.int .i8 n
def R8 (m:Mem) (b:Nat) (w:List Nat):Prop:=∃ rest,m b = some (Cells (w.map v8 ++ rest) 117)
theorem R8.mono {m m':Mem} {b:Nat} {w:List Nat} (h:R8 m b w) (hle:Mem.le m m'):R8 m' b w:=by obtain ⟨r,h⟩:=h;exact ⟨r,hle _ _ h⟩
theorem R8.cells {m:Mem} {b:Nat} {w:List Nat} (h:R8 m b w):CellsAt m ⟨b,0,none⟩ (w.map v8):=by
 obtain ⟨r,h⟩:=h
 exact CellsAt.blk h fun j v hj=>by rw [Nat.zero_add,List.getElem?_append_left (List.getElem?_eq_some_iff.1 hj).1];exact hj
theorem R8.cell {m:Mem} {b:Nat} {w:List Nat} (h:R8 m b w) {k:Nat} (hk:k < w.length):CellAt m ((⟨b,0,none⟩:Addr).add k) (v8 (w.getD k 0)) :=
 h.cells k _ (by rw [List.getElem?_map,List.getD_eq_getElem?_getD,List.getElem?_eq_getElem hk];rfl)
theorem clone8_ok {m:Mem} {b c:Nat} {w:List Nat} (hv:R8 m b w) (hlen:w.length ≤ 4398046511104) :
  CallsM Tryz.prog 75 [.slice (some ⟨b,0,none⟩) w.length c] m fun e m'=>∃ b' c',e = .returned (.slice (some ⟨b',0,none⟩) w.length c') ∧ Mem.le m m' ∧ R8 m' b' w ∧ m b' = none:=by
 refine calls_of mixed Tryz.func75 ok_slices_Clone_int8_int8 rfl ?_
 conv=>whnf
 refine Br.mk (fun hb=>by cases hb) (fun hb=>?_)
 conv=>whnf
 refine WNew.mk fun b1 hb1=>?_
 conv=>whnf
 refine WApp.copyB hb1 (A:=some ⟨b,0,none⟩) (n:=w.length) rfl rfl (w.map v8) ⟨by simp,fun ad' ha=>by cases ha;exact hv.cells⟩ (fun ha=>by cases ha) (by omega) fun b' cb m1 rest hle1 hcb hbm hcells=>?_
 conv=>whnf
 exact WRet.same ⟨b',cb,rfl,hle1,⟨rest,hcells⟩,hbm⟩
theorem class_in (k:Int):0 ≤ (classS k).1 ∧ (classS k).1 < 4:=by
 unfold classS
 split
 ·exact ⟨by decide,by decide⟩
 split
 ·exact ⟨by decide,by decide⟩
 split
 ·exact ⟨by decide,by decide⟩
 split <;> exact ⟨by decide,by decide⟩
theorem lat_in {M:Mac} (h:M.ok = true) {q:Nat} (hq:q < 4):1 ≤ M.lat q ∧ M.lat q ≤ 8:=by
 have key:M.row q = true → 1 ≤ M.lat q ∧ M.lat q ≤ 8:=fun h=>by
  unfold Mac.row inR at h
  simp only [Bool.and_eq_true,decide_eq_true_eq] at h
  omega
 unfold Mac.ok at h
 simp only [Bool.and_eq_true] at h
 have hq5:q = 0 ∨ q = 1 ∨ q = 2 ∨ q = 3:=by omega
 rcases hq5 with rfl | rfl | rfl | rfl
 ·exact key h.1.1.1.1
 ·exact key h.1.1.1.2
 ·exact key h.1.1.2
 ·exact key h.1.2
theorem dl_le {M:Mac} (h:M.ok = true) (o:OpR):1 ≤ dlS M o ∧ dlS M o ≤ 8:=by
 have hc:=class_in o.kd
 have:=lat_in h (q:=(classS o.kd).1.toNat) (by omega)
 unfold dlS;omega
theorem delay_ok {m:Mem} {T:Nat} {fr:Nat × Nat} (hm:m 0 = some (.cells ⟨cells0⟩ T fr)) {p U:Nat} {V:CV} {C:CodeR} {M:Mac} {tl:List Value} (hp:m p = some (Cells (V.cells C ++ M.cells ++ tl) U)) (hM:M.ok = true) (o:OpR) :
  PureM Tryz.prog 78 [ptr p,o.val] m (v8 (dlS M o)):=by
 refine calls_of mixed Tryz.func78 ok_sim_waits_delay rfl ?_
 have hc:=class_in o.kd
 obtain ⟨q,hq,hq4⟩:∃ q:Nat,(classS o.kd).1 = q ∧ q < 4:=⟨(classS o.kd).1.toNat,by omega,by omega⟩
 conv=>whnf
 refine WCall.pure (class_ok hm o.kd) ?_
 unfold pairV
 rw [hq]
 conv=>whnf
 refine WBnd.mk ⟨by omega,by omega⟩ ?_
 conv=>whnf
 refine WLd.mk (i (M.lat q)) ?_ ?_
 ·rw [add0,addo,addo]
  refine ⟨_,_,_,hp,rfl,?_⟩
  have hq5:q = 0 ∨ q = 1 ∨ q = 2 ∨ q = 3:=by omega
  rcases hq5 with rfl | rfl | rfl | rfl <;> rfl
 conv=>whnf
 have hl:1 ≤ M.lat q ∧ M.lat q ≤ 8:=lat_in hM hq4
 have hd:(dlS M o:Int) = M.lat q:=by unfold dlS;rw [hq,Int.toNat_natCast];omega
 refine WRet.same ⟨?_,rfl⟩
 show Ending.returned (.int .i8 (IntKind.i8.wrap (M.lat q))) = .returned (.int .i8 (dlS M o))
 rw [hd]
 have:∀ z:Int,1 ≤ z → z ≤ 8 → IntKind.i8.wrap z = z:=fun z h1 h2=>by
  have:z = 1 ∨ z = 2 ∨ z = 3 ∨ z = 4 ∨ z = 5 ∨ z = 6 ∨ z = 7 ∨ z = 8:=by omega
  rcases this with rfl | rfl | rfl | rfl | rfl | rfl | rfl | rfl <;> rfl
 rw [this _ hl.1 hl.2]
end Go.Proofs.YtleofbpepfmfgaaGreatDoor
set_option linter.unusedSimpArgs false
set_option linter.unusedVariables false
set_option maxRecDepth 100000
namespace Go.Proofs.YtleofbpepfmfgaaGreatDoor
open Go Go.Vx
open Go.Vx.IOp Go.Vx.IR Go.Vx.Opd
abbrev TW:Nat:=116
abbrev TR:Nat:=113
def Keep (F:Nat → Prop) (m m':Mem):Prop:=∀ b o,m b = some o → ¬ F b → m' b = some o
theorem Keep.refl (F:Nat → Prop) (m:Mem):Keep F m m:=fun _ _ h _=>h
theorem Keep.of_le {F:Nat → Prop} {m m':Mem} (h:Mem.le m m'):Keep F m m':=fun b o hb _=>h b o hb
theorem Keep.trans' {F G:Nat → Prop} {m m1 m2:Mem} (h:Keep F m m1) (k:Keep G m1 m2) (hG:∀ b,G b → F b ∨ m b = none):Keep F m m2:=fun b o hb hn=>k b o (h b o hb hn) fun hg=>by
 rcases hG b hg with h1 | h1
 ·exact hn h1
 ·rw [h1] at hb;cases hb
theorem Keep.set {F:Nat → Prop} {m m':Mem} {b:Nat} {o:Obj} (h:Keep F m m') (hb:F b ∨ m b = none):Keep F m (m'.set b o):=fun x p hx hn=>by
 by_cases e:x = b
 ·subst e
  rcases hb with hb | hb
  ·exact absurd hb hn
  ·rw [hb] at hx;cases hx
 ·rw [Mem.set_other _ _ e];exact h x p hx hn
theorem Keep.le {F:Nat → Prop} {m0 m m':Mem} (h:Keep F m m') (hle:Mem.le m0 m) (hF:∀ b,F b → m0 b = none):Mem.le m0 m':=fun b o hb=>h b o (hle b o hb) fun hf=>by rw [hF b hf] at hb;cases hb
theorem ne_type {m:Mem} {a b:Nat} {x y:List Value} {T U:TypeId} (ha:m a = some (Cells x T)) (hb:m b = some (Cells y U)) (hT:T ≠ U):a ≠ b:=fun e=>by
 subst e;rw [ha] at hb;injection hb with hb;injection hb with _ h2;exact hT h2
theorem ne_free {m:Mem} {a b:Nat} {o:Obj} (ha:m a = some o) (hb:m b = none):a ≠ b:=fun e=>by subst e;rw [ha] at hb;cases hb
structure Wt where
 p:Nat
 ba:Nat
 rb:Nat → Nat
 rc:Nat → Nat
 aw:Option Addr
 cw:Nat
 A:WS
 L:List Nat
def Wt.rowV (S:Wt) (k:Nat):Option (List Nat) → Value
 | none=>ns
 | some w=>.slice (some ⟨S.rb k,0,none⟩) w.length (S.rc k)
def Wt.foot (S:Wt) (b:Nat):Prop:=b = S.p ∨ b = S.ba ∨ (∃ (k:Nat) (w:List Nat),S.A[k]? = some (some w) ∧ b = S.rb k) ∨ S.aw = some ⟨b,0,none⟩
def Wt.cells (S:Wt) (V:CV) (C:CodeR) (M:Mac):List Value:=V.cells C ++ M.cells ++ [.slice (some ⟨S.ba,0,none⟩) S.A.length S.A.length,.slice S.aw S.L.length S.cw]
abbrev numL (L:List Nat):List Value:=L.map fun n:Nat=>i n
structure WtAt (m:Mem) (V:CV) (C:CodeR) (M:Mac) (S:Wt):Prop where
 hp:m S.p = some (Cells (S.cells V C M) TW)
 ha:∃ rows,m S.ba = some (Cells rows TR) ∧ rows.length = S.A.length ∧ ∀ (k:Nat) (x:Option (List Nat)),S.A[k]? = some x → rows[k]? = some (S.rowV k x)
 row:∀ (k:Nat) (w:List Nat),S.A[k]? = some (some w) → R8 m (S.rb k) w
 inj:∀ (j k:Nat) (v w:List Nat),S.A[j]? = some (some v) → S.A[k]? = some (some w) → S.rb j = S.rb k → j = k
 wk:(S.aw = none ∧ S.L = [] ∧ S.cw = 0) ∨ ∃ b rest,S.aw = some ⟨b,0,none⟩ ∧ m b = some (Cells (numL S.L ++ rest) 3) ∧ S.L.length + rest.length = S.cw
section
variable {m m':Mem} {V:CV} {C:CodeR} {M:Mac} {S:Wt}
theorem WtAt.live (h:WtAt m V C M S) {b:Nat} (hb:S.foot b):∃ o,m b = some o:=by
 rcases hb with hb | hb | ⟨k,w,hk,hb⟩ | hb
 ·subst hb;exact ⟨_,h.hp⟩
 ·subst hb;obtain ⟨rows,hr,_⟩:=h.ha;exact ⟨_,hr⟩
 ·subst hb;obtain ⟨r,hr⟩:=h.row k w hk;exact ⟨_,hr⟩
 ·rcases h.wk with ⟨e,_⟩ | ⟨b',rest,e,hm,_⟩
  ·rw [e] at hb;cases hb
  ·rw [e] at hb;cases hb;exact ⟨_,hm⟩
theorem WtAt.notfree (h:WtAt m V C M S) {b:Nat} (hb:m b = none):¬ S.foot b:=fun hf=>by
 obtain ⟨o,ho⟩:=h.live hf
 rw [hb] at ho;cases ho
theorem WtAt.same (h:WtAt m V C M S) (hk:∀ b o,S.foot b → m b = some o → m' b = some o):WtAt m' V C M S where
 hp:=hk _ _ (.inl rfl) h.hp
 ha:=by
  obtain ⟨rows,h1,h2⟩:=h.ha
  exact ⟨rows,hk _ _ (.inr (.inl rfl)) h1,h2⟩
 row:=fun k w hkw=>by
  obtain ⟨r,hr⟩:=h.row k w hkw
  exact ⟨r,hk _ _ (.inr (.inr (.inl ⟨k,w,hkw,rfl⟩))) hr⟩
 inj:=h.inj
 wk:=by
  rcases h.wk with e | ⟨b,rest,e,hm,hl⟩
  ·exact .inl e
  ·exact .inr ⟨b,rest,e,hk _ _ (.inr (.inr (.inr e))) hm,hl⟩
theorem WtAt.mono (h:WtAt m V C M S) (hle:Mem.le m m'):WtAt m' V C M S:=h.same fun b o _ hb=>hle b o hb
theorem WtAt.setRow (h:WtAt m V C M S) {k:Nat} {w w':List Nat} {rest:List Value} (hk:S.A[k]? = some (some w)) (hl:w'.length = w.length) :
  WtAt (m.set (S.rb k) (Cells (w'.map v8 ++ rest) 117)) V C M { S with A:=S.A.set k (some w') }:=by
 have hkl:k < S.A.length:=(List.getElem?_eq_some_iff.1 hk).1
 obtain ⟨r0,hr0⟩:=h.row k w hk
 have get:∀ (j:Nat) (x:Option (List Nat)),(S.A.set k (some w'))[j]? = some x → (j = k ∧ x = some w') ∨ (j ≠ k ∧ S.A[j]? = some x):=fun j x hj=>by
  rw [set_get hkl] at hj
  split at hj
  ·rename_i e;cases hj;exact .inl ⟨e.symm,rfl⟩
  ·rename_i e;exact .inr ⟨fun h=>e h.symm,hj⟩
 have back:∀ (j:Nat) (v:List Nat),(S.A.set k (some w'))[j]? = some (some v) → ∃ v':List Nat,S.A[j]? = some (some v'):=fun j v hj=>by
  rcases get j _ hj with ⟨rfl,_⟩ | ⟨_,hj⟩
  ·exact ⟨w,hk⟩
  ·exact ⟨v,hj⟩
 refine ⟨?_,?_,?_,?_,?_⟩
 ·rw [Mem.set_other _ _ (ne_type h.hp hr0 (by decide))]
  have:=h.hp
  unfold Wt.cells at this ⊢
  simp only [List.length_set]
  exact this
 ·obtain ⟨rows,h1,h2,h3⟩:=h.ha
  refine ⟨rows,?_,by simpa using h2,fun j x hj=>?_⟩
  ·rw [Mem.set_other _ _ (ne_type h1 hr0 (by decide))];exact h1
  ·rcases get j _ hj with ⟨rfl,rfl⟩ | ⟨_,hj⟩
   ·rw [h3 j _ hk];show some (Value.slice _ w.length _) = some (Value.slice _ w'.length _);rw [hl]
   ·exact h3 j x hj
 ·intro j v hj
  rcases get j _ hj with ⟨rfl,e⟩ | ⟨hne,hj⟩
  ·cases e;exact ⟨rest,Mem.set_same _ _ _⟩
  ·obtain ⟨r,hr⟩:=h.row j v hj
   refine ⟨r,?_⟩
   rw [Mem.set_other _ _ (fun e=>hne (h.inj j k v w hj hk e))];exact hr
 ·intro j1 j2 v1 v2 h1 h2 e
  obtain ⟨u1,g1⟩:=back j1 v1 h1
  obtain ⟨u2,g2⟩:=back j2 v2 h2
  exact h.inj j1 j2 u1 u2 g1 g2 e
 ·rcases h.wk with e | ⟨b,rest,e,hm,hl⟩
  ·exact .inl e
  ·refine .inr ⟨b,rest,e,?_,hl⟩
   rw [Mem.set_other _ _ (ne_type hm hr0 (by decide))];exact hm
theorem Wt.foot_setRow {k:Nat} {w w':List Nat} (hk:S.A[k]? = some (some w)) {b:Nat} (hb:({ S with A:=S.A.set k (some w') }:Wt).foot b):S.foot b:=by
 have hkl:k < S.A.length:=(List.getElem?_eq_some_iff.1 hk).1
 rcases hb with hb | hb | ⟨j,v,hj,hb⟩ | hb
 ·exact .inl hb
 ·exact .inr (.inl hb)
 ·refine .inr (.inr (.inl ?_))
  have hj:(S.A.set k (some w'))[j]? = some (some v):=hj
  rw [set_get hkl] at hj
  split at hj
  ·rename_i e;subst e;exact ⟨k,w,hk,hb⟩
  ·exact ⟨j,v,hj,hb⟩
 ·exact .inr (.inr (.inr hb))
def Wt.withRow (S:Wt) (k b c:Nat) (w:List Nat):Wt:={ S with A:=S.A.set k (some w),rb:=fun j=>if j = k then b else S.rb j,rc:=fun j=>if j = k then c else S.rc j }
theorem WtAt.newRow (h:WtAt m V C M S) {k b c:Nat} {w:List Nat} {rest:List Value} (hk:S.A[k]? = some none) (hb:m b = none) {rows:List Value} (hrows:m S.ba = some (Cells rows TR)) :
  WtAt ((m.set b (Cells (w.map v8 ++ rest) 117)).set S.ba (Cells (rows.set k (.slice (some ⟨b,0,none⟩) w.length c)) TR)) V C M (S.withRow k b c w):=by
 have hkl:k < S.A.length:=(List.getElem?_eq_some_iff.1 hk).1
 have nb:∀ {x:Nat} {o:Obj},m x = some o → x ≠ b:=fun hx=>ne_free hx hb
 have get:∀ (j:Nat) (x:Option (List Nat)),(S.A.set k (some w))[j]? = some x → (j = k ∧ x = some w) ∨ (j ≠ k ∧ S.A[j]? = some x):=fun j x hj=>by
  rw [set_get hkl] at hj
  split at hj
  ·rename_i e;cases hj;exact .inl ⟨e.symm,rfl⟩
  ·rename_i e;exact .inr ⟨fun h=>e h.symm,hj⟩
 have hbb:b ≠ S.ba:=fun e=>by rw [e,hrows] at hb;cases hb
 refine ⟨?_,?_,?_,?_,?_⟩
 ·show _ = _
  rw [show (S.withRow k b c w).p = S.p from rfl,Mem.set_other _ _ (ne_type h.hp hrows (by decide)),Mem.set_other _ _ (nb h.hp)]
  have:=h.hp
  unfold Wt.cells at this ⊢
  show _ = some (Cells (V.cells C ++ M.cells ++ [.slice (some ⟨S.ba,0,none⟩) (S.A.set k (some w)).length (S.A.set k (some w)).length,.slice S.aw S.L.length S.cw]) TW)
  rw [List.length_set]
  exact this
 ·obtain ⟨rows',h1,h2,h3⟩:=h.ha
  rw [hrows] at h1
  injection h1 with h1;injection h1 with h1 _;injection h1 with h1
  subst h1
  refine ⟨_,Mem.set_same _ _ _,?_,fun j x hj=>?_⟩
  ·show _ = (S.A.set k (some w)).length
   simp [h2]
  ·rcases get j _ hj with ⟨rfl,rfl⟩ | ⟨hne,hj⟩
   ·rw [List.getElem?_set,if_pos rfl,if_pos (by rw [h2];exact hkl)]
    show _ = some (Value.slice (some ⟨if j = j then b else S.rb j,0,none⟩) w.length (if j = j then c else S.rc j))
    rw [if_pos rfl,if_pos rfl]
   ·rw [List.getElem?_set,if_neg (fun e=>hne e.symm),h3 j x hj]
    cases x with
    | none=>rfl
    | some v =>
     show some (Value.slice (some ⟨S.rb j,0,none⟩) v.length (S.rc j)) = some (Value.slice (some ⟨if j = k then b else S.rb j,0,none⟩) v.length (if j = k then c else S.rc j))
     rw [if_neg hne,if_neg hne]
 ·intro j v hj
  show R8 _ (if j = k then b else S.rb j) v
  rcases get j _ hj with ⟨rfl,e⟩ | ⟨hne,hj⟩
  ·cases e
   rw [if_pos rfl]
   exact ⟨rest,by rw [Mem.set_other _ _ hbb,Mem.set_same]⟩
  ·rw [if_neg hne]
   obtain ⟨r,hr⟩:=h.row j v hj
   exact ⟨r,by rw [Mem.set_other _ _ (ne_type hr hrows (by decide)),Mem.set_other _ _ (nb hr)];exact hr⟩
 ·intro j1 j2 v1 v2 h1 h2 e
  have e:(if j1 = k then b else S.rb j1) = (if j2 = k then b else S.rb j2):=e
  rcases get j1 _ h1 with ⟨e1,_⟩ | ⟨n1,g1⟩ <;> rcases get j2 _ h2 with ⟨e2,_⟩ | ⟨n2,g2⟩
  ·rw [e1,e2]
  ·rw [if_pos e1,if_neg n2] at e
   obtain ⟨r,hr⟩:=h.row j2 v2 g2
   rw [← e,hb] at hr;cases hr
  ·rw [if_neg n1,if_pos e2] at e
   obtain ⟨r,hr⟩:=h.row j1 v1 g1
   rw [e,hb] at hr;cases hr
  ·rw [if_neg n1,if_neg n2] at e
   exact h.inj j1 j2 v1 v2 g1 g2 e
 ·rcases h.wk with e | ⟨b3,rest3,e,hm,hl⟩
  ·exact .inl e
  ·refine .inr ⟨b3,rest3,e,?_,hl⟩
   rw [Mem.set_other _ _ (ne_type hm hrows (by decide)),Mem.set_other _ _ (nb hm)];exact hm
theorem Wt.foot_withRow {k b0 c:Nat} {w:List Nat} (hk:S.A[k]? = some none) {b:Nat} (hb:(S.withRow k b0 c w).foot b):S.foot b ∨ b = b0:=by
 have hkl:k < S.A.length:=(List.getElem?_eq_some_iff.1 hk).1
 rcases hb with hb | hb | ⟨j,v,hj,hb⟩ | hb
 ·exact .inl (.inl hb)
 ·exact .inl (.inr (.inl hb))
 ·have hj:(S.A.set k (some w))[j]? = some (some v):=hj
  have hb:b = if j = k then b0 else S.rb j:=hb
  rw [set_get hkl] at hj
  split at hj
  ·rename_i e;rw [if_pos e.symm] at hb;exact .inr hb
  ·rename_i e;rw [if_neg (fun h=>e h.symm)] at hb;exact .inl (.inr (.inr (.inl ⟨j,v,hj,hb⟩)))
 ·exact .inl (.inr (.inr (.inr hb)))
theorem WtAt.setWork (h:WtAt m V C M S) {L':List Nat} {aw':Option Addr} {cw':Nat} (hp:m' S.p = some (Cells (({ S with L:=L',aw:=aw',cw:=cw' }:Wt).cells V C M) TW))
  (hk:∀ b o,m b = some o → b ≠ S.p → S.aw ≠ some ⟨b,0,none⟩ → m' b = some o) (hw:(aw' = none ∧ L' = [] ∧ cw' = 0) ∨ ∃ b rest,aw' = some ⟨b,0,none⟩ ∧ m' b = some (Cells (numL L' ++ rest) 3) ∧ L'.length + rest.length = cw') :
  WtAt m' V C M { S with L:=L',aw:=aw',cw:=cw' } where
 hp:=hp
 ha:=by
  obtain ⟨rows,h1,h2⟩:=h.ha
  refine ⟨rows,hk _ _ h1 (ne_type h1 h.hp (by decide)) (fun e=>?_),h2⟩
  rcases h.wk with ⟨e1,_⟩ | ⟨b,rest,e1,hm,_⟩
  ·rw [e1] at e;cases e
  ·rw [e1] at e;cases e;exact ne_type h1 hm (by decide) rfl
 row:=fun k w hkw=>by
  obtain ⟨r,hr⟩:=h.row k w hkw
  refine ⟨r,hk _ _ hr (ne_type hr h.hp (by decide)) (fun e=>?_)⟩
  rcases h.wk with ⟨e1,_⟩ | ⟨b,rest,e1,hm,_⟩
  ·rw [e1] at e;cases e
  ·rw [e1] at e;injection e with e;injection e with e;exact ne_type hr hm (by decide) e.symm
 inj:=h.inj
 wk:=hw
theorem pushW (h:WtAt m V C M S) {bx x:Nat} {K:Value → Mem → Prop} (hx:m bx = some (Cells [i x] 3)) (hlen:(S.L.length + 1) * 8 ≤ 35184372088832)
  (k:∀ b' c' rest m',m' b' = some (Cells (numL (S.L ++ [x]) ++ rest) 3) → (S.L ++ [x]).length + rest.length = c' → (m b' = none ∨ S.aw = some ⟨b',0,none⟩) → (∀ b,b ≠ b' → m' b = m b) → K (.slice (some ⟨b',0,none⟩) (S.L.length + 1) c') m') :
  WApp m 3 1 8 [i 0] S.aw S.L.length S.cw (some ⟨bx,0,none⟩) 1 K:=by
 have hnew:FirstCells m (some ⟨bx,0,none⟩) (1 * 1) [i (x:Int)]:=⟨rfl,fun ad had=>by cases had;exact CellsAt.blk hx fun j v hj=>by rw [Nat.zero_add];exact hj⟩
 have grow:(∀ ad,S.aw = some ad → CellsAt m ad (numL S.L)) → (S.aw = none → S.L.length = 0) → S.cw < S.L.length + 1 → WApp m 3 1 8 [i 0] S.aw S.L.length S.cw (some ⟨bx,0,none⟩) 1 K:=by
  intro h1 h2 hc
  refine WApp.grow _ hnew (fun h=>by cases h) hc hlen (numL S.L) ⟨by simp,h1⟩ h2 fun b2 c2 hb2 hc2=>?_
  refine k b2 c2 ((List.replicate (c2 - (S.L.length + 1)) [i 0]).flatten) _ ?_ (by rw [repl_len];simp;omega) (.inl hb2) fun b hb=>Mem.set_other _ _ hb
  rw [Mem.set_same]
  simp [numL]
 rcases h.wk with ⟨e1,e2,e3⟩ | ⟨b,rest,e1,hm,hl⟩
 ·exact grow (fun ad ha=>by rw [e1] at ha;cases ha) (fun _=>by rw [e2];rfl) (by rw [e3];omega)
 ·by_cases hcc:S.L.length + 1 ≤ S.cw
  ·rw [e1]
   obtain ⟨r0,rest',hr⟩:∃ r0 rest',rest = r0 :: rest':=by
    cases rest with
    | nil=>simp at hl;omega
    | cons a b=>exact ⟨a,b,rfl⟩
   subst hr
   refine WApp.in (ad:=⟨b,0,none⟩) _ hnew (fun h=>by cases h) _ _ hcc hm rfl (by simp) rfl ?_
   refine k b S.cw rest' _ ?_ (by simp at hl ⊢;omega) (.inr e1) fun b3 hb3=>Mem.set_other _ _ hb3
   rw [Mem.set_same]
   have e:spliceL (numL S.L ++ r0 :: rest') (0 + S.L.length * 1) [i (x:Int)] = numL (S.L ++ [x]) ++ rest':=by
    rw [spliceL_eq _ _ _ (by simp),Nat.zero_add,Nat.mul_one]
    have:(numL S.L).length = S.L.length:=by simp
    rw [List.take_left' this,List.drop_append,this]
    simp [numL]
   rw [e]
  ·exact grow (fun ad ha=>by rw [e1] at ha;cases ha;exact CellsAt.blk hm fun j v hj=>by rw [Nat.zero_add,List.getElem?_append_left (List.getElem?_eq_some_iff.1 hj).1];exact hj) (fun h=>by rw [e1] at h;cases h) (by omega)
theorem set_row8 {w:List Nat} {rest:List Value} {r x:Nat} (h:r < w.length):spliceL (w.map v8 ++ rest) r [v8 x] = (w.set r x).map v8 ++ rest:=by
 show (w.map v8 ++ rest).set r _ = _
 rw [List.set_append_left _ _ (by simpa using h),List.map_set]
end
def preW (w l:List Nat):Nat → List Nat
 | 0=>w
 | r + 1=>(preW w l r).set r (max ((preW w l r).getD r 0) (l.getD r 0))
theorem pre_len (w l:List Nat) (r:Nat):(preW w l r).length = w.length:=by induction r with | zero=>rfl | succ r ih=>rw [preW,List.length_set,ih]
theorem pre_get (w l:List Nat):∀ (r j:Nat),(preW w l r).getD j 0 = if j < r ∧ j < w.length then max (w.getD j 0) (l.getD j 0) else w.getD j 0
 | 0,j=>by rw [preW,if_neg (by omega)]
 | r + 1,j=>by
  rw [preW,getD_setN,pre_len]
  by_cases e:r = j ∧ r < w.length
  ·rw [if_pos e,pre_get w l r r,if_neg (by omega),← e.1,if_pos (by omega)]
  ·rw [if_neg e,pre_get w l r j]
   by_cases e2:j < r ∧ j < w.length
   ·rw [if_pos e2,if_pos (by omega)]
   ·rw [if_neg e2,if_neg (by omega)]
theorem pre_all {w l:List Nat} (hl:w.length = l.length):preW w l l.length = maxW w l:=by
 apply List.ext_getElem (by rw [pre_len,max_len hl])
 intro j h1 h2
 have e1:=pre_get w l l.length j
 rw [pre_len] at h1
 rw [if_pos (by omega),← max_get hl j,List.getD_eq_getElem?_getD,List.getD_eq_getElem?_getD,List.getElem?_eq_getElem (by rw [pre_len];exact h1),List.getElem?_eq_getElem h2] at e1
 exact e1
theorem pre_keep {w l:List Nat} {r:Nat} (h:¬ l.getD r 0 > (preW w l r).getD r 0):preW w l (r + 1) = preW w l r:=by
 rw [preW,Nat.max_eq_left (by omega)]
 apply List.ext_getElem (by simp)
 intro j h1 h2
 rw [List.getElem_set]
 split
 ·rename_i e;subst e;rw [List.getD_eq_getElem?_getD,List.getElem?_eq_getElem h2];rfl
 ·rfl
theorem pre_new {w l:List Nat} {r:Nat} (hr:r < w.length) (h:l.getD r 0 > (preW w l r).getD r 0):preW w l (r + 1) = (preW w l r).set r (l.getD r 0) ∧ preW w l (r + 1) ≠ w:=by
 refine ⟨by rw [preW,Nat.max_eq_right (by omega)],fun e=>?_⟩
 have e1:=pre_get w l (r + 1) r
 have e2:=pre_get w l r r
 rw [if_neg (by omega)] at e2
 rw [e,if_pos (by omega)] at e1
 omega
end Go.Proofs.YtleofbpepfmfgaaGreatDoor
