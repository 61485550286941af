/- Contracts of the reference of layer 21 (list): ready, Fit. -/
import Derived.Test.YtmnagbhllnlelaaGreatDoorVxRefTog
set_option linter.unusedSimpArgs false
set_option linter.unusedVariables false
set_option maxRecDepth 100000
namespace Go.Proofs.YtmnagbhllnlelaaGreatDoor
open Go Go.Vx
open Go.Vx.IOp Go.Vx.IR Go.Vx.Opd
/-- Whether an edge keeps a place from beginning in a cycle. -/
def waitE (cyc : List Int) (c : Int) (e : Edg) : Bool := decide (cyc.getD e.f.toNat 0 < 0) || decide (cyc.getD e.f.toNat 0 + e.d > c)
def blockE1 (cyc : List Int) (at1 c : Int) (e : Edg) : Bool := ((e.t == at1) && (e.r == 0)) && waitE cyc c e
def readyE (E : List Edg) (cyc : List Int) (at1 c : Int) : Bool := !(E.any (blockE1 cyc at1 c))
theorem sf_no {F : AV → Mem → Prop} {u : AV} {m : Mem} (h : F u m) : splitF false F u m := h
theorem ws_g {P : Program} {l : List E} {j : Nat} {r : RT} {K : Env → Mem → Prop} {X : List PanicEntry → Mem → Prop} {e : Env} {m : Mem} {x : E} {s : Nat} {want : Bool} {d : Option Nat} (u : AV) (hx : l[j]? = some x) (hg : x.g = some (s, want)) (he : e s = some (.val (.bool want))) (hs : x.s = false) (hd : x.d = d)
  (hv : ∀ F, F u m → vop P x.o e m F X) (h : treeI P l K X r (e.put d u) m) : treeI P l K X (.pure j r) e m := by
 subst hd
 refine ws_step hx ?_
 unfold stepE
 rw [hg]
 simp only [he]
 rw [hs]
 cases want <;> exact hv _ h
theorem ws_gv {P : Program} {l : List E} {j : Nat} {r : RT} {K : Env → Mem → Prop} {X : List PanicEntry → Mem → Prop} {e : Env} {m : Mem} {x : E} {s : Nat} {want : Bool} (hx : l[j]? = some x) (hg : x.g = some (s, want)) (he : e s = some (.val (.bool want)))
  (h : vop P x.o e m (splitF x.s fun u m' => treeI P l K X r (e.put x.d u) m') X) : treeI P l K X (.pure j r) e m := by
 refine ws_step hx ?_
 unfold stepE
 rw [hg]
 simp only [he]
 cases want <;> exact h
abbrev zeros4 : List Value := [i 0, i 0, i 0, i 0]
theorem sp4 (e : Edg) : spliceL zeros4 0 (cellsL (.agg ⟨e.cells⟩)) = e.cells := spliceL_all (l := zeros4) (vs := cellsL (.agg ⟨e.cells⟩)) rfl
attribute [local irreducible] spliceL in
theorem refReady_ok {m : Mem} {v u : Value} {E : List Edg} {cyc : List Int} (hv : EAt m v E) (hu : IAt m u cyc) (hlen : E.length < 2 ^ 63) (hE : ∀ e ∈ E, Fwd cyc.length e) (hc : ∀ x ∈ cyc, -1 ≤ x ∧ x ≤ 1099511627776) (at1 c : Int) :
  PureM Tryz.prog 67 [v, u, i at1, i c] m (.bool (readyE E cyc at1 c)) := by
 obtain ⟨a, ca, rfl, h0, h1, hcap⟩ := hv
 obtain ⟨a2, c2, rfl, q0, q1, hcap2⟩ := hu
 refine calls_of mixed Tryz.func67 ok_biremeref21_ready rfl ?_
 conv => whnf
 refine WLoop.mk Nat (fun k => [(9, .val (i k))]) (fun k m' => m = m' ∧ k ≤ E.length ∧ ∀ j (hj : j < E.length), j < k → blockE1 cyc at1 c E[j] = false) (fun k => E.length - k) 0 ⟨rfl, trivial⟩ ⟨rfl, Nat.zero_le _, fun j hj h => by omega⟩ ?_
 rintro k m' ⟨rfl, hk, hq⟩
 conv => whnf
 refine Br.mk (fun hb => ?_) (fun hb => ?_)
 ·have hk2 : k < E.length := by
   have : (k : Int) < E.length := of_decide_eq_true hb
   omega
  obtain ⟨ad, rfl⟩ : ∃ ad, a = some ad := by
   cases a with
   | none => rw [h0 rfl] at hk2; simp at hk2
   | some ad => exact ⟨ad, rfl⟩
  have hfw := hE _ (List.getElem_mem hk2)
  have hcells := EAt.cells (h1 ad rfl) hk2
  have hfin : blockE1 cyc at1 c E[k] = false → ∀ j (hj : j < E.length), j < k + 1 → blockE1 cyc at1 c E[j] = false := fun h j hj hjk => by
   by_cases e : j = k
   ·subst e; exact h
   ·exact hq j hj (by omega)
  have hyes : blockE1 cyc at1 c E[k] = true → readyE E cyc at1 c = false := fun h => by
   unfold readyE; rw [List.any_eq_true.2 ⟨E[k], List.getElem_mem hk2, h⟩]; rfl
  generalize E[k] = e at *
  have f0 := hfw.f0
  have fn := hfw.fn
  have hlt : e.f.toNat < cyc.length := by omega
  obtain ⟨ad2, rfl⟩ : ∃ ad, a2 = some ad := by
   cases a2 with
   | none => rw [q0 rfl] at hlt; simp at hlt
   | some ad => exact ⟨ad, rfl⟩
  have hg : cyc.getD e.f.toNat 0 = cyc[e.f.toNat] := by rw [List.getD_eq_getElem?_getD, List.getElem?_eq_getElem hlt]; rfl
  have hcr := hc _ (List.getElem_mem hlt)
  rw [← hg] at hcr
  have hcell : CellAt m (ad2.add (e.f.toNat * 1)) (i (cyc.getD e.f.toNat 0)) := by rw [hg, Nat.mul_one]; exact IAt.cell (q1 ad2 rfl) hlt
  have d0 := hfw.d0
  have d8 := hfw.d8
  conv => whnf
  refine WIdx.mk ad rfl ⟨by omega, by simpa using hk2⟩ ?_
  conv => whnf
  refine WLds.mk e.cells (by simpa using hcells) rfl ?_
  conv => whnf
  rw [sp4 e]
  conv => whnf
  refine Br.mk (fun ht => ?_) (fun ht => ?_)
  ·refine ws_g (.ref 10 3) rfl rfl rfl rfl rfl (fun F h => h) ?_
   refine ws_g (.val (i e.r)) rfl rfl rfl rfl rfl (fun F h => h) ?_
   refine ws_g (.val (.bool (e.r == 0))) rfl rfl rfl rfl rfl (fun F h => h) ?_
   refine ws_step rfl ?_
   conv => whnf
   refine Br.mk (fun _ => ?_) (fun h => by cases h)
   refine sf_no ?_
   refine ws_step rfl ?_
   conv => whnf
   refine Br.mk (fun hr => ?_) (fun hr => ?_)
   ·refine ws_g (.val (.slice (some ad2) cyc.length c2)) rfl rfl rfl rfl rfl (fun F h => h) ?_
    refine ws_g (.ref 10 0) rfl rfl rfl rfl rfl (fun F h => h) ?_
    refine ws_g (.val (i e.f)) rfl rfl rfl rfl rfl (fun F h => h) ?_
    refine ws_gv rfl rfl rfl ?_
    conv => whnf
    refine WIdx.mk ad2 rfl ⟨by omega, by omega⟩ ?_
    refine sf_no ?_
    refine ws_gv rfl rfl rfl ?_
    conv => whnf
    refine WLd.mk (i (cyc.getD e.f.toNat 0)) hcell ?_
    refine sf_no ?_
    refine ws_g (.val (.bool (decide (cyc.getD e.f.toNat 0 < 0)))) rfl rfl rfl rfl rfl (fun F h => h) ?_
    refine ws_gv rfl rfl rfl ?_
    conv => whnf
    refine Br.mk (fun hn => ?_) (fun hn => ?_)
    ·conv => whnf
     refine Br.mk (fun _ => ?_) (fun h => by cases h)
     conv => whnf
     refine Br.mk (fun _ => ?_) (fun h => by cases h)
     conv => whnf
     refine Br.mk (fun _ => ?_) (fun h => by cases h)
     conv => whnf
     exact WRet.same ⟨by rw [hyes (by unfold blockE1 waitE; rw [ht, hr, hn]; rfl)]; rfl, rfl⟩
    ·refine ws_g (.val (.slice (some ad2) cyc.length c2)) rfl rfl rfl rfl rfl (fun F h => h) ?_
     refine ws_g (.ref 10 0) rfl rfl rfl rfl rfl (fun F h => h) ?_
     refine ws_g (.val (i e.f)) rfl rfl rfl rfl rfl (fun F h => h) ?_
     refine ws_gv rfl rfl rfl ?_
     conv => whnf
     refine WIdx.mk ad2 rfl ⟨by omega, by omega⟩ ?_
     refine sf_no ?_
     refine ws_gv rfl rfl rfl ?_
     conv => whnf
     refine WLd.mk (i (cyc.getD e.f.toNat 0)) hcell ?_
     refine sf_no ?_
     refine ws_g (.ref 10 2) rfl rfl rfl rfl rfl (fun F h => h) ?_
     refine ws_g (.val (i e.d)) rfl rfl rfl rfl rfl (fun F h => h) ?_
     refine ws_gv rfl rfl rfl ?_
     conv => whnf
     refine WRng.mk (by apply wrap_i64 <;> omega) ?_
     refine sf_no ?_
     refine ws_g (.val (i c)) rfl rfl rfl rfl rfl (fun F h => h) ?_
     refine ws_g (.val (.bool (decide (cyc.getD e.f.toNat 0 + e.d > c)))) rfl rfl rfl rfl rfl (fun F h => h) ?_
     refine ws_gv rfl rfl rfl ?_
     conv => whnf
     refine Br.mk (fun h => by cases h) (fun _ => ?_)
     refine sf_no ?_
     refine ws_step rfl ?_
     conv => whnf
     refine Br.mk (fun _ => ?_) (fun h => by cases h)
     conv => whnf
     refine Br.mk (fun hl => ?_) (fun hl => ?_)
     ·conv => whnf
      exact WRet.same ⟨by rw [hyes (by unfold blockE1 waitE; rw [ht, hr, hn, hl]; rfl)]; rfl, rfl⟩
     ·conv => whnf
      refine WRng.mk (by apply wrap_i64 <;> omega) ?_
      conv => whnf
      exact ⟨k + 1, ⟨rfl, trivial⟩, ⟨rfl, hk2, hfin (by unfold blockE1 waitE; rw [ht, hr, hn, hl]; rfl)⟩, by omega⟩
   ·conv => whnf
    refine Br.mk (fun h => by cases h) (fun _ => ?_)
    conv => whnf
    refine Br.mk (fun h => by cases h) (fun _ => ?_)
    conv => whnf
    refine WRng.mk (by apply wrap_i64 <;> omega) ?_
    conv => whnf
    exact ⟨k + 1, ⟨rfl, trivial⟩, ⟨rfl, hk2, hfin (by unfold blockE1; rw [ht, hr]; rfl)⟩, by omega⟩
  ·conv => whnf
   refine Br.mk (fun h => by cases h) (fun _ => ?_)
   conv => whnf
   refine Br.mk (fun h => by cases h) (fun _ => ?_)
   conv => whnf
   refine Br.mk (fun h => by cases h) (fun _ => ?_)
   conv => whnf
   refine Br.mk (fun h => by cases h) (fun _ => ?_)
   conv => whnf
   refine WRng.mk (by apply wrap_i64 <;> omega) ?_
   conv => whnf
   exact ⟨k + 1, ⟨rfl, trivial⟩, ⟨rfl, hk2, hfin (by unfold blockE1; rw [ht]; rfl)⟩, by omega⟩
 ·have hk2 : k = E.length := by
   have : ¬ (k : Int) < E.length := of_decide_eq_false hb
   omega
  subst hk2
  conv => whnf
  refine WRet.same ⟨?_, rfl⟩
  have : E.any (blockE1 cyc at1 c) = false := by
   rw [List.any_eq_false]
   intro x hx h
   obtain ⟨j, hj, rfl⟩ := List.getElem_of_mem hx
   rw [hq j hj hj] at h; cases h
  unfold readyE; rw [this]; rfl
/-! append of one operation to a list of one's own (80: the type of operations). -/
def zO (k : Nat) : List Value := (List.replicate k zeros7).flatten
theorem zO_len (k : Nat) : (zO k).length = k * 7 := by simp [zO]
def PushO (m0 m : Mem) (a : Option Addr) (c : Nat) (L : List OpR) : Prop :=
 (a = none ∧ c = 0 ∧ L = []) ∨ ∃ b, a = some ⟨b, 0, none⟩ ∧ L.length ≤ c ∧ m0 b = none ∧ m b = some (Cells (ocs L ++ zO (c - L.length)) 80)
theorem PushO.oat {m0 m : Mem} {a : Option Addr} {c : Nat} {L : List OpR} (h : PushO m0 m a c L) : OAt m (.slice a L.length c) L := by
 rcases h with ⟨rfl, rfl, rfl⟩ | ⟨b, rfl, h1, h2, h3⟩
 ·exact ⟨none, 0, rfl, fun _ => rfl, (fun ad h => by cases h), Nat.le_refl _⟩
 ·refine ⟨_, c, rfl, (fun h => by cases h), fun ad ha => ?_, h1⟩
  cases ha
  refine CellsAt.blk h3 fun q v hq => ?_
  rw [Nat.zero_add, List.getElem?_append_left (List.getElem?_eq_some_iff.1 hq).1]; exact hq
theorem PushO.mono {m0 m m' : Mem} {a : Option Addr} {c : Nat} {L : List OpR} (h : PushO m0 m a c L) (hle : Mem.le m m') : PushO m0 m' a c L := by
 rcases h with h | ⟨b, h0, h1, h2, h3⟩
 ·exact .inl h
 ·exact .inr ⟨b, h0, h1, h2, hle _ _ h3⟩
theorem ocs_append (L : List OpR) (o : OpR) : ocs (L ++ [o]) = ocs L ++ o.cells := by simp [ocs]
theorem pushO_ok {m0 m : Mem} {a : Option Addr} {c n : Nat} {L : List OpR} {o : OpR} {bx : Nat} {K : Value → Mem → Prop} (hle : Mem.le m0 m) (hp : PushO m0 m a c L) (hx : m bx = some (Cells o.cells 80)) (hn : n = L.length) (hlen : L.length < 1000000)
  (k : ∀ a' c' m', Mem.le m0 m' → PushO m0 m' a' c' (L ++ [o]) → K (.slice a' (L.length + 1) c') m') : WApp m 80 7 56 zeros7 a n c (some ⟨bx, 0, none⟩) 1 K := by
 subst hn
 have hnew : FirstCells m (some ⟨bx, 0, none⟩) (1 * 7) o.cells := ⟨rfl, fun ad had => by cases had; exact CellsAt.blk hx fun j v hj => by rw [Nat.zero_add]; exact hj⟩
 have hnone : ∀ b2, m b2 = none → m0 b2 = none := fun b2 h => by
  cases hh : m0 b2 with
  | none => rfl
  | some o => rw [hle b2 o hh] at h; cases h
 rcases hp with ⟨rfl, rfl, rfl⟩ | ⟨b, rfl, h1, h2, h3⟩
 ·refine WApp.grow _ hnew (fun h => by cases h) (by decide) (by decide) [] ⟨rfl, fun ad h => by cases h⟩ (fun _ => rfl) fun b2 c2 hb2 hc2 => ?_
  refine k _ _ _ (le_setn hle (hnone _ hb2)) (.inr ⟨b2, rfl, by simpa using hc2, hnone _ hb2, ?_⟩)
  rw [Mem.set_same]; rfl
 ·by_cases hcc : L.length + 1 ≤ c
  ·have e : spliceL (ocs L ++ zO (c - L.length)) (0 + L.length * 7) o.cells = ocs (L ++ [o]) ++ zO (c - (L ++ [o]).length) := by
    have hol : o.cells.length = 7 := rfl
    rw [spliceL_eq _ _ _ (by rw [List.length_append, ocs_len, zO_len, hol]; omega), Nat.zero_add]
    obtain ⟨q, hq⟩ : ∃ q, c - L.length = q + 1 := ⟨c - L.length - 1, by omega⟩
    have e1 : (ocs L ++ zO (c - L.length)).take (L.length * 7) = ocs L := by rw [List.take_left' (ocs_len L)]
    have e2 : (ocs L ++ zO (c - L.length)).drop (L.length * 7 + o.cells.length) = zO (c - (L ++ [o]).length) := by
     rw [← List.drop_drop, List.drop_left' (ocs_len L), hq, hol]
     have : c - (L ++ [o]).length = q := by simp; omega
     rw [this]
     rfl
    rw [e1, e2, ocs_append]
   refine WApp.in (ad := ⟨b, 0, none⟩) _ hnew (fun h => by cases h) _ 80 hcc h3 rfl ?_ rfl ?_
   ·rw [List.length_append, ocs_len, zO_len]; simp only; omega
   ·refine k _ _ _ (le_setn hle h2) (.inr ⟨b, rfl, by simpa using hcc, h2, ?_⟩)
    rw [Mem.set_same, e]
  ·refine WApp.grow _ hnew (fun h => by cases h) (by omega) (by omega) (ocs L) ⟨ocs_len L, fun ad had => by cases had; exact CellsAt.blk h3 fun j v hj => by rw [Nat.zero_add, List.getElem?_append_left (List.getElem?_eq_some_iff.1 hj).1]; exact hj⟩ (fun h => by cases h) fun b2 c2 hb2 hc2 => ?_
   refine k _ _ _ (le_setn hle (hnone _ hb2)) (.inr ⟨b2, rfl, by simpa using hc2, hnone _ hb2, ?_⟩)
   rw [Mem.set_same, ocs_append]
   simp [zO]
/-! Fit. -/
def opAt (O : List OpR) (j : Nat) : OpR := O.getD j ⟨0, 0, 0, 0, 0, 0, 0⟩
def selB (cyc : List Int) (c more : Int) (j : Nat) : Bool := (cyc.getD j 0 == c) || ((j : Int) == more)
def selS (O : List OpR) (cyc : List Int) (c more : Int) (k : Nat) : List OpR := ((List.range k).filter (selB cyc c more)).map (opAt O)
theorem selS_succ {O : List OpR} {cyc : List Int} {c more : Int} {k : Nat} : selS O cyc c more (k + 1) = if selB cyc c more k = true then selS O cyc c more k ++ [opAt O k] else selS O cyc c more k := by
 unfold selS
 rw [List.range_succ, List.filter_append, List.map_append]
 by_cases h : selB cyc c more k = true
 ·rw [if_pos h]; simp [h]
 ·rw [if_neg h]; simp [h]
theorem selS_len {O : List OpR} {cyc : List Int} {c more : Int} {k : Nat} : (selS O cyc c more k).length ≤ k := by
 unfold selS
 rw [List.length_map]
 exact Nat.le_trans (List.length_filter_le _ _) (by simp)
theorem selS_mem {O : List OpR} {cyc : List Int} {c more : Int} {k : Nat} (hk : k ≤ O.length) : ∀ o ∈ selS O cyc c more k, o ∈ O := fun o ho => by
 unfold selS at ho
 obtain ⟨j, hj, rfl⟩ := List.mem_map.1 ho
 have hj2 := List.mem_range.1 (List.mem_filter.1 hj).1
 have : opAt O j = O[j]'(by omega) := by unfold opAt; rw [List.getD_eq_getElem?_getD, List.getElem?_eq_getElem (by omega)]; rfl
 rw [this]; exact List.getElem_mem _
attribute [local irreducible] spliceL in
theorem refFit_ok {m : Mem} {v u : Value} (M : Mac) {O : List OpR} {cyc : List Int} (hO : OAt m v O) (hu : IAt m u cyc) (hl : O.length ≤ 400) (hlc : O.length ≤ cyc.length) (hM : M.ok = true) (hgood : ∀ o ∈ O, badOp M o = false) (c more : Int) :
  CallsM Tryz.prog 68 [M.val, v, u, i c, i more] m fun e m' => e = .returned (.bool (fitsS (usesAll M (selS O cyc c more O.length)))) ∧ Mem.le m m' := by
 obtain ⟨a, ca, rfl, h0, h1, hcap⟩ := hO
 obtain ⟨a2, c2, rfl, q0, q1, hcap2⟩ := hu
 refine calls_of mixed Tryz.func68 ok_biremeref21_Fit rfl ?_
 conv => whnf
 refine WLoop.mk (Nat × Option Addr × Nat) (fun s => [(12, .val (i s.1)), (11, .val (.slice s.2.1 (selS O cyc c more s.1).length s.2.2))]) (fun s m' => Mem.le m m' ∧ PushO m m' s.2.1 s.2.2 (selS O cyc c more s.1) ∧ s.1 ≤ O.length) (fun s => O.length - s.1) (0, none, 0) ⟨rfl, rfl, trivial⟩ ⟨Mem.le.refl _, .inl ⟨rfl, rfl, rfl⟩, Nat.zero_le _⟩ ?_
 rintro ⟨k, A, cA⟩ m1 ⟨g1, g2, g3⟩
 simp only at g2 g3
 conv => whnf
 refine Br.mk (fun hb => ?_) (fun hb => ?_)
 ·have hk : k < O.length := by
   have : (k : Int) < O.length := of_decide_eq_true hb
   omega
  obtain ⟨ad, rfl⟩ : ∃ ad, a = some ad := by
   cases a with
   | none => rw [h0 rfl] at hk; simp at hk
   | some ad => exact ⟨ad, rfl⟩
  have hkc : k < cyc.length := by omega
  obtain ⟨ad2, rfl⟩ : ∃ ad, a2 = some ad := by
   cases a2 with
   | none => rw [q0 rfl] at hkc; simp at hkc
   | some ad => exact ⟨ad, rfl⟩
  have hg : cyc.getD k 0 = cyc[k] := by rw [List.getD_eq_getElem?_getD, List.getElem?_eq_getElem hkc]; rfl
  have hcell : CellAt m1 (ad2.add k) (i (cyc.getD k 0)) := by rw [hg]; exact (IAt.cell (q1 ad2 rfl) hkc).mono g1
  have hop : opAt O k = O[k] := by unfold opAt; rw [List.getD_eq_getElem?_getD, List.getElem?_eq_getElem hk]; rfl
  have hcells : CellsAt m1 (ad.add (k * 7)) (opAt O k).cells := by rw [hop]; exact (OAt.cells (h1 ad rfl) hk).mono g1
  have hsl := selS_len (O := O) (cyc := cyc) (c := c) (more := more) (k := k)
  conv => whnf
  refine WIdx.mk ad2 rfl ⟨by omega, by show (k : Int) < _; omega⟩ ?_
  conv => whnf
  refine WLd.mk (i (cyc.getD k 0)) (by simpa using hcell) ?_
  conv => whnf
  refine WSc.mk (fun _ => And.intro (Mem.le.refl _) rfl) ?_
  have hsel : scB (cyc.getD k 0 == c) false ((k : Int) == more) = selB cyc c more k := by
   unfold selB; cases (cyc.getD k 0 == c) <;> cases ((k : Int) == more) <;> rfl
  conv => whnf
  refine Br.mk (fun hb2 => ?_) (fun hb2 => ?_)
  ·have hs : selB cyc c more k = true := by rw [← hsel]; exact hb2
   have hsucc : selS O cyc c more (k + 1) = selS O cyc c more k ++ [opAt O k] := by rw [selS_succ, if_pos hs]
   generalize opAt O k = o at *
   conv => whnf
   refine WIdx.mk ad rfl ⟨by omega, by show (k : Int) < _; omega⟩ ?_
   conv => whnf
   refine WLds.mk o.cells (by simpa using hcells) rfl ?_
   conv => whnf
   rw [sp7 o]
   refine WNew.mk fun bx hbx => ?_
   conv => whnf
   refine pushO_ok (L := selS O cyc c more k) (o := o) (g1.trans (Mem.le_set hbx)) (g2.mono (Mem.le_set hbx)) (Mem.set_same _ _ _) rfl (by omega) fun a' c' m' hle8 hp8 => ?_
   have hl2 : (selS O cyc c more k).length + 1 = (selS O cyc c more (k + 1)).length := by rw [hsucc]; simp
   rw [← hsucc] at hp8
   rw [hl2]
   conv => whnf
   refine WRng.mk (by apply wrap_i64 <;> omega) ?_
   conv => whnf
   exact ⟨(k + 1, a', c'), ⟨rfl, rfl, trivial⟩, ⟨hle8, hp8, hk⟩, by simp only; omega⟩
  ·have hs : ¬ selB cyc c more k = true := fun h => by rw [← hsel] at h; rw [show scB (cyc.getD k 0 == c) false ((k : Int) == more) = false from hb2] at h; cases h
   have hsucc : selS O cyc c more (k + 1) = selS O cyc c more k := by rw [selS_succ, if_neg hs]
   conv => whnf
   refine WRng.mk (by apply wrap_i64 <;> omega) ?_
   conv => whnf
   exact ⟨(k + 1, A, cA), ⟨rfl, by rw [hsucc]; rfl, trivial⟩, ⟨g1, by rw [hsucc]; exact g2, hk⟩, by simp only; omega⟩
 ·have hk : k = O.length := by
   have : ¬ (k : Int) < O.length := of_decide_eq_false hb
   omega
  subst hk
  conv => whnf
  refine WCall.mk (refTogether_ok M g2.oat (by have := selS_len (O := O) (cyc := cyc) (c := c) (more := more) (k := O.length); omega) hM fun o ho => hgood o (selS_mem (Nat.le_refl _) o ho)) ?_
  rintro _ m2 ⟨rfl, hle2⟩
  conv => whnf
  exact WRet.same ⟨rfl, g1.trans hle2⟩
end Go.Proofs.YtmnagbhllnlelaaGreatDoor
