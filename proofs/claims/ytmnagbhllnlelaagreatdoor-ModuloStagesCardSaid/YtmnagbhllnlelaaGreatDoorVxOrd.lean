/- Contracts of layer 20's functions (order) and of its law's helpers. -/
import Derived.Test.YtmnagbhllnlelaaGreatDoorVxIR0
import Derived.Test.YtmnagbhllnlelaaGreatDoorVxIR1
import Derived.Test.YtmnagbhllnlelaaGreatDoorVxIR2
import Derived.Test.YtmnagbhllnlelaaGreatDoorVxIR3
import Derived.Test.YtmnagbhllnlelaaGreatDoorVxIR4
import Derived.Test.YtmnagbhllnlelaaGreatDoorVxApp
import Derived.Laws.BitsLemmas
set_option linter.unusedSimpArgs false
set_option linter.unusedVariables false
set_option maxRecDepth 100000
namespace Go.Proofs.YtmnagbhllnlelaaGreatDoor
open Go Go.Vx
open Go.Vx.IOp Go.Vx.IR Go.Vx.Opd
/-- A slice of ints that holds a list. -/
def IAt (m : Mem) (v : Value) (C : List Int) : Prop := ∃ a c, v = .slice a C.length c ∧ (a = none → C = []) ∧ (∀ ad, a = some ad → CellsAt m ad (C.map i)) ∧ C.length ≤ c
/-- An edge: from, to, delay, rounds. -/
structure Edg where
  f : Int
  t : Int
  d : Int
  r : Int
deriving DecidableEq
def Edg.cells (e : Edg) : List Value := [i e.f, i e.t, i e.d, i e.r]
def Edg.val (e : Edg) : Value := .agg ⟨e.cells⟩
def ecs (E : List Edg) : List Value := (E.map Edg.cells).flatten
def EAt (m : Mem) (v : Value) (E : List Edg) : Prop := ∃ a c, v = .slice a E.length c ∧ (a = none → E = []) ∧ (∀ ad, a = some ad → CellsAt m ad (ecs E)) ∧ E.length ≤ c
theorem ecs_len (E : List Edg) : (ecs E).length = E.length * 4 := by
  induction E with
  | nil => rfl
  | cons e E ih => simp only [ecs, List.map_cons, List.flatten_cons, List.length_append, List.length_cons] at ih ⊢; rw [ih]; simp [Edg.cells]; omega
theorem ecs_get {E : List Edg} {k j : Nat} (hk : k < E.length) (hj : j < 4) : (ecs E)[k * 4 + j]? = (E[k]).cells[j]? := by
  induction E generalizing k with
  | nil => simp at hk
  | cons e E ih =>
    have hc : ecs (e :: E) = e.cells ++ ecs E := by simp [ecs]
    have hl : e.cells.length = 4 := rfl
    rw [hc]
    cases k with
    | zero => rw [List.getElem?_append_left (by omega)]; simp
    | succ k =>
      rw [List.getElem?_append_right (by omega)]
      have : (k + 1) * 4 + j - e.cells.length = k * 4 + j := by omega
      rw [this, ih (by simpa using hk)]; simp
theorem wrap_i64 {z : Int} (h : -9223372036854775808 ≤ z) (h2 : z ≤ 9223372036854775807) : IntKind.i64.wrap z = z := by
  rw [IntKind.wrap_i64]; omega
theorem IAt.cell {m : Mem} {ad : Addr} {C : List Int} (h : CellsAt m ad (C.map i)) {k : Nat} (hk : k < C.length) : CellAt m (ad.add k) (i C[k]) := h k _ (by simp [hk])
theorem add_add {a : Addr} {x y : Nat} : (a.add x).add y = a.add (x + y) := by
  by_cases hx : x = 0 <;> by_cases hy : y = 0 <;> simp_all [Addr.add, Nat.add_assoc]
theorem EAt.cells {m : Mem} {ad : Addr} {E : List Edg} (h : CellsAt m ad (ecs E)) {k : Nat} (hk : k < E.length) : CellsAt m (ad.add (k * 4)) (E[k]).cells := fun j v hj => by
  have hl : j < 4 := (List.getElem?_eq_some_iff.1 hj).1
  rw [add_add]
  exact h _ _ (by rw [ecs_get hk hl]; exact hj)

/-! IndexFunc, ContainsFunc. -/
def PureM (P : Program) (f : Nat) (vs : List Value) (m : Mem) (v : Value) : Prop := CallsM P f vs m fun e m' => e = .returned v ∧ m' = m
def idxFrom {α : Type} (p : α → Bool) (C : List α) : Int := match C.findIdx? p with | some k => (k : Int) | none => -1
theorem findIdx_none {α : Type} {p : α → Bool} {C : List α} (h : ∀ (k : Nat) (hk : k < C.length), p C[k] = false) : C.findIdx? p = none := by
  rw [List.findIdx?_eq_none_iff]
  intro x hx
  obtain ⟨k, hk, rfl⟩ := List.getElem_of_mem hx
  exact h k hk
theorem findIdx_at {α : Type} {p : α → Bool} {C : List α} {k : Nat} (hk : k < C.length) (h : ∀ j (hj : j < k), p C[j] = false) (hp : p C[k] = true) : C.findIdx? p = some k := by
  rw [List.findIdx?_eq_some_iff_getElem]
  exact ⟨hk, hp, fun j hj => by simp [h j hj]⟩
theorem idxFrom_any {α : Type} (p : α → Bool) (C : List α) : decide (idxFrom p C ≥ 0) = C.any p := by
  unfold idxFrom
  cases h : C.findIdx? p with
  | none =>
    rw [List.findIdx?_eq_none_iff] at h
    simp only [ge_iff_le]
    rw [decide_eq_false (by omega)]
    symm; rw [List.any_eq_false]; intro x hx; simp [h x hx]
  | some k =>
    rw [List.findIdx?_eq_some_iff_getElem] at h
    obtain ⟨h1, h2, _⟩ := h
    simp only [ge_iff_le]
    rw [decide_eq_true (by omega)]
    symm; rw [List.any_eq_true]; exact ⟨_, List.getElem_mem h1, h2⟩
theorem idx_int {m : Mem} {v : Value} {C : List Int} (hv : IAt m v C) (hlen : C.length < 2 ^ 63) {g : Nat} {first caps : List Value} (p : Int → Bool)
    (hp : ∀ x ∈ C, PureM Tryz.prog g (first ++ [i x] ++ caps) m (.bool (p x))) :
    PureM Tryz.prog 83 [v, .func (.func g) ⟨first⟩ ⟨caps⟩] m (i (idxFrom p C)) := by
  obtain ⟨a, c, rfl, h0, h1, hcap⟩ := hv
  refine calls_of mixed Tryz.func83 ok_slices_IndexFunc_int_int rfl ?_
  conv => whnf
  refine WLoop.mk Nat (fun k => [(8, .val (i k))]) (fun k m' => m = m' ∧ k ≤ C.length ∧ ∀ j (hj : j < C.length), j < k → p C[j] = false) (fun k => C.length - k) 0 ⟨rfl, trivial⟩ ⟨rfl, Nat.zero_le _, fun j hj h => by omega⟩ ?_
  rintro k m' ⟨rfl, hk, hq⟩
  conv => whnf
  refine Br.mk (fun hb => ?_) (fun hb => ?_)
  · have hk2 : k < C.length := by simpa using hb
    conv => whnf
    cases a with
    | none => rw [h0 rfl] at hk2; simp at hk2
    | some ad =>
      refine WIdx.mk ad rfl ⟨by omega, by simpa using hk2⟩ ?_
      conv => whnf
      refine WLd.mk (i C[k]) ?_ ?_
      · simpa using IAt.cell (h1 ad rfl) hk2
      conv => whnf
      refine WCall.pure (hp _ (List.getElem_mem hk2)) ?_
      conv => whnf
      refine Br.mk (fun hb => ?_) (fun hb => ?_)
      · conv => whnf
        refine WRet.same ⟨?_, rfl⟩
        unfold idxFrom
        rw [findIdx_at hk2 (fun j hj => hq j (by omega) hj) hb]
        rfl
      · conv => whnf
        refine WRng.mk (by apply wrap_i64 <;> omega) ?_
        conv => whnf
        refine ⟨k + 1, ⟨rfl, trivial⟩, ⟨rfl, hk2, fun j hj h => ?_⟩, by omega⟩
        by_cases e : j = k
        · subst e; exact hb
        · exact hq j hj (by omega)
  · have hk2 : ¬ k < C.length := by simpa using hb
    conv => whnf
    refine WRet.same ⟨?_, rfl⟩
    unfold idxFrom
    rw [findIdx_none fun j hj => hq j hj (by omega)]
    rfl
theorem contains_int {m : Mem} {v : Value} {C : List Int} (hv : IAt m v C) (hlen : C.length < 2 ^ 63) {g : Nat} {first caps : List Value} (p : Int → Bool)
    (hp : ∀ x ∈ C, PureM Tryz.prog g (first ++ [i x] ++ caps) m (.bool (p x))) :
    PureM Tryz.prog 41 [v, .func (.func g) ⟨first⟩ ⟨caps⟩] m (.bool (C.any p)) := by
  refine calls_of mixed Tryz.func41 ok_slices_ContainsFunc_int_int rfl ?_
  conv => whnf
  refine WCall.pure (idx_int hv hlen p hp) ?_
  conv => whnf
  refine WRet.same ⟨?_, rfl⟩
  rw [show resVal [Value.bool (decide (idxFrom p C ≥ 0))] = .bool (decide (idxFrom p C ≥ 0)) from rfl, idxFrom_any]
/-- The first code that is not 0. -/
def firstCode {α : Type} (cd : α → Int) : List α → Int
  | [] => 0
  | x :: xs => if cd x = 0 then firstCode cd xs else cd x
theorem firstCode_at {α : Type} {cd : α → Int} : ∀ {L : List α} {k : Nat} (hk : k < L.length), (∀ j (hj : j < L.length), j < k → cd L[j] = 0) → cd L[k] ≠ 0 → firstCode cd L = cd L[k]
  | [], k, hk, _, _ => by simp at hk
  | x :: xs, 0, hk, _, h => by simp only [List.getElem_cons_zero] at h ⊢; simp only [firstCode, if_neg h]
  | x :: xs, k + 1, hk, h0, h => by
    have h1 := h0 0 (by simp) (by omega)
    simp only [List.getElem_cons_zero] at h1
    simp only [List.getElem_cons_succ] at h ⊢
    simp only [firstCode, if_pos h1]
    exact firstCode_at (by simpa using hk) (fun j hj hjk => by have := h0 (j + 1) (by simpa using hj) (by omega); simpa using this) h
theorem firstCode_end {α : Type} {cd : α → Int} : ∀ {L : List α}, (∀ j (hj : j < L.length), cd L[j] = 0) → firstCode cd L = 0
  | [], _ => rfl
  | x :: xs, h => by
    have h1 := h 0 (by simp)
    simp only [List.getElem_cons_zero] at h1
    simp only [firstCode, if_pos h1]
    exact firstCode_end fun j hj => by have := h (j + 1) (by simpa using hj); simpa using this
def badR (n most : Int) (e : Edg) : Bool := decide (e.f < 0) || decide (e.f ≥ n) || decide (e.t < 0) || decide (e.t ≥ n) || decide (e.r < 0) || decide (e.r > most) || decide (e.d < 0) || decide (e.d > 8)
def rightS (n most : Int) (E : List Edg) : Int := if n > 401 ∨ E.length > 200000 then 3 else if n < 0 then 2 else firstCode (fun e => bif badR n most e then 2 else 0) E
theorem right_ok {m : Mem} {v : Value} {E : List Edg} (hv : EAt m v E) (hlen : E.length < 2 ^ 63) (n most : Int) :
    PureM Tryz.prog 48 [i n, v, i most] m (i (rightS n most E)) := by
  obtain ⟨a, c, rfl, h0, h1, hcap⟩ := hv
  refine calls_of mixed Tryz.func48 ok_order_Right rfl ?_
  conv => whnf
  refine WSc.mk (fun _ => And.intro (Mem.le.refl _) rfl) ?_
  conv => whnf
  refine Br.mk (fun hb => ?_) (fun hb => ?_)
  · conv => whnf
    refine WRet.same ⟨?_, rfl⟩
    simp only [scB, Bool.or_eq_true, decide_eq_true_eq] at hb
    unfold rightS
    rw [if_pos (by omega)]
    rfl
  simp only [scB, Bool.or_eq_false_iff, decide_eq_false_iff_not] at hb
  conv => whnf
  refine Br.mk (fun hb2 => ?_) (fun hb2 => ?_)
  · conv => whnf
    refine WRet.same ⟨?_, rfl⟩
    simp only [decide_eq_true_eq] at hb2
    unfold rightS
    rw [if_neg (by omega), if_pos (by omega)]
    rfl
  simp only [decide_eq_false_iff_not] at hb2
  conv => whnf
  refine WLoop.mk Nat (fun k => [(20, .val (i k))]) (fun k m' => m = m' ∧ k ≤ E.length ∧ ∀ j (hj : j < E.length), j < k → badR n most E[j] = false) (fun k => E.length - k) 0 ⟨rfl, trivial⟩ ⟨rfl, Nat.zero_le _, fun j hj h => by omega⟩ ?_
  rintro k m' ⟨rfl, hk, hq⟩
  conv => whnf
  refine Br.mk (fun hb => ?_) (fun hb => ?_)
  · have hk2 : k < E.length := by simpa using hb
    conv => whnf
    cases a with
    | none => rw [h0 rfl] at hk2; simp at hk2
    | some ad =>
      refine WIdx.mk ad rfl ⟨by omega, by simpa using hk2⟩ ?_
      conv => whnf
      refine WLds.mk (E[k]).cells (by simpa using EAt.cells (h1 ad rfl) hk2) rfl ?_
      repeat' (conv => whnf
               first | refine Br.mk (fun hb => ?_) (fun hb => ?_) | apply WSc.mk | exact And.intro (Mem.le.refl _) rfl | intro h)
      · conv => whnf
        refine WRet.same ⟨?_, rfl⟩
        have hb' : badR n most E[k] = true := hb
        unfold rightS
        rw [if_neg (by omega), if_neg (by omega), firstCode_at hk2 (fun j hj hjk => by rw [hq j hj hjk]; rfl) (by rw [hb']; decide), hb']
        rfl
      · conv => whnf
        refine WRng.mk (by apply wrap_i64 <;> omega) ?_
        conv => whnf
        refine ⟨k + 1, ⟨rfl, trivial⟩, ⟨rfl, hk2, fun j hj h => ?_⟩, by omega⟩
        by_cases e : j = k
        · subst e; exact hb
        · exact hq j hj (by omega)
  · have hk2 : ¬ k < E.length := by simpa using hb
    conv => whnf
    refine WRet.same ⟨?_, rfl⟩
    unfold rightS
    rw [if_neg (by omega), if_neg (by omega), firstCode_end fun j hj => by rw [hq j hj (by omega)]; rfl]
    rfl
/-! The reference's Wrong. -/
def badW (n : Int) (fwd : Bool) (e : Edg) : Bool := decide (e.f < 0) || decide (e.f ≥ n) || decide (e.t < 0) || decide (e.t ≥ n) || decide (e.r < 0) || (!fwd && decide (e.r > 2147483648)) || decide (e.d < 0) || decide (e.d > 8)
def backW (fwd : Bool) (e : Edg) : Bool := (fwd && decide (e.r = 0)) && decide (e.t ≤ e.f)
def cdW (n : Int) (fwd : Bool) (e : Edg) : Int := bif badW n fwd e then 2 else bif backW fwd e then 4 else 0
theorem wrong_ok {m : Mem} {v : Value} {E : List Edg} (hv : EAt m v E) (hlen : E.length < 2 ^ 63) (n : Int) (fwd : Bool) :
    PureM Tryz.prog 16 [i n, v, .bool fwd] m (i (firstCode (cdW n fwd) E)) := by
  obtain ⟨a, c, rfl, h0, h1, hcap⟩ := hv
  refine calls_of mixed Tryz.func16 ok_biremeref20_Wrong rfl ?_
  conv => whnf
  refine WLoop.mk Nat (fun k => [(7, .val (i k)), (6, .val (i 0))]) (fun k m' => m = m' ∧ k ≤ E.length ∧ ∀ j (hj : j < E.length), j < k → cdW n fwd E[j] = 0) (fun k => E.length - k) 0 ⟨rfl, rfl, trivial⟩ ⟨rfl, Nat.zero_le _, fun j hj h => by omega⟩ ?_
  rintro k m' ⟨rfl, hk, hq⟩
  conv => whnf
  refine Br.mk (fun hb => ?_) (fun hb => ?_)
  · have hk2 : k < E.length := by simpa using hb
    conv => whnf
    cases a with
    | none => rw [h0 rfl] at hk2; simp at hk2
    | some ad =>
      refine WIdx.mk ad rfl ⟨by omega, by simpa using hk2⟩ ?_
      conv => whnf
      refine WLds.mk (E[k]).cells (by simpa using EAt.cells (h1 ad rfl) hk2) rfl ?_
      repeat' (conv => whnf
               first | refine Br.mk (fun hb => ?_) (fun hb => ?_) | apply WSc.mk | exact And.intro (Mem.le.refl _) rfl | intro h)
      · conv => whnf
        refine WRet.same ⟨?_, rfl⟩
        have hb' : badW n fwd E[k] = true := hb
        have hc : cdW n fwd E[k] = 2 := by unfold cdW; rw [hb']; rfl
        rw [firstCode_at hk2 hq (by rw [hc]; decide), hc]
        rfl
      · conv => whnf
        rename_i hb1 _
        refine WRet.same ⟨?_, rfl⟩
        have hb' : badW n fwd E[k] = false := by assumption
        have hb2 : backW fwd E[k] = true := by assumption
        have hc : cdW n fwd E[k] = 4 := by unfold cdW; rw [hb', hb2]; rfl
        rw [firstCode_at hk2 hq (by rw [hc]; decide), hc]
        rfl
      · conv => whnf
        refine WRng.mk (by apply wrap_i64 <;> omega) ?_
        conv => whnf
        refine ⟨k + 1, ⟨rfl, rfl, trivial⟩, ⟨rfl, hk2, fun j hj h => ?_⟩, by omega⟩
        by_cases e : j = k
        · subst e
          have hb' : badW n fwd E[j] = false := by assumption
          have hb2 : backW fwd E[j] = false := by assumption
          unfold cdW; rw [hb', hb2]; rfl
        · exact hq j hj (by omega)
  · have hk2 : ¬ k < E.length := by simpa using hb
    conv => whnf
    refine WRet.same ⟨?_, rfl⟩
    rw [firstCode_end fun j hj => hq j hj (by omega)]
    rfl
/-! Held, Hold. -/
def heldN (C : List Int) (I : Int) (e : Edg) : Bool := decide (C.getD e.t.toNat 0 + I * e.r < C.getD e.f.toNat 0 + e.d)
/-- Where the operations of Held stay in range. -/
structure Fit (C : List Int) (I : Int) (E : List Edg) : Prop where
  len : C.length ≤ 401
  cyc : ∀ x ∈ C, 0 ≤ x ∧ x ≤ 1125899906842624
  int : 0 ≤ I ∧ I ≤ 4194304
  edge : ∀ e ∈ E, 0 ≤ e.f ∧ e.f < C.length ∧ 0 ≤ e.t ∧ e.t < C.length ∧ 0 ≤ e.r ∧ e.r ≤ 2147483648 ∧ 0 ≤ e.d ∧ e.d ≤ 8
theorem Fit.mul {C : List Int} {I : Int} {E : List Edg} (h : Fit C I E) {e : Edg} (he : e ∈ E) : 0 ≤ I * e.r ∧ I * e.r ≤ 9007199254740992 := by
  obtain ⟨h1, h2⟩ := h.int
  obtain ⟨_, _, _, _, r1, r2, _, _⟩ := h.edge e he
  refine ⟨Int.mul_nonneg h1 r1, ?_⟩
  calc I * e.r ≤ 4194304 * 2147483648 := Int.mul_le_mul h2 r2 r1 (by decide)
    _ = 9007199254740992 := by decide
theorem held_ok {m : Mem} {v u : Value} {E : List Edg} {C : List Int} {I : Int} (hv : EAt m v E) (hu : IAt m u C) (hlen : E.length < 2 ^ 63) (hf : Fit C I E) :
    PureM Tryz.prog 40 [v, u, i I] m (.bool (!(E.any (heldN C I)))) := by
  obtain ⟨a, c, rfl, h0, h1, hcap⟩ := hv
  obtain ⟨a2, c2, rfl, q0, q1, hcap2⟩ := hu
  refine calls_of mixed Tryz.func40 ok_biremeref20_Held rfl ?_
  conv => whnf
  refine WLoop.mk Nat (fun k => [(7, .val (i k))]) (fun k m' => m = m' ∧ k ≤ E.length ∧ ∀ j (hj : j < E.length), j < k → heldN C I E[j] = false) (fun k => E.length - k) 0 ⟨rfl, trivial⟩ ⟨rfl, Nat.zero_le _, fun j hj h => by omega⟩ ?_
  rintro k m' ⟨rfl, hk, hq⟩
  conv => whnf
  refine Br.mk (fun hb => ?_) (fun hb => ?_)
  · have hk2 : k < E.length := by simpa using hb
    conv => whnf
    cases a with
    | none => rw [h0 rfl] at hk2; simp at hk2
    | some ad =>
      refine WIdx.mk ad rfl ⟨by omega, by simpa using hk2⟩ ?_
      conv => whnf
      refine WLds.mk (E[k]).cells (by simpa using EAt.cells (h1 ad rfl) hk2) rfl ?_
      obtain ⟨f1, f2, t1, t2, r1, r2, d1, d2⟩ := hf.edge E[k] (List.getElem_mem hk2)
      obtain ⟨m1, m2⟩ := hf.mul (List.getElem_mem hk2)
      have hC : ∀ z : Int, 0 ≤ z → z < C.length → ∃ y, C[z.toNat]? = some y ∧ C.getD z.toNat 0 = y ∧ 0 ≤ y ∧ y ≤ 1125899906842624 := fun z z1 z2 => by
        have hz : z.toNat < C.length := by omega
        refine ⟨C[z.toNat], List.getElem?_eq_getElem hz, by simp [List.getD_eq_getElem?_getD, hz], hf.cyc _ (List.getElem_mem hz)⟩
      obtain ⟨y1, g1, e1, b1, b2⟩ := hC _ t1 t2
      obtain ⟨y2, g2, e2, b3, b4⟩ := hC _ f1 f2
      have hh : heldN C I E[k] = decide (y1 + I * (E[k]).r < y2 + (E[k]).d) := by unfold heldN; rw [e1, e2]
      cases a2 with
      | none => rw [q0 rfl] at t2; simp at t2; omega
      | some ad2 =>
        conv => whnf
        refine WIdx.mk ad2 rfl ⟨t1, by simpa using t2⟩ ?_
        conv => whnf
        refine WLd.mk (i y1) ?_ ?_
        · simpa using q1 ad2 rfl _ _ (by rw [List.getElem?_map, g1]; rfl)
        conv => whnf
        refine WRng.mk (by apply wrap_i64 <;> omega) ?_
        conv => whnf
        refine WRng.mk (by apply wrap_i64 <;> omega) ?_
        conv => whnf
        refine WIdx.mk ad2 rfl ⟨f1, by simpa using f2⟩ ?_
        conv => whnf
        refine WLd.mk (i y2) ?_ ?_
        · simpa using q1 ad2 rfl _ _ (by rw [List.getElem?_map, g2]; rfl)
        conv => whnf
        refine WRng.mk (by apply wrap_i64 <;> omega) ?_
        conv => whnf
        refine Br.mk (fun hb => ?_) (fun hb => ?_)
        · conv => whnf
          refine WRet.same ⟨?_, rfl⟩
          have : E.any (heldN C I) = true := List.any_eq_true.2 ⟨E[k], List.getElem_mem hk2, by rw [hh]; exact hb⟩
          rw [this]; rfl
        · conv => whnf
          refine WRng.mk (by apply wrap_i64 <;> omega) ?_
          conv => whnf
          refine ⟨k + 1, ⟨rfl, trivial⟩, ⟨rfl, hk2, fun j hj h => ?_⟩, by omega⟩
          by_cases e : j = k
          · subst e; rw [hh]; exact hb
          · exact hq j hj (by omega)
  · have hk2 : ¬ k < E.length := by simpa using hb
    conv => whnf
    refine WRet.same ⟨?_, rfl⟩
    have : E.any (heldN C I) = false := List.any_eq_false.2 fun x hx => by
      obtain ⟨j, hj, rfl⟩ := List.getElem_of_mem hx
      rw [hq j hj (by omega)]; decide
    rw [this]; rfl
theorem hold1_ok {m : Mem} {u : Value} {C : List Int} {I : Int} {E : List Edg} {b1 b2 : Nat} (hb1 : m b1 = some (Cells [u] 22)) (hb2 : m b2 = some (Cells [i I] 3)) (hu : IAt m u C) (hf : Fit C I E) {e : Edg} (he : e ∈ E) :
    PureM Tryz.prog 91 [e.val, .pointer (some ⟨b1, 0, none⟩), .pointer (some ⟨b2, 0, none⟩)] m (.bool (heldN C I e)) := by
  obtain ⟨a2, c2, rfl, q0, q1, hcap2⟩ := hu
  obtain ⟨f1, f2, t1, t2, r1, r2, d1, d2⟩ := hf.edge e he
  obtain ⟨m1, m2⟩ := hf.mul he
  have hC : ∀ z : Int, 0 ≤ z → z < C.length → ∃ y, C[z.toNat]? = some y ∧ C.getD z.toNat 0 = y ∧ 0 ≤ y ∧ y ≤ 1125899906842624 := fun z z1 z2 => by
    have hz : z.toNat < C.length := by omega
    refine ⟨C[z.toNat], List.getElem?_eq_getElem hz, by simp [List.getD_eq_getElem?_getD, hz], hf.cyc _ (List.getElem_mem hz)⟩
  obtain ⟨y1, g1, e1, b3, b4⟩ := hC _ t1 t2
  obtain ⟨y2, g2, e2, b5, b6⟩ := hC _ f1 f2
  have hh : heldN C I e = decide (y1 + I * e.r < y2 + e.d) := by unfold heldN; rw [e1, e2]
  have hc1 : CellAt m ⟨b1, 0, none⟩ (.slice a2 C.length c2) := ⟨_, _, _, hb1, rfl, rfl⟩
  have hc2 : CellAt m ⟨b2, 0, none⟩ (i I) := ⟨_, _, _, hb2, rfl, rfl⟩
  refine calls_of mixed Tryz.func91 ok_order_Hold_1 rfl ?_
  conv => whnf
  refine WLd.mk _ hc1 ?_
  cases a2 with
  | none => rw [q0 rfl] at t2; simp at t2; omega
  | some ad2 =>
    conv => whnf
    refine WIdx.mk ad2 rfl ⟨t1, by simpa using t2⟩ ?_
    conv => whnf
    refine WLd.mk (i y1) (by simpa using q1 ad2 rfl _ _ (by rw [List.getElem?_map, g1]; rfl)) ?_
    conv => whnf
    refine WLd.mk _ hc2 ?_
    conv => whnf
    refine WRng.mk (by apply wrap_i64 <;> omega) ?_
    conv => whnf
    refine WRng.mk (by apply wrap_i64 <;> omega) ?_
    conv => whnf
    refine WLd.mk _ hc1 ?_
    conv => whnf
    refine WIdx.mk ad2 rfl ⟨f1, by simpa using f2⟩ ?_
    conv => whnf
    refine WLd.mk (i y2) (by simpa using q1 ad2 rfl _ _ (by rw [List.getElem?_map, g2]; rfl)) ?_
    conv => whnf
    refine WRng.mk (by apply wrap_i64 <;> omega) ?_
    conv => whnf
    refine WRet.same ⟨?_, rfl⟩
    rw [hh]; rfl
theorem idx_edge {m : Mem} {v : Value} {E : List Edg} (hv : EAt m v E) (hlen : E.length < 2 ^ 63) {g : Nat} {first caps : List Value} (p : Edg → Bool)
    (hp : ∀ x ∈ E, PureM Tryz.prog g (first ++ [x.val] ++ caps) m (.bool (p x))) :
    PureM Tryz.prog 137 [v, .func (.func g) ⟨first⟩ ⟨caps⟩] m (i (idxFrom p E)) := by
  obtain ⟨a, c, rfl, h0, h1, hcap⟩ := hv
  refine calls_of mixed Tryz.func137 ok_slices_IndexFunc_api_Edge_api_Edge rfl ?_
  conv => whnf
  refine WLoop.mk Nat (fun k => [(8, .val (i k))]) (fun k m' => m = m' ∧ k ≤ E.length ∧ ∀ j (hj : j < E.length), j < k → p E[j] = false) (fun k => E.length - k) 0 ⟨rfl, trivial⟩ ⟨rfl, Nat.zero_le _, fun j hj h => by omega⟩ ?_
  rintro k m' ⟨rfl, hk, hq⟩
  conv => whnf
  refine Br.mk (fun hb => ?_) (fun hb => ?_)
  · have hk2 : k < E.length := by simpa using hb
    conv => whnf
    cases a with
    | none => rw [h0 rfl] at hk2; simp at hk2
    | some ad =>
      refine WIdx.mk ad rfl ⟨by omega, by simpa using hk2⟩ ?_
      conv => whnf
      refine WLds.mk (E[k]).cells (by simpa using EAt.cells (h1 ad rfl) hk2) rfl ?_
      conv => whnf
      refine WCall.pure (hp _ (List.getElem_mem hk2)) ?_
      conv => whnf
      refine Br.mk (fun hb => ?_) (fun hb => ?_)
      · conv => whnf
        refine WRet.same ⟨?_, rfl⟩
        unfold idxFrom
        rw [findIdx_at hk2 (fun j hj => hq j (by omega) hj) hb]
        rfl
      · conv => whnf
        refine WRng.mk (by apply wrap_i64 <;> omega) ?_
        conv => whnf
        refine ⟨k + 1, ⟨rfl, trivial⟩, ⟨rfl, hk2, fun j hj h => ?_⟩, by omega⟩
        by_cases e : j = k
        · subst e; exact hb
        · exact hq j hj (by omega)
  · have hk2 : ¬ k < E.length := by simpa using hb
    conv => whnf
    refine WRet.same ⟨?_, rfl⟩
    unfold idxFrom
    rw [findIdx_none fun j hj => hq j hj (by omega)]
    rfl
theorem contains_edge {m : Mem} {v : Value} {E : List Edg} (hv : EAt m v E) (hlen : E.length < 2 ^ 63) {g : Nat} {first caps : List Value} (p : Edg → Bool)
    (hp : ∀ x ∈ E, PureM Tryz.prog g (first ++ [x.val] ++ caps) m (.bool (p x))) :
    PureM Tryz.prog 90 [v, .func (.func g) ⟨first⟩ ⟨caps⟩] m (.bool (E.any p)) := by
  refine calls_of mixed Tryz.func90 ok_slices_ContainsFunc_api_Edge_api_Edge rfl ?_
  conv => whnf
  refine WCall.pure (idx_edge hv hlen p hp) ?_
  conv => whnf
  refine WRet.same ⟨?_, rfl⟩
  rw [show resVal [Value.bool (decide (idxFrom p E ≥ 0))] = .bool (decide (idxFrom p E ≥ 0)) from rfl, idxFrom_any]
theorem EAt.mono {m m' : Mem} (h : Mem.le m m') {v : Value} {E : List Edg} (k : EAt m v E) : EAt m' v E := by
  obtain ⟨a, c, h1, h2, h3, h4⟩ := k; exact ⟨a, c, h1, h2, fun ad ha => (h3 ad ha).mono h, h4⟩
theorem IAt.mono {m m' : Mem} (h : Mem.le m m') {v : Value} {C : List Int} (k : IAt m v C) : IAt m' v C := by
  obtain ⟨a, c, h1, h2, h3, h4⟩ := k; exact ⟨a, c, h1, h2, fun ad ha => (h3 ad ha).mono h, h4⟩
theorem hold_ok {m : Mem} {v u : Value} {E : List Edg} {C : List Int} {I : Int} (hv : EAt m v E) (hu : IAt m u C) (hlen : E.length < 2 ^ 63) (hf : Fit C I E) :
    PureM Tryz.prog 52 [v, u, i I] m (.bool (!(E.any (heldN C I)))) := by
  obtain ⟨a2, c2, rfl, q0, q1, hcap2⟩ := hu
  have hu : IAt m (.slice a2 C.length c2) C := ⟨a2, c2, rfl, q0, q1, hcap2⟩
  refine calls_of mixed Tryz.func52 ok_order_Hold rfl ?_
  conv => whnf
  refine WNew.mk fun b1 hb1 => ?_
  conv => whnf
  refine WNew.mk fun b2 hb2 => ?_
  have hne : b1 ≠ b2 := fun e => by subst e; rw [Mem.set_same] at hb2; cases hb2
  have hl1 := Mem.le_set (o := Cells (cellsL (Value.slice a2 C.length c2)) 22) hb1
  have hl2 := Mem.le_set (o := Cells (cellsL (i I)) 3) hb2
  have hle := hl1.trans hl2
  conv => whnf
  refine WCall.pure (contains_edge (hv.mono hle) hlen (heldN C I) fun x hx => hold1_ok (b1 := b1) (b2 := b2) ?_ ?_ (hu.mono hle) hf hx) ?_
  · rw [Mem.set_other _ _ hne, Mem.set_same]; rfl
  · rw [Mem.set_same]; rfl
  conv => whnf
  exact WRet.mk hle ⟨rfl, rfl⟩
/-! few, edges. -/
theorem take_cells (E : List Edg) (k : Nat) : ecs (E.take k) = (ecs E).take (k * 4) := by
  induction E generalizing k with
  | nil => simp [ecs]
  | cons e E ih =>
    cases k with
    | zero => simp [ecs]
    | succ k =>
      have h1 : ecs (e :: E) = e.cells ++ ecs E := by simp [ecs]
      have h2 : ecs (e :: E.take k) = e.cells ++ ecs (E.take k) := by simp [ecs]
      have hl : e.cells.length = 4 := rfl
      rw [List.take_succ_cons, h2, ih, h1, List.take_append, hl, show (k + 1) * 4 - 4 = k * 4 by omega, List.take_of_length_le (l := e.cells) (by rw [hl]; omega)]
theorem CellsAt.take {m : Mem} {ad : Addr} {vs : List Value} (h : CellsAt m ad vs) (k : Nat) : CellsAt m ad (vs.take k) := fun j v hj => by
  have := (List.getElem?_eq_some_iff.1 hj).1
  rw [List.getElem?_take, if_pos (by simp at this; omega)] at hj
  exact h j v hj
theorem WApp.copy {m : Mem} {T sz bytes : Nat} {zero : List Value} {b1 : Nat} {A A' : Option Addr} {n n' : Nat} {K : Value → Mem → Prop} (hb1 : m b1 = none) (hA' : A' = A) (hn : n' = n) (new : List Value) (h : FirstCells m A (n * sz) new) (hA : A = none → n = 0)
    (hb : n * bytes ≤ 35184372088832) (k : ∀ b c m', Mem.le m m' → n ≤ c → m b = none → CellsAt m' ⟨b, 0, none⟩ new → K (.slice (some ⟨b, 0, none⟩) n c) m') :
    WApp (m.set b1 (Cells [] T)) T sz bytes zero (some ⟨b1, 0, none⟩) 0 0 A' n' K := by
  subst hA'; subst hn
  have hle := Mem.le_set (o := Cells [] T) hb1
  have hf : FirstCells (m.set b1 (Cells [] T)) A' (n' * sz) new := ⟨h.1, fun ad ha => (h.2 ad ha).mono hle⟩
  by_cases h0 : n' = 0
  · subst h0
    have hnew : new = [] := List.length_eq_zero_iff.1 (by rw [h.1]; simp)
    subst hnew
    refine WApp.in [] hf (fun _ => rfl) [] T (by omega) (Mem.set_same _ _ _) rfl (by simp) rfl ?_
    refine k b1 0 _ (fun b o hbo => ?_) (Nat.le_refl _) hb1 (fun j v hj => by simp at hj)
    have : b ≠ b1 := fun e => by subst e; rw [hb1] at hbo; cases hbo
    rw [Mem.set_other _ _ this, Mem.set_other _ _ this]; exact hbo
  · refine WApp.grow new hf hA (by omega) (by rw [Nat.zero_add]; exact hb) [] ⟨by simp, fun ad _ j v hj => by simp at hj⟩ (fun _ => rfl) fun b c hbn hc => ?_
    have hbb : b ≠ b1 := fun e => by subst e; rw [Mem.set_same] at hbn; cases hbn
    have hbm : m b = none := by rw [Mem.set_other _ _ hbb] at hbn; exact hbn
    rw [Nat.zero_add]
    refine k b c _ (hle.trans (Mem.le_set hbn)) (by omega) hbm ?_
    refine CellsAt.blk (Mem.set_same _ _ _) fun j v hj => ?_
    rw [List.nil_append, Nat.zero_add, List.getElem?_append_left (List.getElem?_eq_some_iff.1 hj).1]; exact hj
theorem if_map {a : Option Addr} {c : Int} {k : Nat} (h : k = 0) : (if c = 0 then a else a.map (·.add k)) = a := by
  subst h; split
  · rfl
  · cases a <;> rfl
theorem few_ok {m : Mem} {v : Value} {E : List Edg} (hv : EAt m v E) (hlen : E.length < 2 ^ 63) :
    CallsM Tryz.prog 18 [v] m (fun e m' => ∃ u, e = .returned u ∧ Mem.le m m' ∧ EAt m' u (E.take 200)) := by
  obtain ⟨a, c, rfl, h0, h1, hcap⟩ := hv
  refine calls_of mixed Tryz.func18 ok_biremelaw20_few rfl ?_
  conv => whnf
  refine WNew.mk fun b1 hb1 => ?_
  conv => whnf
  refine WSl.mk ⟨Int.le_refl _, ?_, ?_⟩ ?_
  · show (0 : Int) ≤ if (200 : Int) < E.length then 200 else (E.length : Int)
    split <;> omega
  · show (if (200 : Int) < E.length then 200 else (E.length : Int)) ≤ (c : Int)
    split <;> omega
  conv => whnf
  refine WApp.copy hb1 (A := a) (n := (E.take 200).length) (if_map rfl) ?_ (ecs (E.take 200)) ⟨ecs_len _, fun ad ha => ?_⟩ (fun ha => by rw [h0 ha]; rfl) ?_ fun b c2 m' hle hc2 hbm hcells => ?_
  · show (if (200 : Int) < E.length then 200 else (E.length : Int)).toNat - 0 = _
    rw [List.length_take]; split <;> omega
  · rw [take_cells]; exact CellsAt.take (h1 ad ha) _
  · rw [List.length_take]; omega
  conv => whnf
  exact WRet.same ⟨_, rfl, hle, some ⟨b, 0, none⟩, c2, rfl, (fun h => by cases h), (fun ad ha => by cases ha; exact hcells), hc2⟩
theorem edges_ok {m : Mem} {v u : Value} {A B : List Edg} (hv : EAt m v A) (hu : EAt m u B) (hlen : A.length < 2 ^ 63) :
    PureM Tryz.prog 21 [v, u] m (.bool (decide (A = B))) := by
  obtain ⟨a, c, rfl, h0, h1, hcap⟩ := hv
  obtain ⟨a2, c2, rfl, q0, q1, hcap2⟩ := hu
  refine calls_of mixed Tryz.func21 ok_biremelaw20_edges rfl ?_
  conv => whnf
  refine Br.mk (fun hb => ?_) (fun hb => ?_)
  · conv => whnf
    refine WRet.same ⟨?_, rfl⟩
    have : A ≠ B := fun e => by subst e; simp at hb
    rw [decide_eq_false this]; rfl
  have hlE : A.length = B.length := by simp at hb; omega
  conv => whnf
  refine WLoop.mk Nat (fun k => [(5, .val (i k))]) (fun k m' => m = m' ∧ k ≤ A.length ∧ ∀ j (hj : j < A.length), j < k → A[j] = B[j]) (fun k => A.length - k) 0 ⟨rfl, trivial⟩ ⟨rfl, Nat.zero_le _, fun j hj h => by omega⟩ ?_
  rintro k m' ⟨rfl, hk, hq⟩
  conv => whnf
  refine Br.mk (fun hb => ?_) (fun hb => ?_)
  · have hk2 : k < A.length := by simpa using hb
    have hk3 : k < B.length := by omega
    conv => whnf
    cases a with
    | none => rw [h0 rfl] at hk2; simp at hk2
    | some ad =>
      cases a2 with
      | none => rw [q0 rfl] at hk3; simp at hk3
      | some ad2 =>
        refine WIdx.mk ad rfl ⟨by omega, by simpa using hk2⟩ ?_
        conv => whnf
        refine WLds.mk (A[k]).cells (by simpa using EAt.cells (h1 ad rfl) hk2) rfl ?_
        conv => whnf
        refine WIdx.mk ad2 rfl ⟨by omega, by simpa using hk3⟩ ?_
        conv => whnf
        refine WLds.mk (B[k]).cells (by simpa using EAt.cells (q1 ad2 rfl) hk3) rfl ?_
        have hcmp : ((A[k]).f == (B[k]).f && ((A[k]).t == (B[k]).t && ((A[k]).d == (B[k]).d && ((A[k]).r == (B[k]).r && true)))) = decide (A[k] = B[k]) := by
          generalize A[k] = p; generalize B[k] = q
          obtain ⟨p1, p2, p3, p4⟩ := p; obtain ⟨q1, q2, q3, q4⟩ := q
          rw [Bool.eq_iff_iff]; simp [Edg.mk.injEq]
        conv => whnf
        refine Br.mk (fun hb => ?_) (fun hb => ?_)
        · simp only at hb
          rw [hcmp, Bool.not_eq_true', decide_eq_false_iff_not] at hb
          conv => whnf
          refine WRet.same ⟨?_, rfl⟩
          have : A ≠ B := fun e => hb (by subst e; rfl)
          rw [decide_eq_false this]; rfl
        · simp only at hb
          rw [hcmp, Bool.not_eq_false', decide_eq_true_eq] at hb
          conv => whnf
          refine WRng.mk (by apply wrap_i64 <;> omega) ?_
          conv => whnf
          refine ⟨k + 1, ⟨rfl, trivial⟩, ⟨rfl, hk2, fun j hj h => ?_⟩, by omega⟩
          by_cases e : j = k
          · subst e; exact hb
          · exact hq j hj (by omega)
  · have hk2 : ¬ k < A.length := by simpa using hb
    conv => whnf
    refine WRet.same ⟨?_, rfl⟩
    have : A = B := List.ext_getElem hlE fun j h1 h2 => hq j h1 (by omega)
    rw [decide_eq_true this]; rfl
/-! Holds. -/
def cycBad (x : Int) : Bool := decide (x < 0) || decide (x > 4194304)
theorem cyc_ok (m : Mem) (x : Int) : PureM Tryz.prog 51 [i x] m (.bool (cycBad x)) := by
  refine calls_of mixed Tryz.func51 ok_order_Holds_1 rfl ?_
  conv => whnf
  refine WSc.mk (fun _ => And.intro (Mem.le.refl _) rfl) ?_
  conv => whnf
  exact WRet.same ⟨rfl, rfl⟩
def holdsS (E : List Edg) (C : List Int) (I : Int) : Bool × Int :=
  if C.length > 401 ∨ E.length > 200000 then (false, 3) else
  if C.any cycBad || decide (I < 0) || decide (I > 4194304) then (false, 2) else
  if firstCode (cdW C.length false) E ≠ 0 then (false, firstCode (cdW C.length false) E) else (!(E.any (heldN C I)), 0)
theorem firstCode_congr {α : Type} {c d : α → Int} {L : List α} (h : ∀ x ∈ L, c x = d x) : firstCode c L = firstCode d L := by
  induction L with
  | nil => rfl
  | cons x xs ih => simp only [firstCode, h x (by simp)]; rw [ih fun y hy => h y (by simp [hy])]
theorem firstCode_zero {α : Type} {cd : α → Int} {L : List α} (h : firstCode cd L = 0) : ∀ x ∈ L, cd x = 0 := by
  induction L with
  | nil => intro x hx; cases hx
  | cons y ys ih =>
    simp only [firstCode] at h
    by_cases hy : cd y = 0
    · rw [if_pos hy] at h
      intro x hx
      rcases List.mem_cons.1 hx with e | hx
      · rw [e]; exact hy
      · exact ih h x hx
    · rw [if_neg hy] at h; exact absurd h hy
theorem right_wrong (E : List Edg) {n : Int} (h1 : 0 ≤ n) (h2 : n ≤ 401) (h3 : E.length ≤ 200000) : rightS n 2147483648 E = firstCode (cdW n false) E := by
  unfold rightS
  rw [if_neg (by omega), if_neg (by omega)]
  refine firstCode_congr fun e _ => ?_
  have : badR n 2147483648 e = badW n false e := by unfold badR badW; simp
  unfold cdW backW
  rw [this]; simp
theorem fit_of {E : List Edg} {C : List Int} {I : Int} (h1 : C.length ≤ 401) (h2 : (C.any cycBad || decide (I < 0) || decide (I > 4194304)) = false) (h3 : firstCode (cdW C.length false) E = 0) : Fit C I E := by
  simp only [Bool.or_eq_false_iff, decide_eq_false_iff_not] at h2
  refine ⟨h1, fun x hx => ?_, ⟨by omega, by omega⟩, fun e he => ?_⟩
  · have := List.any_eq_false.1 h2.1.1 x hx
    simp only [cycBad, Bool.or_eq_true, decide_eq_true_eq, not_or] at this
    omega
  · have := firstCode_zero h3 e he
    unfold cdW at this
    cases hb : badW C.length false e with
    | true => rw [hb] at this; cases this
    | false =>
      simp only [badW, Bool.or_eq_false_iff, decide_eq_false_iff_not, Bool.not_false, Bool.true_and] at hb
      omega
def holdsV (r : Bool × Int) : Value := .tuple ⟨[.bool r.1, i r.2]⟩
theorem holds_ok {m : Mem} {v u : Value} {E : List Edg} {C : List Int} {I : Int} (hv : EAt m v E) (hu : IAt m u C) (hlen : E.length < 2 ^ 63) (hlenC : C.length < 2 ^ 63) :
    PureM Tryz.prog 19 [v, u, i I] m (holdsV (holdsS E C I)) := by
  obtain ⟨a, c, rfl, h0, h1, hcap⟩ := hv
  obtain ⟨a2, c2, rfl, q0, q1, hcap2⟩ := hu
  have hv : EAt m (.slice a E.length c) E := ⟨a, c, rfl, h0, h1, hcap⟩
  have hu : IAt m (.slice a2 C.length c2) C := ⟨a2, c2, rfl, q0, q1, hcap2⟩
  refine calls_of mixed Tryz.func19 ok_order_Holds rfl ?_
  unfold holdsS
  conv => whnf
  refine WSc.mk (fun _ => And.intro (Mem.le.refl _) rfl) ?_
  conv => whnf
  refine Br.mk (fun hb => ?_) (fun hb => ?_)
  · conv => whnf
    refine WRet.same ⟨?_, rfl⟩
    simp only [scB, Bool.or_eq_true, decide_eq_true_eq] at hb
    rw [if_pos (by omega)]
    rfl
  simp only [scB, Bool.or_eq_false_iff, decide_eq_false_iff_not] at hb
  rw [if_neg (by omega)]
  conv => whnf
  refine WCall.pure (contains_int hu hlenC cycBad (fun x _ => cyc_ok m x)) ?_
  conv => whnf
  refine WSc.mk (fun _ => And.intro (Mem.le.refl _) rfl) ?_
  conv => whnf
  refine WSc.mk (fun _ => And.intro (Mem.le.refl _) rfl) ?_
  conv => whnf
  refine Br.mk (fun hb2 => ?_) (fun hb2 => ?_)
  · conv => whnf
    refine WRet.same ⟨?_, rfl⟩
    simp only [scB] at hb2
    rw [if_pos hb2]
    rfl
  simp only [scB] at hb2
  rw [if_neg (by rw [hb2]; decide)]
  have hr := right_ok hv hlen C.length 2147483648
  rw [right_wrong E (by omega) (by omega) (by omega)] at hr
  conv => whnf
  refine WCall.pure hr ?_
  conv => whnf
  refine Br.mk (fun hb3 => ?_) (fun hb3 => ?_)
  · conv => whnf
    refine WRet.same ⟨?_, rfl⟩
    simp only [bne_iff_ne] at hb3
    rw [if_pos hb3]
    rfl
  simp only [bne_eq_false_iff_eq] at hb3
  rw [if_neg (by rw [hb3]; simp)]
  have hf := fit_of (by omega) hb2 hb3
  conv => whnf
  refine WCall.pure (hold_ok hv hu hlen hf) ?_
  conv => whnf
  exact WRet.same ⟨rfl, rfl⟩
theorem refHolds_ok {m : Mem} {v u : Value} {E : List Edg} {C : List Int} {I : Int} (hv : EAt m v E) (hu : IAt m u C) (hlen : E.length < 2 ^ 63) (hlenC : C.length < 2 ^ 63) :
    PureM Tryz.prog 20 [v, u, i I] m (holdsV (holdsS E C I)) := by
  obtain ⟨a, c, rfl, h0, h1, hcap⟩ := hv
  obtain ⟨a2, c2, rfl, q0, q1, hcap2⟩ := hu
  have hv : EAt m (.slice a E.length c) E := ⟨a, c, rfl, h0, h1, hcap⟩
  have hu : IAt m (.slice a2 C.length c2) C := ⟨a2, c2, rfl, q0, q1, hcap2⟩
  refine calls_of mixed Tryz.func20 ok_biremeref20_Holds rfl ?_
  unfold holdsS
  conv => whnf
  refine WSc.mk (fun _ => And.intro (Mem.le.refl _) rfl) ?_
  conv => whnf
  refine Br.mk (fun hb => ?_) (fun hb => ?_)
  · conv => whnf
    refine WRet.same ⟨?_, rfl⟩
    simp only [scB, Bool.or_eq_true, decide_eq_true_eq] at hb
    rw [if_pos (by omega)]
    rfl
  simp only [scB, Bool.or_eq_false_iff, decide_eq_false_iff_not] at hb
  rw [if_neg (by omega)]
  conv => whnf
  refine WLoop.mk Nat (fun k => [(8, .val (i k))]) (fun k m' => m = m' ∧ k ≤ C.length ∧ ∀ j (hj : j < C.length), j < k → cycBad C[j] = false) (fun k => C.length - k) 0 ⟨rfl, trivial⟩ ⟨rfl, Nat.zero_le _, fun j hj h => by omega⟩ ?_
  rintro k m' ⟨rfl, hk, hq⟩
  conv => whnf
  refine Br.mk (fun hb0 => ?_) (fun hb0 => ?_)
  · have hk2 : k < C.length := by simpa using hb0
    conv => whnf
    cases a2 with
    | none => rw [q0 rfl] at hk2; simp at hk2
    | some ad =>
      refine WIdx.mk ad rfl ⟨by omega, by simpa using hk2⟩ ?_
      conv => whnf
      refine WLd.mk (i C[k]) (by simpa using IAt.cell (q1 ad rfl) hk2) ?_
      conv => whnf
      refine WSc.mk (v := decide (C[k] > 4194304)) (fun _ => ?_) ?_
      · conv => whnf
        refine WIdx.mk ad rfl ⟨by omega, by simpa using hk2⟩ ?_
        conv => whnf
        refine WLd.mk (i C[k]) (by simpa using IAt.cell (q1 ad rfl) hk2) ?_
        exact And.intro (Mem.le.refl _) rfl
      conv => whnf
      refine Br.mk (fun hb2 => ?_) (fun hb2 => ?_)
      · conv => whnf
        refine WRet.same ⟨?_, rfl⟩
        have hc : C.any cycBad = true := List.any_eq_true.2 ⟨C[k], List.getElem_mem hk2, hb2⟩
        rw [if_pos (by rw [hc]; rfl)]
        rfl
      · conv => whnf
        refine WRng.mk (by apply wrap_i64 <;> omega) ?_
        conv => whnf
        refine ⟨k + 1, ⟨rfl, trivial⟩, ⟨rfl, hk2, fun j hj h => ?_⟩, by omega⟩
        by_cases e : j = k
        · subst e; exact hb2
        · exact hq j hj (by omega)
  have hk2 : ¬ k < C.length := by simpa using hb0
  have hany : C.any cycBad = false := List.any_eq_false.2 fun x hx => by
    obtain ⟨j, hj, rfl⟩ := List.getElem_of_mem hx
    rw [hq j hj (by omega)]; decide
  conv => whnf
  refine WSc.mk (fun _ => And.intro (Mem.le.refl _) rfl) ?_
  conv => whnf
  refine Br.mk (fun hb2 => ?_) (fun hb2 => ?_)
  · conv => whnf
    refine WRet.same ⟨?_, rfl⟩
    simp only [scB] at hb2
    rw [if_pos (by rw [hany, Bool.false_or]; exact hb2)]
    rfl
  simp only [scB] at hb2
  have hb2' : (C.any cycBad || decide (I < 0) || decide (I > 4194304)) = false := by rw [hany, Bool.false_or]; exact hb2
  rw [if_neg (by rw [hb2']; decide)]
  conv => whnf
  refine WCall.pure (wrong_ok hv hlen C.length false) ?_
  conv => whnf
  refine Br.mk (fun hb3 => ?_) (fun hb3 => ?_)
  · conv => whnf
    refine WRet.same ⟨?_, rfl⟩
    simp only [bne_iff_ne] at hb3
    rw [if_pos hb3]
    rfl
  simp only [bne_eq_false_iff_eq] at hb3
  rw [if_neg (by rw [hb3]; simp)]
  have hf := fit_of (by omega) hb2' hb3
  conv => whnf
  refine WCall.pure (held_ok hv hu hlen hf) ?_
  conv => whnf
  exact WRet.same ⟨rfl, rfl⟩
end Go.Proofs.YtmnagbhllnlelaaGreatDoor
