/- What Solve computes, and that it settles: plain laws. -/
import Derived.Test.YtmnagbhllnlelaaGreatDoorVxHgt
import Derived.Test.YtmnagbhllnlelaaGreatDoorVxWalk
set_option linter.unusedSimpArgs false
set_option linter.unusedVariables false
set_option maxRecDepth 100000
namespace Go.Proofs.YtmnagbhllnlelaaGreatDoor
open Go Go.Vx
open Go.Vx.IOp Go.Vx.IR Go.Vx.Opd

/-- What an edge asks of its end, at an interval. -/
def needS (I : Int) (x : List Int) (e : Edg) : Int := x.getD e.f.toNat 0 + e.d - I * e.r
/-- What the end of an edge is lifted to: by multiples of M. -/
def liftS (M I : Int) (x : List Int) (e : Edg) : Int := x.getD e.t.toNat 0 + (needS I x e - x.getD e.t.toNat 0 + M - 1).tdiv M * M
def relS (M I : Int) (x : List Int) (e : Edg) : List Int := if needS I x e ≤ x.getD e.t.toNat 0 then x else x.set e.t.toNat (liftS M I x e)
def growS (M I : Int) (s : List Int × Bool) (e : Edg) : List Int × Bool := (relS M I s.1 e, s.2 || decide (s.1.getD e.t.toNat 0 < needS I s.1 e))
def roundS (M I : Int) (E : List Edg) (x : List Int) : List Int × Bool := E.foldl (growS M I) (x, false)
/-- Rounds, until one changes nothing. -/
def solveS (M I : Int) (E : List Edg) : Nat → List Int → Option (List Int)
  | 0, _ => none
  | k + 1, x => if (roundS M I E x).2 = true then solveS M I E k (roundS M I E x).1 else some (roundS M I E x).1
/-- A right edge. -/
structure RightE (n : Nat) (e : Edg) : Prop where
  f0 : 0 ≤ e.f
  fn : e.f < n
  t0 : 0 ≤ e.t
  tn : e.t < n
  r0 : 0 ≤ e.r
  r2 : e.r ≤ 2147483648
  d0 : 0 ≤ e.d
  d8 : e.d ≤ 8
theorem rightE_of {n : Nat} {E : List Edg} (h : firstCode (cdW n false) E = 0) : ∀ e ∈ E, RightE n e := fun e he => by
  have := firstCode_zero h e he
  unfold cdW at this
  cases hb : badW n false e with
  | true => rw [hb] at this; cases this
  | false =>
    simp only [badW, Bool.or_eq_false_iff, decide_eq_false_iff_not, Bool.not_false, Bool.true_and] at hb
    exact ⟨by omega, by omega, by omega, by omega, by omega, by omega, by omega, by omega⟩
/-- All places are from 0 to a bound. -/
def In (n : Nat) (B : Int) (x : List Int) : Prop := x.length = n ∧ ∀ j, 0 ≤ x.getD j 0 ∧ x.getD j 0 ≤ B
theorem In.up {n : Nat} {B B' : Int} {x : List Int} (h : In n B x) (hB : B ≤ B') : In n B' x := ⟨h.1, fun j => ⟨(h.2 j).1, Int.le_trans (h.2 j).2 hB⟩⟩
theorem mul_bound {I r : Int} (h0 : 0 ≤ I) (h1 : I ≤ 4194304) (r0 : 0 ≤ r) (r2 : r ≤ 2147483648) : 0 ≤ I * r ∧ I * r ≤ 9007199254740992 := by
  refine ⟨Int.mul_nonneg h0 r0, ?_⟩
  calc I * r ≤ 4194304 * 2147483648 := Int.mul_le_mul h1 r2 r0 (by decide)
    _ = 9007199254740992 := by decide
/-- The quotient rounded up. -/
theorem up_div {M a : Int} (hM : 0 < M) (ha : 0 < a) : 0 ≤ (a + M - 1).tdiv M ∧ a ≤ (a + M - 1).tdiv M * M ∧ (a + M - 1).tdiv M * M < a + M ∧ (a + M - 1).tdiv M ≤ a := by
  have h0 : 0 ≤ a + M - 1 := by omega
  rw [Int.tdiv_eq_ediv_of_nonneg h0]
  have h1 := Int.ediv_mul_le (a + M - 1) (show M ≠ 0 by omega)
  have h2 := Int.lt_ediv_add_one_mul_self (a + M - 1) hM
  rw [Int.add_mul, Int.one_mul] at h2
  have h3 : 0 ≤ (a + M - 1) / M := Int.ediv_nonneg h0 (by omega)
  have h4 : (a + M - 1) / M ≤ (a + M - 1) / M * M := by
    have := Int.mul_le_mul_of_nonneg_left (show (1 : Int) ≤ M by omega) h3
    rw [Int.mul_one] at this; exact this
  refine ⟨h3, by omega, by omega, ?_⟩
  by_cases c : M = 1
  · subst c; rw [Int.ediv_one]; omega
  · have h5 : (a + M - 1) / M * 2 ≤ (a + M - 1) / M * M := Int.mul_le_mul_of_nonneg_left (by omega) h3
    by_cases d : (a + M - 1) / M ≤ a
    · exact d
    · exfalso
      have : (a + M - 1) / M * M ≤ a + M - 1 := h1
      have h6 : (a + 1) * M ≤ (a + M - 1) / M * M := Int.mul_le_mul_of_nonneg_right (by omega) (by omega)
      rw [Int.add_mul, Int.one_mul] at h6
      have h7 : a * 1 ≤ a * M := Int.mul_le_mul_of_nonneg_left (by omega) (by omega)
      have h8 : a * 2 ≤ a * M := Int.mul_le_mul_of_nonneg_left (by omega) (by omega)
      omega
theorem rel_in {n : Nat} {M I B : Int} {x : List Int} {e : Edg} (h : In n B x) (he : RightE n e) (hM : 0 < M) (hI : 0 ≤ I) : In n (B + 8 + M) (relS M I x e) := by
  have hmul : 0 ≤ I * e.r := Int.mul_nonneg hI he.r0
  have d0 := he.d0
  have d8 := he.d8
  unfold relS
  by_cases c : needS I x e ≤ x.getD e.t.toNat 0
  · rw [if_pos c]; exact h.up (by omega)
  · rw [if_neg c]
    obtain ⟨u0, u1, u2, u3⟩ := up_div (a := needS I x e - x.getD e.t.toNat 0) hM (by omega)
    have f := h.2 e.f.toNat
    have t := h.2 e.t.toNat
    have tn := he.tn
    have t0 := he.t0
    have hlt : e.t.toNat < x.length := by rw [h.1]; omega
    refine ⟨by simp [h.1], fun j => ?_⟩
    rw [getD_set hlt]
    by_cases ej : j = e.t.toNat
    · rw [if_pos ej]
      unfold liftS
      unfold needS at *
      omega
    · rw [if_neg ej]
      have := h.2 j
      omega
theorem rel_len {M I : Int} {x : List Int} {e : Edg} : (relS M I x e).length = x.length := by unfold relS; split <;> simp
theorem rel_get {n : Nat} {M I : Int} {x : List Int} {e : Edg} (hl : x.length = n) (he : RightE n e) (j : Nat) : (relS M I x e).getD j 0 = if j = e.t.toNat ∧ x.getD e.t.toNat 0 < needS I x e then liftS M I x e else x.getD j 0 := by
  have tn := he.tn
  have t0 := he.t0
  unfold relS
  by_cases c : needS I x e ≤ x.getD e.t.toNat 0
  · rw [if_pos c, if_neg (by omega)]
  · rw [if_neg c, getD_set (by omega)]
    by_cases ej : j = e.t.toNat
    · rw [if_pos ej, if_pos ⟨ej, by omega⟩]
    · rw [if_neg ej, if_neg (fun h => ej h.1)]
/-- An edge with a number for its weight. -/
def wE (I : Int) (e : Edg) : Walk.WE := ⟨e.f.toNat, e.t.toNat, e.d - I * e.r⟩
theorem rel_round {n : Nat} {M I : Int} {x : List Int} {e : Edg} (hl : x.length = n) (he : RightE n e) (hM : 0 < M) : Walk.Round M [wE I e] (x.getD · 0) ((relS M I x e).getD · 0) := by
  have hg := rel_get (M := M) (I := I) hl he
  have hu : x.getD e.t.toNat 0 < needS I x e → needS I x e ≤ liftS M I x e ∧ liftS M I x e < needS I x e + M ∧ M ∣ liftS M I x e - x.getD e.t.toNat 0 := fun c => by
    obtain ⟨u0, u1, u2, u3⟩ := up_div (a := needS I x e - x.getD e.t.toNat 0) hM (by omega)
    unfold liftS
    refine ⟨by omega, by omega, ⟨(needS I x e - x.getD e.t.toNat 0 + M - 1).tdiv M, ?_⟩⟩
    rw [Int.mul_comm M]; omega
  refine ⟨fun j => ?_, fun j => ?_, fun y hy => ?_, fun p hp hc hf j => ?_⟩
  · show x.getD j 0 ≤ (relS M I x e).getD j 0
    rw [hg]; split
    · rename_i h; obtain ⟨h1, h2⟩ := h; subst h1; have := hu h2; omega
    · exact Int.le_refl _
  · show M ∣ (relS M I x e).getD j 0 - x.getD j 0
    rw [hg]; split
    · rename_i h; obtain ⟨h1, h2⟩ := h; subst h1; exact (hu h2).2.2
    · rw [Int.sub_self]; exact Int.dvd_zero _
  · obtain rfl := List.mem_singleton.1 hy
    show x.getD e.f.toNat 0 + (e.d - I * e.r) ≤ (relS M I x e).getD e.t.toNat 0
    rw [hg]
    by_cases c : x.getD e.t.toNat 0 < needS I x e
    · rw [if_pos ⟨rfl, c⟩]; have := hu c; unfold needS at this; omega
    · rw [if_neg (fun h => c h.2)]; unfold needS at c; omega
  · show (relS M I x e).getD j 0 ≤ p j
    rw [hg]; split
    · rename_i h; obtain ⟨h1, h2⟩ := h; subst h1
      obtain ⟨v1, v2, v3⟩ := hu h2
      have q1 := hf (wE I e) (by simp)
      have q2 : x.getD e.f.toNat 0 ≤ p e.f.toNat := hp e.f.toNat
      have q3 : p e.f.toNat + (e.d - I * e.r) ≤ p e.t.toNat := q1
      have q4 : M ∣ liftS M I x e - p e.t.toNat := by
        have : liftS M I x e - p e.t.toNat = (liftS M I x e - x.getD e.t.toNat 0) - (p e.t.toNat - x.getD e.t.toNat 0) := by omega
        rw [this]; exact Int.dvd_sub v3 (hc _)
      by_cases d : liftS M I x e ≤ p e.t.toNat
      · exact d
      · have := Walk.dvd_gap hM q4 (by omega)
        unfold needS at v2
        omega
    · exact hp j
theorem Round_nil (M : Int) (x : Nat → Int) : Walk.Round M [] x x := ⟨fun _ => Int.le_refl _, fun j => by rw [Int.sub_self]; exact Int.dvd_zero _, (fun e h => by cases h), fun p hp _ _ j => hp j⟩
theorem Round_cons {M : Int} {e : Walk.WE} {E : List Walk.WE} {x y z : Nat → Int} (h1 : Walk.Round M [e] x y) (h2 : Walk.Round M E y z) : Walk.Round M (e :: E) x z := by
  refine ⟨fun j => Int.le_trans (h1.up j) (h2.up j), fun j => ?_, fun a ha => ?_, fun p hp hc hf j => ?_⟩
  · have : z j - x j = (z j - y j) + (y j - x j) := by omega
    rw [this]; exact Int.dvd_add (h2.cg j) (h1.cg j)
  · rcases List.mem_cons.1 ha with rfl | ha
    · have := h1.hold a (by simp); have := h2.up a.t; omega
    · have := h2.hold a ha; have := h1.up a.f; omega
  · refine h2.least p (h1.least p hp hc fun a ha => hf a (by simp at ha; simp [ha])) (fun j => ?_) (fun a ha => hf a (by simp [ha])) j
    have : p j - y j = (p j - x j) - (y j - x j) := by omega
    rw [this]; exact Int.dvd_sub (hc j) (h1.cg j)
/-- What one pass over the edges does. -/
theorem fold_round {n : Nat} {M I : Int} (hM : 0 < M) : ∀ {E : List Edg} (x : List Int) (g : Bool), x.length = n → (∀ e ∈ E, RightE n e) →
    (E.foldl (growS M I) (x, g)).1.length = n ∧ Walk.Round M (E.map (wE I)) (x.getD · 0) ((E.foldl (growS M I) (x, g)).1.getD · 0) ∧
    ((E.foldl (growS M I) (x, g)).2 = false → g = false ∧ (E.foldl (growS M I) (x, g)).1 = x) ∧
    ((E.foldl (growS M I) (x, g)).2 = true → g = true ∨ ∃ j, j < n ∧ x.getD j 0 < (E.foldl (growS M I) (x, g)).1.getD j 0)
  | [], x, g, hl, _ => ⟨hl, Round_nil M _, fun h => ⟨h, rfl⟩, fun h => .inl h⟩
  | e :: E, x, g, hl, hE => by
    have he := hE e (by simp)
    obtain ⟨i1, i2, i3, i4⟩ := fold_round hM (E := E) (relS M I x e) (g || decide (x.getD e.t.toNat 0 < needS I x e)) (by rw [rel_len, hl]) fun y hy => hE y (by simp [hy])
    have hr := rel_round (I := I) hl he hM
    have hcons : Walk.Round M ((e :: E).map (wE I)) (x.getD · 0) ((E.foldl (growS M I) (growS M I (x, g) e)).1.getD · 0) := Round_cons hr i2
    refine ⟨i1, hcons, fun h => ?_, fun h => ?_⟩
    · obtain ⟨h1, h2⟩ := i3 h
      rw [Bool.or_eq_false_iff] at h1
      refine ⟨h1.1, ?_⟩
      rw [List.foldl_cons]
      show (E.foldl (growS M I) (relS M I x e, _)).1 = x
      refine h2.trans ?_
      have := of_decide_eq_false h1.2
      unfold relS; rw [if_pos (by omega)]
    · rcases i4 h with h1 | ⟨j, hj, h1⟩
      · rw [Bool.or_eq_true] at h1
        rcases h1 with h1 | h1
        · exact .inl h1
        · refine .inr ⟨e.t.toNat, by have := he.tn; have := he.t0; omega, ?_⟩
          have h2 := of_decide_eq_true h1
          have h3 := rel_get (M := M) (I := I) hl he e.t.toNat
          rw [if_pos ⟨rfl, h2⟩] at h3
          obtain ⟨u0, u1, u2, u3⟩ := up_div (a := needS I x e - x.getD e.t.toNat 0) hM (by omega)
          have h4 := i2.up e.t.toNat
          rw [List.foldl_cons]
          have h5 : (relS M I x e).getD e.t.toNat 0 ≤ (E.foldl (growS M I) (growS M I (x, g) e)).1.getD e.t.toNat 0 := h4
          rw [h3] at h5
          unfold liftS at h5
          omega
      · refine .inr ⟨j, hj, ?_⟩
        rw [List.foldl_cons]
        have h5 : (relS M I x e).getD j 0 < (E.foldl (growS M I) (growS M I (x, g) e)).1.getD j 0 := h1
        have h6 : x.getD j 0 ≤ (relS M I x e).getD j 0 := hr.up j
        omega
/-- The states of the rounds. -/
def stS (M I : Int) (E : List Edg) (x : List Int) : Nat → List Int
  | 0 => x
  | k + 1 => (roundS M I E (stS M I E x k)).1
theorem solve_st {M I : Int} {E : List Edg} : ∀ (k : Nat) (x : List Int), solveS M I E k x = none → ∀ j, j < k → (roundS M I E (stS M I E x j)).2 = true
  | 0, x, _, j, hj => absurd hj (Nat.not_lt_zero _)
  | k + 1, x, h, j, hj => by
    unfold solveS at h
    by_cases c : (roundS M I E x).2 = true
    · rw [if_pos c] at h
      cases j with
      | zero => exact c
      | succ j =>
        have := solve_st k _ h j (by omega)
        have e : ∀ j, stS M I E (roundS M I E x).1 j = stS M I E x (j + 1) := fun j => by
          induction j with
          | zero => rfl
          | succ j ih => show (roundS M I E (stS M I E (roundS M I E x).1 j)).1 = _; rw [ih]; rfl
        rw [e] at this; exact this
    · rw [if_neg c] at h; cases h
theorem solve_some {M I : Int} {E : List Edg} : ∀ (k : Nat) (x y : List Int), solveS M I E k x = some y → ∃ j, j < k ∧ (roundS M I E (stS M I E x j)).2 = false ∧ y = stS M I E x (j + 1)
  | 0, x, y, h => by cases h
  | k + 1, x, y, h => by
    unfold solveS at h
    by_cases c : (roundS M I E x).2 = true
    · rw [if_pos c] at h
      obtain ⟨j, hj, h1, h2⟩ := solve_some k _ _ h
      have e : ∀ j, stS M I E (roundS M I E x).1 j = stS M I E x (j + 1) := fun j => by
        induction j with
        | zero => rfl
        | succ j ih => show (roundS M I E (stS M I E (roundS M I E x).1 j)).1 = _; rw [ih]; rfl
      exact ⟨j + 1, by omega, by rw [← e]; exact h1, by rw [← e]; exact h2⟩
    · rw [if_neg c] at h; cases h
      exact ⟨0, by omega, Bool.eq_false_iff.2 c, rfl⟩
theorem st_len {n : Nat} {M I : Int} (hM : 0 < M) {E : List Edg} {x : List Int} (hl : x.length = n) (hE : ∀ e ∈ E, RightE n e) : ∀ k, (stS M I E x k).length = n
  | 0 => hl
  | k + 1 => (fold_round hM _ false (st_len hM hl hE k) hE).1
theorem st_round {n : Nat} {M I : Int} (hM : 0 < M) {E : List Edg} {x : List Int} (hl : x.length = n) (hE : ∀ e ∈ E, RightE n e) (k : Nat) : Walk.Round M (E.map (wE I)) ((stS M I E x k).getD · 0) ((stS M I E x (k + 1)).getD · 0) :=
  (fold_round hM _ false (st_len hM hl hE k) hE).2.1
/-- If some assignment above the start, of its residues, holds the edges, n + 1 rounds are enough. -/
theorem solve_settles {n : Nat} {M I : Int} (hM : 0 < M) {E : List Edg} {x : List Int} (hl : x.length = n) (hE : ∀ e ∈ E, RightE n e) {p : Nat → Int}
    (hp : Walk.Sol M (E.map (wE I)) (x.getD · 0) p) : solveS M I E (n + 1) x ≠ none := fun h => by
  have hst := Walk.settle (n := n) hM (E := E.map (wE I)) (X := fun k j => (stS M I E x k).getD j 0) (fun e he => by
    obtain ⟨e0, h0, rfl⟩ := List.mem_map.1 he
    have h00 := hE e0 h0
    have := h00.fn; have := h00.f0; have := h00.tn; have := h00.t0
    unfold wE; exact ⟨by simp only; omega, by simp only; omega⟩) (st_round hM hl hE) hp
  have h2 := solve_st _ _ h n (by omega)
  obtain ⟨_, _, _, h4⟩ := fold_round hM (I := I) (stS M I E x n) false (st_len hM hl hE n) hE
  rcases h4 h2 with h5 | ⟨j, hj, h5⟩
  · cases h5
  · have := hst j hj
    have h6 : (stS M I E x (n + 1)).getD j 0 = (E.foldl (growS M I) (stS M I E x n, false)).1.getD j 0 := rfl
    have h7 : (stS M I E x (n + 1)).getD j 0 = (stS M I E x n).getD j 0 := this
    omega
/-- What Solve returns is above the start, of its residues, holds the edges, and is below all that do so. -/
theorem solve_least {n : Nat} {M I : Int} (hM : 0 < M) {E : List Edg} {x y : List Int} (hl : x.length = n) (hE : ∀ e ∈ E, RightE n e) {k : Nat} (h : solveS M I E k x = some y) :
    y.length = n ∧ Walk.Sol M (E.map (wE I)) (x.getD · 0) (y.getD · 0) ∧ ∀ p, Walk.Sol M (E.map (wE I)) (x.getD · 0) p → ∀ j, y.getD j 0 ≤ p j := by
  obtain ⟨j, hj, h1, rfl⟩ := solve_some _ _ _ h
  have hge : ∀ k i, x.getD i 0 ≤ (stS M I E x k).getD i 0 ∧ M ∣ (stS M I E x k).getD i 0 - x.getD i 0 := fun k => by
    induction k with
    | zero => exact fun i => ⟨Int.le_refl _, by show M ∣ x.getD i 0 - x.getD i 0; rw [Int.sub_self]; exact Int.dvd_zero _⟩
    | succ k ih =>
      intro i
      have hr := st_round hM (I := I) hl hE k
      have := hr.up i
      obtain ⟨a, b⟩ := ih i
      refine ⟨Int.le_trans a this, ?_⟩
      have e : (stS M I E x (k + 1)).getD i 0 - x.getD i 0 = ((stS M I E x (k + 1)).getD i 0 - (stS M I E x k).getD i 0) + ((stS M I E x k).getD i 0 - x.getD i 0) := by omega
      rw [e]; exact Int.dvd_add (hr.cg i) b
  have hsame : stS M I E x (j + 1) = stS M I E x j := ((fold_round hM (I := I) (stS M I E x j) false (st_len hM hl hE j) hE).2.2.1 h1).2
  refine ⟨st_len hM hl hE _, ⟨fun i => (hge _ i).1, fun i => (hge _ i).2, fun e he => ?_⟩, fun p hp => ?_⟩
  · have := (st_round hM (I := I) hl hE j).hold e he
    rw [hsame] at this ⊢
    exact this
  · have hB : ∀ k, ∀ i, (stS M I E x k).getD i 0 ≤ p i := fun k => by
      induction k with
      | zero => exact hp.ge
      | succ k ih =>
        refine (st_round hM (I := I) hl hE k).least p ih (fun i => ?_) hp.feas
        have e : p i - (stS M I E x k).getD i 0 = (p i - x.getD i 0) - ((stS M I E x k).getD i 0 - x.getD i 0) := by omega
        show M ∣ p i - (stS M I E x k).getD i 0
        rw [e]; exact Int.dvd_sub (hp.cg i) (hge k i).2
    exact hB _
/-! Held and Solve. -/
theorem held_feas {E : List Edg} {C : List Int} {I : Int} : E.any (heldN C I) = false ↔ Walk.Feas (E.map (wE I)) (C.getD · 0) := by
  rw [List.any_eq_false]
  constructor
  · intro h y hy
    obtain ⟨e, he, rfl⟩ := List.mem_map.1 hy
    have := h e he
    unfold heldN at this
    rw [decide_eq_true_eq] at this
    show C.getD e.f.toNat 0 + (e.d - I * e.r) ≤ C.getD e.t.toNat 0
    omega
  · intro h e he
    have h1 := h (wE I e) (List.mem_map.2 ⟨e, he, rfl⟩)
    have h2 : C.getD e.f.toNat 0 + (e.d - I * e.r) ≤ C.getD e.t.toNat 0 := h1
    unfold heldN
    rw [decide_eq_true_eq]
    omega
theorem mod_of {I x y : Int} (h0 : 0 ≤ x) (h1 : x < I) (h2 : x ≤ y) (h3 : I ∣ y - x) : y.tmod I = x := by
  rw [Int.tmod_eq_emod_of_nonneg (by omega)]
  obtain ⟨k, hk⟩ := h3
  have : y = x + I * k := by omega
  rw [this, Int.add_mul_emod_self_left, Int.emod_eq_of_lt h0 h1]
/-- Bounds of the states of the rounds. -/
theorem fold_in {n : Nat} {M I : Int} (hM : 0 < M) (hI : 0 ≤ I) : ∀ {E : List Edg} {B : Int} (x : List Int) (g : Bool), In n B x → (∀ e ∈ E, RightE n e) → In n (B + (E.length : Int) * (8 + M)) (E.foldl (growS M I) (x, g)).1
  | [], B, x, g, h, _ => by simpa using h
  | e :: E, B, x, g, h, hE => by
    have h1 := rel_in (I := I) h (hE e (by simp)) hM hI
    have h2 := fold_in hM hI (E := E) (relS M I x e) (g || decide (x.getD e.t.toNat 0 < needS I x e)) h1 fun y hy => hE y (by simp [hy])
    refine In.up h2 ?_
    rw [List.length_cons]
    have : (((E.length + 1 : Nat) : Int)) * (8 + M) = (E.length : Int) * (8 + M) + (8 + M) := by
      rw [Int.natCast_add, Int.add_mul]; simp
    omega
theorem st_in {n : Nat} {M I : Int} (hM : 0 < M) (hI : 0 ≤ I) {E : List Edg} {B : Int} {x : List Int} (h : In n B x) (hE : ∀ e ∈ E, RightE n e) : ∀ k : Nat, In n (B + (k : Int) * ((E.length : Int) * (8 + M))) (stS M I E x k)
  | 0 => by
    have : In n B (stS M I E x 0) := h
    simpa using this
  | k + 1 => by
    have h1 := fold_in hM hI (stS M I E x k) false (st_in hM hI h hE k) hE
    refine In.up h1 ?_
    have : (((k + 1 : Nat) : Int)) * ((E.length : Int) * (8 + M)) = (k : Int) * ((E.length : Int) * (8 + M)) + (E.length : Int) * (8 + M) := by
      rw [Int.natCast_add, Int.add_mul]; simp
    omega
theorem mul_le4 {a b c d : Int} (h1 : a ≤ c) (h2 : b ≤ d) (h3 : 0 ≤ b) (h4 : 0 ≤ c) : a * b ≤ c * d := Int.le_trans (Int.mul_le_mul_of_nonneg_right h1 h3) (Int.mul_le_mul_of_nonneg_left h2 h4)
/-- All states are small. -/
theorem st_small {n : Nat} {M I : Int} (hM : 0 < M) (hM2 : M ≤ 4194304) (hI : 0 ≤ I) {E : List Edg} {x : List Int} (h : In n 4194304 x) (hn : n ≤ 401) (hl : E.length ≤ 200000) (hE : ∀ e ∈ E, RightE n e) {k : Nat} (hk : k ≤ n + 1) {j : Nat} (hj : j ≤ E.length) (g : Bool) :
    In n 1125899906842624 ((E.take j).foldl (growS M I) (stS M I E x k, g)).1 := by
  have h1 := st_in hM hI h hE k
  have h2 := fold_in hM hI (E := E.take j) _ g h1 fun e he => hE e (List.mem_of_mem_take he)
  refine In.up h2 ?_
  rw [List.length_take]
  have a1 : (E.length : Int) * (8 + M) ≤ 200000 * 4194312 := mul_le4 (by omega) (by omega) (by omega) (by omega)
  have a0 : 0 ≤ (E.length : Int) * (8 + M) := Int.mul_nonneg (by omega) (by omega)
  have a2 : (k : Int) * ((E.length : Int) * (8 + M)) ≤ 402 * (200000 * 4194312) := mul_le4 (by omega) a1 a0 (by omega)
  have a3 : ((min j E.length : Nat) : Int) * (8 + M) ≤ 200000 * 4194312 := mul_le4 (by omega) (by omega) (by omega) (by omega)
  omega
/-- With steps of 1 an edge lifts its end to what it asks. -/
theorem lift_one {I : Int} {x : List Int} {e : Edg} : liftS 1 I x e = needS I x e := by
  unfold liftS
  rw [Int.mul_one, Int.tdiv_one]; omega
/-! Rings. -/
def asksS (n : Nat) (E : List Edg) (L : Int) : Bool := (solveS 1 L E (n + 1) (List.replicate n 0)).isNone
theorem asks_mono {n : Nat} {E : List Edg} {L L' : Int} (hE : ∀ e ∈ E, RightE n e) (h : asksS n E L = false) (hl : L ≤ L') : asksS n E L' = false := by
  have hlen : (List.replicate n (0 : Int)).length = n := by simp
  unfold asksS at h ⊢
  cases hs : solveS 1 L E (n + 1) (List.replicate n 0) with
  | none => rw [hs] at h; cases h
  | some y =>
    obtain ⟨h1, h2, _⟩ := solve_least (M := 1) (by decide) hlen hE hs
    have h3 : Walk.Sol 1 (E.map (wE L')) ((List.replicate n (0 : Int)).getD · 0) (y.getD · 0) := by
      refine ⟨h2.ge, h2.cg, fun z hz => ?_⟩
      obtain ⟨e, he, rfl⟩ := List.mem_map.1 hz
      have h4 := h2.feas (wE L e) (List.mem_map.2 ⟨e, he, rfl⟩)
      have h5 : y.getD e.f.toNat 0 + (e.d - L * e.r) ≤ y.getD e.t.toNat 0 := h4
      have h6 : L * e.r ≤ L' * e.r := Int.mul_le_mul_of_nonneg_right hl (hE e he).r0
      show y.getD e.f.toNat 0 + (e.d - L' * e.r) ≤ y.getD e.t.toNat 0
      omega
    have := solve_settles (M := 1) (I := L') (by decide) hlen hE h3
    cases hs' : solveS 1 L' E (n + 1) (List.replicate n 0) with
    | none => exact absurd hs' this
    | some z => rfl
def IsRing (n : Nat) (E : List Edg) (R : Int) : Prop := (asksS n E (8 * n + 1) = true ∧ R = 0) ∨ (asksS n E (8 * n + 1) = false ∧ 1 ≤ R ∧ asksS n E R = false ∧ ∀ z, 1 ≤ z → z < R → asksS n E z = true)
theorem isRing_eq {n : Nat} {E : List Edg} {R R' : Int} (h : IsRing n E R) (h' : IsRing n E R') : R = R' := by
  rcases h with ⟨a, b⟩ | ⟨a, b, c, d⟩ <;> rcases h' with ⟨a', b'⟩ | ⟨a', b', c', d'⟩
  · rw [b, b']
  · rw [a] at a'; cases a'
  · rw [a] at a'; cases a'
  · by_cases e : R < R'
    · rw [d' R b e] at c; cases c
    · by_cases e2 : R' < R
      · rw [d R' b' e2] at c'; cases c'
      · omega
theorem grow_no {M I : Int} {x : List Int} {g : Bool} {e : Edg} (h : needS I x e ≤ x.getD e.t.toNat 0) : growS M I (x, g) e = (x, g) := by
  show (relS M I x e, g || decide (x.getD e.t.toNat 0 < needS I x e)) = _
  unfold relS; rw [if_pos h, decide_eq_false (by omega), Bool.or_false]
theorem grow_yes {M I : Int} {x : List Int} {g : Bool} {e : Edg} (h : x.getD e.t.toNat 0 < needS I x e) : growS M I (x, g) e = (x.set e.t.toNat (liftS M I x e), true) := by
  show (relS M I x e, g || decide (x.getD e.t.toNat 0 < needS I x e)) = _
  unfold relS; rw [if_neg (by omega), decide_eq_true h, Bool.or_true]
end Go.Proofs.YtmnagbhllnlelaaGreatDoor
