/- Rounds of relaxations over n places settle within n rounds if some assignment holds all edges: a plain law. -/
set_option linter.unusedVariables false
namespace Go.Vx.Walk
structure WE where
  f : Nat
  t : Nat
  w : Int
def Feas (E : List WE) (p : Nat → Int) : Prop := ∀ e ∈ E, p e.f + e.w ≤ p e.t
/-- One round, from x to x'. -/
structure Round (M : Int) (E : List WE) (x x' : Nat → Int) : Prop where
  up : ∀ j, x j ≤ x' j
  cg : ∀ j, M ∣ x' j - x j
  hold : ∀ e ∈ E, x e.f + e.w ≤ x' e.t
  least : ∀ p : Nat → Int, (∀ j, x j ≤ p j) → (∀ j, M ∣ p j - x j) → Feas E p → ∀ j, x' j ≤ p j
def sm (x : Nat → Int) : Nat → Int
  | 0 => 0
  | n + 1 => sm x n + x n
def cnt (p : Nat → Bool) : Nat → Nat
  | 0 => 0
  | n + 1 => cnt p n + (if p n = true then 1 else 0)
theorem sm_le {x y : Nat → Int} (h : ∀ j, x j ≤ y j) : ∀ n, sm x n ≤ sm y n
  | 0 => Int.le_refl _
  | n + 1 => by have := sm_le h n; have := h n; simp only [sm]; omega
theorem sm_lt {x y : Nat → Int} (h : ∀ j, x j ≤ y j) {k : Nat} (hk : x k < y k) : ∀ n, k < n → sm x n < sm y n
  | 0, hn => absurd hn (Nat.not_lt_zero _)
  | n + 1, hn => by
    have h1 := h n
    simp only [sm]
    by_cases c : k = n
    · subst c; have := sm_le h k; omega
    · have := sm_lt h hk n (by omega); omega
theorem cnt_le {p q : Nat → Bool} (h : ∀ j, p j = true → q j = true) : ∀ n, cnt p n ≤ cnt q n
  | 0 => Nat.le_refl _
  | n + 1 => by
    have := cnt_le h n
    have h1 := h n
    simp only [cnt]
    split <;> split <;> simp_all <;> omega
theorem cnt_lt {p q : Nat → Bool} (h : ∀ j, p j = true → q j = true) {k : Nat} (h1 : p k = false) (h2 : q k = true) : ∀ n, k < n → cnt p n < cnt q n
  | 0, hn => absurd hn (Nat.not_lt_zero _)
  | n + 1, hn => by
    have hq := h n
    simp only [cnt]
    by_cases c : k = n
    · subst c
      have := cnt_le h k
      rw [h1, h2]
      simp only [Bool.false_eq_true, if_false, if_true]; omega
    · have := cnt_lt h h1 h2 n (by omega)
      split <;> split <;> simp_all <;> omega
theorem cnt_zero {p : Nat → Bool} : ∀ {n : Nat}, cnt p n = 0 → ∀ j, j < n → p j = false
  | 0, _, j, hj => absurd hj (Nat.not_lt_zero _)
  | n + 1, h, j, hj => by
    simp only [cnt] at h
    by_cases c : j = n
    · subst c
      cases hp : p j with
      | false => rfl
      | true => rw [hp] at h; simp at h
    · exact cnt_zero (n := n) (by omega) j (by omega)
theorem cnt_top (p : Nat → Bool) : ∀ n, cnt p n ≤ n
  | 0 => Nat.le_refl _
  | n + 1 => by have := cnt_top p n; simp only [cnt]; split <;> omega
theorem dvd_gap {M a b : Int} (hM : 0 < M) (h : M ∣ a - b) (hlt : b < a) : b + M ≤ a := by
  have := Int.le_of_dvd (by omega) h
  omega
/-- What is above the start, of its residues, and holds all edges. -/
structure Sol (M : Int) (E : List WE) (x p : Nat → Int) : Prop where
  ge : ∀ j, x j ≤ p j
  cg : ∀ j, M ∣ p j - x j
  feas : Feas E p
theorem least_sol {M : Int} {E : List WE} {x : Nat → Int} (n : Nat) : ∀ (k : Nat) (p : Nat → Int), Sol M E x p → (sm p n - sm x n).toNat ≤ k → ∃ q, Sol M E x q ∧ ∀ y, Sol M E x y → ¬ sm y n < sm q n
  | 0, p, hp, hk => ⟨p, hp, fun y hy h => by have := sm_le hy.ge n; omega⟩
  | k + 1, p, hp, hk => by
    by_cases c : ∃ y, Sol M E x y ∧ sm y n < sm p n
    · obtain ⟨y, hy, hlt⟩ := c
      exact least_sol n k y hy (by have := sm_le hy.ge n; omega)
    · exact ⟨p, hp, fun y hy h => c ⟨y, hy, h⟩⟩
theorem settle {M : Int} (hM : 0 < M) {E : List WE} {n : Nat} (hE : ∀ e ∈ E, e.f < n ∧ e.t < n) {X : Nat → Nat → Int}
    (hX : ∀ k, Round M E (X k) (X (k + 1))) {p0 : Nat → Int} (hp0 : Sol M E (X 0) p0) : ∀ j, j < n → X (n + 1) j = X n j := by
  obtain ⟨p, hp, hmin⟩ := least_sol n _ p0 hp0 (Nat.le_refl _)
  have hB : ∀ k, Sol M E (X k) p := fun k => by
    induction k with
    | zero => exact hp
    | succ k ih =>
      refine ⟨(hX k).least p ih.ge ih.cg ih.feas, fun j => ?_, ih.feas⟩
      have h1 := ih.cg j
      have h2 := (hX k).cg j
      have : p j - X (k + 1) j = (p j - X k j) - (X (k + 1) j - X k j) := by omega
      rw [this]; exact Int.dvd_sub h1 h2
  have hmono : ∀ k j, X 0 j ≤ X k j := fun k j => by
    induction k with
    | zero => exact Int.le_refl _
    | succ k ih => exact Int.le_trans ih ((hX k).up j)
  have hC : ∀ k, (∀ j, j < n → X k j = p j) ∨ ∃ j, j < n ∧ X k j ≠ p j ∧ X (k + 1) j = p j := fun k => by
    by_cases c1 : ∀ j, j < n → X k j = p j
    · exact .inl c1
    by_cases c2 : ∃ j, j < n ∧ X k j ≠ p j ∧ X (k + 1) j = p j
    · exact .inr c2
    exfalso
    obtain ⟨j0, hj0⟩ := Classical.not_forall.1 c1
    obtain ⟨hj0n, hj0⟩ := Classical.not_imp.1 hj0
    have gap : ∀ k j, X k j ≠ p j → X k j + M ≤ p j := fun k j h => dvd_gap hM ((hB k).cg j) (by have := (hB k).ge j; omega)
    refine hmin (fun j => if X k j = p j then p j else p j - M) ⟨fun j => ?_, fun j => ?_, fun e he => ?_⟩ (sm_lt (k := j0) (fun j => ?_) ?_ n hj0n)
    · show X 0 j ≤ if X k j = p j then p j else p j - M
      split
      · exact hp.ge j
      · have := gap k j (by assumption); have := hmono k j; omega
    · show M ∣ (if X k j = p j then p j else p j - M) - X 0 j
      split
      · exact hp.cg j
      · have : p j - M - X 0 j = (p j - X 0 j) - M := by omega
        rw [this]; exact Int.dvd_sub (hp.cg j) (Int.dvd_refl _)
    · show (if X k e.f = p e.f then p e.f else p e.f - M) + e.w ≤ if X k e.t = p e.t then p e.t else p e.t - M
      have hpe := hp.feas e he
      by_cases f : X k e.f = p e.f <;> by_cases t : X k e.t = p e.t
      · rw [if_pos f, if_pos t]; exact hpe
      · rw [if_pos f, if_neg t]
        have ht : X (k + 1) e.t ≠ p e.t := fun h => c2 ⟨e.t, (hE e he).2, t, h⟩
        have := gap (k + 1) e.t ht
        have := (hX k).hold e he
        omega
      · rw [if_neg f, if_pos t]; omega
      · rw [if_neg f, if_neg t]; omega
    · show (if X k j = p j then p j else p j - M) ≤ p j
      split <;> omega
    · show (if X k j0 = p j0 then p j0 else p j0 - M) < p j0
      rw [if_neg hj0]; omega
  have hD : ∀ k, k ≤ n → cnt (fun j => decide (X k j ≠ p j)) n ≤ n - k := fun k => by
    induction k with
    | zero => intro _; exact cnt_top _ n
    | succ k ih =>
      intro hk
      have ih := ih (by omega)
      have hkeep : ∀ j, decide (X (k + 1) j ≠ p j) = true → decide (X k j ≠ p j) = true := fun j h => by
        simp only [ne_eq, decide_eq_true_eq] at h ⊢
        intro e
        have := (hB (k + 1)).ge j
        have := (hX k).up j
        omega
      rcases hC k with h | ⟨j, hj, h1, h2⟩
      · have h0 : ∀ m, m ≤ n → cnt (fun j => decide (X (k + 1) j ≠ p j)) m = 0 := fun m => by
          induction m with
          | zero => intro _; rfl
          | succ m ihm =>
            intro hm
            simp only [cnt]
            rw [ihm (by omega)]
            have e1 : X (k + 1) m = p m := by
              have := (hB (k + 1)).ge m
              have := (hX k).up m
              have := h m (by omega)
              omega
            simp [e1]
        have := h0 n (Nat.le_refl _)
        omega
      · have := cnt_lt hkeep (k := j) (by simp [h2]) (by simp [h1]) n hj
        omega
  intro j hj
  have h0 := cnt_zero (p := fun j => decide (X n j ≠ p j)) (n := n) (by have := hD n (Nat.le_refl _); omega) j hj
  simp only [ne_eq, decide_eq_false_iff_not, Classical.not_not] at h0
  have h1 := (hB (n + 1)).ge j
  have h2 := (hX n).up j
  omega
end Go.Vx.Walk
