/- The plain law of list schedules: the best place; uses do not hang on the order; one cycle as a relation. -/
import Derived.Test.YtmnagbhllnlelaaGreatDoorVxRefList
import Derived.Test.YtmnagbhllnlelaaGreatDoorVxRefTog
import Derived.Test.YtmnagbhllnlelaaGreatDoorVxPush
set_option linter.unusedSimpArgs false
set_option linter.unusedVariables false
set_option maxRecDepth 100000
namespace Go.Proofs.YtmnagbhllnlelaaGreatDoor
open Go Go.Vx
open Go.Vx.IOp Go.Vx.IR Go.Vx.Opd
/-! The first place of the greatest height among those that may be chosen. -/
def stepB (cand : Nat → Bool) (H : List Int) (best : Int) (j : Nat) : Int := if (cand j && (decide (best < 0) || decide (H.getD j 0 > H.getD best.toNat 0))) = true then (j : Int) else best
def bestS (cand : Nat → Bool) (H : List Int) (n : Nat) : Int := (List.range n).foldl (stepB cand H) (-1)
theorem bestS_succ {cand : Nat → Bool} {H : List Int} {n : Nat} : bestS cand H (n + 1) = stepB cand H (bestS cand H n) n := by
 unfold bestS; rw [List.range_succ, List.foldl_append]; rfl
def IsBest (cand : Nat → Bool) (H : List Int) (n : Nat) (b : Int) : Prop :=
 (b = -1 ∧ ∀ j, j < n → cand j = false) ∨ ∃ k, k < n ∧ b = (k : Int) ∧ cand k = true ∧ ∀ j, j < n → cand j = true → H.getD j 0 < H.getD k 0 ∨ (H.getD j 0 = H.getD k 0 ∧ k ≤ j)
theorem bestS_is (cand : Nat → Bool) (H : List Int) : ∀ n, IsBest cand H n (bestS cand H n)
 | 0 => .inl ⟨rfl, fun j hj => absurd hj (Nat.not_lt_zero _)⟩
 | n + 1 => by
  rw [bestS_succ]
  unfold stepB
  rcases bestS_is cand H n with ⟨h1, h2⟩ | ⟨k, h1, h2, h3, h4⟩
  ·rw [h1]
   cases hc : cand n with
   | true =>
    rw [if_pos (by simp)]
    refine .inr ⟨n, by omega, rfl, hc, fun j hj hcj => ?_⟩
    by_cases e : j = n
    ·subst e; exact .inr ⟨rfl, Nat.le_refl _⟩
    ·rw [h2 j (by omega)] at hcj; cases hcj
   | false =>
    rw [if_neg (by simp)]
    refine .inl ⟨rfl, fun j hj => ?_⟩
    by_cases e : j = n
    ·subst e; exact hc
    ·exact h2 j (by omega)
  ·rw [h2]
   have hneg : decide ((k : Int) < 0) = false := decide_eq_false (by omega)
   by_cases c : (cand n && (decide ((k : Int) < 0) || decide (H.getD n 0 > H.getD ((k : Int)).toNat 0))) = true
   ·rw [if_pos c]
    rw [hneg, Bool.false_or, Bool.and_eq_true, decide_eq_true_eq, Int.toNat_natCast] at c
    refine .inr ⟨n, by omega, rfl, c.1, fun j hj hcj => ?_⟩
    by_cases e : j = n
    ·subst e; exact .inr ⟨rfl, Nat.le_refl _⟩
    ·rcases h4 j (by omega) hcj with h | ⟨h, _⟩
     ·exact .inl (by omega)
     ·exact .inl (by omega)
   ·rw [if_neg c]
    rw [hneg, Bool.false_or, Bool.and_eq_true, decide_eq_true_eq, Int.toNat_natCast] at c
    refine .inr ⟨k, by omega, rfl, h3, fun j hj hcj => ?_⟩
    by_cases e : j = n
    ·subst e
     have : ¬ H.getD j 0 > H.getD k 0 := fun h => c ⟨hcj, h⟩
     by_cases e2 : H.getD j 0 = H.getD k 0
     ·exact .inr ⟨e2, by omega⟩
     ·exact .inl (by omega)
    ·exact h4 j (by omega) hcj
theorem isBest_eq {cand : Nat → Bool} {H : List Int} {n : Nat} {b b' : Int} (h : IsBest cand H n b) (h' : IsBest cand H n b') : b = b' := by
 rcases h with ⟨h1, h2⟩ | ⟨k, h1, h2, h3, h4⟩ <;> rcases h' with ⟨h1', h2'⟩ | ⟨k', h1', h2', h3', h4'⟩
 ·rw [h1, h1']
 ·rw [h2 k' h1'] at h3'; cases h3'
 ·rw [h2' k h1] at h3; cases h3
 ·rw [h2, h2']
  rcases h4 k' h1' h3' with a | ⟨a, a2⟩ <;> rcases h4' k h1 h3 with b | ⟨b, b2⟩ <;> omega
/-- Fewer may be chosen, but the best one still may: it is still the best. -/
theorem isBest_sub {cand cand' : Nat → Bool} {H : List Int} {n k : Nat} (h : IsBest cand H n k) (hsub : ∀ j, j < n → cand' j = true → cand j = true) (hk : cand' k = true) : IsBest cand' H n k := by
 rcases h with ⟨h1, _⟩ | ⟨k', h1, h2, h3, h4⟩
 ·omega
 ·have : k = k' := by omega
  subst this
  exact .inr ⟨k, h1, rfl, hk, fun j hj hcj => h4 j hj (hsub j hj hcj)⟩
/-! Uses do not hang on the order. -/
theorem incUU (X : UseR) (a b : Nat) : (X.incU a).incU b = (X.incU b).incU a := by
 rcases a with _|_|_|a <;> rcases b with _|_|_|b <;> rfl
theorem incRR (X : UseR) (a b : Nat) : (X.incR a).incR b = (X.incR b).incR a := by
 rcases a with _|_|_|_|_|_|_|a <;> rcases b with _|_|_|_|_|_|_|b <;> rfl
theorem incUR (X : UseR) (a b : Nat) : (X.incU a).incR b = (X.incR b).incU a := by
 rcases a with _|_|_|a <;> rcases b with _|_|_|_|_|_|_|b <;> rfl
theorem foldR_U (a : Nat) : ∀ (L : List Nat) (X : UseR), L.foldl UseR.incR (X.incU a) = (L.foldl UseR.incR X).incU a
 | [], X => rfl
 | r :: L, X => by rw [List.foldl_cons, List.foldl_cons, incUR, foldR_U a L]
theorem foldR_R (a : Nat) : ∀ (L : List Nat) (X : UseR), L.foldl UseR.incR (X.incR a) = (L.foldl UseR.incR X).incR a
 | [], X => rfl
 | r :: L, X => by rw [List.foldl_cons, List.foldl_cons, incRR, foldR_R a L]
theorem foldR_comm : ∀ (K L : List Nat) (X : UseR), L.foldl UseR.incR (K.foldl UseR.incR X) = K.foldl UseR.incR (L.foldl UseR.incR X)
 | [], L, X => rfl
 | a :: K, L, X => by
  rw [List.foldl_cons, List.foldl_cons, foldR_comm K L, foldR_R]
theorem bankS_fold {bk : Int} : ∀ (L : List Int) (X : UseR), X.M.bk = bk → bankS X L = (L.map fun r => (r.tmod bk).toNat).foldl UseR.incR X
 | [], X, _ => rfl
 | r :: L, X, h => by
  show bankS (X.incR _) L = _
  subst h
  rw [bankS_fold (bk := X.M.bk) L _ (by rw [UseR.incR_M]), List.map_cons, List.foldl_cons]
theorem withS_fold (X : UseR) (o : OpR) : withS X o = ((readsS o).map fun r => (r.tmod X.M.bk).toNat).foldl UseR.incR (X.incU (classS o.kd).1.toNat) := by
 unfold withS; rw [bankS_fold _ _ (by rw [UseR.incU_M])]
theorem withS_comm (X : UseR) (a b : OpR) : withS (withS X a) b = withS (withS X b) a := by
 rw [withS_fold (withS X a) b, withS_fold (withS X b) a, withS_M, withS_M, withS_fold X a, withS_fold X b]
 rw [← foldR_U, ← foldR_U, incUU, foldR_comm]
/-- One place more among those that were chosen. -/
theorem sel_more {α : Type} {g : α → Nat → α} (hg : ∀ x a b, g (g x a) b = g (g x b) a) {p : Nat → Bool} {j : Nat} (hp : p j = false) (s : α) : ∀ n : Nat,
  ((List.range n).filter fun x => p x || x == j).foldl g s = if j < n then g (((List.range n).filter p).foldl g s) j else ((List.range n).filter p).foldl g s
 | 0 => rfl
 | n + 1 => by
  have ih := sel_more hg hp s n
  rw [List.range_succ, List.filter_append, List.filter_append, List.foldl_append, List.foldl_append, ih]
  by_cases h1 : j < n
  ·rw [if_pos h1, if_pos (by omega)]
   have hne : (n == j) = false := by simp; omega
   cases hpn : p n with
   | true => simp [hpn]; rw [hg]
   | false => simp [hpn, hne]
  ·rw [if_neg h1]
   by_cases h2 : j = n
   ·subst h2
    rw [if_pos (by omega)]
    simp [hp]
   ·rw [if_neg (by omega)]
    have hne : (n == j) = false := by simp; omega
    cases hpn : p n with
    | true => simp [hpn]
    | false => simp [hpn, hne]
def useAt (M : Mac) (O : List OpR) (cyc : List Int) (c : Int) : UseR := ((List.range O.length).filter fun x => cyc.getD x 0 == c).foldl (fun X j => withS X (opAt O j)) (newU M)
theorem uses_map (M : Mac) (O : List OpR) (L : List Nat) : usesAll M (L.map (opAt O)) = L.foldl (fun X j => withS X (opAt O j)) (newU M) := by
 unfold usesAll; rw [List.foldl_map]
theorem sel_uses {M : Mac} {O : List OpR} {cyc : List Int} {c : Int} {j : Nat} (hj : j < O.length) (hc : cyc.getD j 0 ≠ c) : usesAll M (selS O cyc c j O.length) = withS (useAt M O cyc c) (opAt O j) := by
 unfold selS
 rw [uses_map]
 have hsel : selB cyc c j = fun x => (cyc.getD x 0 == c) || x == j := by
  funext x; unfold selB
  have : (((x : Int)) == (j : Int)) = (x == j) := by
   rw [Bool.eq_iff_iff, beq_iff_eq, beq_iff_eq]; omega
  rw [this]
 rw [hsel, sel_more (fun x a b => withS_comm x _ _) (by simpa using hc) (newU M) O.length, if_pos hj]
 rfl
/-- What is chosen in a cycle is used there. -/
theorem useAt_set {M : Mac} {O : List OpR} {cyc : List Int} {c : Int} {j : Nat} (hj : j < O.length) (hl : cyc.length = O.length) (hc : cyc.getD j 0 ≠ c) : useAt M O (cyc.set j c) c = withS (useAt M O cyc c) (opAt O j) := by
 unfold useAt
 have hsel : (fun x => (cyc.set j c).getD x 0 == c) = fun x => (cyc.getD x 0 == c) || x == j := by
  funext x
  rw [getD_set (by omega)]
  by_cases e : x = j
  ·subst e; simp
  ·rw [if_neg e]
   have : (x == j) = false := by simpa using e
   rw [this, Bool.or_false]
 rw [hsel, sel_more (fun x a b => withS_comm x _ _) (by simpa using hc) (newU M) O.length, if_pos hj]
/-! Uses only grow. -/
theorem fits_iff {X : UseR} : fitsS X = true ↔ (∀ j, j < 4 → X.uses j ≤ X.M.unit j) ∧ ∀ j, j < 8 → X.reads j ≤ X.M.pt := by
 unfold fitsS UseR.readL
 simp only [Bool.and_eq_true, decide_eq_true_eq, List.all_cons, List.all_nil, and_true]
 constructor
 ·rintro ⟨⟨⟨a0, a1⟩, a2, a3⟩, b0, b1, b2, b3, b4, b5, b6, b7⟩
  refine ⟨fun j hj => ?_, fun j hj => ?_⟩
  ·have : j = 0 ∨ j = 1 ∨ j = 2 ∨ j = 3 := by omega
   rcases this with rfl | rfl | rfl | rfl <;> assumption
  ·have : j = 0 ∨ j = 1 ∨ j = 2 ∨ j = 3 ∨ j = 4 ∨ j = 5 ∨ j = 6 ∨ j = 7 := by omega
   rcases this with rfl | rfl | rfl | rfl | rfl | rfl | rfl | rfl <;> assumption
 ·rintro ⟨a, b⟩
  exact ⟨⟨⟨a 0 (by omega), a 1 (by omega)⟩, a 2 (by omega), a 3 (by omega)⟩, b 0 (by omega), b 1 (by omega), b 2 (by omega), b 3 (by omega), b 4 (by omega), b 5 (by omega), b 6 (by omega), b 7 (by omega)⟩
theorem bank_mono : ∀ (L : List Int) (X : UseR), (∀ j, (bankS X L).uses j = X.uses j) ∧ ∀ j, X.reads j ≤ (bankS X L).reads j ∧ (bankS X L).reads j ≤ X.reads j + L.length
 | [], X => ⟨fun _ => rfl, fun _ => by show X.reads _ ≤ X.reads _ ∧ _; simp only [List.length_nil]; exact ⟨Int.le_refl _, by show X.reads _ ≤ _; omega⟩⟩
 | r :: L, X => by
  obtain ⟨h1, h2⟩ := bank_mono L (X.incR (r.tmod X.M.bk).toNat)
  refine ⟨fun j => ?_, fun j => ?_⟩
  ·show (bankS (X.incR _) L).uses j = _
   rw [h1, UseR.incR_uses]
  ·have h3 := h2 j
   have h4 := X.incR_reads (r.tmod X.M.bk).toNat j
   show X.reads j ≤ (bankS (X.incR _) L).reads j ∧ (bankS (X.incR _) L).reads j ≤ _
   simp only [List.length_cons]
   rcases h4 with e | e <;> rw [e] at h3 <;> omega
theorem fits_less {X : UseR} {o : OpR} (h : fitsS (withS X o) = true) : fitsS X = true := by
 rw [fits_iff] at h ⊢
 obtain ⟨h1, h2⟩ := h
 rw [withS_M] at h1 h2
 unfold withS at h1 h2
 obtain ⟨b1, b2⟩ := bank_mono (readsS o) (X.incU (classS o.kd).1.toNat)
 refine ⟨fun j hj => ?_, fun j hj => ?_⟩
 ·have a := h1 j hj
  rw [b1] at a
  rcases X.incU_uses (classS o.kd).1.toNat j with e | e <;> rw [e] at a <;> omega
 ·have a := h2 j hj
  have b := (b2 j).1
  rw [X.incU_reads] at b
  omega
theorem fits_one {M : Mac} {o : OpR} (hM : M.ok = true) : fitsS (withS (newU M) o) = true := by
 obtain ⟨_, hbk, hpt⟩ := ok_range hM
 have hun : ∀ j, 1 ≤ M.unit j := fun j => by
  have h := hM
  unfold Mac.ok Mac.row inR at h
  simp only [Bool.and_eq_true, decide_eq_true_eq] at h
  rcases j with _|_|_|j
  ·exact h.1.1.1.1.1.1
  ·exact h.1.1.1.2.1.1
  ·exact h.1.1.2.1.1
  ·exact h.1.2.1.1
 rw [fits_iff, withS_M]
 have hN : (newU M).M = M := rfl
 rw [hN]
 obtain ⟨b1, b2⟩ := bank_mono (readsS o) ((newU M).incU (classS o.kd).1.toNat)
 refine ⟨fun j hj => ?_, fun j hj => ?_⟩
 ·have e0 : (newU M).uses j = 0 := by rcases j with _|_|_|j <;> rfl
  have hu := hun j
  unfold withS
  rw [b1]
  rcases (newU M).incU_uses (classS o.kd).1.toNat j with e | e <;> rw [e, e0] <;> omega
 ·have e0 : (newU M).reads j = 0 := by rcases j with _|_|_|_|_|_|_|j <;> rfl
  have b := (b2 j).2
  rw [UseR.incU_reads, e0] at b
  have hl := readsS_len o
  unfold withS
  omega
/-! One cycle. -/
def rdyB (E : List Edg) (cyc : List Int) (c : Int) (j : Nat) : Bool := decide (cyc.getD j 0 < 0) && readyE E cyc j c
def candR (M : Mac) (O : List OpR) (E : List Edg) (cyc : List Int) (c : Int) (j : Nat) : Bool := rdyB E cyc c j && fitsS (withS (useAt M O cyc c) (opAt O j))
def bestR (M : Mac) (O : List OpR) (E : List Edg) (H cyc : List Int) (c : Int) : Int := bestS (candR M O E cyc c) H O.length
inductive Gr (M : Mac) (O : List OpR) (E : List Edg) (H : List Int) (c : Int) : List Int → List Int → Prop where
 | done {cyc : List Int} : bestR M O E H cyc c = -1 → Gr M O E H c cyc cyc
 | step {cyc z : List Int} {b : Nat} : bestR M O E H cyc c = (b : Int) → Gr M O E H c (cyc.set b c) z → Gr M O E H c cyc z
theorem Gr.det {M : Mac} {O : List OpR} {E : List Edg} {H : List Int} {c : Int} {cyc z z' : List Int} (h : Gr M O E H c cyc z) (h' : Gr M O E H c cyc z') : z = z' := by
 induction h with
 | done h1 => cases h' with
  | done _ => rfl
  | step h2 _ => rw [h1] at h2; omega
 | step h1 h2 ih => cases h' with
  | done h3 => rw [h1] at h3; omega
  | step h3 h4 =>
   rw [h1] at h3
   have := Int.ofNat_inj.1 h3
   subst this
   exact ih h4
theorem bestR_is (M : Mac) (O : List OpR) (E : List Edg) (H cyc : List Int) (c : Int) : IsBest (candR M O E cyc c) H O.length (bestR M O E H cyc c) := bestS_is _ _ _
/-- What has been tried in this cycle has its place, or does not fit beside what is there. -/
def Tried (M : Mac) (O : List OpR) (cyc : List Int) (c : Int) (tr : Nat → Bool) : Prop := ∀ j, j < O.length → tr j = true → 0 ≤ cyc.getD j 0 ∨ fitsS (withS (useAt M O cyc c) (opAt O j)) = false
def candO (E : List Edg) (cyc : List Int) (c : Int) (tr : Nat → Bool) (j : Nat) : Bool := !tr j && rdyB E cyc c j
theorem cand_sub {M : Mac} {O : List OpR} {E : List Edg} {cyc : List Int} {c : Int} {tr : Nat → Bool} (ht : Tried M O cyc c tr) {j : Nat} (hj : j < O.length) (h : candR M O E cyc c j = true) : candO E cyc c tr j = true := by
 unfold candR at h
 rw [Bool.and_eq_true] at h
 obtain ⟨h1, h2⟩ := h
 unfold candO
 rw [h1, Bool.and_true]
 cases hh : tr j with
 | false => rfl
 | true =>
  exfalso
  unfold rdyB at h1
  rw [Bool.and_eq_true, decide_eq_true_eq] at h1
  rcases ht j hj hh with h3 | h3
  ·omega
  ·rw [h2] at h3; cases h3
theorem own_none {M : Mac} {O : List OpR} {E : List Edg} {H cyc : List Int} {c : Int} {tr : Nat → Bool} (ht : Tried M O cyc c tr) (h : bestS (candO E cyc c tr) H O.length = -1) : bestR M O E H cyc c = -1 := by
 have h1 := bestS_is (candO E cyc c tr) H O.length
 rw [h] at h1
 refine isBest_eq (bestR_is M O E H cyc c) (.inl ⟨rfl, fun j hj => ?_⟩)
 rcases h1 with ⟨_, h2⟩ | ⟨k, _, h2, _⟩
 ·cases hh : candR M O E cyc c j with
  | false => rfl
  | true => have := cand_sub ht hj hh; rw [h2 j hj] at this; cases this
 ·omega
theorem own_some {M : Mac} {O : List OpR} {E : List Edg} {H cyc : List Int} {c : Int} {tr : Nat → Bool} (ht : Tried M O cyc c tr) {b : Nat} (h : bestS (candO E cyc c tr) H O.length = (b : Int)) (hf : fitsS (withS (useAt M O cyc c) (opAt O b)) = true) : bestR M O E H cyc c = (b : Int) := by
 have h1 := bestS_is (candO E cyc c tr) H O.length
 rw [h] at h1
 have hb : candO E cyc c tr b = true ∧ b < O.length := by
  rcases h1 with ⟨h2, _⟩ | ⟨k, h3, h2, h4, _⟩
  ·omega
  ·have : b = k := by omega
   subst this; exact ⟨h4, h3⟩
 refine isBest_eq (bestR_is M O E H cyc c) (isBest_sub h1 (fun j hj hc => cand_sub ht hj hc) ?_)
 unfold candO at hb
 unfold candR
 rw [Bool.and_eq_true] at hb
 rw [hb.1.2, hf]; rfl
theorem tried_no {M : Mac} {O : List OpR} {cyc : List Int} {c : Int} {tr : Nat → Bool} (ht : Tried M O cyc c tr) {b : Nat} (hf : fitsS (withS (useAt M O cyc c) (opAt O b)) = false) : Tried M O cyc c (fun j => tr j || j == b) := fun j hj h => by
 rw [Bool.or_eq_true] at h
 rcases h with h | h
 ·exact ht j hj h
 ·have : j = b := by simpa using h
  subst this; exact .inr hf
theorem tried_yes {M : Mac} {O : List OpR} {cyc : List Int} {c : Int} {tr : Nat → Bool} (ht : Tried M O cyc c tr) {b : Nat} (hb : b < O.length) (hl : cyc.length = O.length) (hc : 0 ≤ c) (hn : cyc.getD b 0 < 0) : Tried M O (cyc.set b c) c (fun j => tr j || j == b) := fun j hj h => by
 rw [useAt_set hb hl (by omega), getD_set (by omega)]
 by_cases e : j = b
 ·rw [if_pos e]; exact .inl hc
 ·rw [if_neg e]
  rw [Bool.or_eq_true] at h
  rcases h with h | h
  ·rcases ht j hj h with h1 | h1
   ·exact .inl h1
   ·right
    cases hh : fitsS (withS (withS (useAt M O cyc c) (opAt O b)) (opAt O j)) with
    | false => rfl
    | true =>
     rw [withS_comm] at hh
     rw [fits_less hh] at h1; cases h1
  ·exact absurd (by simpa using h) e
theorem Gr.keep {M : Mac} {O : List OpR} {E : List Edg} {H : List Int} {c : Int} {cyc z : List Int} (h : Gr M O E H c cyc z) : cyc.length = O.length → z.length = O.length ∧ ∀ j, z.getD j 0 = cyc.getD j 0 ∨ (cyc.getD j 0 < 0 ∧ z.getD j 0 = c) := by
 induction h with
 | done _ => intro hl; exact ⟨hl, fun j => .inl rfl⟩
 | @step cyc z b h1 _ ih =>
  intro hl
  have hb := bestR_is M O E H cyc c
  rw [h1] at hb
  rcases hb with ⟨h2, _⟩ | ⟨k, hk, h2, h3, _⟩
  ·omega
  have : b = k := by omega
  subst this
  have hn : cyc.getD b 0 < 0 := by
   unfold candR rdyB at h3
   simp only [Bool.and_eq_true, decide_eq_true_eq] at h3
   exact h3.1.1
  obtain ⟨i1, i2⟩ := ih (by simp [hl])
  refine ⟨i1, fun j => ?_⟩
  have hg : (cyc.set b c).getD j 0 = if j = b then c else cyc.getD j 0 := getD_set (by omega)
  by_cases e : j = b
  ·subst e
   rw [if_pos rfl] at hg
   rcases i2 j with h | ⟨_, h⟩
   ·exact .inr ⟨hn, by rw [h, hg]⟩
   ·exact .inr ⟨hn, h⟩
  ·rw [if_neg e] at hg
   have := i2 j
   rw [hg] at this; exact this
theorem useAt_none {M : Mac} {O : List OpR} {cyc : List Int} {c : Int} (h : ∀ j, j < O.length → cyc.getD j 0 ≠ c) : useAt M O cyc c = newU M := by
 unfold useAt
 have : (List.range O.length).filter (fun x => cyc.getD x 0 == c) = [] := by
  rw [List.filter_eq_nil_iff]
  intro x hx
  have := h x (List.mem_range.1 hx)
  simpa using this
 rw [this]; rfl
theorem least_left {cyc : List Int} {n : Nat} : ∀ (k : Nat), k < n → cyc.getD k 0 < 0 → ∃ j, j < n ∧ cyc.getD j 0 < 0 ∧ ∀ q, q < j → 0 ≤ cyc.getD q 0 := by
 intro k
 induction k using Nat.strongRecOn with
 | ind k ih =>
  intro hk hn
  by_cases h : ∃ q, q < k ∧ cyc.getD q 0 < 0
  ·obtain ⟨q, hq, hqn⟩ := h
   exact ih q hq (by omega) hqn
  ·refine ⟨k, hk, hn, fun q hq => ?_⟩
   by_cases c : 0 ≤ cyc.getD q 0
   ·exact c
   ·exact absurd ⟨q, hq, by omega⟩ h
/-- Where all that has a place has it long enough ago, some place is chosen. -/
theorem progress {M : Mac} {O : List OpR} {E : List Edg} {H cyc : List Int} {c last : Int} (hM : M.ok = true) (hE : ∀ e ∈ E, Fwd O.length e) (hl : ∀ j, j < O.length → cyc.getD j 0 ≤ last) (hc : last + 8 ≤ c) (hleft : ∃ j, j < O.length ∧ cyc.getD j 0 < 0) : bestR M O E H cyc c ≠ -1 := by
 obtain ⟨k, hk, hkn⟩ := hleft
 obtain ⟨j, hj, hjn, hmin⟩ := least_left k hk hkn
 have hu : useAt M O cyc c = newU M := useAt_none fun q hq h => by
  have := hl q hq; omega
 have hready : readyE E cyc j c = true := by
  unfold readyE
  have : E.any (blockE1 cyc j c) = false := by
   rw [List.any_eq_false]
   intro e he h
   unfold blockE1 at h
   simp only [Bool.and_eq_true, beq_iff_eq] at h
   obtain ⟨⟨h1, h2⟩, h3⟩ := h
   have fw := hE e he
   have hup := fw.up h2
   have f0 := fw.f0
   have d8 := fw.d8
   have h4 := hmin e.f.toNat (by omega)
   have h5 := hl e.f.toNat (by omega)
   unfold waitE at h3
   simp only [Bool.or_eq_true, decide_eq_true_eq] at h3
   omega
  rw [this]; rfl
 have hcand : candR M O E cyc c j = true := by
  unfold candR rdyB
  rw [hready, hu, fits_one hM, decide_eq_true hjn]; rfl
 intro hb
 have h := bestR_is M O E H cyc c
 rw [hb] at h
 rcases h with ⟨_, h2⟩ | ⟨q, _, h2, _⟩
 ·rw [h2 j hj] at hcand; cases hcand
 ·omega
/-! The whole schedule. -/
inductive Sch (M : Mac) (O : List OpR) (E : List Edg) (H : List Int) : Int → List Int → List Int → Prop where
 | done {c : Int} {cyc : List Int} : (∀ j, j < O.length → 0 ≤ cyc.getD j 0) → Sch M O E H c cyc cyc
 | step {c : Int} {cyc cyc1 z : List Int} : (∃ j, j < O.length ∧ cyc.getD j 0 < 0) → Gr M O E H c cyc cyc1 → Sch M O E H (c + 1) cyc1 z → Sch M O E H c cyc z
theorem Sch.det {M : Mac} {O : List OpR} {E : List Edg} {H : List Int} {c : Int} {cyc z z' : List Int} (h : Sch M O E H c cyc z) (h' : Sch M O E H c cyc z') : z = z' := by
 induction h with
 | done h1 => cases h' with
  | done _ => rfl
  | step h2 _ _ => obtain ⟨j, hj, h3⟩ := h2; have := h1 j hj; omega
 | step h1 h2 _ ih => cases h' with
  | done h3 => obtain ⟨j, hj, h4⟩ := h1; have := h3 j hj; omega
  | step _ h4 h5 =>
   have := h2.det h4
   subst this
   exact ih h5
end Go.Proofs.YtmnagbhllnlelaaGreatDoor
set_option linter.unusedSimpArgs false
set_option linter.unusedVariables false
set_option maxRecDepth 100000
namespace Go.Proofs.YtmnagbhllnlelaaGreatDoor
open Go Go.Vx
open Go.Vx.IOp Go.Vx.IR Go.Vx.Opd
/-- What is wrong with the edges of a plan. -/
def edgeCode (n : Int) (E : List Edg) : Int := if n > 401 ∨ E.length > 200000 then 3 else if n < 0 then 2 else firstCode (cdW n true) E
def planCode (n : Int) (M : Mac) (O : List OpR) (E : List Edg) : Int := if n ≠ O.length then 2 else if wrongCode M O ≠ 0 then wrongCode M O else edgeCode n E
theorem edgeCode_heights (n : Int) (E : List Edg) : edgeCode n E = (heightsS n E).2 := by
 unfold edgeCode heightsS
 split
 ·rfl
 ·split
  ·rfl
  ·split
   ·rfl
   ·rename_i h; exact Decidable.not_not.1 h
theorem refPlan_ok {m : Mem} {v u : Value} (M : Mac) {O : List OpR} {E : List Edg} (hO : OAt m v O) (hE : EAt m u E) (hlO : O.length < 2 ^ 63) (hlE : E.length < 2 ^ 63) (n : Int) :
  CallsM Tryz.prog 28 [i n, M.val, v, u] m fun e m' => e = .returned (i (planCode n M O E)) ∧ Mem.le m m' := by
 have hsl : ∃ a c, v = .slice a O.length c := by obtain ⟨a, c, e, _⟩ := hO; exact ⟨a, c, e⟩
 obtain ⟨a, c, rfl⟩ := hsl
 have hsl2 : ∃ a c, u = .slice a E.length c := by obtain ⟨a, c, e, _⟩ := hE; exact ⟨a, c, e⟩
 obtain ⟨a2, c2, rfl⟩ := hsl2
 refine calls_of mixed Tryz.func28 ok_biremeref21_Plan rfl ?_
 conv => whnf
 refine Br.mk (fun hb => ?_) (fun hb => ?_)
 ·have hne : n ≠ O.length := by simpa using hb
  conv => whnf
  refine WRet.same ⟨?_, Mem.le.refl _⟩
  unfold planCode; rw [if_pos hne]; rfl
 have hne : n = O.length := by simpa using hb
 conv => whnf
 refine WCall.mk (refWrong_ok M hO hlO) ?_
 rintro _ m1 ⟨rfl, hle1⟩
 conv => whnf
 refine Br.mk (fun hb2 => ?_) (fun hb2 => ?_)
 ·have h2 : wrongCode M O ≠ 0 := by simpa using hb2
  conv => whnf
  refine WRet.same ⟨?_, hle1⟩
  unfold planCode; rw [if_neg (by simpa using hne), if_pos h2]; rfl
 have h2 : wrongCode M O = 0 := by simpa using hb2
 conv => whnf
 refine WCall.mk (refHeights_ok (hE.mono hle1) hlE n) ?_
 rintro _ m2 ⟨h, rfl, hle2, hh⟩
 conv => whnf
 refine WRet.same ⟨?_, hle1.trans hle2⟩
 unfold planCode; rw [if_neg (by simpa using hne), if_neg (by rw [h2]; simp), edgeCode_heights]; rfl
theorem right21_ok {m : Mem} {T : Nat} {fr : Nat × Nat} (hm : m 0 = some (.cells ⟨cells0⟩ T fr)) {v u : Value} (M : Mac) {O : List OpR} {E : List Edg} (hO : OAt m v O) (hE : EAt m u E) (hlO : O.length < 2 ^ 63) (hlE : E.length < 2 ^ 63) (hR : ∀ e ∈ E, e.r ≤ 9223372036854775807) (n : Int) :
  CallsM Tryz.prog 59 [i n, M.val, v, u] m fun e m' => e = .returned (i (if M.ok = true then planCode n M O E else 2)) ∧ Mem.le m m' := by
 have hsl : ∃ a c, v = .slice a O.length c := by obtain ⟨a, c, e, _⟩ := hO; exact ⟨a, c, e⟩
 obtain ⟨a, c, rfl⟩ := hsl
 have hsl2 : ∃ a c, u = .slice a E.length c := by obtain ⟨a, c, e, _⟩ := hE; exact ⟨a, c, e⟩
 obtain ⟨a2, c2, rfl⟩ := hsl2
 refine calls_of mixed Tryz.func59 ok_list_Right rfl ?_
 conv => whnf
 refine WCall.pure (check_ok m M) ?_
 cases hMo : M.ok with
 | false =>
  rw [if_neg (by decide)]
  conv => whnf
  refine Br.mk (fun _ => ?_) (fun h => by cases h)
  conv => whnf
  exact WRet.same ⟨rfl, Mem.le.refl _⟩
 | true =>
  rw [if_pos rfl]
  simp only [if_pos]
  conv => whnf
  refine Br.mk (fun h => by cases h) (fun _ => ?_)
  conv => whnf
  refine Br.mk (fun hb => ?_) (fun hb => ?_)
  ·have hne : (O.length : Int) ≠ n := by simpa using hb
   conv => whnf
   refine WRet.same ⟨?_, Mem.le.refl _⟩
   unfold planCode; rw [if_pos (fun h => hne h.symm)]; rfl
  have hne : (O.length : Int) = n := by simpa using hb
  conv => whnf
  refine WCall.mk (together_ok hm M hO hlO) ?_
  rintro _ m1 ⟨rfl, hle1⟩
  rw [useCode_wrong hMo]
  conv => whnf
  refine Br.mk (fun hb2 => ?_) (fun hb2 => ?_)
  ·have h2 : wrongCode M O ≠ 0 := by simpa using hb2
   conv => whnf
   refine WRet.same ⟨?_, hle1⟩
   unfold planCode; rw [if_neg (fun h => h hne.symm), if_pos h2]; rfl
  have h2 : wrongCode M O = 0 := by simpa using hb2
  conv => whnf
  refine WCall.pure (forms_ok (hE.mono hle1) hlE hR n) ?_
  conv => whnf
  refine WRet.same ⟨?_, hle1⟩
  have hpc : planCode n M O E = edgeCode n E := by unfold planCode; rw [if_neg (fun h => h hne.symm), if_neg (by rw [h2]; simp)]
  rw [hpc]; rfl
theorem ints21_ok {m : Mem} {v u : Value} {A B : List Int} (hv : IAt m v A) (hu : IAt m u B) (hlen : A.length < 2 ^ 63) :
  PureM Tryz.prog 30 [v, u] m (.bool (decide (A = B))) := by
 obtain ⟨a, c, rfl, h0, h1, hcap⟩ := hv
 obtain ⟨a2, c2, rfl, q0, q1, hcap2⟩ := hu
 refine calls_of mixed Tryz.func30 ok_biremelaw21_ints rfl ?_
 conv => whnf
 refine Br.mk (fun hb => ?_) (fun hb => ?_)
 ·conv => whnf
  refine WRet.same ⟨?_, rfl⟩
  have : A ≠ B := fun e => by subst e; simp at hb
  rw [decide_eq_false this]; rfl
 have hlE : A.length = B.length := by simp at hb; omega
 conv => whnf
 refine WLoop.mk Nat (fun k => [(5, .val (i k))]) (fun k m' => m = m' ∧ k ≤ A.length ∧ ∀ j (hj : j < A.length), j < k → A[j] = B[j]) (fun k => A.length - k) 0 ⟨rfl, trivial⟩ ⟨rfl, Nat.zero_le _, fun j hj h => by omega⟩ ?_
 rintro k m' ⟨rfl, hk, hq⟩
 conv => whnf
 refine Br.mk (fun hb => ?_) (fun hb => ?_)
 ·have hk2 : k < A.length := by simpa using hb
  cases a with
  | none => rw [h0 rfl] at hk2; simp at hk2
  | some ad =>
   cases a2 with
   | none => rw [q0 rfl] at hlE; simp at hlE; rw [hlE] at hk2; simp at hk2
   | some ad2 =>
    conv => whnf
    refine WIdx.mk ad rfl ⟨by omega, by simpa using hk2⟩ ?_
    conv => whnf
    refine WLd.mk (i A[k]) (by simpa using IAt.cell (h1 ad rfl) hk2) ?_
    conv => whnf
    refine WIdx.mk ad2 rfl ⟨by omega, by have : k < B.length := by omega
                                         simpa using this⟩ ?_
    conv => whnf
    refine WLd.mk (i B[k]) (by simpa using IAt.cell (q1 ad2 rfl) (show k < B.length by omega)) ?_
    conv => whnf
    refine Br.mk (fun hb2 => ?_) (fun hb2 => ?_)
    ·conv => whnf
     refine WRet.same ⟨?_, rfl⟩
     have : A ≠ B := fun e => by subst e; simp at hb2
     rw [decide_eq_false this]; rfl
    ·conv => whnf
     refine WRng.mk (by apply wrap_i64 <;> omega) ?_
     conv => whnf
     refine ⟨k + 1, ⟨rfl, trivial⟩, ⟨rfl, hk2, fun j hj h => ?_⟩, by omega⟩
     by_cases e : j = k
     ·subst e; simpa using hb2
     ·exact hq j hj (by omega)
 ·have hk2 : ¬ k < A.length := by simpa using hb
  conv => whnf
  refine WRet.same ⟨?_, rfl⟩
  have : A = B := List.ext_getElem hlE fun j h h' => hq j h (by omega)
  rw [decide_eq_true this]; rfl
end Go.Proofs.YtmnagbhllnlelaaGreatDoor
