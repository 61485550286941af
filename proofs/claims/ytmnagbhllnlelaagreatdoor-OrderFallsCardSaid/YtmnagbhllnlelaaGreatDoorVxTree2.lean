/- VX, part 14: what only computes gives one value, in whatever larger memory. -/
import Derived.Test.YtmnagbhllnlelaaGreatDoorVxTree
set_option linter.unusedSimpArgs false
set_option linter.unusedVariables false
namespace Go.Vx
open Go
variable {P : Program} {X : List PanicEntry → Mem → Prop}
def IOp.isPure : IOp → Bool
  | .mv _ | .pick _ _ _ | .bin _ _ _ | .binN _ _ _ | .div _ _ _ | .shf _ _ _ | .eq _ _ _ _ | .eqA _ _ _ _ | .un _ _ | .cv _ _ | .cvN _ _ | .len _ | .mm _ _ | .fld _ _ _ _ | .idx _ _ _ _ | .ext _ _ | .bd _ _
  | .fa _ _ | .fr _ _ _ | .ia _ _ _ | .iap _ _ _ _ | .ir _ _ _ _ | .nc _ | .ld _ | .lds _ _ | .vld _ _ | .vlds _ _ _ | .mf _ _ _ | .mi _ _ | .sx _ _ | .sla _ _ | .sl _ _ _ _ => true
  | _ => false
def IOp.isLoad : IOp → Bool | .ld _ | .lds _ _ => true | _ => false
def refTo (u : AV) (k : Nat) : Prop := (∃ off, u = .ref k off) ∨ ∃ off i, u = .refi k off i
def refToO (u : Option AV) (k : Nat) : Prop := ∃ v, u = some v ∧ refTo v k
theorem val_noref {v : Value} {k : Nat} : ¬ refTo (.val v) k := fun h => by rcases h with ⟨_, h⟩ | ⟨_, _, h⟩ <;> cases h
theorem var_noref {v : List Value} {k : Nat} : ¬ refTo (.var v) k := fun h => by rcases h with ⟨_, h⟩ | ⟨_, _, h⟩ <;> cases h
theorem at_noref {e : Env} {x : Opd} {v : Value} (h : x.at e = some v) : ∀ s ∈ x.slots, ∀ k, ¬ refToO (e s) k := by
  intro s hs k hk
  cases x with
  | c v => simp [Opd.slots] at hs
  | t n =>
    simp only [Opd.slots, List.mem_singleton] at hs
    subst hs
    simp only [Opd.at] at h
    obtain ⟨u, hu, hr⟩ := hk
    rw [hu] at h
    cases u <;> first | (cases h; done) | exact val_noref hr
theorem ats_noref {e : Env} : ∀ {xs : List Opd} {vs : List Value}, Opd.ats e xs = some vs → ∀ s ∈ slotsL xs, ∀ k, ¬ refToO (e s) k := by
  intro xs
  induction xs with
  | nil => intro vs _ s hs; simp [slotsL] at hs
  | cons x xs ih =>
    intro vs h s hs
    simp only [Opd.ats] at h
    split at h <;> first | (cases h; done) | skip
    rename_i v hv
    split at h <;> first | (cases h; done) | skip
    rename_i us hus
    simp only [slotsL, List.flatMap_cons, List.mem_append] at hs
    rcases hs with hs | hs
    · exact at_noref hv s hs
    · exact ih hus s hs
theorem parts_noref {e : Env} : ∀ {xs : List (Nat × Nat × Opd)} {vs : List (Nat × Nat × Value)}, partsL e xs = some vs → ∀ s ∈ slotsP xs, ∀ k, ¬ refToO (e s) k := by
  intro xs
  induction xs with
  | nil => intro vs _ s hs; simp [slotsP] at hs
  | cons x xs ih =>
    obtain ⟨i, n, x⟩ := x
    intro vs h s hs
    simp only [partsL] at h
    split at h <;> first | (cases h; done) | skip
    rename_i v hv
    split at h <;> first | (cases h; done) | skip
    rename_i us hus
    simp only [slotsP, List.flatMap_cons, List.mem_append] at hs
    rcases hs with hs | hs
    · exact at_noref hv s hs
    · exact ih hus s hs
theorem slOpd_noref {e : Env} {d z : Int} {x : Option Opd} (h : slOpd e d x = some z) : ∀ s ∈ slotsO x, ∀ k, ¬ refToO (e s) k := by
  cases x with
  | none => intro s hs; simp [slotsO] at hs
  | some x =>
    simp only [slOpd] at h
    split at h <;> first | (cases h; done) | skip
    rename_i hv
    exact at_noref hv
theorem nr2 {e : Env} {x y : Opd} {v u : Value} (h : x.at e = some v) (h' : y.at e = some u) : ∀ s ∈ x.slots ++ y.slots, ∀ k, ¬ refToO (e s) k := fun s hs => by
  rcases List.mem_append.1 hs with hs | hs
  · exact at_noref h s hs
  · exact at_noref h' s hs

/-- What a computing operation comes to. -/
def Det (P : Program) (X : List PanicEntry → Mem → Prop) (x : IOp) (e : Env) (m : Mem) (u : AV) : Prop :=
  (∀ cs, u ≠ .fresh cs) ∧ (∀ k, refTo u k → k ∈ x.reads) ∧ (∀ s ∈ x.reads, ∀ k, refToO (e s) k → k ∈ x.reads) ∧
  ∀ m' (F' : AV → Mem → Prop), (x.isLoad = true → Mem.le m m') → F' u m' → vop P x e m' F' X
theorem Det.mk {x : IOp} {e : Env} {m : Mem} {v : Value} (h : ∀ s ∈ x.reads, ∀ k, ¬ refToO (e s) k) (k : ∀ m' (F' : AV → Mem → Prop), (x.isLoad = true → Mem.le m m') → F' (.val v) m' → vop P x e m' F' X) : Det P X x e m (.val v) :=
  ⟨fun cs h => (by cases h), fun _ h => absurd h val_noref, fun s hs k hk => absurd hk (h s hs k), k⟩
theorem Br.t' {A B : Prop} (h : A) : Br true A B := by unfold Br; exact h
theorem Br.f' {A B : Prop} (h : B) : Br false A B := by unfold Br; exact h
theorem vop_pure {x : IOp} {e : Env} {m : Mem} {F : AV → Mem → Prop} (hp : x.isPure = true) (h : vop P x e m F X) : ∃ u, F u m ∧ Det P X x e m u := by
  cases x <;> simp only [IOp.isPure] at hp <;> first | (cases hp; done) | skip
  case mv x =>
    simp only [vop] at h
    split at h <;> first | exact h.elim | skip
    rename_i v hx
    exact ⟨_, h, Det.mk (at_noref hx) fun m' F' _ hF => by simp only [vop, hx]; exact hF⟩
  case pick c a b =>
    simp only [vop] at h
    split at h <;> first | exact h.elim | skip
    rename_i c' hc
    split at h <;> first | exact h.elim | skip
    rename_i va vb ha hb
    have hr : ∀ s ∈ (IOp.pick c a b).reads, ∀ k, ¬ refToO (e s) k := fun s hs => by
      simp only [IOp.reads, List.mem_append] at hs
      rcases hs with (hs | hs) | hs
      · exact at_noref hc s hs
      · exact at_noref ha s hs
      · exact at_noref hb s hs
    unfold Br at h
    cases c' with
    | true => exact ⟨_, h, Det.mk hr fun m' F' _ hF => by simp only [vop, hc, ha, hb]; exact Br.t' hF⟩
    | false => exact ⟨_, h, Det.mk hr fun m' F' _ hF => by simp only [vop, hc, ha, hb]; exact Br.f' hF⟩
  case bin op x y =>
    simp only [vop] at h
    split at h <;> first | exact h.elim | skip
    rename_i k n k' l hx hy
    cases hk : kbeq k k' with
    | false => rw [hk] at h; exact h.elim
    | true =>
      rw [hk] at h; simp only [cond_true] at h
      split at h <;> first | exact h.elim | skip
      rename_i v hb
      exact ⟨_, h, Det.mk (nr2 hx hy) fun m' F' _ hF => by simp only [vop, hx, hy, hk, cond_true, hb]; exact hF⟩
  case binN op x y =>
    simp only [vop] at h
    split at h <;> first | exact h.elim | skip
    rename_i k n k' l hx hy
    cases hk : kbeq k k' with
    | false => rw [hk] at h; exact h.elim
    | true =>
      rw [hk] at h; simp only [cond_true] at h
      split at h <;> first | exact h.elim | skip
      rename_i v hb
      unfold WRng at h
      exact ⟨_, h.2, Det.mk (nr2 hx hy) fun m' F' _ hF => by simp only [vop, hx, hy, hk, cond_true, hb]; exact WRng.mk h.1 hF⟩
  case div op x y =>
    simp only [vop] at h
    split at h <;> first | exact h.elim | skip
    rename_i k n k' l hx hy
    cases hk : kbeq k k' with
    | false => rw [hk] at h; exact h.elim
    | true =>
      rw [hk] at h; simp only [cond_true] at h
      unfold WNe at h
      split at h <;> first | exact h.elim | skip
      all_goals exact ⟨_, h.2, Det.mk (nr2 hx hy) fun m' F' _ hF => by simp only [vop, hx, hy, hk, cond_true]; exact WNe.mk h.1 hF⟩
  case shf op x y =>
    simp only [vop] at h
    split at h <;> first | exact h.elim | skip
    rename_i k n k' l hx hy
    unfold WBnd at h
    obtain ⟨h1, h2⟩ := h
    split at h2 <;> first | exact h2.elim | skip
    all_goals exact ⟨_, h2, Det.mk (nr2 hx hy) fun m' F' _ hF => by simp only [vop, hx, hy]; exact WBnd.mk h1 hF⟩
  case eq k neg x y =>
    simp only [vop] at h
    split at h <;> first | exact h.elim | skip
    rename_i va vb hx hy
    split at h <;> first | exact h.elim | skip
    rename_i r hr
    exact ⟨_, h, Det.mk (nr2 hx hy) fun m' F' _ hF => by simp only [vop, hx, hy, hr]; exact hF⟩
  case eqA neg j x y =>
    simp only [vop] at h
    split at h <;> first | exact h.elim | skip
    rename_i va vb hx hy
    split at h <;> first | exact h.elim | skip
    rename_i r hr
    exact ⟨_, h, Det.mk (nr2 hx hy) fun m' F' _ hF => by simp only [vop, hx, hy, hr]; exact hF⟩
  case un op x =>
    simp only [vop] at h
    split at h <;> first | exact h.elim | skip
    all_goals
      rename_i hx
      exact ⟨_, h, Det.mk (at_noref hx) fun m' F' _ hF => by simp only [vop, hx]; exact hF⟩
  case cv k x =>
    simp only [vop] at h
    split at h <;> first | exact h.elim | skip
    rename_i hx
    exact ⟨_, h, Det.mk (at_noref hx) fun m' F' _ hF => by simp only [vop, hx]; exact hF⟩
  case cvN k x =>
    simp only [vop] at h
    split at h <;> first | exact h.elim | skip
    rename_i hx
    unfold WRng at h
    exact ⟨_, h.2, Det.mk (at_noref hx) fun m' F' _ hF => by simp only [vop, hx]; exact WRng.mk h.1 hF⟩
  case len x =>
    simp only [vop] at h
    split at h <;> first | exact h.elim | skip
    rename_i hx
    exact ⟨_, h, Det.mk (at_noref hx) fun m' F' _ hF => by simp only [vop, hx]; exact hF⟩
  case mm mx xs =>
    simp only [vop] at h
    split at h <;> first | exact h.elim | skip
    rename_i k x vs hx
    split at h <;> first | exact h.elim | skip
    rename_i v hv
    exact ⟨_, h, Det.mk (ats_noref hx) fun m' F' _ hF => by simp only [vop, hx, hv]; exact hF⟩
  case fld off n agg x =>
    simp only [vop] at h
    split at h <;> first | exact h.elim | skip
    rename_i cs hx
    cases agg with
    | true => exact ⟨_, h, Det.mk (at_noref hx) fun m' F' _ hF => by simp only [vop, hx]; exact hF⟩
    | false =>
      simp only at h
      split at h <;> first | exact h.elim | skip
      rename_i v r hd
      exact ⟨_, h, Det.mk (at_noref hx) fun m' F' _ hF => by simp only [vop, hx, hd]; exact hF⟩
  case idx esz len x i =>
    simp only [vop] at h
    split at h <;> first | exact h.elim | skip
    rename_i cs k i hx hi
    cases hb : Nat.beq esz 1 with
    | false => rw [hb] at h; exact h.elim
    | true =>
      rw [hb] at h; simp only [cond_true] at h
      unfold WBnd WGet at h
      obtain ⟨h1, v, h2, h3⟩ := h
      exact ⟨_, h3, Det.mk (nr2 hx hi) fun m' F' _ hF => by simp only [vop, hx, hi, hb, cond_true]; exact WBnd.mk h1 (WGet.mk v h2 hF)⟩
  case sx x i =>
    simp only [vop] at h
    split at h <;> first | exact h.elim | skip
    rename_i s k i hx hi
    unfold WByte at h
    obtain ⟨b, h1, h2⟩ := h
    exact ⟨_, h2, Det.mk (nr2 hx hi) fun m' F' _ hF => by simp only [vop, hx, hi]; exact WByte.mk b h1 hF⟩
  case sla x n =>
    simp only [vop] at h
    split at h <;> first | exact h.elim | skip
    rename_i v hx
    exact ⟨_, h, Det.mk (at_noref hx) fun m' F' _ hF => by simp only [vop, hx]; exact hF⟩
  case ext x i =>
    simp only [vop] at h
    split at h <;> first | exact h.elim | skip
    rename_i vs hx
    split at h <;> first | exact h.elim | skip
    rename_i v r hd
    exact ⟨_, h, Det.mk (at_noref hx) fun m' F' _ hF => by simp only [vop, hx, hd]; exact hF⟩
  case bd zeros ps =>
    simp only [vop] at h
    split at h <;> first | exact h.elim | skip
    rename_i vs hx
    split at h <;> first | exact h.elim | skip
    rename_i cs hc
    exact ⟨_, h, Det.mk (parts_noref hx) fun m' F' _ hF => by simp only [vop, hx, hc]; exact hF⟩
  case fa x off =>
    simp only [vop] at h
    split at h <;> first | exact h.elim | skip
    · rename_i a hx
      have hx' : x.at e = some (.pointer (some a)) := by cases x <;> simp_all [Opd.av, Opd.at]
      exact ⟨_, h, Det.mk (at_noref hx') fun m' F' _ hF => by simp only [vop, hx]; exact hF⟩
    · rename_i cs hx
      split at h <;> first | exact h.elim | skip
      rename_i k
      simp only [Opd.av] at hx
      refine ⟨_, h, fun cs hh => (by cases hh), fun j hj => ?_, fun s hs j hj => ?_, fun m' F' _ hF => by simp only [vop, Opd.av, hx]; exact hF⟩
      · rcases hj with ⟨_, hj⟩ | ⟨_, _, hj⟩ <;> cases hj
        simp [IOp.reads, Opd.slots]
      · simp only [IOp.reads, Opd.slots, List.mem_singleton] at hs
        subst hs
        obtain ⟨v, hv, hr⟩ := hj
        rw [hx] at hv; cases hv
        exact absurd hr var_noref
  case fr k x off =>
    simp only [vop] at h
    split at h <;> first | exact h.elim | skip
    rename_i cs j o' hk hx
    cases hb : Nat.beq j k with
    | false => rw [hb] at h; exact h.elim
    | true =>
      rw [hb] at h; simp only [cond_true] at h
      refine ⟨_, h, fun cs hh => (by cases hh), fun j hj => ?_, fun s hs i hi => ?_, fun m' F' _ hF => by simp only [vop, hk, hx, hb, cond_true]; exact hF⟩
      · rcases hj with ⟨_, hj⟩ | ⟨_, _, hj⟩ <;> cases hj
        simp [IOp.reads]
      · simp only [IOp.reads, List.mem_cons, List.not_mem_nil, or_false] at hs
        obtain ⟨v, hv, hr⟩ := hi
        rcases hs with rfl | rfl
        · rw [hk] at hv; cases hv; exact absurd hr var_noref
        · rw [hx] at hv; cases hv
          rcases hr with ⟨_, hr⟩ | ⟨_, _, hr⟩ <;> cases hr
          rw [beq_ff hb]; simp [IOp.reads]
  case ia x i esz =>
    simp only [vop] at h
    split at h <;> first | exact h.elim | skip
    rename_i a len cap k i hx hi
    unfold WIdx at h
    obtain ⟨ad, h1, h2, h3⟩ := h
    exact ⟨_, h3, Det.mk (nr2 hx hi) fun m' F' _ hF => by simp only [vop, hx, hi]; exact WIdx.mk ad h1 h2 hF⟩
  case iap x i esz len =>
    simp only [vop] at h
    split at h <;> first | exact h.elim | skip
    · rename_i a k i hx hi
      have hx' : x.at e = some (.pointer (some a)) := by cases x <;> simp_all [Opd.av, Opd.at]
      unfold WBnd at h
      exact ⟨_, h.2, Det.mk (nr2 hx' hi) fun m' F' _ hF => by simp only [vop, hx, hi]; exact WBnd.mk h.1 hF⟩
    · rename_i cs k i hx hi
      split at h <;> first | exact h.elim | skip
      rename_i t
      cases hb : Nat.beq esz 1 with
      | false => rw [hb] at h; exact h.elim
      | true =>
        rw [hb] at h; simp only [cond_true] at h
        unfold WBnd at h
        have hx2 := hx
        simp only [Opd.av] at hx
        refine ⟨_, h.2, fun cs hh => (by cases hh), fun j hj => ?_, fun s hs j hj => ?_, fun m' F' _ hF => by simp only [vop, hx2, hi, hb, cond_true]; exact WBnd.mk h.1 hF⟩
        · rcases hj with ⟨_, hj⟩ | ⟨_, _, hj⟩ <;> cases hj
          simp [IOp.reads, Opd.slots]
        · simp only [IOp.reads, Opd.slots, List.mem_append, List.mem_singleton] at hs
          obtain ⟨v, hv, hr⟩ := hj
          rcases hs with rfl | hs
          · rw [hx] at hv; cases hv; exact absurd hr var_noref
          · exact absurd ⟨v, hv, hr⟩ (at_noref hi s hs j)
  case ir k x i len =>
    simp only [vop] at h
    split at h <;> first | exact h.elim | skip
    rename_i cs j o' ki i hk hx hi
    cases hb : Nat.beq j k with
    | false => rw [hb] at h; exact h.elim
    | true =>
      rw [hb] at h; simp only [cond_true] at h
      unfold WBnd at h
      refine ⟨_, h.2, fun cs hh => (by cases hh), fun j hj => ?_, fun s hs i hj => ?_, fun m' F' _ hF => by simp only [vop, hk, hx, hi, hb, cond_true]; exact WBnd.mk h.1 hF⟩
      · rcases hj with ⟨_, hj⟩ | ⟨_, _, hj⟩ <;> cases hj
        simp [IOp.reads]
      · simp only [IOp.reads, List.mem_cons] at hs
        obtain ⟨v, hv, hr⟩ := hj
        rcases hs with rfl | rfl | hs
        · rw [hk] at hv; cases hv; exact absurd hr var_noref
        · rw [hx] at hv; cases hv
          rcases hr with ⟨_, hr⟩ | ⟨_, _, hr⟩ <;> cases hr
          rw [beq_ff hb]; simp [IOp.reads]
        · exact absurd ⟨v, hv, hr⟩ (at_noref hi s hs _)
  case nc x =>
    simp only [vop] at h
    split at h <;> first | exact h.elim | skip
    all_goals
      rename_i hx
      exact ⟨_, h, Det.mk (at_noref hx) fun m' F' _ hF => by simp only [vop, hx]; exact hF⟩
  case ld x =>
    simp only [vop] at h
    split at h <;> first | exact h.elim | skip
    rename_i a hx
    unfold WLd at h
    obtain ⟨v, h1, h2⟩ := h
    exact ⟨_, h2, Det.mk (at_noref hx) fun m' F' hl hF => by simp only [vop, hx]; exact WLd.mk v (h1.mono (hl rfl)) hF⟩
  case lds x n =>
    simp only [vop] at h
    split at h <;> first | exact h.elim | skip
    rename_i a hx
    unfold WLds at h
    obtain ⟨vs, h1, h2, h3⟩ := h
    exact ⟨_, h3, Det.mk (at_noref hx) fun m' F' hl hF => by simp only [vop, hx]; exact WLds.mk vs (h2.mono (hl rfl)) h1 hF⟩
  case vld k x =>
    simp only [vop] at h
    split at h <;> first | exact h.elim | skip
    rename_i cs hk
    have hr : ∀ (q : AV), e x = some q → (∀ j, refTo q j → j = k) → ∀ s ∈ (IOp.vld k x).reads, ∀ j, refToO (e s) j → j ∈ (IOp.vld k x).reads := fun q hq hqr s hs j hj => by
      simp only [IOp.reads, List.mem_cons, List.not_mem_nil, or_false] at hs ⊢
      obtain ⟨v, hv, hr⟩ := hj
      rcases hs with rfl | rfl
      · rw [hk] at hv; cases hv; exact absurd hr var_noref
      · rw [hq] at hv; cases hv; exact .inl (hqr j hr)
    split at h <;> first | exact h.elim | skip
    · rename_i cs' hx
      cases hb : Nat.beq x k with
      | false => rw [hb] at h; exact h.elim
      | true =>
        rw [hb] at h; simp only [cond_true] at h
        split at h <;> first | exact h.elim | skip
        rename_i v r
        exact ⟨_, h, fun cs hh => (by cases hh), fun _ hh => absurd hh val_noref, hr _ hx (fun j hj => absurd hj var_noref), fun m' F' _ hF => by simp only [vop, hk, hx, hb, cond_true]; exact hF⟩
    · rename_i j off hx
      cases hb : Nat.beq j k with
      | false => rw [hb] at h; exact h.elim
      | true =>
        rw [hb] at h; simp only [cond_true] at h
        split at h <;> first | exact h.elim | skip
        rename_i v r hd
        exact ⟨_, h, fun cs hh => (by cases hh), fun _ hh => absurd hh val_noref, hr _ hx (fun j' hj => by rcases hj with ⟨_, hj⟩ | ⟨_, _, hj⟩ <;> cases hj; exact beq_ff hb), fun m' F' _ hF => by simp only [vop, hk, hx, hb, cond_true, hd]; exact hF⟩
    · rename_i j off i hx
      cases hb : Nat.beq j k with
      | false => rw [hb] at h; exact h.elim
      | true =>
        rw [hb] at h; simp only [cond_true] at h
        unfold WGet at h
        obtain ⟨v, h1, h2⟩ := h
        exact ⟨_, h2, fun cs hh => (by cases hh), fun _ hh => absurd hh val_noref, hr _ hx (fun j' hj => by rcases hj with ⟨_, hj⟩ | ⟨_, _, hj⟩ <;> cases hj; exact beq_ff hb), fun m' F' _ hF => by simp only [vop, hk, hx, hb, cond_true]; exact WGet.mk v h1 hF⟩
  case vlds k x n =>
    simp only [vop] at h
    split at h <;> first | exact h.elim | skip
    rename_i cs hk
    have hr : ∀ (q : AV), e x = some q → (∀ j, refTo q j → j = k) → ∀ s ∈ (IOp.vlds k x n).reads, ∀ j, refToO (e s) j → j ∈ (IOp.vlds k x n).reads := fun q hq hqr s hs j hj => by
      simp only [IOp.reads, List.mem_cons, List.not_mem_nil, or_false] at hs ⊢
      obtain ⟨v, hv, hr⟩ := hj
      rcases hs with rfl | rfl
      · rw [hk] at hv; cases hv; exact absurd hr var_noref
      · rw [hq] at hv; cases hv; exact .inl (hqr j hr)
    split at h <;> first | exact h.elim | skip
    · rename_i cs' hx
      cases hb : (Nat.beq x k && Nat.ble n cs.length) with
      | false => rw [hb] at h; exact h.elim
      | true =>
        rw [hb] at h; simp only [cond_true] at h
        exact ⟨_, h, fun cs hh => (by cases hh), fun _ hh => absurd hh val_noref, hr _ hx (fun j hj => absurd hj var_noref), fun m' F' _ hF => by simp only [vop, hk, hx, hb, cond_true]; exact hF⟩
    · rename_i j off hx
      cases hb : (Nat.beq j k && Nat.ble (off + n) cs.length) with
      | false => rw [hb] at h; exact h.elim
      | true =>
        have hb' := hb
        rw [Bool.and_eq_true] at hb'
        rw [hb] at h; simp only [cond_true] at h
        exact ⟨_, h, fun cs hh => (by cases hh), fun _ hh => absurd hh val_noref, hr _ hx (fun j' hj => by rcases hj with ⟨_, hj⟩ | ⟨_, _, hj⟩ <;> cases hj; exact beq_ff hb'.1), fun m' F' _ hF => by simp only [vop, hk, hx, hb, cond_true]; exact hF⟩
  case mf f ys xs =>
    simp only [vop] at h
    split at h <;> first | exact h.elim | skip
    rename_i us vs hy hx
    exact ⟨_, h, Det.mk (fun s hs => by
      simp only [IOp.reads, List.mem_append] at hs
      rcases hs with hs | hs
      · exact ats_noref hy s hs
      · exact ats_noref hx s hs) fun m' F' _ hF => by simp only [vop, hy, hx]; exact hF⟩
  case mi T x =>
    simp only [vop] at h
    split at h <;> first | exact h.elim | skip
    rename_i v hx
    exact ⟨_, h, Det.mk (at_noref hx) fun m' F' _ hF => by simp only [vop, hx]; exact hF⟩
  case sl x lo hi esz =>
    simp only [vop] at h
    split at h <;> first | exact h.elim | skip
    rename_i a len cap hx
    split at h <;> first | exact h.elim | skip
    rename_i l r hl hr
    unfold WSl at h
    exact ⟨_, h.2, Det.mk (fun s hs => by
      simp only [IOp.reads, List.mem_append] at hs
      rcases hs with (hs | hs) | hs
      · exact at_noref hx s hs
      · exact slOpd_noref hl s hs
      · exact slOpd_noref hr s hs) fun m' F' _ hF => by simp only [vop, hx, hl, hr]; exact WSl.mk h.1 hF⟩
end Go.Vx
