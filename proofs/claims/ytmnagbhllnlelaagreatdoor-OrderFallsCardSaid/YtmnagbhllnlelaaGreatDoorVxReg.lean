/- VX, part 11: regions that keep their order. -/
import Derived.Test.YtmnagbhllnlelaaGreatDoorVxMono
set_option linter.unusedSimpArgs false
set_option linter.unusedVariables false
namespace Go.Vx
open Go
variable {P : Program} {D0 : DBase} {ro : Option Nat} {m0 : Mem} {w0 : World} {N : Nat} {Q : Exit → Act → World → Prop} {ops : Array Oper} {X : List PanicEntry → Mem → Prop}

/-! What a piece may have written. -/
def refOut (mods : List (Nat × Nat)) (v : AV) : Prop := (∀ j off, v = .ref j off → inM j mods = false) ∧ (∀ j off i, v = .refi j off i → inM j mods = false)
theorem clearM_some {e : Env} {mods : List (Nat × Nat)} {t : Nat} {v : AV} : clearM e mods t = some v ↔ inM t mods = false ∧ e t = some v ∧ refOut mods v := by
  unfold clearM
  cases ht : inM t mods with
  | true => simp
  | false =>
    simp only [cond_false, true_and]
    unfold keepR refOut
    cases he : e t with
    | none => simp
    | some u =>
      cases u with
      | val x => simp only [Option.some.injEq]; exact ⟨fun h => ⟨h, fun _ _ hh => (by rw [← h] at hh; cases hh), fun _ _ _ hh => (by rw [← h] at hh; cases hh)⟩, fun h => h.1⟩
      | var x => simp only [Option.some.injEq]; exact ⟨fun h => ⟨h, fun _ _ hh => (by rw [← h] at hh; cases hh), fun _ _ _ hh => (by rw [← h] at hh; cases hh)⟩, fun h => h.1⟩
      | fresh x => simp only [Option.some.injEq]; exact ⟨fun h => ⟨h, fun _ _ hh => (by rw [← h] at hh; cases hh), fun _ _ _ hh => (by rw [← h] at hh; cases hh)⟩, fun h => h.1⟩
      | ref j off =>
        cases hj : inM j mods with
        | true =>
          simp only [hj, cond_true, Option.some.injEq]
          exact ⟨fun h => (by cases h), fun h => by have := h.2.1 j off h.1.symm; rw [hj] at this; cases this⟩
        | false =>
          simp only [hj, cond_false, Option.some.injEq]
          exact ⟨fun h => ⟨h, fun _ _ hh => (by rw [← h] at hh; cases hh; exact hj), fun _ _ _ hh => (by rw [← h] at hh; cases hh)⟩, fun h => h.1⟩
      | refi j off i =>
        cases hj : inM j mods with
        | true =>
          simp only [hj, cond_true, Option.some.injEq]
          exact ⟨fun h => (by cases h), fun h => by have := h.2.2 j off i h.1.symm; rw [hj] at this; cases this⟩
        | false =>
          simp only [hj, cond_false, Option.some.injEq]
          exact ⟨fun h => ⟨h, fun _ _ hh => (by rw [← h] at hh; cases hh), fun _ _ _ hh => (by rw [← h] at hh; cases hh; exact hj)⟩, fun h => h.1⟩
def Mod (mods : List (Nat × Nat)) (e e' : Env) : Prop := ∀ t v, clearM e mods t = some v → e' t = some v
theorem Mod.refl (mods : List (Nat × Nat)) (e : Env) : Mod mods e e := fun t v h => (clearM_some.1 h).2.1
theorem Mod.trans {mods : List (Nat × Nat)} {e e' e'' : Env} (h : Mod mods e e') (k : Mod mods e' e'') : Mod mods e e'' := fun t v hv =>
  k t v (clearM_some.2 ⟨(clearM_some.1 hv).1, h t v hv, (clearM_some.1 hv).2.2⟩)
/-- Every number of the ranges lies in a range of the others. -/
def subM (a b : List (Nat × Nat)) : Bool := a.all fun r => b.any fun s => Nat.ble s.1 r.1 && Nat.ble r.2 s.2
theorem inM_true {t : Nat} : ∀ {l : List (Nat × Nat)}, inM t l = true ↔ ∃ r ∈ l, r.1 ≤ t ∧ t ≤ r.2 := by
  intro l
  induction l with
  | nil => simp [inM]
  | cons r l ih =>
    obtain ⟨lo, hi⟩ := r
    simp only [inM, Bool.or_eq_true, Bool.and_eq_true, ih, List.mem_cons, exists_eq_or_imp]
    rw [Nat.ble_eq, Nat.ble_eq]
theorem subM_in {a b : List (Nat × Nat)} (h : subM a b = true) {t : Nat} (ht : inM t a = true) : inM t b = true := by
  obtain ⟨r, hr, h1, h2⟩ := inM_true.1 ht
  unfold subM at h
  rw [List.all_eq_true] at h
  have := h r hr
  rw [List.any_eq_true] at this
  obtain ⟨s, hs, h3⟩ := this
  rw [Bool.and_eq_true, Nat.ble_eq, Nat.ble_eq] at h3
  exact inM_true.2 ⟨s, hs, by omega, by omega⟩
theorem Mod.sub {a b : List (Nat × Nat)} (h : subM a b = true) {e e' : Env} (k : Mod a e e') : Mod b e e' := fun t v hv => by
  obtain ⟨h1, h2, h3⟩ := clearM_some.1 hv
  have out : ∀ s, inM s b = false → inM s a = false := fun s hs => by
    cases ha : inM s a with
    | false => rfl
    | true => rw [subM_in h ha] at hs; cases hs
  exact k t v (clearM_some.2 ⟨out t h1, h2, fun j off hh => out j (h3.1 j off hh), fun j off i hh => out j (h3.2 j off i hh)⟩)
def dIn (mods : List (Nat × Nat)) (d : Option Nat) : Bool := match d with | some t => inM t mods | none => true
theorem Mod.put {mods : List (Nat × Nat)} {d : Option Nat} (hd : dIn mods d = true) (e : Env) (u : AV) : Mod mods e (e.put d u) := fun t v hv => by
  obtain ⟨h1, h2, h3⟩ := clearM_some.1 hv
  cases d with
  | none => exact h2
  | some s =>
    have hts : t ≠ s := fun hh => by subst hh; rw [show inM t mods = true from hd] at h1; cases h1
    by_cases hf : ∃ cs, u = .fresh cs
    · obtain ⟨cs, rfl⟩ := hf
      rw [putFresh_other e cs hts]
      rw [h2]
      unfold dropR
      cases v with
      | ref j off =>
        have := h3.1 j off rfl
        have hne : Nat.beq j s = false := by
          cases hb : Nat.beq j s with
          | false => rfl
          | true => rw [beq_ff hb, show inM s mods = true from hd] at this; cases this
        simp only [hne, cond_false]
      | refi j off i =>
        have := h3.2 j off i rfl
        have hne : Nat.beq j s = false := by
          cases hb : Nat.beq j s with
          | false => rfl
          | true => rw [beq_ff hb, show inM s mods = true from hd] at this; cases this
        simp only [hne, cond_false]
      | val x => rfl
      | var x => rfl
      | fresh x => rfl
    · have : e.put (some s) u = e.upd s u := by cases u <;> first | rfl | (exact absurd ⟨_, rfl⟩ hf)
      rw [this, upd_other e u hts]; exact h2

theorem stepE_mono {x : E} {e : Env} {m : Mem} {K K' : Env → Mem → Prop} (h : ∀ u m', K (e.put x.d u) m' → K' (e.put x.d u) m') (hs : stepE P x e m K X) : stepE P x e m K' X := by
  unfold stepE at *
  split at hs
  · exact vop_mono (fun u m' => splitF_mono fun u => h u m') hs
  · split at hs <;> first | exact hs.elim | skip
    · rename_i s want b hb
      split at hs
      · exact vop_mono (fun u m' => splitF_mono fun u => h u m') hs
      · exact vop_mono (fun u m' => splitF_mono fun u => h u m') hs
      · exact h _ _ hs
    · exact h _ _ hs
theorem runI_mono : ∀ {l : List E} {e : Env} {m : Mem} {K K' : Env → Mem → Prop}, (∀ e m, K e m → K' e m) → runI P X l K e m → runI P X l K' e m := by
  intro l
  induction l with
  | nil => intro e m K K' h hr; exact h _ _ hr
  | cons x l ih => intro e m K K' h hr; exact stepE_mono (fun u m' hk => ih h hk) hr
theorem runI_mod {mods : List (Nat × Nat)} : ∀ {l : List E} {e : Env} {m : Mem} {K : Env → Mem → Prop}, (l.all fun x => dIn mods x.d) = true → runI P X l K e m → runI P X l (fun e' m' => K e' m' ∧ Mod mods e e') e m := by
  intro l
  induction l with
  | nil => intro e m K _ hr; exact ⟨hr, Mod.refl _ _⟩
  | cons x l ih =>
    intro e m K hl hr
    rw [List.all_cons, Bool.and_eq_true] at hl
    exact stepE_mono (fun u m' hk => runI_mono (fun e' m'' hh => ⟨hh.1, (Mod.put hl.1 e u).trans hh.2⟩) (ih hl.2 hk)) hr
def RG.within (mods : List (Nat × Nat)) : RG → Bool
  | .nil => true
  | .run l r => (l.all fun x => dIn mods x.d) && r.within mods
  | .sc _ _ ms _ d _ r => subM ms mods && inM d mods && r.within mods
theorem opsI_mono : ∀ {g : RG} {e : Env} {m : Mem} {K K' : Env → Mem → Prop}, (∀ e m, K e m → K' e m) → opsI P X g K e m → opsI P X g K' e m := by
  intro g
  induction g with
  | nil => intro e m K K' h hr; exact h _ _ hr
  | run l r ih => intro e m K K' h hr; exact runI_mono (fun e' m' hh => ih h hh) hr
  | sc s want ms body d y r _ ih =>
    intro e m K K' h hr
    simp only [opsI] at hr ⊢
    split at hr <;> first | exact hr.elim | skip
    unfold WSc at hr ⊢
    obtain ⟨v, h1, h2⟩ := hr
    exact ⟨v, h1, ih h h2⟩
theorem opsI_mod {mods : List (Nat × Nat)} : ∀ {g : RG} {e : Env} {m : Mem} {K : Env → Mem → Prop}, g.within mods = true → opsI P X g K e m → opsI P X g (fun e' m' => K e' m' ∧ Mod mods e e') e m := by
  intro g
  induction g with
  | nil => intro e m K _ hr; exact ⟨hr, Mod.refl _ _⟩
  | run l r ih =>
    intro e m K hw hr
    simp only [RG.within, Bool.and_eq_true] at hw
    exact runI_mono (fun e' m' hh => opsI_mono (fun e'' m'' hk => ⟨hk.1, hh.2.trans hk.2⟩) (ih hw.2 hh.1)) (runI_mod hw.1 hr)
  | sc s want ms body d y r _ ih =>
    intro e m K hw hr
    simp only [RG.within, Bool.and_eq_true] at hw
    simp only [opsI] at hr ⊢
    split at hr <;> first | exact hr.elim | skip
    unfold WSc at hr ⊢
    obtain ⟨v, h1, h2⟩ := hr
    refine ⟨v, h1, opsI_mono (fun e' m' hk => ⟨hk.1, Mod.trans ?_ hk.2⟩) (ih hw.2 h2)⟩
    intro t u hu
    obtain ⟨g1, g2, g3⟩ := clearM_some.1 hu
    have hne : t ≠ d := fun hh => by subst hh; rw [hw.1.2] at g1; cases g1
    rw [upd_other _ _ hne]
    have out : ∀ s, inM s mods = false → inM s ms = false := fun s hs => by
      cases ha : inM s ms with
      | false => rfl
      | true => rw [subM_in hw.1.1 ha] at hs; cases hs
    exact clearM_some.2 ⟨out t g1, g2, fun j off hh => out j (g3.1 j off hh), fun j off i hh => out j (g3.2 j off i hh)⟩
end Go.Vx
