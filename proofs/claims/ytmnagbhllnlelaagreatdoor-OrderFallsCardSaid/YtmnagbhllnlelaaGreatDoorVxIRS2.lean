/- VX, part 17: whole bodies: what is asked of the form is a weakest precondition of the body. -/
import Derived.Test.YtmnagbhllnlelaaGreatDoorVxFast
import Derived.Deep.LoopGhost
set_option linter.unusedSimpArgs false
set_option linter.unusedVariables false
namespace Go.Vx
open Go
variable {P : Program} {D0 : DBase} {ro : Option Nat} {m0 : Mem} {w0 : World} {N : Nat}

def IR.within (mods : List (Nat × Nat)) : IR → Bool
  | .skip | .ret | .exit _ => true
  | .ops g => g.within mods
  | .tree l _ => l.all fun x => dIn mods x.d
  | .seq a b => a.within mods && b.within mods
  | .seqj ms a b => subM ms mods && a.within ms && b.within mods
  | .cond _ a b => a.within mods && b.within mods
  | .block _ a => a.within mods
  | .loop ms a => subM ms mods && a.within ms
  | .rf _ _ _ _ => true
def IR.okW : IR → Bool
  | .skip | .ret | .exit _ | .ops _ | .tree _ _ => true
  | .seq a b => a.okW && b.okW
  | .seqj ms a b => a.within ms && a.okW && b.okW
  | .cond _ a b => a.okW && b.okW
  | .block _ a => a.okW
  | .loop ms a => a.within ms && a.okW
  | .rf _ _ a b => a.okW && b.okW
theorem treeI_mono {l : List E} {X : List PanicEntry → Mem → Prop} : ∀ {t : RT} {e : Env} {m : Mem} {K K' : Env → Mem → Prop}, (∀ e m, K e m → K' e m) → treeI P l K X t e m → treeI P l K' X t e m := by
  intro t
  induction t with
  | nil => intro e m K K' h ht; exact h _ _ ht
  | done => intro e m K K' h ht; exact trivial
  | pure i t ih =>
    intro e m K K' h ht
    simp only [treeI] at ht ⊢
    split at ht <;> first | exact ht.elim | skip
    exact stepE_mono (fun u m' hk => ih h hk) ht
  | alt i t more iht ihm =>
    intro e m K K' h ht
    simp only [treeI] at ht ⊢
    refine ⟨?_, ihm h ht.2⟩
    have h1 := ht.1
    split at h1 <;> first | exact h1.elim | skip
    exact stepE_mono (fun u m' hk => iht h hk) h1
theorem treeI_mod {mods : List (Nat × Nat)} {l : List E} {X : List PanicEntry → Mem → Prop} (hl : (l.all fun x => dIn mods x.d) = true) : ∀ {t : RT} {e : Env} {m : Mem} {K : Env → Mem → Prop}, treeI P l K X t e m → treeI P l (fun e' m' => K e' m' ∧ Mod mods e e') X t e m := by
  rw [List.all_eq_true] at hl
  intro t
  induction t with
  | nil => intro e m K ht; exact ⟨ht, Mod.refl _ _⟩
  | done => intro e m K ht; exact trivial
  | pure i t ih =>
    intro e m K ht
    simp only [treeI] at ht ⊢
    split at ht <;> first | exact ht.elim | skip
    rename_i x hx
    exact stepE_mono (fun u m' hk => treeI_mono (fun e' m'' hh => ⟨hh.1, (Mod.put (hl x (List.mem_of_getElem? hx)) e u).trans hh.2⟩) (ih hk)) ht
  | alt i t more iht ihm =>
    intro e m K ht
    simp only [treeI] at ht ⊢
    refine ⟨?_, ihm ht.2⟩
    have h1 := ht.1
    split at h1 <;> first | exact h1.elim | skip
    rename_i x hx
    exact stepE_mono (fun u m' hk => treeI_mono (fun e' m'' hh => ⟨hh.1, (Mod.put (hl x (List.mem_of_getElem? hx)) e u).trans hh.2⟩) (iht hk)) h1
theorem vop_monoX {x : IOp} {e : Env} {m : Mem} {F : AV → Mem → Prop} {X X' : List PanicEntry → Mem → Prop} (h : ∀ c m', X c m' → X' c m') (hv : vop P x e m F X) : vop P x e m F X' := by
  cases x <;> first | exact hv | skip
  all_goals simp only [vop] at hv ⊢
  all_goals
    split at hv <;> first | exact hv.elim | skip
    all_goals first
      | exact h _ _ hv
      | (unfold WYield at hv ⊢; obtain ⟨R, h1, h2⟩ := hv; exact ⟨R, h1, fun e m' hr => by have := h2 e m' hr; cases e <;> first | exact this | exact h _ _ this⟩)
      | (unfold WCall at hv ⊢; obtain ⟨R, h1, h2⟩ := hv; exact ⟨R, h1, fun e m' hr => by have := h2 e m' hr; cases e <;> first | exact this | exact h _ _ this⟩)
      | (unfold WCallG at hv ⊢; obtain ⟨R, h1, h2⟩ := hv; exact ⟨R, h1, fun e m' hr => by have := h2 e m' hr; cases e <;> first | exact this | exact h _ _ this⟩)
theorem stepE_monoX {x : E} {e : Env} {m : Mem} {K : Env → Mem → Prop} {X X' : List PanicEntry → Mem → Prop} (h : ∀ c m', X c m' → X' c m') (hs : stepE P x e m K X) : stepE P x e m K X' := by
  unfold stepE at *
  split at hs
  · exact vop_monoX h hs
  · split at hs <;> first | exact hs.elim | skip
    · split at hs <;> first | exact vop_monoX h hs | exact hs
    · exact hs
theorem runI_monoX {X X' : List PanicEntry → Mem → Prop} (h : ∀ c m', X c m' → X' c m') : ∀ {l : List E} {e : Env} {m : Mem} {K : Env → Mem → Prop}, runI P X l K e m → runI P X' l K e m := by
  intro l
  induction l with
  | nil => intro e m K hr; exact hr
  | cons x l ih => intro e m K hr; exact stepE_monoX h (stepE_mono (fun u m' hk => ih hk) hr)
theorem opsI_monoX {X X' : List PanicEntry → Mem → Prop} (h : ∀ c m', X c m' → X' c m') : ∀ {g : RG} {e : Env} {m : Mem} {K : Env → Mem → Prop}, opsI P X g K e m → opsI P X' g K e m := by
  intro g
  induction g with
  | nil => intro e m K hr; exact hr
  | run l r ih => intro e m K hr; exact runI_monoX h (runI_mono (fun e m hk => ih hk) hr)
  | sc s want ms body d y r ihb ih =>
    intro e m K hr
    simp only [opsI] at hr ⊢
    split at hr <;> first | exact hr.elim | skip
    unfold WSc at hr ⊢
    obtain ⟨v, h1, h2⟩ := hr
    exact ⟨v, fun hc => ihb (h1 hc), ih h2⟩
theorem treeI_monoX {l : List E} {X X' : List PanicEntry → Mem → Prop} (h : ∀ c m', X c m' → X' c m') : ∀ {t : RT} {e : Env} {m : Mem} {K : Env → Mem → Prop}, treeI P l K X t e m → treeI P l K X' t e m := by
  intro t
  induction t with
  | nil => intro e m K ht; exact ht
  | done => intro e m K ht; exact trivial
  | pure i t ih =>
    intro e m K ht
    simp only [treeI] at ht ⊢
    split at ht <;> first | exact ht.elim | skip
    exact stepE_monoX h (stepE_mono (fun u m' hk => ih hk) ht)
  | alt i t more iht ihm =>
    intro e m K ht
    simp only [treeI] at ht ⊢
    refine ⟨?_, ihm ht.2⟩
    have h1 := ht.1
    split at h1 <;> first | exact h1.elim | skip
    exact stepE_monoX h (stepE_mono (fun u m' hk => iht hk) h1)
theorem thenE_mono {J J' : Env → Mem → Prop} {Q Q' : Post} (hJ : ∀ e m, J e m → J' e m) (hQ : ∀ x e m, Q x e m → Q' x e m) : ∀ x e m, thenE J Q x e m → thenE J' Q' x e m := by
  intro x e m h; cases x <;> first | exact hJ _ _ h | exact hQ _ _ _ h
theorem blockE_mono {id : Nat} {Q Q' : Post} (hQ : ∀ x e m, Q x e m → Q' x e m) : ∀ x e m, blockE id Q x e m → blockE id Q' x e m := by
  intro x e m h
  cases x with
  | exit j =>
    simp only [blockE] at h ⊢
    cases hb : Nat.beq j id with
    | true => rw [hb] at h; exact hQ _ _ _ h
    | false => rw [hb] at h; exact hQ _ _ _ h
  | normal => exact hQ _ _ _ h
  | goto l => exact hQ _ _ _ h
  | ret => exact hQ _ _ _ h
  | panic ch => exact hQ _ _ _ h
  | outgrown => exact hQ _ _ _ h
theorem wpI_mono : ∀ {c : IR} {e : Env} {m : Mem} {Q Q' : Post}, (∀ x e m, Q x e m → Q' x e m) → wpI P c Q e m → wpI P c Q' e m := by
  intro c
  induction c with
  | skip => intro e m Q Q' h hw; exact h _ _ _ hw
  | ret => intro e m Q Q' h hw; exact h _ _ _ hw
  | exit id => intro e m Q Q' h hw; exact h _ _ _ hw
  | ops g => intro e m Q Q' h hw; exact opsI_monoX (fun c m' => h _ _ _) (opsI_mono (h _) hw)
  | tree l t => intro e m Q Q' h hw; exact treeI_monoX (fun c m' => h _ _ _) (treeI_mono (h _) hw)
  | seq a b iha ihb => intro e m Q Q' h hw; exact iha (thenE_mono (fun e m hk => ihb h hk) h) hw
  | seqj ms a b iha ihb =>
    intro e m Q Q' h hw
    simp only [wpI] at hw ⊢
    unfold WJoin at hw ⊢
    obtain ⟨σ, vals, inv, h1, h2⟩ := hw
    exact ⟨σ, vals, inv, iha (thenE_mono (fun e m hk => hk) h) h1, fun s m' hi => ihb h (h2 s m' hi)⟩
  | cond c a b iha ihb =>
    intro e m Q Q' h hw
    simp only [wpI] at hw ⊢
    split at hw
    · split at hw <;> first | exact hw.elim | exact Br.mono (iha h) (ihb h) hw
    · exact iha h hw
    · exact ihb h hw
    · exact hw.elim
  | block id a ih => intro e m Q Q' h hw; exact ih (blockE_mono h) hw
  | loop ms a ih =>
    intro e m Q Q' h hw
    simp only [wpI] at hw ⊢
    unfold WLoop at hw ⊢
    obtain ⟨σ, vals, inv, μ, s0, h1, h2, h3⟩ := hw
    exact ⟨σ, vals, inv, μ, s0, h1, h2, fun s m' hi => ih (thenE_mono (fun e m hk => hk) h) (h3 s m' hi)⟩
  | rf g ps a b _ _ =>
    intro e m Q Q' h hw
    simp only [wpI] at hw ⊢
    unfold WRf at hw ⊢
    obtain ⟨f, first, caps, h1, h2⟩ := hw
    refine ⟨f, first, caps, h1, fun b r hb hs hp hy => ?_⟩
    obtain ⟨R, h3, h4⟩ := h2 b r hb hs hp hy
    exact ⟨R, h3, fun e' m' hr => by have := h4 e' m' hr; cases e' <;> first | exact ⟨this.1, h _ _ _ this.2⟩ | exact h _ _ _ this | exact this⟩
theorem Mod.over (e : Env) (ms : List (Nat × Nat)) (l : List (Nat × AV)) : Mod ms e (over e ms l) := fun t v hv => by
  have h1 := (clearM_some.1 hv).1
  unfold clearM at hv
  unfold Go.Vx.over
  rw [h1] at hv ⊢
  exact hv
theorem Mod.none {ms : List (Nat × Nat)} {e : Env} (h : ∀ t v, clearM e ms t = some v → False) (e' : Env) : Mod ms e e' := fun t v hv => (h t v hv).elim
/-- Whatever a piece leaves by, it has written its slots alone (a panic tells nothing of the slots). -/
def ModQ (mods : List (Nat × Nat)) (e : Env) (Q : Post) : Post := fun x e' m' => Q x e' m' ∧ ((∃ ch, x = .panic ch) ∨ Mod mods e e')
theorem wpI_mod : ∀ {c : IR} {mods : List (Nat × Nat)} {e : Env} {m : Mem} {Q : Post}, c.within mods = true → wpI P c Q e m → wpI P c (ModQ mods e Q) e m := by
  intro c
  induction c with
  | skip => intro mods e m Q _ hw; exact ⟨hw, .inr (Mod.refl _ _)⟩
  | ret => intro mods e m Q _ hw; exact ⟨hw, .inr (Mod.refl _ _)⟩
  | exit id => intro mods e m Q _ hw; exact ⟨hw, .inr (Mod.refl _ _)⟩
  | ops g => intro mods e m Q hwi hw; exact opsI_monoX (fun c m' hh => ⟨hh, .inl ⟨_, rfl⟩⟩) (opsI_mono (fun e' m' hh => ⟨hh.1, .inr hh.2⟩) (opsI_mod hwi hw))
  | tree l t => intro mods e m Q hwi hw; exact treeI_monoX (fun c m' hh => ⟨hh, .inl ⟨_, rfl⟩⟩) (treeI_mono (fun e' m' hh => ⟨hh.1, .inr hh.2⟩) (treeI_mod hwi hw))
  | seq a b iha ihb =>
    intro mods e m Q hwi hw
    simp only [IR.within, Bool.and_eq_true] at hwi
    show wpI P a _ e m
    refine wpI_mono (fun x e' m' hh => ?_) (iha hwi.1 hw)
    obtain ⟨h1, h2⟩ := hh
    cases x with
    | normal =>
      rcases h2 with ⟨_, h2⟩ | h2
      · cases h2
      · refine wpI_mono (fun x e'' m'' hk => ⟨hk.1, hk.2.imp id fun hm => h2.trans hm⟩) (ihb hwi.2 h1)
    | exit j => exact ⟨h1, h2⟩
    | goto l => exact ⟨h1, h2⟩
    | ret => exact ⟨h1, h2⟩
    | panic ch => exact ⟨h1, h2⟩
    | outgrown => exact ⟨h1, h2⟩
  | seqj ms a b iha ihb =>
    intro mods e m Q hwi hw
    simp only [IR.within, Bool.and_eq_true] at hwi
    simp only [wpI] at hw ⊢
    unfold WJoin at hw ⊢
    obtain ⟨σ, vals, inv, h1, h2⟩ := hw
    refine ⟨σ, vals, inv, ?_, fun s m' hi => ?_⟩
    · refine wpI_mono (fun x e' m' hh => ?_) (iha hwi.1.2 h1)
      obtain ⟨g1, g2⟩ := hh
      cases x with
      | normal => exact g1
      | exit j => exact ⟨g1, g2.imp id fun hm => hm.sub hwi.1.1⟩
      | goto l => exact ⟨g1, g2.imp id fun hm => hm.sub hwi.1.1⟩
      | ret => exact ⟨g1, g2.imp id fun hm => hm.sub hwi.1.1⟩
      | panic ch => exact ⟨g1, g2.imp id fun hm => hm.sub hwi.1.1⟩
      | outgrown => exact ⟨g1, g2.imp id fun hm => hm.sub hwi.1.1⟩
    · exact wpI_mono (fun x e'' m'' hk => ⟨hk.1, hk.2.imp id fun hm => ((Mod.over e ms (vals s)).sub hwi.1.1).trans hm⟩) (ihb hwi.2 (h2 s m' hi))
  | cond c a b iha ihb =>
    intro mods e m Q hwi hw
    simp only [IR.within, Bool.and_eq_true] at hwi
    simp only [wpI] at hw ⊢
    split at hw
    · rename_i n
      split at hw <;> first | exact hw.elim | skip
      rename_i c hc
      have same : ∀ b : Bool, c = b → e.upd n (.val (.bool b)) = e := fun b hb => by
        subst hb
        funext s
        by_cases hs : s = n
        · subst hs; rw [upd_same]; exact hc.symm
        · rw [upd_other _ _ hs]
      unfold Br at hw ⊢
      cases c with
      | true => rw [same true rfl] at hw ⊢; exact iha hwi.1 hw
      | false => rw [same false rfl] at hw ⊢; exact ihb hwi.2 hw
    · exact iha hwi.1 hw
    · exact ihb hwi.2 hw
    · exact hw.elim
  | block id a ih =>
    intro mods e m Q hwi hw
    simp only [IR.within] at hwi
    show wpI P a _ e m
    refine wpI_mono (fun x e' m' hh => ?_) (ih hwi hw)
    obtain ⟨h1, h2⟩ := hh
    cases x with
    | exit j =>
      simp only [blockE] at h1 ⊢
      cases hb : Nat.beq j id with
      | true => rw [hb] at h1; exact ⟨h1, h2.imp (fun hh => by obtain ⟨_, hh⟩ := hh; cases hh) (fun hh => hh)⟩
      | false => rw [hb] at h1; exact ⟨h1, h2⟩
    | normal => exact ⟨h1, h2⟩
    | goto l => exact ⟨h1, h2⟩
    | ret => exact ⟨h1, h2⟩
    | panic ch => exact ⟨h1, h2⟩
    | outgrown => exact ⟨h1, h2⟩
  | loop ms a ih =>
    intro mods e m Q hwi hw
    simp only [IR.within, Bool.and_eq_true] at hwi
    simp only [wpI] at hw ⊢
    unfold WLoop at hw ⊢
    obtain ⟨σ, vals, inv, μ, s0, h1, h2, h3⟩ := hw
    refine ⟨σ, vals, inv, μ, s0, h1, h2, fun s m' hi => ?_⟩
    refine wpI_mono (fun x e' m' hh => ?_) (ih hwi.2 (h3 s m' hi))
    obtain ⟨g1, g2⟩ := hh
    have up : Mod ms (Go.Vx.over e ms (vals s)) e' → Mod mods e e' := fun hm => ((Mod.over e ms (vals s)).trans hm).sub hwi.1
    cases x with
    | normal => exact g1
    | exit j => exact ⟨g1, g2.imp id up⟩
    | goto l => exact ⟨g1, g2.imp id up⟩
    | ret => exact ⟨g1, g2.imp id up⟩
    | panic ch => exact ⟨g1, g2.imp id up⟩
    | outgrown => exact ⟨g1, g2.imp id up⟩
  | rf g ps a b _ _ =>
    intro mods e m Q hwi hw
    simp only [wpI] at hw ⊢
    unfold WRf at hw ⊢
    obtain ⟨f, first, caps, h1, h2⟩ := hw
    refine ⟨f, first, caps, h1, fun b r hb hs hp hy => ?_⟩
    obtain ⟨R, h3, h4⟩ := h2 b r hb hs hp hy
    exact ⟨R, h3, fun e' m' hr => by have := h4 e' m' hr; cases e' <;> first | exact ⟨this.1, this.2, .inr (Mod.refl _ _)⟩ | exact ⟨this, .inl ⟨_, rfl⟩⟩ | exact this⟩
end Go.Vx
