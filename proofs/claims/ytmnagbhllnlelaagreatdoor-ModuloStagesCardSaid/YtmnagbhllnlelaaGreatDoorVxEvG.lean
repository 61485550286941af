/- VX, evaluator, part 7: regions that keep their order. -/
import Derived.Test.YtmnagbhllnlelaaGreatDoorVxEvF
set_option linter.unusedSimpArgs false
set_option linter.unusedVariables false
namespace Go.Vx.Ev
open Go Go.Vx
variable {gl : List Nat} {μ : Mem} {G : Ghost} {x : Cx} {t : St} {m : Mem} {c e : Env} {P : Program}

def beqB (a b : Bool) : Bool := match a, b with | true, true => true | false, false => true | _, _ => false
theorem beqB_ne {a b : Bool} (h : beqB a b = false) : a ≠ b := fun e => by subst e; cases a <;> cases h
def evOps (call : CallEv) (gl : List Nat) : Cx → RG → Env → St → Nat → Option (Env × St × Nat)
  | _, .nil, c, t, nx => some (c, t, nx)
  | x, .run l r, c, t, nx => match evRun call gl x l c t nx with | some (c', t', nx') => evOps call gl x r c' t' nx' | none => none
  | x, .sc s want mods body d y r, c, t, nx => match c s with
    | some (.val (.bool b)) =>
      match (match beqB b want with
        | true => (match evOps call gl ⟨[], t :: (x.wr ++ x.ro)⟩ body c .lf nx with | some (c', _, _) => (match cat gl y c' with | some (.bool v) => some v | _ => none) | none => none)
        | false => some false) with
      | some v => evOps call gl x r ((clearM c mods).upd d (.val (.bool (scB b want v)))) t nx
      | none => none
    | _ => none
theorem evOps_sound {call : CallEv} (hc : CallOK P gl call) {X : List PanicEntry → Mem → Prop} : ∀ {g : RG} {μ : Mem} {x : Cx} {nx nx' : Nat} {c c' e : Env} {t t' : St} {G : Ghost} {m : Mem} {K : Env → Mem → Prop}, evOps call gl x g c t nx = some (c', t', nx') → Inv P gl μ G x t m → RE G c e →
    (∀ G' e' m', Ghost.le G G' → Inv P gl μ G' x t' m' → RE G' c' e' → K e' m') → opsI P X g K e m := by
  intro g
  induction g with
  | nil => intro μ x nx nx' c c' e t t' G m K hp hI hE hK; cases hp; exact hK G e m (Ghost.le.refl G) hI hE
  | run l r ih =>
    intro μ x nx nx' c c' e t t' G m K hp hI hE hK
    simp only [evOps] at hp
    split at hp <;> try (cases hp; done)
    rename_i c1 t1 nx1 h1
    simp only [opsI]
    exact evRun_sound hc h1 hI hE fun G1 e1 m1 g1 g2 g3 => ih hp g2 g3 fun G2 e2 m2 k1 k2 k3 => hK G2 e2 m2 (g1.trans k1) k2 k3
  | sc s want mods body d y r ihb ihr =>
    intro μ x nx nx' c c' e t t' G m K hp hI hE hK
    simp only [evOps] at hp
    split at hp <;> try (cases hp; done)
    rename_i b hb
    obtain ⟨v, v1, w, v2, rfl⟩ := hE _ _ hb
    cases v2.bool
    simp only [opsI, v1]
    split at hp <;> try (cases hp; done)
    rename_i v hv
    refine WSc.mk (v := v) (fun hbw => ?_) (ihr hp hI ((hE.clear mods).upd d ⟨_, RV.bool', rfl⟩) hK)
    split at hv
    · split at hv <;> try (cases hv; done)
      rename_i c1 t1 nx1 h1
      split at hv <;> try (cases hv; done)
      rename_i v' hy; cases hv
      refine ihb h1 hI.enter hE fun G' e' m' _ q g => ⟨q.low, ?_⟩
      obtain ⟨w, w1, w2⟩ := cat_at q.glob g hy
      cases w2.bool; exact w1
    · rename_i hbq; exact absurd hbw (beqB_ne hbq)
end Go.Vx.Ev
