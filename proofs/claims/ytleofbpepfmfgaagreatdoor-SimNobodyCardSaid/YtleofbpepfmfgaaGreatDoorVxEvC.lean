/- VX, evaluator, part 3: the store of labels, and the operations that read and write it. -/
import Derived.Test.YtleofbpepfmfgaaGreatDoorVxEvB
set_option linter.unusedSimpArgs false
set_option linter.unusedVariables false
namespace Go.Vx.Ev
open Go Go.Vx

inductive Ob where
  | dead
  | bl (cs : List Value) (T sz : Nat)
abbrev St := Tr Ob
def getL : List St → Nat → Option Ob
  | [], _ => none
  | t :: ts, k => match t.get k with | some o => some o | none => getL ts k
/-- Stores below the one that is at work: those that may be written, and the others. -/
structure Cx where
  wr : List St
  ro : List St
def Cx.get (x : Cx) (t : St) (k : Nat) : Option Ob := match t.get k with | some o => some o | none => (match getL x.wr k with | some o => some o | none => getL x.ro k)
def Cx.own (x : Cx) (t : St) (k : Nat) : Bool := match t.get k with | some _ => true | none => (match getL x.wr k with | some _ => true | none => false)
def kok (k : Nat) : Bool := Nat.ble (k + 2) 1099511627776
abbrev St.put (t : St) (k : Nat) (o : Ob) : St := Tr.set o 40 t k
theorem kok_lt {k : Nat} (h : kok k = true) : k + 1 < 2 ^ 40 := by have := Nat.le_of_ble_eq_true h; omega
theorem get_put (x : Cx) (t : St) {k : Nat} (hk : kok k = true) (o : Ob) (j : Nat) : x.get (t.put k o) j = if j = k then some o else x.get t j := by
  by_cases e : j = k
  · subst e; rw [if_pos rfl]; unfold Cx.get; rw [Tr.get_set_eq _ _ _ _ (kok_lt hk)]
  · rw [if_neg e]; unfold Cx.get; rw [Tr.get_set_ne _ _ _ _ _ e]
theorem own_put (x : Cx) (t : St) {k : Nat} (hk : kok k = true) (o : Ob) (j : Nat) : x.own (t.put k o) j = if j = k then true else x.own t j := by
  by_cases e : j = k
  · subst e; rw [if_pos rfl]; unfold Cx.own; rw [Tr.get_set_eq _ _ _ _ (kok_lt hk)]
  · rw [if_neg e]; unfold Cx.own; rw [Tr.get_set_ne _ _ _ _ _ e]
theorem own_get {x : Cx} {t : St} {k : Nat} (h : x.own t k = true) : x.get t k ≠ none := by
  unfold Cx.own at h; unfold Cx.get
  cases h1 : t.get k with
  | some o => simp
  | none => rw [h1] at h; simp only at h ⊢; cases h2 : getL x.wr k with
    | some o => simp
    | none => rw [h2] at h; cases h

structure Inv (gl : List Nat) (μ : Mem) (G : Ghost) (x : Cx) (t : St) (m : Mem) : Prop where
  glob : GOK gl G
  dom : ∀ k, x.get t k = none ↔ G k = none
  blk : ∀ k cs T sz, x.get t k = some (.bl cs T sz) → ∃ b L l fr, G k = some (b, sz, L) ∧ m b = some (.cells ⟨l⟩ T fr) ∧ (x.own t k = true → fr = (0, 0)) ∧ l.length = L ∧ ∃ l1 rest, RVL G cs l1 ∧ l = l1 ++ rest
  inj : ∀ k k' cs T sz cs' T' sz' b s1 L1 s2 L2, x.get t k = some (.bl cs T sz) → x.get t k' = some (.bl cs' T' sz') → G k = some (b, s1, L1) → G k' = some (b, s2, L2) → k = k'
  low : Mem.le μ m
  own : ∀ k b s L, x.own t k = true → G k = some (b, s, L) → μ b = none

variable {gl : List Nat} {μ : Mem} {G : Ghost} {x : Cx} {t : St} {m : Mem} {c e : Env}

theorem Inv.kill (h : Inv gl μ G x t m) {k : Nat} (hk : kok k = true) (ho : x.own t k = true) : Inv gl μ G x (t.put k .dead) m := by
  refine ⟨h.glob, fun j => ?_, fun j cs T sz hj => ?_, fun j j' cs T sz cs' T' sz' b s1 L1 s2 L2 hj hj' g g' => ?_, h.low, fun j b s L hj g => ?_⟩
  · rw [get_put x t hk]
    by_cases e : j = k
    · subst e; rw [if_pos rfl]
      have := own_get ho
      constructor
      · intro hh; cases hh
      · intro hh; exact absurd ((h.dom j).2 hh) this
    · rw [if_neg e]; exact h.dom j
  · rw [get_put x t hk] at hj
    by_cases e : j = k
    · rw [if_pos e] at hj; cases hj
    · rw [if_neg e] at hj
      obtain ⟨b, L, l, fr, h1, h2, h3, h4⟩ := h.blk j cs T sz hj
      exact ⟨b, L, l, fr, h1, h2, fun hh => h3 (by rw [own_put x t hk, if_neg e] at hh; exact hh), h4⟩
  · rw [get_put x t hk] at hj hj'
    by_cases e : j = k
    · rw [if_pos e] at hj; cases hj
    · by_cases e' : j' = k
      · rw [if_pos e'] at hj'; cases hj'
      · rw [if_neg e] at hj; rw [if_neg e'] at hj'; exact h.inj _ _ _ _ _ _ _ _ _ _ _ _ _ hj hj' g g'
  · rw [own_put x t hk] at hj
    by_cases e : j = k
    · subst e; exact h.own _ b s L ho g
    · rw [if_neg e] at hj; exact h.own j b s L hj g
/-- A label more, for a block that no live label has. -/
theorem Inv.add (h : Inv gl μ G x t m) {n b T sz : Nat} {cs l l1 rest : List Value} (hk : kok n = true) (hn : x.get t n = none) (hμ : μ b = none)
    (hb : ∀ k cs T sz s L, x.get t k = some (.bl cs T sz) → G k ≠ some (b, s, L)) (hc : RVL G cs l1) (hl : l = l1 ++ rest) :
    Ghost.le G (fun k => if k = n then some (b, sz, l.length) else G k) ∧ Inv gl μ (fun k => if k = n then some (b, sz, l.length) else G k) x (t.put n (.bl cs T sz)) (m.set b (Cells l T)) := by
  have hGn : G n = none := (h.dom n).1 hn
  have hle : Ghost.le G (fun k => if k = n then some (b, sz, l.length) else G k) := fun k y hy => by
    by_cases e : k = n
    · subst e; rw [hGn] at hy; cases hy
    · simp only [if_neg e]; exact hy
  refine ⟨hle, h.glob.mono hle, fun j => ?_, fun j cs' T' sz' hj => ?_, fun j j' cs1 T1 sz1 cs' T' sz' b' s1 L1 s2 L2 hj hj' g g' => ?_, fun b' o hb' => ?_, fun j b' s L hj g => ?_⟩
  · rw [get_put x t hk]
    by_cases e : j = n
    · simp [e]
    · simp only [if_neg e]; exact h.dom j
  · rw [get_put x t hk] at hj
    by_cases e : j = n
    · rw [if_pos e] at hj; cases hj
      exact ⟨b, l.length, l, (0, 0), by simp [e], Mem.set_same _ _ _, fun _ => rfl, rfl, l1, rest, hc.mono hle _ _, hl⟩
    · rw [if_neg e] at hj
      obtain ⟨b', L, l', fr, h1, h2, h3, h4, l1', rest', h5, h6⟩ := h.blk j cs' T' sz' hj
      have hne : b' ≠ b := fun hh => by subst hh; exact hb j _ _ _ _ _ hj h1
      exact ⟨b', L, l', fr, by simp only [if_neg e]; exact h1, by rw [Mem.set_other _ _ hne]; exact h2, fun hh => h3 (by rw [own_put x t hk, if_neg e] at hh; exact hh), h4, l1', rest', h5.mono hle _ _, h6⟩
  · rw [get_put x t hk] at hj hj'
    by_cases e : j = n
    · by_cases e' : j' = n
      · rw [e, e']
      · rw [if_neg e'] at hj'
        simp only [if_pos e, Option.some.injEq, Prod.mk.injEq] at g
        simp only [if_neg e'] at g'
        rw [← g.1] at g'
        exact absurd g' (hb j' _ _ _ _ _ hj')
    · rw [if_neg e] at hj
      simp only [if_neg e] at g
      by_cases e' : j' = n
      · simp only [if_pos e', Option.some.injEq, Prod.mk.injEq] at g'
        rw [← g'.1] at g
        exact absurd g (hb j _ _ _ _ _ hj)
      · rw [if_neg e'] at hj'
        simp only [if_neg e'] at g'
        exact h.inj _ _ _ _ _ _ _ _ _ _ _ _ _ hj hj' g g'
  · by_cases e : b' = b
    · subst e; rw [hμ] at hb'; cases hb'
    · rw [Mem.set_other _ _ e]; exact h.low b' o hb'
  · rw [own_put x t hk] at hj
    by_cases e : j = n
    · simp only [if_pos e, Option.some.injEq, Prod.mk.injEq] at g
      rw [← g.1]; exact hμ
    · rw [if_neg e] at hj; simp only [if_neg e] at g; exact h.own j b' s L hj g
theorem Inv.new (h : Inv gl μ G x t m) {n b T sz : Nat} {cs l l1 rest : List Value} (hk : kok n = true) (hn : x.get t n = none) (hb : m b = none) (hc : RVL G cs l1) (hl : l = l1 ++ rest) :
    Ghost.le G (fun k => if k = n then some (b, sz, l.length) else G k) ∧ Inv gl μ (fun k => if k = n then some (b, sz, l.length) else G k) x (t.put n (.bl cs T sz)) (m.set b (Cells l T)) :=
  h.add hk hn (by cases hh : μ b with
    | none => rfl
    | some o => rw [h.low b o hh] at hb; cases hb)
    (fun k cs T sz s L hg hG => by obtain ⟨b', L', l', fr, h1, h2, _⟩ := h.blk k cs T sz hg; rw [hG] at h1; cases h1; rw [hb] at h2; cases h2) hc hl
/-- A block is written. -/
theorem Inv.write (h : Inv gl μ G x t m) {k b T sz L : Nat} {cs cs' l l1 rest : List Value} (hk : kok k = true) (ho : x.own t k = true) (hg : x.get t k = some (.bl cs T sz)) (hG : G k = some (b, sz, L)) (hc : RVL G cs' l1) (hl : l = l1 ++ rest) (hL : l.length = L) :
    Inv gl μ G x (t.put k (.bl cs' T sz)) (m.set b (Cells l T)) := by
  have hμ := h.own k b sz L ho hG
  refine ⟨h.glob, fun j => ?_, fun j cs2 T' sz' hj => ?_, fun j j' cs1 T1 sz1 cs2 T' sz' b' s1 L1 s2 L2 hj hj' g g' => ?_, fun b' o hb' => ?_, fun j b' s L hj g => ?_⟩
  · rw [get_put x t hk]
    by_cases e : j = k
    · subst e; rw [if_pos rfl, hG]; simp
    · simp only [if_neg e]; exact h.dom j
  · rw [get_put x t hk] at hj
    by_cases e : j = k
    · rw [if_pos e] at hj; cases hj; subst e
      exact ⟨b, L, l, (0, 0), hG, Mem.set_same _ _ _, fun _ => rfl, hL, l1, rest, hc, hl⟩
    · rw [if_neg e] at hj
      obtain ⟨b', L', l', fr, h1, h2, h3, h4, l1', rest', h5, h6⟩ := h.blk j cs2 T' sz' hj
      have hne : b' ≠ b := fun hh => by subst hh; exact e (h.inj _ _ _ _ _ _ _ _ _ _ _ _ _ hj hg h1 hG)
      exact ⟨b', L', l', fr, h1, by rw [Mem.set_other _ _ hne]; exact h2, fun hh => h3 (by rw [own_put x t hk, if_neg e] at hh; exact hh), h4, l1', rest', h5, h6⟩
  · rw [get_put x t hk] at hj hj'
    have aux : ∀ {j csa Ta sza}, (if j = k then some (Ob.bl cs' T sz) else x.get t j) = some (.bl csa Ta sza) → ∃ csa Ta sza, x.get t j = some (.bl csa Ta sza) := by
      intro j csa Ta sza hh
      by_cases e : j = k
      · subst e; exact ⟨_, _, _, hg⟩
      · rw [if_neg e] at hh; exact ⟨_, _, _, hh⟩
    obtain ⟨_, _, _, q1⟩ := aux hj
    obtain ⟨_, _, _, q2⟩ := aux hj'
    exact h.inj _ _ _ _ _ _ _ _ _ _ _ _ _ q1 q2 g g'
  · by_cases e : b' = b
    · subst e; rw [hμ] at hb'; cases hb'
    · rw [Mem.set_other _ _ e]; exact h.low b' o hb'
  · rw [own_put x t hk] at hj
    by_cases e : j = k
    · subst e; exact h.own j b' s L ho g
    · rw [if_neg e] at hj; exact h.own j b' s L hj g
end Go.Vx.Ev
