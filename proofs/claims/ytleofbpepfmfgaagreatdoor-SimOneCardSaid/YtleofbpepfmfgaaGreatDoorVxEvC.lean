import Derived.Test.YtleofbpepfmfgaaGreatDoorVxEvB
set_option linter.unusedSimpArgs false
set_option linter.unusedVariables false
namespace Go.Vx.Ev
open Go Go.Vx

inductive Ob where
 | dead
 | bl (cs : List Value) (T sz : Nat)
 | mp (cs : List Value)
 | lp (c : Env) (ps : List Nat) (a b : IR)
def entOf : Value → MapEntry | .tuple ⟨[k, v, .int _ n]⟩ => { key := k, val := v, born := n.toNat } | v => { key := v, val := v, born := 0 }
def mapObj : List Value → Obj | .int _ c :: es => .map ⟨es.map entOf⟩ c.toNat | _ => .map #[] 0
abbrev St := Tr Ob
def getL : List St → Nat → Option Ob
 | [], _ => none
 | t :: ts, k => match t.get k with | some o => some o | none => getL ts k
structure Cx where
 wr : List St
 ro : List St
def Cx.get (x : Cx) (t : St) (k : Nat) : Option Ob := match t.get k with | some o => some o | none => (match getL x.wr k with | some o => some o | none => getL x.ro k)
def Cx.own (x : Cx) (t : St) (k : Nat) : Bool := match t.get k with | some _ => true | none => (match getL x.wr k with | some _ => true | none => false)
def kok (k : Nat) : Bool := Nat.ble (k + 2) 1099511627776
abbrev St.put (t : St) (k : Nat) (o : Ob) : St := Tr.set o 40 t k
theorem kok_lt {k : Nat} (h : kok k = true) : k + 1 < 2 ^ 40 := by have := Nat.le_of_ble_eq_true h; omega
theorem get_put (x : Cx) (t : St) {k : Nat} (hk : kok k = true) (o : Ob) (j : Nat) : x.get (t.put k o) j = if j = k then some o else x.get t j := by
 by_cases e : j = k
 ·subst e; rw [if_pos rfl]; unfold Cx.get; rw [Tr.get_set_eq _ _ _ _ (kok_lt hk)]
 ·rw [if_neg e]; unfold Cx.get; rw [Tr.get_set_ne _ _ _ _ _ e]
theorem own_put (x : Cx) (t : St) {k : Nat} (hk : kok k = true) (o : Ob) (j : Nat) : x.own (t.put k o) j = if j = k then true else x.own t j := by
 by_cases e : j = k
 ·subst e; rw [if_pos rfl]; unfold Cx.own; rw [Tr.get_set_eq _ _ _ _ (kok_lt hk)]
 ·rw [if_neg e]; unfold Cx.own; rw [Tr.get_set_ne _ _ _ _ _ e]
theorem own_get {x : Cx} {t : St} {k : Nat} (h : x.own t k = true) : x.get t k ≠ none := by
 unfold Cx.own at h; unfold Cx.get
 cases h1 : t.get k with
 | some o => simp
 | none => rw [h1] at h; simp only at h ⊢; cases h2 : getL x.wr k with
  | some o => simp
  | none => rw [h2] at h; cases h

structure Inv (P : Program) (gl : List Nat) (μ : Mem) (G : Ghost) (x : Cx) (t : St) (m : Mem) : Prop where
 glob : GOK gl G
 dom : ∀ k, x.get t k = none ↔ G k = none
 blk : ∀ k cs T sz, x.get t k = some (.bl cs T sz) → ∃ b L l fr, G k = some (b, sz, L) ∧ m b = some (.cells ⟨l⟩ T fr) ∧ (x.own t k = true → fr = (0, 0)) ∧ l.length = L ∧ ∃ l1 rest, RVL G cs l1 ∧ l = l1 ++ rest
 inj : ∀ k k' cs T sz cs' T' sz' b s1 L1 s2 L2, x.get t k = some (.bl cs T sz) → x.get t k' = some (.bl cs' T' sz') → G k = some (b, s1, L1) → G k' = some (b, s2, L2) → k = k'
 mps : ∀ k cs, x.get t k = some (.mp cs) → ∃ b sz L l, G k = some (b, sz, L) ∧ m b = some (mapObj l) ∧ RVL G cs l ∧ ∀ k' cs' s L', x.get t k' = some (.mp cs') → G k' = some (b, s, L') → k' = k
 lps : ∀ k c ps a a', x.get t k = some (.lp c ps a a') → x.own t k = true → ∃ b sz L r e, G k = some (b, sz, L) ∧ m b = some (.loop r) ∧ r.state = .ready ∧ r.pending = none ∧ RE G c e ∧ YieldB P (wpI P a) (wpI P a') ps e b r ∧ ∀ k' s L', x.own t k' = true → x.get t k' ≠ some .dead → G k' = some (b, s, L') → k' = k
 low : Mem.le μ m
 own : ∀ k b s L, x.own t k = true → x.get t k ≠ some .dead → G k = some (b, s, L) → μ b = none

variable {P : Program} {gl : List Nat} {μ : Mem} {G : Ghost} {x : Cx} {t : St} {m : Mem} {c e : Env}

theorem mapObj_cells {l l' : List Value} {T : Nat} {fr : Nat × Nat} : mapObj l ≠ .cells ⟨l'⟩ T fr := by
 unfold mapObj; split <;> exact fun h => by cases h
theorem mapObj_loop {l : List Value} {r : Loop} : mapObj l ≠ .loop r := by
 unfold mapObj; split <;> exact fun h => by cases h
theorem Inv.kill (h : Inv P gl μ G x t m) {k : Nat} (hk : kok k = true) (ho : x.own t k = true) : Inv P gl μ G x (t.put k .dead) m := by
 refine ⟨h.glob, fun j => ?_, fun j cs T sz hj => ?_, fun j j' cs T sz cs' T' sz' b s1 L1 s2 L2 hj hj' g g' => ?_, fun j cs hj => ?_, fun j c ps a a' hj ho' => ?_, h.low, fun j b s L hj hd g => ?_⟩
 ·rw [get_put x t hk]
  by_cases e : j = k
  ·subst e; rw [if_pos rfl]
   have := own_get ho
   constructor
   ·intro hh; cases hh
   ·intro hh; exact absurd ((h.dom j).2 hh) this
  ·rw [if_neg e]; exact h.dom j
 ·rw [get_put x t hk] at hj
  by_cases e : j = k
  ·rw [if_pos e] at hj; cases hj
  ·rw [if_neg e] at hj
   obtain ⟨b, L, l, fr, h1, h2, h3, h4⟩ := h.blk j cs T sz hj
   exact ⟨b, L, l, fr, h1, h2, fun hh => h3 (by rw [own_put x t hk, if_neg e] at hh; exact hh), h4⟩
 ·rw [get_put x t hk] at hj hj'
  by_cases e : j = k
  ·rw [if_pos e] at hj; cases hj
  ·by_cases e' : j' = k
   ·rw [if_pos e'] at hj'; cases hj'
   ·rw [if_neg e] at hj; rw [if_neg e'] at hj'; exact h.inj _ _ _ _ _ _ _ _ _ _ _ _ _ hj hj' g g'
 ·rw [get_put x t hk] at hj
  by_cases e : j = k
  ·rw [if_pos e] at hj; cases hj
  ·rw [if_neg e] at hj
   obtain ⟨b, sz, L, l, h1, h2, h3, h4⟩ := h.mps j cs hj
   refine ⟨b, sz, L, l, h1, h2, h3, fun k' cs' s L' hk' g => ?_⟩
   rw [get_put x t hk] at hk'
   by_cases e' : k' = k
   ·rw [if_pos e'] at hk'; cases hk'
   ·rw [if_neg e'] at hk'; exact h4 k' cs' s L' hk' g
 ·rw [get_put x t hk] at hj
  by_cases e : j = k
  ·rw [if_pos e] at hj; cases hj
  ·rw [if_neg e] at hj
   rw [own_put x t hk, if_neg e] at ho'
   obtain ⟨b', sz', L, r, e', h1, h2, h3, h4, h5, h6, h7⟩ := h.lps j c ps a a' hj ho'
   refine ⟨b', sz', L, r, e', h1, h2, h3, h4, h5, h6, fun k' s L' q1 q2 g => ?_⟩
   rw [get_put x t hk] at q2
   rw [own_put x t hk] at q1
   by_cases e' : k' = k
   ·rw [if_pos e'] at q2; exact absurd rfl q2
   ·rw [if_neg e'] at q1 q2; exact h7 k' s L' q1 q2 g
 ·rw [get_put x t hk] at hd
  rw [own_put x t hk] at hj
  by_cases e : j = k
  ·rw [if_pos e] at hd; exact absurd rfl hd
  ·rw [if_neg e] at hj hd; exact h.own j b s L hj hd g
theorem Inv.add (h : Inv P gl μ G x t m) {n b T sz : Nat} {cs l l1 rest : List Value} (hk : kok n = true) (hn : x.get t n = none) (hμ : μ b = none)
  (hb : ∀ k cs T sz s L, x.get t k = some (.bl cs T sz) → G k ≠ some (b, s, L)) (hbm : ∀ k cs s L, x.get t k = some (.mp cs) → G k ≠ some (b, s, L)) (hbl : ∀ k c ps a a' s L, x.get t k = some (.lp c ps a a') → x.own t k = true → G k ≠ some (b, s, L)) (hc : RVL G cs l1) (hl : l = l1 ++ rest) :
  Ghost.le G (fun k => if k = n then some (b, sz, l.length) else G k) ∧ Inv P gl μ (fun k => if k = n then some (b, sz, l.length) else G k) x (t.put n (.bl cs T sz)) (m.set b (Cells l T)) := by
 have hGn : G n = none := (h.dom n).1 hn
 have hle : Ghost.le G (fun k => if k = n then some (b, sz, l.length) else G k) := fun k y hy => by
  by_cases e : k = n
  ·subst e; rw [hGn] at hy; cases hy
  ·simp only [if_neg e]; exact hy
 refine ⟨hle, h.glob.mono hle, fun j => ?_, fun j cs' T' sz' hj => ?_, fun j j' cs1 T1 sz1 cs' T' sz' b' s1 L1 s2 L2 hj hj' g g' => ?_, fun j cs' hj => ?_, fun j c ps a a' hj ho' => ?_, fun b' o hb' => ?_, fun j b' s L hj hd g => ?_⟩
 ·rw [get_put x t hk]
  by_cases e : j = n
  ·simp [e]
  ·simp only [if_neg e]; exact h.dom j
 ·rw [get_put x t hk] at hj
  by_cases e : j = n
  ·rw [if_pos e] at hj; cases hj
   exact ⟨b, l.length, l, (0, 0), by simp [e], Mem.set_same _ _ _, fun _ => rfl, rfl, l1, rest, hc.mono hle _ _, hl⟩
  ·rw [if_neg e] at hj
   obtain ⟨b', L, l', fr, h1, h2, h3, h4, l1', rest', h5, h6⟩ := h.blk j cs' T' sz' hj
   have hne : b' ≠ b := fun hh => by subst hh; exact hb j _ _ _ _ _ hj h1
   exact ⟨b', L, l', fr, by simp only [if_neg e]; exact h1, by rw [Mem.set_other _ _ hne]; exact h2, fun hh => h3 (by rw [own_put x t hk, if_neg e] at hh; exact hh), h4, l1', rest', h5.mono hle _ _, h6⟩
 ·rw [get_put x t hk] at hj hj'
  by_cases e : j = n
  ·by_cases e' : j' = n
   ·rw [e, e']
   ·rw [if_neg e'] at hj'
    simp only [if_pos e, Option.some.injEq, Prod.mk.injEq] at g
    simp only [if_neg e'] at g'
    rw [← g.1] at g'
    exact absurd g' (hb j' _ _ _ _ _ hj')
  ·rw [if_neg e] at hj
   simp only [if_neg e] at g
   by_cases e' : j' = n
   ·simp only [if_pos e', Option.some.injEq, Prod.mk.injEq] at g'
    rw [← g'.1] at g
    exact absurd g (hb j _ _ _ _ _ hj)
   ·rw [if_neg e'] at hj'
    simp only [if_neg e'] at g'
    exact h.inj _ _ _ _ _ _ _ _ _ _ _ _ _ hj hj' g g'
 ·rw [get_put x t hk] at hj
  by_cases e : j = n
  ·rw [if_pos e] at hj; cases hj
  ·rw [if_neg e] at hj
   obtain ⟨b', sz', L, l', h1, h2, h3, h4⟩ := h.mps j cs' hj
   have hne : b' ≠ b := fun hh => by subst hh; exact hbm j _ _ _ hj h1
   refine ⟨b', sz', L, l', by simp only [if_neg e]; exact h1, by rw [Mem.set_other _ _ hne]; exact h2, h3.mono hle _ _, fun k' cs2 s L' hk' g => ?_⟩
   rw [get_put x t hk] at hk'
   by_cases e' : k' = n
   ·rw [if_pos e'] at hk'; cases hk'
   ·rw [if_neg e'] at hk'; simp only [if_neg e'] at g; exact h4 k' cs2 s L' hk' g
 ·rw [get_put x t hk] at hj
  by_cases e : j = n
  ·rw [if_pos e] at hj; cases hj
  ·rw [if_neg e] at hj
   rw [own_put x t hk, if_neg e] at ho'
   obtain ⟨b', sz', L, r, e', h1, h2, h3, h4, h5, h6, h7⟩ := h.lps j c ps a a' hj ho'
   have hne : b' ≠ b := fun hh => by subst hh; exact hbl j _ _ _ _ _ _ hj ho' h1
   refine ⟨b', sz', L, r, e', by simp only [if_neg e]; exact h1, by rw [Mem.set_other _ _ hne]; exact h2, h3, h4, h5.mono hle, h6, fun k' s L' q1 q2 g => ?_⟩
   rw [get_put x t hk] at q2
   rw [own_put x t hk] at q1
   by_cases e' : k' = n
   ·simp only [if_pos e', Option.some.injEq, Prod.mk.injEq] at g; exact absurd g.1.symm hne
   ·rw [if_neg e'] at q1 q2; simp only [if_neg e'] at g; exact h7 k' s L' q1 q2 g
 ·by_cases e : b' = b
  ·subst e; rw [hμ] at hb'; cases hb'
  ·rw [Mem.set_other _ _ e]; exact h.low b' o hb'
 ·rw [get_put x t hk] at hd
  rw [own_put x t hk] at hj
  by_cases e : j = n
  ·simp only [if_pos e, Option.some.injEq, Prod.mk.injEq] at g
   rw [← g.1]; exact hμ
  ·rw [if_neg e] at hj hd; simp only [if_neg e] at g; exact h.own j b' s L hj hd g
theorem Inv.new (h : Inv P gl μ G x t m) {n b T sz : Nat} {cs l l1 rest : List Value} (hk : kok n = true) (hn : x.get t n = none) (hb : m b = none) (hc : RVL G cs l1) (hl : l = l1 ++ rest) :
  Ghost.le G (fun k => if k = n then some (b, sz, l.length) else G k) ∧ Inv P gl μ (fun k => if k = n then some (b, sz, l.length) else G k) x (t.put n (.bl cs T sz)) (m.set b (Cells l T)) :=
 h.add hk hn (by cases hh : μ b with
  | none => rfl
  | some o => rw [h.low b o hh] at hb; cases hb)
  (fun k cs T sz s L hg hG => by obtain ⟨b', L', l', fr, h1, h2, _⟩ := h.blk k cs T sz hg; rw [hG] at h1; cases h1; rw [hb] at h2; cases h2)
  (fun k cs s L hg hG => by obtain ⟨b', sz', L', l', h1, h2, _⟩ := h.mps k cs hg; rw [hG] at h1; cases h1; rw [hb] at h2; cases h2)
  (fun k c ps a a' s L hg ho hG => by obtain ⟨b', sz', L', r, e, h1, h2, _⟩ := h.lps k c ps a a' hg ho; rw [hG] at h1; cases h1; rw [hb] at h2; cases h2) hc hl
theorem Inv.write (h : Inv P gl μ G x t m) {k b T sz L : Nat} {cs cs' l l1 rest : List Value} (hk : kok k = true) (ho : x.own t k = true) (hg : x.get t k = some (.bl cs T sz)) (hG : G k = some (b, sz, L)) (hc : RVL G cs' l1) (hl : l = l1 ++ rest) (hL : l.length = L) :
  Inv P gl μ G x (t.put k (.bl cs' T sz)) (m.set b (Cells l T)) := by
 have hμ := h.own k b sz L ho (by rw [hg]; exact fun hh => by cases hh) hG
 refine ⟨h.glob, fun j => ?_, fun j cs2 T' sz' hj => ?_, fun j j' cs1 T1 sz1 cs2 T' sz' b' s1 L1 s2 L2 hj hj' g g' => ?_, fun j cs2 hj => ?_, fun j c ps a a' hj ho' => ?_, fun b' o hb' => ?_, fun j b' s L hj hd g => ?_⟩
 ·rw [get_put x t hk]
  by_cases e : j = k
  ·subst e; rw [if_pos rfl, hG]; simp
  ·simp only [if_neg e]; exact h.dom j
 ·rw [get_put x t hk] at hj
  by_cases e : j = k
  ·rw [if_pos e] at hj; cases hj; subst e
   exact ⟨b, L, l, (0, 0), hG, Mem.set_same _ _ _, fun _ => rfl, hL, l1, rest, hc, hl⟩
  ·rw [if_neg e] at hj
   obtain ⟨b', L', l', fr, h1, h2, h3, h4, l1', rest', h5, h6⟩ := h.blk j cs2 T' sz' hj
   have hne : b' ≠ b := fun hh => by subst hh; exact e (h.inj _ _ _ _ _ _ _ _ _ _ _ _ _ hj hg h1 hG)
   exact ⟨b', L', l', fr, h1, by rw [Mem.set_other _ _ hne]; exact h2, fun hh => h3 (by rw [own_put x t hk, if_neg e] at hh; exact hh), h4, l1', rest', h5, h6⟩
 ·rw [get_put x t hk] at hj hj'
  have aux : ∀ {j csa Ta sza}, (if j = k then some (Ob.bl cs' T sz) else x.get t j) = some (.bl csa Ta sza) → ∃ csa Ta sza, x.get t j = some (.bl csa Ta sza) := by
   intro j csa Ta sza hh
   by_cases e : j = k
   ·subst e; exact ⟨_, _, _, hg⟩
   ·rw [if_neg e] at hh; exact ⟨_, _, _, hh⟩
  obtain ⟨_, _, _, q1⟩ := aux hj
  obtain ⟨_, _, _, q2⟩ := aux hj'
  exact h.inj _ _ _ _ _ _ _ _ _ _ _ _ _ q1 q2 g g'
 ·rw [get_put x t hk] at hj
  by_cases e : j = k
  ·rw [if_pos e] at hj; cases hj
  ·rw [if_neg e] at hj
   obtain ⟨b', sz', L', l', h1, h2, h3, h4⟩ := h.mps j cs2 hj
   have hne : b' ≠ b := fun hh => by
    subst hh
    obtain ⟨b0, L0, l0, fr0, g1, g2, _⟩ := h.blk k cs T sz hg
    rw [hG] at g1; cases g1; rw [g2] at h2; exact mapObj_cells (Option.some.inj h2).symm
   refine ⟨b', sz', L', l', h1, by rw [Mem.set_other _ _ hne]; exact h2, h3, fun k' cs3 s L2 hk' g => ?_⟩
   rw [get_put x t hk] at hk'
   by_cases e' : k' = k
   ·rw [if_pos e'] at hk'; cases hk'
   ·rw [if_neg e'] at hk'; exact h4 k' cs3 s L2 hk' g
 ·rw [get_put x t hk] at hj
  by_cases e : j = k
  ·rw [if_pos e] at hj; cases hj
  ·rw [if_neg e] at hj
   rw [own_put x t hk, if_neg e] at ho'
   obtain ⟨b', sz', L', r, e', h1, h2, h3, h4, h5, h6, h7⟩ := h.lps j c ps a a' hj ho'
   have hne : b' ≠ b := fun hh => by subst hh; exact e (h7 k _ _ ho (by rw [hg]; exact fun hh => by cases hh) hG).symm
   refine ⟨b', sz', L', r, e', h1, by rw [Mem.set_other _ _ hne]; exact h2, h3, h4, h5, h6, fun k' s L2 q1 q2 g => ?_⟩
   rw [get_put x t hk] at q2
   rw [own_put x t hk] at q1
   by_cases e' : k' = k
   ·subst e'; exact h7 k' s L2 ho (by rw [hg]; exact fun hh => by cases hh) g
   ·rw [if_neg e'] at q1 q2; exact h7 k' s L2 q1 q2 g
 ·by_cases e : b' = b
  ·subst e; rw [hμ] at hb'; cases hb'
  ·rw [Mem.set_other _ _ e]; exact h.low b' o hb'
 ·rw [get_put x t hk] at hd
  rw [own_put x t hk] at hj
  by_cases e : j = k
  ·subst e; exact h.own j b' s L ho (by rw [hg]; exact fun hh => by cases hh) g
  ·rw [if_neg e] at hj hd; exact h.own j b' s L hj hd g
theorem Inv.newM (h : Inv P gl μ G x t m) {n b : Nat} {cs l : List Value} (hk : kok n = true) (hn : x.get t n = none) (hb : m b = none) (hc : RVL G cs l) :
  Ghost.le G (fun k => if k = n then some (b, 0, 0) else G k) ∧ Inv P gl μ (fun k => if k = n then some (b, 0, 0) else G k) x (t.put n (.mp cs)) (m.set b (mapObj l)) := by
 have hGn : G n = none := (h.dom n).1 hn
 have hμ : μ b = none := by cases hh : μ b with
  | none => rfl
  | some o => rw [h.low b o hh] at hb; cases hb
 have hle : Ghost.le G (fun k => if k = n then some (b, 0, 0) else G k) := fun k y hy => by
  by_cases e : k = n
  ·subst e; rw [hGn] at hy; cases hy
  ·simp only [if_neg e]; exact hy
 refine ⟨hle, h.glob.mono hle, fun j => ?_, fun j cs' T' sz' hj => ?_, fun j j' cs1 T1 sz1 cs' T' sz' b' s1 L1 s2 L2 hj hj' g g' => ?_, fun j cs' hj => ?_, fun j c ps a a' hj ho' => ?_, fun b' o hb' => ?_, fun j b' s L hj hd g => ?_⟩
 ·rw [get_put x t hk]
  by_cases e : j = n
  ·simp [e]
  ·simp only [if_neg e]; exact h.dom j
 ·rw [get_put x t hk] at hj
  by_cases e : j = n
  ·rw [if_pos e] at hj; cases hj
  ·rw [if_neg e] at hj
   obtain ⟨b', L, l', fr, h1, h2, h3, h4, l1', rest', h5, h6⟩ := h.blk j cs' T' sz' hj
   have hne : b' ≠ b := fun hh => by subst hh; rw [hb] at h2; cases h2
   exact ⟨b', L, l', fr, by simp only [if_neg e]; exact h1, by rw [Mem.set_other _ _ hne]; exact h2, fun hh => h3 (by rw [own_put x t hk, if_neg e] at hh; exact hh), h4, l1', rest', h5.mono hle _ _, h6⟩
 ·rw [get_put x t hk] at hj hj'
  by_cases e : j = n
  ·rw [if_pos e] at hj; cases hj
  ·by_cases e' : j' = n
   ·rw [if_pos e'] at hj'; cases hj'
   ·rw [if_neg e] at hj; rw [if_neg e'] at hj'
    simp only [if_neg e] at g; simp only [if_neg e'] at g'
    exact h.inj _ _ _ _ _ _ _ _ _ _ _ _ _ hj hj' g g'
 ·rw [get_put x t hk] at hj
  have old : ∀ k' cs2 s L', x.get t k' = some (.mp cs2) → G k' ≠ some (b, s, L') := fun k' cs2 s L' hk' g => by
   obtain ⟨b', _, _, l', h1, h2, _⟩ := h.mps k' cs2 hk'
   rw [g] at h1; cases h1; rw [hb] at h2; cases h2
  by_cases e : j = n
  ·rw [if_pos e] at hj; cases hj
   refine ⟨b, 0, 0, l, by simp [e], Mem.set_same _ _ _, hc.mono hle _ _, fun k' cs2 s L' hk' g => ?_⟩
   rw [get_put x t hk] at hk'
   by_cases e' : k' = n
   ·rw [e, e']
   ·rw [if_neg e'] at hk'; simp only [if_neg e'] at g; exact absurd g (old k' cs2 s L' hk')
  ·rw [if_neg e] at hj
   obtain ⟨b', sz', L, l', h1, h2, h3, h4⟩ := h.mps j cs' hj
   have hne : b' ≠ b := fun hh => by subst hh; rw [hb] at h2; cases h2
   refine ⟨b', sz', L, l', by simp only [if_neg e]; exact h1, by rw [Mem.set_other _ _ hne]; exact h2, h3.mono hle _ _, fun k' cs2 s L' hk' g => ?_⟩
   rw [get_put x t hk] at hk'
   by_cases e' : k' = n
   ·simp only [if_pos e', Option.some.injEq, Prod.mk.injEq] at g; exact absurd g.1.symm hne
   ·rw [if_neg e'] at hk'; simp only [if_neg e'] at g; exact h4 k' cs2 s L' hk' g
 ·rw [get_put x t hk] at hj
  by_cases e : j = n
  ·rw [if_pos e] at hj; cases hj
  ·rw [if_neg e] at hj
   rw [own_put x t hk, if_neg e] at ho'
   obtain ⟨b', sz', L, r, e', h1, h2, h3, h4, h5, h6, h7⟩ := h.lps j c ps a a' hj ho'
   have hne : b' ≠ b := fun hh => by subst hh; rw [hb] at h2; cases h2
   refine ⟨b', sz', L, r, e', by simp only [if_neg e]; exact h1, by rw [Mem.set_other _ _ hne]; exact h2, h3, h4, h5.mono hle, h6, fun k' s L' q1 q2 g => ?_⟩
   rw [get_put x t hk] at q2
   rw [own_put x t hk] at q1
   by_cases e' : k' = n
   ·simp only [if_pos e', Option.some.injEq, Prod.mk.injEq] at g; exact absurd g.1.symm hne
   ·rw [if_neg e'] at q1 q2; simp only [if_neg e'] at g; exact h7 k' s L' q1 q2 g
 ·by_cases e : b' = b
  ·subst e; rw [hμ] at hb'; cases hb'
  ·rw [Mem.set_other _ _ e]; exact h.low b' o hb'
 ·rw [get_put x t hk] at hd
  rw [own_put x t hk] at hj
  by_cases e : j = n
  ·simp only [if_pos e, Option.some.injEq, Prod.mk.injEq] at g
   rw [← g.1]; exact hμ
  ·rw [if_neg e] at hj hd; simp only [if_neg e] at g; exact h.own j b' s L hj hd g
theorem Inv.writeM (h : Inv P gl μ G x t m) {k b sz L : Nat} {cs cs' l : List Value} (hk : kok k = true) (ho : x.own t k = true) (hg : x.get t k = some (.mp cs)) (hG : G k = some (b, sz, L)) (hc : RVL G cs' l) :
  Inv P gl μ G x (t.put k (.mp cs')) (m.set b (mapObj l)) := by
 have hμ := h.own k b sz L ho (by rw [hg]; exact fun hh => by cases hh) hG
 obtain ⟨b0, sz0, L0, l0, q1, q2, q3, q4⟩ := h.mps k cs hg
 rw [hG] at q1; cases q1
 refine ⟨h.glob, fun j => ?_, fun j cs2 T' sz' hj => ?_, fun j j' cs1 T1 sz1 cs2 T' sz' b' s1 L1 s2 L2 hj hj' g g' => ?_, fun j cs2 hj => ?_, fun j c ps a a' hj ho' => ?_, fun b' o hb' => ?_, fun j b' s L hj hd g => ?_⟩
 ·rw [get_put x t hk]
  by_cases e : j = k
  ·subst e; rw [if_pos rfl, hG]; simp
  ·simp only [if_neg e]; exact h.dom j
 ·rw [get_put x t hk] at hj
  by_cases e : j = k
  ·rw [if_pos e] at hj; cases hj
  ·rw [if_neg e] at hj
   obtain ⟨b', L', l', fr, h1, h2, h3, h4, l1', rest', h5, h6⟩ := h.blk j cs2 T' sz' hj
   have hne : b' ≠ b := fun hh => by subst hh; rw [q2] at h2; exact mapObj_cells (Option.some.inj h2)
   exact ⟨b', L', l', fr, h1, by rw [Mem.set_other _ _ hne]; exact h2, fun hh => h3 (by rw [own_put x t hk, if_neg e] at hh; exact hh), h4, l1', rest', h5, h6⟩
 ·rw [get_put x t hk] at hj hj'
  by_cases e : j = k
  ·rw [if_pos e] at hj; cases hj
  ·by_cases e' : j' = k
   ·rw [if_pos e'] at hj'; cases hj'
   ·rw [if_neg e] at hj; rw [if_neg e'] at hj'; exact h.inj _ _ _ _ _ _ _ _ _ _ _ _ _ hj hj' g g'
 ·rw [get_put x t hk] at hj
  by_cases e : j = k
  ·rw [if_pos e] at hj; cases hj
   subst e
   refine ⟨b, sz, L, l, hG, Mem.set_same _ _ _, hc, fun k' cs3 s L' hk' g => ?_⟩
   rw [get_put x t hk] at hk'
   by_cases e' : k' = j
   ·exact e'
   ·rw [if_neg e'] at hk'; exact q4 k' cs3 s L' hk' g
  ·rw [if_neg e] at hj
   obtain ⟨b', sz', L', l', h1, h2, h3, h4⟩ := h.mps j cs2 hj
   have hne : b' ≠ b := fun hh => by subst hh; exact e (q4 j cs2 _ _ hj h1)
   refine ⟨b', sz', L', l', h1, by rw [Mem.set_other _ _ hne]; exact h2, h3, fun k' cs3 s L2 hk' g => ?_⟩
   rw [get_put x t hk] at hk'
   by_cases e' : k' = k
   ·subst e'; rw [hG] at g; cases g; exact absurd rfl hne
   ·rw [if_neg e'] at hk'; exact h4 k' cs3 s L2 hk' g
 ·rw [get_put x t hk] at hj
  by_cases e : j = k
  ·rw [if_pos e] at hj; cases hj
  ·rw [if_neg e] at hj
   rw [own_put x t hk, if_neg e] at ho'
   obtain ⟨b', sz', L', r, e', h1, h2, h3, h4, h5, h6, h7⟩ := h.lps j c ps a a' hj ho'
   have hne : b' ≠ b := fun hh => by subst hh; exact e (h7 k _ _ ho (by rw [hg]; exact fun hh => by cases hh) hG).symm
   refine ⟨b', sz', L', r, e', h1, by rw [Mem.set_other _ _ hne]; exact h2, h3, h4, h5, h6, fun k' s L2 q1 q2 g => ?_⟩
   rw [get_put x t hk] at q2
   rw [own_put x t hk] at q1
   by_cases e' : k' = k
   ·subst e'; exact h7 k' s L2 ho (by rw [hg]; exact fun hh => by cases hh) g
   ·rw [if_neg e'] at q1 q2; exact h7 k' s L2 q1 q2 g
 ·by_cases e : b' = b
  ·subst e; rw [hμ] at hb'; cases hb'
  ·rw [Mem.set_other _ _ e]; exact h.low b' o hb'
 ·rw [get_put x t hk] at hd
  rw [own_put x t hk] at hj
  by_cases e : j = k
  ·subst e; exact h.own j b' s L ho (by rw [hg]; exact fun hh => by cases hh) g
  ·rw [if_neg e] at hj hd; exact h.own j b' s L hj hd g
theorem Inv.newL (h : Inv P gl μ G x t m) {n b : Nat} {c e : Env} {ps : List Nat} {a a' : IR} {r : Loop} (hk : kok n = true) (hn : x.get t n = none) (hb : m b = none) (hr : r.state = .ready) (hp : r.pending = none) (hE : RE G c e) (hy : YieldB P (wpI P a) (wpI P a') ps e b r) :
  Ghost.le G (fun k => if k = n then some (b, 0, 0) else G k) ∧ Inv P gl μ (fun k => if k = n then some (b, 0, 0) else G k) x (t.put n (.lp c ps a a')) (m.set b (.loop r)) := by
 have hGn : G n = none := (h.dom n).1 hn
 have hμ : μ b = none := by cases hh : μ b with
  | none => rfl
  | some o => rw [h.low b o hh] at hb; cases hb
 have hle : Ghost.le G (fun k => if k = n then some (b, 0, 0) else G k) := fun k y hy => by
  by_cases e : k = n
  ·subst e; rw [hGn] at hy; cases hy
  ·simp only [if_neg e]; exact hy
 refine ⟨hle, h.glob.mono hle, fun j => ?_, fun j cs' T' sz' hj => ?_, fun j j' cs1 T1 sz1 cs' T' sz' b' s1 L1 s2 L2 hj hj' g g' => ?_, fun j cs' hj => ?_, fun j c2 ps2 a2 a2' hj ho' => ?_, fun b' o hb' => ?_, fun j b' s L hj hd g => ?_⟩
 ·rw [get_put x t hk]
  by_cases e : j = n
  ·simp [e]
  ·simp only [if_neg e]; exact h.dom j
 ·rw [get_put x t hk] at hj
  by_cases e : j = n
  ·rw [if_pos e] at hj; cases hj
  ·rw [if_neg e] at hj
   obtain ⟨b', L, l', fr, h1, h2, h3, h4, l1', rest', h5, h6⟩ := h.blk j cs' T' sz' hj
   have hne : b' ≠ b := fun hh => by subst hh; rw [hb] at h2; cases h2
   exact ⟨b', L, l', fr, by simp only [if_neg e]; exact h1, by rw [Mem.set_other _ _ hne]; exact h2, fun hh => h3 (by rw [own_put x t hk, if_neg e] at hh; exact hh), h4, l1', rest', h5.mono hle _ _, h6⟩
 ·rw [get_put x t hk] at hj hj'
  by_cases e : j = n
  ·rw [if_pos e] at hj; cases hj
  ·by_cases e' : j' = n
   ·rw [if_pos e'] at hj'; cases hj'
   ·rw [if_neg e] at hj; rw [if_neg e'] at hj'
    simp only [if_neg e] at g; simp only [if_neg e'] at g'
    exact h.inj _ _ _ _ _ _ _ _ _ _ _ _ _ hj hj' g g'
 ·rw [get_put x t hk] at hj
  by_cases e : j = n
  ·rw [if_pos e] at hj; cases hj
  ·rw [if_neg e] at hj
   obtain ⟨b', sz', L, l', h1, h2, h3, h4⟩ := h.mps j cs' hj
   have hne : b' ≠ b := fun hh => by subst hh; rw [hb] at h2; cases h2
   refine ⟨b', sz', L, l', by simp only [if_neg e]; exact h1, by rw [Mem.set_other _ _ hne]; exact h2, h3.mono hle _ _, fun k' cs2 s L' hk' g => ?_⟩
   rw [get_put x t hk] at hk'
   by_cases e' : k' = n
   ·rw [if_pos e'] at hk'; cases hk'
   ·rw [if_neg e'] at hk'; simp only [if_neg e'] at g; exact h4 k' cs2 s L' hk' g
 ·rw [get_put x t hk] at hj
  rw [own_put x t hk] at ho'
  have old : ∀ k' s L', x.own t k' = true → x.get t k' ≠ some .dead → G k' = some (b, s, L') → False := fun k' s L' q1 q2 g => by
   cases hh : x.get t k' with
   | none => rw [(h.dom k').1 hh] at g; cases g
   | some o =>
    cases o with
    | dead => exact q2 hh
    | bl cs T sz => obtain ⟨b', _, _, _, h1, h2, _⟩ := h.blk k' _ _ _ hh; rw [g] at h1; cases h1; rw [hb] at h2; cases h2
    | mp cs => obtain ⟨b', _, _, _, h1, h2, _⟩ := h.mps k' _ hh; rw [g] at h1; cases h1; rw [hb] at h2; cases h2
    | lp c3 ps3 a3 a3' => obtain ⟨b', _, _, _, _, h1, h2, _⟩ := h.lps k' _ _ _ _ hh q1; rw [g] at h1; cases h1; rw [hb] at h2; cases h2
  by_cases e0 : j = n
  ·rw [if_pos e0] at hj; cases hj
   refine ⟨b, 0, 0, r, e, by simp [e0], Mem.set_same _ _ _, hr, hp, hE.mono hle, hy, fun k' s L' q1 q2 g => ?_⟩
   rw [get_put x t hk] at q2
   rw [own_put x t hk] at q1
   by_cases e' : k' = n
   ·rw [e0, e']
   ·rw [if_neg e'] at q1 q2; simp only [if_neg e'] at g; exact (old k' s L' q1 q2 g).elim
  ·rw [if_neg e0] at hj ho'
   obtain ⟨b', sz', L, r', e1, h1, h2, h3, h4, h5, h6, h7⟩ := h.lps j c2 ps2 a2 a2' hj ho'
   have hne : b' ≠ b := fun hh => by subst hh; rw [hb] at h2; cases h2
   refine ⟨b', sz', L, r', e1, by simp only [if_neg e0]; exact h1, by rw [Mem.set_other _ _ hne]; exact h2, h3, h4, h5.mono hle, h6, fun k' s L' q1 q2 g => ?_⟩
   rw [get_put x t hk] at q2
   rw [own_put x t hk] at q1
   by_cases e' : k' = n
   ·simp only [if_pos e', Option.some.injEq, Prod.mk.injEq] at g; exact absurd g.1.symm hne
   ·rw [if_neg e'] at q1 q2; simp only [if_neg e'] at g; exact h7 k' s L' q1 q2 g
 ·by_cases e : b' = b
  ·subst e; rw [hμ] at hb'; cases hb'
  ·rw [Mem.set_other _ _ e]; exact h.low b' o hb'
 ·rw [get_put x t hk] at hd
  rw [own_put x t hk] at hj
  by_cases e : j = n
  ·simp only [if_pos e, Option.some.injEq, Prod.mk.injEq] at g
   rw [← g.1]; exact hμ
  ·rw [if_neg e] at hj hd; simp only [if_neg e] at g; exact h.own j b' s L hj hd g
theorem Inv.hold (h : Inv P gl μ G x t m) {b : Nat} {o : Obj} (hm : m b = some o) (hu : ∀ k s L, x.own t k = true → x.get t k ≠ some .dead → G k ≠ some (b, s, L)) : Inv P gl (μ.set b o) G x t m :=
 ⟨h.glob, h.dom, h.blk, h.inj, h.mps, h.lps, fun b' o' hb' => by
  by_cases e : b' = b
  ·subst e; rw [Mem.set_same] at hb'; cases hb'; exact hm
  ·rw [Mem.set_other _ _ e] at hb'; exact h.low b' o' hb', fun k b' s L ho hd hG => by
  have e : b' ≠ b := fun e => by subst e; exact hu k s L ho hd hG
  rw [Mem.set_other _ _ e]; exact h.own k b' s L ho hd hG⟩
theorem Inv.turn {b : Nat} {r r' : Loop} (h : Inv P gl (μ.set b (.loop r)) G x t m) (μ' : Mem) (hμ : ∀ b', b' ≠ b → μ' b' = μ b') (hμb : ∀ o, μ' b = some o → o = .loop r') : Inv P gl μ' G x t (m.set b (.loop r')) := by
 have hm : m b = some (.loop r) := h.low b _ (Mem.set_same _ _ _)
 have hne : ∀ k b' s L, x.own t k = true → x.get t k ≠ some .dead → G k = some (b', s, L) → b' ≠ b := fun k b' s L ho hd hG e => by
  subst e; have := h.own k b' s L ho hd hG; rw [Mem.set_same] at this; cases this
 refine ⟨h.glob, h.dom, fun k cs T sz hk => ?_, h.inj, fun k cs hk => ?_, fun k c ps a a' hk ho => ?_, fun b' o hb' => ?_, fun k b' s L ho hd hG => ?_⟩
 ·obtain ⟨b', L, l, fr, h1, h2, h3⟩ := h.blk k cs T sz hk
  have e : b' ≠ b := fun e => by subst e; rw [hm] at h2; cases h2
  exact ⟨b', L, l, fr, h1, by rw [Mem.set_other _ _ e]; exact h2, h3⟩
 ·obtain ⟨b', sz, L, l, h1, h2, h3⟩ := h.mps k cs hk
  have e : b' ≠ b := fun e => by subst e; rw [hm] at h2; exact mapObj_loop (Option.some.inj h2).symm
  exact ⟨b', sz, L, l, h1, by rw [Mem.set_other _ _ e]; exact h2, h3⟩
 ·obtain ⟨b', sz, L, r0, e0, h1, h2, h3⟩ := h.lps k c ps a a' hk ho
  have e : b' ≠ b := hne k b' _ _ ho (by rw [hk]; exact fun hh => by cases hh) h1
  exact ⟨b', sz, L, r0, e0, h1, by rw [Mem.set_other _ _ e]; exact h2, h3⟩
 ·by_cases e : b' = b
  ·subst e; rw [Mem.set_same, hμb o hb']
  ·rw [Mem.set_other _ _ e]
   rw [hμ b' e] at hb'
   exact h.low b' o (by rw [Mem.set_other _ _ e]; exact hb')
 ·have e := hne k b' s L ho hd hG
  rw [hμ b' e]
  have := h.own k b' s L ho hd hG
  rw [Mem.set_other _ _ e] at this; exact this
theorem Inv.relay (h : Inv P gl μ G x t m) {k b sz L : Nat} {c e : Env} {ps : List Nat} {a a' : IR} {r : Loop} (hk : kok k = true) (ho : x.own t k = true) (hG : G k = some (b, sz, L)) (hm : m b = some (.loop r)) (hμ : μ b = none) (hr : r.state = .ready) (hp : r.pending = none) (hE : RE G c e) (hy : YieldB P (wpI P a) (wpI P a') ps e b r)
  (hu : ∀ k' s L', x.own t k' = true → x.get t k' ≠ some .dead → G k' = some (b, s, L') → k' = k) : Inv P gl μ G x (t.put k (.lp c ps a a')) m := by
 refine ⟨h.glob, fun j => ?_, fun j cs T sz hj => ?_, fun j j' cs T sz cs' T' sz' b' s1 L1 s2 L2 hj hj' g g' => ?_, fun j cs hj => ?_, fun j c2 ps2 a2 a2' hj ho' => ?_, h.low, fun j b' s L2 hj hd g => ?_⟩
 ·rw [get_put x t hk]
  by_cases e : j = k
  ·subst e; rw [if_pos rfl, hG]; simp
  ·rw [if_neg e]; exact h.dom j
 ·rw [get_put x t hk] at hj
  by_cases e : j = k
  ·rw [if_pos e] at hj; cases hj
  ·rw [if_neg e] at hj
   obtain ⟨b', L', l, fr, h1, h2, h3, h4⟩ := h.blk j cs T sz hj
   exact ⟨b', L', l, fr, h1, h2, fun hh => h3 (by rw [own_put x t hk, if_neg e] at hh; exact hh), h4⟩
 ·rw [get_put x t hk] at hj hj'
  by_cases e : j = k
  ·rw [if_pos e] at hj; cases hj
  ·by_cases e' : j' = k
   ·rw [if_pos e'] at hj'; cases hj'
   ·rw [if_neg e] at hj; rw [if_neg e'] at hj'; exact h.inj _ _ _ _ _ _ _ _ _ _ _ _ _ hj hj' g g'
 ·rw [get_put x t hk] at hj
  by_cases e : j = k
  ·rw [if_pos e] at hj; cases hj
  ·rw [if_neg e] at hj
   obtain ⟨b', sz', L', l, h1, h2, h3, h4⟩ := h.mps j cs hj
   refine ⟨b', sz', L', l, h1, h2, h3, fun k' cs' s L2 hk' g => ?_⟩
   rw [get_put x t hk] at hk'
   by_cases e' : k' = k
   ·rw [if_pos e'] at hk'; cases hk'
   ·rw [if_neg e'] at hk'; exact h4 k' cs' s L2 hk' g
 ·rw [get_put x t hk] at hj
  rw [own_put x t hk] at ho'
  have up : ∀ k', k' ≠ k → x.own (t.put k (.lp c ps a a')) k' = true → x.get (t.put k (.lp c ps a a')) k' ≠ some .dead → x.own t k' = true ∧ x.get t k' ≠ some .dead := fun k' e' q1 q2 => by
   rw [get_put x t hk, if_neg e'] at q2; rw [own_put x t hk, if_neg e'] at q1; exact ⟨q1, q2⟩
  by_cases e0 : j = k
  ·rw [if_pos e0] at hj; cases hj
   subst e0
   refine ⟨b, sz, L, r, e, hG, hm, hr, hp, hE, hy, fun k' s L' q1 q2 g => ?_⟩
   by_cases e' : k' = j
   ·exact e'
   ·obtain ⟨q3, q4⟩ := up k' e' q1 q2; exact hu k' s L' q3 q4 g
  ·rw [if_neg e0] at hj ho'
   obtain ⟨b', sz', L', r', e1, h1, h2, h3, h4, h5, h6, h7⟩ := h.lps j c2 ps2 a2 a2' hj ho'
   refine ⟨b', sz', L', r', e1, h1, h2, h3, h4, h5, h6, fun k' s L2 q1 q2 g => ?_⟩
   by_cases e' : k' = k
   ·subst e'
    rw [hG] at g; cases g
    exact absurd (hu j _ _ ho' (by rw [hj]; exact fun hh => by cases hh) h1) e0
   ·obtain ⟨q3, q4⟩ := up k' e' q1 q2; exact h7 k' s L2 q3 q4 g
 ·rw [get_put x t hk] at hd
  rw [own_put x t hk] at hj
  by_cases e : j = k
  ·subst e; rw [hG] at g; cases g; exact hμ
  ·rw [if_neg e] at hj hd; exact h.own j b' s L2 hj hd g
theorem Inv.drop (h : Inv P gl μ G x t m) {b : Nat} {r : Loop} (hm : m b = some (.loop r)) (hμ : μ b = none) (hu : ∀ k s L, x.own t k = true → x.get t k ≠ some .dead → G k ≠ some (b, s, L)) : Inv P gl μ G x t (m.del b) := by
 have off : ∀ b', b' ≠ b → (m.del b) b' = m b' := fun b' e => by unfold Mem.del; rw [if_neg e]
 refine ⟨h.glob, h.dom, fun k cs T sz hk => ?_, h.inj, fun k cs hk => ?_, fun k c ps a a' hk ho => ?_, fun b' o hb' => ?_, h.own⟩
 ·obtain ⟨b', L, l, fr, h1, h2, h3⟩ := h.blk k cs T sz hk
  have e : b' ≠ b := fun e => by subst e; rw [hm] at h2; cases h2
  exact ⟨b', L, l, fr, h1, by rw [off _ e]; exact h2, h3⟩
 ·obtain ⟨b', sz, L, l, h1, h2, h3⟩ := h.mps k cs hk
  have e : b' ≠ b := fun e => by subst e; rw [hm] at h2; exact mapObj_loop (Option.some.inj h2).symm
  exact ⟨b', sz, L, l, h1, by rw [off _ e]; exact h2, h3⟩
 ·obtain ⟨b', sz, L, r0, e0, h1, h2, h3⟩ := h.lps k c ps a a' hk ho
  have e : b' ≠ b := fun e => by subst e; exact hu k _ _ ho (by rw [hk]; exact fun hh => by cases hh) h1
  exact ⟨b', sz, L, r0, e0, h1, by rw [off _ e]; exact h2, h3⟩
 ·have e : b' ≠ b := fun e => by subst e; rw [hμ] at hb'; cases hb'
  rw [off _ e]; exact h.low b' o hb'
end Go.Vx.Ev
