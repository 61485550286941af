import Derived.Test.YtleofbpepfmfgaaGreatDoorVxEvE
set_option linter.unusedSimpArgs false
set_option linter.unusedVariables false
namespace Go.Vx.Ev
open Go Go.Vx
variable {gl : List Nat} {μ : Mem} {G : Ghost} {x : Cx} {t : St} {m : Mem} {c e : Env} {P : Program}

abbrev CallEv := Cx → Nat → List Value → St → Nat → Option (Value × St × Nat)
def YB : Nat := 1099511627776
def callGof (call : CallEv) (x : Cx) (f : Nat) (vs : List Value) (t : St) (nx : Nat) : Option (AV × St × Nat) :=
 match Nat.ble YB f with | true => none | false => match call ⟨[], t :: (x.wr ++ x.ro)⟩ f vs .lf nx with
 | some (v, t', nx') => bif flat v then some (.val v, t, nx) else some (.val v, t'.merge t, nx')
 | none => none
def fnOf : Option Value → Option (Nat × List Value × List Value)
 | some (.func (.func g) ⟨a⟩ ⟨b⟩) => some (g, a, b)
 | _ => none
def yOf : Option Value → Option Nat
 | some (.func (.yield k) ⟨[]⟩ ⟨[]⟩) => some k
 | _ => none
def evO (call : CallEv) (gl : List Nat) (x : Cx) (o : IOp) (c : Env) (t : St) (nx : Nat) : Option (AV × St × Nat) :=
 match o with
 | .call f args => (match Nat.ble YB f with | true => none | false => match cats gl c args with | some vs => (match call x f vs t nx with | some (v, t', nx') => some (.val v, t', nx') | none => none) | none => none)
 | .callV f args => (match cats gl c args with
  | some vs => (match fnOf (cat gl f c) with
   | some (g, a, b) => (match Nat.ble YB g with | true => none | false => match call x g (a ++ vs ++ b) t nx with | some (v, t', nx') => some (.val v, t', nx') | none => none)
   | none => (match yOf (cat gl f c) with
    | some k => (match call x (YB + k) vs t nx with | some (v, t', nx') => some (.val v, t', nx') | none => none)
    | none => none))
  | none => none)
 | .callG f args => (match cats gl c args with | some vs => callGof call x f vs t nx | none => none)
 | .callVG f args => (match fnOf (cat gl f c), cats gl c args with | some (g, a, b), some vs => callGof call x g (a ++ vs ++ b) t nx | _, _ => none)
 | o => (match pv gl o c with | some u => some (u, t, nx) | none => mo gl x o c t nx)

def CallOK (P : Program) (gl : List Nat) (call : CallEv) : Prop :=
 ∀ x f vs t nx v t' nx', call x f vs t nx = some (v, t', nx') → ∀ μ G m vs', Inv P gl μ G x t m → RVL G vs vs' →
  (Nat.ble YB f = false → CallsM P f vs' m (fun e m' => ∃ G' v', Ghost.le G G' ∧ Inv P gl μ G' x t' m' ∧ RV G' v v' ∧ e = .returned v')) ∧
  (∀ k, f = YB + k → ∀ b s L, G k = some (b, s, L) → YieldM P b vs' m (fun e m' => ∃ G' v', Ghost.le G G' ∧ Inv P gl μ G' x t' m' ∧ RV G' v v' ∧ e = .returned v'))
theorem CallsM.weak {f : Nat} {vs : List Value} {R R' : Ending → Mem → Prop} (h : CallsM P f vs m R) (k : ∀ e m', R e m' → ∃ m'', Mem.le m'' m' ∧ R' e m'') : CallsM P f vs m R' := by
 refine ⟨h.1, fun w hs => (h.2 w hs).mono fun e w' hw => ?_⟩
 obtain ⟨m', h1, h2⟩ := hw
 obtain ⟨m'', h3, h4⟩ := k e m' h2
 refine ⟨m'', ⟨fun b o hb => h1.sub b o (h3 b o hb), h1.size, fun b hb hm => ?_, h1.tape, h1.os, h1.out⟩, h4⟩
 obtain ⟨g1, g2⟩ := h1.keep b hb hm
 refine ⟨?_, g2⟩
 cases hm' : m'' b with
 | none => rfl
 | some o => rw [h3 b o hm'] at g1; cases g1

theorem getL_app (a b : List St) (k : Nat) : getL (a ++ b) k = match getL a k with | some o => some o | none => getL b k := by
 induction a with
 | nil => rfl
 | cons t ts ih => simp only [List.cons_append, getL]; cases t.get k with
  | some o => rfl
  | none => exact ih
theorem Inv.enter (h : Inv P gl μ G x t m) : Inv P gl m G ⟨[], t :: (x.wr ++ x.ro)⟩ .lf m := by
 have hget : ∀ k, Cx.get ⟨[], t :: (x.wr ++ x.ro)⟩ .lf k = x.get t k := fun k => by
  unfold Cx.get; simp only [Tr.get_lf, getL, getL_app]; rfl
 have hown : ∀ k, Cx.own ⟨[], t :: (x.wr ++ x.ro)⟩ .lf k = false := fun k => rfl
 refine ⟨h.glob, fun k => by rw [hget]; exact h.dom k, fun k cs T sz hk => ?_, fun k k' cs T sz cs' T' sz' b s1 L1 s2 L2 hk hk' => ?_, fun k cs hk => ?_, (fun k c ps a a' hk ho => by rw [hown] at ho; cases ho), fun _ _ h => h, (fun k b s L hk => by rw [hown] at hk; cases hk)⟩
 ·rw [hget] at hk
  obtain ⟨b, L, l, fr, h1, h2, h3, h4⟩ := h.blk k cs T sz hk
  exact ⟨b, L, l, fr, h1, h2, (fun hh => by rw [hown] at hh; cases hh), h4⟩
 ·rw [hget] at hk hk'; exact h.inj _ _ _ _ _ _ _ _ _ _ _ _ _ hk hk'
 ·rw [hget] at hk
  obtain ⟨b, sz, L, l, h1, h2, h3, h4⟩ := h.mps k cs hk
  exact ⟨b, sz, L, l, h1, h2, h3, fun k' cs' s L' hk' => by rw [hget] at hk'; exact h4 k' cs' s L' hk'⟩
theorem merge_get (x : Cx) (t t' : St) (k : Nat) : x.get (t'.merge t) k = match t'.get k with | some o => some o | none => x.get t k := by
 unfold Cx.get; rw [Tr.get_merge]
 cases t'.get k <;> rfl
theorem merge_own (x : Cx) (t t' : St) (k : Nat) : x.own (t'.merge t) k = match t'.get k with | some _ => true | none => x.own t k := by
 unfold Cx.own; rw [Tr.get_merge]
 cases t'.get k <;> rfl
theorem Inv.leave (h : Inv P gl μ G x t m) {G' : Ghost} {t' : St} {m' : Mem} (hle : Ghost.le G G') (k : Inv P gl m G' ⟨[], t :: (x.wr ++ x.ro)⟩ t' m') : Inv P gl μ G' x (t'.merge t) m' := by
 have hget : ∀ j, Cx.get ⟨[], t :: (x.wr ++ x.ro)⟩ t' j = x.get (t'.merge t) j := fun j => by
  rw [merge_get]; unfold Cx.get; simp only [getL, getL_app]; rfl
 have hG : ∀ j y, x.own t j = true → G' j = some y → G j = some y := fun j y ho hy => by
  cases hg : G j with
  | none => exact absurd ((h.dom j).2 hg) (own_get ho)
  | some z => rw [hle j z hg] at hy; exact hy
 refine ⟨k.glob, fun j => by rw [← hget]; exact k.dom j, fun j cs T sz hj => ?_, fun j j' cs T sz cs' T' sz' b s1 L1 s2 L2 hj hj' => ?_, fun j cs hj => ?_, fun j c ps a a' hj ho => ?_, fun b o hb => k.low b o (h.low b o hb), fun j b s L hj hd hg => ?_⟩
 ·have hj0 := hj
  rw [← hget] at hj
  obtain ⟨b, L, l, fr, h1, h2, h3, h4⟩ := k.blk j cs T sz hj
  refine ⟨b, L, l, fr, h1, h2, fun hh => ?_, h4⟩
  rw [merge_own] at hh
  rw [merge_get] at hj0
  cases ht : t'.get j with
  | some o => exact h3 (by unfold Cx.own; rw [ht])
  | none =>
   rw [ht] at hh hj0
   simp only at hh hj0
   obtain ⟨b0, L0, l0, fr0, g1, g2, g3, g4⟩ := h.blk j cs T sz hj0
   have := hG j _ hh h1
   rw [g1] at this; cases this
   have hm := k.low _ _ g2
   rw [h2] at hm; cases hm
   exact g3 hh
 ·rw [← hget] at hj hj'; exact k.inj _ _ _ _ _ _ _ _ _ _ _ _ _ hj hj'
 ·rw [← hget] at hj
  obtain ⟨b, sz, L, l, h1, h2, h3, h4⟩ := k.mps j cs hj
  exact ⟨b, sz, L, l, h1, h2, h3, fun k' cs' s L' hk' => by rw [← hget] at hk'; exact h4 k' cs' s L' hk'⟩
 ·have hj0 := hj
  rw [merge_own] at ho
  rw [merge_get] at hj0
  cases ht : t'.get j with
  | some o =>
   have hown' : Cx.own ⟨[], t :: (x.wr ++ x.ro)⟩ t' j = true := by unfold Cx.own; rw [ht]
   rw [← hget] at hj
   obtain ⟨b, sz, L, r, e, h1, h2, h3, h4, h5, h6, h7⟩ := k.lps j c ps a a' hj hown'
   refine ⟨b, sz, L, r, e, h1, h2, h3, h4, h5, h6, fun k' s L' q1 q2 g => ?_⟩
   rw [merge_own] at q1
   cases ht' : t'.get k' with
   | some o' => exact h7 k' s L' (by unfold Cx.own; rw [ht']) (by rw [hget]; exact q2) g
   | none =>
    rw [ht'] at q1
    rw [merge_get, ht'] at q2
    have g0 := hG k' _ q1 g
    cases hh : x.get t k' with
    | none => rw [(h.dom k').1 hh] at g0; cases g0
    | some o' =>
     have hmb : m b ≠ none := by
      cases o' with
      | dead => exact absurd hh q2
      | bl cs T sz => obtain ⟨b', _, _, _, z1, z2, _⟩ := h.blk k' _ _ _ hh; rw [g0] at z1; cases z1; rw [z2]; exact fun hh => by cases hh
      | mp cs => obtain ⟨b', _, _, _, z1, z2, _⟩ := h.mps k' _ hh; rw [g0] at z1; cases z1; rw [z2]; exact fun hh => by cases hh
      | lp c3 ps3 a3 a3' => obtain ⟨b', _, _, _, _, z1, z2, _⟩ := h.lps k' _ _ _ _ hh q1; rw [g0] at z1; cases z1; rw [z2]; exact fun hh => by cases hh
     exact absurd (k.own j b _ _ hown' (by rw [hj]; exact fun hh => by cases hh) h1) hmb
  | none =>
   rw [ht] at ho hj0
   simp only at ho hj0
   obtain ⟨b, sz, L, r, e, h1, h2, h3, h4, h5, h6, h7⟩ := h.lps j c ps a a' hj0 ho
   refine ⟨b, sz, L, r, e, hle _ _ h1, k.low _ _ h2, h3, h4, h5.mono hle, h6, fun k' s L' q1 q2 g => ?_⟩
   rw [merge_own] at q1
   cases ht' : t'.get k' with
   | some o' =>
    have := k.own k' b _ _ (by unfold Cx.own; rw [ht']) (by rw [hget]; exact q2) g
    rw [h2] at this; cases this
   | none =>
    rw [ht'] at q1
    rw [merge_get, ht'] at q2
    exact h7 k' s L' q1 q2 (hG k' _ q1 g)
 ·rw [merge_own] at hj
  have hd0 := hd
  rw [merge_get] at hd
  have hm : m b = none → μ b = none := fun hm => by
   cases hh : μ b with
   | none => rfl
   | some o => rw [h.low b o hh] at hm; cases hm
  cases ht : t'.get j with
  | some o => exact hm (k.own j b s L (by unfold Cx.own; rw [ht]) (by rw [hget]; exact hd0) hg)
  | none => rw [ht] at hj hd; exact h.own j b s L hj hd (hG j _ hj hg)
theorem Inv.push (h : Inv P gl μ G x t m) : Inv P gl μ G ⟨t :: x.wr, x.ro⟩ .lf m := by
 have hget : ∀ k, Cx.get ⟨t :: x.wr, x.ro⟩ .lf k = x.get t k := fun k => by unfold Cx.get; simp only [Tr.get_lf, getL]; cases t.get k <;> rfl
 have hown : ∀ k, Cx.own ⟨t :: x.wr, x.ro⟩ .lf k = x.own t k := fun k => by unfold Cx.own; simp only [Tr.get_lf, getL]; cases t.get k <;> rfl
 exact ⟨h.glob, fun k => by rw [hget]; exact h.dom k, fun k cs T sz hk => by rw [hget] at hk; rw [hown]; exact h.blk k cs T sz hk, fun k k' cs T sz cs' T' sz' b s1 L1 s2 L2 hk hk' => by rw [hget] at hk hk'; exact h.inj _ _ _ _ _ _ _ _ _ _ _ _ _ hk hk', (fun k cs hk => by
  rw [hget] at hk
  obtain ⟨b, sz, L, l, h1, h2, h3, h4⟩ := h.mps k cs hk
  exact ⟨b, sz, L, l, h1, h2, h3, fun k' cs' s L' hk' => by rw [hget] at hk'; exact h4 k' cs' s L' hk'⟩), (fun k c ps a a' hk ho => by
  rw [hget] at hk; rw [hown] at ho
  obtain ⟨b, sz, L, r, e, h1, h2, h3, h4, h5, h6, h7⟩ := h.lps k c ps a a' hk ho
  exact ⟨b, sz, L, r, e, h1, h2, h3, h4, h5, h6, fun k' s L' q1 q2 g => by rw [hown] at q1; rw [hget] at q2; exact h7 k' s L' q1 q2 g⟩), h.low, fun k b s L hk hd => by rw [hown] at hk; rw [hget] at hd; exact h.own k b s L hk hd⟩
theorem Inv.pop {t' : St} (h : Inv P gl μ G ⟨t :: x.wr, x.ro⟩ t' m) : Inv P gl μ G x (t'.merge t) m := by
 have hget : ∀ k, Cx.get ⟨t :: x.wr, x.ro⟩ t' k = x.get (t'.merge t) k := fun k => by rw [merge_get]; unfold Cx.get; simp only [getL]; cases t'.get k <;> cases t.get k <;> rfl
 have hown : ∀ k, Cx.own ⟨t :: x.wr, x.ro⟩ t' k = x.own (t'.merge t) k := fun k => by rw [merge_own]; unfold Cx.own; simp only [getL]; cases t'.get k <;> cases t.get k <;> rfl
 exact ⟨h.glob, fun k => by rw [← hget]; exact h.dom k, fun k cs T sz hk => by rw [← hget] at hk; rw [← hown]; exact h.blk k cs T sz hk, fun k k' cs T sz cs' T' sz' b s1 L1 s2 L2 hk hk' => by rw [← hget] at hk hk'; exact h.inj _ _ _ _ _ _ _ _ _ _ _ _ _ hk hk', (fun k cs hk => by
  rw [← hget] at hk
  obtain ⟨b, sz, L, l, h1, h2, h3, h4⟩ := h.mps k cs hk
  exact ⟨b, sz, L, l, h1, h2, h3, fun k' cs' s L' hk' => by rw [← hget] at hk'; exact h4 k' cs' s L' hk'⟩), (fun k c ps a a' hk ho => by
  rw [← hget] at hk; rw [← hown] at ho
  obtain ⟨b, sz, L, r, e, h1, h2, h3, h4, h5, h6, h7⟩ := h.lps k c ps a a' hk ho
  exact ⟨b, sz, L, r, e, h1, h2, h3, h4, h5, h6, fun k' s L' q1 q2 g => by rw [← hown] at q1; rw [← hget] at q2; exact h7 k' s L' q1 q2 g⟩), h.low, fun k b s L hk hd => by rw [← hown] at hk; rw [← hget] at hd; exact h.own k b s L hk hd⟩

theorem callG_sound {call : CallEv} (hc : CallOK P gl call) {f nx nx' : Nat} {vs vs' : List Value} {u : AV} {t' : St} {F : AV → Mem → Prop} {X : List PanicEntry → Mem → Prop} (h : callGof call x f vs t nx = some (u, t', nx')) (hI : Inv P gl μ G x t m) (hv : RVL G vs vs')
  (hF : ∀ G' u' m', Ghost.le G G' → Inv P gl μ G' x t' m' → RA G' u u' → F u' m') : WCallG P f vs' m (fun v m' => F (.val v) m') X := by
 unfold callGof at h
 split at h <;> try (cases h; done)
 rename_i hyb
 split at h <;> try (cases h; done)
 rename_i v t1 nx1 h1
 have h2 := (hc _ _ _ _ _ _ _ _ h1 m G m vs' hI.enter hv).1 hyb
 cases hf : flat v with
 | true =>
  rw [hf] at h; cases h
  refine WCallG.pure (v := v) (CallsM.weak h2 fun e m' hR => ?_) (hF G _ m (Ghost.le.refl G) hI ⟨v, flat_self v hf, rfl⟩)
  obtain ⟨G', v', g1, g2, g3, g4⟩ := hR
  rw [flat_eq v v' hf g3] at g4
  exact ⟨m, g2.low, g4, rfl⟩
 | false =>
  rw [hf] at h; cases h
  refine WCallG.mk h2 fun e m' hR => ?_
  obtain ⟨G', v', g1, g2, g3, rfl⟩ := hR
  exact ⟨g2.low, hF G' _ m' g1 (hI.leave g1 g2) ⟨v', g3, rfl⟩⟩
theorem fnOf_ok {y : Opd} (hg : GOK gl G) (hE : RE G c e) {g : Nat} {a b : List Value} (h : fnOf (cat gl y c) = some (g, a, b)) : ∃ a' b', y.at e = some (.func (.func g) ⟨a'⟩ ⟨b'⟩) ∧ RVL G a a' ∧ RVL G b b' := by
 unfold fnOf at h
 split at h <;> try (cases h; done)
 rename_i hy; cases h
 obtain ⟨w, w1, w2⟩ := cat_at hg hE hy
 simp only [RV] at w2
 obtain ⟨f', a', b', h0, h1, h2, rfl⟩ := w2
 obtain rfl := h0.func
 exact ⟨a', b', w1, h1, h2⟩
theorem yOf_ok {y : Opd} (hg : GOK gl G) (hE : RE G c e) {k : Nat} (h : yOf (cat gl y c) = some k) : ∃ b s L, y.at e = some (.func (.yield b) ⟨[]⟩ ⟨[]⟩) ∧ G k = some (b, s, L) := by
 unfold yOf at h
 split at h <;> try (cases h; done)
 rename_i hy; cases h
 obtain ⟨w, w1, w2⟩ := cat_at hg hE hy
 simp only [RV] at w2
 obtain ⟨f', a', b', h0, h1, h2, rfl⟩ := w2
 obtain ⟨b, s, L, h3, rfl⟩ := h0
 rw [h1.nil, h2.nil] at w1
 exact ⟨b, s, L, w1, h3⟩
theorem evO_sound {call : CallEv} (hc : CallOK P gl call) {o : IOp} {nx nx' : Nat} {u : AV} {t' : St} {F : AV → Mem → Prop} {X : List PanicEntry → Mem → Prop} (hp : evO call gl x o c t nx = some (u, t', nx')) (hI : Inv P gl μ G x t m) (hE : RE G c e)
  (hF : ∀ G' u' m', Ghost.le G G' → Inv P gl μ G' x t' m' → RA G' u u' → F u' m') : vop P o e m F X := by
 have hg := hI.glob
 unfold evO at hp
 split at hp
 ·rename_i f args
  split at hp <;> try (cases hp; done)
  rename_i hyb
  split at hp <;> try (cases hp; done)
  rename_i vs hvs
  split at hp <;> try (cases hp; done)
  rename_i v t1 nx1 h1; cases hp
  obtain ⟨vs', v1, v2⟩ := cats_ats hg hE hvs
  simp only [vop, v1]
  refine WCall.mk ((hc _ _ _ _ _ _ _ _ h1 μ G m vs' hI v2).1 hyb) fun e m' hR => ?_
  obtain ⟨G', v', g1, g2, g3, rfl⟩ := hR
  exact hF G' _ m' g1 g2 ⟨v', g3, rfl⟩
 ·rename_i f args
  split at hp <;> try (cases hp; done)
  rename_i vs hvs
  obtain ⟨vs', v1, v2⟩ := cats_ats hg hE hvs
  split at hp
  ·rename_i g a b hf
   split at hp <;> try (cases hp; done)
   rename_i hyb
   split at hp <;> try (cases hp; done)
   rename_i v t1 nx1 h1; cases hp
   obtain ⟨a', b', f1, f2, f3⟩ := fnOf_ok hg hE hf
   simp only [vop, v1, f1]
   refine WCall.mk ((hc _ _ _ _ _ _ _ _ h1 μ G m _ hI (RVL.app (RVL.app f2 v2) f3)).1 hyb) fun e m' hR => ?_
   obtain ⟨G', v', g1, g2, g3, rfl⟩ := hR
   exact hF G' _ m' g1 g2 ⟨v', g3, rfl⟩
  ·split at hp <;> try (cases hp; done)
   rename_i k hk
   split at hp <;> try (cases hp; done)
   rename_i v t1 nx1 h1; cases hp
   obtain ⟨b, s, L, f1, f2⟩ := yOf_ok hg hE hk
   simp only [vop, v1, f1]
   unfold WYield
   refine ⟨_, (hc _ _ _ _ _ _ _ _ h1 μ G m vs' hI v2).2 k rfl b s L f2, fun e m' hR => ?_⟩
   obtain ⟨G', v', g1, g2, g3, rfl⟩ := hR
   exact hF G' _ m' g1 g2 ⟨v', g3, rfl⟩
 ·rename_i f args
  split at hp <;> try (cases hp; done)
  rename_i vs hvs
  obtain ⟨vs', v1, v2⟩ := cats_ats hg hE hvs
  simp only [vop, v1]
  exact callG_sound hc hp hI v2 hF
 ·rename_i f args
  split at hp <;> try (cases hp; done)
  rename_i g a b vs hf hvs
  obtain ⟨vs', v1, v2⟩ := cats_ats hg hE hvs
  obtain ⟨a', b', f1, f2, f3⟩ := fnOf_ok hg hE hf
  simp only [vop, v1, f1]
  exact callG_sound hc hp hI (RVL.app (RVL.app f2 v2) f3) hF
 ·split at hp
  ·rename_i u0 hu; cases hp
   obtain ⟨u', h1, h2⟩ := pv_sound hg hE hu
   exact h2 P m F X (hF G u' m (Ghost.le.refl G) hI h1)
  ·exact mo_sound hp hI hE hF

def isB (u : AV) : Bool := match u with | .val (.bool _) => true | _ => false
theorem splitF_in {s : Bool} {F : AV → Mem → Prop} {u u' : AV} {m' : Mem} (hs : (!s || isB u) = true) (hr : RA G u u') (h : F u' m') : splitF s F u' m' := by
 cases s with
 | false => exact h
 | true =>
  unfold isB at hs
  split at hs <;> try (cases hs; done)
  obtain ⟨v, h1, rfl⟩ := hr
  cases h1.bool
  rename_i b
  simp only [splitF]; unfold Br
  cases b <;> exact h
def evE (call : CallEv) (gl : List Nat) (x : Cx) (y : E) (c : Env) (t : St) (nx : Nat) : Option (Env × St × Nat) :=
 match (match y.g with
  | none => some true
  | some (s, want) => (match c s with
   | some (.val (.bool b)) => some (match b, want with | true, true => true | false, false => true | _, _ => false)
   | some (.val (.tuple _)) => some false
   | _ => none)) with
 | some true => (match evO call gl x y.o c t nx with | some (u, t', nx') => bif !y.s || isB u then some (c.put y.d u, t', nx') else none | none => none)
 | some false => some (c.put y.d (.val undef), t, nx)
 | none => none
theorem evE_sound {call : CallEv} (hc : CallOK P gl call) {y : E} {nx nx' : Nat} {c' : Env} {t' : St} {K : Env → Mem → Prop} {X : List PanicEntry → Mem → Prop} (hp : evE call gl x y c t nx = some (c', t', nx')) (hI : Inv P gl μ G x t m) (hE : RE G c e)
  (hK : ∀ G' e' m', Ghost.le G G' → Inv P gl μ G' x t' m' → RE G' c' e' → K e' m') : stepE P y e m K X := by
 have hrun : (match evO call gl x y.o c t nx with | some (u, t', nx') => bif !y.s || isB u then some (c.put y.d u, t', nx') else none | none => none) = some (c', t', nx') → vop P y.o e m (splitF y.s fun u m' => K (e.put y.d u) m') X := by
  intro hp
  split at hp <;> try (cases hp; done)
  rename_i u t1 nx1 h1
  cases hs : (!y.s || isB u) with
  | false => rw [hs] at hp; cases hp
  | true =>
   rw [hs] at hp; cases hp
   exact evO_sound hc h1 hI hE fun G' u' m' g1 g2 g3 => splitF_in hs g3 (hK G' _ m' g1 g2 ((hE.mono g1).put y.d g3))
 unfold evE at hp
 unfold stepE
 cases hg : y.g with
 | none => rw [hg] at hp; exact hrun hp
 | some p =>
  obtain ⟨s, want⟩ := p
  rw [hg] at hp
  simp only at hp ⊢
  have hskip : some (c.put y.d (.val undef), t, nx) = some (c', t', nx') → K (e.put y.d (.val undef)) m := fun hp => by
   cases hp; exact hK G _ m (Ghost.le.refl G) hI (hE.put y.d ⟨undef, flat_self _ rfl, rfl⟩)
  split at hp
  ·-- runs
   rename_i q hq
   split at hq <;> try (cases hq; done)
   rename_i b hb
   obtain ⟨v, v1, w, v2, rfl⟩ := hE _ _ hb
   cases v2.bool
   simp only [v1]
   cases b <;> cases want <;> first | (cases hq; done) | exact hrun hp
  ·rename_i q hq
   split at hq <;> try (cases hq; done)
   ·rename_i b hb
    obtain ⟨v, v1, w, v2, rfl⟩ := hE _ _ hb
    cases v2.bool
    simp only [v1]
    cases b <;> cases want <;> first | (cases hq; done) | exact hskip hp
   ·rename_i vs hb
    obtain ⟨v, v1, w, v2, rfl⟩ := hE _ _ hb
    obtain ⟨vs⟩ := vs
    obtain ⟨ws, w1, rfl⟩ := v2.tuple
    simp only [v1]
    exact hskip hp
  ·cases hp
def evRun (call : CallEv) (gl : List Nat) (x : Cx) : List E → Env → St → Nat → Option (Env × St × Nat)
 | [], c, t, nx => some (c, t, nx)
 | y :: ys, c, t, nx => match evE call gl x y c t nx with | some (c', t', nx') => evRun call gl x ys c' t' nx' | none => none
theorem evRun_sound {call : CallEv} (hc : CallOK P gl call) {X : List PanicEntry → Mem → Prop} : ∀ {ys : List E} {nx nx' : Nat} {c c' e : Env} {t t' : St} {G : Ghost} {m : Mem} {K : Env → Mem → Prop}, evRun call gl x ys c t nx = some (c', t', nx') → Inv P gl μ G x t m → RE G c e →
  (∀ G' e' m', Ghost.le G G' → Inv P gl μ G' x t' m' → RE G' c' e' → K e' m') → runI P X ys K e m := by
 intro ys
 induction ys with
 | nil => intro nx nx' c c' e t t' G m K hp hI hE hK; cases hp; exact hK G e m (Ghost.le.refl G) hI hE
 | cons y ys ih =>
  intro nx nx' c c' e t t' G m K hp hI hE hK
  simp only [evRun] at hp
  split at hp <;> try (cases hp; done)
  rename_i c1 t1 nx1 h1
  simp only [runI]
  exact evE_sound hc h1 hI hE fun G1 e1 m1 g1 g2 g3 => ih hp g2 g3 fun G2 e2 m2 k1 k2 k3 => hK G2 e2 m2 (g1.trans k1) k2 k3
end Go.Vx.Ev
set_option linter.unusedSimpArgs false
set_option linter.unusedVariables false
namespace Go.Vx.Ev
open Go Go.Vx
variable {gl : List Nat} {μ : Mem} {G : Ghost} {x : Cx} {t : St} {m : Mem} {c e : Env} {P : Program}

def beqB (a b : Bool) : Bool := match a, b with | true, true => true | false, false => true | _, _ => false
theorem beqB_ne {a b : Bool} (h : beqB a b = false) : a ≠ b := fun e => by subst e; cases a <;> cases h
def evOps (call : CallEv) (gl : List Nat) : Cx → RG → Env → St → Nat → Option (Env × St × Nat)
 | _, .nil, c, t, nx => some (c, t, nx)
 | x, .run l r, c, t, nx => match evRun call gl x l c t nx with | some (c', t', nx') => evOps call gl x r c' t' nx' | none => none
 | x, .sc s want mods body d y r, c, t, nx => match c s with
  | some (.val (.bool b)) =>
   match (match beqB b want with
    | true => (match evOps call gl ⟨[], t :: (x.wr ++ x.ro)⟩ body c .lf nx with | some (c', _, _) => (match cat gl y c' with | some (.bool v) => some v | _ => none) | none => none)
    | false => some false) with
   | some v => evOps call gl x r ((clearM c mods).upd d (.val (.bool (scB b want v)))) t nx
   | none => none
  | _ => none
theorem evOps_sound {call : CallEv} (hc : CallOK P gl call) {X : List PanicEntry → Mem → Prop} : ∀ {g : RG} {μ : Mem} {x : Cx} {nx nx' : Nat} {c c' e : Env} {t t' : St} {G : Ghost} {m : Mem} {K : Env → Mem → Prop}, evOps call gl x g c t nx = some (c', t', nx') → Inv P gl μ G x t m → RE G c e →
  (∀ G' e' m', Ghost.le G G' → Inv P gl μ G' x t' m' → RE G' c' e' → K e' m') → opsI P X g K e m := by
 intro g
 induction g with
 | nil => intro μ x nx nx' c c' e t t' G m K hp hI hE hK; cases hp; exact hK G e m (Ghost.le.refl G) hI hE
 | run l r ih =>
  intro μ x nx nx' c c' e t t' G m K hp hI hE hK
  simp only [evOps] at hp
  split at hp <;> try (cases hp; done)
  rename_i c1 t1 nx1 h1
  simp only [opsI]
  exact evRun_sound hc h1 hI hE fun G1 e1 m1 g1 g2 g3 => ih hp g2 g3 fun G2 e2 m2 k1 k2 k3 => hK G2 e2 m2 (g1.trans k1) k2 k3
 | sc s want mods body d y r ihb ihr =>
  intro μ x nx nx' c c' e t t' G m K hp hI hE hK
  simp only [evOps] at hp
  split at hp <;> try (cases hp; done)
  rename_i b hb
  obtain ⟨v, v1, w, v2, rfl⟩ := hE _ _ hb
  cases v2.bool
  simp only [opsI, v1]
  split at hp <;> try (cases hp; done)
  rename_i v hv
  refine WSc.mk (v := v) (fun hbw => ?_) (ihr hp hI ((hE.clear mods).upd d ⟨_, RV.bool', rfl⟩) hK)
  split at hv
  ·split at hv <;> try (cases hv; done)
   rename_i c1 t1 nx1 h1
   split at hv <;> try (cases hv; done)
   rename_i v' hy; cases hv
   refine ihb h1 hI.enter hE fun G' e' m' _ q g => ⟨q.low, ?_⟩
   obtain ⟨w, w1, w2⟩ := cat_at q.glob g hy
   cases w2.bool; exact w1
  ·rename_i hbq; exact absurd hbw (beqB_ne hbq)
end Go.Vx.Ev
