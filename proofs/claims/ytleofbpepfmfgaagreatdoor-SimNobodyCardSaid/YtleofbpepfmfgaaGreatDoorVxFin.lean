/- VX, part 18: a function whose body is of the form is called as the form says. -/
import Derived.Test.YtleofbpepfmfgaaGreatDoorVxIRS2
set_option linter.unusedSimpArgs false
set_option linter.unusedVariables false
namespace Go.Vx
open Go
variable {P : Program} {m0 : Mem} {w0 : World} {N : Nat}

def okIR (P : Program) (N : Nat) : Code → IR → Bool
  | .skip, .skip => true
  | .label _, .skip => true
  | .ret, .ret => true
  | .exit i, .exit j => Nat.beq i j
  | .region _ ops false, .ops g => (match okG P N ops g none ops.toList 0 with | some ([], _) => true | _ => false)
  | .region _ ops true, .tree l t => okTs P N ops ops.toList l && fullM ops l t 0 none
  | .seq a b, .seq x y => okIR P N a x && okIR P N b y
  | .seq a b, .seqj _ x y => okIR P N a x && okIR P N b y
  | .cond c a b, .cond d x y => okX d c && okIR P N a x && okIR P N b y
  | .block i a, .block j x => Nat.beq i j && okIR P N a x
  | .loop a, .loop _ x => okIR P N a x
  | _, _ => false
/-- What a postcondition of the form says of slots and world. -/
def PostOf (m0 : Mem) (w0 : World) (N : Nat) (Q : Post) : Exit → Act → World → Prop := fun x a w =>
  match x with
  | .panic ch => ∃ m, Step m0 w0 m w ∧ a.defers = [] ∧ Q (.panic ch) (fun _ => none) m
  | x => ∃ e m, Rel m0 w0 N e m a w ∧ Q x e m
theorem covers_find {e : Env} : ∀ {l : List (Nat × AV)}, covers e l → ∀ t v, findL t l = some v → e t = some v := by
  intro l
  induction l with
  | nil => intro _ t v h; cases h
  | cons p l ih =>
    obtain ⟨k, u⟩ := p
    intro h t v hf
    simp only [findL] at hf
    cases hb : Nat.beq t k with
    | true => rw [hb] at hf; simp only [cond_true, Option.some.injEq] at hf; subst hf; rw [beq_ff hb]; exact h.1
    | false => rw [hb] at hf; exact ih h.2 t v hf
theorem over_weak {e e' : Env} {ms : List (Nat × Nat)} {l : List (Nat × AV)} (hc : covers e' l) (hm : Mod ms e e') : ∀ t v, over e ms l t = some v → e' t = some v := fun t v h => by
  unfold over at h
  cases ht : inM t ms with
  | true => rw [ht] at h; exact covers_find hc t v h
  | false => rw [ht] at h; exact hm t v (by unfold clearM; rw [ht]; exact h)
theorem PostOf.mono {Q Q' : Post} (h : ∀ x e m, Q x e m → Q' x e m) {x : Exit} {a : Act} {w : World} (k : PostOf m0 w0 N Q x a w) : PostOf m0 w0 N Q' x a w := by
  cases x <;> first | (obtain ⟨e, m, h1, h2⟩ := k; exact ⟨e, m, h1, h _ _ _ h2⟩) | (obtain ⟨m, h1, h2, h3⟩ := k; exact ⟨m, h1, h2, h _ _ _ h3⟩)
theorem ir_sound (hmix : P.follows .mixedOrders = true) : ∀ (x : IR) (c : Code) (Q : Post) (e : Env) (m : Mem) (a : Act) (w : World), okIR P N c x = true → x.okW = true → Rel m0 w0 N e m a w → wpI P x Q e m → c.wp P (PostOf m0 w0 N Q) a w := by
  intro x
  induction x with
  | skip =>
    intro c Q e m a w hok _ h hw
    cases c <;> simp only [okIR] at hok <;> first | (cases hok; done) | skip
    · exact wp_skip ⟨e, m, h, hw⟩
    · exact wp_label ⟨e, m, h, hw⟩
  | ret =>
    intro c Q e m a w hok _ h hw
    cases c <;> simp only [okIR] at hok <;> first | (cases hok; done) | skip
    exact wp_ret ⟨e, m, h, hw⟩
  | exit id =>
    intro c Q e m a w hok _ h hw
    cases c <;> simp only [okIR] at hok <;> first | (cases hok; done) | skip
    obtain rfl := beq_ff hok
    exact wp_exit ⟨e, m, h, hw⟩
  | ops g =>
    intro c Q e m a w hok _ h hw
    cases c <;> first | (simp [okIR] at hok; done) | skip
    rename_i id ops dr
    cases dr with
    | true => simp [okIR] at hok
    | false =>
      simp only [okIR] at hok
      split at hok <;> first | (cases hok; done) | skip
      rename_i j hg
      refine wp_region ?_
      have := G_sound (Q := PostOf m0 w0 N Q) (ops := ops) (fun ch m' w' a' hx hs hd => ⟨m', hs, hd, hx⟩) g none ops.toList [] 0 j e m a w _ hg (fun i => by simp) (fun x hx => by cases hx) h hw (fun e' m' a' w' hk hrel _ => by
        have hsz := (okG_size g hg).2.1
        simp at hsz
        rw [← hsz, Nat.sub_self]
        exact ⟨e', m', hrel, hk⟩)
      rw [List.range_eq_range']
      simpa using this
  | tree l t =>
    intro c Q e m a w hok _ h hw
    cases c <;> first | (simp [okIR] at hok; done) | skip
    rename_i id ops dr
    cases dr with
    | false => simp [okIR] at hok
    | true =>
      simp only [okIR, Bool.and_eq_true] at hok
      refine wp_region_any hmix ?_
      refine tree_sound (Q := PostOf m0 w0 N Q) hok.1 (fun ch m' w' a' hx hs hd => ⟨m', hs, hd, hx⟩) (fun e' m' a' w' hk hrel => ⟨e', m', hrel, hk⟩) ops.size _ t e m a _ ?_ (fullM_T t 0 _ none (rep_zero _) hok.2) (h.mem (Step.drew h.sub _)) hw
      unfold cntF
      refine Nat.le_trans (List.countP_le_length) ?_
      simp
  | seq x y ihx ihy =>
    intro c Q e m a w hok hw0 h hw
    cases c <;> simp only [okIR] at hok <;> first | (cases hok; done) | skip
    rw [Bool.and_eq_true] at hok
    simp only [IR.okW, Bool.and_eq_true] at hw0
    refine wp_seq (wp_mono (ihx _ _ e m a w hok.1 hw0.1 h hw) fun ex a' w' hp => ?_)
    cases ex with
    | normal => obtain ⟨e', m', h1, h2⟩ := hp; exact ihy _ Q e' m' a' w' hok.2 hw0.2 h1 h2
    | exit j => exact hp
    | goto j => exact hp
    | ret => exact hp
    | panic ch => exact hp
    | outgrown => exact hp
  | seqj ms x y ihx ihy =>
    intro c Q e m a w hok hw0 h hw
    cases c <;> simp only [okIR] at hok <;> first | (cases hok; done) | skip
    rw [Bool.and_eq_true] at hok
    simp only [IR.okW, Bool.and_eq_true] at hw0
    simp only [wpI] at hw
    unfold WJoin at hw
    obtain ⟨σ, vals, inv, h1, h2⟩ := hw
    refine wp_seq (wp_mono (ihx _ _ e m a w hok.1 hw0.1.2 h (wpI_mod hw0.1.1 h1)) fun ex a' w' hp => ?_)
    cases ex with
    | normal =>
      obtain ⟨e', m', g1, g2, g3⟩ := hp
      obtain ⟨s, g4, g5⟩ := g2
      rcases g3 with ⟨_, g3⟩ | g3
      · cases g3
      · exact ihy _ Q _ m' a' w' hok.2 hw0.2 (g1.weak (over_weak g4 g3)) (h2 s m' g5)
    | exit j => obtain ⟨e', m', g1, g2⟩ := hp; exact ⟨e', m', g1, g2.1⟩
    | goto j => obtain ⟨e', m', g1, g2⟩ := hp; exact ⟨e', m', g1, g2.1⟩
    | ret => obtain ⟨e', m', g1, g2⟩ := hp; exact ⟨e', m', g1, g2.1⟩
    | panic ch => obtain ⟨m', g1, g2, g3⟩ := hp; exact ⟨m', g1, g2, g3.1⟩
    | outgrown => obtain ⟨e', m', g1, g2⟩ := hp; exact ⟨e', m', g1, g2.1⟩
  | cond d x y ihx ihy =>
    intro c Q e m a w hok hw0 h hw
    cases c <;> simp only [okIR] at hok <;> first | (cases hok; done) | skip
    rename_i cc ca cb
    simp only [Bool.and_eq_true] at hok
    simp only [IR.okW, Bool.and_eq_true] at hw0
    simp only [wpI] at hw
    split at hw
    · rename_i n
      split at hw <;> first | exact hw.elim | skip
      rename_i c hc
      have hev : a.eval cc = .bool c := okX_eval h hok.1.1 (by simp only [Opd.at, hc])
      have same : ∀ b : Bool, c = b → e.upd n (.val (.bool b)) = e := fun b hb => by
        subst hb
        funext s
        by_cases hs : s = n
        · subst hs; rw [upd_same]; exact hc.symm
        · rw [upd_other _ _ hs]
      unfold Br at hw
      cases c with
      | true => rw [same true rfl] at hw; exact wp_cond_true hev (ihx _ Q e m a w hok.1.2 hw0.1 h hw)
      | false => rw [same false rfl] at hw; exact wp_cond_false hev (ihy _ Q e m a w hok.2 hw0.2 h hw)
    · exact wp_cond_true (okX_eval h hok.1.1 rfl) (ihx _ Q e m a w hok.1.2 hw0.1 h hw)
    · exact wp_cond_false (okX_eval h hok.1.1 rfl) (ihy _ Q e m a w hok.2 hw0.2 h hw)
    · exact hw.elim
  | block id x ih =>
    intro c Q e m a w hok hw0 h hw
    cases c <;> simp only [okIR] at hok <;> first | (cases hok; done) | skip
    rw [Bool.and_eq_true] at hok
    obtain rfl := beq_ff hok.1
    rename_i id' _
    refine wp_block (wp_mono (ih _ _ e m a w hok.2 hw0 h hw) fun ex a' w' hp => ?_)
    cases ex with
    | exit j =>
      obtain ⟨e', m', g1, g2⟩ := hp
      simp only [blockE] at g2
      simp only [Exit.inBlock]
      cases hb : Nat.beq j id' with
      | true => rw [hb] at g2; rw [if_pos (beq_ff hb)]; exact ⟨e', m', g1, g2⟩
      | false => rw [hb] at g2; rw [if_neg (fun hh => by subst hh; simp at hb)]; exact ⟨e', m', g1, g2⟩
    | normal => exact hp
    | goto j => exact hp
    | ret => exact hp
    | panic ch => exact hp
    | outgrown => exact hp
  | loop ms x ih =>
    intro c Q e m a w hok hw0 h hw
    cases c <;> simp only [okIR] at hok <;> first | (cases hok; done) | skip
    simp only [IR.okW, Bool.and_eq_true] at hw0
    simp only [wpI] at hw
    unfold WLoop at hw
    obtain ⟨σ, vals, inv, μ, s0, h1, h2, h3⟩ := hw
    refine wp_loop_ghost (fun n a w => ∃ s m', μ s = n ∧ inv s m' ∧ Rel m0 w0 N (over e ms (vals s)) m' a w) (μ s0) ⟨s0, m, rfl, h2, h.weak (over_weak h1 (Mod.refl _ _))⟩ ?_
    rintro n a' w' ⟨s, m', rfl, hi, hrel⟩
    refine wp_mono (ih _ _ _ m' a' w' hok hw0.2 hrel (wpI_mod hw0.1 (h3 s m' hi))) fun ex a'' w'' hp => ?_
    cases ex with
    | normal =>
      obtain ⟨e', m'', g1, g2, g3⟩ := hp
      obtain ⟨s', g4, g5, g6⟩ := g2
      rcases g3 with ⟨_, g3⟩ | g3
      · cases g3
      · exact ⟨μ s', g6, s', m'', rfl, g5, g1.weak (over_weak g4 ((Mod.over e ms (vals s)).trans g3))⟩
    | exit j => obtain ⟨e', m', g1, g2⟩ := hp; exact ⟨e', m', g1, g2.1⟩
    | goto j => obtain ⟨e', m', g1, g2⟩ := hp; exact ⟨e', m', g1, g2.1⟩
    | ret => obtain ⟨e', m', g1, g2⟩ := hp; exact ⟨e', m', g1, g2.1⟩
    | panic ch => obtain ⟨m', g1, g2, g3⟩ := hp; exact ⟨m', g1, g2, g3.1⟩
    | outgrown => obtain ⟨e', m', g1, g2⟩ := hp; exact ⟨e', m', g1, g2.1⟩
end Go.Vx
