/- VX, part 16: whole bodies. -/
import Derived.Test.YtmnagbhllnlelaaGreatDoorVxTree3
set_option linter.unusedSimpArgs false
set_option linter.unusedVariables false
namespace Go.Vx
open Go
variable {P : Program} {D0 : DBase} {ro : Option Nat} {m0 : Mem} {w0 : World} {N : Nat} {Q : Exit → Act → World → Prop} {ops : Array Oper} {X : List PanicEntry → Mem → Prop}

def okGuard (N : Nat) (ops : Array Oper) (o : Oper) (x : E) : Bool :=
  match x.g, o.guard with
  | none, none => true
  | some (s, w), some (g, w') => (w == w') && dstIs ops g s && plainD N x.d o.dst
  | _, _ => false
def okT (P : Program) (N : Nat) (ops : Array Oper) (o : Oper) (x : E) : Bool := okOp P o x.o && okDst N o x.d x.o && okGuard N ops o x
def okTs (P : Program) (N : Nat) (ops : Array Oper) : List Oper → List E → Bool
  | [], [] => true
  | o :: os, x :: xs => okT P N ops o x && okTs P N ops os xs
  | _, _ => false
theorem okTs_get : ∀ {os : List Oper} {xs : List E}, okTs P N ops os xs = true → ∀ (i : Nat) (o : Oper) (x : E), os[i]? = some o → xs[i]? = some x → okT P N ops o x = true := by
  intro os
  induction os with
  | nil => intro xs h i o x ho; simp at ho
  | cons o os ih =>
    intro xs h i o' x ho hx
    cases xs with
    | nil => simp at hx
    | cons y xs =>
      simp only [okTs, Bool.and_eq_true] at h
      cases i with
      | zero => simp at ho hx; subst ho; subst hx; exact h.1
      | succ i => exact ih h.2 i o' x (by simpa using ho) (by simpa using hx)
theorem stepE_sound {i : Nat} {o : Oper} {x : E} {e : Env} {m : Mem} {a : Act} {w : World} {K : Env → Mem → Prop} {next : Act → World → Prop} (hi : ops[i]? = some o) (ok : okT P N ops o x = true) (h : Rel D0 m0 w0 N e m a w) (hs : stepE P x e m K X)
    (hX : ∀ ch m' w' a', X ch m' → Step m0 w0 m' w' → DefsOK D0 m' w0 a'.defers w' → Q (.panic ch) a' w') (hK : ∀ e' m' a' w', K e' m' → Rel D0 m0 w0 N e' m' a' w' → next a' w') : wpOpIn (FR ro) 0 P ops Q i next a w := by
  simp only [okT, Bool.and_eq_true] at ok
  obtain ⟨⟨ok1, ok2⟩, ok3⟩ := ok
  have exec : Region.wanted o (yielded ops a.tmps) = true → vop P x.o e m (splitF x.s fun u m' => K (e.put x.d u) m') X → wpOpIn (FR ro) 0 P ops Q i next a w := fun hw hv =>
    wpOp_wanted hi hw (vop_sound ok1 ok2 h hv (fun u m' a' w' hu hrel => hK _ m' a' w' (splitF_out hu) hrel) fun ch m' w' x y z => hX ch m' w' a x y z)
  unfold okGuard at ok3
  unfold stepE at hs
  split at ok3 <;> first | (cases ok3; done) | skip
  · rename_i hg hgo
    rw [hg] at hs
    exact exec (by unfold Region.wanted; rw [hgo]) hs
  · rename_i s want g w' hg hgo
    simp only [Bool.and_eq_true, beq_iff_eq] at ok3
    obtain ⟨⟨rfl, ok4⟩, ok5⟩ := ok3
    unfold dstIs at ok4
    split at ok4 <;> first | (cases ok4; done) | skip
    rename_i t hdst
    obtain rfl := beq_ff ok4
    rw [hg] at hs
    simp only at hs
    have skip : (yielded ops a.tmps g == some want) = false → K (e.put x.d (.val undef)) m → wpOpIn (FR ro) 0 P ops Q i next a w := fun hy hk =>
      wpOp_unwanted hi (by unfold Region.wanted; rw [hgo]; exact hy) (hK _ m _ w hk (h.putVal ok5 undef))
    split at hs <;> first | exact hs.elim | skip
    · rename_i b hb
      have hy : yielded ops a.tmps g = some b := by simp only [yielded, hdst, Option.bind_some, tmps_bool (h.val _ _ hb)]
      have hw : b = want → Region.wanted o (yielded ops a.tmps) = true := fun hh => by unfold Region.wanted; rw [hgo]; simp only [hy, hh, beq_self_eq_true]
      split at hs
      · exact exec (hw rfl) hs
      · exact exec (hw rfl) hs
      · rename_i h1 h2
        refine skip ?_ hs
        rw [hy]
        cases b <;> cases want <;> first | rfl | (exact absurd rfl (h1 rfl)) | (exact absurd rfl (h2 rfl))
    · rename_i vs hb
      refine skip ?_ hs
      have := h.val _ _ hb
      rw [Array.getD_eq_getD_getElem?] at this
      simp only [yielded, hdst, Option.bind_some]
      cases ht : a.tmps[t]? with
      | none => cases want <;> rfl
      | some v => rw [ht] at this; simp only [Option.getD_some] at this; subst this; cases want <;> rfl

def cntF (L : Array Bool) : Nat := L.toList.countP (fun b => !b)
theorem cntF_set {L : Array Bool} {j : Nat} (h : L.getD j true = false) : cntF (L.setIfInBounds j true) + 1 = cntF L := by
  have hlt : j < L.toList.length := by
    rcases Nat.lt_or_ge j L.size with h' | h'
    · simpa using h'
    · simp [Array.getElem?_eq_none h'] at h
  have hv : L.toList[j] = false := by
    have h2 : L[j]? = some L[j] := Array.getElem?_eq_getElem (by simpa using hlt)
    rw [Array.getD_eq_getD_getElem?, h2] at h
    simpa using h
  unfold cntF
  rw [Array.toList_setIfInBounds, List.countP_set hlt, hv]
  have : 0 < L.toList.countP (fun b => !b) := List.countP_pos_iff.2 ⟨false, by rw [← hv]; exact List.getElem_mem hlt, rfl⟩
  have e1 : (if (!false) = true then 1 else 0) = 1 := rfl
  have e2 : (if (!true) = true then 1 else 0) = 0 := rfl
  rw [e1, e2]
  omega
theorem tree_sound {l : List E} {K : Env → Mem → Prop} (hlen : okTs P N ops ops.toList l = true) (hX : ∀ ch m' w' a', X ch m' → Step m0 w0 m' w' → DefsOK D0 m' w0 a'.defers w' → Q (.panic ch) a' w') (hK : ∀ e' m' a' w', K e' m' → Rel D0 m0 w0 N e' m' a' w' → Q .normal a' w') :
    ∀ (fuel : Nat) (L : Array Bool) (t : RT) (e : Env) (m : Mem) (a : Act) (w : World), cntF L ≤ fuel → fullT ops l t L none = true → Rel D0 m0 w0 N e m a w → treeI P l K X t e m → wpAnyIn (FR ro) 0 P .any ops Q fuel L a w := by
  have hnil : ∀ (L : Array Bool) (t : RT) (e : Env) (m : Mem) (a : Act) (w : World), Region.ready .any ops L = [] → fullT ops l t L none = true → Rel D0 m0 w0 N e m a w → treeI P l K X t e m → Q .normal a w := fun L t e m a w hr hf h ht => by
    cases t with
    | nil => exact hK e m a w ht h
    | pure i t =>
      simp only [fullT, Bool.and_eq_true] at hf
      have := readyB_mem.1 hf.1.1.1
      rw [hr] at this; cases this
    | alt i t more =>
      simp only [fullT, Bool.and_eq_true] at hf
      have := readyB_mem.1 hf.1.1
      rw [hr] at this; cases this
    | done => simp [fullT] at hf
  intro fuel
  induction fuel with
  | zero =>
    intro L t e m a w hc hf h ht
    have hr : Region.ready .any ops L = [] := by
      cases hrr : Region.ready .any ops L with
      | nil => rfl
      | cons j js =>
        have hj : j ∈ Region.ready .any ops L := by rw [hrr]; simp
        have := cntF_set (mem_ready.1 hj).1
        omega
    exact ⟨hr, hnil L t e m a w hr hf h ht⟩
  | succ fuel ih =>
    intro L t e m a w hc hf h ht
    refine ⟨fun hr => hnil L t e m a w hr hf h ht, fun j hj => ?_⟩
    obtain ⟨t', x, hx, hf', hst⟩ := tree_remove t L e m hf hj ht
    obtain ⟨g1, o, ho, _⟩ := mem_ready.1 hj
    have hok := okTs_get hlen j o x (by simpa using ho) hx
    refine stepE_sound ho hok h hst hX fun e' m' a' w' hk hrel => ih _ t' e' m' a' w' ?_ hf' hrel hk
    have := cntF_set g1
    omega
end Go.Vx
