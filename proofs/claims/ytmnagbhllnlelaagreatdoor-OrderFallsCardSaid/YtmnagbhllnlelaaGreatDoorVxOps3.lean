/- VX, part 5: the runs of the operations that build, make, cut and copy. -/
import Derived.Test.YtmnagbhllnlelaaGreatDoorVxOps2
namespace Go.Vx
open Go
variable {P : Program} {m : Mem} {w : World}

theorem zipIdx_fold (l : List Value) : ∀ (vs : List Value) (i k : Nat),
    ((⟨vs⟩ : Array Value).zipIdx k).foldl (fun (cs : Array Value) (x : Value × Nat) => cs.setIfInBounds (i + x.2) x.1) ⟨l⟩ = (⟨spliceL l (i + k) vs⟩ : Array Value) := by
  intro vs i k
  have key : ∀ (vs : List Value) (l : List Value) (k : Nat), (vs.zipIdx k).foldl (fun (cs : Array Value) (x : Value × Nat) => cs.setIfInBounds (i + x.2) x.1) ⟨l⟩ = (⟨spliceL l (i + k) vs⟩ : Array Value) := by
    intro vs
    induction vs with
    | nil => intro l k; rfl
    | cons v vs ih =>
      intro l k
      rw [List.zipIdx_cons, List.foldl_cons, spliceL, show i + k + 1 = i + (k + 1) by omega, ← ih (l.set (i + k) v) (k + 1)]
      congr 1
      exact Array.ext' (by simp)
  rw [← key vs l k, ← Array.foldl_toList, Array.toList_zipIdx]
theorem fill_eq (place : Nat → Option (Nat × Nat)) : ∀ (ps : List (Nat × Nat × Value)) (qs : List (Nat × Value)) (l : List Value) (r : List Value),
    ps.map (fun p => p.2.2) = qs.map (·.2) → (∀ (k : Nat) (p : Nat × Nat × Value) (q : Nat × Value), ps[k]? = some p → qs[k]? = some q → place q.1 = some (p.1, p.2.1)) →
    fillL l ps = some r → Instr.fill place ⟨l⟩ qs = some ⟨r⟩ := by
  intro ps
  induction ps with
  | nil =>
    intro qs l r h1 _ hr
    cases qs with
    | nil => simp only [fillL, Option.some.injEq] at hr; subst hr; rfl
    | cons q qs => simp at h1
  | cons p ps ih =>
    intro qs l r h1 h2 hr
    cases qs with
    | nil => simp at h1
    | cons q qs =>
      obtain ⟨i, n, v⟩ := p
      obtain ⟨j, u⟩ := q
      simp only [List.map_cons, List.cons.injEq] at h1
      obtain ⟨rfl, h1⟩ := h1
      have hp := h2 0 (i, n, v) (j, v) rfl rfl
      simp only [fillL] at hr
      cases hc : (Nat.beq (cellsL v).length n && Nat.ble (i + n) l.length) with
      | false => rw [hc] at hr; cases hr
      | true =>
        rw [hc] at hr; simp only [cond_true] at hr
        rw [Bool.and_eq_true] at hc
        have hn : v.cells.size = n := by rw [← beq_ff hc.1, ← cellsL_eq]; simp
        have hle := Nat.le_of_ble_eq_true hc.2
        have ih' := ih qs _ r h1 (fun k p q hp hq => h2 (k + 1) p q hp hq) hr
        unfold Instr.fill
        simp only [hp]
        have hsz : (⟨l⟩ : Array Value).size = l.length := rfl
        rw [if_neg (by simp [hn]; omega)]
        have hv : v.cells = ⟨cellsL v⟩ := by apply Array.ext'; rw [cellsL_eq]
        have := zipIdx_fold l (cellsL v) i 0
        rw [Nat.add_zero] at this
        rw [hv, ← ih', ← this]
theorem okParts_spec {ok : Nat → Nat → Nat → Bool} : ∀ {ps : List (Nat × Nat × Opd)} {qs : List (Nat × Operand)}, okParts ok ps qs = true →
    ps.length = qs.length ∧ ∀ (k : Nat) (p : Nat × Nat × Opd) (q : Nat × Operand), ps[k]? = some p → qs[k]? = some q → ok q.1 p.1 p.2.1 = true ∧ okX p.2.2 q.2 = true := by
  intro ps
  induction ps with
  | nil => intro qs h; cases qs <;> simp_all [okParts]
  | cons p ps ih =>
    intro qs h
    cases qs with
    | nil => simp [okParts] at h
    | cons q qs =>
      obtain ⟨i, n, x⟩ := p
      obtain ⟨j, y⟩ := q
      simp only [okParts, Bool.and_eq_true] at h
      obtain ⟨h1, h2⟩ := ih h.2
      refine ⟨by simp [h1], fun k p q hp hq => ?_⟩
      cases k with
      | zero => simp at hp hq; subst hp; subst hq; exact h.1
      | succ k => exact h2 k p q (by simpa using hp) (by simpa using hq)
theorem partsL_spec {e : Env} : ∀ {ps : List (Nat × Nat × Opd)} {vs : List (Nat × Nat × Value)}, partsL e ps = some vs →
    vs.length = ps.length ∧ ∀ (k : Nat) (p : Nat × Nat × Opd), ps[k]? = some p → ∃ v, vs[k]? = some (p.1, p.2.1, v) ∧ p.2.2.at e = some v := by
  intro ps
  induction ps with
  | nil => intro vs h; simp only [partsL, Option.some.injEq] at h; subst h; simp
  | cons p ps ih =>
    intro vs h
    obtain ⟨i, n, x⟩ := p
    simp only [partsL] at h
    cases hx : x.at e with
    | none => rw [hx] at h; cases h
    | some v =>
      rw [hx] at h
      cases hp : partsL e ps with
      | none => rw [hp] at h; cases h
      | some us =>
        rw [hp] at h; simp only [Option.some.injEq] at h; subst h
        obtain ⟨h1, h2⟩ := ih hp
        refine ⟨by simp [h1], fun k p hk => ?_⟩
        cases k with
        | zero => simp at hk; subst hk; exact ⟨v, rfl, hx⟩
        | succ k => exact h2 k p (by simpa using hk)
/-- What 'parts' of the form and of the run have in common. -/
theorem parts_fit {D0 : DBase} {m0 : Mem} {w0 : World} {N : Nat} {e : Env} {a : Act} (h : Rel D0 m0 w0 N e m a w) {ok : Nat → Nat → Nat → Bool} {ps : List (Nat × Nat × Opd)} {qs : List (Nat × Operand)} {vs : List (Nat × Nat × Value)}
    (hok : okParts ok ps qs = true) (hv : partsL e ps = some vs) :
    vs.map (fun p => p.2.2) = (qs.map fun q => (q.1, a.eval q.2)).map (·.2) ∧
    ∀ (k : Nat) (p : Nat × Nat × Value) (q : Nat × Value), vs[k]? = some p → (qs.map fun q => (q.1, a.eval q.2))[k]? = some q → ok q.1 p.1 p.2.1 = true := by
  obtain ⟨h1, h2⟩ := okParts_spec hok
  obtain ⟨h3, h4⟩ := partsL_spec hv
  constructor
  · apply List.ext_getElem?
    intro k
    simp only [List.getElem?_map, List.map_map, Function.comp_def]
    cases hk : ps[k]? with
    | none =>
      have : ps.length ≤ k := List.getElem?_eq_none_iff.1 hk
      rw [List.getElem?_eq_none (by omega : vs.length ≤ k), List.getElem?_eq_none (by omega : qs.length ≤ k)]; rfl
    | some p =>
      have hlt : k < ps.length := (List.getElem?_eq_some_iff.1 hk).1
      obtain ⟨v, hv1, hv2⟩ := h4 k p hk
      have hq : qs[k]? = some qs[k] := List.getElem?_eq_getElem (by omega)
      rw [hv1, hq]
      simp [okX_eval h (h2 k p _ hk hq).2 hv2]
  · intro k p q hp hq
    simp only [List.getElem?_map] at hq
    cases hk : ps[k]? with
    | none =>
      have : ps.length ≤ k := List.getElem?_eq_none_iff.1 hk
      rw [List.getElem?_eq_none (by omega : vs.length ≤ k)] at hp; cases hp
    | some p' =>
      obtain ⟨v, hv1, hv2⟩ := h4 k p' hk
      rw [hv1] at hp; cases hp
      cases hq' : qs[k]? with
      | none => rw [hq'] at hq; cases hq
      | some q' =>
        rw [hq'] at hq; simp at hq; subst hq
        exact (h2 k p' q' hk hq').1

def placesOf (P : Program) (fs : List Field) : List (Nat × Nat) := fs.map fun f => (f.offset, match P.info? f.type with | some i => i.size | none => 0)
theorem run_places (fs : Array Field) (h : fs.all (fun f => (P.info? f.type).isSome) = true) :
    (fs.mapM fun f => do pure (f.offset, ← sizeOf f.type) : Sem (Array (Nat × Nat))).run P w = .ok ⟨placesOf P fs.toList⟩ w := by
  have key : ∀ (l : List Field), l.all (fun f => (P.info? f.type).isSome) = true → (l.mapM fun f => do pure (f.offset, ← sizeOf f.type) : Sem (List (Nat × Nat))).run P w = .ok (placesOf P l) w := by
    intro l
    induction l with
    | nil => intro _; rfl
    | cons f l ih =>
      intro h
      simp only [List.all_cons, Bool.and_eq_true] at h
      obtain ⟨i, hi⟩ := Option.isSome_iff_exists.1 h.1
      simp only [List.mapM_cons, Sem.run_bind, run_sizeOf' hi, Result.andThen_ok, Sem.run_pure, ih h.2, placesOf, List.map_cons, hi]
  have h2 : (fs.mapM fun f => do pure (f.offset, ← sizeOf f.type) : Sem (Array (Nat × Nat))) = (List.toArray <$> fs.toList.mapM fun f => do pure (f.offset, ← sizeOf f.type)) := by
    rw [Array.mapM_eq_mapM_toList]
  rw [h2, Sem.run_map, key fs.toList (by rw [← Array.all_toList] at h; exact h), Result.andThen_ok]
end Go.Vx
