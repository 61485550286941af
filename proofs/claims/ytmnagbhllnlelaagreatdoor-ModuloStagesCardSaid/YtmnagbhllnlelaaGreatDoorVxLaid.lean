/- What a laid plain variable (numbers and strings, in structs and arrays) holds: its cells. -/
import Derived.Test.YtmnagbhllnlelaaGreatDoorVxCalls
import GoSem.ClaimJoined
set_option linter.unusedVariables false
namespace Go.Vx
open Go
mutual
def cellsD {H : Type} : DataW H → List Value
  | .lit l => [l.value]
  | .agg xs => cellsDL xs
  | _ => []
def cellsDL {H : Type} : List (DataW H) → List Value
  | [] => []
  | x :: xs => cellsD x ++ cellsDL xs
end
def okPlainFs (P : Program) (ok : TypeId → Bool) (total : Nat) : Nat → List Field → Bool
  | o, [] => Nat.beq o total
  | o, f :: fs => Nat.beq f.offset o && ok f.type && okPlainFs P ok total (o + P.cellsOf f.type) fs
def okPlain (P : Program) : Nat → TypeId → Bool
  | 0, _ => false
  | n + 1, t => match P.underlying t with
    | some (.int _) => Nat.beq (P.cellsOf t) 1
    | some .string => Nat.beq (P.cellsOf t) 1
    | some (.struct fs) => okPlainFs P (okPlain P n) (P.cellsOf t) 0 fs.toList
    | some (.array m e) => okPlain P n e && Nat.beq (P.cellsOf t) (m * P.cellsOf e)
    | _ => false
variable {P : Program} {w : World} {enc : TypeId × Value → Unit} {base : Nat} {spare : Nat → Bool}
theorem fields_cells {ok : TypeId → Bool} {total F : Nat} {cs : List Value} (hlen : cs.length = total)
    (ih : ∀ t cs d p, ok t = true → DataW.trod enc P w base spare false F t cs = some (d, p) → cs = cellsD d) :
    ∀ (fs : List Field) (o : Nat) (xs : List (DataW Unit × List MemPlace)), okPlainFs P ok total o fs = true →
      (fs.mapM fun f => DataW.trod enc P w base spare false F f.type ((cs.drop f.offset).take (P.cellsOf f.type))) = some xs → cs.drop o = cellsDL (xs.map (·.1)) := by
  intro fs
  induction fs with
  | nil =>
    intro o xs h hm
    simp only [okPlainFs] at h
    have := beq_ff h
    simp only [List.mapM_nil] at hm
    cases hm
    rw [List.drop_eq_nil_iff.2 (by omega)]; rfl
  | cons f fs ih2 =>
    intro o xs h hm
    simp only [okPlainFs, Bool.and_eq_true] at h
    obtain rfl := beq_ff h.1.1
    rw [List.mapM_cons] at hm
    cases h1 : DataW.trod enc P w base spare false F f.type ((cs.drop f.offset).take (P.cellsOf f.type)) with
    | none => rw [h1] at hm; cases hm
    | some y =>
      rw [h1] at hm
      cases h2 : (fs.mapM fun f => DataW.trod enc P w base spare false F f.type ((cs.drop f.offset).take (P.cellsOf f.type))) with
      | none => rw [h2] at hm; cases hm
      | some ys =>
        rw [h2] at hm
        cases hm
        have e1 := ih f.type _ y.1 y.2 h.1.2 h1
        have e2 := ih2 _ ys h.2 h2
        simp only [List.map_cons, cellsDL]
        rw [← e1, ← e2, ← List.drop_drop]
        exact (List.take_append_drop _ _).symm
theorem array_cells {e F k : Nat} {cs : List Value} (ih : ∀ cs d p, DataW.trod enc P w base spare false F e cs = some (d, p) → cs = cellsD d) :
    ∀ (n s : Nat) (xs : List (DataW Unit × List MemPlace)), cs.length = (s + n) * k →
      ((List.range' s n).mapM fun i => DataW.trod enc P w base spare false F e ((cs.drop (i * k)).take k)) = some xs → cs.drop (s * k) = cellsDL (xs.map (·.1)) := by
  intro n
  induction n with
  | zero =>
    intro s xs hlen hm
    simp only [List.range'_zero, List.mapM_nil] at hm
    cases hm
    rw [List.drop_eq_nil_iff.2 (by simp at hlen; omega)]; rfl
  | succ n ih2 =>
    intro s xs hlen hm
    rw [List.range'_succ, List.mapM_cons] at hm
    cases h1 : DataW.trod enc P w base spare false F e ((cs.drop (s * k)).take k) with
    | none => rw [h1] at hm; cases hm
    | some y =>
      rw [h1] at hm
      cases h2 : ((List.range' (s + 1) n).mapM fun i => DataW.trod enc P w base spare false F e ((cs.drop (i * k)).take k)) with
      | none => rw [h2] at hm; cases hm
      | some ys =>
        rw [h2] at hm
        cases hm
        have e1 := ih _ y.1 y.2 h1
        have e2 := ih2 (s + 1) ys (by rw [hlen]; congr 1; omega) h2
        simp only [List.map_cons, cellsDL]
        rw [← e1, ← e2, Nat.add_mul, Nat.one_mul, ← List.drop_drop]
        exact (List.take_append_drop _ _).symm
theorem trod_cells : ∀ (n : Nat) (t : TypeId) (F : Nat) (cs : List Value) (d : DataW Unit) (p : List MemPlace), okPlain P n t = true → DataW.trod enc P w base spare false F t cs = some (d, p) → cs = cellsD d := by
  intro n
  induction n with
  | zero => intro t F cs d p h; cases h
  | succ n ih =>
    intro t F cs d p h hd
    cases F with
    | zero => cases hd
    | succ F =>
      unfold okPlain at h
      split at h
      · rename_i k hu
        unfold DataW.trod at hd
        rw [hu] at hd
        match cs, hd with
        | [.int k' m], hd =>
          simp only at hd
          split at hd <;> try (cases hd; done)
          rename_i hc; cases hd
          rw [hc.1]; rfl
      · rename_i hu
        unfold DataW.trod at hd
        rw [hu] at hd
        match cs, hd with
        | [.string s], hd =>
          simp only at hd
          split at hd <;> try (cases hd; done)
          cases hd; rfl
      · rename_i fs hu
        unfold DataW.trod at hd
        rw [hu] at hd
        simp only at hd
        split at hd <;> try (cases hd; done)
        rename_i hlen
        cases hm : (fs.toList.mapM fun f => DataW.trod enc P w base spare false F f.type ((cs.drop f.offset).take (P.cellsOf f.type))) with
        | none => rw [hm] at hd; cases hd
        | some xs =>
          rw [hm] at hd; cases hd
          exact fields_cells hlen (fun t cs d p h1 h2 => ih t F cs d p h1 h2) fs.toList 0 xs h hm
      · rename_i m e hu
        rw [Bool.and_eq_true] at h
        unfold DataW.trod at hd
        rw [hu] at hd
        simp only at hd
        split at hd <;> try (cases hd; done)
        rename_i hlen
        rw [List.range_eq_range'] at hd
        cases hm : ((List.range' 0 m).mapM fun i => DataW.trod enc P w base spare false F e ((cs.drop (i * P.cellsOf e)).take (P.cellsOf e))) with
        | none => rw [hm] at hd; cases hd
        | some xs =>
          rw [hm] at hd; cases hd
          have := array_cells (fun cs d p h2 => ih e F cs d p h.1 h2) m 0 xs (by rw [hlen, beq_ff h.2]; congr 1; omega) hm
          simp only [Nat.zero_mul, List.drop_zero] at this
          exact this
      · cases h
end Go.Vx
