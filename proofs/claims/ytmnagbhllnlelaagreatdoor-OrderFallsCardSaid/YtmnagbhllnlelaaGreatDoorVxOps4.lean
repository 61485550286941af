/- VX, part 6: the runs of build, makeSlice, append, copy, clear, slice, calls. -/
import Derived.Test.YtmnagbhllnlelaaGreatDoorVxOps3
namespace Go.Vx
open Go
variable {P : Program} {D0 : DBase} {ro : Option Nat} {m0 : Mem} {w0 : World} {N : Nat} {e : Env} {m : Mem} {a : Act} {w : World}

theorem okZero_spec {t : TypeId} {zeros : List Value} (h : okZero P t zeros = true) : ∃ i z, P.info? t = some i ∧ i.zero = some z ∧ cellsL z = zeros ∧ i.size = zeros.length := by
  unfold okZero at h
  cases hi : P.info? t with
  | none => simp [hi] at h
  | some i =>
    simp only [hi] at h
    cases hz : i.zero with
    | none => simp [hz] at h
    | some z =>
      simp only [hz, Bool.and_eq_true] at h
      exact ⟨i, z, rfl, hz, veqL_eq _ _ h.1, beq_ff h.2⟩
theorem cells_mk (v : Value) : v.cells = ⟨cellsL v⟩ := by apply Array.ext'; rw [cellsL_eq]

theorem run_build (h : Rel D0 m0 w0 N e m a w) {t : TypeId} {zeros : List Value} {ps : List (Nat × Nat × Opd)} {qs : Array (Nat × Operand)} {vs : List (Nat × Nat × Value)} {cs : List Value}
    (hz : okZero P t zeros = true) (hf : okFieldsSized P t = true) (hp : okParts (okPlace P t) ps qs.toList = true) (hv : partsL e ps = some vs) (hc : fillL zeros vs = some cs) :
    (Instr.build t (qs.map fun (i, x) => (i, a.eval x))).run P w = .ok (.agg ⟨cs⟩) w := by
  obtain ⟨i, z, hi, hzz, hcz, hsz⟩ := okZero_spec hz
  obtain ⟨g1, g2⟩ := parts_fit h hp hv
  have hq : (qs.map fun (i, x) => (i, a.eval x)).toList = qs.toList.map fun q => (q.1, a.eval q.2) := by simp
  unfold okFieldsSized at hf
  cases hu : P.underlying t with
  | none => simp [hu] at hf
  | some d =>
    cases d <;> simp only [hu] at hf <;> first | (cases hf; done) | skip
    · rename_i len elem
      obtain ⟨y, hy⟩ := Option.isSome_iff_exists.1 hf
      have hfill := fill_eq (fun i => some (i * y.size, y.size)) vs (qs.toList.map fun q => (q.1, a.eval q.2)) zeros cs g1 (fun k p q hp hq => by
        have := g2 k p q hp hq
        simp only [okPlace, hu, hy, Bool.and_eq_true] at this
        have h1 := beq_ff this.1
        have h2 := beq_ff this.2
        simp only [← h1] at h2
        simp only [h1, ← h2]) hc
      simp [Instr.build, run_zero hi hzz, run_underlying hu, run_sizeOf' hy, cells_mk, hcz, hfill]
    · rename_i fs
      have hfill := fill_eq (fun i => (⟨placesOf P fs.toList⟩ : Array (Nat × Nat))[i]?) vs (qs.toList.map fun q => (q.1, a.eval q.2)) zeros cs g1 (fun k p q hp hq => by
        have := g2 k p q hp hq
        simp only [okPlace, hu] at this
        cases hx : fs[q.1]? with
        | none => simp [hx] at this
        | some x =>
          simp only [hx, Bool.and_eq_true] at this
          cases hy : P.info? x.type with
          | none => simp [hy] at this
          | some y =>
            simp only [hy] at this
            have hx' : fs.toList[q.1]? = some x := by simpa using hx
            simp [placesOf, hx', hy, beq_ff this.1, beq_ff this.2]) hc
      simp only [Instr.build, Sem.run_bind, run_zero hi hzz, run_underlying hu, Result.andThen_ok, cells_mk, hcz]
      rw [run_places fs hf, Result.andThen_ok, hq, hfill]
      rfl

theorem range_mod (zero : List Value) (hz : zero.length ≠ 0) (n : Nat) : (Array.range (n * zero.length)).map (fun i => (⟨zero⟩ : Array Value)[i % zero.length]!) = (⟨(List.replicate n zero).flatten⟩ : Array Value) := by
  apply Array.ext'
  apply List.ext_getElem?
  intro k
  have hlen : ((List.replicate n zero).flatten).length = n * zero.length := by simp [List.length_flatten]
  rcases Nat.lt_or_ge k (n * zero.length) with hk | hk
  · have hm : k % zero.length < zero.length := Nat.mod_lt _ (by omega)
    have h1 : ∀ (n k : Nat), k < n * zero.length → ((List.replicate n zero).flatten)[k]? = zero[k % zero.length]? := by
      intro n
      induction n with
      | zero => intro k hk; simp at hk
      | succ n ih =>
        intro k hk
        rw [List.replicate_succ, List.flatten_cons, List.getElem?_append]
        by_cases hlt : k < zero.length
        · rw [if_pos hlt, Nat.mod_eq_of_lt hlt]
        · rw [if_neg hlt, ih (k - zero.length) (by rw [Nat.succ_mul] at hk; omega)]
          congr 1
          rw [← Nat.mod_eq_sub_mod (by omega)]
    show _ = ((List.replicate n zero).flatten)[k]?
    rw [h1 n k hk]
    simp [hk, hm]
  · rw [List.getElem?_eq_none (by simpa using hk)]
    show _ = ((List.replicate n zero).flatten)[k]?
    rw [List.getElem?_eq_none (by omega)]
theorem zeroCells_eq (zero : List Value) (hz : zero.length ≠ 0) (n : Nat) : Builtin.zeroCells ⟨zero⟩ n = ⟨(List.replicate n zero).flatten⟩ := range_mod zero hz n

theorem run_buildSlice (h : Rel D0 m0 w0 N e m a w) {t el n : Nat} {zeros : List Value} {ps : List (Nat × Nat × Opd)} {qs : Array (Nat × Operand)} {vs : List (Nat × Nat × Value)} {cs : List Value}
    (hu : P.underlying t = some (.slice el)) {i : TypeInfo} {z : Value} (hi : P.info? el = some i) (hz : i.zero = some z) (h0 : i.size ≠ 0) (hs : i.size = (cellsL z).length)
    (hzz : (List.replicate n (cellsL z)).flatten = zeros) (hl : n * i.size ≤ 16777216)
    (hp : okParts (fun j off sz => Nat.beq sz i.size && Nat.beq (j * sz) off) ps qs.toList = true) (hv : partsL e ps = some vs) (hc : fillL zeros vs = some cs) :
    (Instr.buildSlice t n (qs.map fun (i, x) => (i, a.eval x))).run P w = .ok (.slice (some ⟨w.heap.size, 0, none⟩) n n) { w with heap := w.heap.push (Cells cs el) } := by
  obtain ⟨g1, g2⟩ := parts_fit h hp hv
  have hq : (qs.map fun (i, x) => (i, a.eval x)).toList = qs.toList.map fun q => (q.1, a.eval q.2) := by simp
  have hfill := fill_eq (fun j => some (j * i.size, i.size)) vs (qs.toList.map fun q => (q.1, a.eval q.2)) zeros cs g1 (fun k p q hp hq => by
    have := g2 k p q hp hq
    simp only [Bool.and_eq_true] at this
    have h1 := beq_ff this.1
    have h2 := beq_ff this.2
    simp only [h1] at h2
    simp only [h1, ← h2]) hc
  have hcells : (Array.range (n * i.size)).map (fun j => (z.cells)[j % z.cells.size]!) = (⟨zeros⟩ : Array Value) := by
    rw [cells_mk, hs, ← hzz]
    exact range_mod (cellsL z) (by omega) n
  unfold Instr.buildSlice
  rw [Sem.run_bind, run_underlying hu, Result.andThen_ok]
  show (Sem.run P (sizeOf el >>= _) w) = _
  rw [Sem.run_bind, run_sizeOf' hi, Result.andThen_ok]
  have hlt : ¬ (n * i.size > 2 ^ 24) := by omega
  simp only [hlt, if_false]
  by_cases hn : n * i.size = 0
  · have hn0 : n = 0 := by rcases Nat.mul_eq_zero.1 hn with h | h <;> first | exact h | exact absurd h h0
    subst hn0
    simp only [List.replicate_zero, List.flatten_nil] at hzz
    subst hzz
    have e0 : ∀ f : Nat → Value, Array.map f (Array.range (0 * i.size)) = ⟨[]⟩ := fun f => by simp
    rw [hq]
    simp only [if_pos hn, Sem.run_bind, Result.andThen_ok, Sem.run_pure, e0, hfill, newRow, run_newObj]
  · rw [hq]
    simp only [if_neg hn, Sem.run_bind, run_zero hi hz, Result.andThen_ok, Sem.run_pure, hcells, hfill, newRow, run_newObj]
end Go.Vx
