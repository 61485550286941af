/- VX, part 7: the runs of makeSlice, append, copy, clear, slice. -/
import Derived.Test.YtmnagbhllnlelaaGreatDoorVxOps4
import Derived.IntWalk
set_option linter.unusedSimpArgs false
set_option linter.unusedVariables false
namespace Go.Vx
open Go
variable {P : Program} {D0 : DBase} {ro : Option Nat} {m0 : Mem} {w0 : World} {N : Nat} {e : Env} {m : Mem} {a : Act} {w : World}

theorem okElemT_spec {t el sz bytes : Nat} {zero : List Value} (h : okElemT P t el sz bytes zero = true) :
    ∃ i z, P.underlying t = some (.slice el) ∧ P.info? el = some i ∧ i.zero = some z ∧ cellsL z = zero ∧ i.size = zero.length ∧ i.size = sz ∧ i.bytes = bytes ∧ bytes ≠ 0 ∧ sz ≠ 0 := by
  unfold okElemT at h
  cases hu : P.underlying t with
  | none => simp [hu] at h
  | some d =>
    cases d <;> simp only [hu] at h <;> first | (cases h; done) | skip
    rename_i u
    cases hi : P.info? el with
    | none => simp [hi] at h
    | some i =>
      simp only [hi, Bool.and_eq_true, Bool.not_eq_true', beq_eq_false_iff_ne] at h
      obtain ⟨⟨⟨⟨h1, h2⟩, h3, h4⟩, h5⟩, h6⟩ := h
      obtain ⟨i', z, hi', hz, hc, hs⟩ := okZero_spec h2
      rw [hi] at hi'; cases hi'
      obtain rfl := beq_ff h1
      refine ⟨i, z, rfl, rfl, hz, hc, hs, beq_ff h3, beq_ff h4, fun e => ?_, fun e => ?_⟩
      · subst e; simp at h5
      · subst e; simp at h6

theorem run_make {t el bytes : Nat} {zero : List Value} (ht : okElemT P t el zero.length bytes zero = true) {l c : Int} (h : 0 ≤ l ∧ l ≤ c ∧ c * bytes ≤ 140737488355328) :
    (Instr.makeSlice t (.int .i64 l) (.int .i64 c)).run P w = .ok (.slice (some ⟨w.heap.size, 0, none⟩) l.toNat c.toNat) { w with heap := w.heap.push (Cells (List.replicate c.toNat zero).flatten el) } := by
  obtain ⟨i, z, hu, hi, hz, hc, hs, _, hb, hb0, hs0⟩ := okElemT_spec ht
  obtain ⟨h0, h1, h2⟩ := h
  have hc1 : c ≤ 140737488355328 := by
    have : c * 1 ≤ c * bytes := Int.mul_le_mul_of_nonneg_left (by omega) (by omega)
    omega
  have w1 := IntWalk.i64_in l (by omega)
  have w2 := IntWalk.i64_in c (by omega)
  have hc2 : (bytes : Int) * c ≤ 140737488355328 := by rw [Int.mul_comm]; exact h2
  have hcells : (Array.range (c.toNat * i.size)).map (fun j => (z.cells)[j % z.cells.size]!) = (⟨(List.replicate c.toNat zero).flatten⟩ : Array Value) := by
    rw [cells_mk, hc, hs]
    exact range_mod zero (by omega) c.toNat
  unfold Instr.makeSlice
  rw [Sem.run_bind, run_underlying hu, Result.andThen_ok]
  simp only [asInt, asIntOf, Sem.run_bind, Sem.run_pure, Result.andThen_ok, run_info hi, hb, w1, w2]
  have t1 : (decide (c < 0) || decide ((bytes : Int) * c > 2 ^ 48)) = false := by simp; omega
  have t2 : (decide (l < 0)) = false := by simp; omega
  have t3 : (decide (l > c)) = false := by simp; omega
  simp only [t1, t2, t3, Bool.or_false, Bool.false_eq_true, if_false, Sem.run_bind, run_askRoom, Result.andThen_ok, run_sizeOf' hi, Sem.run_pure]
  by_cases hn : c.toNat * i.size = 0
  · have hn0 : c.toNat = 0 := by rcases Nat.mul_eq_zero.1 hn with h | h <;> first | exact h | omega
    have e0 : ∀ f : Nat → Value, Array.map f (Array.range (c.toNat * i.size)) = ⟨[]⟩ := fun f => by rw [hn]; simp
    rw [if_pos hn]
    simp only [Sem.run_bind, Result.andThen_ok, Sem.run_pure, e0, newRow, run_newObj]
    rw [hn0]; simp
  · simp only [if_neg hn, Sem.run_bind, run_zero hi hz, Result.andThen_ok, Sem.run_pure, hcells, newRow, run_newObj]

theorem growBy_le (L : Nat) : ∀ (r c : Nat), 256 ≤ c → c ≤ 2 * L → Builtin.growBy L r c ≤ 2 * L
  | 0, c, _, h => h
  | r + 1, c, hc, h => by
    unfold Builtin.growBy
    split
    · exact h
    · exact growBy_le L r _ (by omega) (by omega)
theorem nextcap_le {need old : Nat} (h : old < need) : Builtin.nextslicecap need old ≤ 2 * need := by
  unfold Builtin.nextslicecap
  split
  · omega
  · split
    · omega
    · exact growBy_le need 4 old (by omega) (by omega)

theorem run_firstCells {x : Option Addr} {len cap n sz : Nat} {new : List Value} (hs : Sub m w) (hf : FirstCells m x (n * sz) new) (h0 : x = none → n = 0) : (Builtin.firstCells sz n (.slice x len cap)).run P w = .ok ⟨new⟩ w := by
  obtain ⟨h1, h2⟩ := hf
  cases x with
  | none =>
    have := h0 rfl; subst this
    have : new = [] := by simpa using h1
    subst this; rfl
  | some ad =>
    unfold Builtin.firstCells
    have := run_loadCells_list (P := P) w ad new (fun j v hj => cell?_of hs (h2 ad rfl j v hj))
    rw [h1] at this
    exact this

theorem run_append_fit {t el sz bytes : Nat} {zero : List Value} (ht : okElemT P t el sz bytes zero = true) {u : TypeId} {d : TypeDesc} (hu2 : P.underlying u = some d) (hd : (match d with | .slice _ => true | _ => false) = true) {ts : List TypeId} (ty : TypeId)
    {b x : Option Addr} {len cap n xcap : Nat} {new : List Value} (hs : Sub m w) (hf : FirstCells m x (n * sz) new) (h0 : x = none → n = 0) (hfit : len + n ≤ cap) :
    (Builtin.append_ ⟨t :: u :: ts⟩ ty #[.slice b len cap, .slice x n xcap]).run P w =
      ((match b with | some ad => storeCells (ad.add (len * sz)) new | none => pure () : Sem Unit).run P w).andThen fun _ w' => .ok (.slice b (len + n) cap) w' := by
  obtain ⟨i, z, hu, hi, hz, hc, hsz, hsz2, hb, hb0, hs0⟩ := okElemT_spec ht
  have hfc := run_firstCells (P := P) (len := n) (cap := xcap) hs hf h0
  cases d <;> first | (cases hd; done) | skip
  unfold Builtin.append_
  simp only [List.getElem?_toArray, List.getElem?_cons_zero, List.getElem?_cons_succ]
  show Sem.run P (underlying t >>= _) w = _
  rw [Sem.run_bind, run_underlying hu, Result.andThen_ok]
  show Sem.run P (sizeOf el >>= _) w = _
  rw [Sem.run_bind, run_sizeOf' hi, Result.andThen_ok]
  show Sem.run P (underlying u >>= _) w = _
  rw [Sem.run_bind, run_underlying hu2, Result.andThen_ok]
  simp only [Sem.run_bind, Sem.run_pure, Result.andThen_ok, Bool.false_eq_true, if_false, Builtin.lenOf, if_pos hfit, Bool.not_false, if_true, hsz2, hfc]
  cases b with
  | none => simp only [Sem.run_pure, Result.andThen_ok]
  | some ad => simp only [Sem.run_bind, Sem.run_pure]
theorem run_append_grow {t el sz bytes : Nat} {zero : List Value} (ht : okElemT P t el sz bytes zero = true) {u : TypeId} {d : TypeDesc} (hu2 : P.underlying u = some d) (hd : (match d with | .slice _ => true | _ => false) = true) {ts : List TypeId} (ty : TypeId)
    {b x : Option Addr} {len cap n xcap : Nat} {new old : List Value} (hs : Sub m w) (hf : FirstCells m x (n * sz) new) (h0 : x = none → n = 0) (hg : FirstCells m b (len * sz) old) (h1 : b = none → len = 0)
    (hfit : cap < len + n) (hsmall : (len + n) * bytes ≤ 35184372088832) :
    ∃ c, len + n ≤ c ∧ (Builtin.append_ ⟨t :: u :: ts⟩ ty #[.slice b len cap, .slice x n xcap]).run P w =
      .ok (.slice (some ⟨w.heap.size, 0, none⟩) (len + n) c) { w with heap := w.heap.push (Cells (old ++ new ++ (List.replicate (c - (len + n)) zero).flatten) el), drawn := w.drawn + 1 } := by
  obtain ⟨i, z, hu, hi, hz, hc, hsz, hsz2, hb, hb0, hs0⟩ := okElemT_spec ht
  cases d <;> first | (cases hd; done) | skip
  obtain ⟨c, hcdef⟩ : ∃ c, c = (Question.appendCap (len + n) cap el).cut (w.tape w.drawn (.appendCap (len + n) cap el)) := ⟨_, rfl⟩
  refine ⟨c, by rw [hcdef]; simp [Question.cut], ?_⟩
  have hsd : Sub m { w with drawn := w.drawn + 1 } := hs
  have hfc := run_firstCells (P := P) (len := n) (cap := xcap) hsd hf h0
  have hfo := run_firstCells (P := P) (len := len) (cap := cap) hsd hg h1
  have hq : (Question.appendCap (len + n) cap el).forced = false := rfl
  have hn1 : ¬ (((len + n : Nat) : Int) > IntKind.i64.max ∧ (False ∨ i.bytes = 0)) := fun h => by
    rcases h.2 with h | h
    · exact h
    · exact hb0 (hb.symm.trans h)
  have hn2 : ¬ (Builtin.nextslicecap (len + n) cap * i.bytes > 2 ^ 48) := by
    have h3 := nextcap_le hfit
    have h4 : Builtin.nextslicecap (len + n) cap * i.bytes ≤ 2 * (len + n) * i.bytes := Nat.mul_le_mul_right _ h3
    have h5 : 2 * (len + n) * i.bytes ≤ 2 * 35184372088832 := by rw [Nat.mul_assoc, hb]; exact Nat.mul_le_mul_left _ hsmall
    omega
  unfold Builtin.append_
  simp only [List.getElem?_toArray, List.getElem?_cons_zero, List.getElem?_cons_succ]
  show Sem.run P (underlying t >>= _) w = _
  rw [Sem.run_bind, run_underlying hu, Result.andThen_ok]
  show Sem.run P (sizeOf el >>= _) w = _
  rw [Sem.run_bind, run_sizeOf' hi, Result.andThen_ok]
  show Sem.run P (underlying u >>= _) w = _
  rw [Sem.run_bind, run_underlying hu2, Result.andThen_ok]
  have hz2 : z.cells = ⟨zero⟩ := by rw [cells_mk, hc]
  simp only [Sem.run_bind, Sem.run_pure, Result.andThen_ok, Bool.false_eq_true, if_false, Builtin.lenOf, if_neg (Nat.not_le.2 hfit), Bool.not_false, if_true, run_info hi, if_neg hn1, if_neg hn2, run_choose, hq, run_askRoom]
  rw [hsz2]
  simp only [hfc, hfo, Result.andThen_ok, run_zero hi hz, newRow, Sem.run_bind, run_newObj, Sem.run_pure, hz2, zeroCells_eq zero (by omega), ← hcdef]
  congr 1
  simp
end Go.Vx
