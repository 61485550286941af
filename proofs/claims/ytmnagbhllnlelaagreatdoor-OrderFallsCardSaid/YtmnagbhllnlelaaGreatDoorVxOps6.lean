/- VX, part 8: the runs of the rest. -/
import Derived.Test.YtmnagbhllnlelaaGreatDoorVxOps5
set_option linter.unusedSimpArgs false
set_option linter.unusedVariables false
namespace Go.Vx
open Go
variable {P : Program} {D0 : DBase} {ro : Option Nat} {m0 : Mem} {w0 : World} {N : Nat} {e : Env} {m : Mem} {a : Act} {w : World}

theorem okElem_spec {t sz : Nat} (h : okElem P t sz = true) : ∃ el i, P.underlying t = some (.slice el) ∧ P.info? el = some i ∧ i.size = sz := by
  unfold okElem at h
  cases hu : P.underlying t with
  | none => simp [hu] at h
  | some d =>
    cases d <;> simp only [hu] at h <;> first | (cases h; done) | skip
    rename_i el
    cases hi : P.info? el with
    | none => simp [hi] at h
    | some i => simp only [hi] at h; exact ⟨el, i, rfl, hi, beq_ff h⟩
theorem okArr_spec {t sz len : Nat} (h : okArr P t sz len = true) : ∃ el i, P.underlying t = some (.array len el) ∧ P.info? el = some i ∧ i.size = sz := by
  unfold okArr at h
  cases hu : P.underlying t with
  | none => simp [hu] at h
  | some d =>
    cases d <;> simp only [hu] at h <;> first | (cases h; done) | skip
    rename_i l el
    rw [Bool.and_eq_true] at h
    obtain rfl := beq_ff h.1
    cases hi : P.info? el with
    | none => simp [hi] at h
    | some i => simp only [hi] at h; exact ⟨el, i, rfl, hi, beq_ff h.2⟩
theorem okField_spec {t f off : Nat} (h : okField P t f off = true) : ∃ fs x i, P.underlying t = some (.struct fs) ∧ fs[f]? = some x ∧ x.offset = off ∧ P.info? x.type = some i ∧ i.size ≠ 0 := by
  unfold okField at h
  cases hu : P.underlying t with
  | none => simp [hu] at h
  | some d =>
    cases d <;> simp only [hu] at h <;> first | (cases h; done) | skip
    rename_i fs
    cases hx : fs[f]? with
    | none => simp [hx] at h
    | some x =>
      simp only [hx, Bool.and_eq_true] at h
      cases hi : P.info? x.type with
      | none => simp [hi] at h
      | some i =>
        simp only [hi] at h
        exact ⟨fs, x, i, rfl, hx, beq_ff h.1, hi, fun e => by rw [e] at h; simp at h⟩
theorem run_fieldAt {t f off : Nat} (h : okField P t f off = true) (ad : Addr) : (Instr.fieldAt t (.pointer (some ad)) f).run P w = .ok (.pointer (some (ad.add off))) w := by
  obtain ⟨fs, x, i, hu, hx, ho, hi, h0⟩ := okField_spec h
  unfold Instr.fieldAt
  rw [Sem.run_bind, run_underlying hu, Result.andThen_ok]
  simp only [hx, Instr.sureAddr, fieldPlace, Sem.run_bind, Sem.run_pure, Result.andThen_ok, run_sizeOf' hi, if_neg h0, ho]
theorem run_indexAt {t esz : Nat} (h : okElem P t esz = true) (ad : Addr) (len cap : Nat) (k : IntKind) (i : Int) (hi : 0 ≤ i ∧ i < len) :
    (Instr.indexAt t (.slice (some ad) len cap) (.int k i)).run P w = .ok (.pointer (some (ad.add (i.toNat * esz)))) w := by
  obtain ⟨el, inf, hu, hinf, hs⟩ := okElem_spec h
  unfold Instr.indexAt
  simp only [asIntOf, Sem.run_bind, Sem.run_pure, Result.andThen_ok, run_underlying hu, if_pos hi, run_sizeOf' hinf, hs]
theorem run_indexAt' {t esz len : Nat} (h : okArr P t esz len = true) (ad : Addr) (k : IntKind) (i : Int) (hi : 0 ≤ i ∧ i < len) :
    (Instr.indexAt t (.pointer (some ad)) (.int k i)).run P w = .ok (.pointer (some (ad.add (i.toNat * esz)))) w := by
  obtain ⟨el, inf, hu, hinf, hs⟩ := okArr_spec h
  unfold Instr.indexAt
  simp only [asIntOf, Sem.run_bind, Sem.run_pure, Result.andThen_ok, run_underlying hu, Instr.sureAddr, if_pos hi, run_sizeOf' hinf, hs]
def FldIs (agg : Bool) (cs : Array Value) (off n : Nat) (v : Value) : Prop := match agg with | true => v = .agg ⟨(cs.toList.drop off).take n⟩ | false => ∃ r, cs.toList.drop off = v :: r
theorem run_fieldV {t f off n : Nat} {agg : Bool} {cs : Array Value} {v : Value} (h : okFieldV P t f off n agg = true)
    (hv : FldIs agg cs off n v) : (Instr.field t (.agg cs) f).run P w = .ok v w := by
  unfold okFieldV at h
  cases hu : P.underlying t with
  | none => simp [hu] at h
  | some d =>
    cases d <;> simp only [hu] at h <;> first | (cases h; done) | skip
    rename_i fs
    cases hx : fs[f]? with
    | none => simp [hx] at h
    | some x =>
      simp only [hx, Bool.and_eq_true] at h
      obtain ⟨⟨h1, h2⟩, h3⟩ := h
      obtain ⟨d, i, hd, hi, hk, hn⟩ := okAgg_spec h2
      unfold Instr.field
      rw [Sem.run_bind, run_underlying hu, Result.andThen_ok]
      simp only [hx, asAgg, part, Sem.run_bind, Sem.run_pure, Result.andThen_ok, run_isAgg hd, hk, beq_ff h1]
      unfold FldIs at hv
      cases agg with
      | true =>
        subst hv
        simp only [if_true, Sem.run_bind, run_sizeOf' hi, Result.andThen_ok, Sem.run_pure, hn]
        congr 2
        apply Array.ext'
        simp [List.take_drop, List.extract_eq_take_drop]
      | false =>
        obtain ⟨r, hr⟩ := hv
        have h0 : cs[off]? = some v := by
          have : (cs.toList.drop off)[0]? = some v := by rw [hr]; rfl
          rw [List.getElem?_drop] at this
          simpa using this
        simp only [Bool.false_eq_true, if_false, h0, Sem.run_pure]
theorem okArrV_spec {t sz len : Nat} (h : okArrV P t sz len = true) : ∃ el d i, P.underlying t = some (.array len el) ∧ P.underlying el = some d ∧ P.info? el = some i ∧ kindAgg d = false ∧ i.size = sz := by
  unfold okArrV at h
  cases hu : P.underlying t with
  | none => simp [hu] at h
  | some d =>
    cases d <;> simp only [hu] at h <;> first | (cases h; done) | skip
    rename_i l el
    rw [Bool.and_eq_true] at h
    obtain rfl := beq_ff h.1
    obtain ⟨d, i, hd, hi, hk, hn⟩ := okAgg_spec h.2
    exact ⟨el, d, i, rfl, hd, hi, hk, hn⟩
theorem run_indexV {t len : Nat} {cs : Array Value} {v : Value} {i : Int} (h : okArrV P t 1 len = true) (hi : 0 ≤ i ∧ i < len) (hv : cs.toList[i.toNat]? = some v) (k : IntKind) :
    (Instr.index t (.agg cs) (.int k i)).run P w = .ok v w := by
  obtain ⟨el, d, inf, hu, hd, hinf, hk, hs⟩ := okArrV_spec h
  unfold Instr.index
  have hv' : cs[i.toNat]? = some v := by simpa using hv
  simp only [asIntOf, Sem.run_bind, Sem.run_pure, Result.andThen_ok, run_underlying hu, if_pos hi, run_sizeOf' hinf, hs, part, run_isAgg hd, hk, Bool.false_eq_true, if_false, Nat.mul_one, hv']
theorem run_indexS {t : Nat} {s : ByteArray} {i : Int} {b : UInt8} (h : P.underlying t = some .string) (hi : 0 ≤ i) (hb : s[i.toNat]? = some b) (k : IntKind) : (Instr.index t (.string s) (.int k i)).run P w = .ok (.int .u8 b.toNat) w := by
  unfold Instr.index
  simp only [asIntOf, Sem.run_bind, Sem.run_pure, Result.andThen_ok, run_underlying h, if_pos hi, hb]
theorem run_sliceA {t len el : Nat} {inf : TypeInfo} (h : P.underlying t = some (.array len el)) (hinf : P.info? el = some inf) (hl : len ≠ 0) (a : Addr) : (Instr.sliceAt t (.pointer (some a)) none none none).run P w = .ok (.slice (some (a.add 0)) len len) w := by
  unfold Instr.sliceAt
  simp only [Sem.run_bind, run_underlying h, Result.andThen_ok, Instr.sureAddr, Sem.run_pure, Instr.sliceBounds, run_sizeOf' hinf, Nat.zero_mul, Nat.sub_zero, if_neg hl]
theorem run_slice {t esz : Nat} (h : okElem P t esz = true) {b : Option Addr} {len cap : Nat} {lo hi : Option Value} {l r : Int}
    (hlo : lo = none ∧ l = 0 ∨ ∃ k, lo = some (.int k l)) (hhi : hi = none ∧ r = len ∨ ∃ k, hi = some (.int k r)) (hb : 0 ≤ l ∧ l ≤ r ∧ r ≤ cap) :
    (Instr.sliceAt t (.slice b len cap) lo hi none).run P w = .ok (.slice (if (cap : Int) = l then b else b.map (·.add (l.toNat * esz))) (r.toNat - l.toNat) (cap - l.toNat)) w := by
  obtain ⟨el, inf, hu, hinf, hs⟩ := okElem_spec h
  have hb2 : (Instr.sliceBounds true len cap lo hi none).run P w = .ok (l.toNat, r.toNat, cap) w := by
    have q1 : 0 ≤ r ∧ r ≤ (cap : Int) := ⟨by omega, hb.2.2⟩
    have q2 : 0 ≤ l ∧ l ≤ (r.toNat : Int) := ⟨hb.1, by omega⟩
    rcases hhi with ⟨rfl, rfl⟩ | ⟨k, rfl⟩
    · have q3 : 0 ≤ l ∧ l ≤ (len : Int) := ⟨hb.1, hb.2.1⟩
      rcases hlo with ⟨rfl, rfl⟩ | ⟨k', rfl⟩
      · simp [Instr.sliceBounds]
      · simp only [Instr.sliceBounds, Instr.sliceBound, asIntOf, Sem.run_bind, Sem.run_pure, Result.andThen_ok, if_pos q3, Int.toNat_natCast]
    · rcases hlo with ⟨rfl, rfl⟩ | ⟨k', rfl⟩
      · simp only [Instr.sliceBounds, Instr.sliceBound, asIntOf, Sem.run_bind, Sem.run_pure, Result.andThen_ok, if_pos q1]; rfl
      · simp only [Instr.sliceBounds, Instr.sliceBound, asIntOf, Sem.run_bind, Sem.run_pure, Result.andThen_ok, if_pos q1, if_pos q2]
  unfold Instr.sliceAt
  rw [Sem.run_bind, run_underlying hu, Result.andThen_ok]
  show Sem.run P (Instr.slice t (.slice b len cap) lo hi none) w = _
  unfold Instr.slice
  rw [Sem.run_bind, run_underlying hu, Result.andThen_ok]
  simp only [Sem.run_bind, hb2, Result.andThen_ok, run_sizeOf' hinf, hs, Sem.run_pure]
  congr 2
  by_cases hc : (cap : Int) = l
  · rw [if_pos hc, if_pos (by omega)]
  · rw [if_neg hc, if_neg (by omega)]
theorem run_minmax {mx : Bool} : ∀ (vs : List Value) {k : IntKind} {x : Int} {v : Value}, minmax mx k x vs = some v →
    (vs.foldlM (if mx then Builtin.max2 else Builtin.min2) (.int k x)).run P w = .ok v w := by
  intro vs
  induction vs with
  | nil => intro k x v h; simp only [minmax, Option.some.injEq] at h; subst h; rfl
  | cons u vs ih =>
    intro k x v h
    cases u <;> simp only [minmax] at h <;> first | (cases h; done) | skip
    rename_i k' y
    cases mx with
    | true => simp only [List.foldlM_cons, if_true, Builtin.max2, pure_bind]; exact ih h
    | false => simp only [List.foldlM_cons, Bool.false_eq_true, if_false, Builtin.min2, pure_bind]; exact ih h
theorem callable_spec {f : Nat} (h : callable P f = true) : ∃ fn, P.funcs[f]? = some fn ∧ fn.body.isSome = true ∧ (fn.name == "runtime.NumGoroutine") = false := by
  unfold callable at h
  cases hf : P.funcs[f]? with
  | none => simp [hf] at h
  | some fn => simp only [hf, Bool.and_eq_true, Bool.not_eq_true'] at h; exact ⟨fn, rfl, h.1, h.2⟩
theorem run_callFunc {f : Nat} (h : callable P f = true) (args : Array Value) : (callFunc f args).run P w = .ok (.enter f args) w := by
  obtain ⟨fn, hf, hb, hn⟩ := callable_spec h
  have hb' : fn.body.isNone = false := by cases hh : fn.body with | none => simp [hh] at hb | some _ => rfl
  unfold callFunc
  simp only [Sem.run_bind, run_program, Result.andThen_ok, hf, hn, Bool.false_eq_true, if_false, hb', Sem.run_pure]
end Go.Vx
