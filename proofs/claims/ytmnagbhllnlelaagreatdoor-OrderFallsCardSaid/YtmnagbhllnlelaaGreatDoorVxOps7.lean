/- VX, part 8b: the runs of the operations of maps. -/
import Derived.Test.YtmnagbhllnlelaaGreatDoorVxOps6
import Derived.Maps.RangeRun
import Derived.MapKept
set_option linter.unusedSimpArgs false
set_option linter.unusedVariables false
namespace Go.Vx
open Go
variable {P : Program} {D0 : DBase} {ro : Option Nat} {m0 : Mem} {w0 : World} {N : Nat} {e : Env} {m : Mem} {a : Act} {w : World}

/-- A block that is told, of whatever kind, is laid anew. -/
theorem Step.putO {m : Mem} {w : World} (h : Sub m w) {b : Nat} {o o' : Obj} (hb : m b = some o) : Step m w (m.set b o') { w with heap := w.heap.setIfInBounds b o' } :=
  ⟨fun c q hc => by
    have hlt := h.lt hb
    show (w.heap.setIfInBounds b o')[c]? = _
    by_cases e : c = b
    · subst e; rw [Mem.set_same] at hc; cases hc; simp [hlt]
    · rw [Mem.set_other _ _ e] at hc; rw [Array.getElem?_setIfInBounds_ne (Ne.symm e)]; exact h c q hc,
   by simp, fun c hc hm => by
    have e : c ≠ b := fun e => by subst e; rw [hb] at hm; cases hm
    exact ⟨by rw [Mem.set_other _ _ e]; exact hm, by show (w.heap.setIfInBounds b o')[c]? = _; rw [Array.getElem?_setIfInBounds_ne (Ne.symm e)]⟩, rfl, rfl, rfl⟩

theorem eqCells_true : ∀ {xs ys : List Value}, eqCells xs ys = some true → xs = ys
  | [], [], _ => rfl
  | .int k n :: xs, .int k' l :: ys, h => by
    simp only [eqCells] at h
    cases hk : kbeq k k' with
    | false => rw [hk] at h; cases h
    | true =>
      rw [hk] at h; simp only [cond_true] at h
      split at h <;> try (cases h; done)
      rename_i r hr
      simp only [Option.some.injEq, Bool.and_eq_true, beq_iff_eq] at h
      obtain ⟨h1, rfl⟩ := h
      rw [kbeq_eq hk, h1, eqCells_true hr]
theorem eqCells_ints : ∀ {xs ys : List Value} {r : Bool}, eqCells xs ys = some r → intsL xs = true ∧ intsL ys = true ∧ xs.length = ys.length
  | [], [], _, _ => ⟨rfl, rfl, rfl⟩
  | .int k n :: xs, .int k' l :: ys, r, h => by
    simp only [eqCells] at h
    cases hk : kbeq k k' with
    | false => rw [hk] at h; cases h
    | true =>
      rw [hk] at h; simp only [cond_true] at h
      split at h <;> try (cases h; done)
      rename_i r2 hr
      obtain ⟨h1, h2, h3⟩ := eqCells_ints hr
      exact ⟨h1, h2, by simp [h3]⟩
theorem keq_true {k j : Value} (h : keq k j = some true) : k = j := by
  unfold keq at h
  split at h <;> try (cases h; done)
  · rename_i a n b l
    cases hk : kbeq a b with
    | false => rw [hk] at h; cases h
    | true => rw [hk] at h; simp only [cond_true, Option.some.injEq, beq_iff_eq] at h; rw [kbeq_eq hk, h]
  · rename_i a b
    congr 1; exact Array.ext' (eqCells_true h)
theorem sameBits_ints (d : Nat) : ∀ (xs : List Value), intsL xs = true → ((xs.zip xs).all fun p => Instr.sameBits d p.1 p.2) = true
  | [], _ => rfl
  | .int k n :: xs, h => by
    simp only [List.zip_cons_cons, List.all_cons, Bool.and_eq_true]
    exact ⟨by cases d <;> simp [Instr.sameBits], sameBits_ints d xs h⟩
theorem sameBits_keq {k j : Value} (h : keq k j = some true) : Instr.sameBits 10000 j k = true := by
  unfold keq at h
  split at h <;> try (cases h; done)
  · rename_i a n b l
    cases hk : kbeq a b with
    | false => rw [hk] at h; cases h
    | true => rw [hk] at h; simp only [cond_true, Option.some.injEq, beq_iff_eq] at h; rw [kbeq_eq hk, h]; simp [Instr.sameBits]
  · rename_i a b
    obtain rfl : a = b := Array.ext' (eqCells_true h)
    have := (eqCells_ints h).1
    simp only [Instr.sameBits, beq_self_eq_true, Bool.true_and]
    exact sameBits_ints 9999 _ this
theorem run_keyStays {k j : Value} (h : keq k j = some true) : (Instr.keyThatStays j k).run P w = .ok k w := by
  unfold Instr.keyThatStays
  rw [if_pos (sameBits_keq h)]; rfl

/-! Keys that are arrays of numbers. -/
theorem forIn_range_run {β : Type} (f : Nat → β → Sem (ForInStep β)) (n : Nat) (b : β) : (forIn (m := Sem) [0:n] b f).run P w = (forIn (List.range' 0 n) b f).run P w := by
  rw [Std.Legacy.Range.forIn_eq_forIn_range']
  simp [Std.Legacy.Range.size]
theorem getI {xs : List Value} {s : Nat} {k : IntKind} {n : Int} {r : List Value} (h : xs.drop s = .int k n :: r) : (⟨xs⟩ : Array Value)[s]? = some (.int k n) := by
  rw [List.getElem?_toArray]
  have := congrArg (·[0]?) h
  simpa using this
theorem run_partInt {el : TypeId} {kt : IntKind} (hel : P.underlying el = some (.int kt)) {xs : List Value} {s : Nat} {v : Value} (h : (⟨xs⟩ : Array Value)[s]? = some v) : (part el ⟨xs⟩ s).run P w = .ok v w := part_int hel h
theorem run_sizeOf1 {el : TypeId} {inf : TypeInfo} (hi : P.info? el = some inf) (h1 : inf.size = 1) : (sizeOf el).run P w = .ok 1 w := by rw [run_sizeOf' hi, h1]
theorem run_eqArr (d : Nat) {t el n : Nat} {kt : IntKind} {inf : TypeInfo} (ht : P.underlying t = some (.array n el)) (hel : P.underlying el = some (.int kt)) (hi : P.info? el = some inf) (h1 : inf.size = 1) {xs ys : List Value} {r : Bool}
    (hn : xs.length = n) (hr : eqCells xs ys = some r) : (Op.equalIn (d + 2) t (.agg ⟨xs⟩) (.agg ⟨ys⟩)).run P w = .ok r w := by
  unfold Op.equalIn
  simp only [Sem.run_bind, run_underlying ht, Result.andThen_ok, run_sizeOf1 hi h1, Nat.mul_one]
  rw [forIn_range_run]
  have key : ∀ (k s : Nat) (xs' ys' : List Value) (r : Bool), xs.drop s = xs' → ys.drop s = ys' → xs'.length = k → eqCells xs' ys' = some r →
      (forIn (m := Sem) (List.range' s k) ((none, ()) : Option Bool × Unit) (fun i r => do
        let x ← part el ⟨xs⟩ i
        let y ← part el ⟨ys⟩ i
        let b ← Op.equalIn (d + 1) el x y
        if (!b) = true then pure (ForInStep.done (some false, ())) else pure (ForInStep.yield (none, ())))).run P w = .ok (match r with | true => (none, ()) | false => (some false, ())) w := by
    intro k
    induction k with
    | zero =>
      intro s xs' ys' r hx hy hl hr
      obtain rfl := List.length_eq_zero_iff.1 hl
      cases ys' with
      | nil => simp only [eqCells, Option.some.injEq] at hr; subst hr; rfl
      | cons y ys' => simp [eqCells] at hr
    | succ k ih =>
      intro s xs' ys' r hx hy hl hr
      match xs', ys', hr with
      | .int a n :: xs2, .int b l :: ys2, hr =>
        simp only [eqCells] at hr
        cases hk : kbeq a b with
        | false => rw [hk] at hr; cases hr
        | true =>
          rw [hk] at hr; simp only [cond_true] at hr
          split at hr <;> try (cases hr; done)
          rename_i r2 hr2
          simp only [Option.some.injEq] at hr
          subst hr
          obtain rfl := kbeq_eq hk
          rw [List.range'_succ, List.forIn_cons]
          simp only [Sem.run_bind, run_partInt hel (getI hx), run_partInt hel (getI hy), Result.andThen_ok, run_equalIn_int w d el a kt n l hel]
          cases hnl : (n == l)
          · simp
          · simp only [Bool.not_true, Bool.false_eq_true, if_false, Sem.run_pure, Result.andThen_ok, Bool.true_and]
            exact ih (s + 1) xs2 ys2 r2 (by rw [← List.drop_drop, hx]; rfl) (by rw [← List.drop_drop, hy]; rfl) (by simpa using hl) hr2
  have := key n 0 xs ys r rfl rfl hn hr
  rw [this]
  cases r <;> rfl
theorem run_checkArr (em : Bool) (d : Nat) {t el n : Nat} {kt : IntKind} {inf : TypeInfo} (ht : P.underlying t = some (.array n el)) (hel : P.underlying el = some (.int kt)) (hi : P.info? el = some inf) (h1 : inf.size = 1) {xs : List Value}
    (hn : xs.length = n) (hx : intsL xs = true) : (Instr.checkKey em (d + 2) t (.agg ⟨xs⟩)).run P w = .ok () w := by
  unfold Instr.checkKey
  simp only [Sem.run_bind, run_underlying ht, Result.andThen_ok]
  rw [forIn_range_run]
  have key : ∀ (k s : Nat) (xs' : List Value), xs.drop s = xs' → xs'.length = k → intsL xs' = true →
      (forIn (m := Sem) (List.range' s k) PUnit.unit (fun i r => do
        let z ← sizeOf el
        let x ← part el ⟨xs⟩ (i * z)
        Instr.checkKey em (d + 1) el x
        pure (ForInStep.yield PUnit.unit))).run P w = .ok PUnit.unit w := by
    intro k
    induction k with
    | zero => intro s xs' _ hl _; rfl
    | succ k ih =>
      intro s xs' hx hl hi2
      match xs', hi2 with
      | .int a n :: xs2, hi2 =>
        rw [List.range'_succ, List.forIn_cons]
        have hc : (Instr.checkKey em (d + 1) el (.int a n)).run P w = .ok () w := by
          unfold Instr.checkKey; simp only [Sem.run_bind, run_underlying hel, Result.andThen_ok]; rfl
        simp only [Sem.run_bind, run_sizeOf1 hi h1, Result.andThen_ok, Nat.mul_one, run_partInt hel (getI hx), hc, Sem.run_pure]
        exact ih (s + 1) xs2 (by rw [← List.drop_drop, hx]; rfl) (by simpa using hl) hi2
  rw [key n 0 xs rfl hn hx]
  rfl

theorem okKey_spec {t kn : Nat} (h : okKey P t kn = true) : (∃ kt, P.underlying t = some (.int kt) ∧ kn = 0) ∨ (∃ el kt inf, P.underlying t = some (.array kn el) ∧ kn ≠ 0 ∧ P.underlying el = some (.int kt) ∧ P.info? el = some inf ∧ inf.size = 1) := by
  unfold okKey at h
  split at h <;> try (cases h; done)
  · rename_i kt hu; exact .inl ⟨kt, hu, beq_ff h⟩
  · rename_i n el hu
    simp only [Bool.and_eq_true, Bool.not_eq_true'] at h
    obtain ⟨⟨h1, h2⟩, h3⟩ := h
    split at h3 <;> try (cases h3; done)
    rename_i kt inf hk hi
    obtain rfl := beq_ff h2
    exact .inr ⟨el, kt, inf, hu, (fun hh => by rw [hh] at h1; cases h1), hk, hi, beq_ff h3⟩
theorem run_checkKey' {t kn : Nat} (h : okKey P t kn = true) {k : Value} (hk : kform kn k = true) (em : Bool) : (Instr.checkKey em 10000 t k).run P w = .ok () w := by
  rcases okKey_spec h with ⟨kt, hu, rfl⟩ | ⟨el, kt, inf, hu, hn, hel, hi, h1⟩
  · unfold kform at hk
    split at hk <;> try (cases hk; done)
    · unfold Instr.checkKey; simp only [Sem.run_bind, run_underlying hu, Result.andThen_ok]; rfl
  · unfold kform at hk
    split at hk <;> try (cases hk; done)
    · exact absurd (beq_ff hk) hn
    · rename_i xs
      simp only [Bool.and_eq_true] at hk
      exact run_checkArr em 9998 hu hel hi h1 (xs := xs.toList) (beq_ff hk.1.2) hk.2
theorem run_findKey' {t kn : Nat} (h : okKey P t kn = true) {k : Value} (hk : kform kn k = true) {es : List MapEntry} {f : Option (Nat × Value)} (hf : findK k es 0 = some f) : (Instr.findKey t k es).run P w = .ok f w := by
  rcases okKey_spec h with ⟨kt, hu, rfl⟩ | ⟨el, kt, inf, hu, hn, hel, hi, h1⟩
  · unfold kform at hk
    split at hk <;> try (cases hk; done)
    rename_i kk n
    have key : ∀ (es : List MapEntry) (j : Nat) (f : Option (Nat × Value)), findK (.int kk n) es j = some f → Instr.findNow (.int kt) (.int kk n) es j = some f := by
      intro es
      induction es with
      | nil => intro j f h; exact h
      | cons e es ih =>
        intro j f h
        simp only [findK] at h
        unfold Instr.findNow
        have hs : ∀ r, keq (.int kk n) e.key = some r → Instr.sameNow (.int kt) (.int kk n) e.key = some r := by
          intro r hr
          cases hkey : e.key <;> rw [hkey] at hr <;> simp only [keq] at hr <;> try (cases hr; done)
          rename_i b l
          cases hb : kbeq kk b with
          | false => rw [hb] at hr; cases hr
          | true =>
            rw [hb] at hr
            obtain rfl := kbeq_eq hb
            simpa [Instr.sameNow] using hr
        split at h <;> try (cases h; done)
        · rename_i hq; rw [hs _ hq]; exact h
        · rename_i hq; rw [hs _ hq]; exact ih _ _ h
    unfold Instr.findKey
    simp only [Sem.run_bind, run_underlying hu, Result.andThen_ok, key es 0 f hf]
    rfl
  · unfold kform at hk
    split at hk <;> try (cases hk; done)
    · exact absurd (beq_ff hk) hn
    rename_i xs
    simp only [Bool.and_eq_true] at hk
    have hl := beq_ff hk.1.2
    have ask : ∀ (es : List MapEntry) (j : Nat) (f : Option (Nat × Value)), findK (.agg xs) es j = some f → (Instr.findAsking t (.agg xs) es j).run P w = .ok f w := by
      intro es
      induction es with
      | nil => intro j f h; cases h; rfl
      | cons e es ih =>
        intro j f h
        simp only [findK] at h
        unfold Instr.findAsking
        have hs : ∀ r, keq (.agg xs) e.key = some r → (Op.equal t (.agg xs) e.key).run P w = .ok r w := by
          intro r hr
          cases hkey : e.key <;> rw [hkey] at hr <;> simp only [keq] at hr <;> try (cases hr; done)
          rename_i b
          exact run_eqArr 9998 hu hel hi h1 (xs := xs.toList) (ys := b.toList) hl hr
        split at h <;> try (cases h; done)
        · rename_i hq
          cases h
          simp only [Sem.run_bind, hs _ hq, Result.andThen_ok, if_true, Sem.run_pure]
        · rename_i hq
          simp only [Sem.run_bind, hs _ hq, Result.andThen_ok, Bool.false_eq_true, if_false]
          exact ih _ _ h
    have now : ∀ (es : List MapEntry) (j : Nat), Instr.findNow (.array kn el) (.agg xs) es j = match es with | [] => some none | _ :: _ => none := by
      intro es j
      cases es with
      | nil => rfl
      | cons e es => simp [Instr.findNow, Instr.sameNow]
    unfold Instr.findKey
    simp only [Sem.run_bind, run_underlying hu, Result.andThen_ok, now]
    cases es with
    | nil => cases hf; rfl
    | cons e es => exact ask _ 0 f hf

theorem okMap_spec {t kn : Nat} (h : okMap P t kn = true) : ∃ kt el, P.underlying t = some (.map kt el) ∧ okKey P kt kn = true := by
  unfold okMap at h
  split at h <;> try (cases h; done)
  rename_i kt el hu; exact ⟨kt, el, hu, h⟩
theorem run_getM {r : Nat} {es : Array MapEntry} {cl : Nat} (hs : Sub m w) (h : m r = some (.map es cl)) : (getObj r).run P w = .ok (.map es cl) w := by simp [getObj, Sem.run, hs _ _ h]
theorem run_setM {r : Nat} {es : Array MapEntry} {cl : Nat} {o' : Obj} (hs : Sub m w) (h : m r = some (.map es cl)) : (setObj r o').run P w = .ok () { w with heap := w.heap.setIfInBounds r o' } := by simp [setObj, Sem.run, hs _ _ h]
theorem run_lookup {t kn : Nat} {ok : Bool} {zero : Value} (h : okMap P t kn = true) (hz : okMapZ P t zero = true) {mv k : Value} {f : Option (Nat × Value)} (hk : kform kn k = true)
    (hm : (mv = .map none ∧ f = none) ∨ ∃ r es cl, mv = .map (some r) ∧ w.heap[r]? = some (.map es cl) ∧ findK k es.toList 0 = some f) :
    (Instr.lookup t mv k ok).run P w = .ok (lkRes ok zero f) w := by
  obtain ⟨kt, el, hu, hkt⟩ := okMap_spec h
  unfold okMapZ at hz
  rw [hu] at hz; simp only at hz
  split at hz <;> try (cases hz; done)
  rename_i inf hinf
  split at hz <;> try (cases hz; done)
  rename_i z hz0
  obtain rfl := veq_eq _ _ hz
  have hzero : (zeroValue el).run P w = .ok z w := run_zero hinf hz0 w
  unfold Instr.lookup
  simp only [Sem.run_bind, run_underlying hu, Result.andThen_ok]
  rcases hm with ⟨rfl, rfl⟩ | ⟨r, es, cl, rfl, hb, hf⟩
  · have hfk : (Instr.findKey kt k (#[] : Array MapEntry).toList).run P w = .ok none w := run_findKey' hkt hk (es := []) (f := none) rfl
    refine (Sem.run_bind' P (pure #[]) _ w).trans ?_
    simp only [Sem.run_pure, Result.andThen_ok, Sem.run_bind, run_checkKey' hkt hk, hfk, hzero]
    cases ok <;> rfl
  · have hg : (getObj r).run P w = .ok (.map es cl) w := by simp [getObj, Sem.run, hb]
    simp only [Sem.run_bind, hg, Sem.run_pure, Result.andThen_ok, run_checkKey' hkt hk, run_findKey' hkt hk hf]
    cases f with
    | none => simp only [Result.andThen_ok, Sem.run_bind, hzero, Sem.run_pure]; cases ok <;> rfl
    | some p => obtain ⟨j, v⟩ := p; simp only [Result.andThen_ok, Sem.run_bind, Sem.run_pure]; cases ok <;> rfl
theorem findK_at {k : Value} : ∀ (es : List MapEntry) (j : Nat) {i : Nat} {v : Value}, findK k es j = some (some (i, v)) → ∃ s x, i = j + s ∧ es[s]? = some x ∧ keq k x.key = some true ∧ v = x.val := by
  intro es
  induction es with
  | nil => intro j i v h; cases h
  | cons e es ih =>
    intro j i v h
    simp only [findK] at h
    split at h <;> try (cases h; done)
    · rename_i hq; cases h; exact ⟨0, e, rfl, rfl, hq, rfl⟩
    · obtain ⟨s, x, h1, h2, h3, h4⟩ := ih _ h
      exact ⟨s + 1, x, by omega, by simpa using h2, h3, h4⟩
theorem run_update {t kn : Nat} (h : okMap P t kn = true) (hs : Sub m w) {r : Nat} {es : Array MapEntry} {cl : Nat} (hb : m r = some (.map es cl)) {k v : Value} {f : Option (Nat × Value)} (hk : kform kn k = true) (hf : findK k es.toList 0 = some f) :
    (Instr.mapUpdate t (.map (some r)) k v).run P w = .ok () { w with heap := w.heap.setIfInBounds r (upRes es cl f k v) } := by
  obtain ⟨kt, el, hu, hkt⟩ := okMap_spec h
  unfold Instr.mapUpdate
  simp only [Sem.run_bind, run_underlying hu, Result.andThen_ok, run_getM hs hb, run_checkKey' hkt hk, run_findKey' hkt hk hf]
  cases f with
  | none => simp only [run_setM hs hb]; rfl
  | some p =>
    obtain ⟨j, u⟩ := p
    obtain ⟨s, x, h1, h2, h3, h4⟩ := findK_at _ _ hf
    obtain rfl : j = s := by omega
    have hx : (es[j]?).map (·.key) = some x.key := by rw [← Array.getElem?_toList, h2]; rfl
    simp only [Sem.run_bind, hx, Option.getD_some, run_keyStays h3, Result.andThen_ok, run_setM hs hb]
    rfl
theorem run_append_zeros {t el sz bytes : Nat} {zero : List Value} (ht : okElemT P t el sz bytes zero = true) (hszl : sz = zero.length) {u : TypeId} {k : IntKind} (hu2 : P.underlying u = some (.int k)) {ts : List TypeId} (ty : TypeId) {n : Int}
    (hn0 : 0 ≤ n) (hn1 : n ≤ 9223372036854775807) (hsmall : n.toNat * bytes ≤ 35184372088832) :
    (n = 0 → (Builtin.append_ ⟨t :: u :: ts⟩ ty #[.slice none 0 0, .int .i64 n]).run P w = .ok (.slice none 0 0) w) ∧
    (0 < n → ∃ c, n.toNat ≤ c ∧ (Builtin.append_ ⟨t :: u :: ts⟩ ty #[.slice none 0 0, .int .i64 n]).run P w =
      .ok (.slice (some ⟨w.heap.size, 0, none⟩) n.toNat c) { w with heap := w.heap.push (Cells ((List.replicate n.toNat zero).flatten ++ (List.replicate (c - n.toNat) zero).flatten) el), drawn := w.drawn + 1 }) := by
  obtain ⟨i, z, hu, hi, hz, hc, hsz, hsz2, hb, hb0, hs0⟩ := okElemT_spec ht
  have hwr : IntKind.i64.wrap n = n := IntWalk.i64_in n (by omega)
  have hneg : ¬ n < 0 := by omega
  have hz2 : z.cells = ⟨zero⟩ := by rw [cells_mk, hc]
  have hbig : ¬ n * (i.bytes : Int) > 2 ^ 48 := by
    rw [hb]
    have : n * (bytes : Int) = ((n.toNat * bytes : Nat) : Int) := by
      rw [Int.natCast_mul, Int.toNat_of_nonneg hn0]
    rw [this]; omega
  have start : ∀ (k : Sem Value) , True := fun _ => trivial
  constructor
  · intro h0
    subst h0
    unfold Builtin.append_
    simp only [List.getElem?_toArray, List.getElem?_cons_zero, List.getElem?_cons_succ]
    show Sem.run P (underlying t >>= _) w = _
    rw [Sem.run_bind, run_underlying hu, Result.andThen_ok]
    show Sem.run P (sizeOf el >>= _) w = _
    rw [Sem.run_bind, run_sizeOf' hi, Result.andThen_ok]
    show Sem.run P (underlying u >>= _) w = _
    rw [Sem.run_bind, run_underlying hu2, Result.andThen_ok]
    simp [asInt, asIntOf, run_info hi, hwr]
  · intro hpos
    obtain ⟨c, hcdef⟩ : ∃ c, c = (Question.appendCap (0 + n.toNat) 0 el).cut (w.tape w.drawn (.appendCap (0 + n.toNat) 0 el)) := ⟨_, rfl⟩
    refine ⟨c, by rw [hcdef]; simp [Question.cut], ?_⟩
    have hq : (Question.appendCap (0 + n.toNat) 0 el).forced = false := rfl
    have hfit : (0 : Nat) < 0 + n.toNat := by omega
    have hm1 : ¬ (((0 + n.toNat : Nat) : Int) > IntKind.i64.max ∧ (True ∨ i.bytes = 0)) := fun h => by
      have h1 := h.1
      have : IntKind.i64.max = 9223372036854775807 := rfl
      rw [this] at h1; omega
    have hm2 : ¬ (Builtin.nextslicecap (0 + n.toNat) 0 * i.bytes > 2 ^ 48) := by
      have h3 := nextcap_le hfit
      have h4 : Builtin.nextslicecap (0 + n.toNat) 0 * i.bytes ≤ 2 * (0 + n.toNat) * i.bytes := Nat.mul_le_mul_right _ h3
      have h5 : 2 * (0 + n.toNat) * i.bytes ≤ 2 * 35184372088832 := by rw [Nat.mul_assoc, hb, Nat.zero_add]; exact Nat.mul_le_mul_left _ hsmall
      omega
    have hne : ¬ n.toNat * i.size = 0 := fun h => by
      rcases Nat.mul_eq_zero.1 h with h | h
      · omega
      · exact hs0 (hsz2.symm.trans h)
    unfold Builtin.append_
    simp only [List.getElem?_toArray, List.getElem?_cons_zero, List.getElem?_cons_succ]
    show Sem.run P (underlying t >>= _) w = _
    rw [Sem.run_bind, run_underlying hu, Result.andThen_ok]
    show Sem.run P (sizeOf el >>= _) w = _
    rw [Sem.run_bind, run_sizeOf' hi, Result.andThen_ok]
    show Sem.run P (underlying u >>= _) w = _
    rw [Sem.run_bind, run_underlying hu2, Result.andThen_ok]
    simp only [Sem.run_bind, Sem.run_pure, Result.andThen_ok, if_true, asInt, asIntOf, hwr, if_neg hneg, run_info hi, if_neg hbig, if_neg (Nat.not_le.2 hfit), if_neg hm1, if_neg hm2, run_choose, hq, Bool.false_eq_true, if_false, run_askRoom, Bool.not_true, if_neg hne, Builtin.firstCells]
    simp only [run_zero hi hz, newRow, Sem.run_bind, run_newObj, Sem.run_pure, Result.andThen_ok, hz2, zeroCells_eq zero (by omega), ← hcdef]
    congr 1
    · simp
    · simp
theorem ats1 {e : Env} {x : Opd} {vs : List Value} (h : Opd.ats e [x] = some vs) : ∃ v, x.at e = some v ∧ vs = [v] := by
  simp only [Opd.ats] at h
  split at h <;> try (cases h; done)
  rename_i v hv; cases h; exact ⟨v, hv, rfl⟩
theorem ats2 {e : Env} {x y : Opd} {vs : List Value} (h : Opd.ats e [x, y] = some vs) : ∃ v u, x.at e = some v ∧ y.at e = some u ∧ vs = [v, u] := by
  rw [Opd.ats] at h
  split at h <;> try (cases h; done)
  rename_i v hv
  split at h <;> try (cases h; done)
  rename_i us hus; cases h
  obtain ⟨u, h1, rfl⟩ := ats1 hus
  exact ⟨v, u, hv, h1, rfl⟩
theorem ats3 {e : Env} {x y z : Opd} {vs : List Value} (h : Opd.ats e [x, y, z] = some vs) : ∃ v u t, x.at e = some v ∧ y.at e = some u ∧ z.at e = some t ∧ vs = [v, u, t] := by
  rw [Opd.ats] at h
  split at h <;> try (cases h; done)
  rename_i v hv
  split at h <;> try (cases h; done)
  rename_i us hus; cases h
  obtain ⟨u, t, h1, h2, rfl⟩ := ats2 hus
  exact ⟨v, u, t, hv, h1, h2, rfl⟩
theorem isMapT_spec {t : TypeId} (h : isMapT P t = true) : ∃ kt el, P.underlying t = some (.map kt el) := by
  unfold isMapT at h
  split at h <;> try (cases h; done)
  rename_i kt el hu; exact ⟨kt, el, hu⟩
theorem mapLeft_eq (es : Array MapEntry) (seen : Array Nat) : (leftOf es seen).toList = mapLeft es seen := by unfold leftOf mapLeft; simp
theorem run_mp {o : Oper} {k : MOp} {xs : List Opd} {vs : List Value} {K : Value → Mem → Prop} (ok : okMp P k xs o.op = true) (h : Rel D0 m0 w0 N e m a w) (hvs : Opd.ats e xs = some vs) (hv : WMp k vs m K) :
    ∃ v m' w', K v m' ∧ Step m w m' w' ∧ ((execOp a.eval o).run P w = .ok (.value v) w' ∨ (v = undef ∧ (execOp a.eval o).run P w = .ok .skip w')) := by
  have E : ∀ {x : Opd} {y : Operand} {v : Value}, okX x y = true → x.at e = some v → a.eval y = v := fun hx hv => okX_eval h hx hv
  have hs := h.sub
  have up : ∀ {kn t : Nat} {m1 k1 x1 : Opd} {m' k' x' : Operand}, vs = vs → xs = [m1, k1, x1] → k = .up kn → (okMap P t kn && okX m1 m' && okX k1 k' && okX x1 x') = true →
      ((execOp a.eval o) = (do Instr.mapUpdate t (a.eval m') (a.eval k') (a.eval x'); pure Next.skip : Sem Next)) →
      ∃ v m' w', K v m' ∧ Step m w m' w' ∧ ((execOp a.eval o).run P w = .ok (.value v) w' ∨ (v = undef ∧ (execOp a.eval o).run P w = .ok .skip w')) := by
    intro kn t m1 k1 x1 m' k' x' _ hxs hkk okk hex
    clear ok
    subst hxs; subst hkk
    simp only [Bool.and_eq_true] at okk
    obtain ⟨⟨⟨o1, o2⟩, o3⟩, o4⟩ := okk
    obtain ⟨v1, v2, v3, h1, h2, h3, rfl⟩ := ats3 hvs
    unfold WMp at hv
    split at hv <;> first | exact hv.elim | (rename_i hq _; cases hq; done) | (rename_i hq; cases hq; done) | skip
    all_goals (rename_i q1 q2; first | (cases q1; done) | (cases q2; done) | skip)
    cases q1; cases q2
    obtain ⟨hk, es, cl, f, hb, hf, hv⟩ := hv
    refine ⟨undef, _, _, hv, Step.putO hs hb, .inr ⟨rfl, ?_⟩⟩
    rw [hex, E o2 h1, E o3 h2, E o4 h3, Sem.run_bind, run_update o1 hs hb hk hf]; rfl
  unfold okMp at ok
  split at ok <;> try (cases ok; done)
  · rename_i x c hop
    split at ok <;> try (cases ok; done)
    rename_i hcal
    split at ok <;> try (cases ok; done)
    rename_i y t ts hargs htys
    rw [Bool.and_eq_true] at ok
    obtain ⟨ok1, ok2⟩ := ok
    split at ok2 <;> try (cases ok2; done)
    rename_i el hu
    obtain ⟨v, hx, rfl⟩ := ats1 hvs
    have ha : c.args.map a.eval = #[a.eval y] := by apply Array.ext'; simp [hargs]
    have ht : c.argTypes[0]? = some t := by rw [← Array.getElem?_toList, htys]; rfl
    cases v <;> unfold WMp at hv <;> try exact hv.elim
    refine ⟨_, _, _, hv, Step.refl hs, .inl ?_⟩
    simp only [execOp, hop, resolve, hcal, Sem.run_bind, Sem.run_pure, Result.andThen_ok, invoke, builtin, ha, E ok1 hx]
    simp [Builtin.cap_, ht, run_underlying hu, goInt]
  · rename_i el sz bytes zero x i c hop
    split at ok <;> try (cases ok; done)
    rename_i hcal
    split at ok <;> try (cases ok; done)
    rename_i y z t u ts hargs htys
    simp only [Bool.and_eq_true] at ok
    obtain ⟨⟨⟨⟨o1, o2⟩, o3⟩, o4⟩, o5⟩ := ok
    split at o5 <;> try (cases o5; done)
    rename_i kk hu
    obtain ⟨v1, v2, hx, hy, rfl⟩ := ats2 hvs
    have ha : c.args.map a.eval = #[a.eval y, a.eval z] := by apply Array.ext'; simp [hargs]
    have ht : c.argTypes = ⟨t :: u :: ts⟩ := by apply Array.ext'; rw [htys]
    unfold WMp at hv
    split at hv <;> try (first | exact hv.elim | (rename_i hq _; cases hq; done) | (rename_i hq; cases hq; done))
    rename_i q1 q2
    cases q1; cases q2
    obtain ⟨⟨n0, n1, n2⟩, hz0, hz1⟩ := hv
    have hap := run_append_zeros (P := P) (w := w) (ts := ts) o3 (beq_ff o4) hu o.type n0 n2 n1
    rename_i n
    have hex : (execOp a.eval o).run P w = ((Builtin.append_ ⟨t :: u :: ts⟩ o.type #[.slice none 0 0, .int .i64 n]).run P w).andThen fun v w => .ok (.value v) w := by
      simp only [execOp, hop, resolve, hcal, Sem.run_bind, Sem.run_pure, Result.andThen_ok, invoke, builtin, ha, E o1 hx, E o2 hy, ht]
    by_cases hn : n = 0
    · exact ⟨_, _, _, hz0 hn, Step.refl hs, .inl (by rw [hex, hap.1 hn]; rfl)⟩
    · obtain ⟨cp, hc1, hc2⟩ := hap.2 (by omega)
      refine ⟨_, _, _, hz1 (by omega) _ cp (Sub.none hs (Nat.le_refl _)) hc1, ?_, .inl (by rw [hex, hc2]; rfl)⟩
      exact (Step.new hs _).trans (Step.drew (Step.new hs _).sub _)
  · rename_i t hop
    cases hvs
    unfold WMp at hv
    exact ⟨_, _, _, hv _ (Sub.none hs (Nat.le_refl _)), Step.new hs (.map #[] 0), .inl (by simp only [execOp, hop, Instr.makeMap]; rfl)⟩
  · rename_i kn okc zero x i t x' i' okc' hop
    simp only [Bool.and_eq_true, beq_iff_eq] at ok
    obtain ⟨⟨⟨⟨o1, o2⟩, rfl⟩, o3⟩, o4⟩ := ok
    obtain ⟨vx, vi, hx, hi, rfl⟩ := ats2 hvs
    have hrun : ∀ {f}, kform kn vi = true → ((vx = .map none ∧ f = none) ∨ ∃ r es cl, vx = .map (some r) ∧ w.heap[r]? = some (.map es cl) ∧ findK vi es.toList 0 = some f) →
        (execOp a.eval o).run P w = .ok (.value (lkRes okc zero f)) w := fun hk hm => by
      simp only [execOp, hop, E o3 hx, E o4 hi, Sem.run_bind, run_lookup o1 o2 hk hm, Result.andThen_ok, Sem.run_pure]
    cases vx <;> unfold WMp at hv <;> try exact hv.elim
    rename_i q
    cases q with
    | none => exact ⟨_, _, _, hv.2, Step.refl hs, .inl (hrun hv.1 (.inl ⟨rfl, rfl⟩))⟩
    | some r =>
      obtain ⟨hk, es, cl, f, hb, hf, hv⟩ := hv
      exact ⟨_, _, _, hv, Step.refl hs, .inl (hrun hk (.inr ⟨r, es, cl, rfl, hs _ _ hb, hf⟩))⟩
  · rename_i kn m1 k1 x1 t m' k' x' hop
    exact up rfl rfl rfl ok (by simp only [execOp, hop])
  · rename_i kn m1 k1 x1 t m' k' x' hop
    exact up rfl rfl rfl ok (by simp only [execOp, hop])
  · rename_i x c hop
    split at ok <;> try (cases ok; done)
    rename_i hcal
    split at ok <;> try (cases ok; done)
    rename_i y t ts hargs htys
    rw [Bool.and_eq_true] at ok
    obtain ⟨kt, el, hu⟩ := isMapT_spec ok.2
    obtain ⟨v, hx, rfl⟩ := ats1 hvs
    have ha : c.args.map a.eval = #[a.eval y] := by apply Array.ext'; simp [hargs]
    have ht : c.argTypes[0]? = some t := by rw [← Array.getElem?_toList, htys]; rfl
    cases v <;> unfold WMp at hv <;> try exact hv.elim
    rename_i q
    cases q with
    | none =>
      refine ⟨_, _, _, hv, Step.refl hs, .inl ?_⟩
      simp only [execOp, hop, resolve, hcal, Sem.run_bind, Sem.run_pure, Result.andThen_ok, invoke, builtin, ha, E ok.1 hx]
      simp [Builtin.len_, ht, run_underlying hu, goInt]
    | some r =>
      obtain ⟨es, cl, hb, hv⟩ := hv
      refine ⟨_, _, _, hv, Step.refl hs, .inl ?_⟩
      simp only [execOp, hop, resolve, hcal, Sem.run_bind, Sem.run_pure, Result.andThen_ok, invoke, builtin, ha, E ok.1 hx]
      simp [Builtin.len_, ht, run_underlying hu, goInt, run_getM hs hb]
  · rename_i x t x' hop
    rw [Bool.and_eq_true] at ok
    obtain ⟨kt, el, hu⟩ := isMapT_spec ok.1
    obtain ⟨v, hx, rfl⟩ := ats1 hvs
    cases v <;> unfold WMp at hv <;> try exact hv.elim
    rename_i q
    cases q with
    | none =>
      refine ⟨_, _, _, hv _ (Sub.none hs (Nat.le_refl _)), Step.new hs (.mapIter none 0 #[] 0), .inl ?_⟩
      simp only [execOp, hop, E ok.2 hx, Instr.range, Sem.run_bind, run_underlying hu, Result.andThen_ok, Sem.run_pure]; rfl
    | some r =>
      obtain ⟨es, cl, hb, hv⟩ := hv
      refine ⟨_, _, _, hv _ (Sub.none hs (Nat.le_refl _)), Step.new hs (.mapIter (some r) cl #[] cl), .inl ?_⟩
      simp only [execOp, hop, E ok.2 hx, Instr.range, Sem.run_bind, run_underlying hu, Result.andThen_ok, Sem.run_pure, run_getM hs hb]; rfl
  · rename_i x x' hop
    obtain ⟨v, hx, rfl⟩ := ats1 hvs
    have hex : (execOp a.eval o).run P w = ((Instr.next v false o.type).run P w).andThen fun v w => .ok (.value v) w := by
      simp only [execOp, hop, E ok hx, Sem.run_bind, Sem.run_pure]
    unfold WMp at hv
    split at hv <;> try (first | exact hv.elim | (rename_i hq _; cases hq; done) | (rename_i hq; cases hq; done))
    rename_i b q1 q2
    cases q2
    obtain ⟨bm, hv⟩ := hv
    rcases hv with ⟨hb, _, hv⟩ | ⟨r, since, seen, c0, es, cl, _, hb, hr, hold, hsc, hv1, hv2⟩
    · refine ⟨_, _, _, hv, Step.refl hs, .inl ?_⟩
      rw [hex]
      have : (getObj b).run P w = .ok (.mapIter none 0 #[] 0) w := by simp [getObj, Sem.run, hs _ _ hb]
      simp only [Instr.next, Sem.run_bind, this, Result.andThen_ok, Sem.run_pure]
    · rcases run_next_at (P := P) w o.type b r since c0 seen es cl (hs _ _ hb) (hs _ _ hr) hold hsc with ⟨g1, g2⟩ | ⟨x, hx, w1, hw, g2⟩
      · refine ⟨_, _, _, hv1 ?_, Step.refl hs, .inl (by rw [hex, g2]; rfl)⟩
        rw [← mapLeft_eq]
        have : leftOf es seen = #[] := Array.eq_empty_of_size_eq_zero g1
        rw [this]
      · rw [mapLeft_eq] at hx
        refine ⟨_, _, _, hv2 x hx, ?_, .inl (by rw [hex, g2]; rfl)⟩
        have s1 : Step m w m w1 := by
          rcases hw with rfl | rfl
          · exact Step.refl hs
          · exact Step.drew hs _
        exact s1.trans (Step.putO s1.sub hb)
  · rename_i x x' hop
    obtain ⟨v, hx, rfl⟩ := ats1 hvs
    unfold WMp at hv
    split at hv <;> try (first | exact hv.elim | (rename_i hq _; cases hq; done) | (rename_i hq; cases hq; done))
    rename_i b q1 q2
    cases q2
    obtain ⟨r, since, seen, es, cl, x, hb, hr, hx1, hx2, hv⟩ := hv
    refine ⟨_, _, _, hv, Step.refl hs, .inl ?_⟩
    simp only [execOp, hop, E ok hx, Sem.run_bind, run_entry_at w b r since seen es cl x (hs _ _ hb) (hs _ _ hr) hx1 hx2, Result.andThen_ok, Sem.run_pure]
end Go.Vx
