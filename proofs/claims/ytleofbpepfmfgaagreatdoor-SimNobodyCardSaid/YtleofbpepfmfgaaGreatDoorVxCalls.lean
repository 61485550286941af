/- VX, part 19: contracts of functions out of their forms. -/
import Derived.Test.YtleofbpepfmfgaaGreatDoorVxFin
set_option linter.unusedSimpArgs false
set_option linter.unusedVariables false
namespace Go.Vx
open Go
variable {P : Program} {m0 : Mem} {w0 : World} {N : Nat}

def okRes (P : Program) (r : ResultVar) (x : Res) : Bool :=
  match r, x with
  | .tmp t, .t n => Nat.beq t n
  | .cell a T, .c k n agg => Nat.beq a k && okAgg P T agg n
  | _, _ => false
def okRess (P : Program) : List ResultVar → List Res → Bool
  | [], [] => true
  | r :: rs, x :: xs => okRes P r x && okRess P rs xs
  | _, _ => false
def readRes (tmps : Array Value) : ResultVar → Sem Value
  | .tmp t => pure (tmps.getD t undef)
  | .cell a t => do loadVar t (← asAddr (tmps.getD a undef))
theorem run_res {e : Env} {m : Mem} {a : Act} {w : World} (h : Rel m0 w0 N e m a w) {r : ResultVar} {x : Res} {v : Value} (hok : okRes P r x = true) (hv : x.at e = some v) :
    (readRes a.tmps r).run P w = .ok v w := by
  unfold okRes at hok
  unfold readRes
  split at hok <;> first | (cases hok; done) | skip
  · rename_i t n
    obtain rfl := beq_ff hok
    simp only [Res.at] at hv
    split at hv <;> first | (cases hv; done) | skip
    rename_i u hu
    cases hv
    simp only [Sem.run_pure, h.val _ _ hu]
  · rename_i a' T k n agg
    rw [Bool.and_eq_true] at hok
    obtain rfl := beq_ff hok.1
    simp only [Res.at] at hv
    split at hv <;> first | (cases hv; done) | skip
    rename_i cs hcs
    obtain ⟨b, U, g1, g2, g3, g4⟩ := h.var _ cs hcs
    have hcell : ∀ j v, cs[j]? = some v → w.cell? ((⟨b, 0, none⟩ : Addr).add j) = some v := fun j v hj => by
      have : (⟨b, 0, none⟩ : Addr).add j = ⟨b, j, none⟩ := by unfold Addr.add; split <;> simp_all
      rw [this]; simp [World.cell?, g2, hj]
    obtain ⟨d, i, hd, hi, hk, hn⟩ := okAgg_spec hok.2
    cases agg with
    | true =>
      simp only at hv
      cases hb : Nat.ble n cs.length with
      | false => rw [hb] at hv; cases hv
      | true =>
        rw [hb] at hv; simp only [cond_true, Option.some.injEq] at hv
        subst hv
        have hl : (cs.take n).length = n := by have := Nat.le_of_ble_eq_true hb; simp; omega
        have hc2 : ∀ j v, (cs.take n)[j]? = some v → w.cell? ((⟨b, 0, none⟩ : Addr).add j) = some v := fun j v hj => hcell j v (by
          have : j < n := by have := (List.getElem?_eq_some_iff.1 hj).1; omega
          rw [List.getElem?_take, if_pos this] at hj; exact hj)
        have := run_loadCells_list (P := P) w ⟨b, 0, none⟩ (cs.take n) hc2
        rw [hl] at this
        simp only [g1, asAddr, Sem.run_bind, Sem.run_pure, Result.andThen_ok, loadVar, run_isAgg hd, hk, if_true, run_sizeOf' hi, hn, this]
    | false =>
      simp only at hv
      split at hv <;> first | (cases hv; done) | skip
      rename_i v' r
      cases hv
      have := hcell 0 v rfl
      have h0 : (⟨b, 0, none⟩ : Addr).add 0 = ⟨b, 0, none⟩ := rfl
      rw [h0] at this
      simp only [g1, asAddr, Sem.run_bind, Sem.run_pure, Result.andThen_ok, loadVar, run_isAgg hd, hk, Bool.false_eq_true, if_false, run_load, this]
theorem run_ress {e : Env} {m : Mem} {a : Act} {w : World} (h : Rel m0 w0 N e m a w) : ∀ {rs : List ResultVar} {xs : List Res} {vs : List Value}, okRess P rs xs = true → resAts e xs = some vs →
    (rs.mapM (readRes a.tmps)).run P w = .ok vs w := by
  intro rs
  induction rs with
  | nil =>
    intro xs vs hok hv
    cases xs with
    | nil => simp only [resAts, Option.some.injEq] at hv; subst hv; rfl
    | cons x xs => simp [okRess] at hok
  | cons r rs ih =>
    intro xs vs hok hv
    cases xs with
    | nil => simp [okRess] at hok
    | cons x xs =>
      simp only [okRess, Bool.and_eq_true] at hok
      simp only [resAts] at hv
      split at hv <;> first | (cases hv; done) | skip
      rename_i v hx
      split at hv <;> first | (cases hv; done) | skip
      rename_i us hus
      cases hv
      rw [List.mapM_cons, Sem.run_bind, run_res h hok.1 hx, Result.andThen_ok, Sem.run_bind, ih hok.2 hus, Result.andThen_ok, Sem.run_pure]
theorem run_results {fn : Func} {e : Env} {m : Mem} {a : Act} {w : World} (h : Rel m0 w0 N e m a w) {xs : List Res} {vs : List Value} (hok : okRess P fn.results.toList xs = true) (hv : resAts e xs = some vs) : (results fn a.tmps).run P w = .ok (resVal vs) w := by
  have h2 : fn.results.mapM (readRes a.tmps) = (List.toArray <$> fn.results.toList.mapM (readRes a.tmps)) := by rw [Array.mapM_eq_mapM_toList]
  have h3 : results fn a.tmps = (fn.results.mapM (readRes a.tmps) >>= fun vs => pure (if h : vs.size = 1 then vs[0] else .tuple vs)) := by
    unfold results
    congr 1
  rw [h3, h2, Sem.run_bind, Sem.run_map, run_ress h hok hv, Result.andThen_ok, Result.andThen_ok, Sem.run_pure]
  congr 1
  cases vs with
  | nil => rfl
  | cons v vs =>
    cases vs with
    | nil => rfl
    | cons u us =>
      rw [dif_neg (by simp)]
      rfl
def okFn (P : Program) (fn : Func) (F : Fn) : Bool :=
  Nat.beq F.nt fn.ntmps && (match fn.body with | some c => okIR P F.nt c F.body | none => false) && F.body.okW && okRess P fn.results.toList F.res && !(fn.name == "runtime.NumGoroutine")
theorem calls_of {f : Nat} {fn : Func} {F : Fn} {args : List Value} {m : Mem} {R : Ending → Mem → Prop} (hmix : P.follows .mixedOrders = true) (hf : P.funcs[f]? = some fn) (hok : okFn P fn F = true) (hn : Nat.ble args.length F.nt = true)
    (h : F.asks P args m R) : CallsM P f args m R := by
  simp only [okFn, Bool.and_eq_true, Bool.not_eq_true'] at hok
  obtain ⟨⟨⟨⟨h1, h2⟩, h3⟩, h4⟩, h5⟩ := hok
  split at h2 <;> first | (cases h2; done) | skip
  rename_i c hb
  have hnt := beq_ff h1
  refine ⟨by unfold callable; simp only [hf, hb, h5, Option.isSome_some, Bool.not_false, Bool.and_true], fun w hsub => ?_⟩
  refine calls_of_wp hf hb ?_
  have hle := Nat.le_of_ble_eq_true hn
  have hrel : Rel m w F.nt (envOf args) m { tmps := (⟨args⟩ : Array Value) ++ Array.replicate (fn.ntmps - (⟨args⟩ : Array Value).size) undef, defers := [] } w := by
    have hv : ∀ t u, envOf args t = some u → ∃ v, u = .val v ∧ args[t]? = some v := fun t u ht => by
      unfold envOf at ht
      split at ht <;> first | (cases ht; done) | skip
      rename_i v hv
      cases ht; exact ⟨v, rfl, hv⟩
    refine ⟨?_, rfl, Step.refl hsub, fun t v ht => ?_, fun t cs ht => ?_, fun t t' cs cs' ht => ?_, fun t k off cs ht => ?_, fun t k off i cs ht => ?_⟩
    · simp; omega
    · obtain ⟨v', hv', hg⟩ := hv t _ ht
      cases hv'
      rw [Array.getD_eq_getD_getElem?]
      have hlt := (List.getElem?_eq_some_iff.1 hg).1
      rw [Array.getElem?_append_left (by simpa using hlt)]
      have : (⟨args⟩ : Array Value)[t]? = args[t]? := by simp
      rw [this, hg]; rfl
    · obtain ⟨_, hh, _⟩ := hv t _ ht; cases hh
    · obtain ⟨_, hh, _⟩ := hv t _ ht; cases hh
    · obtain ⟨_, hh, _⟩ := hv t _ ht; cases hh
    · obtain ⟨_, hh, _⟩ := hv t _ ht; cases hh
  refine wp_mono (ir_sound hmix F.body c _ _ m _ w h2 h3 hrel h) fun ex a' w' hp => ?_
  have fin : ∀ e' m', Rel m w F.nt e' m' a' w' → (match resAts e' F.res with | some vs => WRet m' R (.returned (resVal vs)) | none => False) →
      a'.defers = [] ∧ ∃ v, (results fn a'.tmps).run P w' = .ok v w' ∧ ∃ m', Step m w m' w' ∧ R (.returned v) m' := fun e' m' hrel hr => by
    split at hr <;> first | exact hr.elim | skip
    rename_i vs hvs
    unfold WRet at hr
    obtain ⟨m'', hle, hR⟩ := hr
    refine ⟨hrel.defers, _, run_results hrel h4 hvs, m'', ⟨fun b o hb => hrel.sub b o (hle b o hb), hrel.step.size, fun b hb hmb => ?_, hrel.step.tape, hrel.step.os, hrel.step.out⟩, hR⟩
    obtain ⟨g1, g2⟩ := hrel.step.keep b hb hmb
    refine ⟨?_, g2⟩
    cases hm : m'' b with
    | none => rfl
    | some o => rw [hle b o hm] at g1; cases g1
  cases ex with
  | normal => obtain ⟨e', m', g1, g2⟩ := hp; exact fin e' m' g1 g2
  | ret => obtain ⟨e', m', g1, g2⟩ := hp; exact fin e' m' g1 g2
  | exit j => obtain ⟨e', m', g1, g2⟩ := hp; exact g2.elim
  | goto j => obtain ⟨e', m', g1, g2⟩ := hp; exact g2.elim
  | outgrown => obtain ⟨e', m', g1, g2⟩ := hp; exact g2.elim
  | panic ch =>
    obtain ⟨m', g1, g2, g3⟩ := hp
    simp only [retPost] at g3
    unfold WRet at g3
    obtain ⟨m'', hle, hR⟩ := g3
    refine ⟨g2, m'', ⟨fun b o hb => g1.sub b o (hle b o hb), g1.size, fun b hb hmb => ?_, g1.tape, g1.os, g1.out⟩, hR⟩
    obtain ⟨g4, g5⟩ := g1.keep b hb hmb
    refine ⟨?_, g5⟩
    cases hm : m'' b with
    | none => rfl
    | some o => rw [hle b o hm] at g4; cases g4
end Go.Vx
