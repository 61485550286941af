/- VX, part 19: contracts of functions out of their forms. -/
import Derived.Test.YtmnagbhllnlelaaGreatDoorVxFin
set_option linter.unusedSimpArgs false
set_option linter.unusedVariables false
namespace Go.Vx
open Go
variable {P : Program} {D0 : DBase} {ro : Option Nat} {m0 : Mem} {w0 : World} {N : Nat}

def okRes (P : Program) (r : ResultVar) (x : Res) : Bool :=
  match r, x with
  | .tmp t, .t n => Nat.beq t n
  | .cell a T, .c k n agg => Nat.beq a k && okAgg P T agg n
  | .cell a T, .h k n agg => Nat.beq a k && okAgg P T agg n
  | _, _ => false
def okRess (P : Program) : List ResultVar → List Res → Bool
  | [], [] => true
  | r :: rs, x :: xs => okRes P r x && okRess P rs xs
  | _, _ => false
def readRes (tmps : Array Value) : ResultVar → Sem Value
  | .tmp t => pure (tmps.getD t undef)
  | .cell a t => do loadVar t (← asAddr (tmps.getD a undef))
theorem run_res {e : Env} {m : Mem} {a : Act} {w : World} (h : Rel D0 m0 w0 N e m a w) {r : ResultVar} {x : Res} {v : Value} (hok : okRes P r x = true) (hv : x.at m e = some v) :
    (readRes a.tmps r).run P w = .ok v w := by
  unfold okRes at hok
  unfold readRes
  split at hok <;> first | (cases hok; done) | skip
  · rename_i t n
    obtain rfl := beq_ff hok
    simp only [Res.at] at hv
    split at hv <;> first | (cases hv; done) | skip
    rename_i u hu
    cases hv
    simp only [Sem.run_pure, h.val _ _ hu]
  · rename_i a' T k n agg
    rw [Bool.and_eq_true] at hok
    obtain rfl := beq_ff hok.1
    simp only [Res.at] at hv
    split at hv <;> first | (cases hv; done) | skip
    rename_i cs hcs
    obtain ⟨b, U, g1, g2, g3, g4⟩ := h.var _ cs hcs
    have hcell : ∀ j v, cs[j]? = some v → w.cell? ((⟨b, 0, none⟩ : Addr).add j) = some v := fun j v hj => by
      have : (⟨b, 0, none⟩ : Addr).add j = ⟨b, j, none⟩ := by unfold Addr.add; split <;> simp_all
      rw [this]; simp [World.cell?, g2, hj]
    obtain ⟨d, i, hd, hi, hk, hn⟩ := okAgg_spec hok.2
    cases agg with
    | true =>
      simp only at hv
      cases hb : Nat.ble n cs.length with
      | false => rw [hb] at hv; cases hv
      | true =>
        rw [hb] at hv; simp only [cond_true, Option.some.injEq] at hv
        subst hv
        have hl : (cs.take n).length = n := by have := Nat.le_of_ble_eq_true hb; simp; omega
        have hc2 : ∀ j v, (cs.take n)[j]? = some v → w.cell? ((⟨b, 0, none⟩ : Addr).add j) = some v := fun j v hj => hcell j v (by
          have : j < n := by have := (List.getElem?_eq_some_iff.1 hj).1; omega
          rw [List.getElem?_take, if_pos this] at hj; exact hj)
        have := run_loadCells_list (P := P) w ⟨b, 0, none⟩ (cs.take n) hc2
        rw [hl] at this
        simp only [g1, asAddr, Sem.run_bind, Sem.run_pure, Result.andThen_ok, loadVar, run_isAgg hd, hk, if_true, run_sizeOf' hi, hn, this]
    | false =>
      simp only at hv
      split at hv <;> first | (cases hv; done) | skip
      rename_i v' r
      cases hv
      have := hcell 0 v rfl
      have h0 : (⟨b, 0, none⟩ : Addr).add 0 = ⟨b, 0, none⟩ := rfl
      rw [h0] at this
      simp only [g1, asAddr, Sem.run_bind, Sem.run_pure, Result.andThen_ok, loadVar, run_isAgg hd, hk, Bool.false_eq_true, if_false, run_load, this]
  · rename_i a' T k n agg
    rw [Bool.and_eq_true] at hok
    obtain rfl := beq_ff hok.1
    simp only [Res.at] at hv
    split at hv <;> first | (cases hv; done) | skip
    rename_i ad hk0
    have g1 := h.val _ _ hk0
    unfold heapVal at hv
    split at hv <;> first | (cases hv; done) | skip
    rename_i c U fr hmc
    split at hv <;> first | (cases hv; done) | skip
    rename_i hsp
    have hwc := h.sub _ _ hmc
    obtain ⟨b, off, sp⟩ := ad
    simp only at hsp hwc hv
    subst hsp
    have hcell : ∀ j v, (c.toList.drop off)[j]? = some v → w.cell? ((⟨b, off, none⟩ : Addr).add j) = some v := fun j v hj => by
      have : (⟨b, off, none⟩ : Addr).add j = ⟨b, off + j, none⟩ := by unfold Addr.add; split <;> simp_all
      rw [List.getElem?_drop, Array.getElem?_toList] at hj
      rw [this]; simp [World.cell?, hwc, hj]
    obtain ⟨d, i, hd, hi, hkk, hn⟩ := okAgg_spec hok.2
    cases agg with
    | true =>
      simp only at hv
      cases hb : Nat.ble (off + n) c.toList.length with
      | false => rw [hb] at hv; cases hv
      | true =>
        rw [hb] at hv; simp only [cond_true, Option.some.injEq] at hv
        subst hv
        have hl : ((c.toList.drop off).take n).length = n := by have := Nat.le_of_ble_eq_true hb; simp at this ⊢; omega
        have hc2 : ∀ j v, ((c.toList.drop off).take n)[j]? = some v → w.cell? ((⟨b, off, none⟩ : Addr).add j) = some v := fun j v hj => hcell j v (by
          have : j < n := by have := (List.getElem?_eq_some_iff.1 hj).1; omega
          rw [List.getElem?_take, if_pos this] at hj; exact hj)
        have := run_loadCells_list (P := P) w ⟨b, off, none⟩ ((c.toList.drop off).take n) hc2
        rw [hl] at this
        simp only [g1, asAddr, Sem.run_bind, Sem.run_pure, Result.andThen_ok, loadVar, run_isAgg hd, hkk, if_true, run_sizeOf' hi, hn, this]
    | false =>
      simp only at hv
      split at hv <;> first | (cases hv; done) | skip
      rename_i v' r hdr
      cases hv
      have := hcell 0 v (by rw [hdr]; rfl)
      have h0 : (⟨b, off, none⟩ : Addr).add 0 = ⟨b, off, none⟩ := rfl
      rw [h0] at this
      simp only [g1, asAddr, Sem.run_bind, Sem.run_pure, Result.andThen_ok, loadVar, run_isAgg hd, hkk, Bool.false_eq_true, if_false, run_load, this]
theorem run_ress {e : Env} {m : Mem} {a : Act} {w : World} (h : Rel D0 m0 w0 N e m a w) : ∀ {rs : List ResultVar} {xs : List Res} {vs : List Value}, okRess P rs xs = true → resAts m e xs = some vs →
    (rs.mapM (readRes a.tmps)).run P w = .ok vs w := by
  intro rs
  induction rs with
  | nil =>
    intro xs vs hok hv
    cases xs with
    | nil => simp only [resAts, Option.some.injEq] at hv; subst hv; rfl
    | cons x xs => simp [okRess] at hok
  | cons r rs ih =>
    intro xs vs hok hv
    cases xs with
    | nil => simp [okRess] at hok
    | cons x xs =>
      simp only [okRess, Bool.and_eq_true] at hok
      simp only [resAts] at hv
      split at hv <;> first | (cases hv; done) | skip
      rename_i v hx
      split at hv <;> first | (cases hv; done) | skip
      rename_i us hus
      cases hv
      rw [List.mapM_cons, Sem.run_bind, run_res h hok.1 hx, Result.andThen_ok, Sem.run_bind, ih hok.2 hus, Result.andThen_ok, Sem.run_pure]
theorem run_results {fn : Func} {e : Env} {m : Mem} {a : Act} {w : World} (h : Rel D0 m0 w0 N e m a w) {xs : List Res} {vs : List Value} (hok : okRess P fn.results.toList xs = true) (hv : resAts m e xs = some vs) : (results fn a.tmps).run P w = .ok (resVal vs) w := by
  have h2 : fn.results.mapM (readRes a.tmps) = (List.toArray <$> fn.results.toList.mapM (readRes a.tmps)) := by rw [Array.mapM_eq_mapM_toList]
  have h3 : results fn a.tmps = (fn.results.mapM (readRes a.tmps) >>= fun vs => pure (if h : vs.size = 1 then vs[0] else .tuple vs)) := by
    unfold results
    congr 1
  rw [h3, h2, Sem.run_bind, Sem.run_map, run_ress h hok hv, Result.andThen_ok, Result.andThen_ok, Sem.run_pure]
  congr 1
  cases vs with
  | nil => rfl
  | cons v vs =>
    cases vs with
    | nil => rfl
    | cons u us =>
      rw [dif_neg (by simp)]
      rfl
def okFn (P : Program) (fn : Func) (F : Fn) : Bool :=
  Nat.beq F.nt fn.ntmps && (match fn.body with | some c => okIR P F.nt true c F.body | none => false) && F.body.okW && okRess P fn.results.toList F.res && !(fn.name == "runtime.NumGoroutine")
/-- The world as it is but for some hidden blocks. -/
structure Off (rs : List Nat) (w w' : World) : Prop where
  heap : ∀ b, b ∉ rs → w'.heap[b]? = w.heap[b]?
  size : w'.heap.size = w.heap.size
  tape : w'.tape = w.tape
  os : w'.os = w.os
  out : w'.output = w.output
/-- The marks go through. -/
theorem leaves_marks {fn : Func} {tmps : Array Value} {R : Ending → World → Prop} {u : FrameMode} (hu : u ≠ .run) {D : List Deferred} : ∀ (rs : List Nat) (w : World), rs.Nodup → (∀ r ∈ rs, w.heap[r]? = some (.deferred (some []))) →
    (∀ w', Off rs w w' → LeavesInM Fence.wide 0 P fn tmps R D u w') → LeavesInM Fence.wide 0 P fn tmps R (rs.map markOf ++ D) u w := by
  intro rs
  induction rs with
  | nil => intro w _ _ h; exact h w ⟨fun _ _ => rfl, rfl, rfl, rfl, rfl⟩
  | cons r rs ih =>
    intro w hn hr h
    let w1 : World := { w with heap := w.heap.setIfInBounds r (.deferred none) }
    have hr0 := hr r (by simp)
    refine ⟨hu, .inl ⟨r, w1, rfl, ?_, ?_⟩⟩
    · simp [Instr.takeDeferred, getObj, setObj, Sem.run, hr0, w1]
    · have h1 : ∀ b, b ≠ r → w1.heap[b]? = w.heap[b]? := fun b hb => by
        show (w.heap.setIfInBounds r _)[b]? = _
        rw [Array.getElem?_setIfInBounds_ne (Ne.symm hb)]
      refine ih w1 (List.nodup_cons.1 hn).2 (fun q hq => ?_) fun w' hw' => h w' ⟨fun b hb => ?_, ?_, hw'.tape, hw'.os, hw'.out⟩
      · have hne : q ≠ r := fun hh => by subst hh; exact (List.nodup_cons.1 hn).1 hq
        rw [h1 q hne]; exact hr q (by simp [hq])
      · have hb1 : b ≠ r := fun hh => hb (by simp [hh])
        have hb2 : b ∉ rs := fun hh => hb (by simp [hh])
        rw [hw'.heap b hb2, h1 b hb1]
      · rw [hw'.size]; simp [w1]
theorem Step.off {m m' : Mem} {w w' w'' : World} {rs : List Nat} (h : Step m w m' w') (hr : ∀ r ∈ rs, m' r = none ∧ w.heap.size ≤ r) (k : Off rs w' w'') : Step m w m' w'' :=
  ⟨fun b o hb => by rw [k.heap b (fun hh => by have := (hr b hh).1; rw [hb] at this; cases this)]; exact h.sub b o hb, by rw [k.size]; exact h.size, fun b hb hm => by
    obtain ⟨h1, h2⟩ := h.keep b hb hm
    exact ⟨h1, by rw [k.heap b (fun hh => by have := (hr b hh).2; omega)]; exact h2⟩, k.tape.trans h.tape, k.os.trans h.os, k.out.trans h.out⟩
/-- The slots stand for the same when hidden blocks that no slot has turn. -/
theorem Rel.off {e : Env} {m : Mem} {a : Act} {w w' : World} (h : Rel D0 m0 w0 N e m a w) {rs : List Nat} (hd : a.defers = rs.map markOf ++ D0.ds) (hr : ∀ r ∈ rs, w.heap[r]? = some (.deferred (some [])) ∧ m r = none ∧ w0.heap.size ≤ r) (k : Off rs w w') :
    Rel D0 m0 w0 N e m { a with defers := D0.ds } w' := by
  refine ⟨h.size, DefsOK.nil _ _ _ _, h.step.off (fun r hh => (hr r hh).2) k, h.val, fun t cs ht => ?_, h.inj, h.ref, h.refi⟩
  obtain ⟨b, T, g1, g2, g3, g4⟩ := h.var t cs ht
  refine ⟨b, T, g1, ?_, g3, g4⟩
  rw [k.heap b (fun hh => by have := (hr b hh).1; rw [g2] at this; cases this)]; exact g2
theorem start_rel {F : Fn} {fn : Func} {args : List Value} {m : Mem} {w : World} (hsub : Sub m w) (hnt : F.nt = fn.ntmps) (hle : args.length ≤ F.nt) :
    Rel D0 m w F.nt (envOf args) m { tmps := (⟨args⟩ : Array Value) ++ Array.replicate (fn.ntmps - (⟨args⟩ : Array Value).size) undef, defers := D0.ds } w := by
  have hv : ∀ t u, envOf args t = some u → ∃ v, u = .val v ∧ args[t]? = some v := fun t u ht => by
    unfold envOf at ht
    split at ht <;> first | (cases ht; done) | skip
    rename_i v hv
    cases ht; exact ⟨v, rfl, hv⟩
  refine ⟨?_, DefsOK.nil _ _ _ _, Step.refl hsub, fun t v ht => ?_, fun t cs ht => ?_, fun t t' cs cs' ht => ?_, fun t k off cs ht => ?_, fun t k off i cs ht => ?_⟩
  · simp; omega
  · obtain ⟨v', hv', hg⟩ := hv t _ ht
    cases hv'
    rw [Array.getD_eq_getD_getElem?]
    have hlt := (List.getElem?_eq_some_iff.1 hg).1
    rw [Array.getElem?_append_left (by simpa using hlt)]
    have : (⟨args⟩ : Array Value)[t]? = args[t]? := by simp
    rw [this, hg]; rfl
  · obtain ⟨_, hh, _⟩ := hv t _ ht; cases hh
  · obtain ⟨_, hh, _⟩ := hv t _ ht; cases hh
  · obtain ⟨_, hh, _⟩ := hv t _ ht; cases hh
  · obtain ⟨_, hh, _⟩ := hv t _ ht; cases hh
theorem step_less {m m' m'' : Mem} {w w' : World} (h : Step m w m' w') (hle : Mem.le m'' m') : Step m w m'' w' :=
  ⟨fun b o hb => h.sub b o (hle b o hb), h.size, (fun b hb hmb => by
    obtain ⟨g1, g2⟩ := h.keep b hb hmb
    refine ⟨?_, g2⟩
    cases hm : m'' b with
    | none => rfl
    | some o => rw [hle b o hm] at g1; cases g1), h.tape, h.os, h.out⟩
theorem calls_of {f : Nat} {fn : Func} {F : Fn} {args : List Value} {m : Mem} {R : Ending → Mem → Prop} (hmix : P.follows .mixedOrders = true) (hf : P.funcs[f]? = some fn) (hok : okFn P fn F = true) (hn : Nat.ble args.length F.nt = true)
    (h : F.asks P args m R) : CallsM P f args m R := by
  simp only [okFn, Bool.and_eq_true, Bool.not_eq_true'] at hok
  obtain ⟨⟨⟨⟨h1, h2⟩, h3⟩, h4⟩, h5⟩ := hok
  split at h2 <;> first | (cases h2; done) | skip
  rename_i c hb
  have hnt := beq_ff h1
  refine ⟨by unfold callable; simp only [hf, hb, h5, Option.isSome_some, Bool.not_false, Bool.and_true], fun w hsub => ?_⟩
  refine callsIn_wide.1 (callsIn_of_wp_marks (F := Fence.wide) (n := 0) hf hb trivial ?_)
  have hrel := start_rel (D0 := ⟨[], false⟩) hsub hnt (Nat.le_of_ble_eq_true hn)
  refine wpIn_mono (ir_sound hmix F.body true ⟨[], false⟩ none m w c _ _ m _ w (fun _ => ⟨rfl, rfl⟩) h2 h3 hrel h) fun ex a' w' hp => ?_
  have fin : ∀ e' m', Rel ⟨[], false⟩ m w F.nt e' m' a' w' → (match resAts m' e' F.res with | some vs => WRet m' R (.returned (resVal vs)) | none => False) →
      LeavesInM Fence.wide 0 P fn a'.tmps (fun e w' => ∃ m', Step m w m' w' ∧ R e m') a'.defers .returning w' := fun e' m' hrel hr => by
    split at hr <;> first | exact hr.elim | skip
    rename_i vs hvs
    unfold WRet at hr
    obtain ⟨m'', hle, hR⟩ := hr
    obtain ⟨rs, d1, d2, _, d3⟩ := hrel.defers
    rw [d1]
    refine leaves_marks (by simp) rs w' d2 (fun r hh => (d3 r hh).1) fun w'' hoff => ?_
    have hrel2 := hrel.off d1 d3 hoff
    exact ⟨_, run_results hrel2 h4 hvs, m'', step_less hrel2.step hle, hR⟩
  cases ex with
  | normal => obtain ⟨e', m', g1, g2⟩ := hp; exact fin e' m' g1 g2
  | ret => obtain ⟨e', m', g1, g2⟩ := hp; exact fin e' m' g1 g2
  | exit j => obtain ⟨e', m', g1, g2⟩ := hp; exact g2.elim
  | goto j => obtain ⟨e', m', g1, g2⟩ := hp; exact g2.elim
  | outgrown => obtain ⟨e', m', g1, g2⟩ := hp; exact g2.elim
  | panic ch =>
    obtain ⟨m', g1, g2, g3⟩ := hp
    simp only [retPost] at g3
    unfold WRet at g3
    obtain ⟨m'', hle, hR⟩ := g3
    obtain ⟨rs, d1, d2, _, d3⟩ := g2
    show LeavesInM Fence.wide 0 P fn a'.tmps _ a'.defers (.panicking ch) w'
    rw [d1]
    exact leaves_marks (by simp) rs w' d2 (fun r hh => (d3 r hh).1) fun w'' hoff => ⟨m'', step_less (g1.off (fun r hh => (d3 r hh).2) hoff) hle, hR⟩
end Go.Vx
