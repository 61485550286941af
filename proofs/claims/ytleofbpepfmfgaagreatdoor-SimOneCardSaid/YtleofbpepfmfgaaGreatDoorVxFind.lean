import Derived.Test.YtleofbpepfmfgaaGreatDoorVxEvH
import Derived.Test.YtleofbpepfmfgaaGreatDoorProg
import Derived.Tactics
import Derived.Tactics2
import Derived.Defers
import Derived.Recover
import Derived.KernelRfl
import Derived.Laws.Pointers
set_option linter.unusedSimpArgs false
set_option linter.unusedVariables false
namespace Go.Vx
open Go
variable {P : Program}

inductive IRD where
 | seq (x : IR) (y : IRD)
 | dfr (pre : RG) (f : Opd) (args : List Opd) (y : IR)
structure FnD where
 nt : Nat
 res : List Res
 body : IRD
end Go.Vx
namespace Go.Vx.Ev
open Go Go.Vx
variable {P : Program} {gl : List Nat} {μ : Mem} {G : Ghost} {x : Cx} {t : St} {m : Mem} {c e : Env}
end Go.Vx.Ev
set_option linter.unusedVariables false
set_option maxRecDepth 100000
namespace Go.Proofs.YtleofbpepfmfgaaGreatDoor
open Go Go.Vx

theorem catch_idle (p : Addr) (w : World) :
  CallsD Tryz.prog 147 #[.pointer (some p)] .returning w fun e u' w' => e = .returned (.tuple #[]) ∧ u' = .returning ∧ w' = w := by
 refine callsD_of_wpS Tryz.func147 rfl fun c₀ cs hu => ?_
 apply wpS_seq
 apply wpS_region
 simp [wpOpsS, go_sem, recoverD, hu, Tryz.ntmps147, Exit.thenS]
 apply wpS_seq
 apply wpS_region
 simp [wpOpsS, go_sem, Exit.thenS, Tryz.underlying20]
 refine wpS_cond (t := false) (by simp [Act.eval, Array.replicate]) ?_
 simp only [Bool.false_eq_true, if_false]
 refine wpS_of_wp (wp_skip ?_)
 cases c₀
 simp_all [bodyPostS, results, Tryz.results147]
theorem rel1 (v : Value) (w : World) : Rel ⟨[], true⟩ (fun _ => none) w 1 (envOf [v]) (fun _ => none) { tmps := #[v], defers := [] } w := by
 have hv : ∀ t u, envOf [v] t = some u → ∃ x, u = .val x ∧ [v][t]? = some x := fun t u ht => by
  unfold envOf at ht
  split at ht <;> first | (cases ht; done) | skip
  rename_i x hx
  cases ht; exact ⟨x, rfl, hx⟩
 refine ⟨rfl, DefsOK.nil _ _ _ _, ⟨fun b o h => by (cases h), Nat.le_refl _, fun b _ _ => ⟨rfl, rfl⟩, rfl, rfl, rfl⟩, fun t x ht => ?_, fun t cs ht => ?_, fun t t' cs cs' ht => ?_, fun t k off cs ht => ?_, fun t k off i cs ht => ?_⟩
 ·obtain ⟨y, hy, hg⟩ := hv t _ ht
  cases hy
  rw [Array.getD_eq_getD_getElem?]
  have : (#[v] : Array Value)[t]? = [v][t]? := by simp
  rw [this, hg]; rfl
 all_goals (obtain ⟨_, hh, _⟩ := hv _ _ ht; cases hh)
theorem setCell_same {w : World} {b off T : Nat} {c : Array Value} {fr : Nat × Nat} {v : Value} (h : w.heap[b]? = some (.cells c T fr)) (hc : c[off]? = some v) : w.setCell ⟨b, off, none⟩ v = w := by
 have hh : (w.setCell ⟨b, off, none⟩ v).heap = w.heap := by
  unfold World.setCell
  apply Array.ext_getElem?
  intro j
  rw [Array.getElem?_modify]
  by_cases e : b = j
  ·subst e
   rw [if_pos rfl, h]
   simp only [Option.map_some, Option.isSome_none, Bool.false_eq_true, if_false]
   congr 2
   apply Array.ext_getElem?
   intro k
   rw [Array.getElem?_setIfInBounds]
   by_cases e : off = k
   ·subst e; rw [if_pos rfl, hc]; simp [(Array.getElem?_eq_some_iff.1 hc).1]
   ·rw [if_neg e]
  ·rw [if_neg e]
 calc w.setCell ⟨b, off, none⟩ v = { w with heap := (w.setCell ⟨b, off, none⟩ v).heap } := rfl
  _ = w := by rw [hh]
theorem mixed : Tryz.prog.follows .mixedOrders = true := by kernel_rfl
theorem find_ok (a b c d e f : Value) (w : World) (R : Ending → World → Prop)
  (H : Calls Tryz.prog 148 #[.pointer (some ⟨w.heap.size + 2, 0, none⟩)] (((w.alloc (.cells #[a, b, c, d, e, f] 156)).alloc (.cells #[.int .i64 0, .int .i64 0, .int .i64 0] 186)).alloc (.cells #[a, b, c, d, e, f, .int .i64 0, .int .i64 0] 219)) fun en w4 => (∃ v, en = .returned v) ∧
   w4.heap[w.heap.size + 1]? = some (.cells #[.int .i64 0, .int .i64 0, .int .i64 0] 186) ∧
   R (.returned (.agg #[.int .i64 0, .int .i64 0, .int .i64 0])) w4) :
  Calls Tryz.prog 123 #[.agg #[a, b, c, d, e, f]] w R := by
 have hmf : ∀ (fn : Go.Fn) (first cap : Array Value) (w : World), (Instr.makeFunc fn first cap).run Tryz.prog w = .ok (.func fn first cap) w := fun _ _ _ _ => rfl
 have hbd : ∀ w, (Instr.build 219 #[(0, .agg #[a, b, c, d, e, f])]).run Tryz.prog w = .ok (.agg #[a, b, c, d, e, f, .int .i64 0, .int .i64 0]) w := fun w =>
  (by have h := Go.Vx.run_build (P := Tryz.prog) (cs := [a, b, c, d, e, f, .int .i64 0, .int .i64 0]) (rel1 (.agg #[a, b, c, d, e, f]) w) (t := 219) (zeros := [ns, i 0, i 0, i 0, i 0, ns, i 0, i 0]) (ps := [(0, 6, .t 0)]) (qs := #[(0, .tmp 0)]) (by kernel_rfl) (by kernel_rfl) (by kernel_rfl) rfl rfl
      simpa [Act.eval] using h)
 have hbz : ∀ w, (Instr.build 186 #[]).run Tryz.prog w = .ok (.agg #[.int .i64 0, .int .i64 0, .int .i64 0]) w := fun w =>
  (by have h := Go.Vx.run_build (P := Tryz.prog) (rel1 (.int .i64 0) w) (t := 186) (zeros := [i 0, i 0, i 0]) (ps := []) (qs := #[]) (by kernel_rfl) (by kernel_rfl) (by kernel_rfl) rfl rfl
      simpa [Act.eval] using h)
 go_enter_defers Tryz.func123, Tryz.ntmps123
 go_wp2_with (go_at_call 148; refine H.mono ?_; rintro en w4 ⟨⟨v, rfl⟩, hc, hR⟩; have h0 : w4.cell? ⟨w.heap.size + 1, 0, none⟩ = some (.int .i64 0) := (by simp [World.cell?, hc]); have h1 : w4.cell? ⟨w.heap.size + 1, 1, none⟩ = some (.int .i64 0) := (by simp [World.cell?, hc]); have h2 : w4.cell? ⟨w.heap.size + 1, 2, none⟩ = some (.int .i64 0) := (by simp [World.cell?, hc]); have z0 : w4.frozen? ⟨w.heap.size + 1, 0, none⟩ = false := (by simp [World.frozen?, hc]); have z1 : w4.frozen? ⟨w.heap.size + 1, 1, none⟩ = false := (by simp [World.frozen?, hc]); have z2 : w4.frozen? ⟨w.heap.size + 1, 2, none⟩ = false := (by simp [World.frozen?, hc]))
 refine leaves_cons (f := 147) (args := #[.pointer (some ⟨w.heap.size + 1, 0, none⟩)]) (by simp) (by simp [go_sem]) ?_
 refine (catch_idle ⟨w.heap.size + 1, 0, none⟩ _).mono ?_
 rintro e u' w'' ⟨rfl, rfl, rfl⟩
 rw [setCell_same hc (v := .int .i64 0) rfl, setCell_same hc (v := .int .i64 0) rfl, setCell_same hc (v := .int .i64 0) rfl]
 refine ⟨.agg #[.int .i64 0, .int .i64 0, .int .i64 0], ?_, hR⟩
 simp [results, Tryz.results123, go_sem, hc, World.cell?]
open Go.Vx.Ev
def findEv (call : CallEv) (gl : List Nat) (x : Cx) (vs : List Value) (t : St) (nx : Nat) : Option (Value × St × Nat) :=
 match vs with
 | [.agg ⟨[a, b, c, d, e, f]⟩] => bif newlab x t nx then (match call x 148 [.pointer (some ⟨nx, 0, none⟩)] (t.put nx (.bl [a, b, c, d, e, f, .int .i64 0, .int .i64 0] 219 1)) (nx + 1) with
  | some (_, t', nx') => some (.agg ⟨[.int .i64 0, .int .i64 0, .int .i64 0]⟩, t', nx')
  | none => none) else none
 | _ => none
theorem findEv_ok (gl : List Nat) : EntOK Tryz.prog gl 123 (.sp findEv) := by
 intro call hc x vs t nx v t' nx' h μ G m vs' hI hv
 unfold findEv at h
 split at h <;> try (cases h; done)
 rename_i a b c d e f
 cases hn : newlab x t nx with
 | false => rw [hn] at h; cases h
 | true =>
  rw [hn] at h; simp only [cond_true] at h
  split at h <;> try (cases h; done)
  rename_i v0 t1 nx1 h1; cases h
  obtain ⟨k1, k2⟩ := newlab_ok hn
  obtain ⟨y, ys, hy, hys, rfl⟩ := hv.inv
  rw [hys.nil]
  obtain ⟨cs, hcs, rfl⟩ := hy.agg
  obtain ⟨a', r1, ha, q1, rfl⟩ := hcs.inv
  obtain ⟨b', r2, hb, q2, rfl⟩ := q1.inv
  obtain ⟨c', r3, hcc, q3, rfl⟩ := q2.inv
  obtain ⟨d', r4, hd, q4, rfl⟩ := q3.inv
  obtain ⟨e', r5, he, q5, rfl⟩ := q4.inv
  obtain ⟨f', r6, hf, q6, rfl⟩ := q5.inv
  rw [q6.nil]
  refine ⟨by kernel_rfl, fun w hs => find_ok a' b' c' d' e' f' w _ ?_⟩
  have hbn : m (w.heap.size + 2) = none := Sub.none hs (by omega)
  have hrel : RVL G [a, b, c, d, e, f, .int .i64 0, .int .i64 0] [a', b', c', d', e', f', .int .i64 0, .int .i64 0] :=
   RVL.cons ha (RVL.cons hb (RVL.cons hcc (RVL.cons hd (RVL.cons he (RVL.cons hf (RVL.cons RV.int' (RVL.cons RV.int' RVL.nil')))))))
  obtain ⟨hle, hI'⟩ := hI.new (sz := 1) (T := 219) k1 k2 hbn hrel (List.append_nil _).symm
  have hcall := (hc _ _ _ _ _ _ _ _ h1 μ _ _ [.pointer (some ⟨w.heap.size + 2, 0, none⟩)] hI' (RVL.cons (RV.ptr' (if_pos rfl)) RVL.nil')).1 (by decide)
  let w1 : World := w.alloc (.cells #[a', b', c', d', e', f'] 156)
  let w2 : World := w1.alloc (.cells #[.int .i64 0, .int .i64 0, .int .i64 0] 186)
  let w3 : World := w2.alloc (.cells #[a', b', c', d', e', f', .int .i64 0, .int .i64 0] 219)
  have s1 : Step m w m w1 := Step.hide hs _
  have s2 : Step m w1 m w2 := Step.hide s1.sub _
  have hz1 : w1.heap.size = w.heap.size + 1 := by show (w.heap.push _).size = _; simp
  have hz2 : w2.heap.size = w.heap.size + 2 := by show (w1.heap.push _).size = _; simp [hz1]
  have hz3 : w3.heap.size = w.heap.size + 3 := by show (w2.heap.push _).size = _; simp [hz2]
  have s3 : Step m w2 (m.set (w.heap.size + 2) (Cells [a', b', c', d', e', f', .int .i64 0, .int .i64 0] 219)) w3 := by
   have := Step.new s2.sub (Cells [a', b', c', d', e', f', .int .i64 0, .int .i64 0] 219)
   rw [hz2] at this
   exact this
  have s4 := (s1.trans s2).trans s3
  refine (hcall.2 w3 s4.sub).mono fun en w4 hen => ?_
  obtain ⟨m', g1, G', v', g2, g3, g4, rfl⟩ := hen
  refine ⟨⟨_, rfl⟩, ?_, m', s4.trans g1, G', _, hle.trans g2, g3, flat_self _ rfl, rfl⟩
  have hk := (g1.keep (w.heap.size + 1) (by rw [hz3]; omega) (by rw [Mem.set_other _ _ (by omega)]; exact Sub.none hs (by omega))).2
  rw [hk]
  show (w2.heap.push _)[w.heap.size + 1]? = _
  rw [Array.getElem?_push, if_neg (by rw [hz2]; omega)]
  show (w1.heap.push _)[w.heap.size + 1]? = _
  rw [Array.getElem?_push, if_pos (by rw [hz1])]
end Go.Proofs.YtleofbpepfmfgaaGreatDoor
