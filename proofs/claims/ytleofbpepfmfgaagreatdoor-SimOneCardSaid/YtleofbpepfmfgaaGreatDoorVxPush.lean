import Derived.Test.YtleofbpepfmfgaaGreatDoorVxIR2
import Derived.Test.YtleofbpepfmfgaaGreatDoorVxIR0
import Derived.Test.YtleofbpepfmfgaaGreatDoorVxIR1
import Derived.Test.YtleofbpepfmfgaaGreatDoorVxFind
import Derived.Test.YtleofbpepfmfgaaGreatDoorProg
import Derived.KernelRfl
import Derived.Test.YtleofbpepfmfgaaGreatDoorVxCalls
import GoSem.ClaimJoined
import Derived.Test.YtleofbpepfmfgaaGreatDoorRows
import Derived.Test.YtleofbpepfmfgaaGreatDoorVxEvRun
import Derived.WalkKit
import Derived.ProofKit
import Derived.LaidMore
import Derived.OpenShut
import Derived.Stop.Joined
import Derived.Below
import Derived.ChangeOld
import Derived.SizedLaws
import Derived.Carry
import Derived.JoinedOf
import Derived.Test.YtleofbpepfmfgaaGreatDoorTie
import Derived.Test.YtleofbpepfmfgaaGreatDoorCards
import Derived.SevenTiedAt
import Derived.Laws.BitsLemmas
set_option linter.unusedSimpArgs false
set_option linter.unusedVariables false
set_option maxRecDepth 100000
namespace Go.Vx
open Go
variable {P : Program}
theorem WApp.in {m : Mem} {T sz bytes : Nat} {zero : List Value} {ad : Addr} {len cap : Nat} {x : Option Addr} {n : Nat} {K : Value → Mem → Prop} (new : List Value) (h : FirstCells m x (n * sz) new) (hx : x = none → n = 0) (l : List Value) (U : TypeId)
  (h1 : len + n ≤ cap) (h2 : m ad.block = some (Cells l U)) (h3 : ad.spot = none) (h4 : ad.off + len * sz + n * sz ≤ l.length) (h5 : oneL new = true) (k : K (.slice (some ad) (len + n) cap) (m.set ad.block (Cells (spliceL l (ad.off + len * sz) new) U))) : WApp m T sz bytes zero (some ad) len cap x n K := by
 unfold WApp; exact ⟨new, h, hx, fun _ => .inr ⟨ad, rfl, l, U, h2, h3, h4, h5, k⟩, fun hh => absurd hh (by omega)⟩
theorem WApp.grow {m : Mem} {T sz bytes : Nat} {zero : List Value} {a : Option Addr} {len cap : Nat} {x : Option Addr} {n : Nat} {K : Value → Mem → Prop} (new : List Value) (h : FirstCells m x (n * sz) new) (hx : x = none → n = 0)
  (h1 : cap < len + n) (h2 : (len + n) * bytes ≤ 35184372088832) (old : List Value) (h3 : FirstCells m a (len * sz) old) (h4 : a = none → len = 0)
  (k : ∀ b c, m b = none → len + n ≤ c → K (.slice (some ⟨b, 0, none⟩) (len + n) c) (m.set b (Cells (old ++ new ++ (List.replicate (c - (len + n)) zero).flatten) T))) : WApp m T sz bytes zero a len cap x n K := by
 unfold WApp; exact ⟨new, h, hx, fun hh => absurd hh (by omega), fun _ => ⟨h2, old, h3, h4, k⟩⟩
theorem CellsAt.blk {m : Mem} {b off : Nat} {l vs : List Value} {T : TypeId} (h : m b = some (Cells l T)) (hv : ∀ (j : Nat) v, vs[j]? = some v → l[off + j]? = some v) : CellsAt m ⟨b, off, none⟩ vs := fun j v hj => by
 have e : (⟨b, off, none⟩ : Addr).add j = ⟨b, off + j, none⟩ := by unfold Addr.add; split <;> simp_all
 rw [e]
 exact ⟨_, _, _, h, rfl, by simpa using hv j v hj⟩
theorem Mem.le.refl (m : Mem) : Mem.le m m := fun _ _ h => h
theorem Mem.le.trans {a b c : Mem} (h : Mem.le a b) (k : Mem.le b c) : Mem.le a c := fun x o hx => k x o (h x o hx)
theorem Mem.le_set {m : Mem} {b : Nat} {o : Obj} (h : m b = none) : Mem.le m (m.set b o) := fun x p hx => by
 by_cases e : x = b
 ·subst e; rw [h] at hx; cases hx
 ·rw [Mem.set_other _ _ e]; exact hx
end Go.Vx
namespace Go.Proofs.YtleofbpepfmfgaaGreatDoor
open Go Go.Vx
end Go.Proofs.YtleofbpepfmfgaaGreatDoor
set_option linter.unusedVariables false
namespace Go.Vx
open Go
mutual
def cellsD {H : Type} : DataW H → List Value
 | .lit l => [l.value]
 | .agg xs => cellsDL xs
 | _ => []
def cellsDL {H : Type} : List (DataW H) → List Value
 | [] => []
 | x :: xs => cellsD x ++ cellsDL xs
end
def okPlainFs (P : Program) (ok : TypeId → Bool) (total : Nat) : Nat → List Field → Bool
 | o, [] => Nat.beq o total
 | o, f :: fs => Nat.beq f.offset o && ok f.type && okPlainFs P ok total (o + P.cellsOf f.type) fs
def okPlain (P : Program) : Nat → TypeId → Bool
 | 0, _ => false
 | n + 1, t => match P.underlying t with
  | some (.int _) => Nat.beq (P.cellsOf t) 1
  | some .string => Nat.beq (P.cellsOf t) 1
  | some (.struct fs) => okPlainFs P (okPlain P n) (P.cellsOf t) 0 fs.toList
  | some (.array m e) => okPlain P n e && Nat.beq (P.cellsOf t) (m * P.cellsOf e)
  | _ => false
variable {P : Program} {w : World} {enc : TypeId × Value → Unit} {base : Nat} {spare : Nat → Bool}
theorem fields_cells {ok : TypeId → Bool} {total F : Nat} {cs : List Value} (hlen : cs.length = total)
  (ih : ∀ t cs d p, ok t = true → DataW.trod enc P w base spare false F t cs = some (d, p) → cs = cellsD d) :
  ∀ (fs : List Field) (o : Nat) (xs : List (DataW Unit × List MemPlace)), okPlainFs P ok total o fs = true →
   (fs.mapM fun f => DataW.trod enc P w base spare false F f.type ((cs.drop f.offset).take (P.cellsOf f.type))) = some xs → cs.drop o = cellsDL (xs.map (·.1)) := by
 intro fs
 induction fs with
 | nil =>
  intro o xs h hm
  simp only [okPlainFs] at h
  have := beq_ff h
  simp only [List.mapM_nil] at hm
  cases hm
  rw [List.drop_eq_nil_iff.2 (by omega)]; rfl
 | cons f fs ih2 =>
  intro o xs h hm
  simp only [okPlainFs, Bool.and_eq_true] at h
  obtain rfl := beq_ff h.1.1
  rw [List.mapM_cons] at hm
  cases h1 : DataW.trod enc P w base spare false F f.type ((cs.drop f.offset).take (P.cellsOf f.type)) with
  | none => rw [h1] at hm; cases hm
  | some y =>
   rw [h1] at hm
   cases h2 : (fs.mapM fun f => DataW.trod enc P w base spare false F f.type ((cs.drop f.offset).take (P.cellsOf f.type))) with
   | none => rw [h2] at hm; cases hm
   | some ys =>
    rw [h2] at hm
    cases hm
    have e1 := ih f.type _ y.1 y.2 h.1.2 h1
    have e2 := ih2 _ ys h.2 h2
    simp only [List.map_cons, cellsDL]
    rw [← e1, ← e2, ← List.drop_drop]
    exact (List.take_append_drop _ _).symm
theorem array_cells {e F k : Nat} {cs : List Value} (ih : ∀ cs d p, DataW.trod enc P w base spare false F e cs = some (d, p) → cs = cellsD d) :
  ∀ (n s : Nat) (xs : List (DataW Unit × List MemPlace)), cs.length = (s + n) * k →
   ((List.range' s n).mapM fun i => DataW.trod enc P w base spare false F e ((cs.drop (i * k)).take k)) = some xs → cs.drop (s * k) = cellsDL (xs.map (·.1)) := by
 intro n
 induction n with
 | zero =>
  intro s xs hlen hm
  simp only [List.range'_zero, List.mapM_nil] at hm
  cases hm
  rw [List.drop_eq_nil_iff.2 (by simp at hlen; omega)]; rfl
 | succ n ih2 =>
  intro s xs hlen hm
  rw [List.range'_succ, List.mapM_cons] at hm
  cases h1 : DataW.trod enc P w base spare false F e ((cs.drop (s * k)).take k) with
  | none => rw [h1] at hm; cases hm
  | some y =>
   rw [h1] at hm
   cases h2 : ((List.range' (s + 1) n).mapM fun i => DataW.trod enc P w base spare false F e ((cs.drop (i * k)).take k)) with
   | none => rw [h2] at hm; cases hm
   | some ys =>
    rw [h2] at hm
    cases hm
    have e1 := ih _ y.1 y.2 h1
    have e2 := ih2 (s + 1) ys (by rw [hlen]; congr 1; omega) h2
    simp only [List.map_cons, cellsDL]
    rw [← e1, ← e2, Nat.add_mul, Nat.one_mul, ← List.drop_drop]
    exact (List.take_append_drop _ _).symm
theorem trod_cells : ∀ (n : Nat) (t : TypeId) (F : Nat) (cs : List Value) (d : DataW Unit) (p : List MemPlace), okPlain P n t = true → DataW.trod enc P w base spare false F t cs = some (d, p) → cs = cellsD d := by
 intro n
 induction n with
 | zero => intro t F cs d p h; cases h
 | succ n ih =>
  intro t F cs d p h hd
  cases F with
  | zero => cases hd
  | succ F =>
   unfold okPlain at h
   split at h
   ·rename_i k hu
    unfold DataW.trod at hd
    rw [hu] at hd
    match cs, hd with
    | [.int k' m], hd =>
     simp only at hd
     split at hd <;> try (cases hd; done)
     rename_i hc; cases hd
     rw [hc.1]; rfl
   ·rename_i hu
    unfold DataW.trod at hd
    rw [hu] at hd
    match cs, hd with
    | [.string s], hd =>
     simp only at hd
     split at hd <;> try (cases hd; done)
     cases hd; rfl
   ·rename_i fs hu
    unfold DataW.trod at hd
    rw [hu] at hd
    simp only at hd
    split at hd <;> try (cases hd; done)
    rename_i hlen
    cases hm : (fs.toList.mapM fun f => DataW.trod enc P w base spare false F f.type ((cs.drop f.offset).take (P.cellsOf f.type))) with
    | none => rw [hm] at hd; cases hd
    | some xs =>
     rw [hm] at hd; cases hd
     exact fields_cells hlen (fun t cs d p h1 h2 => ih t F cs d p h1 h2) fs.toList 0 xs h hm
   ·rename_i m e hu
    rw [Bool.and_eq_true] at h
    unfold DataW.trod at hd
    rw [hu] at hd
    simp only at hd
    split at hd <;> try (cases hd; done)
    rename_i hlen
    rw [List.range_eq_range'] at hd
    cases hm : ((List.range' 0 m).mapM fun i => DataW.trod enc P w base spare false F e ((cs.drop (i * P.cellsOf e)).take (P.cellsOf e))) with
    | none => rw [hm] at hd; cases hd
    | some xs =>
     rw [hm] at hd; cases hd
     have := array_cells (fun cs d p h2 => ih e F cs d p h.1 h2) m 0 xs (by rw [hlen, beq_ff h.2]; congr 1; omega) hm
     simp only [Nat.zero_mul, List.drop_zero] at this
     exact this
   ·cases h
end Go.Vx
set_option maxRecDepth 100000
namespace Go.Proofs.YtleofbpepfmfgaaGreatDoor
open Go.ChangeShapes Go.WideShapes Go.ChangeAt Go.RowKit
open Go Go.Vx

theorem own : ownKnob Tryz.prog.godebug = none := by kernel_rfl
theorem gForms : Tryz.prog.globalNamed "bireme/code.forms" = some 0 := by kernel_rfl
def laid1 : List (String × DataW Unit) := [("bireme/code.forms", Rows.laid_bireme_code_forms)]
theorem door_met (os : Os) (args : Array Value) : laidMetH Tryz.prog laid1 ((World.doorLaid Tryz.prog 400 os).forCall (fun _ _ => 0) ⟨#[], args, []⟩).memory :=
 laidMetH_of_parts3 (fuel := 8) (laidMet_of_run' 8 (by kernel_rfl) (by kernel_rfl)) (by kernel_rfl) (by kernel_rfl)
theorem plainForms : ((Tryz.prog.globals[0]?).map (·.type)).map (okPlain Tryz.prog 4) = some true := by kernel_rfl
theorem cellsForms : cellsD (H := Unit) Rows.laid_bireme_code_forms = cells0 := by kernel_rfl
theorem of_laid {W : World} (h : laidMetH Tryz.prog laid1 W) : ∃ T fr, W.heap[0]? = some (.cells ⟨cells0⟩ T fr) := by
 rw [MakeChecks.laidMetH_plain _ _ _ (by kernel_rfl)] at h
 obtain ⟨ps, ⟨g0, t0, cs0, f0, p0, q0, hg0, ht0, hv0, hd0, _, _⟩, _, _⟩ := h
 obtain rfl := Option.some.inj (gForms.symm.trans hg0)
 have hp := plainForms
 rw [ht0] at hp
 have hc := trod_cells 4 t0 f0 cs0.toList _ p0 (Option.some.inj hp) hd0
 rw [cellsForms] at hc
 unfold World.var? at hv0
 rw [hg0] at hv0
 simp only [Option.bind_some] at hv0
 split at hv0 <;> try (cases hv0; done)
 rename_i cs T fr hh
 cases hv0
 exact ⟨T, fr, by rw [hh]; congr 2; exact Array.ext' hc⟩
theorem step_below {m : Mem} {W W' : World} (hs : Sub m W) (h : Step m W m W') : Below W.heap.size W W' :=
 ⟨h.os, h.tape, h.out, h.size, fun k hk => by
  cases hm : m k with
  | none => exact (h.keep k hk hm).2
  | some o => rw [h.sub k o hm, hs k o hm]⟩
theorem step_below' {W W' : World} (h : Step (fun b => W.heap[b]?) W (fun b => W.heap[b]?) W') : Below W.heap.size W W' := step_below (fun _ _ h => h) h
theorem laidOut : laidOutB Tryz.prog = true := by kernel_rfl
theorem jk_maps : mapsRowed Tryz.prog = true := by kernel_rfl
theorem jk_heard : Tryz.prog.stopsHeard = true := by kernel_rfl
theorem jk_enter : Tryz.prog.mayEnter = true := by kernel_rfl
theorem jk_lifts : Tryz.prog.liftsFinal = false := by kernel_rfl
theorem jk_plain : Tryz.prog.plainKeys = true := by kernel_rfl
end Go.Proofs.YtleofbpepfmfgaaGreatDoor
set_option maxRecDepth 100000
namespace Go.Proofs.YtleofbpepfmfgaaGreatDoor
open Go
def mainSha : Bool × String := (true, "df85d65f2da84bc1e3710418a0942af33b3a71b46afada8500d8c4d100323101")
theorem jk_main : Tryz.pinned.checked.prog.mainIs = some (mainSha.1, mainSha.2.toList) := by kernel_rfl
theorem jk_looks : true = Tryz.prog.looks [] := by kernel_rfl
theorem jk_stand : ([3, 4, 22, 25, 26, 28, 29, 57, 60, 69].all fun u => !Tryz.prog.wantsStandIn u) = true := by kernel_rfl
theorem no_stand {t : TypeId} (h : t ∈ [3, 4, 22, 25, 26, 28, 29, 57, 60, 69]) : Tryz.prog.wantsStandIn t = false := by simpa using List.all_eq_true.1 jk_stand t h
end Go.Proofs.YtleofbpepfmfgaaGreatDoor
set_option linter.unusedSimpArgs false
set_option linter.unusedVariables false
set_option maxRecDepth 100000
namespace Go.Proofs.YtleofbpepfmfgaaGreatDoor
open Go Go.Vx
open Go.Vx.IOp Go.Vx.IR Go.Vx.Opd
def IAt (m : Mem) (v : Value) (C : List Int) : Prop := ∃ a c, v = .slice a C.length c ∧ (a = none → C = []) ∧ (∀ ad, a = some ad → CellsAt m ad (C.map i)) ∧ C.length ≤ c
structure Edg where
 f : Int
 t : Int
 d : Int
 r : Int
deriving DecidableEq
def Edg.cells (e : Edg) : List Value := [i e.f, i e.t, i e.d, i e.r]
def Edg.val (e : Edg) : Value := .agg ⟨e.cells⟩
theorem wrap_i64 {z : Int} (h : -9223372036854775808 ≤ z) (h2 : z ≤ 9223372036854775807) : IntKind.i64.wrap z = z := by
 rw [IntKind.wrap_i64]; omega
theorem IAt.cell {m : Mem} {ad : Addr} {C : List Int} (h : CellsAt m ad (C.map i)) {k : Nat} (hk : k < C.length) : CellAt m (ad.add k) (i C[k]) := h k _ (by simp [hk])
theorem add_add {a : Addr} {x y : Nat} : (a.add x).add y = a.add (x + y) := by
 by_cases hx : x = 0 <;> by_cases hy : y = 0 <;> simp_all [Addr.add, Nat.add_assoc]
def PureM (P : Program) (f : Nat) (vs : List Value) (m : Mem) (v : Value) : Prop := CallsM P f vs m fun e m' => e = .returned v ∧ m' = m
def idxFrom {α : Type} (p : α → Bool) (C : List α) : Int := match C.findIdx? p with | some k => (k : Int) | none => -1
theorem findIdx_none {α : Type} {p : α → Bool} {C : List α} (h : ∀ (k : Nat) (hk : k < C.length), p C[k] = false) : C.findIdx? p = none := by
 rw [List.findIdx?_eq_none_iff]
 intro x hx
 obtain ⟨k, hk, rfl⟩ := List.getElem_of_mem hx
 exact h k hk
theorem findIdx_at {α : Type} {p : α → Bool} {C : List α} {k : Nat} (hk : k < C.length) (h : ∀ j (hj : j < k), p C[j] = false) (hp : p C[k] = true) : C.findIdx? p = some k := by
 rw [List.findIdx?_eq_some_iff_getElem]
 exact ⟨hk, hp, fun j hj => by simp [h j hj]⟩
theorem idxFrom_any {α : Type} (p : α → Bool) (C : List α) : decide (idxFrom p C ≥ 0) = C.any p := by
 unfold idxFrom
 cases h : C.findIdx? p with
 | none =>
  rw [List.findIdx?_eq_none_iff] at h
  simp only [ge_iff_le]
  rw [decide_eq_false (by omega)]
  symm; rw [List.any_eq_false]; intro x hx; simp [h x hx]
 | some k =>
  rw [List.findIdx?_eq_some_iff_getElem] at h
  obtain ⟨h1, h2, _⟩ := h
  simp only [ge_iff_le]
  rw [decide_eq_true (by omega)]
  symm; rw [List.any_eq_true]; exact ⟨_, List.getElem_mem h1, h2⟩
theorem idx_int {m : Mem} {v : Value} {C : List Int} (hv : IAt m v C) (hlen : C.length < 2 ^ 63) {g : Nat} {first caps : List Value} (p : Int → Bool)
  (hp : ∀ x ∈ C, PureM Tryz.prog g (first ++ [i x] ++ caps) m (.bool (p x))) :
  PureM Tryz.prog 170 [v, .func (.func g) ⟨first⟩ ⟨caps⟩] m (i (idxFrom p C)) := by
 obtain ⟨a, c, rfl, h0, h1, hcap⟩ := hv
 refine calls_of mixed Tryz.func170 ok_slices_IndexFunc_int_int rfl ?_
 conv => whnf
 refine WLoop.mk Nat (fun k => [(8, .val (i k))]) (fun k m' => m = m' ∧ k ≤ C.length ∧ ∀ j (hj : j < C.length), j < k → p C[j] = false) (fun k => C.length - k) 0 ⟨rfl, trivial⟩ ⟨rfl, Nat.zero_le _, fun j hj h => by omega⟩ ?_
 rintro k m' ⟨rfl, hk, hq⟩
 conv => whnf
 refine Br.mk (fun hb => ?_) (fun hb => ?_)
 ·have hk2 : k < C.length := by simpa using hb
  conv => whnf
  cases a with
  | none => rw [h0 rfl] at hk2; simp at hk2
  | some ad =>
   refine WIdx.mk ad rfl ⟨by omega, by simpa using hk2⟩ ?_
   conv => whnf
   refine WLd.mk (i C[k]) ?_ ?_
   ·simpa using IAt.cell (h1 ad rfl) hk2
   conv => whnf
   refine WCall.pure (hp _ (List.getElem_mem hk2)) ?_
   conv => whnf
   refine Br.mk (fun hb => ?_) (fun hb => ?_)
   ·conv => whnf
    refine WRet.same ⟨?_, rfl⟩
    unfold idxFrom
    rw [findIdx_at hk2 (fun j hj => hq j (by omega) hj) hb]
    rfl
   ·conv => whnf
    refine WRng.mk (by apply wrap_i64 <;> omega) ?_
    conv => whnf
    refine ⟨k + 1, ⟨rfl, trivial⟩, ⟨rfl, hk2, fun j hj h => ?_⟩, by omega⟩
    by_cases e : j = k
    ·subst e; exact hb
    ·exact hq j hj (by omega)
 ·have hk2 : ¬ k < C.length := by simpa using hb
  conv => whnf
  refine WRet.same ⟨?_, rfl⟩
  unfold idxFrom
  rw [findIdx_none fun j hj => hq j hj (by omega)]
  rfl
theorem contains_int {m : Mem} {v : Value} {C : List Int} (hv : IAt m v C) (hlen : C.length < 2 ^ 63) {g : Nat} {first caps : List Value} (p : Int → Bool)
  (hp : ∀ x ∈ C, PureM Tryz.prog g (first ++ [i x] ++ caps) m (.bool (p x))) :
  PureM Tryz.prog 150 [v, .func (.func g) ⟨first⟩ ⟨caps⟩] m (.bool (C.any p)) := by
 refine calls_of mixed Tryz.func150 ok_slices_ContainsFunc_int_int rfl ?_
 conv => whnf
 refine WCall.pure (idx_int hv hlen p hp) ?_
 conv => whnf
 refine WRet.same ⟨?_, rfl⟩
 rw [show resVal [Value.bool (decide (idxFrom p C ≥ 0))] = .bool (decide (idxFrom p C ≥ 0)) from rfl, idxFrom_any]
theorem IAt.mono {m m' : Mem} (h : Mem.le m m') {v : Value} {C : List Int} (k : IAt m v C) : IAt m' v C := by
 obtain ⟨a, c, h1, h2, h3, h4⟩ := k; exact ⟨a, c, h1, h2, fun ad ha => (h3 ad ha).mono h, h4⟩
theorem CellsAt.take {m : Mem} {ad : Addr} {vs : List Value} (h : CellsAt m ad vs) (k : Nat) : CellsAt m ad (vs.take k) := fun j v hj => by
 have := (List.getElem?_eq_some_iff.1 hj).1
 rw [List.getElem?_take, if_pos (by simp at this; omega)] at hj
 exact h j v hj
theorem WApp.copy {m : Mem} {T sz bytes : Nat} {zero : List Value} {b1 : Nat} {A A' : Option Addr} {n n' : Nat} {K : Value → Mem → Prop} (hb1 : m b1 = none) (hA' : A' = A) (hn : n' = n) (new : List Value) (h : FirstCells m A (n * sz) new) (hA : A = none → n = 0)
  (hb : n * bytes ≤ 35184372088832) (k : ∀ b c m', Mem.le m m' → n ≤ c → m b = none → CellsAt m' ⟨b, 0, none⟩ new → K (.slice (some ⟨b, 0, none⟩) n c) m') :
  WApp (m.set b1 (Cells [] T)) T sz bytes zero (some ⟨b1, 0, none⟩) 0 0 A' n' K := by
 subst hA'; subst hn
 have hle := Mem.le_set (o := Cells [] T) hb1
 have hf : FirstCells (m.set b1 (Cells [] T)) A' (n' * sz) new := ⟨h.1, fun ad ha => (h.2 ad ha).mono hle⟩
 by_cases h0 : n' = 0
 ·subst h0
  have hnew : new = [] := List.length_eq_zero_iff.1 (by rw [h.1]; simp)
  subst hnew
  refine WApp.in [] hf (fun _ => rfl) [] T (by omega) (Mem.set_same _ _ _) rfl (by simp) rfl ?_
  refine k b1 0 _ (fun b o hbo => ?_) (Nat.le_refl _) hb1 (fun j v hj => by simp at hj)
  have : b ≠ b1 := fun e => by subst e; rw [hb1] at hbo; cases hbo
  rw [Mem.set_other _ _ this, Mem.set_other _ _ this]; exact hbo
 ·refine WApp.grow new hf hA (by omega) (by rw [Nat.zero_add]; exact hb) [] ⟨by simp, fun ad _ j v hj => by simp at hj⟩ (fun _ => rfl) fun b c hbn hc => ?_
  have hbb : b ≠ b1 := fun e => by subst e; rw [Mem.set_same] at hbn; cases hbn
  have hbm : m b = none := by rw [Mem.set_other _ _ hbb] at hbn; exact hbn
  rw [Nat.zero_add]
  refine k b c _ (hle.trans (Mem.le_set hbn)) (by omega) hbm ?_
  refine CellsAt.blk (Mem.set_same _ _ _) fun j v hj => ?_
  rw [List.nil_append, Nat.zero_add, List.getElem?_append_left (List.getElem?_eq_some_iff.1 hj).1]; exact hj
theorem if_map {a : Option Addr} {c : Int} {k : Nat} (h : k = 0) : (if c = 0 then a else a.map (·.add k)) = a := by
 subst h; split
 ·rfl
 ·cases a <;> rfl
theorem add0 (b z : Nat) : (⟨b, 0, none⟩ : Addr).add z = ⟨b, z, none⟩ := by unfold Addr.add; split <;> simp_all
theorem max_if (a b : Int) : (if b > a then b else a) = max a b := by rw [Int.max_def]; split <;> split <;> omega
theorem le_setn {m m' : Mem} {b : Nat} {o : Obj} (h : Mem.le m m') (hb : m b = none) : Mem.le m (m'.set b o) := fun x p hx => by
 by_cases e : x = b
 ·subst e; rw [hb] at hx; cases hx
 ·rw [Mem.set_other _ _ e]; exact h x p hx
theorem WApp.copyB {m : Mem} {T sz bytes : Nat} {zero : List Value} {b1 : Nat} {A A' : Option Addr} {n n' : Nat} {K : Value → Mem → Prop} (hb1 : m b1 = none) (hA' : A' = A) (hn : n' = n) (new : List Value) (h : FirstCells m A (n * sz) new) (hA : A = none → n = 0)
  (hb : n * bytes ≤ 35184372088832) (k : ∀ b c m' rest, Mem.le m m' → n ≤ c → m b = none → m' b = some (Cells (new ++ rest) T) → K (.slice (some ⟨b, 0, none⟩) n c) m') :
  WApp (m.set b1 (Cells [] T)) T sz bytes zero (some ⟨b1, 0, none⟩) 0 0 A' n' K := by
 subst hA'; subst hn
 have hle := Mem.le_set (o := Cells [] T) hb1
 have hf : FirstCells (m.set b1 (Cells [] T)) A' (n' * sz) new := ⟨h.1, fun ad ha => (h.2 ad ha).mono hle⟩
 by_cases h0 : n' = 0
 ·subst h0
  have hnew : new = [] := List.length_eq_zero_iff.1 (by rw [h.1]; simp)
  subst hnew
  refine WApp.in [] hf (fun _ => rfl) [] T (by omega) (Mem.set_same _ _ _) rfl (by simp) rfl ?_
  refine k b1 0 _ [] (fun b o hbo => ?_) (Nat.le_refl _) hb1 (Mem.set_same _ _ _)
  have : b ≠ b1 := fun e => by subst e; rw [hb1] at hbo; cases hbo
  rw [Mem.set_other _ _ this, Mem.set_other _ _ this]; exact hbo
 ·refine WApp.grow new hf hA (by omega) (by rw [Nat.zero_add]; exact hb) [] ⟨by simp, fun ad _ j v hj => by simp at hj⟩ (fun _ => rfl) fun b c hbn hc => ?_
  have hbb : b ≠ b1 := fun e => by subst e; rw [Mem.set_same] at hbn; cases hbn
  have hbm : m b = none := by rw [Mem.set_other _ _ hbb] at hbn; exact hbn
  rw [Nat.zero_add]
  exact k b c _ _ (hle.trans (Mem.le_set hbn)) (by omega) hbm (Mem.set_same _ _ _)
theorem fold_succ {α β : Type} {f : β → α → β} {E : List α} {s : β} {j : Nat} (hj : j < E.length) : (E.take (j + 1)).foldl f s = f ((E.take j).foldl f s) E[j] := by
 rw [List.take_succ_eq_append_getElem hj, List.foldl_append]; rfl
end Go.Proofs.YtleofbpepfmfgaaGreatDoor
set_option linter.unusedSimpArgs false
set_option linter.unusedVariables false
set_option maxRecDepth 100000
namespace Go.Proofs.YtleofbpepfmfgaaGreatDoor
open Go Go.Vx
open Go.Vx.IOp Go.Vx.IR Go.Vx.Opd
def PushI (m0 m : Mem) (a : Option Addr) (c : Nat) (L : List Int) : Prop :=
 (a = none ∧ c = 0 ∧ L = []) ∨ ∃ b, a = some ⟨b, 0, none⟩ ∧ L.length ≤ c ∧ m0 b = none ∧ m b = some (Cells (L.map i ++ List.replicate (c - L.length) (i 0)) 3)
theorem PushI.iat {m0 m : Mem} {a : Option Addr} {c : Nat} {L : List Int} (h : PushI m0 m a c L) : IAt m (.slice a L.length c) L := by
 rcases h with ⟨rfl, rfl, rfl⟩ | ⟨b, rfl, h1, h2, h3⟩
 ·exact ⟨none, 0, rfl, fun _ => rfl, (fun ad h => by cases h), Nat.le_refl _⟩
 ·refine ⟨_, c, rfl, (fun h => by cases h), fun ad ha => ?_, h1⟩
  cases ha
  refine CellsAt.blk h3 fun q v hq => ?_
  rw [Nat.zero_add, List.getElem?_append_left (List.getElem?_eq_some_iff.1 hq).1]; exact hq
theorem PushI.mono {m0 m m' : Mem} {a : Option Addr} {c : Nat} {L : List Int} (h : PushI m0 m a c L) (hle : Mem.le m m') : PushI m0 m' a c L := by
 rcases h with h | ⟨b, h0, h1, h2, h3⟩
 ·exact .inl h
 ·exact .inr ⟨b, h0, h1, h2, hle _ _ h3⟩
theorem repl_flat (n : Nat) (v : Value) : (List.replicate n [v]).flatten = List.replicate n v := by
 induction n with
 | zero => rfl
 | succ n ih => rw [List.replicate_succ, List.flatten_cons, ih, List.replicate_succ]; rfl
theorem push_ok {m0 m : Mem} {a : Option Addr} {c n : Nat} {L : List Int} {z : Int} {bx : Nat} {K : Value → Mem → Prop} (hle : Mem.le m0 m) (hp : PushI m0 m a c L) (hx : m bx = some (Cells [i z] 3)) (hn : n = L.length) (hlen : L.length < 1099511627776)
  (k : ∀ a' c' m', Mem.le m0 m' → PushI m0 m' a' c' (L ++ [z]) → K (.slice a' (L.length + 1) c') m') : WApp m 3 1 8 [i 0] a n c (some ⟨bx, 0, none⟩) 1 K := by
 subst hn
 have hnew : FirstCells m (some ⟨bx, 0, none⟩) (1 * 1) [i z] := ⟨rfl, fun ad had => by cases had; exact CellsAt.blk hx fun j v hj => by rw [Nat.zero_add]; exact hj⟩
 have hnone : ∀ b2, m b2 = none → m0 b2 = none := fun b2 h => by
  cases hh : m0 b2 with
  | none => rfl
  | some o => rw [hle b2 o hh] at h; cases h
 rcases hp with ⟨rfl, rfl, rfl⟩ | ⟨b, rfl, h1, h2, h3⟩
 ·refine WApp.grow _ hnew (fun h => by cases h) (by decide) (by decide) [] ⟨rfl, fun ad h => by cases h⟩ (fun _ => rfl) fun b2 c2 hb2 hc2 => ?_
  refine k _ _ _ (le_setn hle (hnone _ hb2)) (.inr ⟨b2, rfl, by simpa using hc2, hnone _ hb2, ?_⟩)
  rw [Mem.set_same, repl_flat]; rfl
 ·by_cases hcc : L.length + 1 ≤ c
  ·refine WApp.in (ad := ⟨b, 0, none⟩) _ hnew (fun h => by cases h) _ 3 hcc h3 rfl ?_ rfl ?_
   ·rw [List.length_append, List.length_map, List.length_replicate]; simp only; omega
   ·refine k _ _ _ (le_setn hle h2) (.inr ⟨b, rfl, by simpa using hcc, h2, ?_⟩)
    rw [Mem.set_same]
    have e : spliceL (L.map i ++ List.replicate (c - L.length) (i 0)) (0 + L.length * 1) [i z] = (L ++ [z]).map i ++ List.replicate (c - (L ++ [z]).length) (i 0) := by
     obtain ⟨q, hq⟩ : ∃ q, c - L.length = q + 1 := ⟨c - L.length - 1, by omega⟩
     rw [hq, Nat.zero_add, Nat.mul_one]
     show (L.map i ++ List.replicate (q + 1) (i 0)).set L.length (i z) = _
     rw [List.set_append_right _ _ (by simp), List.length_map, Nat.sub_self, List.replicate_succ, List.set_cons_zero, List.map_append, List.length_append, show c - (L.length + [z].length) = q by simp; omega]
     simp
    rw [e]
  ·refine WApp.grow _ hnew (fun h => by cases h) (by omega) (by omega) (L.map i) ⟨by simp, fun ad had => by cases had; exact CellsAt.blk h3 fun j v hj => by rw [Nat.zero_add, List.getElem?_append_left (List.getElem?_eq_some_iff.1 hj).1]; exact hj⟩ (fun h => by cases h) fun b2 c2 hb2 hc2 => ?_
   refine k _ _ _ (le_setn hle (hnone _ hb2)) (.inr ⟨b2, rfl, by simpa using hc2, hnone _ hb2, ?_⟩)
   rw [Mem.set_same, repl_flat]
   simp
end Go.Proofs.YtleofbpepfmfgaaGreatDoor
