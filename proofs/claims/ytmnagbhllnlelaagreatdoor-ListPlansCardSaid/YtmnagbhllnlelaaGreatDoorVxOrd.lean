/- What a laid plain variable (numbers and strings, in structs and arrays) holds: its cells. -/
import Derived.Test.YtmnagbhllnlelaaGreatDoorVxCalls
import GoSem.ClaimJoined
import Derived.Test.YtmnagbhllnlelaaGreatDoorRows
import Derived.Test.YtmnagbhllnlelaaGreatDoorVxEvRun
import Derived.WalkKit
import Derived.ProofKit
import Derived.LaidMore
import Derived.OpenShut
import Derived.Stop.Joined
import Derived.Below
import Derived.ChangeOld
import Derived.SizedLaws
import Derived.Carry
import Derived.JoinedOf
import Derived.Test.YtmnagbhllnlelaaGreatDoorTie
import Derived.Test.YtmnagbhllnlelaaGreatDoorCards
import Derived.SevenTiedAt
import Derived.Test.YtmnagbhllnlelaaGreatDoorVxIR0
import Derived.Test.YtmnagbhllnlelaaGreatDoorVxIR1
import Derived.Test.YtmnagbhllnlelaaGreatDoorVxIR2
import Derived.Test.YtmnagbhllnlelaaGreatDoorVxIR3
import Derived.Test.YtmnagbhllnlelaaGreatDoorVxIR4
import Derived.Test.YtmnagbhllnlelaaGreatDoorVxEdList
import Derived.Laws.BitsLemmas
set_option linter.unusedVariables false
namespace Go.Vx
open Go
mutual
def cellsD {H : Type} : DataW H → List Value
 | .lit l => [l.value]
 | .agg xs => cellsDL xs
 | _ => []
def cellsDL {H : Type} : List (DataW H) → List Value
 | [] => []
 | x :: xs => cellsD x ++ cellsDL xs
end
def okPlainFs (P : Program) (ok : TypeId → Bool) (total : Nat) : Nat → List Field → Bool
 | o, [] => Nat.beq o total
 | o, f :: fs => Nat.beq f.offset o && ok f.type && okPlainFs P ok total (o + P.cellsOf f.type) fs
def okPlain (P : Program) : Nat → TypeId → Bool
 | 0, _ => false
 | n + 1, t => match P.underlying t with
  | some (.int _) => Nat.beq (P.cellsOf t) 1
  | some .string => Nat.beq (P.cellsOf t) 1
  | some (.struct fs) => okPlainFs P (okPlain P n) (P.cellsOf t) 0 fs.toList
  | some (.array m e) => okPlain P n e && Nat.beq (P.cellsOf t) (m * P.cellsOf e)
  | _ => false
variable {P : Program} {w : World} {enc : TypeId × Value → Unit} {base : Nat} {spare : Nat → Bool}
theorem fields_cells {ok : TypeId → Bool} {total F : Nat} {cs : List Value} (hlen : cs.length = total)
  (ih : ∀ t cs d p, ok t = true → DataW.trod enc P w base spare false F t cs = some (d, p) → cs = cellsD d) :
  ∀ (fs : List Field) (o : Nat) (xs : List (DataW Unit × List MemPlace)), okPlainFs P ok total o fs = true →
   (fs.mapM fun f => DataW.trod enc P w base spare false F f.type ((cs.drop f.offset).take (P.cellsOf f.type))) = some xs → cs.drop o = cellsDL (xs.map (·.1)) := by
 intro fs
 induction fs with
 | nil =>
  intro o xs h hm
  simp only [okPlainFs] at h
  have := beq_ff h
  simp only [List.mapM_nil] at hm
  cases hm
  rw [List.drop_eq_nil_iff.2 (by omega)]; rfl
 | cons f fs ih2 =>
  intro o xs h hm
  simp only [okPlainFs, Bool.and_eq_true] at h
  obtain rfl := beq_ff h.1.1
  rw [List.mapM_cons] at hm
  cases h1 : DataW.trod enc P w base spare false F f.type ((cs.drop f.offset).take (P.cellsOf f.type)) with
  | none => rw [h1] at hm; cases hm
  | some y =>
   rw [h1] at hm
   cases h2 : (fs.mapM fun f => DataW.trod enc P w base spare false F f.type ((cs.drop f.offset).take (P.cellsOf f.type))) with
   | none => rw [h2] at hm; cases hm
   | some ys =>
    rw [h2] at hm
    cases hm
    have e1 := ih f.type _ y.1 y.2 h.1.2 h1
    have e2 := ih2 _ ys h.2 h2
    simp only [List.map_cons, cellsDL]
    rw [← e1, ← e2, ← List.drop_drop]
    exact (List.take_append_drop _ _).symm
theorem array_cells {e F k : Nat} {cs : List Value} (ih : ∀ cs d p, DataW.trod enc P w base spare false F e cs = some (d, p) → cs = cellsD d) :
  ∀ (n s : Nat) (xs : List (DataW Unit × List MemPlace)), cs.length = (s + n) * k →
   ((List.range' s n).mapM fun i => DataW.trod enc P w base spare false F e ((cs.drop (i * k)).take k)) = some xs → cs.drop (s * k) = cellsDL (xs.map (·.1)) := by
 intro n
 induction n with
 | zero =>
  intro s xs hlen hm
  simp only [List.range'_zero, List.mapM_nil] at hm
  cases hm
  rw [List.drop_eq_nil_iff.2 (by simp at hlen; omega)]; rfl
 | succ n ih2 =>
  intro s xs hlen hm
  rw [List.range'_succ, List.mapM_cons] at hm
  cases h1 : DataW.trod enc P w base spare false F e ((cs.drop (s * k)).take k) with
  | none => rw [h1] at hm; cases hm
  | some y =>
   rw [h1] at hm
   cases h2 : ((List.range' (s + 1) n).mapM fun i => DataW.trod enc P w base spare false F e ((cs.drop (i * k)).take k)) with
   | none => rw [h2] at hm; cases hm
   | some ys =>
    rw [h2] at hm
    cases hm
    have e1 := ih _ y.1 y.2 h1
    have e2 := ih2 (s + 1) ys (by rw [hlen]; congr 1; omega) h2
    simp only [List.map_cons, cellsDL]
    rw [← e1, ← e2, Nat.add_mul, Nat.one_mul, ← List.drop_drop]
    exact (List.take_append_drop _ _).symm
theorem trod_cells : ∀ (n : Nat) (t : TypeId) (F : Nat) (cs : List Value) (d : DataW Unit) (p : List MemPlace), okPlain P n t = true → DataW.trod enc P w base spare false F t cs = some (d, p) → cs = cellsD d := by
 intro n
 induction n with
 | zero => intro t F cs d p h; cases h
 | succ n ih =>
  intro t F cs d p h hd
  cases F with
  | zero => cases hd
  | succ F =>
   unfold okPlain at h
   split at h
   ·rename_i k hu
    unfold DataW.trod at hd
    rw [hu] at hd
    match cs, hd with
    | [.int k' m], hd =>
     simp only at hd
     split at hd <;> try (cases hd; done)
     rename_i hc; cases hd
     rw [hc.1]; rfl
   ·rename_i hu
    unfold DataW.trod at hd
    rw [hu] at hd
    match cs, hd with
    | [.string s], hd =>
     simp only at hd
     split at hd <;> try (cases hd; done)
     cases hd; rfl
   ·rename_i fs hu
    unfold DataW.trod at hd
    rw [hu] at hd
    simp only at hd
    split at hd <;> try (cases hd; done)
    rename_i hlen
    cases hm : (fs.toList.mapM fun f => DataW.trod enc P w base spare false F f.type ((cs.drop f.offset).take (P.cellsOf f.type))) with
    | none => rw [hm] at hd; cases hd
    | some xs =>
     rw [hm] at hd; cases hd
     exact fields_cells hlen (fun t cs d p h1 h2 => ih t F cs d p h1 h2) fs.toList 0 xs h hm
   ·rename_i m e hu
    rw [Bool.and_eq_true] at h
    unfold DataW.trod at hd
    rw [hu] at hd
    simp only at hd
    split at hd <;> try (cases hd; done)
    rename_i hlen
    rw [List.range_eq_range'] at hd
    cases hm : ((List.range' 0 m).mapM fun i => DataW.trod enc P w base spare false F e ((cs.drop (i * P.cellsOf e)).take (P.cellsOf e))) with
    | none => rw [hm] at hd; cases hd
    | some xs =>
     rw [hm] at hd; cases hd
     have := array_cells (fun cs d p h2 => ih e F cs d p h.1 h2) m 0 xs (by rw [hlen, beq_ff h.2]; congr 1; omega) hm
     simp only [Nat.zero_mul, List.drop_zero] at this
     exact this
   ·cases h
end Go.Vx
set_option maxRecDepth 100000
namespace Go.Proofs.YtmnagbhllnlelaaGreatDoor
open Go.ChangeShapes Go.WideShapes Go.ChangeAt Go.RowKit
open Go Go.Vx

theorem own : ownKnob Tryz.prog.godebug = none := by kernel_rfl
theorem gForms : Tryz.prog.globalNamed "bireme/code.forms" = some 0 := by kernel_rfl
def laid1 : List (String × DataW Unit) := [("bireme/code.forms", Rows.laid_bireme_code_forms)]
theorem door_met (os : Os) (args : Array Value) : laidMetH Tryz.prog laid1 ((World.doorLaid Tryz.prog 400 os).forCall (fun _ _ => 0) ⟨#[], args, []⟩).memory :=
 laidMetH_of_parts3 (fuel := 8) (laidMet_of_run' 8 (by kernel_rfl) (by kernel_rfl)) (by kernel_rfl) (by kernel_rfl)
theorem plainForms : ((Tryz.prog.globals[0]?).map (·.type)).map (okPlain Tryz.prog 4) = some true := by kernel_rfl
theorem cellsForms : cellsD (H := Unit) Rows.laid_bireme_code_forms = cells0 := by kernel_rfl
theorem of_laid {W : World} (h : laidMetH Tryz.prog laid1 W) : ∃ T fr, W.heap[0]? = some (.cells ⟨cells0⟩ T fr) := by
 rw [MakeChecks.laidMetH_plain _ _ _ (by kernel_rfl)] at h
 obtain ⟨ps, ⟨g0, t0, cs0, f0, p0, q0, hg0, ht0, hv0, hd0, _, _⟩, _, _⟩ := h
 obtain rfl := Option.some.inj (gForms.symm.trans hg0)
 have hp := plainForms
 rw [ht0] at hp
 have hc := trod_cells 4 t0 f0 cs0.toList _ p0 (Option.some.inj hp) hd0
 rw [cellsForms] at hc
 unfold World.var? at hv0
 rw [hg0] at hv0
 simp only [Option.bind_some] at hv0
 split at hv0 <;> try (cases hv0; done)
 rename_i cs T fr hh
 cases hv0
 exact ⟨T, fr, by rw [hh]; congr 2; exact Array.ext' hc⟩
theorem step_below {m : Mem} {W W' : World} (hs : Sub m W) (h : Step m W m W') : Below W.heap.size W W' :=
 ⟨h.os, h.tape, h.out, h.size, fun k hk => by
  cases hm : m k with
  | none => exact (h.keep k hk hm).2
  | some o => rw [h.sub k o hm, hs k o hm]⟩
theorem step_below' {W W' : World} (h : Step (fun b => W.heap[b]?) W (fun b => W.heap[b]?) W') : Below W.heap.size W W' := step_below (fun _ _ h => h) h
theorem laidOut : laidOutB Tryz.prog = true := by kernel_rfl
theorem jk_maps : mapsRowed Tryz.prog = true := by kernel_rfl
theorem jk_heard : Tryz.prog.stopsHeard = true := by kernel_rfl
theorem jk_enter : Tryz.prog.mayEnter = true := by kernel_rfl
theorem jk_lifts : Tryz.prog.liftsFinal = false := by kernel_rfl
theorem jk_plain : Tryz.prog.plainKeys = false := by kernel_rfl
end Go.Proofs.YtmnagbhllnlelaaGreatDoor
set_option maxRecDepth 100000
namespace Go.Proofs.YtmnagbhllnlelaaGreatDoor
open Go
def mainSha : Bool × String := (true, "abea8301d435cf848077fae55245b0e4751b673ef60fee3ffea75b884d47bb4e")
theorem jk_main : Tryz.pinned.checked.prog.mainIs = some (mainSha.1, mainSha.2.toList) := by kernel_rfl
theorem jk_looks : true = Tryz.prog.looks [] := by kernel_rfl
theorem jk_stand : ([3, 4, 22, 29, 46, 47, 64].all fun u => !Tryz.prog.wantsStandIn u) = true := by kernel_rfl
theorem no_stand {t : TypeId} (h : t ∈ [3, 4, 22, 29, 46, 47, 64]) : Tryz.prog.wantsStandIn t = false := by simpa using List.all_eq_true.1 jk_stand t h
end Go.Proofs.YtmnagbhllnlelaaGreatDoor
set_option linter.unusedSimpArgs false
set_option linter.unusedVariables false
set_option maxRecDepth 100000
namespace Go.Proofs.YtmnagbhllnlelaaGreatDoor
open Go Go.Vx
open Go.Vx.IOp Go.Vx.IR Go.Vx.Opd
/-- A slice of ints that holds a list. -/
def IAt (m : Mem) (v : Value) (C : List Int) : Prop := ∃ a c, v = .slice a C.length c ∧ (a = none → C = []) ∧ (∀ ad, a = some ad → CellsAt m ad (C.map i)) ∧ C.length ≤ c
/-- An edge: from, to, delay, rounds. -/
structure Edg where
 f : Int
 t : Int
 d : Int
 r : Int
deriving DecidableEq
def Edg.cells (e : Edg) : List Value := [i e.f, i e.t, i e.d, i e.r]
def Edg.val (e : Edg) : Value := .agg ⟨e.cells⟩
def ecs (E : List Edg) : List Value := (E.map Edg.cells).flatten
def EAt (m : Mem) (v : Value) (E : List Edg) : Prop := ∃ a c, v = .slice a E.length c ∧ (a = none → E = []) ∧ (∀ ad, a = some ad → CellsAt m ad (ecs E)) ∧ E.length ≤ c
theorem ecs_len (E : List Edg) : (ecs E).length = E.length * 4 := by
 induction E with
 | nil => rfl
 | cons e E ih => simp only [ecs, List.map_cons, List.flatten_cons, List.length_append, List.length_cons] at ih ⊢; rw [ih]; simp [Edg.cells]; omega
theorem ecs_get {E : List Edg} {k j : Nat} (hk : k < E.length) (hj : j < 4) : (ecs E)[k * 4 + j]? = (E[k]).cells[j]? := by
 induction E generalizing k with
 | nil => simp at hk
 | cons e E ih =>
  have hc : ecs (e :: E) = e.cells ++ ecs E := by simp [ecs]
  have hl : e.cells.length = 4 := rfl
  rw [hc]
  cases k with
  | zero => rw [List.getElem?_append_left (by omega)]; simp
  | succ k =>
   rw [List.getElem?_append_right (by omega)]
   have : (k + 1) * 4 + j - e.cells.length = k * 4 + j := by omega
   rw [this, ih (by simpa using hk)]; simp
theorem wrap_i64 {z : Int} (h : -9223372036854775808 ≤ z) (h2 : z ≤ 9223372036854775807) : IntKind.i64.wrap z = z := by
 rw [IntKind.wrap_i64]; omega
theorem IAt.cell {m : Mem} {ad : Addr} {C : List Int} (h : CellsAt m ad (C.map i)) {k : Nat} (hk : k < C.length) : CellAt m (ad.add k) (i C[k]) := h k _ (by simp [hk])
theorem add_add {a : Addr} {x y : Nat} : (a.add x).add y = a.add (x + y) := by
 by_cases hx : x = 0 <;> by_cases hy : y = 0 <;> simp_all [Addr.add, Nat.add_assoc]
theorem EAt.cells {m : Mem} {ad : Addr} {E : List Edg} (h : CellsAt m ad (ecs E)) {k : Nat} (hk : k < E.length) : CellsAt m (ad.add (k * 4)) (E[k]).cells := fun j v hj => by
 have hl : j < 4 := (List.getElem?_eq_some_iff.1 hj).1
 rw [add_add]
 exact h _ _ (by rw [ecs_get hk hl]; exact hj)

/-! IndexFunc, ContainsFunc. -/
def PureM (P : Program) (f : Nat) (vs : List Value) (m : Mem) (v : Value) : Prop := CallsM P f vs m fun e m' => e = .returned v ∧ m' = m
def idxFrom {α : Type} (p : α → Bool) (C : List α) : Int := match C.findIdx? p with | some k => (k : Int) | none => -1
theorem findIdx_none {α : Type} {p : α → Bool} {C : List α} (h : ∀ (k : Nat) (hk : k < C.length), p C[k] = false) : C.findIdx? p = none := by
 rw [List.findIdx?_eq_none_iff]
 intro x hx
 obtain ⟨k, hk, rfl⟩ := List.getElem_of_mem hx
 exact h k hk
theorem findIdx_at {α : Type} {p : α → Bool} {C : List α} {k : Nat} (hk : k < C.length) (h : ∀ j (hj : j < k), p C[j] = false) (hp : p C[k] = true) : C.findIdx? p = some k := by
 rw [List.findIdx?_eq_some_iff_getElem]
 exact ⟨hk, hp, fun j hj => by simp [h j hj]⟩
theorem idxFrom_any {α : Type} (p : α → Bool) (C : List α) : decide (idxFrom p C ≥ 0) = C.any p := by
 unfold idxFrom
 cases h : C.findIdx? p with
 | none =>
  rw [List.findIdx?_eq_none_iff] at h
  simp only [ge_iff_le]
  rw [decide_eq_false (by omega)]
  symm; rw [List.any_eq_false]; intro x hx; simp [h x hx]
 | some k =>
  rw [List.findIdx?_eq_some_iff_getElem] at h
  obtain ⟨h1, h2, _⟩ := h
  simp only [ge_iff_le]
  rw [decide_eq_true (by omega)]
  symm; rw [List.any_eq_true]; exact ⟨_, List.getElem_mem h1, h2⟩
/-- The first code that is not 0. -/
def firstCode {α : Type} (cd : α → Int) : List α → Int
 | [] => 0
 | x :: xs => if cd x = 0 then firstCode cd xs else cd x
theorem firstCode_at {α : Type} {cd : α → Int} : ∀ {L : List α} {k : Nat} (hk : k < L.length), (∀ j (hj : j < L.length), j < k → cd L[j] = 0) → cd L[k] ≠ 0 → firstCode cd L = cd L[k]
 | [], k, hk, _, _ => by simp at hk
 | x :: xs, 0, hk, _, h => by simp only [List.getElem_cons_zero] at h ⊢; simp only [firstCode, if_neg h]
 | x :: xs, k + 1, hk, h0, h => by
  have h1 := h0 0 (by simp) (by omega)
  simp only [List.getElem_cons_zero] at h1
  simp only [List.getElem_cons_succ] at h ⊢
  simp only [firstCode, if_pos h1]
  exact firstCode_at (by simpa using hk) (fun j hj hjk => by have := h0 (j + 1) (by simpa using hj) (by omega); simpa using this) h
theorem firstCode_end {α : Type} {cd : α → Int} : ∀ {L : List α}, (∀ j (hj : j < L.length), cd L[j] = 0) → firstCode cd L = 0
 | [], _ => rfl
 | x :: xs, h => by
  have h1 := h 0 (by simp)
  simp only [List.getElem_cons_zero] at h1
  simp only [firstCode, if_pos h1]
  exact firstCode_end fun j hj => by have := h (j + 1) (by simpa using hj); simpa using this
def badR (n most : Int) (e : Edg) : Bool := decide (e.f < 0) || decide (e.f ≥ n) || decide (e.t < 0) || decide (e.t ≥ n) || decide (e.r < 0) || decide (e.r > most) || decide (e.d < 0) || decide (e.d > 8)
def rightS (n most : Int) (E : List Edg) : Int := if n > 401 ∨ E.length > 200000 then 3 else if n < 0 then 2 else firstCode (fun e => bif badR n most e then 2 else 0) E
theorem right_ok {m : Mem} {v : Value} {E : List Edg} (hv : EAt m v E) (hlen : E.length < 2 ^ 63) (n most : Int) :
  PureM Tryz.prog 48 [i n, v, i most] m (i (rightS n most E)) := by
 obtain ⟨a, c, rfl, h0, h1, hcap⟩ := hv
 refine calls_of mixed Tryz.func48 ok_order_Right rfl ?_
 conv => whnf
 refine WSc.mk (fun _ => And.intro (Mem.le.refl _) rfl) ?_
 conv => whnf
 refine Br.mk (fun hb => ?_) (fun hb => ?_)
 ·conv => whnf
  refine WRet.same ⟨?_, rfl⟩
  simp only [scB, Bool.or_eq_true, decide_eq_true_eq] at hb
  unfold rightS
  rw [if_pos (by omega)]
  rfl
 simp only [scB, Bool.or_eq_false_iff, decide_eq_false_iff_not] at hb
 conv => whnf
 refine Br.mk (fun hb2 => ?_) (fun hb2 => ?_)
 ·conv => whnf
  refine WRet.same ⟨?_, rfl⟩
  simp only [decide_eq_true_eq] at hb2
  unfold rightS
  rw [if_neg (by omega), if_pos (by omega)]
  rfl
 simp only [decide_eq_false_iff_not] at hb2
 conv => whnf
 refine WLoop.mk Nat (fun k => [(20, .val (i k))]) (fun k m' => m = m' ∧ k ≤ E.length ∧ ∀ j (hj : j < E.length), j < k → badR n most E[j] = false) (fun k => E.length - k) 0 ⟨rfl, trivial⟩ ⟨rfl, Nat.zero_le _, fun j hj h => by omega⟩ ?_
 rintro k m' ⟨rfl, hk, hq⟩
 conv => whnf
 refine Br.mk (fun hb => ?_) (fun hb => ?_)
 ·have hk2 : k < E.length := by simpa using hb
  conv => whnf
  cases a with
  | none => rw [h0 rfl] at hk2; simp at hk2
  | some ad =>
   refine WIdx.mk ad rfl ⟨by omega, by simpa using hk2⟩ ?_
   conv => whnf
   refine WLds.mk (E[k]).cells (by simpa using EAt.cells (h1 ad rfl) hk2) rfl ?_
   repeat' (conv => whnf
            first | refine Br.mk (fun hb => ?_) (fun hb => ?_) | apply WSc.mk | exact And.intro (Mem.le.refl _) rfl | intro h)
   ·conv => whnf
    refine WRet.same ⟨?_, rfl⟩
    have hb' : badR n most E[k] = true := hb
    unfold rightS
    rw [if_neg (by omega), if_neg (by omega), firstCode_at hk2 (fun j hj hjk => by rw [hq j hj hjk]; rfl) (by rw [hb']; decide), hb']
    rfl
   ·conv => whnf
    refine WRng.mk (by apply wrap_i64 <;> omega) ?_
    conv => whnf
    refine ⟨k + 1, ⟨rfl, trivial⟩, ⟨rfl, hk2, fun j hj h => ?_⟩, by omega⟩
    by_cases e : j = k
    ·subst e; exact hb
    ·exact hq j hj (by omega)
 ·have hk2 : ¬ k < E.length := by simpa using hb
  conv => whnf
  refine WRet.same ⟨?_, rfl⟩
  unfold rightS
  rw [if_neg (by omega), if_neg (by omega), firstCode_end fun j hj => by rw [hq j hj (by omega)]; rfl]
  rfl
/-! The reference's Wrong. -/
def badW (n : Int) (fwd : Bool) (e : Edg) : Bool := decide (e.f < 0) || decide (e.f ≥ n) || decide (e.t < 0) || decide (e.t ≥ n) || decide (e.r < 0) || (!fwd && decide (e.r > 2147483648)) || decide (e.d < 0) || decide (e.d > 8)
def backW (fwd : Bool) (e : Edg) : Bool := (fwd && decide (e.r = 0)) && decide (e.t ≤ e.f)
def cdW (n : Int) (fwd : Bool) (e : Edg) : Int := bif badW n fwd e then 2 else bif backW fwd e then 4 else 0
theorem wrong_ok {m : Mem} {v : Value} {E : List Edg} (hv : EAt m v E) (hlen : E.length < 2 ^ 63) (n : Int) (fwd : Bool) :
  PureM Tryz.prog 16 [i n, v, .bool fwd] m (i (firstCode (cdW n fwd) E)) := by
 obtain ⟨a, c, rfl, h0, h1, hcap⟩ := hv
 refine calls_of mixed Tryz.func16 ok_biremeref20_Wrong rfl ?_
 conv => whnf
 refine WLoop.mk Nat (fun k => [(7, .val (i k)), (6, .val (i 0))]) (fun k m' => m = m' ∧ k ≤ E.length ∧ ∀ j (hj : j < E.length), j < k → cdW n fwd E[j] = 0) (fun k => E.length - k) 0 ⟨rfl, rfl, trivial⟩ ⟨rfl, Nat.zero_le _, fun j hj h => by omega⟩ ?_
 rintro k m' ⟨rfl, hk, hq⟩
 conv => whnf
 refine Br.mk (fun hb => ?_) (fun hb => ?_)
 ·have hk2 : k < E.length := by simpa using hb
  conv => whnf
  cases a with
  | none => rw [h0 rfl] at hk2; simp at hk2
  | some ad =>
   refine WIdx.mk ad rfl ⟨by omega, by simpa using hk2⟩ ?_
   conv => whnf
   refine WLds.mk (E[k]).cells (by simpa using EAt.cells (h1 ad rfl) hk2) rfl ?_
   repeat' (conv => whnf
            first | refine Br.mk (fun hb => ?_) (fun hb => ?_) | apply WSc.mk | exact And.intro (Mem.le.refl _) rfl | intro h)
   ·conv => whnf
    refine WRet.same ⟨?_, rfl⟩
    have hb' : badW n fwd E[k] = true := hb
    have hc : cdW n fwd E[k] = 2 := by unfold cdW; rw [hb']; rfl
    rw [firstCode_at hk2 hq (by rw [hc]; decide), hc]
    rfl
   ·conv => whnf
    rename_i hb1 _
    refine WRet.same ⟨?_, rfl⟩
    have hb' : badW n fwd E[k] = false := by assumption
    have hb2 : backW fwd E[k] = true := by assumption
    have hc : cdW n fwd E[k] = 4 := by unfold cdW; rw [hb', hb2]; rfl
    rw [firstCode_at hk2 hq (by rw [hc]; decide), hc]
    rfl
   ·conv => whnf
    refine WRng.mk (by apply wrap_i64 <;> omega) ?_
    conv => whnf
    refine ⟨k + 1, ⟨rfl, rfl, trivial⟩, ⟨rfl, hk2, fun j hj h => ?_⟩, by omega⟩
    by_cases e : j = k
    ·subst e
     have hb' : badW n fwd E[j] = false := by assumption
     have hb2 : backW fwd E[j] = false := by assumption
     unfold cdW; rw [hb', hb2]; rfl
    ·exact hq j hj (by omega)
 ·have hk2 : ¬ k < E.length := by simpa using hb
  conv => whnf
  refine WRet.same ⟨?_, rfl⟩
  rw [firstCode_end fun j hj => hq j hj (by omega)]
  rfl
/-! Held, Hold. -/
/-- Where the operations of Held stay in range. -/
structure Fit (C : List Int) (I : Int) (E : List Edg) : Prop where
 len : C.length ≤ 401
 cyc : ∀ x ∈ C, 0 ≤ x ∧ x ≤ 1125899906842624
 int : 0 ≤ I ∧ I ≤ 4194304
 edge : ∀ e ∈ E, 0 ≤ e.f ∧ e.f < C.length ∧ 0 ≤ e.t ∧ e.t < C.length ∧ 0 ≤ e.r ∧ e.r ≤ 2147483648 ∧ 0 ≤ e.d ∧ e.d ≤ 8
theorem idx_edge {m : Mem} {v : Value} {E : List Edg} (hv : EAt m v E) (hlen : E.length < 2 ^ 63) {g : Nat} {first caps : List Value} (p : Edg → Bool)
  (hp : ∀ x ∈ E, PureM Tryz.prog g (first ++ [x.val] ++ caps) m (.bool (p x))) :
  PureM Tryz.prog 137 [v, .func (.func g) ⟨first⟩ ⟨caps⟩] m (i (idxFrom p E)) := by
 obtain ⟨a, c, rfl, h0, h1, hcap⟩ := hv
 refine calls_of mixed Tryz.func137 ok_slices_IndexFunc_api_Edge_api_Edge rfl ?_
 conv => whnf
 refine WLoop.mk Nat (fun k => [(8, .val (i k))]) (fun k m' => m = m' ∧ k ≤ E.length ∧ ∀ j (hj : j < E.length), j < k → p E[j] = false) (fun k => E.length - k) 0 ⟨rfl, trivial⟩ ⟨rfl, Nat.zero_le _, fun j hj h => by omega⟩ ?_
 rintro k m' ⟨rfl, hk, hq⟩
 conv => whnf
 refine Br.mk (fun hb => ?_) (fun hb => ?_)
 ·have hk2 : k < E.length := by simpa using hb
  conv => whnf
  cases a with
  | none => rw [h0 rfl] at hk2; simp at hk2
  | some ad =>
   refine WIdx.mk ad rfl ⟨by omega, by simpa using hk2⟩ ?_
   conv => whnf
   refine WLds.mk (E[k]).cells (by simpa using EAt.cells (h1 ad rfl) hk2) rfl ?_
   conv => whnf
   refine WCall.pure (hp _ (List.getElem_mem hk2)) ?_
   conv => whnf
   refine Br.mk (fun hb => ?_) (fun hb => ?_)
   ·conv => whnf
    refine WRet.same ⟨?_, rfl⟩
    unfold idxFrom
    rw [findIdx_at hk2 (fun j hj => hq j (by omega) hj) hb]
    rfl
   ·conv => whnf
    refine WRng.mk (by apply wrap_i64 <;> omega) ?_
    conv => whnf
    refine ⟨k + 1, ⟨rfl, trivial⟩, ⟨rfl, hk2, fun j hj h => ?_⟩, by omega⟩
    by_cases e : j = k
    ·subst e; exact hb
    ·exact hq j hj (by omega)
 ·have hk2 : ¬ k < E.length := by simpa using hb
  conv => whnf
  refine WRet.same ⟨?_, rfl⟩
  unfold idxFrom
  rw [findIdx_none fun j hj => hq j hj (by omega)]
  rfl
theorem contains_edge {m : Mem} {v : Value} {E : List Edg} (hv : EAt m v E) (hlen : E.length < 2 ^ 63) {g : Nat} {first caps : List Value} (p : Edg → Bool)
  (hp : ∀ x ∈ E, PureM Tryz.prog g (first ++ [x.val] ++ caps) m (.bool (p x))) :
  PureM Tryz.prog 90 [v, .func (.func g) ⟨first⟩ ⟨caps⟩] m (.bool (E.any p)) := by
 refine calls_of mixed Tryz.func90 ok_slices_ContainsFunc_api_Edge_api_Edge rfl ?_
 conv => whnf
 refine WCall.pure (idx_edge hv hlen p hp) ?_
 conv => whnf
 refine WRet.same ⟨?_, rfl⟩
 rw [show resVal [Value.bool (decide (idxFrom p E ≥ 0))] = .bool (decide (idxFrom p E ≥ 0)) from rfl, idxFrom_any]
theorem EAt.mono {m m' : Mem} (h : Mem.le m m') {v : Value} {E : List Edg} (k : EAt m v E) : EAt m' v E := by
 obtain ⟨a, c, h1, h2, h3, h4⟩ := k; exact ⟨a, c, h1, h2, fun ad ha => (h3 ad ha).mono h, h4⟩
theorem IAt.mono {m m' : Mem} (h : Mem.le m m') {v : Value} {C : List Int} (k : IAt m v C) : IAt m' v C := by
 obtain ⟨a, c, h1, h2, h3, h4⟩ := k; exact ⟨a, c, h1, h2, fun ad ha => (h3 ad ha).mono h, h4⟩
/-! few, edges. -/
theorem take_cells (E : List Edg) (k : Nat) : ecs (E.take k) = (ecs E).take (k * 4) := by
 induction E generalizing k with
 | nil => simp [ecs]
 | cons e E ih =>
  cases k with
  | zero => simp [ecs]
  | succ k =>
   have h1 : ecs (e :: E) = e.cells ++ ecs E := by simp [ecs]
   have h2 : ecs (e :: E.take k) = e.cells ++ ecs (E.take k) := by simp [ecs]
   have hl : e.cells.length = 4 := rfl
   rw [List.take_succ_cons, h2, ih, h1, List.take_append, hl, show (k + 1) * 4 - 4 = k * 4 by omega, List.take_of_length_le (l := e.cells) (by rw [hl]; omega)]
theorem CellsAt.take {m : Mem} {ad : Addr} {vs : List Value} (h : CellsAt m ad vs) (k : Nat) : CellsAt m ad (vs.take k) := fun j v hj => by
 have := (List.getElem?_eq_some_iff.1 hj).1
 rw [List.getElem?_take, if_pos (by simp at this; omega)] at hj
 exact h j v hj
theorem if_map {a : Option Addr} {c : Int} {k : Nat} (h : k = 0) : (if c = 0 then a else a.map (·.add k)) = a := by
 subst h; split
 ·rfl
 ·cases a <;> rfl
/-! Holds. -/
theorem firstCode_zero {α : Type} {cd : α → Int} {L : List α} (h : firstCode cd L = 0) : ∀ x ∈ L, cd x = 0 := by
 induction L with
 | nil => intro x hx; cases hx
 | cons y ys ih =>
  simp only [firstCode] at h
  by_cases hy : cd y = 0
  ·rw [if_pos hy] at h
   intro x hx
   rcases List.mem_cons.1 hx with e | hx
   ·rw [e]; exact hy
   ·exact ih h x hx
  ·rw [if_neg hy] at h; exact absurd h hy
end Go.Proofs.YtmnagbhllnlelaaGreatDoor
