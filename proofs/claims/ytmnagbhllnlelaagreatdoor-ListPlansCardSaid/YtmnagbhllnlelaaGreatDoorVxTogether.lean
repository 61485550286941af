/- Contract of layer 19's Fits. -/
import Derived.Test.YtmnagbhllnlelaaGreatDoorVxUseM
set_option linter.unusedSimpArgs false
set_option linter.unusedVariables false
set_option maxRecDepth 100000
namespace Go.Proofs.YtmnagbhllnlelaaGreatDoor
open Go Go.Vx
open Go.Vx.IOp Go.Vx.IR Go.Vx.Opd
def maxS (C : List Int) : Int := C.foldl max (C.headD 0)
theorem max_ok {m : Mem} {v : Value} {C : List Int} (hv : IAt m v C) (hlen : C.length < 2 ^ 63) (hne : 0 < C.length) : PureM Tryz.prog 175 [v] m (i (maxS C)) := by
 obtain ⟨a, c, rfl, h0, h1, hcap⟩ := hv
 obtain ⟨ad, rfl⟩ : ∃ ad, a = some ad := by
  cases a with
  | none => rw [h0 rfl] at hne; simp at hne
  | some ad => exact ⟨ad, rfl⟩
 have hhead : C.headD 0 = C[0] := by cases C with | nil => simp at hne | cons x xs => rfl
 refine calls_of mixed Tryz.func175 ok_slices_Max_int_int rfl ?_
 conv => whnf
 refine Br.mk (fun hb => ?_) (fun hb => ?_)
 ·exfalso
  have : (C.length : Int) < 1 := of_decide_eq_true hb
  omega
 conv => whnf
 refine WIdx.mk ad rfl ⟨by omega, by omega⟩ ?_
 conv => whnf
 refine WLd.mk (i C[0]) (by simpa using IAt.cell (h1 ad rfl) hne) ?_
 conv => whnf
 refine WLoop.mk Nat (fun k => [(4, .val (i k)), (3, .val (i ((C.take k).foldl max C[0])))]) (fun k m' => m = m' ∧ 1 ≤ k ∧ k ≤ C.length) (fun k => C.length - k) 1 ⟨rfl, by
   have : (C.take 1).foldl max C[0] = C[0] := by
    cases C with
    | nil => simp at hne
    | cons x xs => simp
   rw [this]; rfl, trivial⟩ ⟨rfl, Nat.le_refl _, hne⟩ ?_
 rintro k m' ⟨rfl, hk1, hk⟩
 conv => whnf
 refine Br.mk (fun hb2 => ?_) (fun hb2 => ?_)
 ·have hk2 : k < C.length := by
   have : (k : Int) < C.length := of_decide_eq_true hb2
   omega
  conv => whnf
  refine WIdx.mk ad rfl ⟨by omega, by simpa using hk2⟩ ?_
  conv => whnf
  refine WLd.mk (i C[k]) (by simpa using IAt.cell (h1 ad rfl) hk2) ?_
  conv => whnf
  refine WRng.mk (by apply wrap_i64 <;> omega) ?_
  conv => whnf
  refine ⟨k + 1, ⟨rfl, ?_, trivial⟩, ⟨rfl, by omega, hk2⟩, by omega⟩
  have e : (C.take (k + 1)).foldl max C[0] = max ((C.take k).foldl max C[0]) C[k] := fold_succ hk2
  rw [e, ← max_if]
  rfl
 ·have hk2 : k = C.length := by
   have : ¬ (k : Int) < C.length := of_decide_eq_false hb2
   omega
  subst hk2
  conv => whnf
  refine WRet.same ⟨?_, rfl⟩
  rw [List.take_length]
  unfold maxS; rw [hhead]; rfl
theorem maxS_le {C : List Int} {p : Int} (hne : 0 < C.length) : decide (maxS C ≤ p) = C.all fun x => decide (x ≤ p) := by
 have key : ∀ (L : List Int) (a : Int), (L.foldl max a ≤ p) ↔ a ≤ p ∧ ∀ x ∈ L, x ≤ p := by
  intro L
  induction L with
  | nil => intro a; simp
  | cons x L ih => intro a; simp only [List.foldl_cons, ih, List.mem_cons, forall_eq_or_imp, Int.max_le]; exact and_assoc
 rw [Bool.eq_iff_iff, decide_eq_true_eq, List.all_eq_true]
 unfold maxS
 rw [key]
 constructor
 ·rintro ⟨_, h⟩ x hx; exact decide_eq_true (h x hx)
 ·intro h
  have h2 : ∀ x ∈ C, x ≤ p := fun x hx => of_decide_eq_true (h x hx)
  refine ⟨?_, h2⟩
  cases C with
  | nil => simp at hne
  | cons x xs => exact h2 x (by simp)
def UseR.readL (X : UseR) : List Int := [X.r0, X.r1, X.r2, X.r3, X.r4, X.r5, X.r6, X.r7]
def fitsS (X : UseR) : Bool := ((decide (X.u0 ≤ X.M.u0) && decide (X.u1 ≤ X.M.u1)) && (decide (X.u2 ≤ X.M.u2) && decide (X.u3 ≤ X.M.u3))) && X.readL.all fun x => decide (x ≤ X.M.pt)
theorem fits_ok (m : Mem) (X : UseR) : CallsM Tryz.prog 156 [X.val] m fun e m' => e = .returned (.bool (fitsS X)) ∧ Mem.le m m' := by
 refine calls_of mixed Tryz.func156 ok_machine_Use_Fits rfl ?_
 conv => whnf
 refine WNew.mk fun b hb => ?_
 have hle1 : Mem.le m (m.set b (Cells X.cells 163)) := Mem.le_set hb
 have hcell : ∀ (z : Nat) (v : Value), X.cells[z]? = some v → CellAt (m.set b (Cells X.cells 163)) ⟨b, z, none⟩ v := fun z v h => ⟨_, _, _, Mem.set_same _ _ _, rfl, by simpa using h⟩
 have hcells : ∀ (off : Nat) (vs : List Value), (∀ j v, vs[j]? = some v → X.cells[off + j]? = some v) → CellsAt (m.set b (Cells X.cells 163)) ⟨b, off, none⟩ vs := fun off vs h => CellsAt.blk (Mem.set_same _ _ _) h
 have hgoal : Cells (cellsL X.val) 163 = Cells X.cells 163 := rfl
 rw [hgoal]
 generalize m.set b (Cells X.cells 163) = m1 at *
 conv => whnf
 refine WLds.mk [i X.u0, i X.u1, i X.u2, i X.u3] ?_ rfl ?_
 ·rw [add0]
  refine hcells 11 _ fun j v hj => ?_
  have hj4 : j < 4 := (List.getElem?_eq_some_iff.1 hj).1
  rw [← hj]
  have : j = 0 ∨ j = 1 ∨ j = 2 ∨ j = 3 := by omega
  rcases this with rfl | rfl | rfl | rfl <;> rfl
 conv => whnf
 refine WLoop.mk Nat (fun k => [(7, .val (i k))]) (fun k m' => m1 = m' ∧ k ≤ 4 ∧ ∀ j, j < k → X.uses j ≤ X.M.unit j) (fun k => 4 - k) 0 ⟨rfl, trivial⟩ ⟨rfl, Nat.zero_le _, fun j hj => by omega⟩ ?_
 rintro k m' ⟨rfl, hk, hq⟩
 conv => whnf
 refine Br.mk (fun hb2 => ?_) (fun hb2 => ?_)
 ·have hk4 : k < 4 := by
   have : (k : Int) < 4 := of_decide_eq_true hb2
   omega
  have hks : k = 0 ∨ k = 1 ∨ k = 2 ∨ k = 3 := by omega
  conv => whnf
  refine WBnd.mk ⟨by omega, by omega⟩ ?_
  conv => whnf
  refine WGet.mk (i (X.uses k)) (by rcases hks with rfl | rfl | rfl | rfl <;> rfl) ?_
  conv => whnf
  refine WBnd.mk ⟨by omega, by omega⟩ ?_
  conv => whnf
  refine WLd.mk (i (X.M.unit k)) ?_ ?_
  ·rw [add0, addo, addo]
   refine hcell _ _ ?_
   rcases hks with rfl | rfl | rfl | rfl <;> rfl
  conv => whnf
  refine Br.mk (fun hb3 => ?_) (fun hb3 => ?_)
  ·have h3 : X.uses k > X.M.unit k := of_decide_eq_true hb3
   conv => whnf
   refine WRet.same ⟨?_, hle1⟩
   have : fitsS X = false := by
    unfold fitsS
    rcases hks with rfl | rfl | rfl | rfl
    ·rw [decide_eq_false (p := X.u0 ≤ X.M.u0) (by simp only [UseR.uses, Mac.unit] at h3; omega)]; simp
    ·rw [decide_eq_false (p := X.u1 ≤ X.M.u1) (by simp only [UseR.uses, Mac.unit] at h3; omega)]; simp
    ·rw [decide_eq_false (p := X.u2 ≤ X.M.u2) (by simp only [UseR.uses, Mac.unit] at h3; omega)]; simp
    ·rw [decide_eq_false (p := X.u3 ≤ X.M.u3) (by simp only [UseR.uses, Mac.unit] at h3; omega)]; simp
   rw [this]; rfl
  ·have h3 : ¬ X.uses k > X.M.unit k := of_decide_eq_false hb3
   conv => whnf
   refine WRng.mk (by apply wrap_i64 <;> omega) ?_
   conv => whnf
   refine ⟨k + 1, ⟨rfl, trivial⟩, ⟨rfl, hk4, fun j hj => ?_⟩, by omega⟩
   by_cases e : j = k
   ·subst e; omega
   ·exact hq j (by omega)
 ·have hk4 : k = 4 := by
   have : ¬ (k : Int) < 4 := of_decide_eq_false hb2
   omega
  subst hk4
  have hR : IAt m1 (.slice (some ⟨b, 15, none⟩) 8 8) X.readL := by
   refine ⟨some ⟨b, 15, none⟩, 8, rfl, (fun h => by cases h), fun ad ha => ?_, Nat.le_refl _⟩
   cases ha
   refine hcells 15 _ fun j v hj => ?_
   have hj8 : j < 8 := by have := (List.getElem?_eq_some_iff.1 hj).1; simpa [UseR.readL] using this
   rw [← hj]
   have : j = 0 ∨ j = 1 ∨ j = 2 ∨ j = 3 ∨ j = 4 ∨ j = 5 ∨ j = 6 ∨ j = 7 := by omega
   rcases this with rfl | rfl | rfl | rfl | rfl | rfl | rfl | rfl <;> rfl
  have q0 := hq 0 (by omega); have q1 := hq 1 (by omega); have q2 := hq 2 (by omega); have q3 := hq 3 (by omega)
  have hfit : fitsS X = decide (maxS X.readL ≤ X.M.pt) := by
   unfold fitsS
   rw [maxS_le (by simp [UseR.readL])]
   rw [decide_eq_true (p := X.u0 ≤ X.M.u0) q0, decide_eq_true (p := X.u1 ≤ X.M.u1) q1, decide_eq_true (p := X.u2 ≤ X.M.u2) q2, decide_eq_true (p := X.u3 ≤ X.M.u3) q3]
   rfl
  rw [hfit]
  have hadr : ((⟨b, 0, none⟩ : Addr).add 15).add 0 = ⟨b, 15, none⟩ := by rw [add0, addo]
  conv => whnf
  refine WLd.mk (i X.M.pt) ?_ ?_
  ·rw [add0, addo]; exact hcell 10 _ rfl
  conv => whnf
  refine ⟨?_, trivial⟩
  conv => whnf
  rw [hadr]
  refine WCallG.mk (max_ok hR (by simp [UseR.readL]) (by simp [UseR.readL])) ?_
  rintro _ m2 ⟨rfl, rfl⟩
  refine ⟨Mem.le.refl _, ?_⟩
  conv => whnf
  exact WRet.same ⟨rfl, hle1⟩
end Go.Proofs.YtmnagbhllnlelaaGreatDoor
set_option linter.unusedSimpArgs false
set_option linter.unusedVariables false
set_option maxRecDepth 100000
namespace Go.Proofs.YtmnagbhllnlelaaGreatDoor
open Go Go.Vx
open Go.Vx.IOp Go.Vx.IR Go.Vx.Opd
def ocs (O : List OpR) : List Value := (O.map OpR.cells).flatten
/-- A slice of operations that holds a list. -/
def OAt (m : Mem) (v : Value) (O : List OpR) : Prop := ∃ a c, v = .slice a O.length c ∧ (a = none → O = []) ∧ (∀ ad, a = some ad → CellsAt m ad (ocs O)) ∧ O.length ≤ c
theorem ocs_len (O : List OpR) : (ocs O).length = O.length * 7 := by
 induction O with
 | nil => rfl
 | cons e E ih => simp only [ocs, List.map_cons, List.flatten_cons, List.length_append, List.length_cons] at ih ⊢; rw [ih]; simp [OpR.cells]; omega
theorem ocs_get {O : List OpR} {k j : Nat} (hk : k < O.length) (hj : j < 7) : (ocs O)[k * 7 + j]? = (O[k]).cells[j]? := by
 induction O generalizing k with
 | nil => simp at hk
 | cons e E ih =>
  have hc : ocs (e :: E) = e.cells ++ ocs E := by simp [ocs]
  have hl : e.cells.length = 7 := rfl
  rw [hc]
  cases k with
  | zero => rw [List.getElem?_append_left (by omega)]; simp
  | succ k =>
   rw [List.getElem?_append_right (by omega)]
   have : (k + 1) * 7 + j - e.cells.length = k * 7 + j := by omega
   rw [this, ih (by simpa using hk)]; simp
theorem OAt.cells {m : Mem} {ad : Addr} {O : List OpR} (h : CellsAt m ad (ocs O)) {k : Nat} (hk : k < O.length) : CellsAt m (ad.add (k * 7)) (O[k]).cells := fun j v hj => by
 have hl : j < 7 := (List.getElem?_eq_some_iff.1 hj).1
 rw [add_add]
 exact h _ _ (by rw [ocs_get hk hl]; exact hj)
theorem OAt.mono {m m' : Mem} {v : Value} {O : List OpR} (h : OAt m v O) (hle : Mem.le m m') : OAt m' v O := by
 obtain ⟨a, c, e, h0, h1, h2⟩ := h
 exact ⟨a, c, e, h0, fun ad ha => (h1 ad ha).mono hle, h2⟩
/-- What is wrong with an operation, on a machine with so many registers. -/
def badRead (rg r : Int) : Bool := !(inR r 0 (rg - 1))
def badOp (M : Mac) (o : OpR) : Bool := !(classS o.kd).2 || (readsS o).any (badRead M.rg)
def usesAll (M : Mac) (O : List OpR) : UseR := O.foldl withS (newU M)
def useCode (M : Mac) (O : List OpR) : Int := if M.ok = false then 2 else if O.length > 400 then 3 else if O.any (badOp M) = true then 2 else 0
def zeroU : UseR := newU ⟨0, 0, 0, 0, 0, 0, 0, 0, 0, 0, 0⟩
def useR (M : Mac) (O : List OpR) : UseR := if useCode M O = 0 then usesAll M O else zeroU
theorem withS_M (X : UseR) (o : OpR) : (withS X o).M = X.M := by unfold withS; rw [bank_M, UseR.incU_M]
theorem fold_M (O : List OpR) : ∀ X, (O.foldl withS X).M = X.M := by
 induction O with
 | nil => intro X; rfl
 | cons o O ih => intro X; rw [List.foldl_cons, ih, withS_M]
theorem readsS_len (o : OpR) : (readsS o).length ≤ 4 := by
 have a := foldPut_len (rawS o) []
 have b := rawS_len o
 unfold readsS onceS; simp only [List.length_nil] at a; omega
theorem with_small {X : UseR} {b : Int} (o : OpR) (h : X.small b) : (withS X o).small (b + 5) := by
 unfold withS
 refine small_mono (bank_small _ _ (UseR.incU_small h _)) ?_
 have := readsS_len o
 omega
theorem fold_small : ∀ (O : List OpR) {X : UseR} {b : Int}, X.small b → (O.foldl withS X).small (b + 5 * O.length)
 | [], X, b, h => by
  have h2 : (List.foldl withS X []).small b := h
  simpa using h2
 | o :: O, X, b, h => by
  have h1 := fold_small O (with_small o h)
  have e : b + 5 * ((o :: O).length : Int) = b + 5 + 5 * (O.length : Int) := by simp; omega
  rw [e]; exact h1
theorem newU_small (M : Mac) : (newU M).small 0 := by
 refine ⟨fun j => ?_, fun j => ?_⟩
 ·have : (newU M).uses j = 0 := by rcases j with _|_|_|j <;> rfl
  rw [this]; omega
 ·have : (newU M).reads j = 0 := by rcases j with _|_|_|_|_|_|_|j <;> rfl
  rw [this]; omega
def useV (X : UseR) (cd : Int) : Value := .tuple ⟨[X.val, i cd]⟩
theorem spAll (Y : UseR) : spliceL zeros23 0 (cellsL Y.val) = Y.cells := spliceL_all (l := zeros23) (vs := cellsL Y.val) rfl
theorem spAll2 (X Y : UseR) : spliceL X.cells 0 (cellsL Y.val) = Y.cells := spliceL_all (l := X.cells) (vs := cellsL Y.val) rfl
theorem spZ : spliceL zeros23 0 (cellsL (.agg ⟨zeros23⟩)) = zeros23 := spliceL_all rfl
abbrev zeros7 : List Value := [i 0, i 0, i 0, i 0, i 0, i 0, i 0]
theorem sp7 (o : OpR) : spliceL zeros7 0 (cellsL (.agg ⟨o.cells⟩)) = o.cells := spliceL_all (l := zeros7) (vs := cellsL (.agg ⟨o.cells⟩)) rfl
theorem ok_range {M : Mac} (h : M.ok = true) : (1 ≤ M.rg ∧ M.rg ≤ 4096) ∧ (1 ≤ M.bk ∧ M.bk ≤ 8) ∧ (4 ≤ M.pt ∧ M.pt ≤ 32) := by
 unfold Mac.ok inR at h
 simp only [Bool.and_eq_true, decide_eq_true_eq] at h
 omega
attribute [local irreducible] spliceL in
set_option maxHeartbeats 1000000 in
theorem use_ok {m : Mem} {T : Nat} {fr : Nat × Nat} (hm : m 0 = some (.cells ⟨cells0⟩ T fr)) {v : Value} (M : Mac) {O : List OpR} (hO : OAt m v O) (hlen : O.length < 2 ^ 63) :
  CallsM Tryz.prog 155 [M.val, v] m fun e m' => e = .returned (useV (useR M O) (useCode M O)) ∧ Mem.le m m' := by
 obtain ⟨a, c, rfl, h0, h1, hcap⟩ := hO
 refine calls_of mixed Tryz.func155 ok_machine_use rfl ?_
 conv => whnf
 refine WCall.pure (check_ok m M) ?_
 cases hMo : M.ok with
 | false =>
  have hc : useCode M O = 2 := by unfold useCode; rw [if_pos hMo]
  rw [if_neg (by decide)]
  conv => whnf
  refine Br.mk (fun _ => ?_) (fun h => by cases h)
  have hu : useR M O = zeroU := by unfold useR; rw [hc]; rfl
  rw [hc, hu]
  conv => whnf
  rw [spZ]
  conv => whnf
  exact WRet.same ⟨rfl, Mem.le.refl _⟩
 | true =>
  rw [if_pos rfl]
  obtain ⟨hrg, hbk, hpt⟩ := ok_range hMo
  conv => whnf
  refine Br.mk (fun h => by cases h) (fun _ => ?_)
  conv => whnf
  refine Br.mk (fun hb => ?_) (fun hb => ?_)
  ·have hl : (O.length : Int) > 400 := of_decide_eq_true hb
   have hc : useCode M O = 3 := by unfold useCode; rw [if_neg (by rw [hMo]; decide), if_pos (by omega)]
   have hu : useR M O = zeroU := by unfold useR; rw [hc]; rfl
   rw [hc, hu]
   conv => whnf
   rw [spZ]
   conv => whnf
   exact WRet.same ⟨rfl, Mem.le.refl _⟩
  have hl : O.length ≤ 400 := by
   have : ¬ (O.length : Int) > 400 := of_decide_eq_false hb
   omega
  have hcode : useCode M O = if O.any (badOp M) = true then 2 else 0 := by unfold useCode; rw [if_neg (by rw [hMo]; decide), if_neg (by omega)]
  have hbadk : ∀ (k : Nat) (hk : k < O.length), badOp M O[k] = true → useCode M O = 2 := fun k hk h => by
   rw [hcode, if_pos (List.any_eq_true.2 ⟨O[k], List.getElem_mem hk, h⟩)]
  conv => whnf
  refine WCall.pure (newUse_ok m M) ?_
  conv => whnf
  refine WLoop.mk Nat (fun k => [(28, .val (i k)), (7, .var (usesAll M (O.take k)).cells), (4, .var zeros23), (5, .val (i 0))]) (fun k m' => Mem.le m m' ∧ k ≤ O.length ∧ ∀ j (hj : j < O.length), j < k → badOp M O[j] = false) (fun k => O.length - k) 0
   ⟨rfl, congrArg (fun l => some (AV.var l)) (spAll (newU M)), rfl, rfl, trivial⟩ ⟨Mem.le.refl _, Nat.zero_le _, fun j hj h => by omega⟩ ?_
  rintro k m1 ⟨g1, g2, g3⟩
  have hXM : (usesAll M (O.take k)).M = M := by unfold usesAll; rw [fold_M]; rfl
  have hXs : (usesAll M (O.take k)).small 2000 := by
   unfold usesAll
   refine small_mono (fold_small _ (newU_small M)) ?_
   rw [List.length_take]; omega
  conv => whnf
  refine Br.mk (fun hb2 => ?_) (fun hb2 => ?_)
  ·have hk : k < O.length := by
    have : (k : Int) < O.length := of_decide_eq_true hb2
    omega
   obtain ⟨ad, rfl⟩ : ∃ ad, a = some ad := by
    cases a with
    | none => rw [h0 rfl] at hk; simp at hk
    | some ad => exact ⟨ad, rfl⟩
   have hsucc : usesAll M (O.take (k + 1)) = withS (usesAll M (O.take k)) O[k] := by unfold usesAll; exact fold_succ hk
   have hbad := hbadk k hk
   have hcells := (OAt.cells (h1 ad rfl) hk).mono g1
   conv => whnf
   refine WIdx.mk ad rfl ⟨by omega, by simpa using hk⟩ ?_
   conv => whnf
   refine WLds.mk (O[k]).cells (by simpa using hcells) rfl ?_
   generalize hok : O[k] = o at *
   conv => whnf
   rw [sp7 o]
   conv => whnf
   refine WCall.pure (class_ok (g1 _ _ hm) o.kd) ?_
   conv => whnf
   refine Br.mk (fun hb3 => ?_) (fun hb3 => ?_)
   ·have hc : useCode M O = 2 := hbad (by
     unfold badOp
     cases hh : (classS o.kd).2 with
     | true => rw [hh] at hb3; cases hb3
     | false => rfl)
    have hu : useR M O = zeroU := by unfold useR; rw [hc]; rfl
    rw [hc, hu]
    conv => whnf
    rw [spZ]
    conv => whnf
    exact WRet.same ⟨rfl, g1⟩
   have hcl : (classS o.kd).2 = true := by
    cases hh : (classS o.kd).2 with
    | true => rfl
    | false => rw [hh] at hb3; cases hb3
   conv => whnf
   refine WCall.mk (reads_ok (g1 _ _ hm) o) ?_
   rintro _ m2 ⟨A, cA, rfl, hle2, hp2⟩
   obtain ⟨hx0, hx1⟩ := hp2.cells
   have hL4 := readsS_len o
   conv => whnf
   refine WLoop.mk Nat (fun j => [(44, .val (i j)), (4, .var zeros23), (5, .val (i 0))]) (fun j m' => m2 = m' ∧ j ≤ (readsS o).length ∧ ∀ q (hq : q < (readsS o).length), q < j → badRead M.rg (readsS o)[q] = false) (fun j => (readsS o).length - j) 0
    ⟨rfl, rfl, rfl, trivial⟩ ⟨rfl, Nat.zero_le _, fun q hq h => by omega⟩ ?_
   rintro j m3 ⟨rfl, q2, q3⟩
   conv => whnf
   refine Br.mk (fun hb4 => ?_) (fun hb4 => ?_)
   ·have hj : j < (readsS o).length := by
     have : (j : Int) < (readsS o).length := of_decide_eq_true hb4
     omega
    obtain ⟨ad2, rfl⟩ : ∃ ad, A = some ad := by
     cases A with
     | none => rw [hx0 rfl] at hj; simp at hj
     | some ad => exact ⟨ad, rfl⟩
    have hcell : CellAt m2 (ad2.add j) (i (readsS o)[j]) := IAt.cell (hx1 ad2 rfl) hj
    conv => whnf
    refine WIdx.mk ad2 rfl ⟨by omega, by simpa using hj⟩ ?_
    conv => whnf
    refine WLd.mk (i (readsS o)[j]) (by simpa using hcell) ?_
    conv => whnf
    refine WRng.mk (by apply wrap_i64 <;> omega) ?_
    conv => whnf
    refine WCall.pure (in_ok _ _ _ _) ?_
    conv => whnf
    refine Br.mk (fun hb5 => ?_) (fun hb5 => ?_)
    ·have hc : useCode M O = 2 := hbad (by
      unfold badOp
      rw [List.any_eq_true.2 ⟨(readsS o)[j], List.getElem_mem hj, hb5⟩, Bool.or_true])
     have hu : useR M O = zeroU := by unfold useR; rw [hc]; rfl
     rw [hc, hu]
     conv => whnf
     rw [spZ]
     conv => whnf
     exact WRet.same ⟨rfl, g1.trans hle2⟩
    ·conv => whnf
     refine WRng.mk (by apply wrap_i64 <;> omega) ?_
     conv => whnf
     refine ⟨j + 1, ⟨rfl, rfl, rfl, trivial⟩, ⟨rfl, hj, fun q hq h => ?_⟩, by omega⟩
     by_cases e : q = j
     ·subst e; exact hb5
     ·exact q3 q hq (by omega)
   ·have hj : j = (readsS o).length := by
     have : ¬ (j : Int) < (readsS o).length := of_decide_eq_false hb4
     omega
    subst hj
    have hany : (readsS o).any (badRead M.rg) = false := by
     rw [List.any_eq_false]
     intro r hr h
     obtain ⟨q, hq, rfl⟩ := List.getElem_of_mem hr
     rw [q3 q hq hq] at h; cases h
    have hgood : badOp M o = false := by unfold badOp; rw [hcl, hany]; rfl
    have hpos : ∀ r ∈ readsS o, 0 ≤ r := fun r hr => by
     have h := List.any_eq_false.1 hany r hr
     have h2 : inR r 0 (M.rg - 1) = true := by
      cases hh : inR r 0 (M.rg - 1) with
      | true => rfl
      | false => exact absurd (by unfold badRead; rw [hh]; rfl) h
     unfold inR at h2
     simp only [Bool.and_eq_true, decide_eq_true_eq] at h2
     omega
    conv => whnf
    refine WCall.mk (with_ok (hle2 _ _ (g1 _ _ hm)) (usesAll M (O.take k)) o (small_mono hXs (by omega)) (by rw [hXM]; exact hbk) hpos) ?_
    rintro _ m4 ⟨rfl, hle4⟩
    conv => whnf
    refine WRng.mk (by apply wrap_i64 <;> omega) ?_
    conv => whnf
    refine ⟨k + 1, ⟨rfl, ?_, rfl, rfl, trivial⟩, ⟨(g1.trans hle2).trans hle4, hk, ?_⟩, by omega⟩
    ·rw [hsucc]
     exact congrArg (fun l => some (AV.var l)) (spAll2 (usesAll M (O.take k)) (withS (usesAll M (O.take k)) o))
    ·intro q hq h
     by_cases e : q = k
     ·subst e; rw [hok]; exact hgood
     ·exact g3 q hq (by omega)
  ·have hk : k = O.length := by
    have : ¬ (k : Int) < O.length := of_decide_eq_false hb2
    omega
   subst hk
   have hany : O.any (badOp M) = false := by
    rw [List.any_eq_false]
    intro o ho h
    obtain ⟨q, hq, rfl⟩ := List.getElem_of_mem ho
    rw [g3 q hq hq] at h; cases h
   have hc : useCode M O = 0 := by rw [hcode, hany]; rfl
   have hu : useR M O = usesAll M O := by unfold useR; rw [if_pos hc]
   rw [hc, hu]
   conv => whnf
   rw [spliceL_all (l := zeros23) (vs := cellsL (.agg ⟨List.take 23 (usesAll M (O.take O.length)).cells⟩)) rfl]
   conv => whnf
   refine WRet.same ⟨?_, g1⟩
   rw [List.take_length]; rfl
/-- Whether operations can begin together, and what is wrong with them. -/
def togetherB (M : Mac) (O : List OpR) : Bool := decide (useCode M O = 0) && fitsS (usesAll M O)
attribute [local irreducible] spliceL in
theorem together_ok {m : Mem} {T : Nat} {fr : Nat × Nat} (hm : m 0 = some (.cells ⟨cells0⟩ T fr)) {v : Value} (M : Mac) {O : List OpR} (hO : OAt m v O) (hlen : O.length < 2 ^ 63) :
  CallsM Tryz.prog 102 [M.val, v] m fun e m' => e = .returned (.tuple ⟨[.bool (togetherB M O), i (useCode M O)]⟩) ∧ Mem.le m m' := by
 have hO2 := hO
 obtain ⟨a, c, rfl, h0, h1, hcap⟩ := hO
 refine calls_of mixed Tryz.func102 ok_machine_Together rfl ?_
 conv => whnf
 refine WCall.mk (use_ok hm M hO2 hlen) ?_
 rintro _ m1 ⟨rfl, hle1⟩
 conv => whnf
 refine WSc.mk (v := fitsS (useR M O)) (fun _ => ?_) ?_
 ·conv => whnf
  rw [spAll (useR M O)]
  conv => whnf
  refine WCall.mk (fits_ok m1 (useR M O)) ?_
  rintro _ m2 ⟨rfl, hle2⟩
  exact And.intro hle2 rfl
 have hv : scB (useCode M O == 0) true (fitsS (useR M O)) = togetherB M O := by
  unfold togetherB useR
  by_cases h : useCode M O = 0
  ·rw [if_pos h, h]; rfl
  ·rw [if_neg h, decide_eq_false h, Bool.false_and]
   have : (useCode M O == 0) = false := by simpa using h
   rw [this]; rfl
 conv => whnf
 refine WRet.same ⟨?_, hle1⟩
 rw [← hv]; rfl
end Go.Proofs.YtmnagbhllnlelaaGreatDoor
