/- Contracts of slices.Repeat and list.Make. -/
import Derived.Test.YtmnagbhllnlelaaGreatDoorVxOwnFill
set_option linter.unusedSimpArgs false
set_option linter.unusedVariables false
set_option maxRecDepth 100000
namespace Go.Proofs.YtmnagbhllnlelaaGreatDoor
open Go Go.Vx
open Go.Vx.IOp Go.Vx.IR Go.Vx.Opd
theorem and32 : ∀ k : Fin 401, IntKind.u64.wrap (((BitVec.ofInt IntKind.u64.bits ((k.val : Nat) : Int)) &&& (BitVec.ofInt IntKind.u64.bits 4294967295)).toNat : Int) = (k.val : Int) := by decide
theorem div32 : ∀ k : Fin 401, ((k.val : Nat) : Int).fdiv (2 ^ min (Int.toNat 32) IntKind.u64.bits) = 0 := by decide
theorem wrap64 : ∀ k : Fin 401, IntKind.u64.wrap ((k.val : Nat) : Int) = (k.val : Int) := by decide
theorem mul64_ok (m : Mem) {n : Nat} (hn : n ≤ 400) : PureM Tryz.prog 200 [.int .u64 1, .int .u64 n] m (.tuple ⟨[.int .u64 0, .int .u64 n]⟩) := by
 refine calls_of mixed Tryz.func200 ok_math_bits_Mul64 rfl ?_
 conv => whnf
 refine WBnd.mk (by decide) ?_
 conv => whnf
 refine WBnd.mk (by decide) ?_
 conv => whnf
 refine WBnd.mk (by decide) ?_
 conv => whnf
 refine WBnd.mk (by decide) ?_
 conv => whnf
 refine WBnd.mk (by decide) ?_
 conv => whnf
 refine WRet.same ⟨?_, rfl⟩
 have a1 := and32 ⟨n, by omega⟩
 have a2 := div32 ⟨n, by omega⟩
 have a3 := wrap64 ⟨n, by omega⟩
 have a4 : IntKind.u64.wrap (((BitVec.ofInt IntKind.u64.bits 1) &&& (BitVec.ofInt IntKind.u64.bits 4294967295)).toNat : Int) = 1 := by decide
 have a5 : Int.fdiv 1 (2 ^ min (Int.toNat 32) IntKind.u64.bits) = 0 := by decide
 have a6 : (((BitVec.ofInt IntKind.u64.bits 0) &&& (BitVec.ofInt IntKind.u64.bits 4294967295)).toNat : Int) = 0 := by decide
 have a7 : IntKind.u64.wrap 0 = 0 := by decide
 have a8 : Int.fdiv 0 (2 ^ min (Int.toNat 32) IntKind.u64.bits) = 0 := by decide
 simp only at a1 a2 a3
 simp only [a1, a2, a3, a4, a5, a6, a7, a8, Int.zero_mul, Int.mul_zero, Int.one_mul, Int.add_zero, Int.zero_add]
 rfl
theorem mul1_ok (m : Mem) {n : Nat} (hn : n ≤ 400) : PureM Tryz.prog 157 [.int .u64 1, .int .u64 n] m (.tuple ⟨[.int .u64 0, .int .u64 n]⟩) := by
 refine calls_of mixed Tryz.func157 ok_math_bits_Mul rfl ?_
 conv => whnf
 refine WCall.pure (mul64_ok m hn) ?_
 conv => whnf
 exact WRet.same ⟨rfl, rfl⟩
theorem WCopy.mk' {m : Mem} {sz : Nat} {a : Option Addr} {alen : Nat} {x : Option Addr} {xlen : Nat} {K : Value → Mem → Prop} (new : List Value) (h1 : FirstCells m x (min xlen alen * sz) new) (h2 : x = none → min xlen alen = 0) (ad : Addr) (ha : a = some ad) (l : List Value) (U : TypeId) (hm : m ad.block = some (Cells l U)) (hs : ad.spot = none) (hb : ad.off + min xlen alen * sz ≤ l.length) (ho : oneL new = true)
  (k : K (.int .i64 (min xlen alen : Nat)) (m.set ad.block (Cells (spliceL l ad.off new) U))) : WCopy m sz a alen x xlen K := by
 unfold WCopy
 exact ⟨new, h1, h2, .inr ⟨ad, ha, l, U, hm, hs, hb, ho, k⟩⟩
def ones (k n : Nat) : List Value := List.replicate k (i (-1)) ++ List.replicate (n - k) (i 0)
theorem oneL_rep (x : Int) : ∀ k, oneL (List.replicate k (i x)) = true
 | 0 => rfl
 | k + 1 => oneL_rep x k
theorem ones_len {k n : Nat} (h : k ≤ n) : (ones k n).length = n := by unfold ones; simp; omega
theorem splice_ones {k n j : Nat} (h : k + j ≤ n) : spliceL (ones k n) k (List.replicate j (i (-1))) = ones (k + j) n := by
 rw [spliceL_eq _ _ _ (by rw [ones_len (by omega), List.length_replicate]; exact h)]
 unfold ones
 have e1 : (List.replicate k (i (-1)) ++ List.replicate (n - k) (i 0)).take k = List.replicate k (i (-1)) := List.take_left' (by simp)
 have e2 : (List.replicate k (i (-1)) ++ List.replicate (n - k) (i 0)).drop (k + (List.replicate j (i (-1))).length) = List.replicate (n - (k + j)) (i 0) := by
  rw [← List.drop_drop, List.drop_left' (by simp), List.drop_replicate, List.length_replicate]
  congr 1; omega
 rw [e1, e2, List.replicate_append_replicate]
theorem ones_all {n : Nat} : ones n n = (noneC n).map i := by unfold ones noneC; simp
theorem repeat_ok {m : Mem} {v : Value} {n : Nat} (hv : IAt m v [-1]) (hn : n ≤ 400) :
  CallsM Tryz.prog 103 [v, i n] m fun e m' => ∃ b, e = .returned (.slice (some ⟨b, 0, none⟩) n n) ∧ m b = none ∧ m' b = some (Cells ((noneC n).map i) 3) ∧ Mem.le m m' := by
 obtain ⟨a, c, rfl, h0, h1, hcap⟩ := hv
 refine calls_of mixed Tryz.func103 ok_slices_Repeat_int_int rfl ?_
 conv => whnf
 refine Br.mk (fun h => ?_) (fun _ => ?_)
 ·have : (n : Int) < 0 := of_decide_eq_true h
  omega
 have a3 := wrap64 ⟨n, by omega⟩
 simp only at a3
 conv => whnf
 rw [a3]
 refine WCall.pure (mul1_ok m hn) ?_
 conv => whnf
 refine WSc.mk (v := decide ((n : Int) > 9223372036854775807)) (fun _ => ?_) ?_
 ·conv => whnf
  exact And.intro (Mem.le.refl _) rfl
 conv => whnf
 refine Br.mk (fun h => ?_) (fun _ => ?_)
 ·have h2 : decide ((n : Int) > 9223372036854775807) = true := h
  have : (n : Int) > 9223372036854775807 := of_decide_eq_true h2
  omega
 conv => whnf
 refine WRng.mk (by apply wrap_i64 <;> omega) ?_
 conv => whnf
 refine WMake.mk ⟨by omega, Int.le_refl _, by omega⟩ fun b hb => ?_
 simp only [Int.toNat_natCast]
 rw [mkZeros]
 have e0 : (List.replicate n (0 : Int)).map i = ones 0 n := by unfold ones; simp
 rw [e0]
 have hle1 : Mem.le m (m.set b (Cells (ones 0 n) 3)) := Mem.le_set hb
 have hcell1 := Mem.set_same m b (Cells (ones 0 n) 3)
 generalize m.set b (Cells (ones 0 n) 3) = m1 at *
 obtain ⟨ad, rfl⟩ : ∃ ad, a = some ad := by
  cases a with
  | none => cases h0 rfl
  | some ad => exact ⟨ad, rfl⟩
 have hx1 : CellsAt m1 ad [i (-1)] := (h1 ad rfl).mono hle1
 conv => whnf
 refine WCopy.mk' (List.replicate (min 1 n) (i (-1))) ⟨by simp, fun ad' had => ?_⟩ (fun h => by cases h) ⟨b, 0, none⟩ rfl _ 3 hcell1 rfl ?_ (oneL_rep _ _) ?_
 ·cases had
  intro q v hq
  refine hx1 q v ?_
  have hq2 := (List.getElem?_eq_some_iff.1 hq).1
  rw [List.length_replicate] at hq2
  have : q = 0 := by omega
  subst this
  rw [List.getElem?_replicate, if_pos hq2] at hq
  exact hq
 ·rw [ones_len (Nat.zero_le _)]; simp only [List.length_cons, List.length_nil]; omega
 conv => whnf
 refine WLoop.mk Nat (fun k => [(8, .val (i k))]) (fun k m' => Mem.le m m' ∧ m' b = some (Cells (ones k n) 3) ∧ k ≤ n ∧ (k = 0 → n = 0)) (fun k => n - k) (min 1 n) ⟨rfl, trivial⟩ ⟨le_setn hle1 hb, ?_, by omega, fun h => by omega⟩ ?_
 ·have := splice_ones (k := 0) (n := n) (j := min 1 n) (by omega)
  rw [Mem.set_same]
  rw [this, Nat.zero_add]
 rintro k m2 ⟨g1, g2, g3, g4⟩
 conv => whnf
 refine Br.mk (fun hk0 => ?_) (fun hk0 => ?_)
 ·have hk : k < n := by
   have : (k : Int) < n := of_decide_eq_true hk0
   omega
  conv => whnf
  refine WSl.mk ⟨by omega, by omega, Int.le_refl _⟩ ?_
  conv => whnf
  refine WSl.mk ⟨by omega, by omega, by omega⟩ ?_
  conv => whnf
  refine ⟨?_, trivial⟩
  conv => whnf
  refine WCopy.mk' (List.replicate (min k (n - k)) (i (-1))) ⟨?_, fun ad' had => ?_⟩ (fun h => ?_) ⟨b, k, none⟩ ?_ _ 3 g2 rfl ?_ (oneL_rep _ _) ?_
  ·rw [List.length_replicate]; simp only [Int.toNat_natCast]; omega
  ·have had2 : ad' = ⟨b, 0, none⟩ := by
    split at had
    ·cases had; rfl
    ·simpa [add0] using had.symm
   subst had2
   refine CellsAt.blk g2 fun q v hq => ?_
   have hq2 := (List.getElem?_eq_some_iff.1 hq).1
   rw [List.length_replicate] at hq2
   rw [List.getElem?_replicate, if_pos hq2] at hq
   rw [Nat.zero_add]
   unfold ones
   rw [List.getElem?_append_left (by rw [List.length_replicate]; omega), List.getElem?_replicate, if_pos (by omega)]
   exact hq
  ·split at h <;> cases h
  ·rw [if_neg (by omega)]
   show some ((⟨b, 0, none⟩ : Addr).add _) = _
   rw [add0]; simp
  ·rw [ones_len g3]; simp only [Int.toNat_natCast]; omega
  conv => whnf
  refine WRng.mk (by apply wrap_i64 <;> simp only [Int.toNat_natCast] <;> omega) ?_
  conv => whnf
  refine ⟨k + min k (n - k), ⟨?_, trivial⟩, ⟨le_setn g1 hb, ?_, by omega, fun h => g4 (by omega)⟩, by omega⟩
  ·show some (AV.val (i _)) = some (AV.val (i _))
   congr 2
  ·rw [Mem.set_same, splice_ones (by omega)]
 ·have hk : k = n := by
   have : ¬ (k : Int) < n := of_decide_eq_false hk0
   omega
  subst hk
  conv => whnf
  exact WRet.same ⟨b, rfl, hb, by rw [← ones_all]; exact g2, g1⟩
end Go.Proofs.YtmnagbhllnlelaaGreatDoor
set_option linter.unusedSimpArgs false
set_option linter.unusedVariables false
set_option maxRecDepth 100000
namespace Go.Proofs.YtmnagbhllnlelaaGreatDoor
open Go Go.Vx
open Go.Vx.IOp Go.Vx.IR Go.Vx.Opd
/-- All but one block stays as it was. -/
def LeX (b : Nat) (m m' : Mem) : Prop := ∀ x o, x ≠ b → m x = some o → m' x = some o
theorem LeX.set {b b2 : Nat} {m m' : Mem} {o : Obj} (h : LeX b m m') (hb : m b2 = none) : LeX b m (m'.set b2 o) := fun x p hx hp => by
 have : x ≠ b2 := fun e => by rw [e, hb] at hp; cases hp
 rw [Mem.set_other _ _ this]; exact h x p hx hp
theorem LeX.at {b : Nat} {m m' : Mem} {o : Obj} (h : LeX b m m') : LeX b m (m'.set b o) := fun x p hx hp => by
 rw [Mem.set_other _ _ hx]; exact h x p hx hp
theorem row_push {m m' : Mem} {N : Nat} {V : List Value} {L L' : Nat → List Edg} (h : NextOK N m m' V L) {k bi : Nat} (hk : k < N) (hbi : m' bi = some (Cells V 29)) (hbm : m bi ≠ none) (hx : LeX bi m m') (e : Edg) {a : Option Addr} {c n : Nat} (hn : n = (L k).length) (hv : V.getD k ns = .slice a n c) {b1 : Nat} (hb1 : m' b1 = none)
  (hL : ∀ j, j < N → L' j = if j = k then L k ++ [e] else L j) (hlen : (L k).length ≤ 200000) {K : Value → Mem → Prop}
  (kk : ∀ a' c' m'', LeX bi m m'' → m'' bi = some (Cells V 29) → NextOK N m (m''.set bi (Cells (V.set k (.slice a' (n + 1) c')) 29)) (V.set k (.slice a' (n + 1) c')) L' → K (.slice a' (n + 1) c') m'') :
  WApp (m'.set b1 (Cells e.cells 43)) 43 4 32 zero4 a n c (some ⟨b1, 0, none⟩) 1 K := by
 subst hn
 have hmb1 : m b1 = none := by
  cases hh : m b1 with
  | none => rfl
  | some o =>
   have : b1 ≠ bi := fun e => by rw [e, hbi] at hb1; cases hb1
   rw [hx b1 o this hh] at hb1; cases hb1
 have nbi1 : bi ≠ b1 := fun e => by rw [e, hb1] at hbi; cases hbi
 have hnew : FirstCells (m'.set b1 (Cells e.cells 43)) (some ⟨b1, 0, none⟩) (1 * 4) e.cells := ⟨rfl, fun ad had => by cases had; exact CellsAt.blk (Mem.set_same _ _ _) fun j v hj => by rw [Nat.zero_add]; exact hj⟩
 have fin : ∀ (b2 c2 : Nat) (X : List Value), m b2 = none → b2 ≠ bi → (L k).length + 1 ≤ c2 → X = ecs (L k) ++ e.cells ++ zerosL (c2 - ((L k).length + 1)) →
   (∀ j b c n, j < N → j ≠ k → V.getD j ns = .slice (some ⟨b, 0, none⟩) n c → b ≠ b2) → K (.slice (some ⟨b2, 0, none⟩) ((L k).length + 1) c2) ((m'.set b1 (Cells e.cells 43)).set b2 (Cells X 43)) := by
  intro b2 c2 X hb2 n2 hc2 hX hoth
  refine kk _ _ _ ((hx.set hmb1).set hb2) ?_ ?_
  ·rw [Mem.set_other _ _ (Ne.symm n2), Mem.set_other _ _ nbi1]; exact hbi
  ·refine h.grow hk e hL hb2 ?_ hc2 fun j b c n hj hjk hjv => ⟨hoth j b c n hj hjk hjv, ?_⟩
   ·rw [Mem.set_other _ _ n2, Mem.set_same, hX, ecs_snoc]
   ·rcases h.row j hj with ⟨w1, w2⟩ | ⟨b', c', w1, w2, w3, w4, w5⟩
    ·rw [w1] at hjv; cases hjv
    ·rw [w1] at hjv; cases hjv
     have nn : b ≠ bi := fun e => by subst e; rw [hbi] at w5; cases w5
     have nb1 : b ≠ b1 := fun e => by subst e; rw [hb1] at w5; cases w5
     rw [Mem.set_other _ _ nn, Mem.set_other _ _ (hoth j b _ _ hj hjk w1), Mem.set_other _ _ nb1]
 have fresh : ∀ b2, (m'.set b1 (Cells e.cells 43)) b2 = none → m' b2 = none ∧ b2 ≠ bi ∧ m b2 = none := fun b2 hb2 => by
  have nb21 : b2 ≠ b1 := fun e => by subst e; rw [Mem.set_same] at hb2; cases hb2
  have hb2' : m' b2 = none := by rw [Mem.set_other _ _ nb21] at hb2; exact hb2
  have nbn2 : b2 ≠ bi := fun e => by rw [e, hbi] at hb2'; cases hb2'
  refine ⟨hb2', nbn2, ?_⟩
  cases hh : m b2 with
  | none => rfl
  | some o => rw [hx b2 o nbn2 hh] at hb2'; cases hb2'
 have other : ∀ b2, m' b2 = none → ∀ j b c n, j < N → j ≠ k → V.getD j ns = .slice (some ⟨b, 0, none⟩) n c → b ≠ b2 := fun b2 hb2 j b c n hj _ hjv e => by
  rcases h.row j hj with ⟨w1, _⟩ | ⟨b', c', w1, _, _, _, w5⟩
  ·rw [w1] at hjv; cases hjv
  ·rw [w1] at hjv; cases hjv; rw [e, hb2] at w5; cases w5
 rcases h.row k hk with ⟨r1, r2⟩ | ⟨b, cc, r1, r2, r3, r4, r5⟩
 ·rw [r1] at hv
  have hl0 : (L k).length = 0 := by rw [r2]; rfl
  rw [hl0] at hv
  cases hv
  rw [hl0]
  refine WApp.grow e.cells hnew (fun h => by cases h) (by omega) (by omega) [] ⟨rfl, fun ad h => by cases h⟩ (fun _ => rfl) fun b2 c2 hb2 hc2 => ?_
  obtain ⟨f1, f2, f3⟩ := fresh b2 hb2
  have F := fin b2 c2 ([] ++ e.cells ++ zerosL (c2 - (0 + 1))) f3 f2 (by rw [hl0]; exact hc2) (by rw [r2]; rfl) (other b2 f1)
  rw [hl0] at F
  exact F
 ·rw [r1] at hv
  cases hv
  have nbb1 : b ≠ b1 := fun e => by rw [← e, r5] at hb1; cases hb1
  have nbbn : b ≠ bi := fun e => by rw [e, hbi] at r5; cases r5
  have hb1' : (m'.set b1 (Cells e.cells 43)) b = some (Cells (ecs (L k) ++ zerosL (c - (L k).length)) 43) := by rw [Mem.set_other _ _ nbb1]; exact r5
  by_cases hcc : (L k).length + 1 ≤ c
  ·refine WApp.in (ad := ⟨b, 0, none⟩) _ hnew (fun h => by cases h) _ 43 hcc hb1' rfl ?_ rfl ?_
   ·rw [List.length_append, ecs_len, zerosL_len]; simp only; omega
   ·exact fin b c _ r4 nbbn hcc (by rw [Nat.zero_add, splice_ecs (by omega)]; rfl) (fun j b' c' n hj hjz hjv e => hjz (h.apart j k b c' c n _ hj hk (by rw [← e]; exact hjv) r1))
  ·refine WApp.grow _ hnew (fun h => by cases h) (by omega) (by omega) (ecs (L k)) ⟨ecs_len _, fun ad had => by cases had; exact CellsAt.blk hb1' fun j v hj => by rw [Nat.zero_add, List.getElem?_append_left (List.getElem?_eq_some_iff.1 hj).1]; exact hj⟩ (fun h => by cases h) fun b2 c2 hb2 hc2 => ?_
   obtain ⟨f1, f2, f3⟩ := fresh b2 hb2
   exact fin b2 c2 _ f3 f2 hc2 rfl (other b2 f1)
end Go.Proofs.YtmnagbhllnlelaaGreatDoor
