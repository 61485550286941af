import Derived.Test.YtleofbpepfmfgaaGreatDoorVxIR2
import Derived.Test.YtleofbpepfmfgaaGreatDoorVxIR0
import Derived.Test.YtleofbpepfmfgaaGreatDoorVxIR1
import Derived.Test.YtleofbpepfmfgaaGreatDoorVxFind
import Derived.Test.YtleofbpepfmfgaaGreatDoorProg
import Derived.KernelRfl
import Derived.Laws.BitsLemmas
import Derived.Test.YtleofbpepfmfgaaGreatDoorVxEvRun
set_option linter.unusedSimpArgs false
set_option linter.unusedVariables false
set_option maxRecDepth 100000
namespace Go.Vx
open Go
variable {P : Program}
theorem WApp.in {m : Mem} {T sz bytes : Nat} {zero : List Value} {ad : Addr} {len cap : Nat} {x : Option Addr} {n : Nat} {K : Value → Mem → Prop} (new : List Value) (h : FirstCells m x (n * sz) new) (hx : x = none → n = 0) (l : List Value) (U : TypeId)
  (h1 : len + n ≤ cap) (h2 : m ad.block = some (Cells l U)) (h3 : ad.spot = none) (h4 : ad.off + len * sz + n * sz ≤ l.length) (h5 : oneL new = true) (k : K (.slice (some ad) (len + n) cap) (m.set ad.block (Cells (spliceL l (ad.off + len * sz) new) U))) : WApp m T sz bytes zero (some ad) len cap x n K := by
 unfold WApp; exact ⟨new, h, hx, fun _ => .inr ⟨ad, rfl, l, U, h2, h3, h4, h5, k⟩, fun hh => absurd hh (by omega)⟩
theorem WApp.grow {m : Mem} {T sz bytes : Nat} {zero : List Value} {a : Option Addr} {len cap : Nat} {x : Option Addr} {n : Nat} {K : Value → Mem → Prop} (new : List Value) (h : FirstCells m x (n * sz) new) (hx : x = none → n = 0)
  (h1 : cap < len + n) (h2 : (len + n) * bytes ≤ 35184372088832) (old : List Value) (h3 : FirstCells m a (len * sz) old) (h4 : a = none → len = 0)
  (k : ∀ b c, m b = none → len + n ≤ c → K (.slice (some ⟨b, 0, none⟩) (len + n) c) (m.set b (Cells (old ++ new ++ (List.replicate (c - (len + n)) zero).flatten) T))) : WApp m T sz bytes zero a len cap x n K := by
 unfold WApp; exact ⟨new, h, hx, fun hh => absurd hh (by omega), fun _ => ⟨h2, old, h3, h4, k⟩⟩
theorem CellsAt.blk {m : Mem} {b off : Nat} {l vs : List Value} {T : TypeId} (h : m b = some (Cells l T)) (hv : ∀ (j : Nat) v, vs[j]? = some v → l[off + j]? = some v) : CellsAt m ⟨b, off, none⟩ vs := fun j v hj => by
 have e : (⟨b, off, none⟩ : Addr).add j = ⟨b, off + j, none⟩ := by unfold Addr.add; split <;> simp_all
 rw [e]
 exact ⟨_, _, _, h, rfl, by simpa using hv j v hj⟩
theorem Mem.le.refl (m : Mem) : Mem.le m m := fun _ _ h => h
theorem Mem.le.trans {a b c : Mem} (h : Mem.le a b) (k : Mem.le b c) : Mem.le a c := fun x o hx => k x o (h x o hx)
theorem Mem.le_set {m : Mem} {b : Nat} {o : Obj} (h : m b = none) : Mem.le m (m.set b o) := fun x p hx => by
 by_cases e : x = b
 ·subst e; rw [h] at hx; cases hx
 ·rw [Mem.set_other _ _ e]; exact hx
end Go.Vx
namespace Go.Proofs.YtleofbpepfmfgaaGreatDoor
open Go Go.Vx
end Go.Proofs.YtleofbpepfmfgaaGreatDoor
set_option linter.unusedSimpArgs false
set_option linter.unusedVariables false
set_option maxRecDepth 100000
namespace Go.Proofs.YtleofbpepfmfgaaGreatDoor
open Go Go.Vx
open Go.Vx.IOp Go.Vx.IR Go.Vx.Opd
def IAt (m : Mem) (v : Value) (C : List Int) : Prop := ∃ a c, v = .slice a C.length c ∧ (a = none → C = []) ∧ (∀ ad, a = some ad → CellsAt m ad (C.map i)) ∧ C.length ≤ c
structure Edg where
 f : Int
 t : Int
 d : Int
 r : Int
deriving DecidableEq
def Edg.cells (e : Edg) : List Value := [i e.f, i e.t, i e.d, i e.r]
def Edg.val (e : Edg) : Value := .agg ⟨e.cells⟩
theorem wrap_i64 {z : Int} (h : -9223372036854775808 ≤ z) (h2 : z ≤ 9223372036854775807) : IntKind.i64.wrap z = z := by
 rw [IntKind.wrap_i64]; omega
theorem IAt.cell {m : Mem} {ad : Addr} {C : List Int} (h : CellsAt m ad (C.map i)) {k : Nat} (hk : k < C.length) : CellAt m (ad.add k) (i C[k]) := h k _ (by simp [hk])
theorem add_add {a : Addr} {x y : Nat} : (a.add x).add y = a.add (x + y) := by
 by_cases hx : x = 0 <;> by_cases hy : y = 0 <;> simp_all [Addr.add, Nat.add_assoc]
def PureM (P : Program) (f : Nat) (vs : List Value) (m : Mem) (v : Value) : Prop := CallsM P f vs m fun e m' => e = .returned v ∧ m' = m
def idxFrom {α : Type} (p : α → Bool) (C : List α) : Int := match C.findIdx? p with | some k => (k : Int) | none => -1
theorem findIdx_none {α : Type} {p : α → Bool} {C : List α} (h : ∀ (k : Nat) (hk : k < C.length), p C[k] = false) : C.findIdx? p = none := by
 rw [List.findIdx?_eq_none_iff]
 intro x hx
 obtain ⟨k, hk, rfl⟩ := List.getElem_of_mem hx
 exact h k hk
theorem findIdx_at {α : Type} {p : α → Bool} {C : List α} {k : Nat} (hk : k < C.length) (h : ∀ j (hj : j < k), p C[j] = false) (hp : p C[k] = true) : C.findIdx? p = some k := by
 rw [List.findIdx?_eq_some_iff_getElem]
 exact ⟨hk, hp, fun j hj => by simp [h j hj]⟩
theorem idxFrom_any {α : Type} (p : α → Bool) (C : List α) : decide (idxFrom p C ≥ 0) = C.any p := by
 unfold idxFrom
 cases h : C.findIdx? p with
 | none =>
  rw [List.findIdx?_eq_none_iff] at h
  simp only [ge_iff_le]
  rw [decide_eq_false (by omega)]
  symm; rw [List.any_eq_false]; intro x hx; simp [h x hx]
 | some k =>
  rw [List.findIdx?_eq_some_iff_getElem] at h
  obtain ⟨h1, h2, _⟩ := h
  simp only [ge_iff_le]
  rw [decide_eq_true (by omega)]
  symm; rw [List.any_eq_true]; exact ⟨_, List.getElem_mem h1, h2⟩
theorem idx_int {m : Mem} {v : Value} {C : List Int} (hv : IAt m v C) (hlen : C.length < 2 ^ 63) {g : Nat} {first caps : List Value} (p : Int → Bool)
  (hp : ∀ x ∈ C, PureM Tryz.prog g (first ++ [i x] ++ caps) m (.bool (p x))) :
  PureM Tryz.prog 170 [v, .func (.func g) ⟨first⟩ ⟨caps⟩] m (i (idxFrom p C)) := by
 obtain ⟨a, c, rfl, h0, h1, hcap⟩ := hv
 refine calls_of mixed Tryz.func170 ok_slices_IndexFunc_int_int rfl ?_
 conv => whnf
 refine WLoop.mk Nat (fun k => [(8, .val (i k))]) (fun k m' => m = m' ∧ k ≤ C.length ∧ ∀ j (hj : j < C.length), j < k → p C[j] = false) (fun k => C.length - k) 0 ⟨rfl, trivial⟩ ⟨rfl, Nat.zero_le _, fun j hj h => by omega⟩ ?_
 rintro k m' ⟨rfl, hk, hq⟩
 conv => whnf
 refine Br.mk (fun hb => ?_) (fun hb => ?_)
 ·have hk2 : k < C.length := by simpa using hb
  conv => whnf
  cases a with
  | none => rw [h0 rfl] at hk2; simp at hk2
  | some ad =>
   refine WIdx.mk ad rfl ⟨by omega, by simpa using hk2⟩ ?_
   conv => whnf
   refine WLd.mk (i C[k]) ?_ ?_
   ·simpa using IAt.cell (h1 ad rfl) hk2
   conv => whnf
   refine WCall.pure (hp _ (List.getElem_mem hk2)) ?_
   conv => whnf
   refine Br.mk (fun hb => ?_) (fun hb => ?_)
   ·conv => whnf
    refine WRet.same ⟨?_, rfl⟩
    unfold idxFrom
    rw [findIdx_at hk2 (fun j hj => hq j (by omega) hj) hb]
    rfl
   ·conv => whnf
    refine WRng.mk (by apply wrap_i64 <;> omega) ?_
    conv => whnf
    refine ⟨k + 1, ⟨rfl, trivial⟩, ⟨rfl, hk2, fun j hj h => ?_⟩, by omega⟩
    by_cases e : j = k
    ·subst e; exact hb
    ·exact hq j hj (by omega)
 ·have hk2 : ¬ k < C.length := by simpa using hb
  conv => whnf
  refine WRet.same ⟨?_, rfl⟩
  unfold idxFrom
  rw [findIdx_none fun j hj => hq j hj (by omega)]
  rfl
theorem contains_int {m : Mem} {v : Value} {C : List Int} (hv : IAt m v C) (hlen : C.length < 2 ^ 63) {g : Nat} {first caps : List Value} (p : Int → Bool)
  (hp : ∀ x ∈ C, PureM Tryz.prog g (first ++ [i x] ++ caps) m (.bool (p x))) :
  PureM Tryz.prog 150 [v, .func (.func g) ⟨first⟩ ⟨caps⟩] m (.bool (C.any p)) := by
 refine calls_of mixed Tryz.func150 ok_slices_ContainsFunc_int_int rfl ?_
 conv => whnf
 refine WCall.pure (idx_int hv hlen p hp) ?_
 conv => whnf
 refine WRet.same ⟨?_, rfl⟩
 rw [show resVal [Value.bool (decide (idxFrom p C ≥ 0))] = .bool (decide (idxFrom p C ≥ 0)) from rfl, idxFrom_any]
theorem IAt.mono {m m' : Mem} (h : Mem.le m m') {v : Value} {C : List Int} (k : IAt m v C) : IAt m' v C := by
 obtain ⟨a, c, h1, h2, h3, h4⟩ := k; exact ⟨a, c, h1, h2, fun ad ha => (h3 ad ha).mono h, h4⟩
theorem CellsAt.take {m : Mem} {ad : Addr} {vs : List Value} (h : CellsAt m ad vs) (k : Nat) : CellsAt m ad (vs.take k) := fun j v hj => by
 have := (List.getElem?_eq_some_iff.1 hj).1
 rw [List.getElem?_take, if_pos (by simp at this; omega)] at hj
 exact h j v hj
theorem WApp.copy {m : Mem} {T sz bytes : Nat} {zero : List Value} {b1 : Nat} {A A' : Option Addr} {n n' : Nat} {K : Value → Mem → Prop} (hb1 : m b1 = none) (hA' : A' = A) (hn : n' = n) (new : List Value) (h : FirstCells m A (n * sz) new) (hA : A = none → n = 0)
  (hb : n * bytes ≤ 35184372088832) (k : ∀ b c m', Mem.le m m' → n ≤ c → m b = none → CellsAt m' ⟨b, 0, none⟩ new → K (.slice (some ⟨b, 0, none⟩) n c) m') :
  WApp (m.set b1 (Cells [] T)) T sz bytes zero (some ⟨b1, 0, none⟩) 0 0 A' n' K := by
 subst hA'; subst hn
 have hle := Mem.le_set (o := Cells [] T) hb1
 have hf : FirstCells (m.set b1 (Cells [] T)) A' (n' * sz) new := ⟨h.1, fun ad ha => (h.2 ad ha).mono hle⟩
 by_cases h0 : n' = 0
 ·subst h0
  have hnew : new = [] := List.length_eq_zero_iff.1 (by rw [h.1]; simp)
  subst hnew
  refine WApp.in [] hf (fun _ => rfl) [] T (by omega) (Mem.set_same _ _ _) rfl (by simp) rfl ?_
  refine k b1 0 _ (fun b o hbo => ?_) (Nat.le_refl _) hb1 (fun j v hj => by simp at hj)
  have : b ≠ b1 := fun e => by subst e; rw [hb1] at hbo; cases hbo
  rw [Mem.set_other _ _ this, Mem.set_other _ _ this]; exact hbo
 ·refine WApp.grow new hf hA (by omega) (by rw [Nat.zero_add]; exact hb) [] ⟨by simp, fun ad _ j v hj => by simp at hj⟩ (fun _ => rfl) fun b c hbn hc => ?_
  have hbb : b ≠ b1 := fun e => by subst e; rw [Mem.set_same] at hbn; cases hbn
  have hbm : m b = none := by rw [Mem.set_other _ _ hbb] at hbn; exact hbn
  rw [Nat.zero_add]
  refine k b c _ (hle.trans (Mem.le_set hbn)) (by omega) hbm ?_
  refine CellsAt.blk (Mem.set_same _ _ _) fun j v hj => ?_
  rw [List.nil_append, Nat.zero_add, List.getElem?_append_left (List.getElem?_eq_some_iff.1 hj).1]; exact hj
theorem if_map {a : Option Addr} {c : Int} {k : Nat} (h : k = 0) : (if c = 0 then a else a.map (·.add k)) = a := by
 subst h; split
 ·rfl
 ·cases a <;> rfl
theorem add0 (b z : Nat) : (⟨b, 0, none⟩ : Addr).add z = ⟨b, z, none⟩ := by unfold Addr.add; split <;> simp_all
theorem max_if (a b : Int) : (if b > a then b else a) = max a b := by rw [Int.max_def]; split <;> split <;> omega
theorem le_setn {m m' : Mem} {b : Nat} {o : Obj} (h : Mem.le m m') (hb : m b = none) : Mem.le m (m'.set b o) := fun x p hx => by
 by_cases e : x = b
 ·subst e; rw [hb] at hx; cases hx
 ·rw [Mem.set_other _ _ e]; exact h x p hx
theorem WApp.copyB {m : Mem} {T sz bytes : Nat} {zero : List Value} {b1 : Nat} {A A' : Option Addr} {n n' : Nat} {K : Value → Mem → Prop} (hb1 : m b1 = none) (hA' : A' = A) (hn : n' = n) (new : List Value) (h : FirstCells m A (n * sz) new) (hA : A = none → n = 0)
  (hb : n * bytes ≤ 35184372088832) (k : ∀ b c m' rest, Mem.le m m' → n ≤ c → m b = none → m' b = some (Cells (new ++ rest) T) → K (.slice (some ⟨b, 0, none⟩) n c) m') :
  WApp (m.set b1 (Cells [] T)) T sz bytes zero (some ⟨b1, 0, none⟩) 0 0 A' n' K := by
 subst hA'; subst hn
 have hle := Mem.le_set (o := Cells [] T) hb1
 have hf : FirstCells (m.set b1 (Cells [] T)) A' (n' * sz) new := ⟨h.1, fun ad ha => (h.2 ad ha).mono hle⟩
 by_cases h0 : n' = 0
 ·subst h0
  have hnew : new = [] := List.length_eq_zero_iff.1 (by rw [h.1]; simp)
  subst hnew
  refine WApp.in [] hf (fun _ => rfl) [] T (by omega) (Mem.set_same _ _ _) rfl (by simp) rfl ?_
  refine k b1 0 _ [] (fun b o hbo => ?_) (Nat.le_refl _) hb1 (Mem.set_same _ _ _)
  have : b ≠ b1 := fun e => by subst e; rw [hb1] at hbo; cases hbo
  rw [Mem.set_other _ _ this, Mem.set_other _ _ this]; exact hbo
 ·refine WApp.grow new hf hA (by omega) (by rw [Nat.zero_add]; exact hb) [] ⟨by simp, fun ad _ j v hj => by simp at hj⟩ (fun _ => rfl) fun b c hbn hc => ?_
  have hbb : b ≠ b1 := fun e => by subst e; rw [Mem.set_same] at hbn; cases hbn
  have hbm : m b = none := by rw [Mem.set_other _ _ hbb] at hbn; exact hbn
  rw [Nat.zero_add]
  exact k b c _ _ (hle.trans (Mem.le_set hbn)) (by omega) hbm (Mem.set_same _ _ _)
theorem fold_succ {α β : Type} {f : β → α → β} {E : List α} {s : β} {j : Nat} (hj : j < E.length) : (E.take (j + 1)).foldl f s = f ((E.take j).foldl f s) E[j] := by
 rw [List.take_succ_eq_append_getElem hj, List.foldl_append]; rfl
end Go.Proofs.YtleofbpepfmfgaaGreatDoor
set_option linter.unusedSimpArgs false
set_option linter.unusedVariables false
set_option maxRecDepth 100000
namespace Go.Proofs.YtleofbpepfmfgaaGreatDoor
open Go Go.Vx
open Go.Vx.IOp Go.Vx.IR Go.Vx.Opd
def PushI (m0 m : Mem) (a : Option Addr) (c : Nat) (L : List Int) : Prop :=
 (a = none ∧ c = 0 ∧ L = []) ∨ ∃ b, a = some ⟨b, 0, none⟩ ∧ L.length ≤ c ∧ m0 b = none ∧ m b = some (Cells (L.map i ++ List.replicate (c - L.length) (i 0)) 3)
theorem PushI.iat {m0 m : Mem} {a : Option Addr} {c : Nat} {L : List Int} (h : PushI m0 m a c L) : IAt m (.slice a L.length c) L := by
 rcases h with ⟨rfl, rfl, rfl⟩ | ⟨b, rfl, h1, h2, h3⟩
 ·exact ⟨none, 0, rfl, fun _ => rfl, (fun ad h => by cases h), Nat.le_refl _⟩
 ·refine ⟨_, c, rfl, (fun h => by cases h), fun ad ha => ?_, h1⟩
  cases ha
  refine CellsAt.blk h3 fun q v hq => ?_
  rw [Nat.zero_add, List.getElem?_append_left (List.getElem?_eq_some_iff.1 hq).1]; exact hq
theorem PushI.mono {m0 m m' : Mem} {a : Option Addr} {c : Nat} {L : List Int} (h : PushI m0 m a c L) (hle : Mem.le m m') : PushI m0 m' a c L := by
 rcases h with h | ⟨b, h0, h1, h2, h3⟩
 ·exact .inl h
 ·exact .inr ⟨b, h0, h1, h2, hle _ _ h3⟩
theorem repl_flat (n : Nat) (v : Value) : (List.replicate n [v]).flatten = List.replicate n v := by
 induction n with
 | zero => rfl
 | succ n ih => rw [List.replicate_succ, List.flatten_cons, ih, List.replicate_succ]; rfl
theorem push_ok {m0 m : Mem} {a : Option Addr} {c n : Nat} {L : List Int} {z : Int} {bx : Nat} {K : Value → Mem → Prop} (hle : Mem.le m0 m) (hp : PushI m0 m a c L) (hx : m bx = some (Cells [i z] 3)) (hn : n = L.length) (hlen : L.length < 1099511627776)
  (k : ∀ a' c' m', Mem.le m0 m' → PushI m0 m' a' c' (L ++ [z]) → K (.slice a' (L.length + 1) c') m') : WApp m 3 1 8 [i 0] a n c (some ⟨bx, 0, none⟩) 1 K := by
 subst hn
 have hnew : FirstCells m (some ⟨bx, 0, none⟩) (1 * 1) [i z] := ⟨rfl, fun ad had => by cases had; exact CellsAt.blk hx fun j v hj => by rw [Nat.zero_add]; exact hj⟩
 have hnone : ∀ b2, m b2 = none → m0 b2 = none := fun b2 h => by
  cases hh : m0 b2 with
  | none => rfl
  | some o => rw [hle b2 o hh] at h; cases h
 rcases hp with ⟨rfl, rfl, rfl⟩ | ⟨b, rfl, h1, h2, h3⟩
 ·refine WApp.grow _ hnew (fun h => by cases h) (by decide) (by decide) [] ⟨rfl, fun ad h => by cases h⟩ (fun _ => rfl) fun b2 c2 hb2 hc2 => ?_
  refine k _ _ _ (le_setn hle (hnone _ hb2)) (.inr ⟨b2, rfl, by simpa using hc2, hnone _ hb2, ?_⟩)
  rw [Mem.set_same, repl_flat]; rfl
 ·by_cases hcc : L.length + 1 ≤ c
  ·refine WApp.in (ad := ⟨b, 0, none⟩) _ hnew (fun h => by cases h) _ 3 hcc h3 rfl ?_ rfl ?_
   ·rw [List.length_append, List.length_map, List.length_replicate]; simp only; omega
   ·refine k _ _ _ (le_setn hle h2) (.inr ⟨b, rfl, by simpa using hcc, h2, ?_⟩)
    rw [Mem.set_same]
    have e : spliceL (L.map i ++ List.replicate (c - L.length) (i 0)) (0 + L.length * 1) [i z] = (L ++ [z]).map i ++ List.replicate (c - (L ++ [z]).length) (i 0) := by
     obtain ⟨q, hq⟩ : ∃ q, c - L.length = q + 1 := ⟨c - L.length - 1, by omega⟩
     rw [hq, Nat.zero_add, Nat.mul_one]
     show (L.map i ++ List.replicate (q + 1) (i 0)).set L.length (i z) = _
     rw [List.set_append_right _ _ (by simp), List.length_map, Nat.sub_self, List.replicate_succ, List.set_cons_zero, List.map_append, List.length_append, show c - (L.length + [z].length) = q by simp; omega]
     simp
    rw [e]
  ·refine WApp.grow _ hnew (fun h => by cases h) (by omega) (by omega) (L.map i) ⟨by simp, fun ad had => by cases had; exact CellsAt.blk h3 fun j v hj => by rw [Nat.zero_add, List.getElem?_append_left (List.getElem?_eq_some_iff.1 hj).1]; exact hj⟩ (fun h => by cases h) fun b2 c2 hb2 hc2 => ?_
   refine k _ _ _ (le_setn hle (hnone _ hb2)) (.inr ⟨b2, rfl, by simpa using hc2, hnone _ hb2, ?_⟩)
   rw [Mem.set_same, repl_flat]
   simp
end Go.Proofs.YtleofbpepfmfgaaGreatDoor
set_option linter.unusedSimpArgs false
set_option linter.unusedVariables false
set_option maxRecDepth 100000
namespace Go.Proofs.YtleofbpepfmfgaaGreatDoor
open Go Go.Vx
open Go.Vx.IOp Go.Vx.IR Go.Vx.Opd
structure Mac where
 u0 : Int
 u1 : Int
 u2 : Int
 u3 : Int
 l0 : Int
 l1 : Int
 l2 : Int
 l3 : Int
 rg : Int
 bk : Int
 pt : Int
def Mac.cells (M : Mac) : List Value := [i M.u0, i M.u1, i M.u2, i M.u3, i M.l0, i M.l1, i M.l2, i M.l3, i M.rg, i M.bk, i M.pt]
def Mac.val (M : Mac) : Value := .agg ⟨M.cells⟩
def Mac.unit (M : Mac) : Nat → Int | 0 => M.u0 | 1 => M.u1 | 2 => M.u2 | _ => M.u3
def Mac.lat (M : Mac) : Nat → Int | 0 => M.l0 | 1 => M.l1 | 2 => M.l2 | _ => M.l3
def inR (x lo hi : Int) : Bool := decide (x ≥ lo) && decide (x ≤ hi)
def Mac.row (M : Mac) (j : Nat) : Bool := inR (M.unit j) 1 8 && inR (M.lat j) 1 8
def Mac.ok (M : Mac) : Bool := (M.row 0 && M.row 1 && M.row 2 && M.row 3) && (inR M.rg 1 4096 && inR M.bk 1 8 && inR M.pt 4 32)
theorem Mac.unit_get (M : Mac) {k : Nat} (h : k < 4) : M.cells[0 + ((k : Int)).toNat]? = some (i (M.unit k)) := by
 have : k = 0 ∨ k = 1 ∨ k = 2 ∨ k = 3 := by omega
 rcases this with rfl | rfl | rfl | rfl <;> rfl
theorem Mac.lat_get (M : Mac) {k : Nat} (h : k < 4) : M.cells[4 + ((k : Int)).toNat]? = some (i (M.lat k)) := by
 have : k = 0 ∨ k = 1 ∨ k = 2 ∨ k = 3 := by omega
 rcases this with rfl | rfl | rfl | rfl <;> rfl
theorem in_ok (m : Mem) (x lo hi : Int) : PureM Tryz.prog 103 [i x, i lo, i hi] m (.bool (inR x lo hi)) := by
 refine calls_of mixed Tryz.func103 ok_machine_in rfl ?_
 conv => whnf
 refine WSc.mk (fun _ => And.intro (Mem.le.refl _) rfl) ?_
 conv => whnf
 exact WRet.same ⟨rfl, rfl⟩
theorem check_ok (m : Mem) (M : Mac) : PureM Tryz.prog 69 [M.val] m (i (if M.ok = true then 0 else 2)) := by
 refine calls_of mixed Tryz.func69 ok_machine_Check rfl ?_
 conv => whnf
 refine WLoop.mk Nat (fun k => [(4, .val (i k))]) (fun k m' => m = m' ∧ k ≤ 4 ∧ ∀ j, j < k → M.row j = true) (fun k => 4 - k) 0 ⟨rfl, trivial⟩ ⟨rfl, Nat.zero_le _, fun j hj => by omega⟩ ?_
 rintro k m' ⟨rfl, hk, hq⟩
 conv => whnf
 refine Br.mk (fun hb => ?_) (fun hb => ?_)
 ·have hk4 : k < 4 := by
   have : (k : Int) < 4 := of_decide_eq_true hb
   omega
  have fin : ∀ (hrow : M.row k = true), ∀ j, j < k + 1 → M.row j = true := fun hrow j hj => by
   by_cases e : j = k
   ·subst e; exact hrow
   ·exact hq j (by omega)
  have hno : M.row k = false → M.ok = false := fun h => by
   unfold Mac.ok
   have : k = 0 ∨ k = 1 ∨ k = 2 ∨ k = 3 := by omega
   rcases this with rfl | rfl | rfl | rfl <;> rw [h] <;> simp
  have hz : ((k : Int)).toNat = k := by omega
  conv => whnf
  refine WBnd.mk ⟨by omega, by omega⟩ ?_
  conv => whnf
  refine WGet.mk (i (M.unit k)) (M.unit_get hk4) ?_
  conv => whnf
  refine WCall.pure (in_ok _ _ _ _) ?_
  conv => whnf
  refine WSc.mk (v := !(inR (M.lat k) 1 8)) (fun _ => ?_) ?_
  ·conv => whnf
   refine WBnd.mk ⟨by omega, by omega⟩ ?_
   conv => whnf
   refine WGet.mk (i (M.lat k)) (M.lat_get hk4) ?_
   conv => whnf
   refine WCall.pure (in_ok _ _ _ _) ?_
   exact And.intro (Mem.le.refl _) rfl
  conv => whnf
  refine Br.mk (fun hb2 => ?_) (fun hb2 => ?_)
  ·conv => whnf
   refine WRet.same ⟨?_, rfl⟩
   have h2 : M.row k = false := by
    unfold Mac.row
    cases h1 : inR (M.unit k) 1 8 <;> cases h2 : inR (M.lat k) 1 8 <;> simp_all [scB]
   rw [hno h2]; rfl
  ·have h2 : M.row k = true := by
    unfold Mac.row
    cases h1 : inR (M.unit k) 1 8 <;> cases h2 : inR (M.lat k) 1 8 <;> simp_all [scB]
   conv => whnf
   refine WRng.mk (by apply wrap_i64 <;> omega) ?_
   conv => whnf
   exact ⟨k + 1, ⟨rfl, trivial⟩, ⟨rfl, hk4, fin h2⟩, by omega⟩
 ·have hk4 : k = 4 := by
   have : ¬ (k : Int) < 4 := of_decide_eq_false hb
   omega
  subst hk4
  have h0 : (M.row 0 && M.row 1 && M.row 2 && M.row 3) = true := by rw [hq 0 (by omega), hq 1 (by omega), hq 2 (by omega), hq 3 (by omega)]; rfl
  have hok : M.ok = (inR M.rg 1 4096 && inR M.bk 1 8 && inR M.pt 4 32) := by unfold Mac.ok; rw [h0, Bool.true_and]
  conv => whnf
  refine WCall.pure (in_ok _ _ _ _) ?_
  conv => whnf
  refine WSc.mk (v := !(inR M.bk 1 8)) (fun _ => ?_) ?_
  ·conv => whnf
   refine WCall.pure (in_ok _ _ _ _) ?_
   exact And.intro (Mem.le.refl _) rfl
  conv => whnf
  refine WSc.mk (v := !(inR M.pt 4 32)) (fun _ => ?_) ?_
  ·conv => whnf
   refine WCall.pure (in_ok _ _ _ _) ?_
   exact And.intro (Mem.le.refl _) rfl
  conv => whnf
  refine Br.mk (fun hb2 => ?_) (fun hb2 => ?_)
  ·conv => whnf
   refine WRet.same ⟨?_, rfl⟩
   have : M.ok = false := by
    rw [hok]
    cases h1 : inR M.rg 1 4096 <;> cases h2 : inR M.bk 1 8 <;> cases h3 : inR M.pt 4 32 <;> simp_all [scB]
   rw [this]; rfl
  ·conv => whnf
   refine WRet.same ⟨?_, rfl⟩
   have : M.ok = true := by
    rw [hok]
    cases h1 : inR M.rg 1 4096 <;> cases h2 : inR M.bk 1 8 <;> cases h3 : inR M.pt 4 32 <;> simp_all [scB]
   rw [this]; rfl
theorem refCheck_ok (m : Mem) (M : Mac) : PureM Tryz.prog 28 [M.val] m (i (if M.ok = true then 0 else 2)) := by
 refine calls_of mixed Tryz.func28 ok_biremeref19_Check rfl ?_
 conv => whnf
 refine WLoop.mk Nat (fun k => [(3, .val (i k))]) (fun k m' => m = m' ∧ k ≤ 4 ∧ ∀ j, j < k → M.row j = true) (fun k => 4 - k) 0 ⟨rfl, trivial⟩ ⟨rfl, Nat.zero_le _, fun j hj => by omega⟩ ?_
 rintro k m' ⟨rfl, hk, hq⟩
 conv => whnf
 refine Br.mk (fun hb => ?_) (fun hb => ?_)
 ·have hk4 : k < 4 := by
   have : (k : Int) < 4 := of_decide_eq_true hb
   omega
  have fin : ∀ (hrow : M.row k = true), ∀ j, j < k + 1 → M.row j = true := fun hrow j hj => by
   by_cases e : j = k
   ·subst e; exact hrow
   ·exact hq j (by omega)
  have hno : M.row k = false → M.ok = false := fun h => by
   unfold Mac.ok
   have : k = 0 ∨ k = 1 ∨ k = 2 ∨ k = 3 := by omega
   rcases this with rfl | rfl | rfl | rfl <;> rw [h] <;> simp
  have hrow : (scB (scB (scB (decide (M.unit k < 1)) false (decide (M.unit k > 8))) false (decide (M.lat k < 1))) false (decide (M.lat k > 8))) = !(M.row k) := by
   have e1 : (scB (scB (scB (decide (M.unit k < 1)) false (decide (M.unit k > 8))) false (decide (M.lat k < 1))) false (decide (M.lat k > 8))) = (((decide (M.unit k < 1) || decide (M.unit k > 8)) || decide (M.lat k < 1)) || decide (M.lat k > 8)) := by
    cases decide (M.unit k < 1) <;> cases decide (M.unit k > 8) <;> cases decide (M.lat k < 1) <;> cases decide (M.lat k > 8) <;> rfl
   rw [e1]
   unfold Mac.row inR
   rw [Bool.eq_iff_iff]
   simp only [Bool.or_eq_true, Bool.not_eq_true', Bool.and_eq_false_iff, decide_eq_true_eq, decide_eq_false_iff_not]
   omega
  conv => whnf
  refine WBnd.mk ⟨by omega, by omega⟩ ?_
  conv => whnf
  refine WGet.mk (i (M.unit k)) (M.unit_get hk4) ?_
  conv => whnf
  refine WSc.mk (v := decide (M.unit k > 8)) (fun _ => ?_) ?_
  ·conv => whnf
   refine WBnd.mk ⟨by omega, by omega⟩ ?_
   conv => whnf
   refine WGet.mk (i (M.unit k)) (M.unit_get hk4) ?_
   exact And.intro (Mem.le.refl _) rfl
  conv => whnf
  refine WSc.mk (v := decide (M.lat k < 1)) (fun _ => ?_) ?_
  ·conv => whnf
   refine WBnd.mk ⟨by omega, by omega⟩ ?_
   conv => whnf
   refine WGet.mk (i (M.lat k)) (M.lat_get hk4) ?_
   exact And.intro (Mem.le.refl _) rfl
  conv => whnf
  refine WSc.mk (v := decide (M.lat k > 8)) (fun _ => ?_) ?_
  ·conv => whnf
   refine WBnd.mk ⟨by omega, by omega⟩ ?_
   conv => whnf
   refine WGet.mk (i (M.lat k)) (M.lat_get hk4) ?_
   exact And.intro (Mem.le.refl _) rfl
  conv => whnf
  refine Br.mk (fun hb2 => ?_) (fun hb2 => ?_)
  ·rw [hrow] at hb2
   conv => whnf
   refine WRet.same ⟨?_, rfl⟩
   rw [hno (by simpa using hb2)]; rfl
  ·rw [hrow] at hb2
   conv => whnf
   refine WRng.mk (by apply wrap_i64 <;> omega) ?_
   conv => whnf
   exact ⟨k + 1, ⟨rfl, trivial⟩, ⟨rfl, hk4, fin (by simpa using hb2)⟩, by omega⟩
 ·have hk4 : k = 4 := by
   have : ¬ (k : Int) < 4 := of_decide_eq_false hb
   omega
  subst hk4
  have h0 : (M.row 0 && M.row 1 && M.row 2 && M.row 3) = true := by rw [hq 0 (by omega), hq 1 (by omega), hq 2 (by omega), hq 3 (by omega)]; rfl
  have hok : M.ok = (inR M.rg 1 4096 && inR M.bk 1 8 && inR M.pt 4 32) := by unfold Mac.ok; rw [h0, Bool.true_and]
  conv => whnf
  refine WSc.mk (fun _ => And.intro (Mem.le.refl _) rfl) ?_
  conv => whnf
  refine WSc.mk (fun _ => And.intro (Mem.le.refl _) rfl) ?_
  conv => whnf
  refine WSc.mk (fun _ => And.intro (Mem.le.refl _) rfl) ?_
  conv => whnf
  refine WSc.mk (fun _ => And.intro (Mem.le.refl _) rfl) ?_
  conv => whnf
  refine WSc.mk (fun _ => And.intro (Mem.le.refl _) rfl) ?_
  have hcond : scB (scB (scB (scB (scB (decide (M.rg < 1)) false (decide (M.rg > 4096))) false (decide (M.bk < 1))) false (decide (M.bk > 8))) false (decide (M.pt < 4))) false (decide (M.pt > 32)) = !M.ok := by
   have e1 : scB (scB (scB (scB (scB (decide (M.rg < 1)) false (decide (M.rg > 4096))) false (decide (M.bk < 1))) false (decide (M.bk > 8))) false (decide (M.pt < 4))) false (decide (M.pt > 32)) = (((((decide (M.rg < 1) || decide (M.rg > 4096)) || decide (M.bk < 1)) || decide (M.bk > 8)) || decide (M.pt < 4)) || decide (M.pt > 32)) := by
    cases decide (M.rg < 1) <;> cases decide (M.rg > 4096) <;> cases decide (M.bk < 1) <;> cases decide (M.bk > 8) <;> cases decide (M.pt < 4) <;> cases decide (M.pt > 32) <;> rfl
   rw [e1, hok]
   unfold inR
   rw [Bool.eq_iff_iff]
   simp only [Bool.or_eq_true, Bool.not_eq_true', Bool.and_eq_false_iff, decide_eq_true_eq, decide_eq_false_iff_not]
   omega
  conv => whnf
  refine Br.mk (fun hb2 => ?_) (fun hb2 => ?_)
  ·rw [hcond] at hb2
   conv => whnf
   refine WRet.same ⟨?_, rfl⟩
   rw [if_neg (by simpa using hb2)]; rfl
  ·rw [hcond] at hb2
   conv => whnf
   refine WRet.same ⟨?_, rfl⟩
   rw [if_pos (by simpa using hb2)]; rfl
def classS (k : Int) : Int × Bool :=
 if 1 ≤ k ∧ k ≤ 12 then (0, true) else if (13 ≤ k ∧ k ≤ 15) ∨ k = 23 ∨ k = 24 then (1, true) else
 if (16 ≤ k ∧ k ≤ 19) ∨ k = 25 then (2, true) else if (20 ≤ k ∧ k ≤ 22) ∨ (26 ≤ k ∧ k ≤ 28) then (3, true) else (0, false)
def pairV (r : Int × Bool) : Value := .tuple ⟨[i r.1, .bool r.2]⟩
def useT (k : Int) : Int := match cells0[3 * (k - 1).toNat]? with | some (.int _ z) => z | _ => 0
def clsT (k : Int) : Int := match cells0[3 * (k - 1).toNat + 1]? with | some (.int _ z) => z | _ => 0
def nmT (k : Int) : ByteArray := match cells0[3 * (k - 1).toNat + 2]? with | some (.string s) => s | _ => ⟨#[]⟩
def formC (k : Int) : List Value := [i (useT k), i (clsT k), .string (nmT k)]
def noForm : List Value := [i 0, i 0, es]
theorem addo (b o z : Nat) : (⟨b, o, none⟩ : Addr).add z = ⟨b, o + z, none⟩ := by unfold Addr.add; split <;> simp_all
theorem kinds {k : Int} (h1 : 1 ≤ k) (h2 : k ≤ 25) : k = 1 ∨ k = 2 ∨ k = 3 ∨ k = 4 ∨ k = 5 ∨ k = 6 ∨ k = 7 ∨ k = 8 ∨ k = 9 ∨ k = 10 ∨ k = 11 ∨ k = 12 ∨ k = 13 ∨ k = 14 ∨ k = 15 ∨ k = 16 ∨ k = 17 ∨ k = 18 ∨ k = 19 ∨ k = 20 ∨ k = 21 ∨ k = 22 ∨ k = 23 ∨ k = 24 ∨ k = 25 := by omega
theorem of_ok {m : Mem} {T : Nat} {fr : Nat × Nat} (hm : m 0 = some (.cells ⟨cells0⟩ T fr)) (k : Int) :
  PureM Tryz.prog 139 [i k] m (.tuple ⟨[.agg ⟨if 1 ≤ k ∧ k ≤ 25 then formC k else noForm⟩, .bool (decide (1 ≤ k ∧ k ≤ 25))]⟩) := by
 refine calls_of mixed Tryz.func139 ok_code_of rfl ?_
 conv => whnf
 refine WSc.mk (fun _ => And.intro (Mem.le.refl _) rfl) ?_
 conv => whnf
 refine Br.mk (fun hb => ?_) (fun hb => ?_)
 ·have hk : ¬ (1 ≤ k ∧ k ≤ 25) := by
   simp only [scB, Bool.or_eq_true, decide_eq_true_eq] at hb; omega
  conv => whnf
  refine WRet.same ⟨?_, rfl⟩
  rw [if_neg hk, decide_eq_false hk]; rfl
 ·have hk : 1 ≤ k ∧ k ≤ 25 := by
   simp only [scB, Bool.or_eq_false_iff, decide_eq_false_iff_not] at hb; omega
  rw [if_pos hk, decide_eq_true hk]
  conv => whnf
  refine WRng.mk (by apply wrap_i64 <;> omega) ?_
  conv => whnf
  refine WBnd.mk ⟨by omega, by omega⟩ ?_
  conv => whnf
  refine WLds.mk (formC k) ?_ ?_ ?_
  ·intro j v hj
   rw [add0, addo]
   have key : cells0[(k - 1).toNat * 3 + j]? = some v → CellAt m ⟨0, (k - 1).toNat * 3 + j, none⟩ v := fun h => ⟨_, _, _, hm, rfl, by simpa using h⟩
   refine key ?_
   have hj3 : j < 3 := (List.getElem?_eq_some_iff.1 hj).1
   rw [← hj]
   have : j = 0 ∨ j = 1 ∨ j = 2 := by omega
   rcases this with rfl | rfl | rfl <;> rcases kinds hk.1 hk.2 with rfl|rfl|rfl|rfl|rfl|rfl|rfl|rfl|rfl|rfl|rfl|rfl|rfl|rfl|rfl|rfl|rfl|rfl|rfl|rfl|rfl|rfl|rfl|rfl|rfl <;> rfl
  ·rfl
  conv => whnf
  exact WRet.same ⟨rfl, rfl⟩
theorem classS_form {k : Int} (h1 : 1 ≤ k) (h2 : k ≤ 25) : classS k = (clsT k, true) := by
 rcases kinds h1 h2 with rfl|rfl|rfl|rfl|rfl|rfl|rfl|rfl|rfl|rfl|rfl|rfl|rfl|rfl|rfl|rfl|rfl|rfl|rfl|rfl|rfl|rfl|rfl|rfl|rfl <;> rfl
theorem codeClass_ok {m : Mem} {T : Nat} {fr : Nat × Nat} (hm : m 0 = some (.cells ⟨cells0⟩ T fr)) (k : Int) :
  PureM Tryz.prog 137 [i k] m (.tuple ⟨[i (if 1 ≤ k ∧ k ≤ 25 then clsT k else 0), i (if 1 ≤ k ∧ k ≤ 25 then 0 else 4)]⟩) := by
 refine calls_of mixed Tryz.func137 ok_code_Class rfl ?_
 conv => whnf
 refine WCall.pure (of_ok hm k) ?_
 by_cases hk : 1 ≤ k ∧ k ≤ 25
 ·rw [if_pos hk, decide_eq_true hk, if_pos hk, if_pos hk]
  conv => whnf
  refine Br.mk (fun h => by cases h) (fun _ => ?_)
  conv => whnf
  exact WRet.same ⟨rfl, rfl⟩
 ·rw [if_neg hk, decide_eq_false hk, if_neg hk, if_neg hk]
  conv => whnf
  refine Br.mk (fun _ => ?_) (fun h => by cases h)
  conv => whnf
  exact WRet.same ⟨rfl, rfl⟩
theorem class_ok {m : Mem} {T : Nat} {fr : Nat × Nat} (hm : m 0 = some (.cells ⟨cells0⟩ T fr)) (k : Int) :
  PureM Tryz.prog 104 [i k] m (pairV (classS k)) := by
 refine calls_of mixed Tryz.func104 ok_machine_Class rfl ?_
 have hout : ∀ z : Int, z = 26 ∨ z = 27 ∨ z = 28 → classS z = (3, true) := fun z hz => by
  rcases hz with rfl | rfl | rfl <;> rfl
 conv => whnf
 refine Br.mk (fun h => ?_) (fun n1 => ?_)
 ·have h : k = 26 := by simpa using h
  rw [hout k (.inl h)]
  conv => whnf
  refine Br.mk (fun _ => ?_) (fun h2 => by cases h2)
  conv => whnf
  exact WRet.same ⟨rfl, rfl⟩
 conv => whnf
 refine Br.mk (fun h => ?_) (fun n2 => ?_)
 ·have h : k = 27 := by simpa using h
  rw [hout k (.inr (.inl h))]
  conv => whnf
  refine Br.mk (fun _ => ?_) (fun h2 => by cases h2)
  conv => whnf
  exact WRet.same ⟨rfl, rfl⟩
 conv => whnf
 refine Br.mk (fun h => ?_) (fun n3 => ?_)
 ·have h : k = 28 := by simpa using h
  rw [hout k (.inr (.inr h))]
  conv => whnf
  exact WRet.same ⟨rfl, rfl⟩
 have n1 : k ≠ 26 := by simpa using n1
 have n2 : k ≠ 27 := by simpa using n2
 have n3 : k ≠ 28 := by simpa using n3
 conv => whnf
 refine WCall.pure (codeClass_ok hm k) ?_
 by_cases hk : 1 ≤ k ∧ k ≤ 25
 ·rw [if_pos hk, if_pos hk]
  conv => whnf
  refine WRet.same ⟨?_, rfl⟩
  rw [classS_form hk.1 hk.2]; rfl
 ·rw [if_neg hk, if_neg hk]
  conv => whnf
  refine WRet.same ⟨?_, rfl⟩
  have : classS k = (0, false) := by
   unfold classS
   rw [if_neg (by omega), if_neg (by omega), if_neg (by omega), if_neg (by omega)]
  rw [this]; rfl
theorem refClass_ok (m : Mem) (k : Int) : PureM Tryz.prog 115 [i k] m (pairV (classS k)) := by
 refine calls_of mixed Tryz.func115 ok_biremeref19_Class rfl ?_
 unfold classS
 conv => whnf
 refine WSc.mk (fun _ => And.intro (Mem.le.refl _) rfl) ?_
 conv => whnf
 refine Br.mk (fun hb => ?_) (fun hb => ?_)
 ·have h : 1 ≤ k ∧ k ≤ 12 := by simp only [scB] at hb; simp at hb; omega
  rw [if_pos h]
  conv => whnf
  exact WRet.same ⟨rfl, rfl⟩
 have h : ¬ (1 ≤ k ∧ k ≤ 12) := by simp only [scB] at hb; simp at hb; omega
 rw [if_neg h]
 clear hb
 conv => whnf
 refine WSc.mk (fun _ => And.intro (Mem.le.refl _) rfl) ?_
 conv => whnf
 refine Br.mk (fun hb => ?_) (fun hb => ?_)
 ·have h2 : (13 ≤ k ∧ k ≤ 15) ∨ k = 23 ∨ k = 24 := by simp only [scB] at hb; simp at hb; omega
  rw [if_pos h2]
  conv => whnf
  refine Br.mk (fun _ => ?_) (fun h2 => by cases h2)
  conv => whnf
  exact WRet.same ⟨rfl, rfl⟩
 conv => whnf
 refine Br.mk (fun hb2 => ?_) (fun hb2 => ?_)
 ·have h2 : (13 ≤ k ∧ k ≤ 15) ∨ k = 23 ∨ k = 24 := by simp at hb2; omega
  rw [if_pos h2]
  conv => whnf
  refine Br.mk (fun _ => ?_) (fun h2 => by cases h2)
  conv => whnf
  exact WRet.same ⟨rfl, rfl⟩
 conv => whnf
 refine Br.mk (fun hb3 => ?_) (fun hb3 => ?_)
 ·have h2 : (13 ≤ k ∧ k ≤ 15) ∨ k = 23 ∨ k = 24 := by simp at hb3; omega
  rw [if_pos h2]
  conv => whnf
  exact WRet.same ⟨rfl, rfl⟩
 have h2 : ¬ ((13 ≤ k ∧ k ≤ 15) ∨ k = 23 ∨ k = 24) := by simp only [scB] at hb; simp at hb hb2 hb3; omega
 rw [if_neg h2]
 clear hb hb2 hb3
 conv => whnf
 refine WSc.mk (fun _ => And.intro (Mem.le.refl _) rfl) ?_
 conv => whnf
 refine Br.mk (fun hb => ?_) (fun hb => ?_)
 ·have h3 : (16 ≤ k ∧ k ≤ 19) ∨ k = 25 := by simp only [scB] at hb; simp at hb; omega
  rw [if_pos h3]
  conv => whnf
  refine Br.mk (fun _ => ?_) (fun h2 => by cases h2)
  conv => whnf
  exact WRet.same ⟨rfl, rfl⟩
 conv => whnf
 refine Br.mk (fun hb2 => ?_) (fun hb2 => ?_)
 ·have h3 : (16 ≤ k ∧ k ≤ 19) ∨ k = 25 := by simp at hb2; omega
  rw [if_pos h3]
  conv => whnf
  exact WRet.same ⟨rfl, rfl⟩
 have h3 : ¬ ((16 ≤ k ∧ k ≤ 19) ∨ k = 25) := by simp only [scB] at hb; simp at hb hb2; omega
 rw [if_neg h3]
 clear hb hb2
 conv => whnf
 refine WSc.mk (fun _ => And.intro (Mem.le.refl _) rfl) ?_
 conv => whnf
 refine Br.mk (fun hb => ?_) (fun hb => ?_)
 ·have h4 : (20 ≤ k ∧ k ≤ 22) ∨ (26 ≤ k ∧ k ≤ 28) := by simp only [scB] at hb; simp at hb; omega
  rw [if_pos h4]
  conv => whnf
  refine Br.mk (fun _ => ?_) (fun h2 => by cases h2)
  conv => whnf
  exact WRet.same ⟨rfl, rfl⟩
 conv => whnf
 refine WSc.mk (fun _ => And.intro (Mem.le.refl _) rfl) ?_
 conv => whnf
 refine Br.mk (fun hb2 => ?_) (fun hb2 => ?_)
 ·have h4 : (20 ≤ k ∧ k ≤ 22) ∨ (26 ≤ k ∧ k ≤ 28) := by simp only [scB] at hb2; simp at hb2; omega
  rw [if_pos h4]
  conv => whnf
  exact WRet.same ⟨rfl, rfl⟩
 have h4 : ¬ ((20 ≤ k ∧ k ≤ 22) ∨ (26 ≤ k ∧ k ≤ 28)) := by simp only [scB] at hb hb2; simp at hb hb2; omega
 rw [if_neg h4]
 conv => whnf
 exact WRet.same ⟨rfl, rfl⟩
end Go.Proofs.YtleofbpepfmfgaaGreatDoor
