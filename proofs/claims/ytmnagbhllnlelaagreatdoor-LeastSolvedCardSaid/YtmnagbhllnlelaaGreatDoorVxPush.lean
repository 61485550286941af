/- append of one int to a list of one's own. -/
import Derived.Test.YtmnagbhllnlelaaGreatDoorVxSolve
set_option linter.unusedSimpArgs false
set_option linter.unusedVariables false
set_option maxRecDepth 100000
namespace Go.Proofs.YtmnagbhllnlelaaGreatDoor
open Go Go.Vx
open Go.Vx.IOp Go.Vx.IR Go.Vx.Opd
/-- A list that is put together by append: nil, or in a block that is new. -/
def PushI (m0 m : Mem) (a : Option Addr) (c : Nat) (L : List Int) : Prop :=
  (a = none ∧ c = 0 ∧ L = []) ∨ ∃ b, a = some ⟨b, 0, none⟩ ∧ L.length ≤ c ∧ m0 b = none ∧ m b = some (Cells (L.map i ++ List.replicate (c - L.length) (i 0)) 3)
theorem PushI.iat {m0 m : Mem} {a : Option Addr} {c : Nat} {L : List Int} (h : PushI m0 m a c L) : IAt m (.slice a L.length c) L := by
  rcases h with ⟨rfl, rfl, rfl⟩ | ⟨b, rfl, h1, h2, h3⟩
  · exact ⟨none, 0, rfl, fun _ => rfl, (fun ad h => by cases h), Nat.le_refl _⟩
  · refine ⟨_, c, rfl, (fun h => by cases h), fun ad ha => ?_, h1⟩
    cases ha
    refine CellsAt.blk h3 fun q v hq => ?_
    rw [Nat.zero_add, List.getElem?_append_left (List.getElem?_eq_some_iff.1 hq).1]; exact hq
theorem PushI.mono {m0 m m' : Mem} {a : Option Addr} {c : Nat} {L : List Int} (h : PushI m0 m a c L) (hle : Mem.le m m') : PushI m0 m' a c L := by
  rcases h with h | ⟨b, h0, h1, h2, h3⟩
  · exact .inl h
  · exact .inr ⟨b, h0, h1, h2, hle _ _ h3⟩
theorem repl_flat (n : Nat) (v : Value) : (List.replicate n [v]).flatten = List.replicate n v := by
  induction n with
  | zero => rfl
  | succ n ih => rw [List.replicate_succ, List.flatten_cons, ih, List.replicate_succ]; rfl
theorem push_ok {m0 m : Mem} {a : Option Addr} {c n : Nat} {L : List Int} {z : Int} {bx : Nat} {K : Value → Mem → Prop} (hle : Mem.le m0 m) (hp : PushI m0 m a c L) (hx : m bx = some (Cells [i z] 3)) (hn : n = L.length) (hlen : L.length < 1099511627776)
    (k : ∀ a' c' m', Mem.le m0 m' → PushI m0 m' a' c' (L ++ [z]) → K (.slice a' (L.length + 1) c') m') : WApp m 3 1 8 [i 0] a n c (some ⟨bx, 0, none⟩) 1 K := by
  subst hn
  have hnew : FirstCells m (some ⟨bx, 0, none⟩) (1 * 1) [i z] := ⟨rfl, fun ad had => by cases had; exact CellsAt.blk hx fun j v hj => by rw [Nat.zero_add]; exact hj⟩
  have hnone : ∀ b2, m b2 = none → m0 b2 = none := fun b2 h => by
    cases hh : m0 b2 with
    | none => rfl
    | some o => rw [hle b2 o hh] at h; cases h
  rcases hp with ⟨rfl, rfl, rfl⟩ | ⟨b, rfl, h1, h2, h3⟩
  · refine WApp.grow _ hnew (fun h => by cases h) (by decide) (by decide) [] ⟨rfl, fun ad h => by cases h⟩ (fun _ => rfl) fun b2 c2 hb2 hc2 => ?_
    refine k _ _ _ (le_setn hle (hnone _ hb2)) (.inr ⟨b2, rfl, by simpa using hc2, hnone _ hb2, ?_⟩)
    rw [Mem.set_same, repl_flat]; rfl
  · by_cases hcc : L.length + 1 ≤ c
    · refine WApp.in (ad := ⟨b, 0, none⟩) _ hnew (fun h => by cases h) _ 3 hcc h3 rfl ?_ rfl ?_
      · rw [List.length_append, List.length_map, List.length_replicate]; simp only; omega
      · refine k _ _ _ (le_setn hle h2) (.inr ⟨b, rfl, by simpa using hcc, h2, ?_⟩)
        rw [Mem.set_same]
        have e : spliceL (L.map i ++ List.replicate (c - L.length) (i 0)) (0 + L.length * 1) [i z] = (L ++ [z]).map i ++ List.replicate (c - (L ++ [z]).length) (i 0) := by
          obtain ⟨q, hq⟩ : ∃ q, c - L.length = q + 1 := ⟨c - L.length - 1, by omega⟩
          rw [hq, Nat.zero_add, Nat.mul_one]
          show (L.map i ++ List.replicate (q + 1) (i 0)).set L.length (i z) = _
          rw [List.set_append_right _ _ (by simp), List.length_map, Nat.sub_self, List.replicate_succ, List.set_cons_zero, List.map_append, List.length_append, show c - (L.length + [z].length) = q by simp; omega]
          simp
        rw [e]
    · refine WApp.grow _ hnew (fun h => by cases h) (by omega) (by omega) (L.map i) ⟨by simp, fun ad had => by cases had; exact CellsAt.blk h3 fun j v hj => by rw [Nat.zero_add, List.getElem?_append_left (List.getElem?_eq_some_iff.1 hj).1]; exact hj⟩ (fun h => by cases h) fun b2 c2 hb2 hc2 => ?_
      refine k _ _ _ (le_setn hle (hnone _ hb2)) (.inr ⟨b2, rfl, by simpa using hc2, hnone _ hb2, ?_⟩)
      rw [Mem.set_same, repl_flat]
      simp
end Go.Proofs.YtmnagbhllnlelaaGreatDoor
