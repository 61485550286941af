/- A slice of bytes among the arguments: what its cells hold. -/
import Derived.Test.YtmnagbhllnlelaaGreatDoorVxOpenE
set_option linter.unusedSimpArgs false
set_option linter.unusedVariables false
set_option maxRecDepth 100000
namespace Go.Proofs.YtmnagbhllnlelaaGreatDoor
open Go Go.Vx
/-- A slice of bytes that holds a list. -/
def BAt (m : Mem) (v : Value) (B : List Int) : Prop := ∃ a c, v = .slice a B.length c ∧ (a = none → B = []) ∧ (∀ ad, a = some ad → CellsAt m ad (B.map (Value.int .u8))) ∧ B.length ≤ c ∧ ∀ x ∈ B, 0 ≤ x ∧ x ≤ 255
variable {H : Type} {enc : TypeId × Value → H} {w : World} {base : Nat} {spare : Nat → Bool} {held : Bool} {fuel : Nat} {cs : List Value} {x : DataW H × List MemPlace}
theorem open_bs (h : DataW.trod enc Tryz.prog w base spare held fuel 64 cs = some x) :
    cs = [.slice none 0 0] ∨ ∃ (a : Addr) (len cap : Nat) (C : List Int), cs = [.slice (some a) len cap] ∧ len ≤ cap ∧ cap ≤ maxLen ∧ C.length = len ∧ CellsAt (memOf w) a (C.map (Value.int .u8)) ∧ ∀ x ∈ C, 0 ≤ x ∧ x ≤ 255 := by
  rcases ChangeShapes.open_ints Tryz.underlying64 Tryz.underlying5 (by kernel_rfl) h with ⟨h0, _⟩ | ⟨a, len, cap, zs, rfl, _, hl, hm, hz, _, hcell, hw⟩
  · exact .inl h0
  right
  refine ⟨a, len, cap, zs.take len, rfl, hl, hm, ?_, fun q v hq => ?_, fun x hx => ?_⟩
  · rw [List.length_take, hz]; split <;> omega
  · have hql := (List.getElem?_eq_some_iff.1 hq).1
    simp only [List.length_map, List.length_take] at hql
    have hql2 : q < zs.length := by omega
    rw [List.getElem?_map, List.getElem?_take, if_pos (by omega), List.getElem?_eq_getElem hql2] at hq
    simp only [Option.map_some, Option.some.injEq] at hq
    have := hcell q hql2
    rw [List.getD_eq_getElem?_getD, List.getElem?_eq_getElem hql2] at this
    rw [← hq]; exact cellAt_of (by simpa using this)
  · have := hw x (List.mem_of_mem_take hx)
    simp [Lit.wf] at this
    rw [show IntKind.u8.min = 0 from rfl, show IntKind.u8.max = 255 from rfl] at this
    omega
theorem bat_of {v : Value} (h : v.cells.toList = [.slice none 0 0] ∨ ∃ (a : Addr) (len cap : Nat) (C : List Int), v.cells.toList = [.slice (some a) len cap] ∧ len ≤ cap ∧ cap ≤ maxLen ∧ C.length = len ∧ CellsAt (memOf w) a (C.map (Value.int .u8)) ∧ ∀ x ∈ C, 0 ≤ x ∧ x ≤ 255) {A : Option Addr} {n c : Nat} (hv : v = .slice A n c) : ∃ C, BAt (memOf w) v C ∧ C.length < 2 ^ 63 := by
  subst hv
  rcases h with h | ⟨a, len, cap, C, h, hl, hm, hE, hc, hr⟩
  · simp [Value.cells] at h
    obtain ⟨rfl, rfl, rfl⟩ := h
    exact ⟨[], ⟨none, 0, rfl, fun _ => rfl, (fun ad h => by cases h), Nat.le_refl _, fun x hx => by cases hx⟩, by decide⟩
  · simp [Value.cells] at h
    obtain ⟨rfl, rfl, rfl⟩ := h
    subst hE
    exact ⟨C, ⟨some a, _, rfl, (fun h => by cases h), (fun ad h => by cases h; exact hc), hl, hr⟩, by unfold maxLen at hm; omega⟩
end Go.Proofs.YtmnagbhllnlelaaGreatDoor
