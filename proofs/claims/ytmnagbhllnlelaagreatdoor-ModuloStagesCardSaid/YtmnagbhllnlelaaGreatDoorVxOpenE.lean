/- Slices of edges and of ints among the arguments: what their cells hold. -/
import Derived.Test.YtmnagbhllnlelaaGreatDoorVxOrd
import Derived.ChangeSlices
import Derived.ChangeArms
set_option linter.unusedSimpArgs false
set_option linter.unusedVariables false
set_option maxRecDepth 100000
namespace Go.Proofs.YtmnagbhllnlelaaGreatDoor
open Go Go.Vx
def memOf (w : World) : Mem := fun b => w.heap[b]?
theorem memOf_sub (w : World) : Sub (memOf w) w := fun _ _ h => h
theorem cellAt_of {w : World} {a : Addr} {v : Value} (h : w.cell? a = some v) : CellAt (memOf w) a v := by
  unfold World.cell? at h
  split at h <;> try (cases h; done)
  rename_i c T fr hh
  split at h <;> try (cases h; done)
  rename_i hs
  exact ⟨c, T, fr, hh, by simpa using hs, h⟩
theorem choose_list {α : Type} {Q : Nat → α → Prop} : ∀ (n : Nat), (∀ k < n, ∃ e, Q k e) → ∃ E : List α, E.length = n ∧ ∀ k (h : k < E.length), Q k E[k]
  | 0, _ => ⟨[], rfl, fun k h => by simp at h⟩
  | n + 1, h => by
    obtain ⟨E, h1, h2⟩ := choose_list n fun k hk => h k (by omega)
    obtain ⟨e, he⟩ := h n (by omega)
    refine ⟨E ++ [e], by simp [h1], fun k hk => ?_⟩
    by_cases hkn : k < n
    · rw [List.getElem_append_left (by omega)]; exact h2 k (by omega)
    · have : k = n := by simp [h1] at hk; omega
      subst this
      rw [List.getElem_append_right (by omega)]; simpa [h1] using he
variable {H : Type} {enc : TypeId × Value → H} {w : World} {base : Nat} {spare : Nat → Bool} {held : Bool} {fuel : Nat} {cs : List Value} {x : DataW H × List MemPlace}
theorem trod_edge {n : Nat} {cs : List Value} {y : DataW H × List MemPlace} (h : DataW.trod enc Tryz.prog w base spare held n 43 cs = some y) : ∃ e : Edg, cs = e.cells ∧ e.r ≤ 9223372036854775807 := by
  obtain ⟨xs, m, rfl, _, hlen, hxs, hf⟩ := DataW.trod_struct Tryz.underlying43 h
  have h4 : cs.length = 4 := by rw [hlen]; kernel_rfl
  have c3 : Tryz.prog.cellsOf 3 = 1 := by kernel_rfl
  have one : ∀ j, j < 4 → ∃ z : Int, (cs.drop j).take 1 = [i z] ∧ z ≤ 9223372036854775807 := fun j hj => by
    have hx : ∃ y, xs[j]? = some y := ⟨_, List.getElem?_eq_getElem (by rw [hxs]; exact hj)⟩
    obtain ⟨y, hy⟩ := hx
    have key : DataW.trod enc Tryz.prog w base spare held m 3 ((cs.drop j).take 1) = some y := by
      have : j = 0 ∨ j = 1 ∨ j = 2 ∨ j = 3 := by omega
      rcases this with rfl | rfl | rfl | rfl
      · have t : DataW.trod enc Tryz.prog w base spare held m 3 ((cs.drop 0).take (Tryz.prog.cellsOf 3)) = xs[0]? := hf 0 _ rfl
        rw [hy, c3] at t; exact t
      · have t : DataW.trod enc Tryz.prog w base spare held m 3 ((cs.drop 1).take (Tryz.prog.cellsOf 3)) = xs[1]? := hf 1 _ rfl
        rw [hy, c3] at t; exact t
      · have t : DataW.trod enc Tryz.prog w base spare held m 3 ((cs.drop 2).take (Tryz.prog.cellsOf 3)) = xs[2]? := hf 2 _ rfl
        rw [hy, c3] at t; exact t
      · have t : DataW.trod enc Tryz.prog w base spare held m 3 ((cs.drop 3).take (Tryz.prog.cellsOf 3)) = xs[3]? := hf 3 _ rfl
        rw [hy, c3] at t; exact t
    obtain ⟨z, hz, _, hw⟩ := DataW.trod_int Tryz.underlying3 key
    refine ⟨z, hz, ?_⟩
    simp [Lit.wf] at hw
    omega
  obtain ⟨a, ha, _⟩ := one 0 (by omega)
  obtain ⟨b, hb, _⟩ := one 1 (by omega)
  obtain ⟨c, hc, _⟩ := one 2 (by omega)
  obtain ⟨d, hd, hdr⟩ := one 3 (by omega)
  match cs, h4 with
  | [p, q, r, s], _ =>
    simp at ha hb hc hd
    subst ha; subst hb; subst hc; subst hd
    exact ⟨⟨a, b, c, d⟩, rfl, hdr⟩
theorem open_edges (h : DataW.trod enc Tryz.prog w base spare held fuel 29 cs = some x) :
    cs = [.slice none 0 0] ∨ ∃ (a : Addr) (len cap : Nat) (E : List Edg), cs = [.slice (some a) len cap] ∧ len ≤ cap ∧ cap ≤ maxLen ∧ E.length = len ∧ CellsAt (memOf w) a (ecs E) ∧ ∀ e ∈ E, e.r ≤ 9223372036854775807 := by
  rcases DataW.trod_slice Tryz.underlying29 h with ⟨h0, _⟩ | ⟨a, len, cap, elems, rest, n, _, rfl, rfl, hb, hl, hm, hlen, hel, _, _⟩
  · exact .inl h0
  right
  have c4 : Tryz.prog.cellsOf 43 = 4 := by kernel_rfl
  obtain ⟨E, hE, hc⟩ := choose_list (Q := fun k (e : Edg) => (∀ j, j < 4 → w.cell? ((a.add (k * 4)).add j) = e.cells[j]?) ∧ e.r ≤ 9223372036854775807) len fun k hk => by
    have hk2 : ∃ y, elems[k]? = some y := ⟨_, List.getElem?_eq_getElem (by omega)⟩
    obtain ⟨y, hy⟩ := hk2
    have h1 := hel k hk
    rw [hy, c4, Option.bind_eq_some_iff] at h1
    obtain ⟨cs', h2, h3⟩ := h1
    obtain ⟨e, rfl, hr⟩ := trod_edge h3
    obtain ⟨_, _, h5⟩ := World.cells?_some h2
    exact ⟨e, h5, hr⟩
  refine ⟨a, len, cap, E, rfl, hl, hm, hE, fun q v hq => ?_, fun e he => ?_⟩
  rotate_left
  · obtain ⟨k, hk, rfl⟩ := List.getElem_of_mem he
    exact (hc k hk).2
  have hql := (List.getElem?_eq_some_iff.1 hq).1
  rw [ecs_len] at hql
  have hk : q / 4 < E.length := by omega
  have hj : q % 4 < 4 := by omega
  have e1 : q / 4 * 4 + q % 4 = q := by omega
  rw [← e1, ecs_get hk hj] at hq
  have := (hc (q / 4) hk).1 (q % 4) hj
  rw [hq, add_add, e1] at this
  exact cellAt_of this
theorem open_is (h : DataW.trod enc Tryz.prog w base spare held fuel 22 cs = some x) :
    cs = [.slice none 0 0] ∨ ∃ (a : Addr) (len cap : Nat) (C : List Int), cs = [.slice (some a) len cap] ∧ len ≤ cap ∧ cap ≤ maxLen ∧ C.length = len ∧ CellsAt (memOf w) a (C.map i) := by
  rcases ChangeShapes.open_ints Tryz.underlying22 Tryz.underlying3 (by kernel_rfl) h with ⟨h0, _⟩ | ⟨a, len, cap, zs, rfl, _, hl, hm, hz, _, hcell, _⟩
  · exact .inl h0
  right
  refine ⟨a, len, cap, zs.take len, rfl, hl, hm, ?_, fun q v hq => ?_⟩
  · rw [List.length_take, hz]; split <;> omega
  · have hql := (List.getElem?_eq_some_iff.1 hq).1
    simp only [List.length_map, List.length_take] at hql
    have hql2 : q < zs.length := by omega
    rw [List.getElem?_map, List.getElem?_take, if_pos (by omega), List.getElem?_eq_getElem hql2] at hq
    simp only [Option.map_some, Option.some.injEq] at hq
    have := hcell q hql2
    rw [List.getD_eq_getElem?_getD, List.getElem?_eq_getElem hql2] at this
    rw [← hq]; exact cellAt_of (by simpa using this)
theorem eat_of {v : Value} (h : v.cells.toList = [.slice none 0 0] ∨ ∃ (a : Addr) (len cap : Nat) (E : List Edg), v.cells.toList = [.slice (some a) len cap] ∧ len ≤ cap ∧ cap ≤ maxLen ∧ E.length = len ∧ CellsAt (memOf w) a (ecs E) ∧ ∀ e ∈ E, e.r ≤ 9223372036854775807) {A : Option Addr} {n c : Nat} (hv : v = .slice A n c) : ∃ E, EAt (memOf w) v E ∧ E.length < 2 ^ 63 ∧ ∀ e ∈ E, e.r ≤ 9223372036854775807 := by
  subst hv
  rcases h with h | ⟨a, len, cap, E, h, hl, hm, hE, hc, hr⟩
  · simp [Value.cells] at h
    obtain ⟨rfl, rfl, rfl⟩ := h
    exact ⟨[], ⟨none, 0, rfl, fun _ => rfl, (fun ad h => by cases h), Nat.le_refl _⟩, by decide, fun e he => by cases he⟩
  · simp [Value.cells] at h
    obtain ⟨rfl, rfl, rfl⟩ := h
    subst hE
    exact ⟨E, ⟨some a, _, rfl, (fun h => by cases h), (fun ad h => by cases h; exact hc), hl⟩, by unfold maxLen at hm; omega, hr⟩
theorem iat_of {v : Value} (h : v.cells.toList = [.slice none 0 0] ∨ ∃ (a : Addr) (len cap : Nat) (C : List Int), v.cells.toList = [.slice (some a) len cap] ∧ len ≤ cap ∧ cap ≤ maxLen ∧ C.length = len ∧ CellsAt (memOf w) a (C.map i)) {A : Option Addr} {n c : Nat} (hv : v = .slice A n c) : ∃ C, IAt (memOf w) v C ∧ C.length < 2 ^ 63 := by
  subst hv
  rcases h with h | ⟨a, len, cap, E, h, hl, hm, hE, hc⟩
  · simp [Value.cells] at h
    obtain ⟨rfl, rfl, rfl⟩ := h
    exact ⟨[], ⟨none, 0, rfl, fun _ => rfl, (fun ad h => by cases h), Nat.le_refl _⟩, by decide⟩
  · simp [Value.cells] at h
    obtain ⟨rfl, rfl, rfl⟩ := h
    subst hE
    exact ⟨E, ⟨some a, _, rfl, (fun h => by cases h), (fun ad h => by cases h; exact hc), hl⟩, by unfold maxLen at hm; omega⟩
end Go.Proofs.YtmnagbhllnlelaaGreatDoor
