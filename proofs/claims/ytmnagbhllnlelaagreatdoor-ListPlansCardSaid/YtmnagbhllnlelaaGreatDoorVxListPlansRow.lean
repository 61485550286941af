/- Slices of edges and of ints among the arguments: what their cells hold. -/
import Derived.Test.YtmnagbhllnlelaaGreatDoorVxOrd
import Derived.ChangeSlices
import Derived.ChangeArms
import Derived.Test.YtmnagbhllnlelaaGreatDoorVxTogether
import Derived.OpenShut
import Derived.WideShapes
import Derived.Test.YtmnagbhllnlelaaGreatDoorRows
import Derived.Test.YtmnagbhllnlelaaGreatDoorVxPlansLaw
set_option linter.unusedSimpArgs false
set_option linter.unusedVariables false
set_option maxRecDepth 100000
namespace Go.Proofs.YtmnagbhllnlelaaGreatDoor
open Go Go.Vx
def memOf (w : World) : Mem := fun b => w.heap[b]?
theorem memOf_sub (w : World) : Sub (memOf w) w := fun _ _ h => h
theorem cellAt_of {w : World} {a : Addr} {v : Value} (h : w.cell? a = some v) : CellAt (memOf w) a v := by
 unfold World.cell? at h
 split at h <;> try (cases h; done)
 rename_i c T fr hh
 split at h <;> try (cases h; done)
 rename_i hs
 exact ⟨c, T, fr, hh, by simpa using hs, h⟩
theorem choose_list {α : Type} {Q : Nat → α → Prop} : ∀ (n : Nat), (∀ k < n, ∃ e, Q k e) → ∃ E : List α, E.length = n ∧ ∀ k (h : k < E.length), Q k E[k]
 | 0, _ => ⟨[], rfl, fun k h => by simp at h⟩
 | n + 1, h => by
  obtain ⟨E, h1, h2⟩ := choose_list n fun k hk => h k (by omega)
  obtain ⟨e, he⟩ := h n (by omega)
  refine ⟨E ++ [e], by simp [h1], fun k hk => ?_⟩
  by_cases hkn : k < n
  ·rw [List.getElem_append_left (by omega)]; exact h2 k (by omega)
  ·have : k = n := by simp [h1] at hk; omega
   subst this
   rw [List.getElem_append_right (by omega)]; simpa [h1] using he
variable {H : Type} {enc : TypeId × Value → H} {w : World} {base : Nat} {spare : Nat → Bool} {held : Bool} {fuel : Nat} {cs : List Value} {x : DataW H × List MemPlace}
theorem trod_edge {n : Nat} {cs : List Value} {y : DataW H × List MemPlace} (h : DataW.trod enc Tryz.prog w base spare held n 43 cs = some y) : ∃ e : Edg, cs = e.cells ∧ e.r ≤ 9223372036854775807 := by
 obtain ⟨xs, m, rfl, _, hlen, hxs, hf⟩ := DataW.trod_struct Tryz.underlying43 h
 have h4 : cs.length = 4 := by rw [hlen]; kernel_rfl
 have c3 : Tryz.prog.cellsOf 3 = 1 := by kernel_rfl
 have one : ∀ j, j < 4 → ∃ z : Int, (cs.drop j).take 1 = [i z] ∧ z ≤ 9223372036854775807 := fun j hj => by
  have hx : ∃ y, xs[j]? = some y := ⟨_, List.getElem?_eq_getElem (by rw [hxs]; exact hj)⟩
  obtain ⟨y, hy⟩ := hx
  have key : DataW.trod enc Tryz.prog w base spare held m 3 ((cs.drop j).take 1) = some y := by
   have : j = 0 ∨ j = 1 ∨ j = 2 ∨ j = 3 := by omega
   rcases this with rfl | rfl | rfl | rfl
   ·have t : DataW.trod enc Tryz.prog w base spare held m 3 ((cs.drop 0).take (Tryz.prog.cellsOf 3)) = xs[0]? := hf 0 _ rfl
    rw [hy, c3] at t; exact t
   ·have t : DataW.trod enc Tryz.prog w base spare held m 3 ((cs.drop 1).take (Tryz.prog.cellsOf 3)) = xs[1]? := hf 1 _ rfl
    rw [hy, c3] at t; exact t
   ·have t : DataW.trod enc Tryz.prog w base spare held m 3 ((cs.drop 2).take (Tryz.prog.cellsOf 3)) = xs[2]? := hf 2 _ rfl
    rw [hy, c3] at t; exact t
   ·have t : DataW.trod enc Tryz.prog w base spare held m 3 ((cs.drop 3).take (Tryz.prog.cellsOf 3)) = xs[3]? := hf 3 _ rfl
    rw [hy, c3] at t; exact t
  obtain ⟨z, hz, _, hw⟩ := DataW.trod_int Tryz.underlying3 key
  refine ⟨z, hz, ?_⟩
  simp [Lit.wf] at hw
  omega
 obtain ⟨a, ha, _⟩ := one 0 (by omega)
 obtain ⟨b, hb, _⟩ := one 1 (by omega)
 obtain ⟨c, hc, _⟩ := one 2 (by omega)
 obtain ⟨d, hd, hdr⟩ := one 3 (by omega)
 match cs, h4 with
 | [p, q, r, s], _ =>
  simp at ha hb hc hd
  subst ha; subst hb; subst hc; subst hd
  exact ⟨⟨a, b, c, d⟩, rfl, hdr⟩
theorem open_edges (h : DataW.trod enc Tryz.prog w base spare held fuel 29 cs = some x) :
  cs = [.slice none 0 0] ∨ ∃ (a : Addr) (len cap : Nat) (E : List Edg), cs = [.slice (some a) len cap] ∧ len ≤ cap ∧ cap ≤ maxLen ∧ E.length = len ∧ CellsAt (memOf w) a (ecs E) ∧ ∀ e ∈ E, e.r ≤ 9223372036854775807 := by
 rcases DataW.trod_slice Tryz.underlying29 h with ⟨h0, _⟩ | ⟨a, len, cap, elems, rest, n, _, rfl, rfl, hb, hl, hm, hlen, hel, _, _⟩
 ·exact .inl h0
 right
 have c4 : Tryz.prog.cellsOf 43 = 4 := by kernel_rfl
 obtain ⟨E, hE, hc⟩ := choose_list (Q := fun k (e : Edg) => (∀ j, j < 4 → w.cell? ((a.add (k * 4)).add j) = e.cells[j]?) ∧ e.r ≤ 9223372036854775807) len fun k hk => by
  have hk2 : ∃ y, elems[k]? = some y := ⟨_, List.getElem?_eq_getElem (by omega)⟩
  obtain ⟨y, hy⟩ := hk2
  have h1 := hel k hk
  rw [hy, c4, Option.bind_eq_some_iff] at h1
  obtain ⟨cs', h2, h3⟩ := h1
  obtain ⟨e, rfl, hr⟩ := trod_edge h3
  obtain ⟨_, _, h5⟩ := World.cells?_some h2
  exact ⟨e, h5, hr⟩
 refine ⟨a, len, cap, E, rfl, hl, hm, hE, fun q v hq => ?_, fun e he => ?_⟩
 rotate_left
 ·obtain ⟨k, hk, rfl⟩ := List.getElem_of_mem he
  exact (hc k hk).2
 have hql := (List.getElem?_eq_some_iff.1 hq).1
 rw [ecs_len] at hql
 have hk : q / 4 < E.length := by omega
 have hj : q % 4 < 4 := by omega
 have e1 : q / 4 * 4 + q % 4 = q := by omega
 rw [← e1, ecs_get hk hj] at hq
 have := (hc (q / 4) hk).1 (q % 4) hj
 rw [hq, add_add, e1] at this
 exact cellAt_of this
theorem eat_of {v : Value} (h : v.cells.toList = [.slice none 0 0] ∨ ∃ (a : Addr) (len cap : Nat) (E : List Edg), v.cells.toList = [.slice (some a) len cap] ∧ len ≤ cap ∧ cap ≤ maxLen ∧ E.length = len ∧ CellsAt (memOf w) a (ecs E) ∧ ∀ e ∈ E, e.r ≤ 9223372036854775807) {A : Option Addr} {n c : Nat} (hv : v = .slice A n c) : ∃ E, EAt (memOf w) v E ∧ E.length < 2 ^ 63 ∧ ∀ e ∈ E, e.r ≤ 9223372036854775807 := by
 subst hv
 rcases h with h | ⟨a, len, cap, E, h, hl, hm, hE, hc, hr⟩
 ·simp [Value.cells] at h
  obtain ⟨rfl, rfl, rfl⟩ := h
  exact ⟨[], ⟨none, 0, rfl, fun _ => rfl, (fun ad h => by cases h), Nat.le_refl _⟩, by decide, fun e he => by cases he⟩
 ·simp [Value.cells] at h
  obtain ⟨rfl, rfl, rfl⟩ := h
  subst hE
  exact ⟨E, ⟨some a, _, rfl, (fun h => by cases h), (fun ad h => by cases h; exact hc), hl⟩, by unfold maxLen at hm; omega, hr⟩
end Go.Proofs.YtmnagbhllnlelaaGreatDoor
set_option linter.unusedSimpArgs false
set_option linter.unusedVariables false
set_option maxRecDepth 100000
namespace Go.Proofs.YtmnagbhllnlelaaGreatDoor
open Go Go.Vx
/-- All cells are numbers of 64 bits. -/
def AllI (cs : List Value) : Prop := ∀ v ∈ cs, ∃ z : Int, v = i z ∧ -9223372036854775808 ≤ z ∧ z ≤ 9223372036854775807
def okFs (P : Program) (ok : TypeId → Bool) (total : Nat) : Nat → List Field → Bool
 | o, [] => Nat.beq o total
 | o, f :: fs => Nat.beq f.offset o && ok f.type && okFs P ok total (o + P.cellsOf f.type) fs
def okInts (P : Program) : Nat → TypeId → Bool
 | 0, _ => false
 | n + 1, t => match P.underlying t with
  | some (.int k) => kbeq k .i64
  | some (.struct fs) => okFs P (okInts P n) (P.cellsOf t) 0 fs.toList
  | some (.array m e) => okInts P n e && Nat.beq (P.cellsOf t) (m * P.cellsOf e)
  | _ => false
theorem AllI.take_drop {cs : List Value} {k : Nat} (h1 : AllI (cs.take k)) (h2 : AllI (cs.drop k)) : AllI cs := fun v hv => by
 rw [← List.take_append_drop k cs] at hv
 rcases List.mem_append.1 hv with h | h
 ·exact h1 v h
 ·exact h2 v h
theorem allI_fields {P : Program} {ok : TypeId → Bool} {total : Nat} {cs : List Value} (hlen : cs.length = total) :
  ∀ (fs : List Field) (o : Nat), okFs P ok total o fs = true → (∀ f ∈ fs, ok f.type = true → AllI ((cs.drop f.offset).take (P.cellsOf f.type))) → AllI (cs.drop o) := by
 intro fs
 induction fs with
 | nil =>
  intro o h _
  simp only [okFs] at h
  have := beq_ff h
  rw [List.drop_eq_nil_iff.2 (by omega)]
  intro v hv; cases hv
 | cons f fs ih =>
  intro o h hf
  simp only [okFs, Bool.and_eq_true] at h
  obtain ⟨⟨h1, h2⟩, h3⟩ := h
  obtain rfl := beq_ff h1
  refine AllI.take_drop (hf f (by simp) h2) ?_
  rw [List.drop_drop]
  exact ih _ h3 fun g hg => hf g (by simp [hg])
theorem allI_array {k : Nat} {cs : List Value} : ∀ (n s : Nat), cs.length = (s + n) * k → (∀ j, s ≤ j → j < s + n → AllI ((cs.drop (j * k)).take k)) → AllI (cs.drop (s * k)) := by
 intro n
 induction n with
 | zero =>
  intro s hl _
  rw [List.drop_eq_nil_iff.2 (by simp at hl; omega)]
  intro v hv; cases hv
 | succ n ih =>
  intro s hl h
  refine AllI.take_drop (h s (Nat.le_refl _) (by omega)) ?_
  rw [List.drop_drop]
  have := ih (s + 1) (by rw [hl]; congr 1; omega) fun j h1 h2 => h j (by omega) (by omega)
  rw [Nat.add_mul, Nat.one_mul] at this
  exact this
variable {H : Type} {enc : TypeId × Value → H} {w : World} {base : Nat} {spare : Nat → Bool} {held : Bool}
theorem kbeq_i64 {k : IntKind} (h : kbeq k .i64 = true) : k = .i64 := by cases k <;> first | rfl | cases h
theorem trod_ints : ∀ (n : Nat) (t : TypeId) (F : Nat) (cs : List Value) (x : DataW H × List MemPlace), okInts Tryz.prog n t = true → DataW.trod enc Tryz.prog w base spare held F t cs = some x → AllI cs := by
 intro n
 induction n with
 | zero => intro t F cs x h; cases h
 | succ n ih =>
  intro t F cs x h hd
  unfold okInts at h
  split at h
  ·rename_i k hu
   obtain rfl := kbeq_i64 h
   obtain ⟨z, rfl, _, hw⟩ := DataW.trod_int hu hd
   intro v hv
   rw [List.mem_singleton] at hv
   refine ⟨z, hv, ?_⟩
   simp [Lit.wf] at hw
   first | exact hw | (rw [show IntKind.i64.min = -9223372036854775808 from rfl, show IntKind.i64.max = 9223372036854775807 from rfl] at hw; exact hw)
  ·rename_i fs hu
   obtain ⟨xs, m, rfl, _, hlen, hxs, hf⟩ := DataW.trod_struct hu hd
   have := allI_fields hlen fs.toList 0 h fun f hfm hok => by
    obtain ⟨j, hj, rfl⟩ := List.getElem_of_mem hfm
    have hj2 : j < fs.size := by simpa using hj
    have h1 := hf j fs[j] (by simp [hj2])
    have h2 : xs[j]? = some xs[j] := List.getElem?_eq_getElem (by omega)
    rw [h2] at h1
    exact ih _ _ _ _ (by simpa using hok) (by simpa using h1)
   simpa using this
  ·rename_i m e hu
   rw [Bool.and_eq_true] at h
   obtain ⟨xs, q, rfl, _, hlen, hxs, hf⟩ := DataW.trod_array hu hd
   have := allI_array (cs := cs) (k := Tryz.prog.cellsOf e) m 0 (by rw [hlen, beq_ff h.2]; congr 1; omega) fun j _ hj => by
    have h1 := hf j (by omega)
    have h2 : xs[j]? = some xs[j] := List.getElem?_eq_getElem (by omega)
    rw [h2] at h1
    exact ih _ _ _ _ h.1 h1
   simpa using this
  ·cases h
/-- A slice whose elements are known. -/
theorem open_list {α : Type} {T e k : Nat} {Q : List Value → α → Prop} {fuel : Nat} {cs : List Value} {x : DataW H × List MemPlace} (ht : Tryz.prog.underlying T = some (.slice e)) (hk : Tryz.prog.cellsOf e = k)
  (hel : ∀ n ds y, DataW.trod enc Tryz.prog w base spare held n e ds = some y → ds.length = k → ∃ a, Q ds a) (h : DataW.trod enc Tryz.prog w base spare held fuel T cs = some x) :
  cs = [.slice none 0 0] ∨ ∃ (a : Addr) (len cap : Nat) (L : List α), cs = [.slice (some a) len cap] ∧ len ≤ cap ∧ cap ≤ maxLen ∧ L.length = len ∧ ∀ j (hj : j < L.length), ∃ ds, ds.length = k ∧ Q ds L[j] ∧ CellsAt (memOf w) (a.add (j * k)) ds := by
 rcases DataW.trod_slice ht h with ⟨h0, _⟩ | ⟨a, len, cap, elems, rest, n, _, rfl, rfl, hb, hl, hm, hlen, hel2, _, _⟩
 ·exact .inl h0
 right
 obtain ⟨L, hL, hc⟩ := choose_list (Q := fun j (b : α) => ∃ ds, ds.length = k ∧ Q ds b ∧ CellsAt (memOf w) (a.add (j * k)) ds) len fun j hj => by
  have hj2 : elems[j]? = some elems[j] := List.getElem?_eq_getElem (by omega)
  have h1 := hel2 j hj
  rw [hj2, hk, Option.bind_eq_some_iff] at h1
  obtain ⟨ds, h2, h3⟩ := h1
  obtain ⟨_, hl2, h5⟩ := World.cells?_some h2
  obtain ⟨b, hb2⟩ := hel n ds _ h3 hl2
  refine ⟨b, ds, hl2, hb2, fun q v hq => ?_⟩
  have hql := (List.getElem?_eq_some_iff.1 hq).1
  have := h5 q (by omega)
  rw [hq] at this
  exact cellAt_of this
 exact ⟨a, len, cap, L, rfl, hl, hm, hL, hc⟩
theorem ints7 {cs : List Value} (h : AllI cs) (hl : cs.length = 7) : ∃ o : OpR, cs = o.cells := by
 match cs, hl with
 | [a, b, c, d, e, f, g], _ =>
  obtain ⟨a', rfl, _⟩ := h a (by simp)
  obtain ⟨b', rfl, _⟩ := h b (by simp)
  obtain ⟨c', rfl, _⟩ := h c (by simp)
  obtain ⟨d', rfl, _⟩ := h d (by simp)
  obtain ⟨e', rfl, _⟩ := h e (by simp)
  obtain ⟨f', rfl, _⟩ := h f (by simp)
  obtain ⟨g', rfl, _⟩ := h g (by simp)
  exact ⟨⟨a', b', c', d', e', f', g'⟩, rfl⟩
theorem ints11 {cs : List Value} (h : AllI cs) (hl : cs.length = 11) : ∃ M : Mac, cs = M.cells := by
 match cs, hl with
 | [a, b, c, d, e, f, g, p, q, r, s], _ =>
  obtain ⟨a', rfl, _⟩ := h a (by simp)
  obtain ⟨b', rfl, _⟩ := h b (by simp)
  obtain ⟨c', rfl, _⟩ := h c (by simp)
  obtain ⟨d', rfl, _⟩ := h d (by simp)
  obtain ⟨e', rfl, _⟩ := h e (by simp)
  obtain ⟨f', rfl, _⟩ := h f (by simp)
  obtain ⟨g', rfl, _⟩ := h g (by simp)
  obtain ⟨p', rfl, _⟩ := h p (by simp)
  obtain ⟨q', rfl, _⟩ := h q (by simp)
  obtain ⟨r', rfl, _⟩ := h r (by simp)
  obtain ⟨s', rfl, _⟩ := h s (by simp)
  exact ⟨⟨a', b', c', d', e', f', g', p', q', r', s'⟩, rfl⟩
theorem agg_of {v : Value} {cs : List Value} (h : v.cells.toList = cs) (hl : cs.length ≠ 1) : v = .agg ⟨cs⟩ := by
 subst h
 cases v <;> first | rfl | (exfalso; exact hl rfl)
theorem open_mac {t : TypeId} {v : Value} {d : DataW H} {ps : List MemPlace} (hok : okInts Tryz.prog 4 t = true) (hc : Tryz.prog.cellsOf t = 11) (hu : ∃ fs, Tryz.prog.underlying t = some (.struct fs)) (h : DataW.Trod enc Tryz.prog w base spare held t v d ps) : ∃ M : Mac, v = M.val := by
 obtain ⟨fuel, hf⟩ := h
 obtain ⟨fs, hu⟩ := hu
 obtain ⟨xs, m, _, _, hlen, _, _⟩ := DataW.trod_struct hu hf
 obtain ⟨M, hM⟩ := ints11 (trod_ints 4 t _ _ _ hok hf) (by rw [hlen, hc])
 exact ⟨M, by rw [agg_of hM (by simp [Mac.cells])]; rfl⟩
theorem open_ops {T e fuel : Nat} {cs : List Value} {x : DataW H × List MemPlace} (ht : Tryz.prog.underlying T = some (.slice e)) (hk : Tryz.prog.cellsOf e = 7) (hok : okInts Tryz.prog 4 e = true) (h : DataW.trod enc Tryz.prog w base spare held fuel T cs = some x) :
  cs = [.slice none 0 0] ∨ ∃ (a : Addr) (len cap : Nat) (L : List OpR), cs = [.slice (some a) len cap] ∧ len ≤ cap ∧ cap ≤ maxLen ∧ L.length = len ∧ CellsAt (memOf w) a (ocs L) := by
 rcases open_list (Q := fun ds (o : OpR) => ds = o.cells) ht hk (fun n ds y hd hl => ints7 (trod_ints 4 e _ _ _ hok hd) hl) h with h0 | ⟨a, len, cap, L, rfl, h1, h2, h3, h4⟩
 ·exact .inl h0
 right
 refine ⟨a, len, cap, L, rfl, h1, h2, h3, fun q v hq => ?_⟩
 have hql := (List.getElem?_eq_some_iff.1 hq).1
 rw [ocs_len] at hql
 have hk2 : q / 7 < L.length := by omega
 have hj : q % 7 < 7 := by omega
 have e1 : q / 7 * 7 + q % 7 = q := by omega
 rw [← e1, ocs_get hk2 hj] at hq
 obtain ⟨ds, _, rfl, g⟩ := h4 (q / 7) hk2
 have := g (q % 7) v hq
 rw [add_add, e1] at this
 exact this
theorem oat_of {v : Value} (h : v.cells.toList = [.slice none 0 0] ∨ ∃ (a : Addr) (len cap : Nat) (L : List OpR), v.cells.toList = [.slice (some a) len cap] ∧ len ≤ cap ∧ cap ≤ maxLen ∧ L.length = len ∧ CellsAt (memOf w) a (ocs L)) {A : Option Addr} {n c : Nat} (hv : v = .slice A n c) : ∃ O, OAt (memOf w) v O ∧ O.length < 2 ^ 63 := by
 subst hv
 rcases h with h | ⟨a, len, cap, L, h, hl, hm, hE, hc⟩
 ·simp [Value.cells] at h
  obtain ⟨rfl, rfl, rfl⟩ := h
  exact ⟨[], ⟨none, 0, rfl, fun _ => rfl, (fun ad h => by cases h), Nat.le_refl _⟩, by decide⟩
 ·simp [Value.cells] at h
  obtain ⟨rfl, rfl, rfl⟩ := h
  subst hE
  exact ⟨L, ⟨some a, _, rfl, (fun h => by cases h), (fun ad h => by cases h; exact hc), hl⟩, by unfold maxLen at hm; omega⟩
end Go.Proofs.YtmnagbhllnlelaaGreatDoor
set_option linter.unusedVariables false
set_option maxRecDepth 100000
namespace Go.Proofs.YtmnagbhllnlelaaGreatDoor
open Go.ChangeShapes Go.WideShapes Go.ChangeAt Go.RowKit
open Go Go.Vx
theorem listPlans_lifted (os : Os) (started : os.Started) (H : Type) (enc : TypeId × Value → H) :
  ReturnsInHanded {} Tryz.checked os 8 .any (fun w args => (Rows.listPlansSpec.pre enc Tryz.prog Tryz.f8 [] false w args ∧ laidMetH Tryz.prog laid1 w) ∧ sizedMet enc Tryz.prog Tryz.f8 (OpenSpec.ofChange Rows.listPlansSpec) false w args)
   (Rows.listPlansSpec.post enc Tryz.prog Tryz.f8 false true false false) := by
 refine returnsInHanded_of_change_and (C := Tryz.checked) (X := fun w _ => laidMetH Tryz.prog laid1 w) (fun _ _ _ hh h => h.of_heap hh) own started (by kernel_rfl) Tryz.func8
  (ChangeSpec.witness_shaped (enc := enc) (C := Tryz.checked) (os := os) (X := fun w _ => laidMetH Tryz.prog laid1 w) false (World.doorLaid Tryz.prog 400 os) #[.int .i64 0, .agg #[.int .i64 0, .int .i64 0, .int .i64 0, .int .i64 0, .int .i64 0, .int .i64 0, .int .i64 0, .int .i64 0, .int .i64 0, .int .i64 0, .int .i64 0], .slice none 0 0, .slice none 0 0] 8 rfl (World.shaped_of_RefB (by kernel_rfl) (by kernel_rfl)) (by kernel_rfl) (by kernel_rfl) (by kernel_rfl) (door_met os _)) ?_
 intro W base args ds gs before hval0 hW _ _ hL _
 have hval : ∀ (j : Nat) t v, Tryz.f8.params[j]? = some t → args[j]? = some v → Value.okWide Tryz.prog W .any base t v := hval0
 have hW' := hW
 obtain ⟨p, q, hA0, hV, rfl, hfz, hnd⟩ := hW
 have hA : DataW.TrodAll enc Tryz.prog W 0 (fun _ => true) true Tryz.f8.params.toList args.toList ds p := hA0
 rw [Tryz.params8] at hA hval
 obtain ⟨v0, vs0, d0, ds0, p0, q0, hargs, rfl, rfl, h0, r0⟩ := trodAll_cons hA
 obtain ⟨v1, vs1, d1, ds1, p1, q1, rfl, rfl, rfl, h1, r1⟩ := trodAll_cons r0
 obtain ⟨v2, vs2, d2, ds2, p2, q2, rfl, rfl, rfl, h2, r2⟩ := trodAll_cons r1
 obtain ⟨v3, vs3, d3, ds3, p3, q3, rfl, rfl, rfl, h3, r3⟩ := trodAll_cons r2
 obtain ⟨rfl, rfl, rfl⟩ := trodAll_nil r3
 obtain rfl : args = #[v0, v1, v2, v3] := by cases args; simp_all
 obtain ⟨rfl, rfl⟩ := trodVars_none hV
 obtain ⟨n0, rfl, rfl, rfl, w0⟩ := open_int Tryz.underlying3 (hval 0 3 v0 rfl rfl) h0
 have k1 := h1
 have lt1 : ∀ x ∈ p1, x.block < W.heap.size := by obtain ⟨m, hm⟩ := k1; exact DataW.trod_lt m _ _ _ hm
 obtain ⟨M1, rfl⟩ := open_mac (by kernel_rfl) (by kernel_rfl) ⟨_, Tryz.underlying46⟩ h1
 obtain ⟨a2, len2, cap2, e2⟩ := okWide_slice Tryz.underlying47 (hval 2 47 v2 rfl rfl)
 have k2 := h2
 have lt2 : ∀ x ∈ p2, x.block < W.heap.size := by obtain ⟨m, hm⟩ := k2; exact DataW.trod_lt m _ _ _ hm
 obtain ⟨O2, hO2, hOl2⟩ : ∃ O, OAt (memOf W) v2 O ∧ O.length < 2 ^ 63 := by obtain ⟨fuel, hf⟩ := h2; exact oat_of (open_ops Tryz.underlying47 (by kernel_rfl) (by kernel_rfl) hf) e2
 obtain ⟨a3, len3, cap3, e3⟩ := okWide_slice Tryz.underlying29 (hval 3 29 v3 rfl rfl)
 have k3 := h3
 have lt3 : ∀ x ∈ p3, x.block < W.heap.size := by obtain ⟨m, hm⟩ := k3; exact DataW.trod_lt m _ _ _ hm
 obtain ⟨E3, hE3, hEl3, hEr3⟩ : ∃ E, EAt (memOf W) v3 E ∧ E.length < 2 ^ 63 ∧ ∀ e ∈ E, e.r ≤ 9223372036854775807 := by obtain ⟨fuel, hf⟩ := h3; exact eat_of (open_edges hf) e3
 obtain ⟨T, fr, hT⟩ := of_laid hL
 clear hA0 hval0
 have hcall : Calls Tryz.prog 8 #[i n0, M1.val, v2, v3] W fun e W' => e = .returned (.bool true) ∧ Below W.heap.size W W' := by
  refine ((listPlans_ok M1 hO2 hOl2 hE3 hEl3 hEr3 n0 (T := T) (fr := fr) hT).2 W (memOf_sub W)).mono fun e W' hR => ?_
  obtain ⟨m', h1, rfl, h2⟩ := hR
  exact ⟨rfl, step_below' (h1.forget h2)⟩
 refine hcall.mono fun e W' ⟨he, bel⟩ => ?_
 subst he
 exact ⟨_, rfl, _, _, _, [], _, [], hW', trodAll_mk1 (shut_bool Tryz.underlying4 _), (trodAll_cons_mk (shut_int Tryz.underlying3 w0) (trodAll_cons_mk (Below.trod laidOut (by kernel_rfl) (of_decide_eq_true (by kernel_rfl)) k1 bel lt1) (trodAll_cons_mk (Below.trod laidOut (by kernel_rfl) (of_decide_eq_true (by kernel_rfl)) k2 bel lt2) (trodAll_cons_mk (Below.trod laidOut (by kernel_rfl) (of_decide_eq_true (by kernel_rfl)) k3 bel lt3) trodAll_mk0)))), rfl, bel.frame _, fun h => by cases h⟩
theorem listPlans_place : (Rows.listPlansRow.inPlace == Tryz.prog.inPlace 8) = true := by kernel_rfl
theorem listPlans_unf : (Rows.listPlansRow.unfollowed == Tryz.prog.unfollowed 8) = true := by kernel_rfl
theorem listPlans_rec : (Rows.listPlansRow.recurses == Tryz.prog.recurses 8) = true := by kernel_rfl
theorem listPlans_named : (Rows.listPlansRow.named == Tryz.prog.varsNamed 8) = true := by kernel_rfl
theorem listPlans_facts : joinedFacts Tryz.prog 8 Tryz.f8 Rows.listPlansSpec Rows.listPlansRow = true := by
 simp only [joinedFacts, laidOut, jk_maps, jk_heard, jk_enter, jk_lifts, jk_plain, listPlans_place, listPlans_unf, listPlans_rec, listPlans_named, Bool.and_true]
 kernel_rfl
theorem listPlans_holds : Rows.ListPlansSaid :=
 OpenClaim.holds_of_wide 8 Tryz.f8 rfl rfl rfl rfl rfl rfl rfl ⟨rfl, rfl, rfl, rfl, rfl⟩ rfl rfl rfl rfl rfl (by kernel_rfl) Tryz.func8 listPlans_facts
  (of_decide_eq_true (by kernel_rfl)) (by unfold Func.isWrapper; rw [if_neg (of_decide_eq_false (by kernel_rfl))]; exact ⟨rfl, rfl⟩)
  (fun os started H enc _ => listPlans_lifted os started H enc)
end Go.Proofs.YtmnagbhllnlelaaGreatDoor
