import Derived.Test.YtleofbpepfmfgaaGreatDoorVxCodeCut
import Derived.KernelRfl
import Derived.Test.YtleofbpepfmfgaaGreatDoorVxPush
import Derived.ChangeSlices
import Derived.ChangeArms
import Derived.Test.YtleofbpepfmfgaaGreatDoorVxTogether
import Derived.OpenShut
import Derived.WideShapes
import Derived.Test.YtleofbpepfmfgaaGreatDoorVxWrd
set_option linter.unusedSimpArgs false
set_option linter.unusedVariables false
set_option maxRecDepth 100000
namespace Go.Proofs.YtleofbpepfmfgaaGreatDoor
open Go Go.Vx
open Go.Vx.IOp Go.Vx.IR Go.Vx.Opd
def irw_biremelaw27_cut : Vx.Fn := { nt := 36, res := [.c 2 6 true, .t 3], body := seq (ops (.run [x 1 (vb (t 0)), x 2 (va [ns, i 0, i 0, i 0, i 0, ns]), x 3 (mv (c (.bool false)))] <| .nil)) (seq (ops (.run [x 4 (mv (c (i 0)))] <| .nil)) (seq (seq (ops (.run [x 5 (mv (c (i 0)))] <| .nil)) (block 0 (loop [(4, 21)] (seq (seq (ops (.run [x 6 (mv (t 5)), x 7 (fa (t 1) 0), x 8 (vld 1 7), x 9 (len (t 8)), x 10 (bin .lss (t 6) (t 9))] <| .nil)) (cond (t 10) (skip) (exit 0))) (seq (block 1 (ops (.run [x 13 (mv (t 4)), x 14 (fa (t 1) 0), x 15 (vld 1 14), x 16 (mv (t 5)), x 17 (ia (t 15) (t 16) 1), x 18 (ld (t 17)), x 19 (mm true [t 18, c (i 0)]), x 20 (mm false [t 19, c (i 100000)]), x 21 (bin .add (t 13) (t 20)), x 4 (mv (t 21))] <| .nil))) (ops (.run [x 11 (mv (t 5)), x 12 (binN .add (t 11) (c (i 1))), x 5 (mv (t 12))] <| .nil))))))) (seq (tree [x 22 (vlds 1 1 6), x 23 (call 44 [t 22, c (i 40), c (i 20)]), x 24 (mv (t 4)), x 25 (bin .leq (t 24) (c (i 3000))), xs 26 (mv (t 25)), E.mk (some 27) (fa (t 1) 4) (some (26, true)) false, E.mk (some 28) (vld 1 27) (some (26, true)) false, E.mk (some 29) (bin .leq (t 28) (c (i 200))) (some (26, true)) false, x 30 (pick (t 26) (t 29) (c (.bool false))), xs 31 (mv (t 30)), E.mk (some 32) (fa (t 1) 2) (some (31, true)) false, E.mk (some 33) (vld 1 32) (some (31, true)) false, E.mk (some 34) (bin .leq (t 33) (c (i 200))) (some (31, true)) false, x 35 (pick (t 31) (t 34) (c (.bool false))), x 2 (vst 2 2 (t 23) 6), x 3 (mv (t 35))] (.pure 0 (.pure 2 (.pure 3 (.alt 1 (.pure 4 (.pure 5 (.pure 6 (.pure 7 (.pure 8 (.pure 9 (.pure 10 (.pure 11 (.pure 12 (.pure 13 (.alt 14 (.pure 15 (RT.nil)) (.done)))))))))))) (.done)))))) (ret)))) }
theorem okw_biremelaw27_cut : okFn Tryz.prog Tryz.f13 irw_biremelaw27_cut = true := by kernel_rfl
abbrev cut27 (C : CodeR) : CodeR := cutW 40 20 C
theorem lawCut_ok {m : Mem} (V : CV) {C : CodeR} (hV : CodeAt m V C) :
  CallsM Tryz.prog 13 [V.val C] m fun e m' => ∃ V' b, e = .returned (.tuple ⟨[V'.val (cut27 C), .bool b]⟩) ∧ Mem.le m m' ∧ CodeAt m' V' (cut27 C) := by
 refine calls_of mixed Tryz.func13 okw_biremelaw27_cut rfl ?_
 have hn1 := hV.n1
 have hszl := hV.szl
 obtain ⟨a1', c1', e1, hs0, hs1, hs2⟩ := hV.sz
 have ea1 : V.a1 = a1' := by injection e1
 subst ea1
 conv => whnf
 refine WLoop.mk (Nat × Int) (fun s => [(4, .val (i s.2)), (5, .val (i s.1))]) (fun s m' => m = m' ∧ s.1 ≤ C.sz.length) (fun s => C.sz.length - s.1) (0, 0) ⟨rfl, rfl, trivial⟩ ⟨rfl, Nat.zero_le _⟩ ?_
 rintro ⟨k, n⟩ m' ⟨rfl, hk⟩
 simp only at hk
 conv => whnf
 rw [hn1]
 refine Br.mk (fun hb => ?_) (fun hb => ?_)
 ·have hk2 : k < C.sz.length := by
   have : (k : Int) < C.sz.length := of_decide_eq_true hb
   omega
  obtain ⟨ad, had⟩ : ∃ ad, V.a1 = some ad := by
   cases hh : V.a1 with
   | none => rw [hs0 hh] at hk2; simp at hk2
   | some ad => exact ⟨ad, rfl⟩
  have hcell := IAt.cell (hs1 ad had) hk2
  conv => whnf
  rw [hn1]
  refine WIdx.mk ad had ⟨by omega, by omega⟩ ?_
  conv => whnf
  refine WLd.mk (i C.sz[k]) (by simpa using hcell) ?_
  conv => whnf
  refine WRng.mk (by apply wrap_i64 <;> omega) ?_
  conv => whnf
  exact ⟨(k + 1, _), ⟨rfl, rfl, trivial⟩, ⟨rfl, hk2⟩, Nat.sub_lt_sub_left hk2 (Nat.lt_succ_self k)⟩
 ·have hle := Mem.le.refl m
  repeat' (conv => whnf
           first
           | exact trivial
           | (refine WCall.mk (refCut_ok V hV 40 20 (by decide) (by decide)) ?_; rintro _ m2 ⟨V', rfl, hle, hV'⟩)
           | (refine Br.mk (fun hh => ?_) (fun hh => ?_) <;> try (cases hh; done))
           | (exact WRet.same ⟨V', _, rfl, hle, hV'⟩)
           | (refine And.intro ?_ ?_))
theorem lawOwn_ok {m : Mem} (V : CV) {C : CodeR} (hV : CodeAt m V C) :
  CallsM Tryz.prog 15 [V.val C] m fun e m' => ∃ V', e = .returned (V'.val (cut27 C)) ∧ Mem.le m m' ∧ CodeAt m' V' (cut27 C) := by
 refine calls_of mixed Tryz.func15 ok_biremelaw27_own rfl ?_
 conv => whnf
 refine WCall.mk (refCut_ok V hV 40 20 (by decide) (by decide)) ?_
 rintro _ m2 ⟨V', rfl, hle, hV'⟩
 conv => whnf
 exact WRet.same ⟨V', rfl, hle, hV'⟩
end Go.Proofs.YtleofbpepfmfgaaGreatDoor
set_option linter.unusedSimpArgs false
set_option linter.unusedVariables false
set_option maxRecDepth 100000
namespace Go.Proofs.YtleofbpepfmfgaaGreatDoor
open Go Go.Vx
open Go.Vx.IOp Go.Vx.IR Go.Vx.Opd
def memOf (w : World) : Mem := fun b => w.heap[b]?
theorem memOf_sub (w : World) : Sub (memOf w) w := fun _ _ h => h
theorem cellAt_of {w : World} {a : Addr} {v : Value} (h : w.cell? a = some v) : CellAt (memOf w) a v := by
 unfold World.cell? at h
 split at h <;> try (cases h; done)
 rename_i c T fr hh
 split at h <;> try (cases h; done)
 rename_i hs
 exact ⟨c, T, fr, hh, by simpa using hs, h⟩
theorem choose_list {α : Type} {Q : Nat → α → Prop} : ∀ (n : Nat), (∀ k < n, ∃ e, Q k e) → ∃ E : List α, E.length = n ∧ ∀ k (h : k < E.length), Q k E[k]
 | 0, _ => ⟨[], rfl, fun k h => by simp at h⟩
 | n + 1, h => by
  obtain ⟨E, h1, h2⟩ := choose_list n fun k hk => h k (by omega)
  obtain ⟨e, he⟩ := h n (by omega)
  refine ⟨E ++ [e], by simp [h1], fun k hk => ?_⟩
  by_cases hkn : k < n
  ·rw [List.getElem_append_left (by omega)]; exact h2 k (by omega)
  ·have : k = n := by simp [h1] at hk; omega
   subst this
   rw [List.getElem_append_right (by omega)]; simpa [h1] using he
variable {H : Type} {enc : TypeId × Value → H} {w : World} {base : Nat} {spare : Nat → Bool} {held : Bool} {fuel : Nat} {cs : List Value} {x : DataW H × List MemPlace}
theorem open_is (h : DataW.trod enc Tryz.prog w base spare held fuel 22 cs = some x) :
  cs = [.slice none 0 0] ∨ ∃ (a : Addr) (len cap : Nat) (C : List Int), cs = [.slice (some a) len cap] ∧ len ≤ cap ∧ cap ≤ maxLen ∧ C.length = len ∧ CellsAt (memOf w) a (C.map i) := by
 rcases ChangeShapes.open_ints Tryz.underlying22 Tryz.underlying3 (by kernel_rfl) h with ⟨h0, _⟩ | ⟨a, len, cap, zs, rfl, _, hl, hm, hz, _, hcell, _⟩
 ·exact .inl h0
 right
 refine ⟨a, len, cap, zs.take len, rfl, hl, hm, ?_, fun q v hq => ?_⟩
 ·rw [List.length_take, hz]; split <;> omega
 ·have hql := (List.getElem?_eq_some_iff.1 hq).1
  simp only [List.length_map, List.length_take] at hql
  have hql2 : q < zs.length := by omega
  rw [List.getElem?_map, List.getElem?_take, if_pos (by omega), List.getElem?_eq_getElem hql2] at hq
  simp only [Option.map_some, Option.some.injEq] at hq
  have := hcell q hql2
  rw [List.getD_eq_getElem?_getD, List.getElem?_eq_getElem hql2] at this
  rw [← hq]; exact cellAt_of (by simpa using this)
theorem iat_of {v : Value} (h : v.cells.toList = [.slice none 0 0] ∨ ∃ (a : Addr) (len cap : Nat) (C : List Int), v.cells.toList = [.slice (some a) len cap] ∧ len ≤ cap ∧ cap ≤ maxLen ∧ C.length = len ∧ CellsAt (memOf w) a (C.map i)) {A : Option Addr} {n c : Nat} (hv : v = .slice A n c) : ∃ C, IAt (memOf w) v C ∧ C.length < 2 ^ 63 := by
 subst hv
 rcases h with h | ⟨a, len, cap, E, h, hl, hm, hE, hc⟩
 ·simp [Value.cells] at h
  obtain ⟨rfl, rfl, rfl⟩ := h
  exact ⟨[], ⟨none, 0, rfl, fun _ => rfl, (fun ad h => by cases h), Nat.le_refl _⟩, by decide⟩
 ·simp [Value.cells] at h
  obtain ⟨rfl, rfl, rfl⟩ := h
  subst hE
  exact ⟨E, ⟨some a, _, rfl, (fun h => by cases h), (fun ad h => by cases h; exact hc), hl⟩, by unfold maxLen at hm; omega⟩
end Go.Proofs.YtleofbpepfmfgaaGreatDoor
set_option linter.unusedSimpArgs false
set_option linter.unusedVariables false
set_option maxRecDepth 100000
namespace Go.Proofs.YtleofbpepfmfgaaGreatDoor
open Go Go.Vx
def AllI (cs : List Value) : Prop := ∀ v ∈ cs, ∃ z : Int, v = i z ∧ -9223372036854775808 ≤ z ∧ z ≤ 9223372036854775807
def okFs (P : Program) (ok : TypeId → Bool) (total : Nat) : Nat → List Field → Bool
 | o, [] => Nat.beq o total
 | o, f :: fs => Nat.beq f.offset o && ok f.type && okFs P ok total (o + P.cellsOf f.type) fs
def okInts (P : Program) : Nat → TypeId → Bool
 | 0, _ => false
 | n + 1, t => match P.underlying t with
  | some (.int k) => kbeq k .i64
  | some (.struct fs) => okFs P (okInts P n) (P.cellsOf t) 0 fs.toList
  | some (.array m e) => okInts P n e && Nat.beq (P.cellsOf t) (m * P.cellsOf e)
  | _ => false
theorem AllI.take_drop {cs : List Value} {k : Nat} (h1 : AllI (cs.take k)) (h2 : AllI (cs.drop k)) : AllI cs := fun v hv => by
 rw [← List.take_append_drop k cs] at hv
 rcases List.mem_append.1 hv with h | h
 ·exact h1 v h
 ·exact h2 v h
theorem allI_fields {P : Program} {ok : TypeId → Bool} {total : Nat} {cs : List Value} (hlen : cs.length = total) :
  ∀ (fs : List Field) (o : Nat), okFs P ok total o fs = true → (∀ f ∈ fs, ok f.type = true → AllI ((cs.drop f.offset).take (P.cellsOf f.type))) → AllI (cs.drop o) := by
 intro fs
 induction fs with
 | nil =>
  intro o h _
  simp only [okFs] at h
  have := beq_ff h
  rw [List.drop_eq_nil_iff.2 (by omega)]
  intro v hv; cases hv
 | cons f fs ih =>
  intro o h hf
  simp only [okFs, Bool.and_eq_true] at h
  obtain ⟨⟨h1, h2⟩, h3⟩ := h
  obtain rfl := beq_ff h1
  refine AllI.take_drop (hf f (by simp) h2) ?_
  rw [List.drop_drop]
  exact ih _ h3 fun g hg => hf g (by simp [hg])
theorem allI_array {k : Nat} {cs : List Value} : ∀ (n s : Nat), cs.length = (s + n) * k → (∀ j, s ≤ j → j < s + n → AllI ((cs.drop (j * k)).take k)) → AllI (cs.drop (s * k)) := by
 intro n
 induction n with
 | zero =>
  intro s hl _
  rw [List.drop_eq_nil_iff.2 (by simp at hl; omega)]
  intro v hv; cases hv
 | succ n ih =>
  intro s hl h
  refine AllI.take_drop (h s (Nat.le_refl _) (by omega)) ?_
  rw [List.drop_drop]
  have := ih (s + 1) (by rw [hl]; congr 1; omega) fun j h1 h2 => h j (by omega) (by omega)
  rw [Nat.add_mul, Nat.one_mul] at this
  exact this
variable {H : Type} {enc : TypeId × Value → H} {w : World} {base : Nat} {spare : Nat → Bool} {held : Bool}
theorem kbeq_i64 {k : IntKind} (h : kbeq k .i64 = true) : k = .i64 := by cases k <;> first | rfl | cases h
theorem trod_ints : ∀ (n : Nat) (t : TypeId) (F : Nat) (cs : List Value) (x : DataW H × List MemPlace), okInts Tryz.prog n t = true → DataW.trod enc Tryz.prog w base spare held F t cs = some x → AllI cs := by
 intro n
 induction n with
 | zero => intro t F cs x h; cases h
 | succ n ih =>
  intro t F cs x h hd
  unfold okInts at h
  split at h
  ·rename_i k hu
   obtain rfl := kbeq_i64 h
   obtain ⟨z, rfl, _, hw⟩ := DataW.trod_int hu hd
   intro v hv
   rw [List.mem_singleton] at hv
   refine ⟨z, hv, ?_⟩
   simp [Lit.wf] at hw
   first | exact hw | (rw [show IntKind.i64.min = -9223372036854775808 from rfl, show IntKind.i64.max = 9223372036854775807 from rfl] at hw; exact hw)
  ·rename_i fs hu
   obtain ⟨xs, m, rfl, _, hlen, hxs, hf⟩ := DataW.trod_struct hu hd
   have := allI_fields hlen fs.toList 0 h fun f hfm hok => by
    obtain ⟨j, hj, rfl⟩ := List.getElem_of_mem hfm
    have hj2 : j < fs.size := by simpa using hj
    have h1 := hf j fs[j] (by simp [hj2])
    have h2 : xs[j]? = some xs[j] := List.getElem?_eq_getElem (by omega)
    rw [h2] at h1
    exact ih _ _ _ _ (by simpa using hok) (by simpa using h1)
   simpa using this
  ·rename_i m e hu
   rw [Bool.and_eq_true] at h
   obtain ⟨xs, q, rfl, _, hlen, hxs, hf⟩ := DataW.trod_array hu hd
   have := allI_array (cs := cs) (k := Tryz.prog.cellsOf e) m 0 (by rw [hlen, beq_ff h.2]; congr 1; omega) fun j _ hj => by
    have h1 := hf j (by omega)
    have h2 : xs[j]? = some xs[j] := List.getElem?_eq_getElem (by omega)
    rw [h2] at h1
    exact ih _ _ _ _ h.1 h1
   simpa using this
  ·cases h
theorem open_list {α : Type} {T e k : Nat} {Q : List Value → α → Prop} {fuel : Nat} {cs : List Value} {x : DataW H × List MemPlace} (ht : Tryz.prog.underlying T = some (.slice e)) (hk : Tryz.prog.cellsOf e = k)
  (hel : ∀ n ds y, DataW.trod enc Tryz.prog w base spare held n e ds = some y → ds.length = k → ∃ a, Q ds a) (h : DataW.trod enc Tryz.prog w base spare held fuel T cs = some x) :
  cs = [.slice none 0 0] ∨ ∃ (a : Addr) (len cap : Nat) (L : List α), cs = [.slice (some a) len cap] ∧ len ≤ cap ∧ cap ≤ maxLen ∧ L.length = len ∧ ∀ j (hj : j < L.length), ∃ ds, ds.length = k ∧ Q ds L[j] ∧ CellsAt (memOf w) (a.add (j * k)) ds := by
 rcases DataW.trod_slice ht h with ⟨h0, _⟩ | ⟨a, len, cap, elems, rest, n, _, rfl, rfl, hb, hl, hm, hlen, hel2, _, _⟩
 ·exact .inl h0
 right
 obtain ⟨L, hL, hc⟩ := choose_list (Q := fun j (b : α) => ∃ ds, ds.length = k ∧ Q ds b ∧ CellsAt (memOf w) (a.add (j * k)) ds) len fun j hj => by
  have hj2 : elems[j]? = some elems[j] := List.getElem?_eq_getElem (by omega)
  have h1 := hel2 j hj
  rw [hj2, hk, Option.bind_eq_some_iff] at h1
  obtain ⟨ds, h2, h3⟩ := h1
  obtain ⟨_, hl2, h5⟩ := World.cells?_some h2
  obtain ⟨b, hb2⟩ := hel n ds _ h3 hl2
  refine ⟨b, ds, hl2, hb2, fun q v hq => ?_⟩
  have hql := (List.getElem?_eq_some_iff.1 hq).1
  have := h5 q (by omega)
  rw [hq] at this
  exact cellAt_of this
 exact ⟨a, len, cap, L, rfl, hl, hm, hL, hc⟩
theorem ints7 {cs : List Value} (h : AllI cs) (hl : cs.length = 7) : ∃ o : OpR, cs = o.cells := by
 match cs, hl with
 | [a, b, c, d, e, f, g], _ =>
  obtain ⟨a', rfl, _⟩ := h a (by simp)
  obtain ⟨b', rfl, _⟩ := h b (by simp)
  obtain ⟨c', rfl, _⟩ := h c (by simp)
  obtain ⟨d', rfl, _⟩ := h d (by simp)
  obtain ⟨e', rfl, _⟩ := h e (by simp)
  obtain ⟨f', rfl, _⟩ := h f (by simp)
  obtain ⟨g', rfl, _⟩ := h g (by simp)
  exact ⟨⟨a', b', c', d', e', f', g'⟩, rfl⟩
theorem ints11 {cs : List Value} (h : AllI cs) (hl : cs.length = 11) : ∃ M : Mac, cs = M.cells := by
 match cs, hl with
 | [a, b, c, d, e, f, g, p, q, r, s], _ =>
  obtain ⟨a', rfl, _⟩ := h a (by simp)
  obtain ⟨b', rfl, _⟩ := h b (by simp)
  obtain ⟨c', rfl, _⟩ := h c (by simp)
  obtain ⟨d', rfl, _⟩ := h d (by simp)
  obtain ⟨e', rfl, _⟩ := h e (by simp)
  obtain ⟨f', rfl, _⟩ := h f (by simp)
  obtain ⟨g', rfl, _⟩ := h g (by simp)
  obtain ⟨p', rfl, _⟩ := h p (by simp)
  obtain ⟨q', rfl, _⟩ := h q (by simp)
  obtain ⟨r', rfl, _⟩ := h r (by simp)
  obtain ⟨s', rfl, _⟩ := h s (by simp)
  exact ⟨⟨a', b', c', d', e', f', g', p', q', r', s'⟩, rfl⟩
theorem agg_of {v : Value} {cs : List Value} (h : v.cells.toList = cs) (hl : cs.length ≠ 1) : v = .agg ⟨cs⟩ := by
 subst h
 cases v <;> first | rfl | (exfalso; exact hl rfl)
theorem open_mac {t : TypeId} {v : Value} {d : DataW H} {ps : List MemPlace} (hok : okInts Tryz.prog 4 t = true) (hc : Tryz.prog.cellsOf t = 11) (hu : ∃ fs, Tryz.prog.underlying t = some (.struct fs)) (h : DataW.Trod enc Tryz.prog w base spare held t v d ps) : ∃ M : Mac, v = M.val := by
 obtain ⟨fuel, hf⟩ := h
 obtain ⟨fs, hu⟩ := hu
 obtain ⟨xs, m, _, _, hlen, _, _⟩ := DataW.trod_struct hu hf
 obtain ⟨M, hM⟩ := ints11 (trod_ints 4 t _ _ _ hok hf) (by rw [hlen, hc])
 exact ⟨M, by rw [agg_of hM (by simp [Mac.cells])]; rfl⟩
theorem open_ops {T e fuel : Nat} {cs : List Value} {x : DataW H × List MemPlace} (ht : Tryz.prog.underlying T = some (.slice e)) (hk : Tryz.prog.cellsOf e = 7) (hok : okInts Tryz.prog 4 e = true) (h : DataW.trod enc Tryz.prog w base spare held fuel T cs = some x) :
  cs = [.slice none 0 0] ∨ ∃ (a : Addr) (len cap : Nat) (L : List OpR), cs = [.slice (some a) len cap] ∧ len ≤ cap ∧ cap ≤ maxLen ∧ L.length = len ∧ CellsAt (memOf w) a (ocs L) := by
 rcases open_list (Q := fun ds (o : OpR) => ds = o.cells) ht hk (fun n ds y hd hl => ints7 (trod_ints 4 e _ _ _ hok hd) hl) h with h0 | ⟨a, len, cap, L, rfl, h1, h2, h3, h4⟩
 ·exact .inl h0
 right
 refine ⟨a, len, cap, L, rfl, h1, h2, h3, fun q v hq => ?_⟩
 have hql := (List.getElem?_eq_some_iff.1 hq).1
 rw [ocs_len] at hql
 have hk2 : q / 7 < L.length := by omega
 have hj : q % 7 < 7 := by omega
 have e1 : q / 7 * 7 + q % 7 = q := by omega
 rw [← e1, ocs_get hk2 hj] at hq
 obtain ⟨ds, _, rfl, g⟩ := h4 (q / 7) hk2
 have := g (q % 7) v hq
 rw [add_add, e1] at this
 exact this
theorem oat_of {v : Value} (h : v.cells.toList = [.slice none 0 0] ∨ ∃ (a : Addr) (len cap : Nat) (L : List OpR), v.cells.toList = [.slice (some a) len cap] ∧ len ≤ cap ∧ cap ≤ maxLen ∧ L.length = len ∧ CellsAt (memOf w) a (ocs L)) {A : Option Addr} {n c : Nat} (hv : v = .slice A n c) : ∃ O, OAt (memOf w) v O ∧ O.length < 2 ^ 63 := by
 subst hv
 rcases h with h | ⟨a, len, cap, L, h, hl, hm, hE, hc⟩
 ·simp [Value.cells] at h
  obtain ⟨rfl, rfl, rfl⟩ := h
  exact ⟨[], ⟨none, 0, rfl, fun _ => rfl, (fun ad h => by cases h), Nat.le_refl _⟩, by decide⟩
 ·simp [Value.cells] at h
  obtain ⟨rfl, rfl, rfl⟩ := h
  subst hE
  exact ⟨L, ⟨some a, _, rfl, (fun h => by cases h), (fun ad h => by cases h; exact hc), hl⟩, by unfold maxLen at hm; omega⟩
end Go.Proofs.YtleofbpepfmfgaaGreatDoor
set_option linter.unusedSimpArgs false
set_option linter.unusedVariables false
set_option maxRecDepth 100000
namespace Go.Proofs.YtleofbpepfmfgaaGreatDoor
open Go Go.Vx
variable {H : Type} {enc : TypeId × Value → H} {w : World} {base : Nat} {spare : Nat → Bool} {held : Bool}
theorem open_i1 {fuel : Nat} {cs : List Value} {x : DataW H × List MemPlace} (h : DataW.trod enc Tryz.prog w base spare held fuel 3 cs = some x) : ∃ z : Int, cs = [i z] := by
 obtain ⟨z, e, _⟩ := DataW.trod_int Tryz.underlying3 h
 exact ⟨z, e⟩
theorem open_isl {fuel : Nat} {cs : List Value} {x : DataW H × List MemPlace} (h : DataW.trod enc Tryz.prog w base spare held fuel 22 cs = some x) : ∃ a n c C, cs = [.slice a n c] ∧ IAt (memOf w) (.slice a n c) C ∧ C.length < 2 ^ 63 := by
 rcases open_is h with rfl | ⟨a, len, cap, C, rfl, h1, h2, h3, h4⟩
 ·obtain ⟨C, hC, hl⟩ := iat_of (w := w) (v := .slice none 0 0) (.inl rfl) rfl
  exact ⟨none, 0, 0, C, rfl, hC, hl⟩
 ·obtain ⟨C', hC, hl⟩ := iat_of (w := w) (v := .slice (some a) len cap) (.inr ⟨a, len, cap, C, rfl, h1, h2, h3, h4⟩) rfl
  exact ⟨_, _, _, C', rfl, hC, hl⟩
theorem open_osl {fuel : Nat} {cs : List Value} {x : DataW H × List MemPlace} (h : DataW.trod enc Tryz.prog w base spare held fuel 101 cs = some x) : ∃ a n c O, cs = [.slice a n c] ∧ OAt (memOf w) (.slice a n c) O := by
 rcases open_ops Tryz.underlying101 (by kernel_rfl) (by kernel_rfl) h with rfl | ⟨a, len, cap, L, rfl, h1, h2, h3, h4⟩
 ·obtain ⟨O, hO, _⟩ := oat_of (w := w) (v := .slice none 0 0) (.inl rfl) rfl
  exact ⟨none, 0, 0, O, rfl, hO⟩
 ·obtain ⟨O, hO, _⟩ := oat_of (w := w) (v := .slice (some a) len cap) (.inr ⟨a, len, cap, L, rfl, h1, h2, h3, h4⟩) rfl
  exact ⟨_, _, _, O, rfl, hO⟩
def wordQ (w : World) (ds : List Value) (r : WordR) : Prop := ∃ a n c, ds = [.slice a n c, i r.ct] ∧ OAt (memOf w) (.slice a n c) r.ops
theorem open_word {fuel : Nat} {cs : List Value} {x : DataW H × List MemPlace} (h : DataW.trod enc Tryz.prog w base spare held fuel 103 cs = some x) : ∃ r : WordR, wordQ w cs r := by
 obtain ⟨xs, n, rfl, _, hlen, hxs, hf⟩ := DataW.trod_struct Tryz.underlying103 h
 have hl : cs.length = 2 := by rw [hlen]; kernel_rfl
 have hxs : xs.length = 2 := hxs
 have f0 := hf 0 _ rfl
 have f1 := hf 1 _ rfl
 rw [List.getElem?_eq_getElem (by omega)] at f0 f1
 match cs, hl with
 | [v0, v1], _ =>
  have f0 : DataW.trod enc Tryz.prog w base spare held n 101 (List.take (Tryz.prog.cellsOf 101) [v0, v1]) = some _ := f0
  have f1 : DataW.trod enc Tryz.prog w base spare held n 3 (List.take (Tryz.prog.cellsOf 3) [v1]) = some _ := f1
  rw [show Tryz.prog.cellsOf 101 = 1 by kernel_rfl] at f0
  rw [show Tryz.prog.cellsOf 3 = 1 by kernel_rfl] at f1
  obtain ⟨a, n', c, O, e0, hO⟩ := open_osl f0
  obtain ⟨z, e1⟩ := open_i1 f1
  injection e0 with e0 _
  injection e1 with e1 _
  exact ⟨⟨O, z⟩, a, n', c, by rw [e0, e1], hO⟩
theorem open_code {v : Value} {d : DataW H} {ps : List MemPlace} (h : DataW.Trod enc Tryz.prog w base spare held 25 v d ps) : ∃ V C, v = CV.val V C ∧ CodeAt (memOf w) V C := by
 obtain ⟨fuel, hf0⟩ := h
 obtain ⟨xs, n, rfl, _, hlen, hxs, hf⟩ := DataW.trod_struct Tryz.underlying25 hf0
 have hl : v.cells.toList.length = 6 := by rw [hlen]; kernel_rfl
 have hxs : xs.length = 6 := hxs
 have f0 := hf 0 _ rfl
 have f1 := hf 1 _ rfl
 have f2 := hf 2 _ rfl
 have f3 := hf 3 _ rfl
 have f4 := hf 4 _ rfl
 have f5 := hf 5 _ rfl
 rw [List.getElem?_eq_getElem (by omega)] at f0 f1 f2 f3 f4 f5
 generalize hcs : v.cells.toList = cs at *
 match cs, hl with
 | [v0, v1, v2, v3, v4, v5], _ =>
  have f0 : DataW.trod enc Tryz.prog w base spare held n 22 (List.take (Tryz.prog.cellsOf 22) [v0, v1, v2, v3, v4, v5]) = some _ := f0
  have f1 : DataW.trod enc Tryz.prog w base spare held n 3 (List.take (Tryz.prog.cellsOf 3) [v1, v2, v3, v4, v5]) = some _ := f1
  have f2 : DataW.trod enc Tryz.prog w base spare held n 3 (List.take (Tryz.prog.cellsOf 3) [v2, v3, v4, v5]) = some _ := f2
  have f3 : DataW.trod enc Tryz.prog w base spare held n 3 (List.take (Tryz.prog.cellsOf 3) [v3, v4, v5]) = some _ := f3
  have f4 : DataW.trod enc Tryz.prog w base spare held n 3 (List.take (Tryz.prog.cellsOf 3) [v4, v5]) = some _ := f4
  have f5 : DataW.trod enc Tryz.prog w base spare held n 23 (List.take (Tryz.prog.cellsOf 23) [v5]) = some _ := f5
  rw [show Tryz.prog.cellsOf 22 = 1 by kernel_rfl] at f0
  rw [show Tryz.prog.cellsOf 3 = 1 by kernel_rfl] at f1 f2 f3 f4
  rw [show Tryz.prog.cellsOf 23 = 1 by kernel_rfl] at f5
  obtain ⟨a1, n1, c1, sz, e0, hsz, hszl⟩ := open_isl f0
  obtain ⟨z1, e1⟩ := open_i1 f1
  obtain ⟨z2, e2⟩ := open_i1 f2
  obtain ⟨z3, e3⟩ := open_i1 f3
  obtain ⟨z4, e4⟩ := open_i1 f4
  injection e0 with e0 _
  injection e1 with e1 _
  injection e2 with e2 _
  injection e3 with e3 _
  injection e4 with e4 _
  have hw := open_list (Q := wordQ w) Tryz.underlying23 (show Tryz.prog.cellsOf 103 = 2 by kernel_rfl) (fun n ds y hd _ => open_word hd) f5
  rcases hw with e5 | ⟨a, len, cap, L, e5, g1, g2, g3, g4⟩
  ·injection e5 with e5 _
   refine ⟨⟨a1, n1, c1, none, 0, 0⟩, ⟨sz, z1, z2, z3, z4, []⟩, ?_, hsz, ⟨none, 0, rfl, fun _ => rfl, (fun ad h => by cases h), Nat.le_refl _⟩, hszl, show (0 : Nat) < 2 ^ 63 by decide⟩
   rw [agg_of hcs (by simp), e0, e1, e2, e3, e4, e5]; rfl
  ·injection e5 with e5 _
   subst g3
   refine ⟨⟨a1, n1, c1, some a, L.length, cap⟩, ⟨sz, z1, z2, z3, z4, L⟩, ?_, hsz, ⟨some a, cap, rfl, (fun h => by cases h), fun ad h k hk => ?_, g1⟩, hszl, by show L.length < _; unfold maxLen at g2; omega⟩
   ·rw [agg_of hcs (by simp), e0, e1, e2, e3, e4, e5]; rfl
   ·cases h
    obtain ⟨ds, _, ⟨a3, n3, c3, rfl, hO⟩, hc⟩ := g4 k hk
    exact ⟨a3, n3, c3, hc, hO⟩
end Go.Proofs.YtleofbpepfmfgaaGreatDoor
