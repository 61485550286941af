/- The law of list's plans: Plan returns what the specification says. -/
import Derived.Test.YtmnagbhllnlelaaGreatDoorVxOwnMade
import Derived.Test.YtmnagbhllnlelaaGreatDoorVxAl21
set_option linter.unusedSimpArgs false
set_option linter.unusedVariables false
set_option maxRecDepth 100000
namespace Go.Proofs.YtmnagbhllnlelaaGreatDoor
open Go Go.Vx
open Go.Vx.IOp Go.Vx.IR Go.Vx.Opd
theorem Sch.len {M : Mac} {O : List OpR} {E : List Edg} {H : List Int} {c : Int} {cyc z : List Int} (h : Sch M O E H c cyc z) : cyc.length = O.length → z.length = O.length := by
 induction h with
 | done _ => exact id
 | step _ h2 _ ih => exact fun hl => ih (h2.keep hl).1
theorem plan_zero {n : Int} {M : Mac} {O : List OpR} {E : List Edg} (h : planCode n M O E = 0) : n = O.length ∧ O.length ≤ 400 ∧ (∀ o ∈ O, badOp M o = false) ∧ E.length ≤ 200000 ∧ edgeCode n E = 0 ∧ ∀ e ∈ E, Fwd O.length e := by
 unfold planCode at h
 split at h
 ·exact absurd h (by decide)
 ·rename_i hn
  have hn2 : n = O.length := Decidable.not_not.1 hn
  split at h
  ·rename_i h2; exact absurd h h2
  ·rename_i h2
   have h3 : wrongCode M O = 0 := Decidable.not_not.1 h2
   have hc := h
   unfold wrongCode at h3
   unfold edgeCode at h
   split at h3
   ·exact absurd h3 (by decide)
   ·split at h3
    ·exact absurd h3 (by decide)
    ·split at h
     ·exact absurd h (by decide)
     ·split at h
      ·exact absurd h (by decide)
      ·refine ⟨hn2, by omega, fun o ho => ?_, by omega, hc, ?_⟩
       ·rename_i h4 _ _
        cases hh : badOp M o with
        | false => rfl
        | true => exact absurd (List.any_eq_true.2 ⟨o, ho, hh⟩) h4
       ·subst hn2; exact fwd_of h
theorem plan_ok {m : Mem} {T : Nat} {fr : Nat × Nat} (hm : m 0 = some (.cells ⟨cells0⟩ T fr)) {v u : Value} (M : Mac) {O : List OpR} {E : List Edg} (hO : OAt m v O) (hE : EAt m u E) (hlO : O.length < 2 ^ 63) (hlE : E.length < 2 ^ 63) (hR : ∀ e ∈ E, e.r ≤ 9223372036854775807) (n : Int) :
  CallsM Tryz.prog 26 [i n, M.val, v, u] m fun e m' => Mem.le m m' ∧ ∃ w z, e = .returned (.tuple ⟨[w, i (if M.ok = true then planCode n M O E else 2)]⟩) ∧ IAt m' w z ∧ ((if M.ok = true then planCode n M O E else 2) ≠ 0 → z = []) ∧ ((if M.ok = true then planCode n M O E else 2) = 0 → Sch M O E (hgt E O.length (List.replicate O.length 0)) 0 (noneC O.length) z) := by
 have hsl : ∃ a c, v = .slice a O.length c := by obtain ⟨a, c, e, _⟩ := hO; exact ⟨a, c, e⟩
 obtain ⟨a, c, rfl⟩ := hsl
 have hsl2 : ∃ a c, u = .slice a E.length c := by obtain ⟨a, c, e, _⟩ := hE; exact ⟨a, c, e⟩
 obtain ⟨a2, c2, rfl⟩ := hsl2
 refine calls_of mixed Tryz.func26 ok_list_Plan rfl ?_
 conv => whnf
 refine WCall.mk (right21_ok hm M hO hE hlO hlE hR n) ?_
 rintro _ m1 ⟨rfl, hle1⟩
 generalize hcd : (if M.ok = true then planCode n M O E else 2) = cd at *
 conv => whnf
 refine Br.mk (fun hb => ?_) (fun hb => ?_)
 ·have h : cd ≠ 0 := by simpa using hb
  conv => whnf
  exact WRet.same ⟨hle1, ns, [], rfl, ⟨none, 0, rfl, fun _ => rfl, (fun ad h => by cases h), Nat.le_refl _⟩, fun _ => rfl, fun h2 => absurd h2 h⟩
 ·have h : cd = 0 := by simpa using hb
  subst h
  have hM : M.ok = true := by
   cases hh : M.ok with
   | true => rfl
   | false => rw [hh, if_neg (by decide)] at hcd; exact absurd hcd (by decide)
  rw [if_pos hM] at hcd
  obtain ⟨hn, hlO4, hgood, hlE2, hec, hfw⟩ := plan_zero hcd
  conv => whnf
  refine WCall.mk (make_ok (hle1 _ _ hm) M (hO.mono hle1) (hE.mono hle1) hlO4 hlE2 hfw hM hgood) ?_
  rintro _ m2 ⟨w, z, rfl, hle2, hz, hsch⟩
  conv => whnf
  exact WRet.same ⟨hle1.trans hle2, w, z, rfl, hz, fun h => absurd rfl h, fun _ => hsch⟩
theorem take_cellsO (O : List OpR) (k : Nat) : ocs (O.take k) = (ocs O).take (k * 7) := by
 induction O generalizing k with
 | nil => simp [ocs]
 | cons e E ih =>
  cases k with
  | zero => simp [ocs]
  | succ k =>
   have h1 : ocs (e :: E) = e.cells ++ ocs E := by simp [ocs]
   have h2 : ocs (e :: E.take k) = e.cells ++ ocs (E.take k) := by simp [ocs]
   have hl : e.cells.length = 7 := rfl
   rw [List.take_succ_cons, h2, ih, h1, List.take_append, hl, show (k + 1) * 7 - 7 = k * 7 by omega, List.take_of_length_le (l := e.cells) (by rw [hl]; omega)]
theorem WApp.copy2 {m : Mem} {T sz bytes : Nat} {zero : List Value} {b1 : Nat} {A A' : Option Addr} {n n' : Nat} {K : Value → Mem → Prop} (hb1 : m b1 = some (Cells [] T)) (hA' : A' = A) (hn : n' = n) (new : List Value) (h : FirstCells m A (n * sz) new) (hA : A = none → n = 0)
  (hb : n * bytes ≤ 35184372088832) (k : ∀ b c m', Mem.le m m' → n ≤ c → CellsAt m' ⟨b, 0, none⟩ new → K (.slice (some ⟨b, 0, none⟩) n c) m') :
  WApp m T sz bytes zero (some ⟨b1, 0, none⟩) 0 0 A' n' K := by
 subst hA'; subst hn
 by_cases h0 : n' = 0
 ·subst h0
  have hnew : new = [] := List.length_eq_zero_iff.1 (by rw [h.1]; simp)
  subst hnew
  refine WApp.in [] h (fun _ => rfl) [] T (by omega) hb1 rfl (by simp) rfl ?_
  refine k b1 0 _ (fun b o hbo => ?_) (Nat.le_refl _) (fun j v hj => by simp at hj)
  by_cases e : b = b1
  ·subst e; rw [Mem.set_same]; rw [hb1] at hbo; exact hbo
  ·rw [Mem.set_other _ _ e]; exact hbo
 ·refine WApp.grow new h hA (by omega) (by rw [Nat.zero_add]; exact hb) [] ⟨by simp, fun ad _ j v hj => by simp at hj⟩ (fun _ => rfl) fun b c hbn hc => ?_
  rw [Nat.zero_add]
  refine k b c _ (Mem.le_set hbn) (by omega) ?_
  refine CellsAt.blk (Mem.set_same _ _ _) fun j v hj => ?_
  rw [List.nil_append, Nat.zero_add, List.getElem?_append_left (List.getElem?_eq_some_iff.1 hj).1]; exact hj
theorem few21_ok {m : Mem} {v u : Value} {O : List OpR} {E : List Edg} (hO : OAt m v O) (hE : EAt m u E) (hlO : O.length < 2 ^ 63) (hlE : E.length < 2 ^ 63) :
  CallsM Tryz.prog 25 [v, u] m fun e m' => ∃ v' u', e = .returned (.tuple ⟨[v', u']⟩) ∧ Mem.le m m' ∧ OAt m' v' (O.take 20) ∧ EAt m' u' (E.take 100) := by
 obtain ⟨a, c, rfl, h0, h1, hcap⟩ := hO
 obtain ⟨a2, c2, rfl, q0, q1, hcap2⟩ := hE
 refine calls_of mixed Tryz.func25 ok_biremelaw21_few rfl ?_
 have s1 : (if (20 : Int) < O.length then 20 else (O.length : Int)).toNat - 0 = (O.take 20).length := by
  rw [List.length_take]; split <;> omega
 have s2 : (if (100 : Int) < E.length then 100 else (E.length : Int)).toNat - 0 = (E.take 100).length := by
  rw [List.length_take]; split <;> omega
 have ap1 : ∀ (mm : Mem) (K : Value → Mem → Prop) (b1 : Nat) (A' : Option Addr) (n' : Nat), Mem.le m mm → mm b1 = some (Cells [] 80) → A' = a → n' = (O.take 20).length → (∀ w m', Mem.le mm m' → OAt m' w (O.take 20) → K w m') → WApp mm 80 7 56 zeros7 (some ⟨b1, 0, none⟩) 0 0 A' n' K := fun mm K b1 A' n' hle hb hA hn k =>
  WApp.copy2 hb hA hn (ocs (O.take 20)) ⟨ocs_len _, fun ad ha => by rw [take_cellsO]; exact CellsAt.take ((h1 ad ha).mono hle) _⟩ (fun ha => by rw [h0 ha]; rfl) (by rw [List.length_take]; omega) fun b cc m' hle2 hc2 hcells => k _ m' hle2 ⟨some ⟨b, 0, none⟩, cc, rfl, (fun h => by cases h), (fun ad ha => by cases ha; exact hcells), hc2⟩
 have ap2 : ∀ (mm : Mem) (K : Value → Mem → Prop) (b1 : Nat) (A' : Option Addr) (n' : Nat), Mem.le m mm → mm b1 = some (Cells [] 43) → A' = a2 → n' = (E.take 100).length → (∀ w m', Mem.le mm m' → EAt m' w (E.take 100) → K w m') → WApp mm 43 4 32 zero4 (some ⟨b1, 0, none⟩) 0 0 A' n' K := fun mm K b1 A' n' hle hb hA hn k =>
  WApp.copy2 hb hA hn (ecs (E.take 100)) ⟨ecs_len _, fun ad ha => by rw [take_cells]; exact CellsAt.take ((q1 ad ha).mono hle) _⟩ (fun ha => by rw [q0 ha]; rfl) (by rw [List.length_take]; omega) fun b cc m' hle2 hc2 hcells => k _ m' hle2 ⟨some ⟨b, 0, none⟩, cc, rfl, (fun h => by cases h), (fun ad ha => by cases ha; exact hcells), hc2⟩
 conv => whnf
 refine WSl.mk ⟨Int.le_refl _, ?_, ?_⟩ ?_
 ·show (0 : Int) ≤ if (20 : Int) < O.length then 20 else (O.length : Int)
  split <;> omega
 ·show (if (20 : Int) < O.length then 20 else (O.length : Int)) ≤ (c : Int)
  split <;> omega
 conv => whnf
 refine WSl.mk ⟨Int.le_refl _, ?_, ?_⟩ ?_
 ·show (0 : Int) ≤ if (100 : Int) < E.length then 100 else (E.length : Int)
  split <;> omega
 ·show (if (100 : Int) < E.length then 100 else (E.length : Int)) ≤ (c2 : Int)
  split <;> omega
 conv => whnf
 refine ⟨?_, ?_, trivial⟩
 ·conv => whnf
  refine WNew.mk fun b1 hb1 => ?_
  have l1 : Mem.le m (m.set b1 (Cells [] 80)) := Mem.le_set hb1
  have cb1 := Mem.set_same m b1 (Cells [] 80)
  generalize m.set b1 (Cells [] 80) = m1 at *
  conv => whnf
  refine ⟨?_, ?_, trivial⟩
  ·conv => whnf
   refine ap1 _ _ b1 _ _ l1 cb1 (if_map rfl) s1 fun w1 m2 l2 g1 => ?_
   conv => whnf
   refine ⟨?_, trivial⟩
   conv => whnf
   refine WNew.mk fun b2 hb2 => ?_
   have l3 : Mem.le m2 (m2.set b2 (Cells [] 43)) := Mem.le_set hb2
   have cb2 := Mem.set_same m2 b2 (Cells [] 43)
   generalize m2.set b2 (Cells [] 43) = m3 at *
   conv => whnf
   refine ⟨?_, trivial⟩
   conv => whnf
   refine ap2 _ _ b2 _ _ ((l1.trans l2).trans l3) cb2 (if_map rfl) s2 fun w2 m4 l4 g2 => ?_
   conv => whnf
   exact WRet.same ⟨w1, w2, rfl, ((l1.trans l2).trans l3).trans l4, g1.mono (l3.trans l4), g2⟩
  ·conv => whnf
   refine WNew.mk fun b2 hb2 => ?_
   have l3 : Mem.le m1 (m1.set b2 (Cells [] 43)) := Mem.le_set hb2
   have cb2 := Mem.set_same m1 b2 (Cells [] 43)
   generalize m1.set b2 (Cells [] 43) = m3 at *
   conv => whnf
   refine ⟨?_, trivial⟩
   conv => whnf
   refine ap1 _ _ b1 _ _ (l1.trans l3) (l3 _ _ cb1) (if_map rfl) s1 fun w1 m2 l2 g1 => ?_
   conv => whnf
   refine ⟨?_, trivial⟩
   conv => whnf
   refine ap2 _ _ b2 _ _ ((l1.trans l3).trans l2) (l2 _ _ cb2) (if_map rfl) s2 fun w2 m4 l4 g2 => ?_
   conv => whnf
   exact WRet.same ⟨w1, w2, rfl, ((l1.trans l3).trans l2).trans l4, g1.mono l4, g2⟩
 ·conv => whnf
  refine WNew.mk fun b2 hb2 => ?_
  have l1 : Mem.le m (m.set b2 (Cells [] 43)) := Mem.le_set hb2
  have cb2 := Mem.set_same m b2 (Cells [] 43)
  generalize m.set b2 (Cells [] 43) = m1 at *
  conv => whnf
  refine ⟨?_, trivial⟩
  conv => whnf
  refine WNew.mk fun b1 hb1 => ?_
  have l3 : Mem.le m1 (m1.set b1 (Cells [] 80)) := Mem.le_set hb1
  have cb1 := Mem.set_same m1 b1 (Cells [] 80)
  generalize m1.set b1 (Cells [] 80) = m3 at *
  conv => whnf
  refine ⟨?_, trivial⟩
  conv => whnf
  refine ap1 _ _ b1 _ _ (l1.trans l3) cb1 (if_map rfl) s1 fun w1 m2 l2 g1 => ?_
  conv => whnf
  refine ⟨?_, trivial⟩
  conv => whnf
  refine ap2 _ _ b2 _ _ ((l1.trans l3).trans l2) (l2 _ _ (l3 _ _ cb2)) (if_map rfl) s2 fun w2 m4 l4 g2 => ?_
  conv => whnf
  exact WRet.same ⟨w1, w2, rfl, ((l1.trans l3).trans l2).trans l4, g1.mono l4, g2⟩
theorem listPlans_law {m : Mem} {v u : Value} (M : Mac) {O : List OpR} {E : List Edg} (hO : OAt m v O) (hE : EAt m u E) (hlO : O.length < 2 ^ 63) (hlE : E.length < 2 ^ 63) (hR : ∀ e ∈ E, e.r ≤ 9223372036854775807) {T : Nat} {fr : Nat × Nat} (hm : m 0 = some (.cells ⟨cells0⟩ T fr)) (n : Int)
  (hal : ∀ m', Mem.le m m' → CallsM Tryz.prog 29 [] m' fun e m'' => e = .returned (.bool true) ∧ m'' = m') :
  CallsM Tryz.prog 8 [i n, M.val, v, u] m fun e m' => e = .returned (.bool true) ∧ Mem.le m m' := by
 have hsl : ∃ a c, v = .slice a O.length c := by obtain ⟨a, c, e, _⟩ := hO; exact ⟨a, c, e⟩
 obtain ⟨a, c, rfl⟩ := hsl
 have hsl2 : ∃ a c, u = .slice a E.length c := by obtain ⟨a, c, e, _⟩ := hE; exact ⟨a, c, e⟩
 obtain ⟨a2, c2, rfl⟩ := hsl2
 refine calls_of mixed Tryz.func8 ok_biremelaw21_ListPlans rfl ?_
 conv => whnf
 refine WCall.mk (few21_ok hO hE hlO hlE) ?_
 rintro _ m1 ⟨v1, u1, rfl, l1, hO1, hE1⟩
 conv => whnf
 refine WCall.mk (few21_ok (hO.mono l1) (hE.mono l1) hlO hlE) ?_
 rintro _ m2 ⟨v2, u2, rfl, l2, hO2, hE2⟩
 have hO1' := hO1.mono l2
 have hE1' := hE1.mono l2
 have hlO2 : (O.take 20).length ≤ 20 := by rw [List.length_take]; omega
 have hlE2 : (E.take 100).length ≤ 100 := by rw [List.length_take]; omega
 have hR2 : ∀ e ∈ E.take 100, e.r ≤ 9223372036854775807 := fun e he => hR e (List.mem_of_mem_take he)
 generalize O.take 20 = P at *
 generalize E.take 100 = F at *
 have hl2 := l1.trans l2
 conv => whnf
 refine WCall.mk (plan_ok (hl2 _ _ hm) M hO2 hE2 (by omega) (by omega) hR2 n) ?_
 rintro _ m3 ⟨l3, w, z, rfl, hw, hz1, hz2⟩
 have hl3 := hl2.trans l3
 have hO3 := hO1'.mono l3
 have hE3 := hE1'.mono l3
 obtain ⟨aw, cw, rfl, hw0, hw1, hwc⟩ := hw
 conv => whnf
 refine WCall.pure (refCheck_ok _ M) ?_
 cases hM : M.ok with
 | false =>
  rw [hM] at hz1
  simp only [hM, if_neg (show ¬ (false = true) by decide)] at hz1 ⊢
  have hz := hz1 (by decide)
  conv => whnf
  refine Br.mk (fun h => by cases h) (fun _ => ?_)
  conv => whnf
  refine Br.mk (fun _ => ?_) (fun h => by cases h)
  conv => whnf
  refine WSc.mk (v := true) (fun _ => ?_) ?_
  ·conv => whnf
   refine And.intro (Mem.le.refl _) ?_
   show some (Value.bool (((z.length : Nat) : Int) == 0)) = some (Value.bool true)
   rw [hz]; rfl
  conv => whnf
  refine WSc.mk (v := true) (fun _ => ?_) ?_
  ·conv => whnf
   refine WCall.pure (hal _ hl3) ?_
   exact And.intro (Mem.le.refl _) rfl
  conv => whnf
  exact WRet.same ⟨rfl, hl3⟩
 | true =>
  simp only [hM, if_pos] at hz1 hz2 ⊢
  conv => whnf
  refine Br.mk (fun _ => ?_) (fun h => by cases h)
  conv => whnf
  refine WCall.mk (refPlan_ok M hO3 hE3 (by omega) (by omega) n) ?_
  rintro _ m4 ⟨rfl, l4⟩
  have hl4 := hl3.trans l4
  generalize hcd : planCode n M P F = cd at *
  conv => whnf
  refine Br.mk (fun hb => ?_) (fun hb => ?_)
  ·have hne : cd ≠ 0 := by simpa using hb
   have hz := hz1 hne
   have hee : (cd == cd) = true := by simp
   conv => whnf
   rw [hee]
   refine WSc.mk (v := true) (fun _ => ?_) ?_
   ·conv => whnf
    refine And.intro (Mem.le.refl _) ?_
    show some (Value.bool (((z.length : Nat) : Int) == 0)) = some (Value.bool true)
    rw [hz]; rfl
   conv => whnf
   refine WSc.mk (v := true) (fun _ => ?_) ?_
   ·conv => whnf
    refine WCall.pure (hal _ hl4) ?_
    exact And.intro (Mem.le.refl _) rfl
   conv => whnf
   exact WRet.same ⟨rfl, hl4⟩
  ·have h0 : cd = 0 := by simpa using hb
   subst h0
   obtain ⟨hn, hlO4, hgood, hlE4, hec, hfw⟩ := plan_zero hcd
   have hsch := hz2 rfl
   subst hn
   have hIz : IAt m4 (.slice aw z.length cw) z := ⟨aw, cw, rfl, hw0, fun ad ha => (hw1 ad ha).mono l4, hwc⟩
   conv => whnf
   refine WSc.mk (v := true) (fun _ => ?_) ?_
   ·conv => whnf
    refine WCall.mk (refList_ok M (hO3.mono l4) (hE3.mono l4) hlO4 hlE4 hM hgood hfw hec) ?_
    rintro _ m5 ⟨w5, z5, rfl, l5, hI5, hsch5⟩
    have hzz : z = z5 := hsch.det hsch5
    subst hzz
    conv => whnf
    have hll : z.length < 2 ^ 63 := by
     have := hsch.len (by simp [noneC])
     omega
    refine WCall.pure (ints21_ok (hIz.mono l5) hI5 hll) ?_
    conv => whnf
    refine And.intro l5 ?_
    show some (Value.bool (decide (z = z))) = some (Value.bool true)
    rw [decide_eq_true rfl]
   conv => whnf
   refine WSc.mk (v := true) (fun _ => ?_) ?_
   ·conv => whnf
    refine WCall.pure (hal _ hl4) ?_
    exact And.intro (Mem.le.refl _) rfl
   conv => whnf
   exact WRet.same ⟨rfl, hl4⟩
theorem listPlans_ok {m : Mem} {v u : Value} (M : Mac) {O : List OpR} {E : List Edg} (hO : OAt m v O) (hlO : O.length < 2 ^ 63) (hE : EAt m u E) (hlE : E.length < 2 ^ 63) (hR : ∀ e ∈ E, e.r ≤ 9223372036854775807) (n : Int) {T : Nat} {fr : Nat × Nat} (hm : m 0 = some (.cells ⟨cells0⟩ T fr)) :
  CallsM Tryz.prog 8 [i n, M.val, v, u] m fun e m' => e = .returned (.bool true) ∧ Mem.le m m' := listPlans_law M hO hE hlO hlE hR hm n fun _ h => alive21_calls (h _ _ hm)
end Go.Proofs.YtmnagbhllnlelaaGreatDoor
