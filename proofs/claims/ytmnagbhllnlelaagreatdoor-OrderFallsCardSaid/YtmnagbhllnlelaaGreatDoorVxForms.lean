/- Contracts of order.Forms, order.Heights and the law OrderHeights. -/
import Derived.Test.YtmnagbhllnlelaaGreatDoorVxUp
import Derived.Test.YtmnagbhllnlelaaGreatDoorVxAl20
set_option linter.unusedSimpArgs false
set_option linter.unusedVariables false
set_option maxRecDepth 100000
namespace Go.Proofs.YtmnagbhllnlelaaGreatDoor
open Go Go.Vx
open Go.Vx.IOp Go.Vx.IR Go.Vx.Opd
theorem fwd1_ok (m : Mem) (e : Edg) : PureM Tryz.prog 153 [e.val] m (.bool (backW true e)) := by
  refine calls_of mixed Tryz.func153 ok_order_Forward_1 rfl ?_
  conv => whnf
  refine WSc.mk (fun _ => And.intro (Mem.le.refl _) rfl) ?_
  conv => whnf
  refine WRet.same ⟨?_, rfl⟩
  unfold backW
  simp only [scB, Bool.true_and, resVal]
  rfl
theorem fwd_ok {m : Mem} {v : Value} {E : List Edg} (hv : EAt m v E) (hlen : E.length < 2 ^ 63) : PureM Tryz.prog 100 [v] m (.bool (!(E.any (backW true)))) := by
  refine calls_of mixed Tryz.func100 ok_order_Forward rfl ?_
  conv => whnf
  refine WCall.pure (contains_edge hv hlen (backW true) fun x _ => fwd1_ok m x) ?_
  conv => whnf
  exact WRet.same ⟨rfl, rfl⟩
theorem sub1 {m : Mem} {a : Option Addr} {c : Nat} {E : List Edg} (h1 : ∀ ad, a = some ad → CellsAt m ad (ecs E)) (h0 : a = none → E = []) {k : Nat} (hk : k < E.length) (hcap : E.length ≤ c) {A : Option Addr} {n c' : Nat}
    (hA : A = if (c : Int) = k then a else a.map (·.add (k * 4))) (hn : n = 1) (hc : c' = c - k) : EAt m (.slice A n c') [E[k]] := by
  subst hA; subst hn; subst hc
  rw [if_neg (by omega)]
  refine ⟨_, _, rfl, fun h => ?_, fun ad had => ?_, by simp; omega⟩
  · cases a with
    | none => rw [h0 rfl] at hk; simp at hk
    | some ad => simp at h
  · cases a with
    | none => simp at had
    | some ad0 =>
      simp only [Option.map_some, Option.some.injEq] at had
      subst had
      have := EAt.cells (h1 ad0 rfl) hk
      simpa [ecs] using this
theorem right_one {n : Int} (h1 : 0 ≤ n) (h2 : n ≤ 401) {e : Edg} (hr : e.r ≤ 9223372036854775807) : rightS n 9223372036854775807 [e] = bif badW n true e then 2 else 0 := by
  unfold rightS
  rw [if_neg (by simp; omega), if_neg (by omega)]
  have : badR n 9223372036854775807 e = badW n true e := by
    unfold badR badW
    rw [decide_eq_false (p := e.r > 9223372036854775807) (by omega)]
    simp
  simp only [firstCode, this]
  cases badW n true e <;> rfl
theorem forms_ok {m : Mem} {v : Value} {E : List Edg} (hv : EAt m v E) (hlen : E.length < 2 ^ 63) (hR : ∀ e ∈ E, e.r ≤ 9223372036854775807) (n : Int) :
    PureM Tryz.prog 57 [i n, v] m (i (if n > 401 ∨ E.length > 200000 then 3 else if n < 0 then 2 else firstCode (cdW n true) E)) := by
  obtain ⟨a, c, rfl, h0, h1, hcap⟩ := hv
  refine calls_of mixed Tryz.func57 ok_order_Forms rfl ?_
  conv => whnf
  refine Br.mk (fun hb => ?_) (fun hb => ?_)
  · conv => whnf
    refine WRet.same ⟨?_, rfl⟩
    simp only [decide_eq_true_eq] at hb
    rw [if_pos (by omega)]; rfl
  simp only [decide_eq_false_iff_not] at hb
  conv => whnf
  refine WCall.pure (right_ok ⟨none, 0, rfl, fun _ => rfl, (fun ad h => by cases h), Nat.le_refl _⟩ (by decide) n 0) ?_
  conv => whnf
  refine Br.mk (fun hb2 => ?_) (fun hb2 => ?_)
  · conv => whnf
    refine WRet.same ⟨?_, rfl⟩
    simp only [bne_iff_ne] at hb2
    unfold rightS at hb2 ⊢
    by_cases c1 : n > 401
    · rw [if_pos (.inl c1), if_pos (.inl c1)]; rfl
    · by_cases c2 : n < 0
      · rw [if_neg (by simp; omega), if_pos c2, if_neg (by omega), if_pos c2]; rfl
      · rw [if_neg (by simp; omega), if_neg c2] at hb2; exact absurd rfl hb2
  simp only [bne_eq_false_iff_eq] at hb2
  have c1 : ¬ n > 401 := fun h => by unfold rightS at hb2; rw [if_pos (.inl h)] at hb2; cases hb2
  have c2 : ¬ n < 0 := fun h => by unfold rightS at hb2; rw [if_neg (by simp; omega), if_pos h] at hb2; cases hb2
  rw [if_neg (by omega), if_neg c2]
  conv => whnf
  refine WLoop.mk Nat (fun k => [(18, .val (i k))]) (fun k m' => m = m' ∧ k ≤ E.length ∧ ∀ j (hj : j < E.length), j < k → cdW n true E[j] = 0) (fun k => E.length - k) 0 ⟨rfl, trivial⟩ ⟨rfl, Nat.zero_le _, fun j hj h => by omega⟩ ?_
  rintro k m' ⟨rfl, hk, hq⟩
  conv => whnf
  refine Br.mk (fun hb3 => ?_) (fun hb3 => ?_)
  · have hk2 : k < E.length := by simpa using hb3
    conv => whnf
    refine WRng.mk (by apply wrap_i64 <;> omega) ?_
    conv => whnf
    refine WSl.mk ⟨by omega, by omega, by omega⟩ ?_
    conv => whnf
    refine WCall.pure (right_ok (sub1 h1 h0 hk2 hcap rfl (by omega) (by omega)) (by simp) n 9223372036854775807) ?_
    rw [right_one (by omega) (by omega) (hR _ (List.getElem_mem hk2))]
    conv => whnf
    refine Br.mk (fun hb4 => ?_) (fun hb4 => ?_)
    · conv => whnf
      refine WRet.same ⟨?_, rfl⟩
      have hbad : badW n true E[k] = true := by
        cases h : badW n true E[k] with
        | true => rfl
        | false => rw [h] at hb4; simp at hb4
      have hc : cdW n true E[k] = 2 := by unfold cdW; rw [hbad]; rfl
      rw [firstCode_at hk2 hq (by rw [hc]; decide), hc, hbad]; rfl
    have hbad : badW n true E[k] = false := by
      cases h : badW n true E[k] with
      | false => rfl
      | true => rw [h] at hb4; simp at hb4
    conv => whnf
    refine WRng.mk (by apply wrap_i64 <;> omega) ?_
    conv => whnf
    refine WSl.mk ⟨by omega, by omega, by omega⟩ ?_
    conv => whnf
    refine WCall.pure (fwd_ok (sub1 h1 h0 hk2 hcap rfl (by omega) (by omega)) (by simp)) ?_
    conv => whnf
    refine Br.mk (fun hb5 => ?_) (fun hb5 => ?_)
    · conv => whnf
      refine WRet.same ⟨?_, rfl⟩
      have hback : backW true E[k] = true := by simpa using hb5
      have hc : cdW n true E[k] = 4 := by unfold cdW; rw [hbad, hback]; rfl
      rw [firstCode_at hk2 hq (by rw [hc]; decide), hc]; rfl
    · conv => whnf
      have hback : backW true E[k] = false := by simpa using hb5
      refine WRng.mk (by apply wrap_i64 <;> omega) ?_
      conv => whnf
      refine ⟨k + 1, ⟨rfl, trivial⟩, ⟨rfl, hk2, fun j hj h => ?_⟩, by omega⟩
      by_cases e : j = k
      · subst e; unfold cdW; rw [hbad, hback]; rfl
      · exact hq j hj (by omega)
  · have hk2 : ¬ k < E.length := by simpa using hb3
    conv => whnf
    refine WRet.same ⟨?_, rfl⟩
    rw [firstCode_end fun j hj => hq j hj (by omega)]; rfl
theorem heights_ok {m : Mem} {v : Value} {E : List Edg} (hv : EAt m v E) (hlen : E.length < 2 ^ 63) (hR : ∀ e ∈ E, e.r ≤ 9223372036854775807) (n : Int) :
    CallsM Tryz.prog 23 [i n, v] m fun e m' => ∃ u, e = .returned (.tuple ⟨[u, i (heightsS n E).2]⟩) ∧ Mem.le m m' ∧ IAt m' u (heightsS n E).1 := by
  have hnil : ∀ m' : Mem, IAt m' ns [] := fun m' => ⟨none, 0, rfl, fun _ => rfl, (fun ad h => by cases h), Nat.le_refl _⟩
  refine calls_of mixed Tryz.func23 ok_order_Heights rfl ?_
  unfold heightsS
  conv => whnf
  refine WCall.pure (forms_ok hv hlen hR n) ?_
  conv => whnf
  refine Br.mk (fun hb => ?_) (fun hb => ?_)
  · conv => whnf
    simp only [bne_iff_ne] at hb
    refine WRet.same ⟨ns, ?_, Mem.le.refl _, ?_⟩
    · by_cases c1 : n > 401 ∨ E.length > 200000
      · rw [if_pos c1, if_pos c1]; rfl
      · rw [if_neg c1] at hb ⊢; rw [if_neg c1]
        by_cases c2 : n < 0
        · rw [if_pos c2, if_pos c2]; rfl
        · rw [if_neg c2] at hb ⊢; rw [if_neg c2, if_pos hb]; rfl
    · by_cases c1 : n > 401 ∨ E.length > 200000
      · rw [if_pos c1]; exact hnil m
      · rw [if_neg c1] at hb ⊢
        by_cases c2 : n < 0
        · rw [if_pos c2]; exact hnil m
        · rw [if_neg c2] at hb ⊢; rw [if_pos hb]; exact hnil m
  simp only [bne_eq_false_iff_eq] at hb
  have c1 : ¬ (n > 401 ∨ E.length > 200000) := fun h => by rw [if_pos h] at hb; cases hb
  rw [if_neg c1] at hb ⊢
  have c2 : ¬ n < 0 := fun h => by rw [if_pos h] at hb; cases hb
  rw [if_neg c2] at hb ⊢
  rw [if_neg (by rw [hb]; simp)]
  obtain ⟨N, rfl⟩ : ∃ N : Nat, n = N := ⟨n.toNat, by omega⟩
  simp only [Int.toNat_natCast]
  conv => whnf
  refine WCall.mk (up_ok hv hlen (by omega) (fwd_of hb) (by omega)) ?_
  rintro _ m2 ⟨u, rfl, hle, hu⟩
  conv => whnf
  exact WRet.same ⟨u, rfl, hle, hu⟩
theorem fold_len (k : Nat) : ∀ (L : List Edg) (out : List Int), (L.foldl (relax k) out).length = out.length
  | [], _ => rfl
  | e :: L, out => by rw [List.foldl_cons, fold_len k L]; unfold relax; simp
theorem hgt_len (E : List Edg) : ∀ (k : Nat) (out : List Int), (hgt E k out).length = out.length
  | 0, _ => rfl
  | k + 1, out => by
    show (hgt E k (rowH E k out)).length = _
    rw [hgt_len E k]; exact fold_len _ _ _
theorem heights_len (n : Int) (E : List Edg) : (heightsS n E).1.length ≤ 401 := by
  unfold heightsS
  split
  · simp
  split
  · simp
  split
  · simp
  · simp only [hgt_len, List.length_replicate]; omega
theorem orderHeights_ok {m : Mem} {v : Value} {E : List Edg} {n : Int} (hv : EAt m v E) (hlen : E.length < 2 ^ 63) (hR : ∀ e ∈ E, e.r ≤ 9223372036854775807) {T : Nat} {fr : Nat × Nat} (hm : m 0 = some (.cells ⟨cells0⟩ T fr)) :
    CallsM Tryz.prog 6 [i n, v] m fun e m' => e = .returned (.bool true) ∧ Mem.le m m' := by
  have hl200 : (E.take 200).length < 2 ^ 63 := by rw [List.length_take]; omega
  have hR2 : ∀ e ∈ E.take 200, e.r ≤ 9223372036854775807 := fun e he => hR e (List.mem_of_mem_take he)
  refine calls_of mixed Tryz.func6 ok_biremelaw20_OrderHeights rfl ?_
  conv => whnf
  refine WCall.mk (few_ok hv hlen) ?_
  rintro _ m1 ⟨w1, rfl, hle1, hw1⟩
  conv => whnf
  refine WCall.mk (heights_ok hw1 hl200 hR2 n) ?_
  rintro _ m2 ⟨h, rfl, hle2, hh⟩
  conv => whnf
  refine WCall.mk (few_ok (hv.mono (hle1.trans hle2)) hlen) ?_
  rintro _ m3 ⟨w2, rfl, hle3, hw2⟩
  conv => whnf
  refine WCall.mk (refHeights_ok hw2 hl200 n) ?_
  rintro _ m4 ⟨k, rfl, hle4, hk⟩
  have hh4 := (hh.mono hle3).mono hle4
  have hcl := heights_len n (E.take 200)
  generalize (heightsS n (E.take 200)).1 = C at hh4 hk hcl
  obtain ⟨a1, c1, rfl, p0, p1, p2⟩ := hh4
  obtain ⟨a2, c2, rfl, r0, r1, r2⟩ := hk
  conv => whnf
  refine WSc.mk (fun _ => And.intro (Mem.le.refl _) rfl) ?_
  conv => whnf
  refine Br.mk (fun hb => ?_) (fun hb => ?_)
  · simp [scB] at hb
  conv => whnf
  refine WLoop.mk Nat (fun k => [(9, .val (i k))]) (fun k m' => m4 = m' ∧ k ≤ C.length) (fun k => C.length - k) 0 ⟨rfl, trivial⟩ ⟨rfl, Nat.zero_le _⟩ ?_
  rintro k m' ⟨rfl, hk⟩
  conv => whnf
  refine Br.mk (fun hb0 => ?_) (fun hb0 => ?_)
  · have hk2 : k < C.length := by simpa using hb0
    conv => whnf
    obtain ⟨ad1, rfl⟩ : ∃ ad, a1 = some ad := by
      cases a1 with
      | none => rw [p0 rfl] at hk2; simp at hk2
      | some ad => exact ⟨ad, rfl⟩
    obtain ⟨ad2, rfl⟩ : ∃ ad, a2 = some ad := by
      cases a2 with
      | none => rw [r0 rfl] at hk2; simp at hk2
      | some ad => exact ⟨ad, rfl⟩
    refine WIdx.mk ad1 rfl ⟨by omega, by simpa using hk2⟩ ?_
    conv => whnf
    refine WLd.mk (i C[k]) (by simpa using IAt.cell (p1 ad1 rfl) hk2) ?_
    conv => whnf
    refine WIdx.mk ad2 rfl ⟨by omega, by simpa using hk2⟩ ?_
    conv => whnf
    refine WLd.mk (i C[k]) (by simpa using IAt.cell (r1 ad2 rfl) hk2) ?_
    conv => whnf
    refine Br.mk (fun hb0 => ?_) (fun hb0 => ?_)
    · simp at hb0
    conv => whnf
    refine WRng.mk (by apply wrap_i64 <;> omega) ?_
    conv => whnf
    exact ⟨k + 1, ⟨rfl, trivial⟩, ⟨rfl, hk2⟩, by omega⟩
  conv => whnf
  refine WCall.pure (alive20_calls (T := T) (fr := fr) (hle4 _ _ (hle3 _ _ (hle2 _ _ (hle1 _ _ hm))))) ?_
  conv => whnf
  exact WRet.same ⟨rfl, ((hle1.trans hle2).trans hle3).trans hle4⟩
end Go.Proofs.YtmnagbhllnlelaaGreatDoor
