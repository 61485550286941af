/- Contracts of order.Forms, order.Heights and the law OrderHeights. -/
import Derived.Test.YtmnagbhllnlelaaGreatDoorVxUp
import Derived.Test.YtmnagbhllnlelaaGreatDoorVxEvRun
import Derived.KernelRfl
import Derived.Test.YtmnagbhllnlelaaGreatDoorVxHgt
set_option linter.unusedSimpArgs false
set_option linter.unusedVariables false
set_option maxRecDepth 100000
namespace Go.Proofs.YtmnagbhllnlelaaGreatDoor
open Go Go.Vx
open Go.Vx.IOp Go.Vx.IR Go.Vx.Opd
theorem fwd1_ok (m : Mem) (e : Edg) : PureM Tryz.prog 153 [e.val] m (.bool (backW true e)) := by
 refine calls_of mixed Tryz.func153 ok_order_Forward_1 rfl ?_
 conv => whnf
 refine WSc.mk (fun _ => And.intro (Mem.le.refl _) rfl) ?_
 conv => whnf
 refine WRet.same ⟨?_, rfl⟩
 unfold backW
 simp only [scB, Bool.true_and, resVal]
 rfl
theorem fwd_ok {m : Mem} {v : Value} {E : List Edg} (hv : EAt m v E) (hlen : E.length < 2 ^ 63) : PureM Tryz.prog 100 [v] m (.bool (!(E.any (backW true)))) := by
 refine calls_of mixed Tryz.func100 ok_order_Forward rfl ?_
 conv => whnf
 refine WCall.pure (contains_edge hv hlen (backW true) fun x _ => fwd1_ok m x) ?_
 conv => whnf
 exact WRet.same ⟨rfl, rfl⟩
theorem sub1 {m : Mem} {a : Option Addr} {c : Nat} {E : List Edg} (h1 : ∀ ad, a = some ad → CellsAt m ad (ecs E)) (h0 : a = none → E = []) {k : Nat} (hk : k < E.length) (hcap : E.length ≤ c) {A : Option Addr} {n c' : Nat}
  (hA : A = if (c : Int) = k then a else a.map (·.add (k * 4))) (hn : n = 1) (hc : c' = c - k) : EAt m (.slice A n c') [E[k]] := by
 subst hA; subst hn; subst hc
 rw [if_neg (by omega)]
 refine ⟨_, _, rfl, fun h => ?_, fun ad had => ?_, by simp; omega⟩
 ·cases a with
  | none => rw [h0 rfl] at hk; simp at hk
  | some ad => simp at h
 ·cases a with
  | none => simp at had
  | some ad0 =>
   simp only [Option.map_some, Option.some.injEq] at had
   subst had
   have := EAt.cells (h1 ad0 rfl) hk
   simpa [ecs] using this
theorem right_one {n : Int} (h1 : 0 ≤ n) (h2 : n ≤ 401) {e : Edg} (hr : e.r ≤ 9223372036854775807) : rightS n 9223372036854775807 [e] = bif badW n true e then 2 else 0 := by
 unfold rightS
 rw [if_neg (by simp; omega), if_neg (by omega)]
 have : badR n 9223372036854775807 e = badW n true e := by
  unfold badR badW
  rw [decide_eq_false (p := e.r > 9223372036854775807) (by omega)]
  simp
 simp only [firstCode, this]
 cases badW n true e <;> rfl
theorem forms_ok {m : Mem} {v : Value} {E : List Edg} (hv : EAt m v E) (hlen : E.length < 2 ^ 63) (hR : ∀ e ∈ E, e.r ≤ 9223372036854775807) (n : Int) :
  PureM Tryz.prog 57 [i n, v] m (i (if n > 401 ∨ E.length > 200000 then 3 else if n < 0 then 2 else firstCode (cdW n true) E)) := by
 obtain ⟨a, c, rfl, h0, h1, hcap⟩ := hv
 refine calls_of mixed Tryz.func57 ok_order_Forms rfl ?_
 conv => whnf
 refine Br.mk (fun hb => ?_) (fun hb => ?_)
 ·conv => whnf
  refine WRet.same ⟨?_, rfl⟩
  simp only [decide_eq_true_eq] at hb
  rw [if_pos (by omega)]; rfl
 simp only [decide_eq_false_iff_not] at hb
 conv => whnf
 refine WCall.pure (right_ok ⟨none, 0, rfl, fun _ => rfl, (fun ad h => by cases h), Nat.le_refl _⟩ (by decide) n 0) ?_
 conv => whnf
 refine Br.mk (fun hb2 => ?_) (fun hb2 => ?_)
 ·conv => whnf
  refine WRet.same ⟨?_, rfl⟩
  simp only [bne_iff_ne] at hb2
  unfold rightS at hb2 ⊢
  by_cases c1 : n > 401
  ·rw [if_pos (.inl c1), if_pos (.inl c1)]; rfl
  ·by_cases c2 : n < 0
   ·rw [if_neg (by simp; omega), if_pos c2, if_neg (by omega), if_pos c2]; rfl
   ·rw [if_neg (by simp; omega), if_neg c2] at hb2; exact absurd rfl hb2
 simp only [bne_eq_false_iff_eq] at hb2
 have c1 : ¬ n > 401 := fun h => by unfold rightS at hb2; rw [if_pos (.inl h)] at hb2; cases hb2
 have c2 : ¬ n < 0 := fun h => by unfold rightS at hb2; rw [if_neg (by simp; omega), if_pos h] at hb2; cases hb2
 rw [if_neg (by omega), if_neg c2]
 conv => whnf
 refine WLoop.mk Nat (fun k => [(18, .val (i k))]) (fun k m' => m = m' ∧ k ≤ E.length ∧ ∀ j (hj : j < E.length), j < k → cdW n true E[j] = 0) (fun k => E.length - k) 0 ⟨rfl, trivial⟩ ⟨rfl, Nat.zero_le _, fun j hj h => by omega⟩ ?_
 rintro k m' ⟨rfl, hk, hq⟩
 conv => whnf
 refine Br.mk (fun hb3 => ?_) (fun hb3 => ?_)
 ·have hk2 : k < E.length := by simpa using hb3
  conv => whnf
  refine WRng.mk (by apply wrap_i64 <;> omega) ?_
  conv => whnf
  refine WSl.mk ⟨by omega, by omega, by omega⟩ ?_
  conv => whnf
  refine WCall.pure (right_ok (sub1 h1 h0 hk2 hcap rfl (by omega) (by omega)) (by simp) n 9223372036854775807) ?_
  rw [right_one (by omega) (by omega) (hR _ (List.getElem_mem hk2))]
  conv => whnf
  refine Br.mk (fun hb4 => ?_) (fun hb4 => ?_)
  ·conv => whnf
   refine WRet.same ⟨?_, rfl⟩
   have hbad : badW n true E[k] = true := by
    cases h : badW n true E[k] with
    | true => rfl
    | false => rw [h] at hb4; simp at hb4
   have hc : cdW n true E[k] = 2 := by unfold cdW; rw [hbad]; rfl
   rw [firstCode_at hk2 hq (by rw [hc]; decide), hc, hbad]; rfl
  have hbad : badW n true E[k] = false := by
   cases h : badW n true E[k] with
   | false => rfl
   | true => rw [h] at hb4; simp at hb4
  conv => whnf
  refine WRng.mk (by apply wrap_i64 <;> omega) ?_
  conv => whnf
  refine WSl.mk ⟨by omega, by omega, by omega⟩ ?_
  conv => whnf
  refine WCall.pure (fwd_ok (sub1 h1 h0 hk2 hcap rfl (by omega) (by omega)) (by simp)) ?_
  conv => whnf
  refine Br.mk (fun hb5 => ?_) (fun hb5 => ?_)
  ·conv => whnf
   refine WRet.same ⟨?_, rfl⟩
   have hback : backW true E[k] = true := by simpa using hb5
   have hc : cdW n true E[k] = 4 := by unfold cdW; rw [hbad, hback]; rfl
   rw [firstCode_at hk2 hq (by rw [hc]; decide), hc]; rfl
  ·conv => whnf
   have hback : backW true E[k] = false := by simpa using hb5
   refine WRng.mk (by apply wrap_i64 <;> omega) ?_
   conv => whnf
   refine ⟨k + 1, ⟨rfl, trivial⟩, ⟨rfl, hk2, fun j hj h => ?_⟩, by omega⟩
   by_cases e : j = k
   ·subst e; unfold cdW; rw [hbad, hback]; rfl
   ·exact hq j hj (by omega)
 ·have hk2 : ¬ k < E.length := by simpa using hb3
  conv => whnf
  refine WRet.same ⟨?_, rfl⟩
  rw [firstCode_end fun j hj => hq j hj (by omega)]; rfl
end Go.Proofs.YtmnagbhllnlelaaGreatDoor
set_option linter.unusedSimpArgs false
set_option linter.unusedVariables false
set_option maxRecDepth 100000
namespace Go.Proofs.YtmnagbhllnlelaaGreatDoor
open Go Go.Vx
open Go.Vx.IOp Go.Vx.IR Go.Vx.Opd
/-! The plain law of heights. -/
theorem fold_law {n k : Nat} (hk : k < n) : ∀ (L : List Edg) (out : List Int), out.length = n → (∀ e ∈ L, Fwd n e ∧ e.f = k ∧ e.r = 0) →
  (∀ j, j ≠ k → (L.foldl (relax k) out).getD j 0 = out.getD j 0) ∧ out.getD k 0 ≤ (L.foldl (relax k) out).getD k 0 ∧
  (∀ e ∈ L, out.getD e.t.toNat 0 + e.d ≤ (L.foldl (relax k) out).getD k 0) ∧
  ((L.foldl (relax k) out).getD k 0 = out.getD k 0 ∨ ∃ e ∈ L, (L.foldl (relax k) out).getD k 0 = out.getD e.t.toNat 0 + e.d)
 | [], out, _, _ => ⟨fun _ _ => rfl, Int.le_refl _, (fun e h => by cases h), .inl rfl⟩
 | e :: L, out, hl, hL => by
  obtain ⟨hf, h1, h2⟩ := hL e (by simp)
  have hup := hf.up h2
  have htk : e.t.toNat ≠ k := by omega
  have o1 : ∀ j, (relax k out e).getD j 0 = if j = k then max (out.getD k 0) (out.getD e.t.toNat 0 + e.d) else out.getD j 0 := fun j => by
   unfold relax; rw [getD_set (by omega)]
  obtain ⟨i1, i2, i3, i4⟩ := fold_law hk L (relax k out e) (by unfold relax; simp [hl]) fun x hx => hL x (by simp [hx])
  have ok := o1 k
  rw [if_pos rfl] at ok
  rw [List.foldl_cons]
  have tk : ∀ x ∈ L, (relax k out e).getD x.t.toNat 0 = out.getD x.t.toNat 0 := fun x hx => by
   obtain ⟨gf, g1, g2⟩ := hL x (by simp [hx])
   have := gf.up g2
   rw [o1, if_neg (by omega)]
  refine ⟨fun j hj => by rw [i1 j hj, o1, if_neg hj], by rw [ok] at i2; omega, fun x hx => ?_, ?_⟩
  ·rcases List.mem_cons.1 hx with rfl | hx
   ·rw [ok] at i2; omega
   ·have := i3 x hx; rw [tk x hx] at this; exact this
  ·rcases i4 with h | ⟨x, hx, h⟩
   ·rw [h, ok]
    by_cases c : out.getD e.t.toNat 0 + e.d ≤ out.getD k 0
    ·exact .inl (by omega)
    ·exact .inr ⟨e, by simp, by omega⟩
   ·exact .inr ⟨x, by simp [hx], by rw [h, tk x hx]⟩
def LawA (E : List Edg) (k : Nat) (out : List Int) : Prop := ∀ e ∈ E, e.r = 0 → (k : Int) ≤ e.f → out.getD e.t.toNat 0 + e.d ≤ out.getD e.f.toNat 0
def LawB (E : List Edg) (n k : Nat) (out : List Int) : Prop := ∀ j, k ≤ j → j < n → 0 < out.getD j 0 → ∃ e ∈ E, e.r = 0 ∧ e.f = j ∧ out.getD j 0 = out.getD e.t.toNat 0 + e.d
theorem hgt_law {E : List Edg} {n : Nat} (hE : ∀ e ∈ E, Fwd n e) : ∀ (k : Nat) (out : List Int), k ≤ n → Bnd n out → (∀ j, j < k → out.getD j 0 = 0) → LawA E k out → LawB E n k out →
  Bnd n (hgt E k out) ∧ LawA E 0 (hgt E k out) ∧ LawB E n 0 (hgt E k out)
 | 0, out, _, hb, _, ha, hB => ⟨hb, ha, hB⟩
 | k + 1, out, hk, hb, h0, ha, hB => by
  have hL := filt_ok (k := k) hE
  obtain ⟨i1, i2, i3, i4⟩ := fold_law (n := n) (by omega) (E.filter (atK k)) out hb.1 hL
  have hrow : rowH E k out = (E.filter (atK k)).foldl (relax k) out := rfl
  rw [← hrow] at i1 i2 i3 i4
  show Bnd n (hgt E k (rowH E k out)) ∧ _
  refine hgt_law hE k (rowH E k out) (by omega) (bnd_fold hb hL) (fun j hj => by rw [i1 j (by omega)]; exact h0 j (by omega)) (fun e he hr hf => ?_) (fun j hj hjn hpos => ?_)
  ·have fw := hE e he
   have hup := fw.up hr
   have f0 := fw.f0
   by_cases c : e.f = k
   ·have hm : e ∈ E.filter (atK k) := List.mem_filter.2 ⟨he, atK_iff.2 ⟨c, hr⟩⟩
    have := i3 e hm
    rw [i1 e.t.toNat (by omega), show e.f.toNat = k by omega]
    exact this
   ·rw [i1 e.t.toNat (by omega), i1 e.f.toNat (by omega)]
    exact ha e he hr (by omega)
  ·by_cases c : j = k
   ·subst c
    rcases i4 with h | ⟨e, he, h⟩
    ·rw [h, h0 j (by omega)] at hpos; exact absurd hpos (by omega)
    ·obtain ⟨fw, g1, g2⟩ := hL e he
     have hup := fw.up g2
     exact ⟨e, (List.mem_filter.1 he).1, g2, g1, by rw [h, i1 e.t.toNat (by omega)]⟩
   ·rw [i1 j c] at hpos
    obtain ⟨e, he, hr, hf, h⟩ := hB j (by omega) hjn hpos
    have hup := (hE e he).up hr
    exact ⟨e, he, hr, hf, by rw [i1 j c, i1 e.t.toNat (by omega)]; exact h⟩
theorem zeros_law {E : List Edg} {n : Nat} (hE : ∀ e ∈ E, Fwd n e) : Bnd n (hgt E n (List.replicate n 0)) ∧ LawA E 0 (hgt E n (List.replicate n 0)) ∧ LawB E n 0 (hgt E n (List.replicate n 0)) := by
 have hz : ∀ j, (List.replicate n (0 : Int)).getD j 0 = 0 := fun j => by
  rw [List.getD_eq_getElem?_getD, List.getElem?_replicate]; split <;> rfl
 refine hgt_law hE n _ (Nat.le_refl _) (bnd_zero n) (fun j _ => hz j) (fun e he hr hf => ?_) (fun j hj hjn hpos => ?_)
 ·have := (hE e he).fn; omega
 ·omega
end Go.Proofs.YtmnagbhllnlelaaGreatDoor
set_option linter.unusedVariables false
namespace Go.Vx.Walk
structure WE where
 f : Nat
 t : Nat
 w : Int
def Feas (E : List WE) (p : Nat → Int) : Prop := ∀ e ∈ E, p e.f + e.w ≤ p e.t
/-- One round, from x to x'. -/
structure Round (M : Int) (E : List WE) (x x' : Nat → Int) : Prop where
 up : ∀ j, x j ≤ x' j
 cg : ∀ j, M ∣ x' j - x j
 hold : ∀ e ∈ E, x e.f + e.w ≤ x' e.t
 least : ∀ p : Nat → Int, (∀ j, x j ≤ p j) → (∀ j, M ∣ p j - x j) → Feas E p → ∀ j, x' j ≤ p j
def sm (x : Nat → Int) : Nat → Int
 | 0 => 0
 | n + 1 => sm x n + x n
def cnt (p : Nat → Bool) : Nat → Nat
 | 0 => 0
 | n + 1 => cnt p n + (if p n = true then 1 else 0)
theorem sm_le {x y : Nat → Int} (h : ∀ j, x j ≤ y j) : ∀ n, sm x n ≤ sm y n
 | 0 => Int.le_refl _
 | n + 1 => by have := sm_le h n; have := h n; simp only [sm]; omega
theorem cnt_zero {p : Nat → Bool} : ∀ {n : Nat}, cnt p n = 0 → ∀ j, j < n → p j = false
 | 0, _, j, hj => absurd hj (Nat.not_lt_zero _)
 | n + 1, h, j, hj => by
  simp only [cnt] at h
  by_cases c : j = n
  ·subst c
   cases hp : p j with
   | false => rfl
   | true => rw [hp] at h; simp at h
  ·exact cnt_zero (n := n) (by omega) j (by omega)
theorem cnt_top (p : Nat → Bool) : ∀ n, cnt p n ≤ n
 | 0 => Nat.le_refl _
 | n + 1 => by have := cnt_top p n; simp only [cnt]; split <;> omega
/-- What is above the start, of its residues, and holds all edges. -/
structure Sol (M : Int) (E : List WE) (x p : Nat → Int) : Prop where
 ge : ∀ j, x j ≤ p j
 cg : ∀ j, M ∣ p j - x j
 feas : Feas E p
end Go.Vx.Walk
set_option linter.unusedSimpArgs false
set_option linter.unusedVariables false
set_option maxRecDepth 100000
namespace Go.Proofs.YtmnagbhllnlelaaGreatDoor
open Go Go.Vx
open Go.Vx.IOp Go.Vx.IR Go.Vx.Opd

/-- A right edge. -/
structure RightE (n : Nat) (e : Edg) : Prop where
 f0 : 0 ≤ e.f
 fn : e.f < n
 t0 : 0 ≤ e.t
 tn : e.t < n
 r0 : 0 ≤ e.r
 r2 : e.r ≤ 2147483648
 d0 : 0 ≤ e.d
 d8 : e.d ≤ 8
/-- All places are from 0 to a bound. -/
def In (n : Nat) (B : Int) (x : List Int) : Prop := x.length = n ∧ ∀ j, 0 ≤ x.getD j 0 ∧ x.getD j 0 ≤ B
/-! Held and Solve. -/
/-! Rings. -/
end Go.Proofs.YtmnagbhllnlelaaGreatDoor
set_option linter.unusedSimpArgs false
set_option linter.unusedVariables false
set_option maxRecDepth 100000
namespace Go.Proofs.YtmnagbhllnlelaaGreatDoor
open Go Go.Vx
open Go.Vx.IOp Go.Vx.IR Go.Vx.Opd
theorem fold_succ {α β : Type} {f : β → α → β} {E : List α} {s : β} {j : Nat} (hj : j < E.length) : (E.take (j + 1)).foldl f s = f ((E.take j).foldl f s) E[j] := by
 rw [List.take_succ_eq_append_getElem hj, List.foldl_append]; rfl
end Go.Proofs.YtmnagbhllnlelaaGreatDoor
set_option linter.unusedSimpArgs false
set_option linter.unusedVariables false
set_option maxRecDepth 100000
namespace Go.Proofs.YtmnagbhllnlelaaGreatDoor
open Go Go.Vx
open Go.Vx.IOp Go.Vx.IR Go.Vx.Opd
/-- A list that is put together by append: nil, or in a block that is new. -/
def PushI (m0 m : Mem) (a : Option Addr) (c : Nat) (L : List Int) : Prop :=
 (a = none ∧ c = 0 ∧ L = []) ∨ ∃ b, a = some ⟨b, 0, none⟩ ∧ L.length ≤ c ∧ m0 b = none ∧ m b = some (Cells (L.map i ++ List.replicate (c - L.length) (i 0)) 3)
theorem PushI.iat {m0 m : Mem} {a : Option Addr} {c : Nat} {L : List Int} (h : PushI m0 m a c L) : IAt m (.slice a L.length c) L := by
 rcases h with ⟨rfl, rfl, rfl⟩ | ⟨b, rfl, h1, h2, h3⟩
 ·exact ⟨none, 0, rfl, fun _ => rfl, (fun ad h => by cases h), Nat.le_refl _⟩
 ·refine ⟨_, c, rfl, (fun h => by cases h), fun ad ha => ?_, h1⟩
  cases ha
  refine CellsAt.blk h3 fun q v hq => ?_
  rw [Nat.zero_add, List.getElem?_append_left (List.getElem?_eq_some_iff.1 hq).1]; exact hq
theorem PushI.mono {m0 m m' : Mem} {a : Option Addr} {c : Nat} {L : List Int} (h : PushI m0 m a c L) (hle : Mem.le m m') : PushI m0 m' a c L := by
 rcases h with h | ⟨b, h0, h1, h2, h3⟩
 ·exact .inl h
 ·exact .inr ⟨b, h0, h1, h2, hle _ _ h3⟩
theorem repl_flat (n : Nat) (v : Value) : (List.replicate n [v]).flatten = List.replicate n v := by
 induction n with
 | zero => rfl
 | succ n ih => rw [List.replicate_succ, List.flatten_cons, ih, List.replicate_succ]; rfl
theorem push_ok {m0 m : Mem} {a : Option Addr} {c n : Nat} {L : List Int} {z : Int} {bx : Nat} {K : Value → Mem → Prop} (hle : Mem.le m0 m) (hp : PushI m0 m a c L) (hx : m bx = some (Cells [i z] 3)) (hn : n = L.length) (hlen : L.length < 1099511627776)
  (k : ∀ a' c' m', Mem.le m0 m' → PushI m0 m' a' c' (L ++ [z]) → K (.slice a' (L.length + 1) c') m') : WApp m 3 1 8 [i 0] a n c (some ⟨bx, 0, none⟩) 1 K := by
 subst hn
 have hnew : FirstCells m (some ⟨bx, 0, none⟩) (1 * 1) [i z] := ⟨rfl, fun ad had => by cases had; exact CellsAt.blk hx fun j v hj => by rw [Nat.zero_add]; exact hj⟩
 have hnone : ∀ b2, m b2 = none → m0 b2 = none := fun b2 h => by
  cases hh : m0 b2 with
  | none => rfl
  | some o => rw [hle b2 o hh] at h; cases h
 rcases hp with ⟨rfl, rfl, rfl⟩ | ⟨b, rfl, h1, h2, h3⟩
 ·refine WApp.grow _ hnew (fun h => by cases h) (by decide) (by decide) [] ⟨rfl, fun ad h => by cases h⟩ (fun _ => rfl) fun b2 c2 hb2 hc2 => ?_
  refine k _ _ _ (le_setn hle (hnone _ hb2)) (.inr ⟨b2, rfl, by simpa using hc2, hnone _ hb2, ?_⟩)
  rw [Mem.set_same, repl_flat]; rfl
 ·by_cases hcc : L.length + 1 ≤ c
  ·refine WApp.in (ad := ⟨b, 0, none⟩) _ hnew (fun h => by cases h) _ 3 hcc h3 rfl ?_ rfl ?_
   ·rw [List.length_append, List.length_map, List.length_replicate]; simp only; omega
   ·refine k _ _ _ (le_setn hle h2) (.inr ⟨b, rfl, by simpa using hcc, h2, ?_⟩)
    rw [Mem.set_same]
    have e : spliceL (L.map i ++ List.replicate (c - L.length) (i 0)) (0 + L.length * 1) [i z] = (L ++ [z]).map i ++ List.replicate (c - (L ++ [z]).length) (i 0) := by
     obtain ⟨q, hq⟩ : ∃ q, c - L.length = q + 1 := ⟨c - L.length - 1, by omega⟩
     rw [hq, Nat.zero_add, Nat.mul_one]
     show (L.map i ++ List.replicate (q + 1) (i 0)).set L.length (i z) = _
     rw [List.set_append_right _ _ (by simp), List.length_map, Nat.sub_self, List.replicate_succ, List.set_cons_zero, List.map_append, List.length_append, show c - (L.length + [z].length) = q by simp; omega]
     simp
    rw [e]
  ·refine WApp.grow _ hnew (fun h => by cases h) (by omega) (by omega) (L.map i) ⟨by simp, fun ad had => by cases had; exact CellsAt.blk h3 fun j v hj => by rw [Nat.zero_add, List.getElem?_append_left (List.getElem?_eq_some_iff.1 hj).1]; exact hj⟩ (fun h => by cases h) fun b2 c2 hb2 hc2 => ?_
   refine k _ _ _ (le_setn hle (hnone _ hb2)) (.inr ⟨b2, rfl, by simpa using hc2, hnone _ hb2, ?_⟩)
   rw [Mem.set_same, repl_flat]
   simp
end Go.Proofs.YtmnagbhllnlelaaGreatDoor
