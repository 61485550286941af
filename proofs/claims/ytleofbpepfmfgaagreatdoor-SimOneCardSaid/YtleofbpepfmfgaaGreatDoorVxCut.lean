import Derived.Test.YtleofbpepfmfgaaGreatDoorVxEvRun
set_option linter.unusedSimpArgs false
set_option linter.unusedVariables false
set_option maxRecDepth 100000
namespace Go.Vx.Ev
open Go Go.Vx
mutual
def lab (p : Nat → Bool) : Value → Bool
 | .pointer (some a) => p a.block
 | .slice (some a) _ _ => p a.block
 | .func f ⟨xs⟩ ⟨ys⟩ => (match f with | .yield k => p k | _ => true) && (labL p xs && labL p ys)
 | .iface _ u => lab p u
 | .map (some k) => p k
 | .agg ⟨xs⟩ => labL p xs
 | .tuple ⟨xs⟩ => labL p xs
 | _ => true
def labL (p : Nat → Bool) : List Value → Bool
 | [] => true
 | x :: xs => lab p x && labL p xs
end
def cutG (p : Nat → Bool) (G : Ghost) : Ghost := fun k => bif p k then G k else none
theorem cutG_at {p : Nat → Bool} {G : Ghost} {k : Nat} (h : p k = true) : cutG p G k = G k := by unfold cutG; rw [h]; rfl
mutual
theorem RV.cut {p : Nat → Bool} {G : Ghost} : ∀ (u v : Value), lab p u = true → RV G u v → RV (cutG p G) u v
 | .pointer (some a), v, h, k => by simp only [lab] at h; simp only [RV] at k ⊢; rw [cutG_at h]; exact k
 | .slice (some a) n c, v, h, k => by simp only [lab] at h; simp only [RV] at k ⊢; rw [cutG_at h]; exact k
 | .func f ⟨xs⟩ ⟨ys⟩, v, h, k => by
  simp only [lab, Bool.and_eq_true] at h
  simp only [RV] at k ⊢
  obtain ⟨f', xs', ys', k0, k1, k2, k3⟩ := k
  refine ⟨f', xs', ys', ?_, RVL.cut xs xs' h.2.1 k1, RVL.cut ys ys' h.2.2 k2, k3⟩
  cases f with
  | yield q =>
   obtain ⟨b, sz, L, z1, z2⟩ := k0
   exact ⟨b, sz, L, by rw [cutG_at h.1]; exact z1, z2⟩
  | _ => exact k0
 | .iface T u, v, h, k => by simp only [lab] at h; simp only [RV] at k ⊢; obtain ⟨u', k1, k2⟩ := k; exact ⟨u', RV.cut u u' h k1, k2⟩
 | .agg ⟨xs⟩, v, h, k => by simp only [lab] at h; simp only [RV] at k ⊢; obtain ⟨xs', k1, k2⟩ := k; exact ⟨xs', RVL.cut xs xs' h k1, k2⟩
 | .tuple ⟨xs⟩, v, h, k => by simp only [lab] at h; simp only [RV] at k ⊢; obtain ⟨xs', k1, k2⟩ := k; exact ⟨xs', RVL.cut xs xs' h k1, k2⟩
 | .int _ _, v, h, k => by simp only [RV] at k ⊢; exact k
 | .bool _, v, h, k => by simp only [RV] at k ⊢; exact k
 | .float _ _, v, h, k => by simp only [RV] at k ⊢; exact k
 | .complex _ _ _, v, h, k => by simp only [RV] at k ⊢; exact k
 | .string _, v, h, k => by simp only [RV] at k ⊢; exact k
 | .pointer none, v, h, k => by simp only [RV] at k ⊢; exact k
 | .slice none _ _, v, h, k => by simp only [RV] at k ⊢; exact k
 | .map none, v, h, k => by simp only [RV] at k ⊢; exact k
 | .map (some a), v, h, k => by simp only [lab] at h; simp only [RV] at k ⊢; rw [cutG_at h]; exact k
 | .chan _, v, h, k => by simp only [RV] at k ⊢; exact k
 | .nilFunc, v, h, k => by simp only [RV] at k ⊢; exact k
 | .nilIface, v, h, k => by simp only [RV] at k ⊢; exact k
theorem RVL.cut {p : Nat → Bool} {G : Ghost} : ∀ (us vs : List Value), labL p us = true → RVL G us vs → RVL (cutG p G) us vs
 | [], vs, h, k => by simp only [RVL] at k ⊢; exact k
 | x :: xs, vs, h, k => by
  simp only [labL, Bool.and_eq_true] at h
  simp only [RVL] at k ⊢
  obtain ⟨y, ys, k1, k2, k3⟩ := k
  exact ⟨y, ys, RV.cut x y h.1 k1, RVL.cut xs ys h.2 k2, k3⟩
end
def obOK (p : Nat → Bool) : Option Ob → Bool
 | some (.bl cs _ _) => labL p cs
 | some (.mp cs) => labL p cs
 | some .dead => true
 | some (.lp _ _ _ _) => false
 | none => true
def restr (t : St) : List Nat → St
 | [] => .lf
 | k :: ks => match t.get k with | some o => (restr t ks).put k o | none => restr t ks
def koks : List Nat → Bool
 | [] => true
 | k :: ks => kok k && koks ks
theorem restr_get {t : St} : ∀ {ks : List Nat}, koks ks = true → ∀ j, (restr t ks).get j = bif memN j ks then t.get j else none
 | [], _, j => rfl
 | k :: ks, h, j => by
  simp only [koks, Bool.and_eq_true] at h
  have ih := restr_get (t := t) h.2 j
  have hb : Nat.beq j k = true ↔ j = k := ⟨Nat.eq_of_beq_eq_true, fun e => by subst e; exact Nat.beq_refl _⟩
  simp only [restr, memN]
  by_cases e : j = k
  ·subst e
   rw [Nat.beq_refl, Bool.true_or, cond_true]
   cases hk : t.get j with
   | some o => simp only; rw [Tr.get_set_eq _ _ _ _ (kok_lt h.1)]
   | none => simp only; rw [ih, hk]; cases memN j ks <;> rfl
  ·have : Nat.beq j k = false := by
    cases hh : Nat.beq j k with
    | true => exact absurd (hb.1 hh) e
    | false => rfl
   rw [this, Bool.false_or]
   cases hk : t.get k with
   | some o => simp only; rw [Tr.get_set_ne _ _ _ _ _ e, ih]
   | none => simp only; exact ih
def stOK (t : St) (ks0 : List Nat) : List Nat → Bool
 | [] => true
 | k :: ks => obOK (fun j => memN j (0 :: ks0)) (t.get k) && stOK t ks0 ks
theorem stOK_at {t : St} {ks0 : List Nat} : ∀ {ks : List Nat}, stOK t ks0 ks = true → ∀ j, memN j ks = true → obOK (fun j => memN j (0 :: ks0)) (t.get j) = true
 | [], _, j, hj => by cases hj
 | k :: ks, h, j, hj => by
  simp only [stOK, Bool.and_eq_true] at h
  simp only [memN, Bool.or_eq_true] at hj
  rcases hj with hj | hj
  ·rw [Nat.eq_of_beq_eq_true hj]; exact h.1
  ·exact stOK_at h.2 j hj
def avOK (p : Nat → Bool) : AV → Bool
 | .val u => lab p u
 | .var cs => labL p cs
 | _ => false
def restrE (tr : TE) (p : Nat → Bool) : List Nat → TE
 | [] => .lf
 | s :: ss => match tr.get s with | some u => (match kok s && avOK p u with | true => Tr.set u 40 (restrE tr p ss) s | false => restrE tr p ss) | none => restrE tr p ss
theorem restrE_get {tr : TE} {p : Nat → Bool} : ∀ (ss : List Nat) (j : Nat) (u : AV), (restrE tr p ss).get j = some u → tr.get j = some u ∧ avOK p u = true
 | [], j, u, h => by cases h
 | s :: ss, j, u, h => by
  simp only [restrE] at h
  split at h
  ·rename_i v hv
   split at h
   ·rename_i hk
    rw [Bool.and_eq_true] at hk
    by_cases e : j = s
    ·subst e; rw [Tr.get_set_eq _ _ _ _ (kok_lt hk.1)] at h; cases h; exact ⟨hv, hk.2⟩
    ·rw [Tr.get_set_ne _ _ _ _ _ e] at h; exact restrE_get ss j u h
   ·exact restrE_get ss j u h
  ·exact restrE_get ss j u h
theorem RE.cut {G : Ghost} {tr : TE} {e : Env} {p : Nat → Bool} (h : RE G (ev tr) e) (ss : List Nat) : RE (cutG p G) (ev (restrE tr p ss)) e := fun s u hs => by
 obtain ⟨h1, h2⟩ := restrE_get ss s u hs
 obtain ⟨v, h3, h4⟩ := h s u h1
 refine ⟨v, h3, ?_⟩
 cases u with
 | val u => obtain ⟨w, w1, rfl⟩ := h4; exact ⟨w, RV.cut u w h2 w1, rfl⟩
 | var cs => obtain ⟨ds, w1, rfl⟩ := h4; exact ⟨ds, RVL.cut cs ds h2 w1, rfl⟩
 | ref _ _ => cases h2
 | refi _ _ _ => cases h2
 | fresh _ => cases h2
end Go.Vx.Ev
namespace Go.Proofs.YtleofbpepfmfgaaGreatDoor
open Go Go.Vx Go.Vx.Ev
theorem x0_get (T : Nat) (t : St) (k : Nat) : Cx.get ⟨[], [ro0 T]⟩ t k = match t.get k with | some o => some o | none => if k = 0 then some (.bl cells0 T 1) else none := by
 rw [← ro0_get]; unfold Cx.get; simp only [getL]; cases t.get k with
 | some o => rfl
 | none => simp only; cases (ro0 T).get k <;> rfl
theorem Inv_cut {μ m : Mem} {G : Ghost} {T : Nat} {t : St} (h : Inv Tryz.prog [0] μ G ⟨[], [ro0 T]⟩ t m) {ks : List Nat} (hk : koks ks = true) (h0 : t.get 0 = none) (hok : stOK t ks ks = true) (hz : labL (fun j => memN j (0 :: ks)) cells0 = true) :
  Inv Tryz.prog [0] μ (cutG (fun j => memN j (0 :: ks)) G) ⟨[], [ro0 T]⟩ (restr t ks) m := by
 have hp0 : memN 0 (0 :: ks) = true := rfl
 have hget : ∀ k, Cx.get ⟨[], [ro0 T]⟩ (restr t ks) k = bif memN k (0 :: ks) then Cx.get ⟨[], [ro0 T]⟩ t k else none := fun k => by
  rw [x0_get, x0_get, restr_get hk]
  simp only [memN]
  by_cases e : k = 0
  ·subst e; rw [h0]; cases memN 0 ks <;> rfl
  ·have : Nat.beq k 0 = false := by
    cases hb : Nat.beq k 0 with
    | true => exact absurd (Nat.eq_of_beq_eq_true hb) e
    | false => rfl
   rw [this, Bool.false_or, if_neg e]
   cases memN k ks with
   | true => rfl
   | false => rfl
 have hget' : ∀ {k o}, Cx.get ⟨[], [ro0 T]⟩ (restr t ks) k = some o → memN k (0 :: ks) = true ∧ Cx.get ⟨[], [ro0 T]⟩ t k = some o := fun {k o} hh => by
  rw [hget] at hh
  cases hp : memN k (0 :: ks) with
  | true => rw [hp] at hh; exact ⟨rfl, hh⟩
  | false => rw [hp] at hh; cases hh
 have hown : ∀ k, Cx.own ⟨[], [ro0 T]⟩ (restr t ks) k = true → Cx.own ⟨[], [ro0 T]⟩ t k = true := fun k hh => by
  unfold Cx.own at hh ⊢
  rw [restr_get hk] at hh
  cases hp : memN k ks with
  | true => rw [hp] at hh; exact hh
  | false => rw [hp] at hh; simp [getL] at hh
 have hob : ∀ k o, memN k (0 :: ks) = true → Cx.get ⟨[], [ro0 T]⟩ t k = some o → obOK (fun j => memN j (0 :: ks)) (some o) = true := fun k o hp hg => by
  rw [x0_get] at hg
  by_cases e : k = 0
  ·subst e
   rw [h0] at hg
   simp only [if_pos rfl] at hg
   cases hg
   exact hz
  ·simp only [memN] at hp
   have hb : Nat.beq k 0 = false := by
    cases hb : Nat.beq k 0 with
    | true => exact absurd (Nat.eq_of_beq_eq_true hb) e
    | false => rfl
   rw [hb, Bool.false_or] at hp
   have := stOK_at hok k hp
   cases ht : t.get k with
   | some o' => rw [ht] at hg this; simp only at hg; cases hg; exact this
   | none => rw [ht] at hg; simp only [if_neg e] at hg; cases hg
 have hGc : ∀ k, memN k (0 :: ks) = true → cutG (fun j => memN j (0 :: ks)) G k = G k := fun k hp => cutG_at hp
 have hGs : ∀ {k v}, cutG (fun j => memN j (0 :: ks)) G k = some v → memN k (0 :: ks) = true ∧ G k = some v := fun {k v} hh => by
  unfold cutG at hh
  cases hp : memN k (0 :: ks) with
  | true => simp only [hp, cond_true] at hh; exact ⟨rfl, hh⟩
  | false => simp only [hp, cond_false] at hh; cases hh
 refine ⟨fun g hg => ?_, fun k => ?_, fun k cs T' sz hk1 => ?_, fun k k' cs T1 sz cs' T' sz' b s1 L1 s2 L2 hk1 hk2 hg1 hg2 => ?_, fun k cs hk1 => ?_, fun k c ps a a' hk1 ho => ?_, h.low, fun k b s L ho hd hg => ?_⟩
 ·have : g = 0 := by
   simp only [memN, Bool.or_false] at hg; exact beq_ff hg
  subst this
  obtain ⟨sz, L, h1⟩ := h.glob 0 hg
  exact ⟨sz, L, by rw [hGc 0 hp0]; exact h1⟩
 ·rw [hget]
  unfold cutG
  cases hp : memN k (0 :: ks) with
  | true => simp only [hp, cond_true]; exact h.dom k
  | false => simp only [hp, cond_false]
 ·obtain ⟨hp, hk2⟩ := hget' hk1
  obtain ⟨b, L, l, fr, h1, h2, h3, h4, l1, rest, h5, h6⟩ := h.blk k cs T' sz hk2
  exact ⟨b, L, l, fr, by rw [hGc k hp]; exact h1, h2, fun ho => h3 (hown k ho), h4, l1, rest, RVL.cut cs l1 (hob k _ hp hk2) h5, h6⟩
 ·exact h.inj k k' cs T1 sz cs' T' sz' b s1 L1 s2 L2 (hget' hk1).2 (hget' hk2).2 (hGs hg1).2 (hGs hg2).2
 ·obtain ⟨hp, hk2⟩ := hget' hk1
  obtain ⟨b, sz, L, l, h1, h2, h3, h4⟩ := h.mps k cs hk2
  exact ⟨b, sz, L, l, by rw [hGc k hp]; exact h1, h2, RVL.cut cs l (hob k _ hp hk2) h3, fun k' cs' s L' hk' hg' => h4 k' cs' s L' (hget' hk').2 (hGs hg').2⟩
 ·obtain ⟨hp, hk2⟩ := hget' hk1
  have := hob k _ hp hk2
  cases this
 ·obtain ⟨hp, hg'⟩ := hGs hg
  have hd' : Cx.get ⟨[], [ro0 T]⟩ t k ≠ some .dead := fun hh => hd (by rw [hget, hp]; exact hh)
  exact h.own k b s L (hown k ho) hd' hg'
def FinOK (T : Nat) (rs : List Res) (ir : IR) (tr : TE) (t : St) : Prop :=
 ∀ μ G e m, Inv Tryz.prog [0] μ G ⟨[], [ro0 T]⟩ t m → RE G (ev tr) e → wpI Tryz.prog ir (retPost rs fun e m' => e = .returned (.bool true) ∧ m' = μ) e m
def theCall : CallEv := evF2 (fun f => tabT.get f) [0] 99
theorem theCall_ok : CallOK Tryz.prog [0] theCall := evF2_ok mixed (tab_ok [0]) 99
def mkE : List (Nat × AV) → TE
 | [] => .lf
 | (s, u) :: r => Tr.set u 40 (mkE r) s
def mkS : List (Nat × Ob) → St
 | [] => .lf
 | (s, u) :: r => Tr.set u 40 (mkS r) s
def piece (T : Nat) (ir : IR) (ss ks : List Nat) (tr : TE) (t : St) (nx : Nat) : Option (TE × St × Nat) :=
 match evI2 theCall [0] ⟨[], [ro0 T]⟩ ir tr t nx with
 | some (.n, tr', t', nx') => bif koks ks && ((t'.get 0).isNone && (stOK t' ks ks && labL (fun j => memN j (0 :: ks)) cells0)) then some (restrE tr' (fun j => memN j (0 :: ks)) ss, restr t' ks, nx') else none
 | _ => none
theorem fin_step {T : Nat} {rs : List Res} {a b : IR} {ss ks : List Nat} {tr tr1 : TE} {t t1 : St} {nx nx1 : Nat} (h : piece T a ss ks tr t nx = some (tr1, t1, nx1)) (hb : FinOK T rs b tr1 t1) : FinOK T rs (.seq a b) tr t := by
 intro μ G e m hI hE
 unfold piece at h
 split at h <;> try (cases h; done)
 rename_i tr' t' nx' h1
 cases hc : (koks ks && ((t'.get 0).isNone && (stOK t' ks ks && labL (fun j => memN j (0 :: ks)) cells0))) with
 | false => rw [hc] at h; cases h
 | true =>
  rw [hc] at h; cases h
  simp only [Bool.and_eq_true] at hc
  obtain ⟨c1, c2, c3, c4⟩ := hc
  simp only [wpI]
  refine evI_sound theCall_ok _ _ _ _ _ _ _ _ (evI2_sim h1) μ G e m _ hI hE fun G' e' m' _ g2 g3 => ?_
  exact hb μ _ e' m' (Inv_cut g2 c1 (by cases hh : t'.get 0 with
   | none => rfl
   | some o => rw [hh] at c2; cases c2) c3 c4) (g3.cut ss)
theorem fin_last {T : Nat} {rs : List Res} {ir : IR} {tr : TE} {t : St} {nx : Nat} (h : (match evI2 theCall [0] ⟨[], [ro0 T]⟩ ir tr t nx with | some (.x _, _, _, _) => none | some (_, c', t', _) => cres ⟨[], [ro0 T]⟩ t' (ev c') rs | none => none) = some [.bool true]) : FinOK T rs ir tr t := by
 intro μ G e m hI hE
 have fin : ∀ (ex : Ex) (c' : TE) (t' : St) (nx' : Nat), (ex = .n ∨ ex = .r) → evI2 theCall [0] ⟨[], [ro0 T]⟩ ir tr t nx = some (ex, c', t', nx') → cres ⟨[], [ro0 T]⟩ t' (ev c') rs = some [.bool true] → wpI Tryz.prog ir (retPost rs fun e m' => e = .returned (.bool true) ∧ m' = μ) e m := fun ex c' t' nx' hex h1 h2 => by
  refine evI_sound theCall_ok _ _ _ _ _ _ _ _ (evI2_sim h1) μ G e m _ hI hE fun G' e' m' _ g2 g3 => ?_
  obtain ⟨ws, w1, w2⟩ := cres_ok g2 g3 h2
  have hw : ws = [.bool true] := flatL_eq _ _ rfl w2
  subst hw
  rcases hex with rfl | rfl
  ·show (match resAts m' e' rs with | some vs => WRet m' _ (.returned (resVal vs)) | none => False)
   rw [w1]; exact WRet.mk g2.low ⟨rfl, rfl⟩
  ·show (match resAts m' e' rs with | some vs => WRet m' _ (.returned (resVal vs)) | none => False)
   rw [w1]; exact WRet.mk g2.low ⟨rfl, rfl⟩
 split at h
 ·cases h
 ·rename_i ex c' t' nx' hne h1
  cases ex with
  | n => exact fin _ _ _ _ (.inl rfl) h1 h
  | r => exact fin _ _ _ _ (.inr rfl) h1 h
  | x i => exact (hne i rfl).elim
 ·cases h
theorem fin_calls {f : Nat} {fn : Func} {F : Vx.Fn} (hf : Tryz.prog.funcs[f]? = some fn) (hok : okFn Tryz.prog fn F = true) {m : Mem} {T : Nat} {fr : Nat × Nat} (hm : m 0 = some (.cells ⟨cells0⟩ T fr)) (h : FinOK T F.res F.body .lf .lf) :
  CallsM Tryz.prog f [] m (fun e m' => e = .returned (.bool true) ∧ m' = m) := by
 refine calls_of mixed hf hok (by rfl) ?_
 exact h m G0 (envOf []) m (start hm) fun s u hs => by cases hs
end Go.Proofs.YtleofbpepfmfgaaGreatDoor
