import Derived.Test.YtleofbpepfmfgaaGreatDoorVxEvD
set_option linter.unusedSimpArgs false
set_option linter.unusedVariables false
namespace Go.Vx.Ev
open Go Go.Vx
variable {P : Program} {gl : List Nat} {μ : Mem} {G : Ghost} {x : Cx} {t : St} {m : Mem} {c e : Env}

theorem RV.mp {k : Nat} {v : Value} (h : RV G (.map (some k)) v) : ∃ b sz L, G k = some (b, sz, L) ∧ v = .map (some b) := by simpa only [RV] using h
theorem RV.mp0 {v : Value} (h : RV G (.map none) v) : v = .map none := by simpa only [RV] using h
theorem ents_rel {es es' : List Value} (h : RVL G es es') : entsOK es = true → ∀ (k : Value) (j : Nat) (f : Option (Nat × Value)), findE k es j = some f → ∃ f', findK k (es'.map entOf) j = some f' ∧ (match f, f' with | none, none => True | some (a, u), some (b, v) => a = b ∧ RV G u v | _, _ => False) := by
 induction es generalizing es' with
 | nil => intro _ k j f hf; rw [h.nil]; cases hf; exact ⟨none, rfl, trivial⟩
 | cons e es ih =>
  intro hok k j f hf
  obtain ⟨y, ys, h1, h2, rfl⟩ := h.inv
  simp only [entsOK, Bool.and_eq_true] at hok
  obtain ⟨hok1, hok2⟩ := hok
  match e, hok1 with
  | .tuple ⟨[k', v, .int q n]⟩, hok1 =>
   obtain ⟨zs, z1, rfl⟩ := h1.tuple
   obtain ⟨k2, r1, a1, z2, rfl⟩ := z1.inv
   obtain ⟨v2, r2, a2, z3, rfl⟩ := z2.inv
   obtain ⟨n2, r3, a3, z4, rfl⟩ := z3.inv
   cases a3.int
   rw [z4.nil]
   obtain rfl := flat_eq k' k2 hok1 a1
   simp only [findE] at hf
   simp only [List.map_cons, findK]
   show ∃ f', (match keq k k2 with | some true => some (some (j, v2)) | some false => findK k (ys.map entOf) (j + 1) | none => none) = some f' ∧ _
   split at hf <;> try (cases hf; done)
   ·rename_i hq; cases hf; rw [hq]; exact ⟨_, rfl, rfl, a2⟩
   ·rename_i hq; rw [hq]; exact ih h2 hok2 k (j + 1) f hf
theorem map_modify {es : List Value} {j : Nat} {k u v : Value} {q : IntKind} {n : Int} (hj : es[j]? = some (.tuple ⟨[k, u, .int q n]⟩)) :
  (⟨es.map entOf⟩ : Array MapEntry).modify j (fun e => { e with key := k, val := v }) = ⟨(es.set j (.tuple ⟨[k, v, .int q n]⟩)).map entOf⟩ := by
 apply Array.ext'
 rw [Array.toList_modify]
 apply List.ext_getElem?
 intro i
 rw [List.getElem?_modify, List.getElem?_map, List.getElem?_map, List.getElem?_set]
 by_cases e : j = i
 ·subst e
  have hlt := (List.getElem?_eq_some_iff.1 hj).1
  simp only [if_true, if_pos hlt, hj]
  rfl
 ·simp only [if_neg e]; cases es[i]? <;> rfl
theorem mpE_sound {o : MOp} {vs vs' : List Value} {nx nx' : Nat} {v : Value} {t' : St} {K : Value → Mem → Prop} (hp : mpE x t nx o vs = some (v, t', nx')) (hI : Inv P gl μ G x t m) (hv : RVL G vs vs')
  (hF : ∀ G' v' m', Ghost.le G G' → Inv P gl μ G' x t' m' → RV G' v v' → K v' m') : WMp o vs' m K := by
 unfold mpE at hp
 split at hp <;> try (cases hp; done)
 ·-- cap
  rename_i a n c
  split at hp <;> try (cases hp; done)
  rename_i hInf; cases hp
  obtain ⟨y, ys, h1, h2, rfl⟩ := hv.inv
  rw [h2.nil]
  unfold WMp
  cases a with
  | none => cases h1.sl0; exact hF G _ m (Ghost.le.refl G) hI RV.int'
  | some a =>
   obtain ⟨b, s, L, d', g1, g2, g3, g4, rfl⟩ := h1.sl
   obtain rfl := capR_exact hInf g3
   exact hF G _ m (Ghost.le.refl G) hI RV.int'
 ·-- apz
  rename_i T sz bytes zero n
  cases hb : (decide (0 ≤ n) && Nat.ble (n.toNat * bytes) 35184372088832 && decide (n ≤ 9223372036854775807) && flatL zero && Nat.beq sz zero.length) with
  | false => rw [hb] at hp; cases hp
  | true =>
   rw [hb] at hp; simp only [cond_true] at hp
   simp only [Bool.and_eq_true, decide_eq_true_eq] at hb
   obtain ⟨⟨⟨⟨b1, b2⟩, b3⟩, b4⟩, b5⟩ := hb
   obtain ⟨y, ys, h1, h2, rfl⟩ := hv.inv
   obtain ⟨z, zs, h3, h4, rfl⟩ := h2.inv
   rw [h4.nil]
   cases h1.sl0; cases h3.int
   unfold WMp
   refine ⟨⟨b1, Nat.le_of_ble_eq_true b2, b3⟩, fun h0 => ?_, fun hpos b c hbn hc => ?_⟩
   ·subst h0
    simp only [Int.toNat_zero] at hp
    cases hp
    exact hF G _ m (Ghost.le.refl G) hI (by simp only [RV])
   ·split at hp
    ·rename_i h0; omega
    ·rename_i k hk
     cases hq : newlab x t nx with
     | false => rw [hq] at hp; cases hp
     | true =>
      rw [hq] at hp; cases hp
      obtain ⟨k1, k2⟩ := newlab_ok hq
      obtain ⟨hle, hI'⟩ := hI.new (sz := sz) (T := T) k1 k2 hbn (rep_rel (G := G) (k + 1) b4) rfl
      rw [hk] at hc ⊢
      refine hF _ _ _ hle hI' (RV.sl' (sz := sz) (if_pos rfl) (capR_up hc) ?_)
      have hsz := beq_ff b5
      simp only [List.length_append, rep_len, Nat.zero_add, hsz, ← Nat.add_mul]
      exact Nat.mul_le_mul_right _ (by omega)
 ·-- mk
  rw [hv.nil]
  cases hb : newlab x t nx with
  | false => rw [hb] at hp; cases hp
  | true =>
   rw [hb] at hp; cases hp
   obtain ⟨k1, k2⟩ := newlab_ok hb
   unfold WMp
   intro b hbn
   obtain ⟨hle, hI'⟩ := hI.newM (l := [.int .i64 0]) k1 k2 hbn (flatL_self [.int .i64 0] rfl)
   exact hF _ _ _ hle hI' (by unfold RV; exact ⟨b, 0, 0, if_pos rfl, rfl⟩)
 ·-- lk nil
  rename_i kn ok zero k
  obtain ⟨y, ys, h1, h2, rfl⟩ := hv.inv
  obtain ⟨z, zs, h3, h4, rfl⟩ := h2.inv
  rw [h4.nil]
  cases h1.mp0
  cases hb : (kform kn k && (flat k && flat zero)) with
  | false => rw [hb] at hp; cases hp
  | true =>
   rw [hb] at hp; cases hp
   simp only [Bool.and_eq_true] at hb
   obtain rfl := flat_eq k z hb.2.1 h3
   unfold WMp
   refine ⟨hb.1, hF G _ m (Ghost.le.refl G) hI ?_⟩
   cases ok
   ·exact flat_self zero hb.2.2
   ·exact flat_self (.tuple ⟨[zero, .bool false]⟩) (by simp [flat, flatL, hb.2.2])
 ·-- lk
  rename_i kn ok zero r k
  split at hp <;> try (cases hp; done)
  rename_i q cl es hget
  obtain ⟨y, ys, h1, h2, rfl⟩ := hv.inv
  obtain ⟨z, zs, h3, h4, rfl⟩ := h2.inv
  rw [h4.nil]
  obtain ⟨b, sz, L, g1, rfl⟩ := h1.mp
  cases hb : (kform kn k && (flat k && flat zero) && entsOK es) with
  | false => rw [hb] at hp; cases hp
  | true =>
   rw [hb] at hp; simp only [cond_true] at hp
   split at hp <;> try (cases hp; done)
   rename_i f hf; cases hp
   simp only [Bool.and_eq_true] at hb
   obtain ⟨⟨b1, b2, b3⟩, b4⟩ := hb
   obtain rfl := flat_eq k z b2 h3
   obtain ⟨b', sz', L', l, q1, q2, q3, q4⟩ := hI.mps _ _ hget
   rw [g1] at q1; cases q1
   obtain ⟨c0, es', e1, e2, rfl⟩ := q3.inv
   cases e1.int
   obtain ⟨f', f1, f2⟩ := ents_rel e2 b4 _ 0 f hf
   unfold WMp
   refine ⟨b1, ⟨es'.map entOf⟩, cl.toNat, f', q2, f1, hF G _ m (Ghost.le.refl G) hI ?_⟩
   cases f with
   | none =>
    cases f' with
    | some p => exact f2.elim
    | none =>
     cases ok
     ·exact flat_self zero b3
     ·exact flat_self (.tuple ⟨[zero, .bool false]⟩) (by simp [flat, flatL, b3])
   | some p =>
    obtain ⟨j, u⟩ := p
    cases f' with
    | none => exact f2.elim
    | some p' =>
     obtain ⟨j', u'⟩ := p'
     obtain ⟨rfl, f3⟩ := f2
     cases ok
     ·exact f3
     ·exact (by unfold RV; exact ⟨_, RVL.cons f3 (RVL.cons RV.bool' RVL.nil'), rfl⟩)
 ·-- up
  rename_i kn r k u
  split at hp <;> try (cases hp; done)
  rename_i q cl es hget
  obtain ⟨y, ys, h1, h2, rfl⟩ := hv.inv
  obtain ⟨z, zs, h3, h4, rfl⟩ := h2.inv
  obtain ⟨u', us, h5, h6, rfl⟩ := h4.inv
  rw [h6.nil]
  obtain ⟨b, sz, L, g1, rfl⟩ := h1.mp
  cases hb : (kform kn k && flat k && entsOK es && (x.own t r && kok r) && decide (0 ≤ cl)) with
  | false => rw [hb] at hp; cases hp
  | true =>
   rw [hb] at hp; simp only [cond_true] at hp
   simp only [Bool.and_eq_true, decide_eq_true_eq] at hb
   obtain ⟨⟨⟨⟨b1, b2⟩, b4⟩, b5, b6⟩, b7⟩ := hb
   obtain rfl := flat_eq k z b2 h3
   obtain ⟨b', sz', L', l, q1, q2, q3, q4⟩ := hI.mps _ _ hget
   rw [g1] at q1; cases q1
   obtain ⟨c0, es', e1, e2, rfl⟩ := q3.inv
   cases e1.int
   split at hp <;> try (cases hp; done)
   ·rename_i hf
    cases hp
    obtain ⟨f', f1, f2⟩ := ents_rel e2 b4 _ 0 none hf
    cases f' with
    | some p => exact f2.elim
    | none =>
     have hrel : RVL G (.int q (cl + 1) :: (es ++ [.tuple ⟨[z, u, .int .i64 cl]⟩])) (.int q (cl + 1) :: (es' ++ [.tuple ⟨[z, u', .int .i64 cl]⟩])) :=
      RVL.cons RV.int' (RVL.app e2 (RVL.cons (by unfold RV; exact ⟨_, RVL.cons h3 (RVL.cons h5 (RVL.cons RV.int' RVL.nil')), rfl⟩) RVL.nil'))
     have hw := hI.writeM b6 b5 hget g1 hrel
     have hobj : mapObj (.int q (cl + 1) :: (es' ++ [.tuple ⟨[z, u', .int .i64 cl]⟩])) = upRes ⟨es'.map entOf⟩ cl.toNat none z u' := by
      simp only [mapObj, upRes, List.map_append, List.map_cons, List.map_nil]
      rw [show (cl + 1).toNat = cl.toNat + 1 by omega]
      simp [entOf]
     rw [hobj] at hw
     unfold WMp
     exact ⟨b1, ⟨es'.map entOf⟩, cl.toNat, none, q2, f1, hF G _ _ (Ghost.le.refl G) hw (flat_self _ rfl)⟩
   ·rename_i j u0 hf
    split at hp <;> try (cases hp; done)
    rename_i k0 u1 qq n0 hj
    cases hp
    obtain ⟨f', f1, f2⟩ := ents_rel e2 b4 _ 0 _ hf
    cases f' with
    | none => exact f2.elim
    | some p =>
     obtain ⟨j', u2⟩ := p
     obtain ⟨rfl, f3⟩ := f2
     obtain ⟨y, hy1, hy2⟩ := e2.at hj
     obtain ⟨zs2, z1, rfl⟩ := hy2.tuple
     obtain ⟨k2, r1, a1, z2, rfl⟩ := z1.inv
     obtain ⟨v2, r2, a2, z3, rfl⟩ := z2.inv
     obtain ⟨n2, r3, a3, z4, rfl⟩ := z3.inv
     cases a3.int
     rw [z4.nil] at hy1
     have hkk : k2 = z := by
      obtain ⟨s, xx, s1, s2, s3, s4⟩ := findK_at _ _ f1
      obtain rfl : j = s := by omega
      rw [List.getElem?_map, hy1] at s2
      cases s2
      exact (keq_true s3).symm
     subst hkk
     have hrel : RVL G (.int q cl :: es.set j (.tuple ⟨[k2, u, .int qq n0]⟩)) (.int q cl :: es'.set j (.tuple ⟨[k2, u', .int qq n0]⟩)) :=
      RVL.cons RV.int' (RVL.set j e2 (by unfold RV; exact ⟨_, RVL.cons h3 (RVL.cons h5 (RVL.cons RV.int' RVL.nil')), rfl⟩))
     have hw := hI.writeM b6 b5 hget g1 hrel
     have hobj : mapObj (.int q cl :: es'.set j (.tuple ⟨[k2, u', .int qq n0]⟩)) = upRes ⟨es'.map entOf⟩ cl.toNat (some (j, u2)) k2 u' := by
      simp only [mapObj, upRes]
      rw [map_modify hy1]
     rw [hobj] at hw
     unfold WMp
     exact ⟨b1, ⟨es'.map entOf⟩, cl.toNat, some (j, u2), q2, f1, hF G _ _ (Ghost.le.refl G) hw (flat_self _ rfl)⟩
 ·-- ln nil
  obtain ⟨y, ys, h1, h2, rfl⟩ := hv.inv
  rw [h2.nil]; cases h1.mp0; cases hp
  unfold WMp
  exact hF G _ m (Ghost.le.refl G) hI RV.int'
 ·-- ln
  rename_i r
  split at hp <;> try (cases hp; done)
  rename_i q cl es hget
  cases hp
  obtain ⟨y, ys, h1, h2, rfl⟩ := hv.inv
  rw [h2.nil]
  obtain ⟨b, sz, L, g1, rfl⟩ := h1.mp
  obtain ⟨b', sz', L', l, q1, q2, q3, q4⟩ := hI.mps _ _ hget
  rw [g1] at q1; cases q1
  obtain ⟨c0, es', e1, e2, rfl⟩ := q3.inv
  cases e1.int
  unfold WMp
  refine ⟨⟨es'.map entOf⟩, cl.toNat, q2, hF G _ m (Ghost.le.refl G) hI ?_⟩
  have : (⟨es'.map entOf⟩ : Array MapEntry).size = es.length := by simp [e2.len]
  rw [this]; exact RV.int'
theorem mo_sound {P : Program} {o : IOp} {nx nx' : Nat} {u : AV} {t' : St} {F : AV → Mem → Prop} {X : List PanicEntry → Mem → Prop} (hp : mo gl x o c t nx = some (u, t', nx')) (hI : Inv P gl μ G x t m) (hE : RE G c e)
  (hF : ∀ G' u' m', Ghost.le G G' → Inv P gl μ G' x t' m' → RA G' u u' → F u' m') : vop P o e m F X := by
 have hg := hI.glob
 cases o
 case mp k args =>
  simp only [mo] at hp
  split at hp <;> try (cases hp; done)
  rename_i vs hvs
  split at hp <;> try (cases hp; done)
  rename_i v t1 nx1 h1; cases hp
  obtain ⟨vs', v1, v2⟩ := cats_ats hg hE hvs
  simp only [vop, v1]
  exact mpE_sound h1 hI v2 fun G' u' m' g1 g2 g3 => hF G' _ m' g1 g2 ⟨u', g3, rfl⟩
 case ld y =>
  simp only [mo] at hp
  split at hp <;> try (cases hp; done)
  rename_i a ha
  split at hp <;> try (cases hp; done)
  rename_i cs T sz hl
  split at hp <;> try (cases hp; done)
  rename_i v hv; cases hp
  obtain ⟨w, w1, w2⟩ := cat_at hg hE ha
  obtain ⟨b, s, L, g1, g2, rfl⟩ := w2.ptr
  obtain ⟨b', L', l, fr, h1, h2, h3, h4, l1, rest, h5, h6⟩ := hI.blk _ _ _ _ (live_get hl)
  rw [g1] at h1; cases h1
  obtain ⟨z, z1, z2⟩ := cell_at h2 h5 h6 hv
  simp only [vop, w1]
  exact WLd.mk z z2 (hF G _ m (Ghost.le.refl G) hI ⟨z, z1, rfl⟩)
 case lds y n =>
  simp only [mo] at hp
  split at hp <;> try (cases hp; done)
  rename_i a ha
  split at hp <;> try (cases hp; done)
  rename_i cs T sz hl
  cases hb : Nat.ble (a.off + n) cs.length with
  | false => rw [hb] at hp; cases hp
  | true =>
   rw [hb] at hp; cases hp
   obtain ⟨w, w1, w2⟩ := cat_at hg hE ha
   obtain ⟨b, s, L, g1, g2, rfl⟩ := w2.ptr
   obtain ⟨b', L', l, fr, h1, h2, h3, h4, l1, rest, h5, h6⟩ := hI.blk _ _ _ _ (live_get hl)
   rw [g1] at h1; cases h1
   obtain ⟨q1, q2, q3⟩ := cells_list h2 h5 h6 (Nat.le_of_ble_eq_true hb)
   simp only [vop, w1]
   exact WLds.mk _ q3 q2 (hF G _ m (Ghost.le.refl G) hI ⟨_, RV.agg' q1, rfl⟩)
 case sl y lo hi esz =>
  simp only [mo] at hp
  split at hp <;> try (cases hp; done)
  ·rename_i a n d ha
   split at hp <;> try (cases hp; done)
   rename_i l h cs T sz hlo hhi hlv
   obtain ⟨w, w1, w2⟩ := cat_at hg hE ha
   obtain ⟨b, s, L, d', g1, g2, g3, g4, rfl⟩ := w2.sl
   obtain ⟨b', L', ll, fr, h1, h2, h3, h4, l1, rest, h5, h6⟩ := hI.blk _ _ _ _ (live_get hlv)
   rw [g1] at h1; cases h1
   have e1 := cslO_ok hg hE hlo
   have e2 := cslO_ok hg hE hhi
   simp only [vop, w1, e1, e2]
   split at hp
   ·rename_i hInf
    have hcap := capR_low hInf g3
    cases hb : (decide (0 ≤ l) && decide (l ≤ h) && decide (h ≤ (d - INF : Nat)) && (decide (l < (d - INF : Nat)) || decide (l = 0)) && (Nat.beq sz esz || decide (l = 0))) with
    | false =>
     rw [hb] at hp
     cases hb2 : (decide (0 ≤ l) && decide (l = h) && decide (h ≤ (d - INF : Nat))) with
     | false => rw [hb2] at hp; cases hp
     | true =>
      rw [hb2] at hp; cases hp
      simp only [Bool.and_eq_true, decide_eq_true_eq] at hb2
      obtain ⟨⟨b1, b2⟩, b3⟩ := hb2
      subst b2
      refine WSl.mk ⟨b1, Int.le_refl _, by omega⟩ (hF G _ m (Ghost.le.refl G) hI ⟨_, ?_, rfl⟩)
      simp only [RV]
      by_cases hdl : (d' : Int) = l
      ·rw [if_pos hdl]; exact ⟨_, _, by rw [Nat.sub_self]⟩
      ·rw [if_neg hdl]; exact ⟨_, _, by rw [Nat.sub_self]; rfl⟩
    | true =>
     rw [hb] at hp; cases hp
     simp only [Bool.and_eq_true, Bool.or_eq_true, decide_eq_true_eq] at hb
     obtain ⟨⟨⟨⟨b1, b2⟩, b3⟩, b4⟩, b5⟩ := hb
     refine WSl.mk ⟨b1, b2, by omega⟩ (hF G _ m (Ghost.le.refl G) hI ⟨_, ?_, rfl⟩)
     have hsz : l.toNat * esz + (d' - l.toNat) * sz ≤ d' * sz := by
      rcases b5 with b5 | b5
      ·obtain rfl := beq_ff b5
       rw [← Nat.add_mul]
       exact Nat.mul_le_mul_right _ (by omega)
      ·subst b5; simp
     have hadr : (if (d' : Int) = l then (some ⟨b, a.off, none⟩ : Option Addr) else (some ⟨b, a.off, none⟩ : Option Addr).map (·.add (l.toNat * esz))) = some ⟨b, a.off + l.toNat * esz, none⟩ := by
      by_cases hdl : (d' : Int) = l
      ·rw [if_pos hdl]
       rcases b4 with b4 | b4
       ·omega
       ·subst b4; simp
      ·rw [if_neg hdl]; simp only [Option.map_some, add_none]
     rw [hadr]
     refine RV.sl' g1 (capR_up ?_) (by omega)
     omega
   ·rename_i hInf
    obtain rfl := capR_exact hInf g3
    cases hb : (decide (0 ≤ l) && decide (l ≤ h) && decide (h ≤ (d' : Nat)) && (Nat.beq sz esz || decide (l = 0) || decide ((d' : Int) = l))) with
    | false => rw [hb] at hp; cases hp
    | true =>
     rw [hb] at hp; cases hp
     simp only [Bool.and_eq_true, Bool.or_eq_true, decide_eq_true_eq] at hb
     obtain ⟨⟨⟨b1, b2⟩, b3⟩, b5⟩ := hb
     refine WSl.mk ⟨b1, b2, by omega⟩ (hF G _ m (Ghost.le.refl G) hI ⟨_, ?_, rfl⟩)
     have hcap : capR (d' - l.toNat) (d' - l.toNat) := by
      have hlt : d' < INF := by
       cases hq : Nat.ble INF d' with
       | true => rw [hq] at hInf; cases hInf
       | false => exact Nat.lt_of_not_le fun hh => by rw [Nat.ble_eq_true_of_le hh] at hq; cases hq
      exact capR_self (Nat.ble_eq_true_of_le (by omega))
     by_cases hdl : (d' : Int) = l
     ·rw [if_pos hdl]
      have : decide ((d' : Int) = l) = true := decide_eq_true hdl
      rw [this]; simp only [cond_true]
      refine RV.sl' g1 hcap ?_
      have : d' - l.toNat = 0 := by omega
      rw [this]; omega
     ·rw [if_neg hdl]
      have : decide ((d' : Int) = l) = false := decide_eq_false hdl
      rw [this]; simp only [cond_false, Option.map_some, add_none]
      have hsz : l.toNat * esz + (d' - l.toNat) * sz ≤ d' * sz := by
       rcases b5 with (b5 | b5) | b5
       ·obtain rfl := beq_ff b5
        rw [← Nat.add_mul]
        exact Nat.mul_le_mul_right _ (by omega)
       ·subst b5; simp
       ·exact absurd b5 hdl
      exact RV.sl' g1 hcap (by omega)
  ·rename_i n d ha
   split at hp <;> try (cases hp; done)
   rename_i l h hlo hhi
   obtain ⟨w, w1, w2⟩ := cat_at hg hE ha
   cases w2.sl0
   have e1 := cslO_ok hg hE hlo
   have e2 := cslO_ok hg hE hhi
   simp only [vop, w1, e1, e2]
   cases hb : (decide (0 ≤ l) && decide (l ≤ h) && decide (h ≤ (d : Nat))) with
   | false => rw [hb] at hp; cases hp
   | true =>
    rw [hb] at hp; cases hp
    simp only [Bool.and_eq_true, decide_eq_true_eq] at hb
    refine WSl.mk ⟨hb.1.1, hb.1.2, hb.2⟩ (hF G _ m (Ghost.le.refl G) hI ⟨.slice none (h.toNat - l.toNat) (d - l.toNat), by simp only [RV], ?_⟩)
    by_cases hdl : (d : Int) = l
    ·rw [if_pos hdl]
    ·rw [if_neg hdl]; rfl
 case sla y n =>
  simp only [mo] at hp
  split at hp <;> try (cases hp; done)
  rename_i a ha
  obtain ⟨w, w1, w2⟩ := cat_at hg hE ha
  obtain ⟨b, s, L, g1, g2, rfl⟩ := w2.ptr
  split at hp <;> try (cases hp; done)
  rename_i cs T sz hlv
  cases hb : (Nat.ble (a.off + n * sz) cs.length && Nat.ble (n + 1) INF) with
  | false => rw [hb] at hp; cases hp
  | true =>
   rw [hb] at hp; cases hp
   rw [Bool.and_eq_true] at hb
   obtain ⟨b', L', l, fr, h1, h2, h3, h4, l1, rest, h5, h6⟩ := hI.blk _ _ _ _ (live_get hlv)
   rw [g1] at h1; cases h1
   have hle := Nat.le_of_ble_eq_true hb.1
   have hlen := h5.len
   simp only [vop, w1, add_none]
   refine hF G _ m (Ghost.le.refl G) hI ⟨_, RV.sl' g1 (capR_self hb.2) ?_, rfl⟩
   subst h6
   rw [List.length_append] at h4
   omega
 case st y v n =>
  simp only [mo] at hp
  split at hp <;> try (cases hp; done)
  rename_i a u0 ha hu0
  obtain ⟨w, w1, w2⟩ := cat_at hg hE ha
  obtain ⟨b, s, L, g1, g2, rfl⟩ := w2.ptr
  obtain ⟨z, z1, z2⟩ := cat_at hg hE hu0
  cases hc : (Nat.beq (cellsL u0).length n && oneL (cellsL u0)) with
  | false => rw [hc] at hp; cases hp
  | true =>
   rw [hc] at hp; simp only [cond_true] at hp
   split at hp <;> try (cases hp; done)
   rename_i cs T sz hlv
   cases hb : (x.own t a.block && kok a.block && Nat.ble (a.off + n) cs.length) with
   | false => rw [hb] at hp; cases hp
   | true =>
    rw [hb] at hp; cases hp
    simp only [Bool.and_eq_true] at hb hc
    obtain ⟨b', L', l, fr, h1, h2, h3, h4, l1, rest, h5, h6⟩ := hI.blk _ _ _ _ (live_get hlv)
    rw [g1] at h1; cases h1
    have hfr := h3 hb.1.1; subst hfr
    have hlen : (cellsL z).length = n := by rw [← z2.cells.len]; exact beq_ff hc.1
    have hle := Nat.le_of_ble_eq_true hb.2
    have hle2 : a.off + (cellsL z).length ≤ l1.length := by rw [hlen, ← h5.len]; exact hle
    have hc' : (Nat.beq (cellsL z).length n && oneL (cellsL z)) = true := by rw [hlen, z2.cells.one hc.2]; simp
    simp only [vop, w1, z1, hc', cond_true]
    subst h6
    refine WSt.mk _ T h2 rfl (by simp; omega) ?_
    show F (.val undef) (m.set b (Cells (spliceL (l1 ++ rest) a.off (cellsL z)) T))
    rw [splice_app hle2]
    exact hF G _ _ (Ghost.le.refl G) (hI.write hb.1.2 hb.1.1 (live_get hlv) g1 (RVL.splice a.off h5 z2.cells) rfl (by rw [← h4]; simp [splice_len])) ⟨undef, flat_self _ rfl, rfl⟩
 case al T zeros =>
  simp only [mo] at hp
  cases hb : (newlab x t nx && flatL zeros) with
  | false => rw [hb] at hp; cases hp
  | true =>
   rw [hb] at hp; cases hp
   rw [Bool.and_eq_true] at hb
   obtain ⟨k1, k2⟩ := newlab_ok hb.1
   simp only [vop]
   refine WNew.mk fun b hbn => ?_
   obtain ⟨hle, hI'⟩ := hI.new (sz := 1) (T := T) k1 k2 hbn (flatL_self zeros hb.2) (List.append_nil zeros).symm
   exact hF _ _ _ hle hI' ⟨_, RV.ptr' (if_pos rfl), rfl⟩
 case bx T y =>
  simp only [mo] at hp
  split at hp <;> try (cases hp; done)
  rename_i v hv
  cases hb : newlab x t nx with
  | false => rw [hb] at hp; cases hp
  | true =>
   rw [hb] at hp; cases hp
   obtain ⟨k1, k2⟩ := newlab_ok hb
   obtain ⟨z, z1, z2⟩ := cat_at hg hE hv
   simp only [vop, z1]
   refine WNew.mk fun b hbn => ?_
   obtain ⟨hle, hI'⟩ := hI.new (sz := 1) (T := T) k1 k2 hbn z2.cells (List.append_nil (cellsL z)).symm
   exact hF _ _ _ hle hI' ⟨_, RV.ptr' (if_pos rfl), rfl⟩
 case bs T len zeros parts =>
  simp only [mo] at hp
  cases hb : (newlab x t nx && flatL zeros && Nat.ble (len + 1) INF && Nat.beq (len * (zeros.length / len)) zeros.length) with
  | false => rw [hb] at hp; cases hp
  | true =>
   rw [hb] at hp; simp only [cond_true] at hp
   simp only [Bool.and_eq_true] at hb
   split at hp <;> try (cases hp; done)
   rename_i ps hps
   split at hp <;> try (cases hp; done)
   rename_i cs hcs; cases hp
   obtain ⟨k1, k2⟩ := newlab_ok hb.1.1.1
   obtain ⟨qs, q1, q2⟩ := cparts_parts hg hE hps
   obtain ⟨r, r1, r2⟩ := fill_rel q2 (flatL_self (G := G) zeros hb.1.1.2) hcs
   simp only [vop, q1, r1]
   refine WNew.mk fun b hbn => ?_
   obtain ⟨hle, hI'⟩ := hI.new (sz := zeros.length / len) (T := T) k1 k2 hbn r2 (List.append_nil r).symm
   have hrl : r.length = zeros.length := by
    have : ∀ (ps : List (Nat × Nat × Value)) (l r : List Value), fillL l ps = some r → r.length = l.length := by
     intro ps
     induction ps with
     | nil => intro l r h; cases h; rfl
     | cons p ps ih =>
      obtain ⟨i, n, v⟩ := p
      intro l r h
      simp only [fillL] at h
      cases hq : Nat.beq (cellsL v).length n && Nat.ble (i + n) l.length with
      | false => rw [hq] at h; cases h
      | true => rw [hq] at h; simp only [cond_true] at h; rw [ih _ _ h, splice_len]
    exact this _ _ _ r1
   refine hF _ _ _ hle hI' ⟨_, RV.sl' (sz := zeros.length / len) (L := r.length) (if_pos rfl) (capR_self hb.1.2) ?_, rfl⟩
   rw [hrl, Nat.zero_add, beq_ff hb.2]; exact Nat.le_refl _
 case mk T bytes zero l d =>
  simp only [mo] at hp
  split at hp <;> try (cases hp; done)
  rename_i l0 d0 hl hd
  obtain ⟨wl, l1, l2⟩ := cat_at hg hE hl
  obtain ⟨wd, d1, d2⟩ := cat_at hg hE hd
  cases l2.int; cases d2.int
  cases hb : (newlab x t nx && flatL zero && (decide (0 ≤ l0) && decide (l0 ≤ d0) && decide (d0 * bytes ≤ 140737488355328)) && Nat.ble (d0.toNat + 1) INF) with
  | false => rw [hb] at hp; cases hp
  | true =>
   rw [hb] at hp; cases hp
   simp only [Bool.and_eq_true, decide_eq_true_eq] at hb
   obtain ⟨⟨⟨b1, b2⟩, ⟨b3, b4⟩, b5⟩, b6⟩ := hb
   obtain ⟨k1, k2⟩ := newlab_ok b1
   simp only [vop, l1, d1]
   refine WMake.mk ⟨b3, b4, b5⟩ fun b hbn => ?_
   obtain ⟨hle, hI'⟩ := hI.new (sz := zero.length) (T := T) k1 k2 hbn (rep_rel (G := G) d0.toNat b2) (List.append_nil _).symm
   refine hF _ _ _ hle hI' ⟨_, RV.sl' (sz := zero.length) (L := (List.replicate d0.toNat zero).flatten.length) (if_pos rfl) (capR_self b6) ?_, rfl⟩
   rw [rep_len]; omega
 case cp sz d y =>
  simp only [mo] at hp
  split at hp <;> try (cases hp; done)
  rename_i a len cap b n cap2 hd hy
  obtain ⟨wd, d1, d2⟩ := cat_at hg hE hd
  obtain ⟨wy, y1, y2⟩ := cat_at hg hE hy
  obtain ⟨bb, s, L, d', g1, g2, g3, g4, rfl⟩ := d2.sl
  split at hp <;> try (cases hp; done)
  rename_i new cs U sz' hnew hlv
  obtain ⟨hnl, hsrc⟩ := slcells_ok hI hnew
  cases hb : (srcok b (min n len) && x.own t a.block && kok a.block && oneL new && Nat.ble (a.off + min n len * sz) cs.length) with
  | false => rw [hb] at hp; cases hp
  | true =>
   rw [hb] at hp; cases hp
   simp only [Bool.and_eq_true] at hb
   obtain ⟨⟨⟨⟨b1, b2⟩, b3⟩, b4⟩, b5⟩ := hb
   obtain ⟨b', L', l, fr, h1, h2, h3, h4, l1, rest, h5, h6⟩ := hI.blk _ _ _ _ (live_get hlv)
   rw [g1] at h1; cases h1
   have hfr := h3 b2; subst hfr; subst h6
   have hle := Nat.le_of_ble_eq_true b5
   -- the source
   have key : ∃ (ad : Option Addr) (cap3 : Nat) (new' : List Value), wy = .slice ad n cap3 ∧ RVL G new new' ∧ FirstCells m ad (min n len * sz) new' ∧ (ad = none → min n len = 0) := by
    cases b with
    | none =>
     cases y2.sl0
     have h0 : min n len = 0 := beq_ff b1
     rw [h0] at hnl
     obtain rfl : new = [] := List.length_eq_zero_iff.1 (by simpa using hnl)
     exact ⟨none, cap2, [], rfl, RVL.nil', ⟨by rw [h0]; simp, fun ad h => by cases h⟩, fun _ => h0⟩
    | some a2 =>
     obtain ⟨bb2, s2, L2, d2', q1, q2, q3, q4, rfl⟩ := y2.sl
     obtain ⟨vs, v1, v2, v3⟩ := hsrc bb2 s2 L2 q1
     exact ⟨_, d2', vs, rfl, v1, ⟨v2, fun ad h => by cases h; exact v3⟩, fun h => by cases h⟩
   obtain ⟨ad, cap3, new', rfl, r1, r2, r3⟩ := key
   have hle2 : a.off + new'.length ≤ l1.length := by rw [← r1.len, hnl, ← h5.len]; exact hle
   simp only [vop, d1, y1]
   unfold WCopy
   refine ⟨new', r2, r3, Or.inr ⟨_, rfl, l1 ++ rest, U, h2, rfl, ?_, r1.one b4, ?_⟩⟩
   ·have := r1.len; show a.off + min n len * sz ≤ (l1 ++ rest).length; simp; omega
   ·show F _ (m.set bb (Cells (spliceL (l1 ++ rest) a.off new') U))
    rw [splice_app hle2]
    exact hF G _ _ (Ghost.le.refl G) (hI.write b3 b2 (live_get hlv) g1 (RVL.splice a.off h5 r1) rfl (by rw [← h4]; simp [splice_len])) ⟨_, RV.int', rfl⟩
 case clr sz zero y =>
  simp only [mo] at hp
  split at hp <;> try (cases hp; done)
  ·rename_i n d hy; cases hp
   obtain ⟨wy, y1, y2⟩ := cat_at hg hE hy
   cases y2.sl0
   simp only [vop, y1]
   unfold WClr
   exact Or.inl ⟨Or.inl rfl, hF G _ _ (Ghost.le.refl G) hI ⟨_, flat_self _ rfl, rfl⟩⟩
  ·rename_i a n d hy
   obtain ⟨wy, y1, y2⟩ := cat_at hg hE hy
   obtain ⟨bb, s, L, d', g1, g2, g3, g4, rfl⟩ := y2.sl
   simp only [vop, y1]
   split at hp
   ·cases hp
    unfold WClr
    exact Or.inl ⟨Or.inr rfl, hF G _ _ (Ghost.le.refl G) hI ⟨_, flat_self _ rfl, rfl⟩⟩
   ·rename_i n'
    split at hp <;> try (cases hp; done)
    rename_i cs U sz' hlv
    cases hb : (x.own t a.block && kok a.block && flatL zero && oneL (List.replicate (n' + 1) zero).flatten && Nat.beq (List.replicate (n' + 1) zero).flatten.length ((n' + 1) * sz) && Nat.ble (a.off + (n' + 1) * sz) cs.length) with
    | false => rw [hb] at hp; cases hp
    | true =>
     rw [hb] at hp; cases hp
     simp only [Bool.and_eq_true] at hb
     obtain ⟨⟨⟨⟨⟨b1, b2⟩, b3⟩, b4⟩, b5⟩, b6⟩ := hb
     obtain ⟨b', L', l, fr, h1, h2, h3, h4, l1, rest, h5, h6⟩ := hI.blk _ _ _ _ (live_get hlv)
     rw [g1] at h1; cases h1
     have hfr := h3 b1; subst hfr; subst h6
     have hle := Nat.le_of_ble_eq_true b6
     have hrl := beq_ff b5
     have hlen := h5.len
     have hle2 : a.off + (List.replicate (n' + 1) zero).flatten.length ≤ l1.length := by rw [hrl]; omega
     unfold WClr
     refine Or.inr ⟨_, rfl, l1 ++ rest, U, h2, rfl, ?_, by omega, b4, ?_⟩
     ·show a.off + (n' + 1) * sz ≤ (l1 ++ rest).length; simp; omega
     ·show F _ (m.set bb (Cells (spliceL (l1 ++ rest) a.off (List.replicate (n' + 1) zero).flatten) U))
      rw [splice_app hle2]
      exact hF G _ _ (Ghost.le.refl G) (hI.write b2 b1 (live_get hlv) g1 (RVL.splice a.off h5 (rep_rel (n' + 1) b3)) rfl (by rw [← h4]; simp [splice_len])) ⟨_, flat_self _ rfl, rfl⟩
 case ap T sz bytes zero s y =>
  simp only [mo] at hp
  split at hp <;> try (cases hp; done)
  rename_i a len cap b n cap2 hs hy
  obtain ⟨ws, s1, s2⟩ := cat_at hg hE hs
  obtain ⟨wy, y1, y2⟩ := cat_at hg hE hy
  split at hp <;> try (cases hp; done)
  rename_i new hnew
  obtain ⟨hnl, hsrc⟩ := slcells_ok hI hnew
  cases hone : (oneL new && Nat.beq sz zero.length && srcok b n) with
  | false => rw [hone] at hp; cases hp
  | true =>
   rw [hone] at hp; simp only [cond_true] at hp
   simp only [Bool.and_eq_true] at hone
   obtain ⟨⟨hone, hzl⟩, hok⟩ := hone
   obtain rfl := beq_ff hzl
   -- the source
   have key : ∃ (ad : Option Addr) (cap3 : Nat) (new' : List Value), wy = .slice ad n cap3 ∧ RVL G new new' ∧ FirstCells m ad (n * zero.length) new' ∧ (ad = none → n = 0) := by
    cases b with
    | none =>
     cases y2.sl0
     have h0 : n = 0 := beq_ff hok
     subst h0
     obtain rfl : new = [] := List.length_eq_zero_iff.1 (by simpa using hnl)
     exact ⟨none, cap2, [], rfl, RVL.nil', ⟨by simp, fun ad h => by cases h⟩, fun _ => rfl⟩
    | some a2 =>
     obtain ⟨bb2, s2', L2, d2', q1, q2, q3, q4, rfl⟩ := y2.sl
     obtain ⟨vs, v1, v2, v3⟩ := hsrc bb2 s2' L2 q1
     exact ⟨_, d2', vs, rfl, v1, ⟨v2, fun ad h => by cases h; exact v3⟩, fun h => by cases h⟩
   clear hsrc hnew hok hy y2
   obtain ⟨ad, cap3, new', rfl, r1, r2, r3⟩ := key
   have hnl' : new'.length = n * zero.length := by rw [← r1.len]; exact hnl
   have hone' := r1.one hone
   -- growing, out of cells that are there
   have grow : ∀ {old : List Value} {G0 : Ghost} {t0 : St} {ad0 : Option Addr} (old' : List Value), Inv P gl μ G0 x t0 m → Ghost.le G G0 → RVL G0 old old' → old'.length = len * zero.length → newlab x t0 nx = true →
     (∀ G' u' m', Ghost.le G0 G' → Inv P gl μ G' x (t0.put nx (.bl (old ++ new) T zero.length)) m' → RA G' (.val (.slice (some ⟨nx, 0, none⟩) (len + n) (INF + (len + n)))) u' → F u' m') →
     ∀ b c, m b = none → len + n ≤ c → F (.val (.slice (some ⟨b, 0, none⟩) (len + n) c)) (m.set b (Cells (old' ++ new' ++ (List.replicate (c - (len + n)) zero).flatten) T)) := by
    intro old G0 t0 ad0 old' hI0 hle0 ho hol hnw hF0 b c hb hc
    obtain ⟨k1, k2⟩ := newlab_ok hnw
    obtain ⟨hle, hI'⟩ := hI0.new (sz := zero.length) (T := T) k1 k2 hb (RVL.app ho (r1.mono hle0 _ _)) rfl
    refine hF0 _ _ _ hle hI' ⟨_, RV.sl' (if_pos rfl) (capR_up hc) ?_, rfl⟩
    simp only [List.length_append, rep_len, hol, hnl']
    rw [← Nat.add_mul, ← Nat.add_mul, Nat.zero_add]
    exact Nat.mul_le_mul_right _ (by omega)
   cases a with
   | none =>
    cases s2.sl0
    simp only at hp
    cases h0 : (Nat.beq len 0 && Nat.beq cap 0) with
    | false => rw [h0] at hp; cases hp
    | true =>
     rw [h0] at hp; simp only [cond_true] at hp
     rw [Bool.and_eq_true] at h0
     obtain rfl := beq_ff h0.1
     obtain rfl := beq_ff h0.2
     simp only [vop, s1, y1]
     unfold WApp
     refine ⟨new', r2, r3, fun hle => ?_, fun hlt => ?_⟩
     ·have : n = 0 := by omega
      subst this
      cases hp
      exact Or.inl ⟨rfl, by simp, hF G _ m (Ghost.le.refl G) hI ⟨_, flat_self _ rfl, rfl⟩⟩
     ·cases n with
      | zero => omega
      | succ n' =>
       simp only at hp
       cases hb : (newlab x t nx && Nat.ble ((n' + 1) * bytes) 35184372088832) with
       | false => rw [hb] at hp; cases hp
       | true =>
        rw [hb] at hp; cases hp
        rw [Bool.and_eq_true] at hb
        refine ⟨by rw [Nat.zero_add]; exact Nat.le_of_ble_eq_true hb.2, [], ⟨by simp, fun ad h => by cases h⟩, fun _ => rfl, fun b c hbn hc => ?_⟩
        refine grow (old := []) (ad0 := none) [] hI (Ghost.le.refl G) RVL.nil' (by simp) hb.1 (fun G' u' m' g1 g2 g3 => hF G' u' m' g1 g2 ?_) b c hbn hc
        rw [Nat.zero_add] at g3; exact g3
   | some a =>
    obtain ⟨bb, s, L, d', g1, g2, g3, g4, rfl⟩ := s2.sl
    simp only at hp
    split at hp <;> try (cases hp; done)
    rename_i cs U sz' old hlv hold
    obtain ⟨b', L', l, fr, h1, h2, h3, h4, l1, rest, h5, h6⟩ := hI.blk _ _ _ _ (live_get hlv)
    rw [g1] at h1; cases h1
    obtain ⟨hol, hos⟩ := slcells_ok hI hold
    obtain ⟨old', o1, o2, o3⟩ := hos _ _ _ g1
    have first : FirstCells m (some ⟨bb, a.off, none⟩) (len * zero.length) old' := ⟨o2, fun ad h => by cases h; exact o3⟩
    simp only [vop, s1, y1]
    split at hp
    ·rename_i hInf
     cases hb : (Nat.beq a.off 0 && x.own t a.block && Nat.beq zero.length s && newlab x t nx && kok a.block && !(Nat.beq a.block nx) && Nat.ble ((len + n) * bytes) 35184372088832 && Nat.beq U T) with
     | false => rw [hb] at hp; cases hp
     | true =>
      rw [hb] at hp; cases hp
      simp only [Bool.and_eq_true] at hb
      obtain ⟨⟨⟨⟨⟨⟨⟨b1, b2⟩, b3⟩, b4⟩, b5⟩, b6⟩, b7⟩, b8⟩ := hb
      have hfr := h3 b2; subst hfr; subst h6
      obtain rfl := beq_ff b8
      have hoff := beq_ff b1
      have hsz := beq_ff b3
      have hI0 := hI.kill b5 b2
      have hne : nx ≠ a.block := fun hh => by rw [hh] at b6; simp at b6
      obtain ⟨n1, n2⟩ := newlab_ok b4
      have n3 : x.get (t.put a.block .dead) nx = none := by rw [get_put x t b5, if_neg hne]; exact n2
      have hnw : newlab x (t.put a.block .dead) nx = true := by unfold newlab; rw [n1, n3]; rfl
      unfold WApp
      refine ⟨new', r2, r3, fun hle => Or.inr ⟨_, rfl, l1 ++ rest, U, h2, rfl, ?_, hone', ?_⟩, fun hlt => ⟨Nat.le_of_ble_eq_true b7, old', first, (fun h => by cases h), fun b c hbn hc => ?_⟩⟩
      ·show a.off + len * zero.length + n * zero.length ≤ (l1 ++ rest).length
       rw [h4, hoff, Nat.zero_add, ← Nat.add_mul]
       rw [hoff, Nat.zero_add, ← hsz] at g4
       exact Nat.le_trans (Nat.mul_le_mul_right _ hle) g4
      ·have hle2 : a.off + len * zero.length + new'.length ≤ (l1 ++ rest).length := by
        rw [hnl', h4, hoff, Nat.zero_add, ← Nat.add_mul]
        rw [hoff, Nat.zero_add, ← hsz] at g4
        exact Nat.le_trans (Nat.mul_le_mul_right _ hle) g4
       show F _ (m.set bb (Cells (spliceL (l1 ++ rest) (a.off + len * zero.length) new') U))
       -- the first cells are the old ones
       have htk : (l1 ++ rest).take (a.off + len * zero.length) = old' := by
        rw [hoff, Nat.zero_add]
        apply List.ext_getElem?
        intro i
        rw [List.getElem?_take]
        by_cases hi : i < len * zero.length
        ·rw [if_pos hi]
         have hlt : i < old'.length := by omega
         have hg : old'[i]? = some old'[i] := List.getElem?_eq_getElem hlt
         obtain ⟨cc, TT, ff, q1, q2, q3⟩ := o3 i _ hg
         rw [add_none] at q1 q3
         rw [h2] at q1; cases q1
         rw [hoff, Nat.zero_add] at q3
         rw [hg, ← q3]
         simp
        ·rw [if_neg hi, List.getElem?_eq_none (by omega)]
       rw [spliceL_eq _ _ _ hle2, htk]
       have hbb : ∀ k cs T sz s L, x.get (t.put a.block .dead) k = some (.bl cs T sz) → G k ≠ some (bb, s, L) := by
        intro k cs2 T2 sz2 s2 L2 hk hG
        rw [get_put x t b5] at hk
        by_cases e : k = a.block
        ·rw [if_pos e] at hk; cases hk
        ·rw [if_neg e] at hk; exact e (hI.inj _ _ _ _ _ _ _ _ _ _ _ _ _ hk (live_get hlv) hG g1)
       have hbbm : ∀ k cs s L, x.get (t.put a.block .dead) k = some (.mp cs) → G k ≠ some (bb, s, L) := by
        intro k cs2 s2 L2 hk hG
        rw [get_put x t b5] at hk
        by_cases e : k = a.block
        ·rw [if_pos e] at hk; cases hk
        ·rw [if_neg e] at hk
         obtain ⟨b0, sz0, L0, l0, q1, q2, _⟩ := hI.mps k cs2 hk
         rw [hG] at q1; cases q1
         rw [h2] at q2; exact mapObj_cells (Option.some.inj q2).symm
       have hbbl : ∀ k c ps a1 a2 s L, x.get (t.put a.block .dead) k = some (.lp c ps a1 a2) → x.own (t.put a.block .dead) k = true → G k ≠ some (bb, s, L) := by
        intro k c2 ps2 a1 a2 s2 L2 hk ho hG
        rw [own_put x t b5] at ho
        rw [get_put x t b5] at hk
        by_cases e : k = a.block
        ·rw [if_pos e] at hk; cases hk
        ·rw [if_neg e] at hk ho
         obtain ⟨b0, sz0, L0, r0, e0, q1, q2, _⟩ := hI.lps k c2 ps2 a1 a2 hk ho
         rw [hG] at q1; cases q1
         rw [h2] at q2; cases q2
       obtain ⟨hle3, hI'⟩ := hI0.add (sz := zero.length) (T := U) (l := old' ++ new' ++ (l1 ++ rest).drop (a.off + len * zero.length + new'.length)) n1 n3 (hI.own _ _ _ _ b2 (by rw [live_get hlv]; exact fun hh => by cases hh) g1) hbb hbbm hbbl (RVL.app o1 r1) rfl
       refine hF _ _ _ hle3 hI' ⟨.slice (some ⟨bb, a.off, none⟩) (len + n) d', ?_, rfl⟩
       rw [hoff]
       refine RV.sl' (if_pos rfl) (capR_up hle) ?_
       rw [Nat.zero_add]
       have : (old' ++ new' ++ (l1 ++ rest).drop (a.off + len * zero.length + new'.length)).length = (l1 ++ rest).length := by
        simp only [List.length_append, List.length_drop, o2] at hle2 ⊢
        rw [hoff, Nat.zero_add] at hle2 ⊢
        omega
       rw [hoff] at this
       rw [this, h4]
       rw [hoff, Nat.zero_add, ← hsz] at g4
       exact g4
      ·exact grow (old := old) (ad0 := none) old' hI0 (Ghost.le.refl G) o1 o2 hnw (fun G' u' m' q1 q2 q3 => hF G' u' m' q1 q2 q3) b c hbn hc
    ·rename_i hInf
     obtain rfl := capR_exact hInf g3
     split at hp
     ·rename_i hcap
      have hcap := Nat.le_of_ble_eq_true hcap
      cases hb : (x.own t a.block && kok a.block && Nat.ble (a.off + len * zero.length + n * zero.length) cs.length) with
      | false => rw [hb] at hp; cases hp
      | true =>
       rw [hb] at hp; cases hp
       simp only [Bool.and_eq_true] at hb
       obtain ⟨⟨b1, b2⟩, b3⟩ := hb
       have b3 := Nat.le_of_ble_eq_true b3
       have hfr := h3 b1; subst hfr; subst h6
       have hlen := h5.len
       have hle2 : a.off + len * zero.length + new'.length ≤ l1.length := by omega
       unfold WApp
       refine ⟨new', r2, r3, fun hle => Or.inr ⟨_, rfl, l1 ++ rest, U, h2, rfl, ?_, hone', ?_⟩, fun hlt => by omega⟩
       ·show a.off + len * zero.length + n * zero.length ≤ (l1 ++ rest).length
        simp; omega
       ·show F _ (m.set bb (Cells (spliceL (l1 ++ rest) (a.off + len * zero.length) new') U))
        rw [splice_app hle2]
        exact hF G _ _ (Ghost.le.refl G) (hI.write b2 b1 (live_get hlv) g1 (RVL.splice (a.off + len * zero.length) h5 r1) rfl (by rw [← h4]; simp [splice_len])) ⟨_, RV.slA g1 g2 g3 g4, rfl⟩
     ·rename_i hcap
      have hcap : d' < len + n := Nat.lt_of_not_le fun hh => by rw [Nat.ble_eq_true_of_le hh] at hcap; cases hcap
      cases hb : (newlab x t nx && Nat.ble ((len + n) * bytes) 35184372088832) with
      | false => rw [hb] at hp; cases hp
      | true =>
       rw [hb] at hp; cases hp
       rw [Bool.and_eq_true] at hb
       unfold WApp
       refine ⟨new', r2, r3, fun hle => by omega, fun hlt => ⟨Nat.le_of_ble_eq_true hb.2, old', first, (fun h => by cases h), fun b c hbn hc => ?_⟩⟩
       exact grow (old := old) (ad0 := none) old' hI (Ghost.le.refl G) o1 o2 hb.1 (fun G' u' m' q1 q2 q3 => hF G' u' m' q1 q2 q3) b c hbn hc
 all_goals (simp only [mo] at hp; cases hp)
end Go.Vx.Ev
