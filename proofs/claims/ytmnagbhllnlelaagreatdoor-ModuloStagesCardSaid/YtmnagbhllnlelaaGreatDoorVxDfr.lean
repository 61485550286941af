/- VX: functions that defer one call at their head. -/
import Derived.Test.YtmnagbhllnlelaaGreatDoorVxEvH
set_option linter.unusedSimpArgs false
set_option linter.unusedVariables false
namespace Go.Vx
open Go
variable {P : Program}

inductive IRD where
  | seq (x : IR) (y : IRD)
  | dfr (pre : RG) (f : Opd) (args : List Opd) (y : IR)
structure FnD where
  nt : Nat
  res : List Res
  body : IRD
def okIRD (P : Program) (N : Nat) : Code → IRD → Bool
  | .seq a b, .seq x y => okIR P N false a x && x.okW && okIRD P N b y
  | .seq (.region _ ops false) b, .dfr g f args y => (match okG P N ops g none ops.toList 0 with
      | some ([o], _) => (match o.op with | .defer c => (match c.callee with | .value fv => okX f fv && okXs args c.args.toList | _ => false) | _ => false) && (match o.guard with | none => true | _ => false) && (match o.dst with | none => true | _ => false)
      | _ => false) && (okIR P N true b y && y.okW)
  | _, _ => false
def wpD (P : Program) : IRD → (Nat → List Value → Post) → Env → Mem → Prop
  | .seq x y, Q, e, m => wpI P x (thenE (fun e' m' => wpD P y Q e' m') (fun _ _ _ => False)) e m
  | .dfr pre f args y, Q, e, m => opsI P (fun _ _ => False) pre (fun e' m' => ∃ g first caps vs, f.at e' = some (.func (.func g) first caps) ∧ Opd.ats e' args = some vs ∧ wpI P y (Q g (first.toList ++ vs ++ caps.toList)) e' m') e m
/-- A call that was deferred, made while its frame returns. -/
def DefM (P : Program) (g : Nat) (vs : List Value) (m : Mem) (R : Ending → Mem → Prop) : Prop :=
  callable P g = true ∧ ∀ w, Sub m w → CallsDIn Fence.wide 0 P g ⟨vs⟩ .returning w fun e u w' => u = .returning ∧ ∃ m', Step m w m' w' ∧ R e m'
def retPostD (P : Program) (rs : List Res) (R : Ending → Mem → Prop) (g : Nat) (vs : List Value) : Post := fun ex e m =>
  match ex with
  | .normal | .ret => ∃ Rd, DefM P g vs m Rd ∧ ∀ en m', Rd en m' → (match en with | .returned _ => (match resAts m' e rs with | some us => WRet m' R (.returned (resVal us)) | none => False) | _ => False)
  | _ => False
def okFnD (P : Program) (fn : Func) (F : FnD) : Bool :=
  Nat.beq F.nt fn.ntmps && (match fn.body with | some c => okIRD P F.nt c F.body | none => false) && okRess P fn.results.toList F.res && !(fn.name == "runtime.NumGoroutine")
def okFnP (P : Program) (fn : Func) (F : Fn) : Bool :=
  Nat.beq F.nt fn.ntmps && (match fn.body with | some c => okIR P F.nt false c F.body | none => false) && F.body.okW && okRess P fn.results.toList F.res && !(fn.name == "runtime.NumGoroutine")
theorem def_of {f : Nat} {fn : Func} {F : Fn} {args : List Value} {m : Mem} {R : Ending → Mem → Prop} (hmix : P.follows .mixedOrders = true) (hf : P.funcs[f]? = some fn) (hok : okFnP P fn F = true) (hn : Nat.ble args.length F.nt = true)
    (h : F.asks P args m R) : DefM P f args m R := by
  simp only [okFnP, Bool.and_eq_true, Bool.not_eq_true'] at hok
  obtain ⟨⟨⟨⟨h1, h2⟩, h3⟩, h4⟩, h5⟩ := hok
  split at h2 <;> first | (cases h2; done) | skip
  rename_i c hb
  have hnt := beq_ff h1
  refine ⟨by unfold callable; simp only [hf, hb, h5, Option.isSome_some, Bool.not_false, Bool.and_true], fun w hsub => ?_⟩
  refine callsDIn_of_wp (F := Fence.wide) (n := 0) (R := fun e w' => ∃ m', Step m w m' w' ∧ R e m') hf hb trivial ?_
  have hrel := start_rel (D0 := ⟨[], true⟩) hsub hnt (Nat.le_of_ble_eq_true hn)
  refine wpIn_mono (ir_sound hmix F.body false ⟨[], true⟩ none m w c _ _ m _ w (fun hh => by cases hh) h2 h3 hrel h) fun ex a' w' hp => ?_
  have nodef : ∀ {m' : Mem} {ds : List Deferred}, DefsOK ⟨[], true⟩ m' w ds w' → ds = [] := fun hd => by
    obtain ⟨rs, d1, _, d3, _⟩ := hd
    rw [d1, d3 rfl]; rfl
  have fin : ∀ e' m', Rel ⟨[], true⟩ m w F.nt e' m' a' w' → (match resAts m' e' F.res with | some vs => WRet m' R (.returned (resVal vs)) | none => False) →
      a'.defers = [] ∧ ∃ v, (results fn a'.tmps).run P w' = .ok v w' ∧ ∃ m', Step m w m' w' ∧ R (.returned v) m' := fun e' m' hrel hr => by
    split at hr <;> first | exact hr.elim | skip
    rename_i vs hvs
    unfold WRet at hr
    obtain ⟨m'', hle, hR⟩ := hr
    exact ⟨nodef hrel.defers, _, run_results hrel h4 hvs, m'', step_less hrel.step hle, hR⟩
  cases ex with
  | normal => obtain ⟨e', m', g1, g2⟩ := hp; exact fin e' m' g1 g2
  | ret => obtain ⟨e', m', g1, g2⟩ := hp; exact fin e' m' g1 g2
  | exit j => obtain ⟨e', m', g1, g2⟩ := hp; exact g2.elim
  | goto j => obtain ⟨e', m', g1, g2⟩ := hp; exact g2.elim
  | outgrown => obtain ⟨e', m', g1, g2⟩ := hp; exact g2.elim
  | panic ch =>
    obtain ⟨m', g1, g2, g3⟩ := hp
    simp only [retPost] at g3
    unfold WRet at g3
    obtain ⟨m'', hle, hR⟩ := g3
    exact ⟨nodef g2, m'', step_less g1 hle, hR⟩
theorem calls_dfr {f : Nat} {fn : Func} {F : FnD} {args : List Value} {m : Mem} {R : Ending → Mem → Prop} (hmix : P.follows .mixedOrders = true) (hf : P.funcs[f]? = some fn) (hok : okFnD P fn F = true) (hn : Nat.ble args.length F.nt = true)
    (h : wpD P F.body (retPostD P F.res R) (envOf args) m) : CallsM P f args m R := by
  simp only [okFnD, Bool.and_eq_true, Bool.not_eq_true'] at hok
  obtain ⟨⟨⟨h1, h2⟩, h4⟩, h5⟩ := hok
  split at h2 <;> first | (cases h2; done) | skip
  rename_i c hb
  have hnt := beq_ff h1
  refine ⟨by unfold callable; simp only [hf, hb, h5, Option.isSome_some, Bool.not_false, Bool.and_true], fun w hsub => ?_⟩
  refine callsIn_wide.1 (callsIn_of_wp_marks (F := Fence.wide) (n := 0) hf hb trivial ?_)
  have key : ∀ (x : IRD) (c : Code) (e : Env) (m1 : Mem) (a : Act) (w1 : World), okIRD P F.nt c x = true → Rel ⟨[], true⟩ m w F.nt e m1 a w1 → wpD P x (retPostD P F.res R) e m1 →
      c.wpIn (FR none) 0 P (bodyPostM Fence.wide 0 P fn fun e w' => ∃ m', Step m w m' w' ∧ R e m') a w1 := by
    intro x
    induction x with
    | seq x y ih =>
      intro c e m1 a w1 hok hrel hw
      cases c <;> simp only [okIRD] at hok <;> first | (cases hok; done) | skip
      rename_i ca cb
      simp only [Bool.and_eq_true] at hok
      simp only [wpD] at hw
      refine wpIn_seq (wpIn_mono (ir_sound hmix x false ⟨[], true⟩ none m w ca _ _ m1 a w1 (fun hh => by cases hh) hok.1.1 hok.1.2 hrel hw) fun ex a' w' hp => ?_)
      cases ex with
      | normal => obtain ⟨e', m', g1, g2⟩ := hp; exact ih cb e' m' a' w' hok.2 g1 g2
      | exit j => obtain ⟨_, _, _, q⟩ := hp; exact q.elim
      | goto j => obtain ⟨_, _, _, q⟩ := hp; exact q.elim
      | ret => obtain ⟨_, _, _, q⟩ := hp; exact q.elim
      | panic ch => obtain ⟨_, _, _, q⟩ := hp; exact q.elim
      | outgrown => obtain ⟨_, _, _, q⟩ := hp; exact q.elim
    | dfr g fo args' y =>
      intro c e m1 a w1 hok hrel hw
      cases c <;> try (simp [okIRD] at hok; done)
      rename_i ca cb
      cases ca <;> try (simp [okIRD] at hok; done)
      rename_i id ops dr
      cases dr <;> try (simp [okIRD] at hok; done)
      simp only [okIRD, Bool.and_eq_true] at hok
      obtain ⟨hok1, hok2, hok3⟩ := hok
      split at hok1 <;> try (cases hok1; done)
      rename_i o j hg
      simp only [Bool.and_eq_true] at hok1
      obtain ⟨⟨k1, k2⟩, k3⟩ := hok1
      split at k1 <;> try (cases k1; done)
      rename_i cl hop
      split at k1 <;> try (cases k1; done)
      rename_i fv hcal
      rw [Bool.and_eq_true] at k1
      split at k2 <;> try (cases k2; done)
      rename_i hgd
      split at k3 <;> try (cases k3; done)
      rename_i hdst
      simp only [wpD] at hw
      have hsz := (okG_size g hg).2.1
      simp only [Array.length_toList, Nat.add_zero, List.length_cons, List.length_nil] at hsz
      have hlast : ops[j]? = some o := by
        have h3 := (okG_size g hg).2.2
        have : (ops.toList.drop (j - 0))[0]? = some o := by rw [← h3]; rfl
        rw [List.getElem?_drop] at this
        simpa using this
      refine wpIn_seq (wpIn_region ?_)
      have := G_sound (ro := none) (Q := Exit.then (cb.wpIn (FR none) 0 P (bodyPostM Fence.wide 0 P fn fun e w' => ∃ m', Step m w m' w' ∧ R e m')) (bodyPostM Fence.wide 0 P fn fun e w' => ∃ m', Step m w m' w' ∧ R e m')) (ops := ops) (X := fun _ _ => False)
        (fun ch m' w' a' hx _ _ => hx.elim) g none ops.toList [o] 0 j e m1 a w1 _ hg (fun i => by simp) (fun x hx => by cases hx) hrel hw (fun e' m' a' w' hk hrel' _ => by
          obtain ⟨gf, first, caps, vs, f1, f2, f3⟩ := hk
          refine wpOps_step hlast rfl (wpOp_wanted hlast (by unfold Region.wanted; rw [hgd]) ?_)
          have hev := okX_eval hrel' k1.1 f1
          have ha : cl.args.map a'.eval = ⟨vs⟩ := by apply Array.ext'; rw [Array.toList_map, okXs_eval hrel' k1.2 f2]
          let d : Deferred := { target := .fn (.func gf) caps, args := first ++ ⟨vs⟩ }
          have hrun : (execOp a'.eval o).run P w' = .ok (.defer d) w' := by
            simp only [execOp, hop, resolve, hcal, hev, Deferred.ofValue, ha, Sem.run_bind, Sem.run_pure, Result.andThen_ok, d]
          have hz : ops.size - (j + 1) = 0 := by omega
          rw [hz]
          refine ⟨fun f _ => FR_fn none f, ?_⟩
          show o.uponIn (FR none) 0 P a' _ _ ((execOp a'.eval o).run P w')
          rw [hrun]
          simp only [Oper.uponIn, hdst, Act.put, List.range'_zero, wpOpsIn]
          show Code.wpIn (FR none) 0 P cb _ _ _
          have hnil : a'.defers = [] := by
            obtain ⟨rs0, q1, _, q3, _⟩ := hrel'.defers
            rw [q1, q3 rfl]; rfl
          have hrel2 : Rel ⟨[d], false⟩ m w F.nt e' m' { a' with defers := d :: a'.defers } w' := by
            refine ⟨hrel'.size, ⟨[], ?_, List.nodup_nil, fun _ => rfl, fun r hr => by cases hr⟩, hrel'.step, hrel'.val, hrel'.var, hrel'.inj, hrel'.ref, hrel'.refi⟩
            show d :: a'.defers = [] ++ [d]
            rw [hnil]; rfl
          refine wpIn_mono (ir_sound hmix y true ⟨[d], false⟩ none m w cb _ _ m' _ w' (fun _ => ⟨rfl, rfl⟩) hok2 hok3 hrel2 f3) fun ex a2 w2 hp => ?_
          have fin : ∀ e2 m2, Rel ⟨[d], false⟩ m w F.nt e2 m2 a2 w2 → (∃ Rd, DefM P gf (first.toList ++ vs ++ caps.toList) m2 Rd ∧ ∀ en m', Rd en m' → (match en with | .returned _ => (match resAts m' e2 F.res with | some us => WRet m' R (.returned (resVal us)) | none => False) | _ => False)) →
              LeavesInM Fence.wide 0 P fn a2.tmps (fun e w' => ∃ m', Step m w m' w' ∧ R e m') a2.defers .returning w2 := fun e2 m2 hrel3 hd => by
            obtain ⟨Rd, hd1, hd2⟩ := hd
            obtain ⟨rs, d1, d2, _, d3⟩ := hrel3.defers
            rw [d1]
            refine leaves_marks (by simp) rs w2 d2 (fun r hh => (d3 r hh).1) fun w3 hoff => ?_
            have hrel4 := hrel3.off d1 d3 hoff
            have harr : (first ++ ⟨vs⟩ ++ caps : Array Value) = ⟨first.toList ++ vs ++ caps.toList⟩ := by apply Array.ext'; simp
            refine ⟨by simp, .inr ⟨(fun hh => by cases hh), .func gf, caps, gf, ⟨first.toList ++ vs ++ caps.toList⟩, rfl, ?_, fun _ _ => trivial, ?_⟩⟩
            · simp only [invoke, d]
              rw [← harr]
              exact run_callFunc hd1.1 _
            · refine (hd1.2 w3 hrel4.sub).mono fun en u w4 hh => ?_
              obtain ⟨rfl, m4, hs4, hr4⟩ := hh
              have h4' := hd2 en m4 hr4
              cases en with
              | panicked ch => exact h4'.elim
              | outgrown => exact h4'.elim
              | returned v =>
                simp only at h4'
                split at h4' <;> try exact h4'.elim
                rename_i us hus
                unfold WRet at h4'
                obtain ⟨m5, hle5, hR5⟩ := h4'
                have hrel5 := hrel4.mem hs4
                exact ⟨_, run_results hrel5 h4 hus, m5, step_less hrel5.step hle5, hR5⟩
          cases ex with
          | normal => obtain ⟨e2, m2, g1, g2⟩ := hp; exact fin e2 m2 g1 g2
          | ret => obtain ⟨e2, m2, g1, g2⟩ := hp; exact fin e2 m2 g1 g2
          | exit j => obtain ⟨_, _, _, q⟩ := hp; exact q.elim
          | goto j => obtain ⟨_, _, _, q⟩ := hp; exact q.elim
          | outgrown => obtain ⟨_, _, _, q⟩ := hp; exact q.elim
          | panic ch => obtain ⟨_, _, _, q⟩ := hp; exact q.elim)
      rw [List.range_eq_range']
      simpa using this
  have hrel := start_rel (F := ⟨F.nt, F.res, .skip⟩) (D0 := ⟨[], true⟩) hsub hnt (Nat.le_of_ble_eq_true hn)
  exact key F.body c _ m _ w h2 hrel h
end Go.Vx
namespace Go.Vx.Ev
open Go Go.Vx
variable {P : Program} {gl : List Nat} {μ : Mem} {G : Ghost} {x : Cx} {t : St} {m : Mem} {c e : Env}
/-! The evaluator of such a function: its deferred call is of one function whose form is known. -/
def evD (call : CallEv) (gl : List Nat) (x : Cx) : IRD → Env → St → Nat → Option (Nat × List Value × BOut)
  | .seq a y, c, t, nx => (match evI call gl x a c t nx with
    | some (.n, c', t', nx') => evD call gl x y c' t' nx'
    | _ => none)
  | .dfr pre f args y, c, t, nx => (match evOps call gl x pre c t nx with
    | some (c', t', nx') => (match fnOf (cat gl f c'), cats gl c' args with
      | some (g, a, b), some vs => (match evI call gl x y c' t' nx' with | some o => some (g, a ++ vs ++ b, o) | none => none)
      | _, _ => none)
    | none => none)
def exN : Ex → Bool | .x _ => false | _ => true
def resN : List Res → Bool | [] => true | _ => false
def dfrEv (F : FnD) (g : Nat) (Fg : Fn) (call : CallEv) (gl : List Nat) (x : Cx) (vs : List Value) (t : St) (nx : Nat) : Option (Value × St × Nat) :=
  bif Nat.ble vs.length F.nt then (match evD call gl x F.body (envOf vs) t nx with
    | some (g', us, ex, c', t', nx') => bif Nat.beq g' g && Nat.ble us.length Fg.nt && exN ex then (match evI call gl x Fg.body (envOf us) t' nx' with
      | some (ex2, c2, t2, nx2) => bif exN ex2 && resN Fg.res then (match cres x t2 c' F.res with | some ws => some (resVal ws, t2, nx2) | none => none) else none
      | none => none) else none
    | none => none) else none
theorem evD_sound {call : CallEv} (hc : CallOK P gl call) : ∀ {y : IRD} {c : Env} {t : St} {nx : Nat} {g : Nat} {us : List Value} {ex : Ex} {c' : Env} {t' : St} {nx' : Nat}, evD call gl x y c t nx = some (g, us, ex, c', t', nx') →
    ∀ {G : Ghost} {e : Env} {m : Mem} {Q : Nat → List Value → Post}, Inv P gl μ G x t m → RE G c e → (∀ G' e' m' us', Ghost.le G G' → Inv P gl μ G' x t' m' → RE G' c' e' → RVL G' us us' → Q g us' ex.of e' m') → wpD P y Q e m := by
  intro y
  induction y with
  | seq a y ih =>
    intro c t nx g us ex c' t' nx' hp G e m Q hI hE hK
    simp only [evD] at hp
    split at hp <;> try (cases hp; done)
    rename_i c1 t1 nx1 h1
    simp only [wpD]
    exact evI_sound hc _ _ _ _ _ _ _ _ h1 μ G e m _ hI hE fun G1 e1 m1 g1 g2 g3 => ih hp g2 g3 fun G2 e2 m2 us' k1 k2 k3 k4 => hK G2 e2 m2 us' (g1.trans k1) k2 k3 k4
  | dfr pre f args y =>
    intro c t nx g us ex c' t' nx' hp G e m Q hI hE hK
    simp only [evD] at hp
    split at hp <;> try (cases hp; done)
    rename_i c1 t1 nx1 h1
    split at hp <;> try (cases hp; done)
    rename_i g' a b vs hf hvs
    split at hp <;> try (cases hp; done)
    rename_i o h2; cases hp
    simp only [wpD]
    refine evOps_sound hc h1 hI hE fun G1 e1 m1 g1 g2 g3 => ?_
    obtain ⟨vs', v1, v2⟩ := cats_ats g2.glob g3 hvs
    obtain ⟨a', b', f1, f2, f3⟩ := fnOf_ok g2.glob g3 hf
    refine ⟨_, ⟨a'⟩, ⟨b'⟩, vs', f1, v1, ?_⟩
    exact evI_sound hc _ _ _ _ _ _ _ _ h2 μ G1 e1 m1 _ g2 g3 fun G2 e2 m2 k1 k2 k3 => hK G2 e2 m2 _ (g1.trans k1) k2 k3 ((RVL.app (RVL.app f2 v2) f3).mono k1 _ _)
theorem dfrEv_ok (hmix : P.follows .mixedOrders = true) {f g : Nat} {fn fng : Func} {F : FnD} {Fg : Fn} (hf : P.funcs[f]? = some fn) (hok : okFnD P fn F = true) (hg : P.funcs[g]? = some fng) (hokg : okFnP P fng Fg = true) : EntOK P gl f (.sp (dfrEv F g Fg)) := by
  intro call hc x vs t nx v t' nx' hp μ G m vs' hI hv
  unfold dfrEv at hp
  cases hn : Nat.ble vs.length F.nt with
  | false => rw [hn] at hp; cases hp
  | true =>
    rw [hn] at hp; simp only [cond_true] at hp
    split at hp <;> try (cases hp; done)
    rename_i g' us ex c1 t1 nx1 h1
    cases hb : (Nat.beq g' g && Nat.ble us.length Fg.nt && exN ex) with
    | false => rw [hb] at hp; cases hp
    | true =>
      rw [hb] at hp; simp only [cond_true] at hp
      split at hp <;> try (cases hp; done)
      rename_i ex2 c2 t2 nx2 h2
      cases hb2 : (exN ex2 && resN Fg.res) with
      | false => rw [hb2] at hp; cases hp
      | true =>
        rw [hb2] at hp; simp only [cond_true] at hp
        split at hp <;> try (cases hp; done)
        rename_i ws hws; cases hp
        simp only [Bool.and_eq_true] at hb hb2
        obtain ⟨⟨b1, b2⟩, b3⟩ := hb
        obtain ⟨b4, b5⟩ := hb2
        obtain rfl := beq_ff b1
        refine calls_dfr hmix hf hok (by rw [← hv.len]; exact hn) ?_
        refine evD_sound hc h1 hI (envOf_rel hv) fun G1 e1 m1 us' g1 g2 g3 g4 => ?_
        have key : ∃ Rd, DefM P g' us' m1 Rd ∧ ∀ en m', Rd en m' → (match en with | .returned _ => (match resAts m' e1 F.res with | some us => WRet m' (fun e m' => ∃ G' v', Ghost.le G G' ∧ Inv P gl μ G' x t' m' ∧ RV G' (resVal ws) v' ∧ e = .returned v') (.returned (resVal us)) | none => False) | _ => False) := by
          refine ⟨fun en m' => ∃ G2, Ghost.le G1 G2 ∧ Inv P gl μ G2 x t' m' ∧ ∃ v, en = .returned v, def_of hmix hg hokg (by rw [← g4.len]; exact b2) ?_, fun en m' hR => ?_⟩
          · unfold Fn.asks
            refine evI_sound hc _ _ _ _ _ _ _ _ h2 μ G1 _ m1 _ g2 (envOf_rel g4) fun G2 e2 m2 k1 k2 k3 => ?_
            have hr : Fg.res = [] := by
              cases hh : Fg.res with
              | nil => rfl
              | cons r rs => rw [hh] at b5; cases b5
            cases ex2 with
            | x i => cases b4
            | n => simp only [Ex.of, retPost, hr, resAts]; exact WRet.same ⟨G2, k1, k2, _, rfl⟩
            | r => simp only [Ex.of, retPost, hr, resAts]; exact WRet.same ⟨G2, k1, k2, _, rfl⟩
          · obtain ⟨G2, k1, k2, v, rfl⟩ := hR
            obtain ⟨zs, z1, z2⟩ := cres_ok k2 (g3.mono k1) hws
            simp only [z1]
            exact WRet.same ⟨G2, _, g1.trans k1, k2, resVal_rel z2, rfl⟩
        cases ex with
        | x i => cases b3
        | n => exact key
        | r => exact key
end Go.Vx.Ev
