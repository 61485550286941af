/- VX: functions that defer one call at their head. -/
import Derived.Test.YtmnagbhllnlelaaGreatDoorVxEvH
import Derived.Test.YtmnagbhllnlelaaGreatDoorProg
import Derived.Tactics
import Derived.Tactics2
import Derived.Defers
import Derived.Recover
import Derived.KernelRfl
import Derived.Laws.Pointers
set_option linter.unusedSimpArgs false
set_option linter.unusedVariables false
namespace Go.Vx
open Go
variable {P : Program}

inductive IRD where
 | seq (x : IR) (y : IRD)
 | dfr (pre : RG) (f : Opd) (args : List Opd) (y : IR)
structure FnD where
 nt : Nat
 res : List Res
 body : IRD
def okIRD (P : Program) (N : Nat) : Code → IRD → Bool
 | .seq a b, .seq x y => okIR P N false a x && x.okW && okIRD P N b y
 | .seq (.region _ ops false) b, .dfr g f args y => (match okG P N ops g none ops.toList 0 with
   | some ([o], _) => (match o.op with | .defer c => (match c.callee with | .value fv => okX f fv && okXs args c.args.toList | _ => false) | _ => false) && (match o.guard with | none => true | _ => false) && (match o.dst with | none => true | _ => false)
   | _ => false) && (okIR P N true b y && y.okW)
 | _, _ => false
def wpD (P : Program) : IRD → (Nat → List Value → Post) → Env → Mem → Prop
 | .seq x y, Q, e, m => wpI P x (thenE (fun e' m' => wpD P y Q e' m') (fun _ _ _ => False)) e m
 | .dfr pre f args y, Q, e, m => opsI P (fun _ _ => False) pre (fun e' m' => ∃ g first caps vs, f.at e' = some (.func (.func g) first caps) ∧ Opd.ats e' args = some vs ∧ wpI P y (Q g (first.toList ++ vs ++ caps.toList)) e' m') e m
/-- A call that was deferred, made while its frame returns. -/
def DefM (P : Program) (g : Nat) (vs : List Value) (m : Mem) (R : Ending → Mem → Prop) : Prop :=
 callable P g = true ∧ ∀ w, Sub m w → CallsDIn Fence.wide 0 P g ⟨vs⟩ .returning w fun e u w' => u = .returning ∧ ∃ m', Step m w m' w' ∧ R e m'
def retPostD (P : Program) (rs : List Res) (R : Ending → Mem → Prop) (g : Nat) (vs : List Value) : Post := fun ex e m =>
 match ex with
 | .normal | .ret => ∃ Rd, DefM P g vs m Rd ∧ ∀ en m', Rd en m' → (match en with | .returned _ => (match resAts m' e rs with | some us => WRet m' R (.returned (resVal us)) | none => False) | _ => False)
 | _ => False
def okFnD (P : Program) (fn : Func) (F : FnD) : Bool :=
 Nat.beq F.nt fn.ntmps && (match fn.body with | some c => okIRD P F.nt c F.body | none => false) && okRess P fn.results.toList F.res && !(fn.name == "runtime.NumGoroutine")
def okFnP (P : Program) (fn : Func) (F : Fn) : Bool :=
 Nat.beq F.nt fn.ntmps && (match fn.body with | some c => okIR P F.nt false c F.body | none => false) && F.body.okW && okRess P fn.results.toList F.res && !(fn.name == "runtime.NumGoroutine")
theorem def_of {f : Nat} {fn : Func} {F : Fn} {args : List Value} {m : Mem} {R : Ending → Mem → Prop} (hmix : P.follows .mixedOrders = true) (hf : P.funcs[f]? = some fn) (hok : okFnP P fn F = true) (hn : Nat.ble args.length F.nt = true)
  (h : F.asks P args m R) : DefM P f args m R := by
 simp only [okFnP, Bool.and_eq_true, Bool.not_eq_true'] at hok
 obtain ⟨⟨⟨⟨h1, h2⟩, h3⟩, h4⟩, h5⟩ := hok
 split at h2 <;> first | (cases h2; done) | skip
 rename_i c hb
 have hnt := beq_ff h1
 refine ⟨by unfold callable; simp only [hf, hb, h5, Option.isSome_some, Bool.not_false, Bool.and_true], fun w hsub => ?_⟩
 refine callsDIn_of_wp (F := Fence.wide) (n := 0) (R := fun e w' => ∃ m', Step m w m' w' ∧ R e m') hf hb trivial ?_
 have hrel := start_rel (D0 := ⟨[], true⟩) hsub hnt (Nat.le_of_ble_eq_true hn)
 refine wpIn_mono (ir_sound hmix F.body false ⟨[], true⟩ none m w c _ _ m _ w (fun hh => by cases hh) h2 h3 hrel h) fun ex a' w' hp => ?_
 have nodef : ∀ {m' : Mem} {ds : List Deferred}, DefsOK ⟨[], true⟩ m' w ds w' → ds = [] := fun hd => by
  obtain ⟨rs, d1, _, d3, _⟩ := hd
  rw [d1, d3 rfl]; rfl
 have fin : ∀ e' m', Rel ⟨[], true⟩ m w F.nt e' m' a' w' → (match resAts m' e' F.res with | some vs => WRet m' R (.returned (resVal vs)) | none => False) →
   a'.defers = [] ∧ ∃ v, (results fn a'.tmps).run P w' = .ok v w' ∧ ∃ m', Step m w m' w' ∧ R (.returned v) m' := fun e' m' hrel hr => by
  split at hr <;> first | exact hr.elim | skip
  rename_i vs hvs
  unfold WRet at hr
  obtain ⟨m'', hle, hR⟩ := hr
  exact ⟨nodef hrel.defers, _, run_results hrel h4 hvs, m'', step_less hrel.step hle, hR⟩
 cases ex with
 | normal => obtain ⟨e', m', g1, g2⟩ := hp; exact fin e' m' g1 g2
 | ret => obtain ⟨e', m', g1, g2⟩ := hp; exact fin e' m' g1 g2
 | exit j => obtain ⟨e', m', g1, g2⟩ := hp; exact g2.elim
 | goto j => obtain ⟨e', m', g1, g2⟩ := hp; exact g2.elim
 | outgrown => obtain ⟨e', m', g1, g2⟩ := hp; exact g2.elim
 | panic ch =>
  obtain ⟨m', g1, g2, g3⟩ := hp
  simp only [retPost] at g3
  unfold WRet at g3
  obtain ⟨m'', hle, hR⟩ := g3
  exact ⟨nodef g2, m'', step_less g1 hle, hR⟩
theorem calls_dfr {f : Nat} {fn : Func} {F : FnD} {args : List Value} {m : Mem} {R : Ending → Mem → Prop} (hmix : P.follows .mixedOrders = true) (hf : P.funcs[f]? = some fn) (hok : okFnD P fn F = true) (hn : Nat.ble args.length F.nt = true)
  (h : wpD P F.body (retPostD P F.res R) (envOf args) m) : CallsM P f args m R := by
 simp only [okFnD, Bool.and_eq_true, Bool.not_eq_true'] at hok
 obtain ⟨⟨⟨h1, h2⟩, h4⟩, h5⟩ := hok
 split at h2 <;> first | (cases h2; done) | skip
 rename_i c hb
 have hnt := beq_ff h1
 refine ⟨by unfold callable; simp only [hf, hb, h5, Option.isSome_some, Bool.not_false, Bool.and_true], fun w hsub => ?_⟩
 refine callsIn_wide.1 (callsIn_of_wp_marks (F := Fence.wide) (n := 0) hf hb trivial ?_)
 have key : ∀ (x : IRD) (c : Code) (e : Env) (m1 : Mem) (a : Act) (w1 : World), okIRD P F.nt c x = true → Rel ⟨[], true⟩ m w F.nt e m1 a w1 → wpD P x (retPostD P F.res R) e m1 →
   c.wpIn (FR none) 0 P (bodyPostM Fence.wide 0 P fn fun e w' => ∃ m', Step m w m' w' ∧ R e m') a w1 := by
  intro x
  induction x with
  | seq x y ih =>
   intro c e m1 a w1 hok hrel hw
   cases c <;> simp only [okIRD] at hok <;> first | (cases hok; done) | skip
   rename_i ca cb
   simp only [Bool.and_eq_true] at hok
   simp only [wpD] at hw
   refine wpIn_seq (wpIn_mono (ir_sound hmix x false ⟨[], true⟩ none m w ca _ _ m1 a w1 (fun hh => by cases hh) hok.1.1 hok.1.2 hrel hw) fun ex a' w' hp => ?_)
   cases ex with
   | normal => obtain ⟨e', m', g1, g2⟩ := hp; exact ih cb e' m' a' w' hok.2 g1 g2
   | exit j => obtain ⟨_, _, _, q⟩ := hp; exact q.elim
   | goto j => obtain ⟨_, _, _, q⟩ := hp; exact q.elim
   | ret => obtain ⟨_, _, _, q⟩ := hp; exact q.elim
   | panic ch => obtain ⟨_, _, _, q⟩ := hp; exact q.elim
   | outgrown => obtain ⟨_, _, _, q⟩ := hp; exact q.elim
  | dfr g fo args' y =>
   intro c e m1 a w1 hok hrel hw
   cases c <;> try (simp [okIRD] at hok; done)
   rename_i ca cb
   cases ca <;> try (simp [okIRD] at hok; done)
   rename_i id ops dr
   cases dr <;> try (simp [okIRD] at hok; done)
   simp only [okIRD, Bool.and_eq_true] at hok
   obtain ⟨hok1, hok2, hok3⟩ := hok
   split at hok1 <;> try (cases hok1; done)
   rename_i o j hg
   simp only [Bool.and_eq_true] at hok1
   obtain ⟨⟨k1, k2⟩, k3⟩ := hok1
   split at k1 <;> try (cases k1; done)
   rename_i cl hop
   split at k1 <;> try (cases k1; done)
   rename_i fv hcal
   rw [Bool.and_eq_true] at k1
   split at k2 <;> try (cases k2; done)
   rename_i hgd
   split at k3 <;> try (cases k3; done)
   rename_i hdst
   simp only [wpD] at hw
   have hsz := (okG_size g hg).2.1
   simp only [Array.length_toList, Nat.add_zero, List.length_cons, List.length_nil] at hsz
   have hlast : ops[j]? = some o := by
    have h3 := (okG_size g hg).2.2
    have : (ops.toList.drop (j - 0))[0]? = some o := by rw [← h3]; rfl
    rw [List.getElem?_drop] at this
    simpa using this
   refine wpIn_seq (wpIn_region ?_)
   have := G_sound (ro := none) (Q := Exit.then (cb.wpIn (FR none) 0 P (bodyPostM Fence.wide 0 P fn fun e w' => ∃ m', Step m w m' w' ∧ R e m')) (bodyPostM Fence.wide 0 P fn fun e w' => ∃ m', Step m w m' w' ∧ R e m')) (ops := ops) (X := fun _ _ => False)
    (fun ch m' w' a' hx _ _ => hx.elim) g none ops.toList [o] 0 j e m1 a w1 _ hg (fun i => by simp) (fun x hx => by cases hx) hrel hw (fun e' m' a' w' hk hrel' _ => by
     obtain ⟨gf, first, caps, vs, f1, f2, f3⟩ := hk
     refine wpOps_step hlast rfl (wpOp_wanted hlast (by unfold Region.wanted; rw [hgd]) ?_)
     have hev := okX_eval hrel' k1.1 f1
     have ha : cl.args.map a'.eval = ⟨vs⟩ := by apply Array.ext'; rw [Array.toList_map, okXs_eval hrel' k1.2 f2]
     let d : Deferred := { target := .fn (.func gf) caps, args := first ++ ⟨vs⟩ }
     have hrun : (execOp a'.eval o).run P w' = .ok (.defer d) w' := by
      simp only [execOp, hop, resolve, hcal, hev, Deferred.ofValue, ha, Sem.run_bind, Sem.run_pure, Result.andThen_ok, d]
     have hz : ops.size - (j + 1) = 0 := by omega
     rw [hz]
     refine ⟨fun f _ => FR_fn none f, ?_⟩
     show o.uponIn (FR none) 0 P a' _ _ ((execOp a'.eval o).run P w')
     rw [hrun]
     simp only [Oper.uponIn, hdst, Act.put, List.range'_zero, wpOpsIn]
     show Code.wpIn (FR none) 0 P cb _ _ _
     have hnil : a'.defers = [] := by
      obtain ⟨rs0, q1, _, q3, _⟩ := hrel'.defers
      rw [q1, q3 rfl]; rfl
     have hrel2 : Rel ⟨[d], false⟩ m w F.nt e' m' { a' with defers := d :: a'.defers } w' := by
      refine ⟨hrel'.size, ⟨[], ?_, List.nodup_nil, fun _ => rfl, fun r hr => by cases hr⟩, hrel'.step, hrel'.val, hrel'.var, hrel'.inj, hrel'.ref, hrel'.refi⟩
      show d :: a'.defers = [] ++ [d]
      rw [hnil]; rfl
     refine wpIn_mono (ir_sound hmix y true ⟨[d], false⟩ none m w cb _ _ m' _ w' (fun _ => ⟨rfl, rfl⟩) hok2 hok3 hrel2 f3) fun ex a2 w2 hp => ?_
     have fin : ∀ e2 m2, Rel ⟨[d], false⟩ m w F.nt e2 m2 a2 w2 → (∃ Rd, DefM P gf (first.toList ++ vs ++ caps.toList) m2 Rd ∧ ∀ en m', Rd en m' → (match en with | .returned _ => (match resAts m' e2 F.res with | some us => WRet m' R (.returned (resVal us)) | none => False) | _ => False)) →
       LeavesInM Fence.wide 0 P fn a2.tmps (fun e w' => ∃ m', Step m w m' w' ∧ R e m') a2.defers .returning w2 := fun e2 m2 hrel3 hd => by
      obtain ⟨Rd, hd1, hd2⟩ := hd
      obtain ⟨rs, d1, d2, _, d3⟩ := hrel3.defers
      rw [d1]
      refine leaves_marks (by simp) rs w2 d2 (fun r hh => (d3 r hh).1) fun w3 hoff => ?_
      have hrel4 := hrel3.off d1 d3 hoff
      have harr : (first ++ ⟨vs⟩ ++ caps : Array Value) = ⟨first.toList ++ vs ++ caps.toList⟩ := by apply Array.ext'; simp
      refine ⟨by simp, .inr ⟨(fun hh => by cases hh), .func gf, caps, gf, ⟨first.toList ++ vs ++ caps.toList⟩, rfl, ?_, fun _ _ => trivial, ?_⟩⟩
      ·simp only [invoke, d]
       rw [← harr]
       exact run_callFunc hd1.1 _
      ·refine (hd1.2 w3 hrel4.sub).mono fun en u w4 hh => ?_
       obtain ⟨rfl, m4, hs4, hr4⟩ := hh
       have h4' := hd2 en m4 hr4
       cases en with
       | panicked ch => exact h4'.elim
       | outgrown => exact h4'.elim
       | returned v =>
        simp only at h4'
        split at h4' <;> try exact h4'.elim
        rename_i us hus
        unfold WRet at h4'
        obtain ⟨m5, hle5, hR5⟩ := h4'
        have hrel5 := hrel4.mem hs4
        exact ⟨_, run_results hrel5 h4 hus, m5, step_less hrel5.step hle5, hR5⟩
     cases ex with
     | normal => obtain ⟨e2, m2, g1, g2⟩ := hp; exact fin e2 m2 g1 g2
     | ret => obtain ⟨e2, m2, g1, g2⟩ := hp; exact fin e2 m2 g1 g2
     | exit j => obtain ⟨_, _, _, q⟩ := hp; exact q.elim
     | goto j => obtain ⟨_, _, _, q⟩ := hp; exact q.elim
     | outgrown => obtain ⟨_, _, _, q⟩ := hp; exact q.elim
     | panic ch => obtain ⟨_, _, _, q⟩ := hp; exact q.elim)
   rw [List.range_eq_range']
   simpa using this
 have hrel := start_rel (F := ⟨F.nt, F.res, .skip⟩) (D0 := ⟨[], true⟩) hsub hnt (Nat.le_of_ble_eq_true hn)
 exact key F.body c _ m _ w h2 hrel h
end Go.Vx
namespace Go.Vx.Ev
open Go Go.Vx
variable {P : Program} {gl : List Nat} {μ : Mem} {G : Ghost} {x : Cx} {t : St} {m : Mem} {c e : Env}
/-! The evaluator of such a function: its deferred call is of one function whose form is known. -/
def evD (call : CallEv) (gl : List Nat) (x : Cx) : IRD → Env → St → Nat → Option (Nat × List Value × BOut)
 | .seq a y, c, t, nx => (match evI call gl x a c t nx with
  | some (.n, c', t', nx') => evD call gl x y c' t' nx'
  | _ => none)
 | .dfr pre f args y, c, t, nx => (match evOps call gl x pre c t nx with
  | some (c', t', nx') => (match fnOf (cat gl f c'), cats gl c' args with
   | some (g, a, b), some vs => (match evI call gl x y c' t' nx' with | some o => some (g, a ++ vs ++ b, o) | none => none)
   | _, _ => none)
  | none => none)
def exN : Ex → Bool | .x _ => false | _ => true
def resN : List Res → Bool | [] => true | _ => false
def dfrEv (F : FnD) (g : Nat) (Fg : Fn) (call : CallEv) (gl : List Nat) (x : Cx) (vs : List Value) (t : St) (nx : Nat) : Option (Value × St × Nat) :=
 bif Nat.ble vs.length F.nt then (match evD call gl x F.body (envOf vs) t nx with
  | some (g', us, ex, c', t', nx') => bif Nat.beq g' g && Nat.ble us.length Fg.nt && exN ex then (match evI call gl x Fg.body (envOf us) t' nx' with
   | some (ex2, c2, t2, nx2) => bif exN ex2 && resN Fg.res then (match cres x t2 c' F.res with | some ws => some (resVal ws, t2, nx2) | none => none) else none
   | none => none) else none
  | none => none) else none
theorem evD_sound {call : CallEv} (hc : CallOK P gl call) : ∀ {y : IRD} {c : Env} {t : St} {nx : Nat} {g : Nat} {us : List Value} {ex : Ex} {c' : Env} {t' : St} {nx' : Nat}, evD call gl x y c t nx = some (g, us, ex, c', t', nx') →
  ∀ {G : Ghost} {e : Env} {m : Mem} {Q : Nat → List Value → Post}, Inv P gl μ G x t m → RE G c e → (∀ G' e' m' us', Ghost.le G G' → Inv P gl μ G' x t' m' → RE G' c' e' → RVL G' us us' → Q g us' ex.of e' m') → wpD P y Q e m := by
 intro y
 induction y with
 | seq a y ih =>
  intro c t nx g us ex c' t' nx' hp G e m Q hI hE hK
  simp only [evD] at hp
  split at hp <;> try (cases hp; done)
  rename_i c1 t1 nx1 h1
  simp only [wpD]
  exact evI_sound hc _ _ _ _ _ _ _ _ h1 μ G e m _ hI hE fun G1 e1 m1 g1 g2 g3 => ih hp g2 g3 fun G2 e2 m2 us' k1 k2 k3 k4 => hK G2 e2 m2 us' (g1.trans k1) k2 k3 k4
 | dfr pre f args y =>
  intro c t nx g us ex c' t' nx' hp G e m Q hI hE hK
  simp only [evD] at hp
  split at hp <;> try (cases hp; done)
  rename_i c1 t1 nx1 h1
  split at hp <;> try (cases hp; done)
  rename_i g' a b vs hf hvs
  split at hp <;> try (cases hp; done)
  rename_i o h2; cases hp
  simp only [wpD]
  refine evOps_sound hc h1 hI hE fun G1 e1 m1 g1 g2 g3 => ?_
  obtain ⟨vs', v1, v2⟩ := cats_ats g2.glob g3 hvs
  obtain ⟨a', b', f1, f2, f3⟩ := fnOf_ok g2.glob g3 hf
  refine ⟨_, ⟨a'⟩, ⟨b'⟩, vs', f1, v1, ?_⟩
  exact evI_sound hc _ _ _ _ _ _ _ _ h2 μ G1 e1 m1 _ g2 g3 fun G2 e2 m2 k1 k2 k3 => hK G2 e2 m2 _ (g1.trans k1) k2 k3 ((RVL.app (RVL.app f2 v2) f3).mono k1 _ _)
theorem dfrEv_ok (hmix : P.follows .mixedOrders = true) {f g : Nat} {fn fng : Func} {F : FnD} {Fg : Fn} (hf : P.funcs[f]? = some fn) (hok : okFnD P fn F = true) (hg : P.funcs[g]? = some fng) (hokg : okFnP P fng Fg = true) : EntOK P gl f (.sp (dfrEv F g Fg)) := by
 intro call hc x vs t nx v t' nx' hp μ G m vs' hI hv
 unfold dfrEv at hp
 cases hn : Nat.ble vs.length F.nt with
 | false => rw [hn] at hp; cases hp
 | true =>
  rw [hn] at hp; simp only [cond_true] at hp
  split at hp <;> try (cases hp; done)
  rename_i g' us ex c1 t1 nx1 h1
  cases hb : (Nat.beq g' g && Nat.ble us.length Fg.nt && exN ex) with
  | false => rw [hb] at hp; cases hp
  | true =>
   rw [hb] at hp; simp only [cond_true] at hp
   split at hp <;> try (cases hp; done)
   rename_i ex2 c2 t2 nx2 h2
   cases hb2 : (exN ex2 && resN Fg.res) with
   | false => rw [hb2] at hp; cases hp
   | true =>
    rw [hb2] at hp; simp only [cond_true] at hp
    split at hp <;> try (cases hp; done)
    rename_i ws hws; cases hp
    simp only [Bool.and_eq_true] at hb hb2
    obtain ⟨⟨b1, b2⟩, b3⟩ := hb
    obtain ⟨b4, b5⟩ := hb2
    obtain rfl := beq_ff b1
    refine calls_dfr hmix hf hok (by rw [← hv.len]; exact hn) ?_
    refine evD_sound hc h1 hI (envOf_rel hv) fun G1 e1 m1 us' g1 g2 g3 g4 => ?_
    have key : ∃ Rd, DefM P g' us' m1 Rd ∧ ∀ en m', Rd en m' → (match en with | .returned _ => (match resAts m' e1 F.res with | some us => WRet m' (fun e m' => ∃ G' v', Ghost.le G G' ∧ Inv P gl μ G' x t' m' ∧ RV G' (resVal ws) v' ∧ e = .returned v') (.returned (resVal us)) | none => False) | _ => False) := by
     refine ⟨fun en m' => ∃ G2, Ghost.le G1 G2 ∧ Inv P gl μ G2 x t' m' ∧ ∃ v, en = .returned v, def_of hmix hg hokg (by rw [← g4.len]; exact b2) ?_, fun en m' hR => ?_⟩
     ·unfold Fn.asks
      refine evI_sound hc _ _ _ _ _ _ _ _ h2 μ G1 _ m1 _ g2 (envOf_rel g4) fun G2 e2 m2 k1 k2 k3 => ?_
      have hr : Fg.res = [] := by
       cases hh : Fg.res with
       | nil => rfl
       | cons r rs => rw [hh] at b5; cases b5
      cases ex2 with
      | x i => cases b4
      | n => simp only [Ex.of, retPost, hr, resAts]; exact WRet.same ⟨G2, k1, k2, _, rfl⟩
      | r => simp only [Ex.of, retPost, hr, resAts]; exact WRet.same ⟨G2, k1, k2, _, rfl⟩
     ·obtain ⟨G2, k1, k2, v, rfl⟩ := hR
      obtain ⟨zs, z1, z2⟩ := cres_ok k2 (g3.mono k1) hws
      simp only [z1]
      exact WRet.same ⟨G2, _, g1.trans k1, k2, resVal_rel z2, rfl⟩
    cases ex with
    | x i => cases b3
    | n => exact key
    | r => exact key
end Go.Vx.Ev
set_option linter.unusedVariables false
set_option maxRecDepth 100000
namespace Go.Proofs.YtmnagbhllnlelaaGreatDoor
open Go Go.Vx

theorem catch_idle (p : Addr) (w : World) :
  CallsD Tryz.prog 213 #[.pointer (some p)] .returning w fun e u' w' => e = .returned (.tuple #[]) ∧ u' = .returning ∧ w' = w := by
 refine callsD_of_wpS Tryz.func213 rfl fun c₀ cs hu => ?_
 apply wpS_seq
 apply wpS_region
 simp [wpOpsS, go_sem, recoverD, hu, Tryz.ntmps213, Exit.thenS]
 apply wpS_seq
 apply wpS_region
 simp [wpOpsS, go_sem, Exit.thenS, Tryz.underlying20]
 refine wpS_cond (t := false) (by simp [Act.eval, Array.replicate]) ?_
 simp only [Bool.false_eq_true, if_false]
 refine wpS_of_wp (wp_skip ?_)
 cases c₀
 simp_all [bodyPostS, results, Tryz.results213]
theorem rel1 (v : Value) (w : World) : Rel ⟨[], true⟩ (fun _ => none) w 1 (envOf [v]) (fun _ => none) { tmps := #[v], defers := [] } w := by
 have hv : ∀ t u, envOf [v] t = some u → ∃ x, u = .val x ∧ [v][t]? = some x := fun t u ht => by
  unfold envOf at ht
  split at ht <;> first | (cases ht; done) | skip
  rename_i x hx
  cases ht; exact ⟨x, rfl, hx⟩
 refine ⟨rfl, DefsOK.nil _ _ _ _, ⟨fun b o h => by (cases h), Nat.le_refl _, fun b _ _ => ⟨rfl, rfl⟩, rfl, rfl, rfl⟩, fun t x ht => ?_, fun t cs ht => ?_, fun t t' cs cs' ht => ?_, fun t k off cs ht => ?_, fun t k off i cs ht => ?_⟩
 ·obtain ⟨y, hy, hg⟩ := hv t _ ht
  cases hy
  rw [Array.getD_eq_getD_getElem?]
  have : (#[v] : Array Value)[t]? = [v][t]? := by simp
  rw [this, hg]; rfl
 all_goals (obtain ⟨_, hh, _⟩ := hv _ _ ht; cases hh)
theorem setCell_same {w : World} {b off T : Nat} {c : Array Value} {fr : Nat × Nat} {v : Value} (h : w.heap[b]? = some (.cells c T fr)) (hc : c[off]? = some v) : w.setCell ⟨b, off, none⟩ v = w := by
 have hh : (w.setCell ⟨b, off, none⟩ v).heap = w.heap := by
  unfold World.setCell
  apply Array.ext_getElem?
  intro j
  rw [Array.getElem?_modify]
  by_cases e : b = j
  ·subst e
   rw [if_pos rfl, h]
   simp only [Option.map_some, Option.isSome_none, Bool.false_eq_true, if_false]
   congr 2
   apply Array.ext_getElem?
   intro k
   rw [Array.getElem?_setIfInBounds]
   by_cases e : off = k
   ·subst e; rw [if_pos rfl, hc]; simp [(Array.getElem?_eq_some_iff.1 hc).1]
   ·rw [if_neg e]
  ·rw [if_neg e]
 calc w.setCell ⟨b, off, none⟩ v = { w with heap := (w.setCell ⟨b, off, none⟩ v).heap } := rfl
  _ = w := by rw [hh]
theorem mixed : Tryz.prog.follows .mixedOrders = true := by kernel_rfl
theorem find_ok (a b c d e f : Value) (w : World) (R : Ending → World → Prop)
  (H : Calls Tryz.prog 214 #[.pointer (some ⟨w.heap.size + 2, 0, none⟩)] (((w.alloc (.cells #[a, b, c, d, e, f] 71)).alloc (.cells #[.int .i64 0, .int .i64 0, .int .i64 0] 231)).alloc (.cells #[a, b, c, d, e, f, .int .i64 0, .int .i64 0] 278)) fun en w4 => (∃ v, en = .returned v) ∧
   w4.heap[w.heap.size + 1]? = some (.cells #[.int .i64 0, .int .i64 0, .int .i64 0] 231) ∧
   R (.returned (.agg #[.int .i64 0, .int .i64 0, .int .i64 0])) w4) :
  Calls Tryz.prog 178 #[.agg #[a, b, c, d, e, f]] w R := by
 have hmf : ∀ (fn : Go.Fn) (first cap : Array Value) (w : World), (Instr.makeFunc fn first cap).run Tryz.prog w = .ok (.func fn first cap) w := fun _ _ _ _ => rfl
 have hbd : ∀ w, (Instr.build 278 #[(0, .agg #[a, b, c, d, e, f])]).run Tryz.prog w = .ok (.agg #[a, b, c, d, e, f, .int .i64 0, .int .i64 0]) w := fun w =>
  (by have h := Go.Vx.run_build (P := Tryz.prog) (cs := [a, b, c, d, e, f, .int .i64 0, .int .i64 0]) (rel1 (.agg #[a, b, c, d, e, f]) w) (t := 278) (zeros := [ns, i 0, i 0, i 0, i 0, ns, i 0, i 0]) (ps := [(0, 6, .t 0)]) (qs := #[(0, .tmp 0)]) (by kernel_rfl) (by kernel_rfl) (by kernel_rfl) rfl rfl
      simpa [Act.eval] using h)
 have hbz : ∀ w, (Instr.build 231 #[]).run Tryz.prog w = .ok (.agg #[.int .i64 0, .int .i64 0, .int .i64 0]) w := fun w =>
  (by have h := Go.Vx.run_build (P := Tryz.prog) (rel1 (.int .i64 0) w) (t := 231) (zeros := [i 0, i 0, i 0]) (ps := []) (qs := #[]) (by kernel_rfl) (by kernel_rfl) (by kernel_rfl) rfl rfl
      simpa [Act.eval] using h)
 go_enter_defers Tryz.func178, Tryz.ntmps178
 go_wp2_with (go_at_call 214; refine H.mono ?_; rintro en w4 ⟨⟨v, rfl⟩, hc, hR⟩; have h0 : w4.cell? ⟨w.heap.size + 1, 0, none⟩ = some (.int .i64 0) := (by simp [World.cell?, hc]); have h1 : w4.cell? ⟨w.heap.size + 1, 1, none⟩ = some (.int .i64 0) := (by simp [World.cell?, hc]); have h2 : w4.cell? ⟨w.heap.size + 1, 2, none⟩ = some (.int .i64 0) := (by simp [World.cell?, hc]); have z0 : w4.frozen? ⟨w.heap.size + 1, 0, none⟩ = false := (by simp [World.frozen?, hc]); have z1 : w4.frozen? ⟨w.heap.size + 1, 1, none⟩ = false := (by simp [World.frozen?, hc]); have z2 : w4.frozen? ⟨w.heap.size + 1, 2, none⟩ = false := (by simp [World.frozen?, hc]))
 refine leaves_cons (f := 213) (args := #[.pointer (some ⟨w.heap.size + 1, 0, none⟩)]) (by simp) (by simp [go_sem]) ?_
 refine (catch_idle ⟨w.heap.size + 1, 0, none⟩ _).mono ?_
 rintro e u' w'' ⟨rfl, rfl, rfl⟩
 rw [setCell_same hc (v := .int .i64 0) rfl, setCell_same hc (v := .int .i64 0) rfl, setCell_same hc (v := .int .i64 0) rfl]
 refine ⟨.agg #[.int .i64 0, .int .i64 0, .int .i64 0], ?_, hR⟩
 simp [results, Tryz.results178, go_sem, hc, World.cell?]
open Go.Vx.Ev
def findEv (call : CallEv) (gl : List Nat) (x : Cx) (vs : List Value) (t : St) (nx : Nat) : Option (Value × St × Nat) :=
 match vs with
 | [.agg ⟨[a, b, c, d, e, f]⟩] => bif newlab x t nx then (match call x 214 [.pointer (some ⟨nx, 0, none⟩)] (t.put nx (.bl [a, b, c, d, e, f, .int .i64 0, .int .i64 0] 278 1)) (nx + 1) with
  | some (_, t', nx') => some (.agg ⟨[.int .i64 0, .int .i64 0, .int .i64 0]⟩, t', nx')
  | none => none) else none
 | _ => none
theorem findEv_ok (gl : List Nat) : EntOK Tryz.prog gl 178 (.sp findEv) := by
 intro call hc x vs t nx v t' nx' h μ G m vs' hI hv
 unfold findEv at h
 split at h <;> try (cases h; done)
 rename_i a b c d e f
 cases hn : newlab x t nx with
 | false => rw [hn] at h; cases h
 | true =>
  rw [hn] at h; simp only [cond_true] at h
  split at h <;> try (cases h; done)
  rename_i v0 t1 nx1 h1; cases h
  obtain ⟨k1, k2⟩ := newlab_ok hn
  obtain ⟨y, ys, hy, hys, rfl⟩ := hv.inv
  rw [hys.nil]
  obtain ⟨cs, hcs, rfl⟩ := hy.agg
  obtain ⟨a', r1, ha, q1, rfl⟩ := hcs.inv
  obtain ⟨b', r2, hb, q2, rfl⟩ := q1.inv
  obtain ⟨c', r3, hcc, q3, rfl⟩ := q2.inv
  obtain ⟨d', r4, hd, q4, rfl⟩ := q3.inv
  obtain ⟨e', r5, he, q5, rfl⟩ := q4.inv
  obtain ⟨f', r6, hf, q6, rfl⟩ := q5.inv
  rw [q6.nil]
  refine ⟨by kernel_rfl, fun w hs => find_ok a' b' c' d' e' f' w _ ?_⟩
  have hbn : m (w.heap.size + 2) = none := Sub.none hs (by omega)
  have hrel : RVL G [a, b, c, d, e, f, .int .i64 0, .int .i64 0] [a', b', c', d', e', f', .int .i64 0, .int .i64 0] :=
   RVL.cons ha (RVL.cons hb (RVL.cons hcc (RVL.cons hd (RVL.cons he (RVL.cons hf (RVL.cons RV.int' (RVL.cons RV.int' RVL.nil')))))))
  obtain ⟨hle, hI'⟩ := hI.new (sz := 1) (T := 278) k1 k2 hbn hrel (List.append_nil _).symm
  have hcall := (hc _ _ _ _ _ _ _ _ h1 μ _ _ [.pointer (some ⟨w.heap.size + 2, 0, none⟩)] hI' (RVL.cons (RV.ptr' (if_pos rfl)) RVL.nil')).1 (by decide)
  let w1 : World := w.alloc (.cells #[a', b', c', d', e', f'] 71)
  let w2 : World := w1.alloc (.cells #[.int .i64 0, .int .i64 0, .int .i64 0] 231)
  let w3 : World := w2.alloc (.cells #[a', b', c', d', e', f', .int .i64 0, .int .i64 0] 278)
  have s1 : Step m w m w1 := Step.hide hs _
  have s2 : Step m w1 m w2 := Step.hide s1.sub _
  have hz1 : w1.heap.size = w.heap.size + 1 := by show (w.heap.push _).size = _; simp
  have hz2 : w2.heap.size = w.heap.size + 2 := by show (w1.heap.push _).size = _; simp [hz1]
  have hz3 : w3.heap.size = w.heap.size + 3 := by show (w2.heap.push _).size = _; simp [hz2]
  have s3 : Step m w2 (m.set (w.heap.size + 2) (Cells [a', b', c', d', e', f', .int .i64 0, .int .i64 0] 278)) w3 := by
   have := Step.new s2.sub (Cells [a', b', c', d', e', f', .int .i64 0, .int .i64 0] 278)
   rw [hz2] at this
   exact this
  have s4 := (s1.trans s2).trans s3
  refine (hcall.2 w3 s4.sub).mono fun en w4 hen => ?_
  obtain ⟨m', g1, G', v', g2, g3, g4, rfl⟩ := hen
  refine ⟨⟨_, rfl⟩, ?_, m', s4.trans g1, G', _, hle.trans g2, g3, flat_self _ rfl, rfl⟩
  have hk := (g1.keep (w.heap.size + 1) (by rw [hz3]; omega) (by rw [Mem.set_other _ _ (by omega)]; exact Sub.none hs (by omega))).2
  rw [hk]
  show (w2.heap.push _)[w.heap.size + 1]? = _
  rw [Array.getElem?_push, if_neg (by rw [hz2]; omega)]
  show (w1.heap.push _)[w.heap.size + 1]? = _
  rw [Array.getElem?_push, if_pos (by rw [hz1])]
end Go.Proofs.YtmnagbhllnlelaaGreatDoor
