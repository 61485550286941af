/- Words of maps and of append, and how memories grow. -/
import Derived.Test.YtmnagbhllnlelaaGreatDoorVxIR2
import Derived.Test.YtmnagbhllnlelaaGreatDoorVxIRd
import Derived.Test.YtmnagbhllnlelaaGreatDoorVxFind
set_option linter.unusedSimpArgs false
set_option linter.unusedVariables false
set_option maxRecDepth 100000
namespace Go.Vx
open Go
variable {P : Program}
/-- A contract where more is told. -/
theorem CallsM.frame {f : Nat} {vs : List Value} {m m' : Mem} {R : Ending → Mem → Prop} (h : CallsM P f vs m R) (hle : Mem.le m m') : CallsM P f vs m' (fun e m'' => ∃ m1, Mem.le m1 m'' ∧ R e m1 ∧ ∀ b o, m b = none → m' b = some o → m'' b = some o) := by
  refine ⟨h.1, fun w hs => ?_⟩
  have hs1 : Sub m w := fun b o hb => hs b o (hle b o hb)
  refine (h.2 w hs1).mono fun e w' hw => ?_
  obtain ⟨m1, s1, hR⟩ := hw
  let m2 : Mem := fun b => match m1 b with | some o => some o | none => match m b with | some _ => none | none => m' b
  have h12 : Mem.le m1 m2 := fun b o hb => by show (match m1 b with | some o => some o | none => _) = _; rw [hb]
  refine ⟨m2, ⟨fun b o hb => ?_, s1.size, fun b hb hm => ?_, s1.tape, s1.os, s1.out⟩, m1, h12, hR, fun b o hb hb' => ?_⟩
  · have hb2 : (match m1 b with | some o => some o | none => match m b with | some _ => none | none => m' b) = some o := hb
    cases h1 : m1 b with
    | some o' => rw [h1] at hb2; cases hb2; exact s1.sub b _ h1
    | none =>
      rw [h1] at hb2
      cases h2 : m b with
      | some _ => rw [h2] at hb2; cases hb2
      | none =>
        rw [h2] at hb2
        have hw := hs b o hb2
        obtain ⟨_, k2⟩ := s1.keep b (Array.getElem?_eq_some_iff.1 hw).1 h2
        rw [k2]; exact hw
  · have hmb : m b = none := by
      cases h2 : m b with
      | none => rfl
      | some o => rw [hle b o h2] at hm; cases hm
    obtain ⟨k1, k2⟩ := s1.keep b hb hmb
    refine ⟨?_, k2⟩
    show (match m1 b with | some o => some o | none => match m b with | some _ => none | none => m' b) = none
    rw [k1, hmb]; exact hm
  · show (match m1 b with | some o => some o | none => match m b with | some _ => none | none => m' b) = some o
    have hw := hs b o hb'
    obtain ⟨k1, _⟩ := s1.keep b (Array.getElem?_eq_some_iff.1 hw).1 hb
    rw [k1, hb]; exact hb'
theorem WMp.rgM {m : Mem} {K : Value → Mem → Prop} {r : Nat} {es : Array MapEntry} {cl : Nat} (h : m r = some (.map es cl)) (k : ∀ b, m b = none → K (.pointer (some ⟨b, 0, none⟩)) (m.set b (.mapIter (some r) cl #[] cl))) : WMp .rg [.map (some r)] m K := by
  unfold WMp; exact ⟨es, cl, h, k⟩
theorem WMp.nxM {m : Mem} {K : Value → Mem → Prop} {b r since : Nat} {seen : Array Nat} {c0 : Nat} {es : Array MapEntry} {cl : Nat} (h : m b = some (.mapIter (some r) since seen c0)) (h1 : m r = some (.map es cl)) (h2 : ∀ x ∈ es.toList, x.born < since) (h3 : since ≤ c0)
    (k : mapLeft es seen = [] → K (.tuple #[.bool false]) m) (k2 : ∀ x ∈ mapLeft es seen, K (.tuple #[.bool true, x.key, x.val]) (m.set b (.mapIter (some r) since (seen.push x.born) cl))) : WMp .nx [.pointer (some ⟨b, 0, none⟩)] m K := by
  unfold WMp; exact ⟨some r, .inr ⟨r, since, seen, c0, es, cl, rfl, h, h1, h2, h3, k, k2⟩⟩
theorem WMp.enM {m : Mem} {K : Value → Mem → Prop} {b r since : Nat} {seen : Array Nat} {es : Array MapEntry} {cl : Nat} {x : MapEntry} (h : m b = some (.mapIter (some r) since (seen.push x.born) cl)) (h1 : m r = some (.map es cl)) (h2 : x ∈ es.toList) (h3 : (es.toList.map (·.born)).Nodup) (k : K (.tuple #[x.key, x.val]) m) : WMp .en [.pointer (some ⟨b, 0, none⟩)] m K := by
  unfold WMp; exact ⟨r, since, seen, es, cl, x, h, h1, h2, h3, k⟩
theorem WApp.in {m : Mem} {T sz bytes : Nat} {zero : List Value} {ad : Addr} {len cap : Nat} {x : Option Addr} {n : Nat} {K : Value → Mem → Prop} (new : List Value) (h : FirstCells m x (n * sz) new) (hx : x = none → n = 0) (l : List Value) (U : TypeId)
    (h1 : len + n ≤ cap) (h2 : m ad.block = some (Cells l U)) (h3 : ad.spot = none) (h4 : ad.off + len * sz + n * sz ≤ l.length) (h5 : oneL new = true) (k : K (.slice (some ad) (len + n) cap) (m.set ad.block (Cells (spliceL l (ad.off + len * sz) new) U))) : WApp m T sz bytes zero (some ad) len cap x n K := by
  unfold WApp; exact ⟨new, h, hx, fun _ => .inr ⟨ad, rfl, l, U, h2, h3, h4, h5, k⟩, fun hh => absurd hh (by omega)⟩
theorem WApp.grow {m : Mem} {T sz bytes : Nat} {zero : List Value} {a : Option Addr} {len cap : Nat} {x : Option Addr} {n : Nat} {K : Value → Mem → Prop} (new : List Value) (h : FirstCells m x (n * sz) new) (hx : x = none → n = 0)
    (h1 : cap < len + n) (h2 : (len + n) * bytes ≤ 35184372088832) (old : List Value) (h3 : FirstCells m a (len * sz) old) (h4 : a = none → len = 0)
    (k : ∀ b c, m b = none → len + n ≤ c → K (.slice (some ⟨b, 0, none⟩) (len + n) c) (m.set b (Cells (old ++ new ++ (List.replicate (c - (len + n)) zero).flatten) T))) : WApp m T sz bytes zero a len cap x n K := by
  unfold WApp; exact ⟨new, h, hx, fun hh => absurd hh (by omega), fun _ => ⟨h2, old, h3, h4, k⟩⟩
theorem CellsAt.blk {m : Mem} {b off : Nat} {l vs : List Value} {T : TypeId} (h : m b = some (Cells l T)) (hv : ∀ (j : Nat) v, vs[j]? = some v → l[off + j]? = some v) : CellsAt m ⟨b, off, none⟩ vs := fun j v hj => by
  have e : (⟨b, off, none⟩ : Addr).add j = ⟨b, off + j, none⟩ := by unfold Addr.add; split <;> simp_all
  rw [e]
  exact ⟨_, _, _, h, rfl, by simpa using hv j v hj⟩
theorem Mem.le.refl (m : Mem) : Mem.le m m := fun _ _ h => h
theorem Mem.le.trans {a b c : Mem} (h : Mem.le a b) (k : Mem.le b c) : Mem.le a c := fun x o hx => k x o (h x o hx)
theorem Mem.le_set {m : Mem} {b : Nat} {o : Obj} (h : m b = none) : Mem.le m (m.set b o) := fun x p hx => by
  by_cases e : x = b
  · subst e; rw [h] at hx; cases hx
  · rw [Mem.set_other _ _ e]; exact hx
end Go.Vx
namespace Go.Proofs.YtmnagbhllnlelaaGreatDoor
open Go Go.Vx
def zero4 : List Value := [i 0, i 0, i 0, i 0]
def ecells (e : MapEntry) : List Value := match e.key with | .agg a => (match a.toList with | [f, t, r] => [f, t, e.val, r] | _ => []) | _ => []
def EOK (e : MapEntry) : Prop := ∃ f t r d : Int, e.key = .agg ⟨[i f, i t, i r]⟩ ∧ e.val = i d
def encL (es : List MapEntry) : List Value := (es.map ecells).flatten
def zerosL (n : Nat) : List Value := (List.replicate n zero4).flatten
theorem ecells_len {e : MapEntry} (h : EOK e) : (ecells e).length = 4 := by
  obtain ⟨f, t, r, d, h1, h2⟩ := h
  unfold ecells; rw [h1]; rfl
theorem encL_len : ∀ {es : List MapEntry}, (∀ e ∈ es, EOK e) → (encL es).length = es.length * 4
  | [], _ => rfl
  | e :: es, h => by
    have := encL_len (es := es) fun x hx => h x (by simp [hx])
    simp only [encL, List.map_cons, List.flatten_cons, List.length_append, List.length_cons] at this ⊢
    rw [ecells_len (h e (by simp)), this]; omega
theorem zerosL_len (n : Nat) : (zerosL n).length = n * 4 := by simp [zerosL, zero4]
theorem splice_enc {es : List MapEntry} {k : Nat} (h : ∀ e ∈ es, EOK e) (hk : 0 < k) {new : List Value} (hn : new.length = 4) :
    spliceL (encL es ++ zerosL k) (es.length * 4) new = encL es ++ new ++ zerosL (k - 1) := by
  have hl := encL_len h
  rw [spliceL_eq _ _ _ (by simp [hl, zerosL_len]; omega)]
  have h1 : (encL es ++ zerosL k).take (es.length * 4) = encL es := by rw [← hl, List.take_left]
  have h2 : (encL es ++ zerosL k).drop (es.length * 4 + new.length) = zerosL (k - 1) := by
    rw [← List.drop_drop, ← hl, List.drop_left, hn]
    obtain ⟨j, rfl⟩ : ∃ j, k = j + 1 := ⟨k - 1, by omega⟩
    show (zerosL (j + 1)).drop 4 = zerosL j
    simp [zerosL, zero4, List.replicate_succ]
  rw [h1, h2]
end Go.Proofs.YtmnagbhllnlelaaGreatDoor
