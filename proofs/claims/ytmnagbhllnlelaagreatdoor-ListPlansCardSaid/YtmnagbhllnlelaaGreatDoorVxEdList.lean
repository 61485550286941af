/- Words of maps and of append, and how memories grow. -/
import Derived.Test.YtmnagbhllnlelaaGreatDoorVxIR2
import Derived.Test.YtmnagbhllnlelaaGreatDoorVxIR0
import Derived.Test.YtmnagbhllnlelaaGreatDoorVxIR1
import Derived.Test.YtmnagbhllnlelaaGreatDoorVxIR3
import Derived.Test.YtmnagbhllnlelaaGreatDoorVxIR4
import Derived.Test.YtmnagbhllnlelaaGreatDoorVxFind
import Derived.KernelRfl
set_option linter.unusedSimpArgs false
set_option linter.unusedVariables false
set_option maxRecDepth 100000
namespace Go.Vx
open Go
variable {P : Program}
/-- A contract where more is told. -/
theorem CallsM.frame {f : Nat} {vs : List Value} {m m' : Mem} {R : Ending → Mem → Prop} (h : CallsM P f vs m R) (hle : Mem.le m m') : CallsM P f vs m' (fun e m'' => ∃ m1, Mem.le m1 m'' ∧ R e m1 ∧ ∀ b o, m b = none → m' b = some o → m'' b = some o) := by
 refine ⟨h.1, fun w hs => ?_⟩
 have hs1 : Sub m w := fun b o hb => hs b o (hle b o hb)
 refine (h.2 w hs1).mono fun e w' hw => ?_
 obtain ⟨m1, s1, hR⟩ := hw
 let m2 : Mem := fun b => match m1 b with | some o => some o | none => match m b with | some _ => none | none => m' b
 have h12 : Mem.le m1 m2 := fun b o hb => by show (match m1 b with | some o => some o | none => _) = _; rw [hb]
 refine ⟨m2, ⟨fun b o hb => ?_, s1.size, fun b hb hm => ?_, s1.tape, s1.os, s1.out⟩, m1, h12, hR, fun b o hb hb' => ?_⟩
 ·have hb2 : (match m1 b with | some o => some o | none => match m b with | some _ => none | none => m' b) = some o := hb
  cases h1 : m1 b with
  | some o' => rw [h1] at hb2; cases hb2; exact s1.sub b _ h1
  | none =>
   rw [h1] at hb2
   cases h2 : m b with
   | some _ => rw [h2] at hb2; cases hb2
   | none =>
    rw [h2] at hb2
    have hw := hs b o hb2
    obtain ⟨_, k2⟩ := s1.keep b (Array.getElem?_eq_some_iff.1 hw).1 h2
    rw [k2]; exact hw
 ·have hmb : m b = none := by
   cases h2 : m b with
   | none => rfl
   | some o => rw [hle b o h2] at hm; cases hm
  obtain ⟨k1, k2⟩ := s1.keep b hb hmb
  refine ⟨?_, k2⟩
  show (match m1 b with | some o => some o | none => match m b with | some _ => none | none => m' b) = none
  rw [k1, hmb]; exact hm
 ·show (match m1 b with | some o => some o | none => match m b with | some _ => none | none => m' b) = some o
  have hw := hs b o hb'
  obtain ⟨k1, _⟩ := s1.keep b (Array.getElem?_eq_some_iff.1 hw).1 hb
  rw [k1, hb]; exact hb'
theorem WMp.rgM {m : Mem} {K : Value → Mem → Prop} {r : Nat} {es : Array MapEntry} {cl : Nat} (h : m r = some (.map es cl)) (k : ∀ b, m b = none → K (.pointer (some ⟨b, 0, none⟩)) (m.set b (.mapIter (some r) cl #[] cl))) : WMp .rg [.map (some r)] m K := by
 unfold WMp; exact ⟨es, cl, h, k⟩
theorem WMp.nxM {m : Mem} {K : Value → Mem → Prop} {b r since : Nat} {seen : Array Nat} {c0 : Nat} {es : Array MapEntry} {cl : Nat} (h : m b = some (.mapIter (some r) since seen c0)) (h1 : m r = some (.map es cl)) (h2 : ∀ x ∈ es.toList, x.born < since) (h3 : since ≤ c0)
  (k : mapLeft es seen = [] → K (.tuple #[.bool false]) m) (k2 : ∀ x ∈ mapLeft es seen, K (.tuple #[.bool true, x.key, x.val]) (m.set b (.mapIter (some r) since (seen.push x.born) cl))) : WMp .nx [.pointer (some ⟨b, 0, none⟩)] m K := by
 unfold WMp; exact ⟨some r, .inr ⟨r, since, seen, c0, es, cl, rfl, h, h1, h2, h3, k, k2⟩⟩
theorem WMp.enM {m : Mem} {K : Value → Mem → Prop} {b r since : Nat} {seen : Array Nat} {es : Array MapEntry} {cl : Nat} {x : MapEntry} (h : m b = some (.mapIter (some r) since (seen.push x.born) cl)) (h1 : m r = some (.map es cl)) (h2 : x ∈ es.toList) (h3 : (es.toList.map (·.born)).Nodup) (k : K (.tuple #[x.key, x.val]) m) : WMp .en [.pointer (some ⟨b, 0, none⟩)] m K := by
 unfold WMp; exact ⟨r, since, seen, es, cl, x, h, h1, h2, h3, k⟩
theorem WApp.in {m : Mem} {T sz bytes : Nat} {zero : List Value} {ad : Addr} {len cap : Nat} {x : Option Addr} {n : Nat} {K : Value → Mem → Prop} (new : List Value) (h : FirstCells m x (n * sz) new) (hx : x = none → n = 0) (l : List Value) (U : TypeId)
  (h1 : len + n ≤ cap) (h2 : m ad.block = some (Cells l U)) (h3 : ad.spot = none) (h4 : ad.off + len * sz + n * sz ≤ l.length) (h5 : oneL new = true) (k : K (.slice (some ad) (len + n) cap) (m.set ad.block (Cells (spliceL l (ad.off + len * sz) new) U))) : WApp m T sz bytes zero (some ad) len cap x n K := by
 unfold WApp; exact ⟨new, h, hx, fun _ => .inr ⟨ad, rfl, l, U, h2, h3, h4, h5, k⟩, fun hh => absurd hh (by omega)⟩
theorem WApp.grow {m : Mem} {T sz bytes : Nat} {zero : List Value} {a : Option Addr} {len cap : Nat} {x : Option Addr} {n : Nat} {K : Value → Mem → Prop} (new : List Value) (h : FirstCells m x (n * sz) new) (hx : x = none → n = 0)
  (h1 : cap < len + n) (h2 : (len + n) * bytes ≤ 35184372088832) (old : List Value) (h3 : FirstCells m a (len * sz) old) (h4 : a = none → len = 0)
  (k : ∀ b c, m b = none → len + n ≤ c → K (.slice (some ⟨b, 0, none⟩) (len + n) c) (m.set b (Cells (old ++ new ++ (List.replicate (c - (len + n)) zero).flatten) T))) : WApp m T sz bytes zero a len cap x n K := by
 unfold WApp; exact ⟨new, h, hx, fun hh => absurd hh (by omega), fun _ => ⟨h2, old, h3, h4, k⟩⟩
theorem CellsAt.blk {m : Mem} {b off : Nat} {l vs : List Value} {T : TypeId} (h : m b = some (Cells l T)) (hv : ∀ (j : Nat) v, vs[j]? = some v → l[off + j]? = some v) : CellsAt m ⟨b, off, none⟩ vs := fun j v hj => by
 have e : (⟨b, off, none⟩ : Addr).add j = ⟨b, off + j, none⟩ := by unfold Addr.add; split <;> simp_all
 rw [e]
 exact ⟨_, _, _, h, rfl, by simpa using hv j v hj⟩
theorem Mem.le.refl (m : Mem) : Mem.le m m := fun _ _ h => h
theorem Mem.le.trans {a b c : Mem} (h : Mem.le a b) (k : Mem.le b c) : Mem.le a c := fun x o hx => k x o (h x o hx)
theorem Mem.le_set {m : Mem} {b : Nat} {o : Obj} (h : m b = none) : Mem.le m (m.set b o) := fun x p hx => by
 by_cases e : x = b
 ·subst e; rw [h] at hx; cases hx
 ·rw [Mem.set_other _ _ e]; exact hx
end Go.Vx
namespace Go.Proofs.YtmnagbhllnlelaaGreatDoor
open Go Go.Vx
def zero4 : List Value := [i 0, i 0, i 0, i 0]
def ecells (e : MapEntry) : List Value := match e.key with | .agg a => (match a.toList with | [f, t, r] => [f, t, e.val, r] | _ => []) | _ => []
def EOK (e : MapEntry) : Prop := ∃ f t r d : Int, e.key = .agg ⟨[i f, i t, i r]⟩ ∧ e.val = i d
def encL (es : List MapEntry) : List Value := (es.map ecells).flatten
def zerosL (n : Nat) : List Value := (List.replicate n zero4).flatten
theorem ecells_len {e : MapEntry} (h : EOK e) : (ecells e).length = 4 := by
 obtain ⟨f, t, r, d, h1, h2⟩ := h
 unfold ecells; rw [h1]; rfl
theorem encL_len : ∀ {es : List MapEntry}, (∀ e ∈ es, EOK e) → (encL es).length = es.length * 4
 | [], _ => rfl
 | e :: es, h => by
  have := encL_len (es := es) fun x hx => h x (by simp [hx])
  simp only [encL, List.map_cons, List.flatten_cons, List.length_append, List.length_cons] at this ⊢
  rw [ecells_len (h e (by simp)), this]; omega
theorem zerosL_len (n : Nat) : (zerosL n).length = n * 4 := by simp [zerosL, zero4]
theorem splice_enc {es : List MapEntry} {k : Nat} (h : ∀ e ∈ es, EOK e) (hk : 0 < k) {new : List Value} (hn : new.length = 4) :
  spliceL (encL es ++ zerosL k) (es.length * 4) new = encL es ++ new ++ zerosL (k - 1) := by
 have hl := encL_len h
 rw [spliceL_eq _ _ _ (by simp [hl, zerosL_len]; omega)]
 have h1 : (encL es ++ zerosL k).take (es.length * 4) = encL es := by rw [← hl, List.take_left]
 have h2 : (encL es ++ zerosL k).drop (es.length * 4 + new.length) = zerosL (k - 1) := by
  rw [← List.drop_drop, ← hl, List.drop_left, hn]
  obtain ⟨j, rfl⟩ : ∃ j, k = j + 1 := ⟨k - 1, by omega⟩
  show (zerosL (j + 1)).drop 4 = zerosL j
  simp [zerosL, zero4, List.replicate_succ]
 rw [h1, h2]
end Go.Proofs.YtmnagbhllnlelaaGreatDoor
set_option linter.unusedSimpArgs false
set_option linter.unusedVariables false
set_option maxRecDepth 100000
namespace Go.Proofs.YtmnagbhllnlelaaGreatDoor
open Go Go.Vx
/-- What the slice that is put together is, when some entries have been met. -/
def OutAt (m m' : Mem) (done : List MapEntry) (out : Value) : Prop :=
 (done = [] ∧ out = ns) ∨ ∃ b c, out = .slice (some ⟨b, 0, none⟩) done.length c ∧ done ≠ [] ∧ done.length ≤ c ∧ m b = none ∧ m' b = some (Cells (encL done ++ zerosL (c - done.length)) 43)
/-- The lists that are a list in another order. -/
def insL {α : Type} (a : α) : List α → List (List α)
 | [] => [[a]]
 | b :: l => (a :: b :: l) :: (insL a l).map (b :: ·)
def permsL {α : Type} : List α → List (List α)
 | [] => [[]]
 | a :: l => (permsL l).flatMap (insL a)
theorem mem_insL {α : Type} (a : α) : ∀ (s u : List α), s ++ a :: u ∈ insL a (s ++ u)
 | [], [] => by simp [insL]
 | [], b :: u => by simp [insL]
 | b :: s, u => by
  simp only [List.cons_append, insL, List.mem_cons, List.mem_map]
  exact .inr ⟨_, mem_insL a s u, rfl⟩
theorem mem_permsL {α : Type} : ∀ (l l' : List α), l'.Perm l → l' ∈ permsL l
 | [], l', h => by rw [h.eq_nil]; simp [permsL]
 | a :: l, l', h => by
  obtain ⟨s, u, rfl⟩ := List.append_of_mem (h.symm.subset (List.mem_cons_self : a ∈ a :: l))
  have h2 : (s ++ u).Perm l := (List.perm_cons a).1 (List.perm_middle.symm.trans h)
  simp only [permsL, List.mem_flatMap]
  exact ⟨_, mem_permsL l _ h2, mem_insL a s u⟩
theorem perm_of {l l' : List MapEntry} (hs : ∀ x ∈ l', x ∈ l) (hn : (l.map (·.born)).Nodup) (hn' : (l'.map (·.born)).Nodup) (hb : ∀ x ∈ l, x.born ∈ l'.map (·.born)) : l'.Perm l := by
 have d1 : l.Nodup := List.Pairwise.of_map _ (fun a b h e => h (by rw [e])) hn
 have d2 : l'.Nodup := List.Pairwise.of_map _ (fun a b h e => h (by rw [e])) hn'
 refine (List.perm_ext_iff_of_nodup d2 d1).2 fun x => ⟨hs x, fun hx => ?_⟩
 obtain ⟨y, hy, he⟩ := List.mem_map.1 (hb x hx)
 have key : ∀ (L : List MapEntry), (L.map (·.born)).Nodup → ∀ x ∈ L, ∀ y ∈ L, y.born = x.born → y = x := by
  intro L
  induction L with
  | nil => intro _ x hx; cases hx
  | cons a L ih =>
   intro hL x hx y hy e
   rw [List.map_cons, List.nodup_cons] at hL
   have g1 : a.born ∉ L.map (·.born) := hL.1
   rcases List.mem_cons.1 hx with h1 | hx <;> rcases List.mem_cons.1 hy with h2 | hy
   ·rw [h1, h2]
   ·rw [h1] at e; exact absurd (List.mem_map.2 ⟨y, hy, e⟩) g1
   ·rw [h2] at e; exact absurd (List.mem_map.2 ⟨x, hx, e.symm⟩) g1
   ·exact ih hL.2 x hx y hy e
 rw [← key l hn x hx y (hs y hy) he]; exact hy
open Go.Vx.IOp Go.Vx.IR Go.Vx.Opd in
theorem edl_asks (bm : Nat) (es : List MapEntry) (cl : Nat) (m : Mem) (R : Ending → Mem → Prop)
  (hm : m bm = some (.map ⟨es⟩ cl)) (hok : ∀ e ∈ es, EOK e) (hb : ∀ e ∈ es, e.born < cl) (hn : (es.map (·.born)).Nodup) (hl : es.length ≤ 1000)
  (H0 : es = [] → CallsM Tryz.prog 164 [ns, .func (.func 193) #[] #[]] m fun e m' => (∃ u, e = .returned u) ∧ ∃ m2, Mem.le m2 m' ∧ R (.returned ns) m2)
  (H : ∀ p : List MapEntry, p.Perm es → p ≠ [] → ∀ b c, m b = none → p.length ≤ c → CallsM Tryz.prog 164 [.slice (some ⟨b, 0, none⟩) p.length c, .func (.func 193) #[] #[]] (m.set b (Cells (encL p ++ zerosL (c - p.length)) 43)) fun e m' => (∃ u, e = .returned u) ∧ ∃ m2, Mem.le m2 m' ∧ R (.returned (.slice (some ⟨b, 0, none⟩) p.length c)) m2) :
  ir_order_edges_list.asks Tryz.prog [.map (some bm)] m R := by
 conv => whnf
 refine WMp.rgM hm fun bit hbit => ?_
 conv => whnf
 have hne : bm ≠ bit := fun e => by subst e; rw [hm] at hbit; cases hbit
 refine WLoop.mk (Value × List MapEntry) (fun s => [(3, .val s.1)])
  (fun s m' => Mem.le m m' ∧ m' bit = some (.mapIter (some bm) cl ⟨s.2.map (·.born)⟩ cl) ∧ OutAt m m' s.2 s.1 ∧ (∀ x ∈ s.2, x ∈ es) ∧ (s.2.map (·.born)).Nodup)
  (fun s => es.length - s.2.length) (ns, []) ⟨rfl, trivial⟩ ⟨Mem.le_set hbit, Mem.set_same _ _ _, .inl ⟨rfl, rfl⟩, (fun x hx => by cases hx), List.nodup_nil⟩ ?_
 rintro ⟨out, done⟩ m1 ⟨i1, i2, i3, i4, i5⟩
 conv => whnf
 refine WMp.nxM i2 (i1 _ _ hm) hb (Nat.le_refl _) ?_ ?_
 ·intro hleft
  have hperm : done.Perm es := perm_of i4 hn i5 fun y hy => by
   by_cases hh : y.born ∈ done.map (·.born)
   ·exact hh
   ·have : y ∈ mapLeft es.toArray ⟨done.map (·.born)⟩ := List.mem_filter.2 ⟨hy, by simpa [Array.contains_eq_mem] using hh⟩
    rw [hleft] at this; cases this
  conv => whnf
  refine Br.mk (fun h => by cases h) (fun _ => ?_)
  conv => whnf
  rcases i3 with ⟨e1, e2⟩ | ⟨b, cp, e1, e2, e3, e4, e5⟩
  ·simp only at e1 e2
   subst e1; subst e2
   refine WCall.mk (CallsM.frame (H0 (hperm.symm.eq_nil)) i1) ?_
   rintro e m' ⟨mm, hmm, ⟨⟨u, rfl⟩, m2, hm2, hR⟩, _⟩
   conv => whnf
   exact WRet.mk (hm2.trans hmm) hR
  ·simp only at e1 e2
   subst e1
   refine WCall.mk (CallsM.frame (H _ hperm e2 b cp e4 e3) fun y o hy => ?_) ?_
   ·by_cases e : y = b
    ·subst e; rw [Mem.set_same] at hy; rw [← hy]; exact e5
    ·rw [Mem.set_other _ _ e] at hy; exact i1 y o hy
   rintro e m' ⟨mm, hmm, ⟨⟨u, rfl⟩, m2, hm2, hR⟩, _⟩
   conv => whnf
   exact WRet.mk (hm2.trans hmm) hR
 ·rintro ⟨xk, xv, xb⟩ hx
  simp only at i2 i3 i4 i5
  have hxm : (⟨xk, xv, xb⟩ : MapEntry) ∈ es := (List.mem_filter.1 hx).1
  have hxb : xb ∉ done.map (·.born) := fun hh => by
   have h1 := (List.mem_filter.1 hx).2
   simp only [Bool.not_eq_true', Array.contains_eq_mem, decide_eq_false_iff_not] at h1
   exact h1 (by simpa using hh)
  obtain ⟨f, t, r, d, hk, hv⟩ := hok _ hxm
  simp only at hk hv
  subst hk; subst hv
  have hdn : ((done ++ [⟨.agg ⟨[i f, i t, i r]⟩, i d, xb⟩] : List MapEntry).map (·.born)).Nodup := by
   rw [List.map_append]
   refine List.nodup_append.2 ⟨i5, by simp, fun a ha b hb e => ?_⟩
   simp only [List.map_cons, List.map_nil, List.mem_singleton] at hb
   rw [e, hb] at ha; exact hxb ha
  have hds : ∀ y ∈ done ++ [⟨.agg ⟨[i f, i t, i r]⟩, i d, xb⟩], y ∈ es := fun y hy => by
   rcases List.mem_append.1 hy with h | h
   ·exact i4 y h
   ·rw [List.mem_singleton.1 h]; exact hxm
  have hlt : done.length + 1 ≤ es.length := by
   have d2 : (done ++ [⟨.agg ⟨[i f, i t, i r]⟩, i d, xb⟩] : List MapEntry).Nodup := List.Pairwise.of_map _ (fun a b h e => h (by rw [e])) hdn
   have := List.Nodup.length_le_of_subset d2 hds
   simpa using this
  have hdo : ∀ y ∈ done, EOK y := fun y hy => hok y (i4 y hy)
  conv => whnf
  refine Br.mk (fun _ => ?_) (fun h => by cases h)
  conv => whnf
  refine WMp.enM (Mem.set_same _ _ _) (by rw [Mem.set_other _ _ hne]; exact i1 _ _ hm) hxm hn ?_
  repeat' (conv => whnf
           first | refine WBnd.mk (by decide) ?_ | refine WGet.mk _ rfl ?_)
  refine WNew.mk fun b1 hb1 => ?_
  have hb1' : m1 b1 = none := by
   by_cases e : b1 = bit
   ·subst e; rw [Mem.set_same] at hb1; cases hb1
   ·rw [Mem.set_other _ _ e] at hb1; exact hb1
  have hne1 : b1 ≠ bit := fun e => by subst e; rw [Mem.set_same] at hb1; cases hb1
  let m0 : Mem := (m1.set bit (Obj.mapIter (some bm) cl ((⟨done.map (·.born)⟩ : Array Nat).push xb) cl)).set b1 (Cells [i f, i t, i d, i r] 43)
  have hmn : ∀ b, m1 b = none → m b = none := fun b h => by
   cases hh : m b with
   | none => rfl
   | some o => rw [i1 b o hh] at h; cases h
  have hle0 : Mem.le m m0 := fun b o hbo => by
   have n1 : b ≠ b1 := fun e => by subst e; rw [hmn _ hb1'] at hbo; cases hbo
   have n2 : b ≠ bit := fun e => by subst e; rw [hbit] at hbo; cases hbo
   show ((m1.set bit _).set b1 _) b = _
   rw [Mem.set_other _ _ n1, Mem.set_other _ _ n2]; exact i1 b o hbo
  have hbit0 : m0 bit = some (Obj.mapIter (some bm) cl ((⟨done.map (·.born)⟩ : Array Nat).push xb) cl) := by
   show ((m1.set bit _).set b1 _) bit = _
   rw [Mem.set_other _ _ (Ne.symm hne1), Mem.set_same]
  have hpush : (⟨done.map (·.born)⟩ : Array Nat).push xb = ⟨(done ++ [⟨.agg ⟨[i f, i t, i r]⟩, i d, xb⟩] : List MapEntry).map (·.born)⟩ := by simp
  have hfin : ∀ (b c : Nat) (Z : List Value), m b = none → b ≠ bit → done.length + 1 ≤ c → Z = encL done ++ [i f, i t, i d, i r] ++ zerosL (c - (done.length + 1)) →
    Mem.le m (m0.set b (Cells Z 43)) ∧ (m0.set b (Cells Z 43)) bit = some (Obj.mapIter (some bm) cl ⟨(done ++ [⟨.agg ⟨[i f, i t, i r]⟩, i d, xb⟩] : List MapEntry).map (·.born)⟩ cl) ∧
    OutAt m (m0.set b (Cells Z 43)) (done ++ [⟨.agg ⟨[i f, i t, i r]⟩, i d, xb⟩]) (.slice (some ⟨b, 0, none⟩) (done.length + 1) c) := by
   intro b c Z h1 h2 h3 h4
   refine ⟨fun y o hy => ?_, by rw [Mem.set_other _ _ (Ne.symm h2), hbit0, hpush], .inr ⟨b, c, by simp, by simp, by simpa using h3, h1, ?_⟩⟩
   ·have : y ≠ b := fun e => by subst e; rw [h1] at hy; cases hy
    rw [Mem.set_other _ _ this]; exact hle0 y o hy
   ·rw [Mem.set_same, h4]; simp [encL, ecells]
  have hnew : FirstCells m0 (some ⟨b1, 0, none⟩) (1 * 4) [i f, i t, i d, i r] := by
   refine ⟨rfl, fun ad had => ?_⟩
   cases had
   exact CellsAt.blk (Mem.set_same _ _ _) fun j v hj => by simpa using hj
  have hb2n : ∀ b2, m0 b2 = none → m b2 = none ∧ b2 ≠ bit := fun b2 hb2 => by
   refine ⟨?_, fun e => by subst e; rw [hbit0] at hb2; cases hb2⟩
   cases hh : m b2 with
   | none => rfl
   | some o => rw [hle0 b2 o hh] at hb2; cases hb2
  rcases i3 with ⟨e1, e2⟩ | ⟨b, cp, e1, e2, e3, e4, e5⟩
  ·subst e1; subst e2
   conv => whnf
   refine WApp.grow _ hnew (fun h => by cases h) (by decide) (by decide) [] ⟨rfl, fun ad h => by cases h⟩ (fun _ => rfl) fun b2 c2 hb2 hc2 => ?_
   conv => whnf
   obtain ⟨h1, h2⟩ := hb2n b2 hb2
   obtain ⟨g1, g2, g3⟩ := hfin b2 c2 _ h1 h2 hc2 rfl
   exact ⟨(_, _), ⟨rfl, trivial⟩, ⟨g1, g2, g3, hds, hdn⟩, by simp at hlt ⊢; omega⟩
  ·subst e1
   have hbb : b ≠ bit := fun e => by subst e; rw [i2] at e5; cases e5
   have hbb1 : b ≠ b1 := fun e => by subst e; rw [hb1'] at e5; cases e5
   have hb0 : m0 b = some (Cells (encL done ++ zerosL (cp - done.length)) 43) := by
    show ((m1.set bit _).set b1 _) b = _
    rw [Mem.set_other _ _ hbb1, Mem.set_other _ _ hbb]; exact e5
   have hel := encL_len hdo
   conv => whnf
   by_cases hc : done.length + 1 ≤ cp
   ·refine WApp.in _ hnew (fun h => by cases h) (encL done ++ zerosL (cp - done.length)) 43 hc hb0 rfl ?_ rfl ?_
    ·rw [List.length_append, hel, zerosL_len]; simp only; omega
    conv => whnf
    obtain ⟨g1, g2, g3⟩ := hfin b cp (spliceL (encL done ++ zerosL (cp - done.length)) (0 + done.length * 4) [i f, i t, i d, i r]) e4 hbb hc (by
     rw [Nat.zero_add, splice_enc hdo (by omega) rfl]; rfl)
    exact ⟨(_, _), ⟨rfl, trivial⟩, ⟨g1, g2, g3, hds, hdn⟩, by simp at hlt ⊢; omega⟩
   ·refine WApp.grow _ hnew (fun h => by cases h) (by omega) (by omega) (encL done) ⟨hel, fun ad had => ?_⟩ (fun h => by cases h) fun b2 c2 hb2 hc2 => ?_
    ·cases had
     refine CellsAt.blk hb0 fun j v hj => ?_
     rw [Nat.zero_add, List.getElem?_append_left (List.getElem?_eq_some_iff.1 hj).1]; exact hj
    conv => whnf
    obtain ⟨h1, h2⟩ := hb2n b2 hb2
    obtain ⟨g1, g2, g3⟩ := hfin b2 c2 _ h1 h2 hc2 rfl
    exact ⟨(_, _), ⟨rfl, trivial⟩, ⟨g1, g2, g3, hds, hdn⟩, by simp at hlt ⊢; omega⟩
open Go.Vx.Ev
def eokB : Value → Bool | .tuple ⟨[.agg ⟨[.int .i64 _, .int .i64 _, .int .i64 _]⟩, .int .i64 _, .int .i64 _]⟩ => true | _ => false
def eokL : List Value → Bool | [] => true | v :: vs => eokB v && eokL vs
def freshB (b : Nat) : List MapEntry → Bool | [] => true | e :: es => (!Nat.beq e.born b) && freshB b es
def bornsB (c : Nat) : List MapEntry → Bool | [] => true | e :: es => Nat.ble (e.born + 1) c && (freshB e.born es && bornsB c es)
def eqZ : List Value → List Value → Bool
 | [], [] => true
 | .int .i64 a :: xs, .int .i64 b :: ys => decide (a = b) && eqZ xs ys
 | _, _ => false
theorem eokL_ok : ∀ {L : List Value}, eokL L = true → (∀ e ∈ L.map entOf, EOK e) ∧ flatL L = true
 | [], _ => ⟨fun e h => absurd h (by simp), rfl⟩
 | v :: vs, h => by
  simp only [eokL, Bool.and_eq_true] at h
  obtain ⟨h1, h2⟩ := eokL_ok h.2
  have hv := h.1
  unfold eokB at hv
  split at hv <;> try (cases hv; done)
  rename_i f t r d n
  refine ⟨fun e he => ?_, ?_⟩
  ·rcases List.mem_cons.1 (List.map_cons .. ▸ he) with h | h
   ·rw [h]; exact ⟨f, t, r, d, rfl, rfl⟩
   ·exact h1 e h
  ·simp only [flatL, flat, h2, Bool.and_true, Bool.true_and]
theorem freshB_ok {b : Nat} : ∀ {L : List MapEntry}, freshB b L = true → b ∉ L.map (·.born)
 | [], _ => by simp
 | e :: es, h => by
  simp only [freshB, Bool.and_eq_true, Bool.not_eq_true'] at h
  simp only [List.map_cons, List.mem_cons, not_or]
  exact ⟨fun hh => (by rw [← hh, Nat.beq_refl] at h; cases h.1), freshB_ok h.2⟩
theorem bornsB_ok {c : Nat} : ∀ {L : List MapEntry}, bornsB c L = true → (∀ e ∈ L, e.born < c) ∧ (L.map (·.born)).Nodup
 | [], _ => ⟨fun e h => absurd h (by simp), List.nodup_nil⟩
 | e :: es, h => by
  simp only [bornsB, Bool.and_eq_true] at h
  obtain ⟨h1, h2⟩ := bornsB_ok h.2.2
  refine ⟨fun x hx => ?_, ?_⟩
  ·rcases List.mem_cons.1 hx with h' | h'
   ·rw [h']; exact Nat.le_of_ble_eq_true h.1
   ·exact h1 x h'
  ·rw [List.map_cons, List.nodup_cons]; exact ⟨freshB_ok h.2.1, h2⟩
theorem eqZ_ok : ∀ {xs ys : List Value}, eqZ xs ys = true → xs = ys ∧ flatL ys = true
 | [], ys, h => by cases ys with
  | nil => exact ⟨rfl, rfl⟩
  | cons y ys => simp [eqZ] at h
 | x :: xs, ys, h => by
  unfold eqZ at h
  split at h
  ·rename_i h1; cases h1
  ·rename_i a xs' b ys' hx
   simp only [Bool.and_eq_true, decide_eq_true_eq] at h
   cases hx
   obtain ⟨h1, h2⟩ := eqZ_ok h.2
   rw [h.1, h1]
   exact ⟨rfl, by simp only [flatL, flat, h2, Bool.and_true]⟩
  ·cases h
def sortP (call : CallEv) (x : Cx) (t : St) (nx n : Nat) (p : List MapEntry) : Option (List Value) :=
 match call ⟨[], t :: (x.wr ++ x.ro)⟩ 164 [.slice (some ⟨nx, 0, none⟩) n (INF + n), .func (.func 193) #[] #[]] (St.put .lf nx (.bl (encL p) 43 4)) (nx + 1) with
 | some (_, t', _) => (match t'.get nx with
  | some (.bl cs T sz) => bif Nat.beq T 43 && Nat.beq sz 4 then some cs else none
  | _ => none)
 | none => none
def allP (call : CallEv) (x : Cx) (t : St) (nx n : Nat) (cs : List Value) : List (List MapEntry) → Bool
 | [] => true
 | p :: ps => (match sortP call x t nx n p with | some cs' => eqZ cs' cs | none => false) && allP call x t nx n cs ps
theorem allP_ok {call : CallEv} {x : Cx} {t : St} {nx n : Nat} {cs : List Value} : ∀ {ps : List (List MapEntry)}, allP call x t nx n cs ps = true → ∀ p ∈ ps, sortP call x t nx n p = some cs ∧ flatL cs = true
 | [], _, p, hp => by cases hp
 | q :: qs, h, p, hp => by
  simp only [allP, Bool.and_eq_true] at h
  rcases List.mem_cons.1 hp with h' | h'
  ·rw [h']
   have h1 := h.1
   split at h1 <;> try (cases h1; done)
   rename_i cs' hs
   obtain ⟨z1, z2⟩ := eqZ_ok h1
   rw [hs, z1]; exact ⟨rfl, z2⟩
  ·exact allP_ok h.2 p h'
def esEv (call : CallEv) (gl : List Nat) (x : Cx) (vs : List Value) (t : St) (nx : Nat) : Option (Value × St × Nat) :=
 match vs with
 | [.map (some k)] => (match x.get t k with
  | some (.mp (.int _ c :: es)) => bif eokL es && (bornsB c.toNat (es.map entOf) && (Nat.ble es.length 6 && newlab x t nx)) then (match es with
   | [] => (match call ⟨[], t :: (x.wr ++ x.ro)⟩ 164 [ns, .func (.func 193) #[] #[]] .lf nx with | some _ => some (ns, t, nx) | none => none)
   | e :: es => (match sortP call x t nx (es.length + 1) ((e :: es).map entOf) with
    | some cs => bif allP call x t nx (es.length + 1) cs (permsL ((e :: es).map entOf)) then some (.slice (some ⟨nx, 0, none⟩) (es.length + 1) (INF + (es.length + 1)), t.put nx (.bl cs 43 4), nx + 1) else none
    | none => none)) else none
  | _ => none)
 | _ => none
theorem enter_get (x : Cx) (t : St) (k : Nat) : Cx.get ⟨[], t :: (x.wr ++ x.ro)⟩ .lf k = x.get t k := by
 unfold Cx.get; simp only [Tr.get_lf, getL, getL_app]; rfl
theorem esEv_ok (gl : List Nat) : EntOK Tryz.prog gl 146 (.sp esEv) := by
 intro call hc x vs t nx v t' nx' h μ G m vs' hI hv
 unfold esEv at h
 split at h <;> try (cases h; done)
 rename_i k
 split at h <;> try (cases h; done)
 rename_i kk c es hk
 cases hg : (eokL es && (bornsB c.toNat (es.map entOf) && (Nat.ble es.length 6 && newlab x t nx))) with
 | false => rw [hg] at h; cases h
 | true =>
  rw [hg] at h; simp only [cond_true] at h
  simp only [Bool.and_eq_true] at hg
  obtain ⟨g1, g2, g3, g4⟩ := hg
  obtain ⟨e1, e2⟩ := eokL_ok g1
  obtain ⟨b1, b2⟩ := bornsB_ok g2
  have hlen := Nat.le_of_ble_eq_true g3
  obtain ⟨n1, n2⟩ := newlab_ok g4
  obtain ⟨y, ys, hy, hys, rfl⟩ := hv.inv
  rw [hys.nil]
  obtain ⟨bm, sz0, L0, hGk, rfl⟩ := hy.mp
  obtain ⟨bm', sz1, L1, l, hG', hmb, hrl, _⟩ := hI.mps k _ hk
  rw [hGk] at hG'; cases hG'
  have hl : l = .int kk c :: es := flatL_eq _ _ (by simp only [flatL, flat, e2, Bool.and_true]) hrl
  subst hl
  have hmap : m bm = some (.map ⟨es.map entOf⟩ c.toNat) := hmb
  refine calls_of mixed Tryz.func146 ok_order_edges_list rfl ?_
  refine edl_asks bm (es.map entOf) c.toNat m _ hmap e1 b1 b2 (by simp; omega) (fun he => ?_) (fun p hp hne b cp hb hcp => ?_)
  ·have he' : es = [] := by simpa using he
   subst he'
   simp only at h
   split at h <;> try (cases h; done)
   rename_i r hr
   obtain ⟨v1, t1, nx1⟩ := r
   cases h
   refine CallsM.weak ((hc _ _ _ _ _ _ _ _ hr m G m [ns, .func (.func 193) #[] #[]] hI.enter (flatL_self _ rfl)).1 (by decide)) fun e m' hR => ?_
   obtain ⟨G1, v', k1, k2, k3, rfl⟩ := hR
   exact ⟨m', Mem.le.refl _, ⟨_, rfl⟩, m, k2.low, G, _, Ghost.le.refl G, hI, flat_self _ rfl, rfl⟩
  ·cases es with
   | nil => exact absurd hp.eq_nil hne
   | cons e0 es0 =>
    simp only at h
    split at h <;> try (cases h; done)
    rename_i cs hcs
    cases ha : allP call x t nx (es0.length + 1) cs (permsL ((e0 :: es0).map entOf)) with
    | false => rw [ha] at h; cases h
    | true =>
     rw [ha] at h; cases h
     have hpl : p.length = es0.length + 1 := by rw [hp.length_eq]; simp
     obtain ⟨hs, hfc⟩ := allP_ok ha p (mem_permsL _ _ hp)
     unfold sortP at hs
     split at hs <;> try (cases hs; done)
     rename_i v1 t1 nx1 hr
     split at hs <;> try (cases hs; done)
     rename_i cs1 T1 sz1 ht1
     cases hq : (Nat.beq T1 43 && Nat.beq sz1 4) with
     | false => rw [hq] at hs; cases hs
     | true =>
      rw [hq] at hs; cases hs
      rw [Bool.and_eq_true] at hq
      have q1 := Nat.eq_of_beq_eq_true hq.1
      have q2 := Nat.eq_of_beq_eq_true hq.2
      subst q1; subst q2
      have hpe : ∀ e ∈ p, EOK e := fun e he => e1 e (hp.subset he)
      have hfl : ∀ (L : List MapEntry), (∀ e ∈ L, EOK e) → flatL (encL L) = true := by
       intro L
       induction L with
       | nil => intro _; rfl
       | cons a L ih =>
        intro hL
        obtain ⟨f, tt, r, d, h1, h2⟩ := hL a (by simp)
        have : encL (a :: L) = [i f, i tt, i d, i r] ++ encL L := by simp only [encL, List.map_cons, List.flatten_cons]; congr 1; unfold ecells; rw [h1, h2]
        rw [this]
        simp only [List.cons_append, List.nil_append, flatL, flat, Bool.true_and]
        exact ih fun e he => hL e (by simp [he])
      obtain ⟨j1, j2⟩ := hI.enter.new (n := nx) (b := b) (T := 43) (sz := 4) (cs := encL p) (l := encL p ++ zerosL (cp - p.length)) (l1 := encL p) (rest := zerosL (cp - p.length)) n1 (by rw [enter_get]; exact n2) hb (flatL_self _ (hfl p hpe)) rfl
      have hL0 : (encL p ++ zerosL (cp - p.length)).length = cp * 4 := by rw [List.length_append, encL_len hpe, zerosL_len]; omega
      rw [hpl] at hL0 j1 j2 ⊢
      refine CallsM.weak ((hc _ _ _ _ _ _ _ _ hr m _ _ [.slice (some ⟨b, 0, none⟩) (es0.length + 1) cp, .func (.func 193) #[] #[]] j2 (RVL.cons ?_ (flatL_self _ rfl))).1 (by decide)) fun e m' hR => ?_
      ·refine RV.sl' (if_pos rfl) ?_ (by rw [hL0]; omega)
       unfold capR
       rw [Nat.ble_eq_true_of_le (by omega)]
       simp only; omega
      ·obtain ⟨G1, v', k1, k2, k3, rfl⟩ := hR
       refine ⟨m', Mem.le.refl _, ⟨_, rfl⟩, ?_⟩
       have hx1 : Cx.get ⟨[], t :: (x.wr ++ x.ro)⟩ t1 nx = some (.bl cs 43 4) := by unfold Cx.get; rw [ht1]
       have ho1 : Cx.own ⟨[], t :: (x.wr ++ x.ro)⟩ t1 nx = true := by unfold Cx.own; rw [ht1]
       obtain ⟨b', L', l', fr, z1, z2, z3, z4, l1, rest, z5, z6⟩ := k2.blk nx cs 43 4 hx1
       have hgn := k1 nx _ (if_pos rfl)
       rw [hgn] at z1; cases z1
       rw [z3 ho1] at z2
       refine ⟨m.set b (Cells l' 43), fun y o hy => ?_, ?_⟩
       ·by_cases e : y = b
        ·subst e; rw [Mem.set_same] at hy; rw [← hy]; exact z2
        ·rw [Mem.set_other _ _ e] at hy; exact k2.low y o hy
       ·have hl1 : l1 = cs := flatL_eq _ _ hfc z5
        subst hl1
        obtain ⟨y1, y2⟩ := hI.new (n := nx) (b := b) (T := 43) (sz := 4) (cs := l1) (l := l') (l1 := l1) (rest := rest) n1 n2 hb (flatL_self _ hfc) z6
        refine ⟨_, _, y1, y2, ?_, rfl⟩
        refine RV.sl' (if_pos rfl) ?_ (by rw [z4, hL0]; omega)
        unfold capR
        rw [Nat.ble_eq_true_of_le (by omega)]
        simp only; omega
end Go.Proofs.YtmnagbhllnlelaaGreatDoor
