import Derived.Test.YtleofbpepfmfgaaGreatDoorVxEvC
set_option linter.unusedSimpArgs false
set_option linter.unusedVariables false
namespace Go.Vx.Ev
open Go Go.Vx
variable {P : Program} {gl : List Nat} {μ : Mem} {G : Ghost} {x : Cx} {t : St} {m : Mem} {c e : Env}

theorem cell_at {b T i : Nat} {cs l l1 rest : List Value} {fr : Nat × Nat} {v : Value} (hm : m b = some (.cells ⟨l⟩ T fr)) (hc : RVL G cs l1) (hl : l = l1 ++ rest) (hi : cs[i]? = some v) : ∃ w, RV G v w ∧ CellAt m ⟨b, i, none⟩ w := by
 obtain ⟨w, h1, h2⟩ := hc.at hi
 refine ⟨w, h2, ⟨l⟩, T, fr, hm, rfl, ?_⟩
 subst hl
 have hlt := (List.getElem?_eq_some_iff.1 h1).1
 show (⟨l1 ++ rest⟩ : Array Value)[i]? = some w
 rw [List.getElem?_toArray, List.getElem?_append_left hlt]; exact h1
theorem cells_list {b T off n : Nat} {cs l l1 rest : List Value} {fr : Nat × Nat} (hm : m b = some (.cells ⟨l⟩ T fr)) (hc : RVL G cs l1) (hl : l = l1 ++ rest) (hn : off + n ≤ cs.length) :
  RVL G ((cs.drop off).take n) ((l1.drop off).take n) ∧ ((l1.drop off).take n).length = n ∧ CellsAt m ⟨b, off, none⟩ ((l1.drop off).take n) := by
 have hlen := hc.len
 refine ⟨(hc.drop off).take n, by simp; omega, fun i v hi => ?_⟩
 have hin : i < n := by have := (List.getElem?_eq_some_iff.1 hi).1; simp at this; omega
 rw [List.getElem?_take, if_pos hin, List.getElem?_drop] at hi
 rw [add_none]
 refine ⟨⟨l⟩, T, fr, hm, rfl, ?_⟩
 subst hl
 have hlt := (List.getElem?_eq_some_iff.1 hi).1
 show (⟨l1 ++ rest⟩ : Array Value)[off + i]? = some v
 rw [List.getElem?_toArray, List.getElem?_append_left hlt]; exact hi
theorem splice_app {l1 rest vs : List Value} {off : Nat} (h : off + vs.length ≤ l1.length) : spliceL (l1 ++ rest) off vs = spliceL l1 off vs ++ rest := by
 rw [spliceL_eq _ _ _ (by simp; omega), spliceL_eq _ _ _ h, List.take_append_of_le_length (by omega), List.drop_append_of_le_length (by omega)]
 simp
theorem splice_len {l vs : List Value} : ∀ {off : Nat}, (spliceL l off vs).length = l.length := by
 induction vs generalizing l with
 | nil => intro off; rfl
 | cons v vs ih => intro off; simp only [spliceL]; rw [ih]; simp

def live (x : Cx) (t : St) (k : Nat) : Option (List Value × Nat × Nat) := match x.get t k with | some (.bl cs T sz) => some (cs, T, sz) | _ => none
theorem live_get {k T sz : Nat} {cs : List Value} (h : live x t k = some (cs, T, sz)) : x.get t k = some (.bl cs T sz) := by
 unfold live at h
 split at h <;> try (cases h; done)
 rename_i h2; cases h; exact h2
def newlab (x : Cx) (t : St) (n : Nat) : Bool := kok n && (match x.get t n with | none => true | some _ => false)
theorem newlab_ok {n : Nat} (h : newlab x t n = true) : kok n = true ∧ x.get t n = none := by
 unfold newlab at h
 rw [Bool.and_eq_true] at h
 refine ⟨h.1, ?_⟩
 cases hh : x.get t n with
 | none => rfl
 | some o => rw [hh] at h; cases h.2
def slcells (x : Cx) (t : St) (a : Option Addr) (n : Nat) : Option (List Value) :=
 match a with
 | none => bif Nat.beq n 0 then some [] else none
 | some a => (match live x t a.block with | some (cs, _, _) => bif Nat.ble (a.off + n) cs.length then some ((cs.drop a.off).take n) else none | none => none)
def cslO (gl : List Nat) (c : Env) (d : Int) : Option Opd → Option Int
 | none => some d
 | some y => match cat gl y c with | some (.int _ n) => some n | _ => none
theorem cslO_ok (hg : GOK gl G) (h : RE G c e) {d n : Int} {y : Option Opd} (hy : cslO gl c d y = some n) : slOpd e d y = some n := by
 cases y with
 | none => exact hy
 | some y =>
  simp only [cslO] at hy
  split at hy <;> try (cases hy; done)
  rename_i k n' hc; cases hy
  obtain ⟨w, h1, h2⟩ := cat_at hg h hc
  cases h2.int
  simp only [slOpd, h1]
def srcok (b : Option Addr) (k : Nat) : Bool := match b with | none => Nat.beq k 0 | some _ => true
def entsOK : List Value → Bool
 | [] => true
 | e :: es => (match e with | .tuple ⟨[k, _, .int _ _]⟩ => flat k | _ => false) && entsOK es
def findE (k : Value) : List Value → Nat → Option (Option (Nat × Value))
 | [], _ => some none
 | e :: es, j => match e with | .tuple ⟨[k', v, .int _ _]⟩ => (match keq k k' with | some true => some (some (j, v)) | some false => findE k es (j + 1) | none => none) | _ => none
def mpE (x : Cx) (t : St) (nx : Nat) (o : MOp) (vs : List Value) : Option (Value × St × Nat) :=
 match o, vs with
 | .cap, [.slice a n c] => (match Nat.ble INF c with | true => none | false => some (.int .i64 c, t, nx))
 | .apz T sz bytes zero, [.slice none 0 0, .int .i64 n] => bif decide (0 ≤ n) && Nat.ble (n.toNat * bytes) 35184372088832 && decide (n ≤ 9223372036854775807) && flatL zero && Nat.beq sz zero.length then (match n.toNat with
  | 0 => some (.slice none 0 0, t, nx)
  | k + 1 => bif newlab x t nx then some (.slice (some ⟨nx, 0, none⟩) (k + 1) (INF + (k + 1)), t.put nx (.bl (List.replicate (k + 1) zero).flatten T sz), nx + 1) else none) else none
 | .mk, [] => bif newlab x t nx then some (.map (some nx), t.put nx (.mp [.int .i64 0]), nx + 1) else none
 | .lk kn ok zero, [.map none, k] => bif kform kn k && (flat k && flat zero) then some (lkRes ok zero none, t, nx) else none
 | .lk kn ok zero, [.map (some r), k] => (match x.get t r with
  | some (.mp (.int q cl :: es)) => bif kform kn k && (flat k && flat zero) && entsOK es then (match findE k es 0 with | some f => some (lkRes ok zero f, t, nx) | none => none) else none
  | _ => none)
 | .up kn, [.map (some r), k, u] => (match x.get t r with
  | some (.mp (.int q cl :: es)) => bif kform kn k && flat k && entsOK es && (x.own t r && kok r) && decide (0 ≤ cl) then (match findE k es 0 with
   | some none => some (undef, t.put r (.mp (.int q (cl + 1) :: (es ++ [.tuple ⟨[k, u, .int .i64 cl]⟩]))), nx)
   | some (some (j, _)) => (match es[j]? with | some (.tuple ⟨[_, _, .int qq n]⟩) => some (undef, t.put r (.mp (.int q cl :: es.set j (.tuple ⟨[k, u, .int qq n]⟩))), nx) | _ => none)
   | none => none) else none
  | _ => none)
 | .ln, [.map none] => some (.int .i64 0, t, nx)
 | .ln, [.map (some r)] => (match x.get t r with
  | some (.mp (.int q cl :: es)) => some (.int .i64 es.length, t, nx)
  | _ => none)
 | _, _ => none
def mo (gl : List Nat) (x : Cx) (o : IOp) (c : Env) (t : St) (nx : Nat) : Option (AV × St × Nat) :=
 match o with
 | .ld y => (match cat gl y c with | some (.pointer (some a)) => (match live x t a.block with | some (cs, _, _) => (match cs[a.off]? with | some v => some (.val v, t, nx) | none => none) | none => none) | _ => none)
 | .lds y n => (match cat gl y c with | some (.pointer (some a)) => (match live x t a.block with | some (cs, _, _) => bif Nat.ble (a.off + n) cs.length then some (.val (.agg ⟨(cs.drop a.off).take n⟩), t, nx) else none | none => none) | _ => none)
 | .sl y lo hi esz => (match cat gl y c with
  | some (.slice (some a) n d) => (match cslO gl c 0 lo, cslO gl c n hi, live x t a.block with
   | some l, some h, some (_, _, sz) =>
    (match Nat.ble INF d with
    | true => bif decide (0 ≤ l) && decide (l ≤ h) && decide (h ≤ (d - INF : Nat)) && (decide (l < (d - INF : Nat)) || decide (l = 0)) && (Nat.beq sz esz || decide (l = 0)) then some (.val (.slice (some ⟨a.block, a.off + l.toNat * esz, none⟩) (h.toNat - l.toNat) (INF + (d - INF - l.toNat))), t, nx) else bif decide (0 ≤ l) && decide (l = h) && decide (h ≤ (d - INF : Nat)) then some (.val (.chan none), t, nx) else none
    | false => bif decide (0 ≤ l) && decide (l ≤ h) && decide (h ≤ (d : Nat)) && (Nat.beq sz esz || decide (l = 0) || decide ((d : Int) = l)) then some (.val (.slice (some ⟨a.block, (bif decide ((d : Int) = l) then a.off else a.off + l.toNat * esz), none⟩) (h.toNat - l.toNat) (d - l.toNat)), t, nx) else none)
   | _, _, _ => none)
  | some (.slice none n d) => (match cslO gl c 0 lo, cslO gl c n hi with
   | some l, some h => bif decide (0 ≤ l) && decide (l ≤ h) && decide (h ≤ (d : Nat)) then some (.val (.slice none (h.toNat - l.toNat) (d - l.toNat)), t, nx) else none
   | _, _ => none)
  | _ => none)
 | .sla y n => (match cat gl y c with
  | some (.pointer (some a)) => (match live x t a.block with | some (cs, _, sz) => bif Nat.ble (a.off + n * sz) cs.length && Nat.ble (n + 1) INF then some (.val (.slice (some ⟨a.block, a.off, none⟩) n n), t, nx) else none | none => none)
  | _ => none)
 | .st y v n => (match cat gl y c, cat gl v c with
  | some (.pointer (some a)), some v => bif Nat.beq (cellsL v).length n && oneL (cellsL v) then
   (match live x t a.block with | some (cs, T, sz) => bif x.own t a.block && kok a.block && Nat.ble (a.off + n) cs.length then some (.val undef, t.put a.block (.bl (spliceL cs a.off (cellsL v)) T sz), nx) else none | none => none) else none
  | _, _ => none)
 | .al T zeros => bif newlab x t nx && flatL zeros then some (.val (.pointer (some ⟨nx, 0, none⟩)), t.put nx (.bl zeros T 1), nx + 1) else none
 | .bx T y => (match cat gl y c with | some v => bif newlab x t nx then some (.val (.pointer (some ⟨nx, 0, none⟩)), t.put nx (.bl (cellsL v) T 1), nx + 1) else none | none => none)
 | .bs T len zeros parts => bif newlab x t nx && flatL zeros && Nat.ble (len + 1) INF && Nat.beq (len * (zeros.length / len)) zeros.length then (match cparts gl c parts with | some ps => (match fillL zeros ps with | some cs => some (.val (.slice (some ⟨nx, 0, none⟩) len len), t.put nx (.bl cs T (zeros.length / len)), nx + 1) | none => none) | none => none) else none
 | .mk T bytes zero l d => (match cat gl l c, cat gl d c with
  | some (.int .i64 l), some (.int .i64 d) => bif newlab x t nx && flatL zero && (decide (0 ≤ l) && decide (l ≤ d) && decide (d * bytes ≤ 140737488355328)) && Nat.ble (d.toNat + 1) INF then
   some (.val (.slice (some ⟨nx, 0, none⟩) l.toNat d.toNat), t.put nx (.bl (List.replicate d.toNat zero).flatten T zero.length), nx + 1) else none
  | _, _ => none)
 | .ap T sz bytes zero s y => (match cat gl s c, cat gl y c with
  | some (.slice a len cap), some (.slice b n _) => (match slcells x t b (n * sz) with
   | some new => bif oneL new && Nat.beq sz zero.length && srcok b n then (match a with
    | none => bif Nat.beq len 0 && Nat.beq cap 0 then (match n with
     | 0 => some (.val (.slice none 0 0), t, nx)
     | n' + 1 => bif newlab x t nx && Nat.ble ((n' + 1) * bytes) 35184372088832 then some (.val (.slice (some ⟨nx, 0, none⟩) (n' + 1) (INF + (n' + 1))), t.put nx (.bl new T sz), nx + 1) else none) else none
    | some a => (match live x t a.block, slcells x t (some a) (len * sz) with
     | some (cs, U, sz'), some old => (match Nat.ble INF cap with
      | true => bif Nat.beq a.off 0 && x.own t a.block && Nat.beq sz sz' && newlab x t nx && kok a.block && !(Nat.beq a.block nx) && Nat.ble ((len + n) * bytes) 35184372088832 && Nat.beq U T then
        some (.val (.slice (some ⟨nx, 0, none⟩) (len + n) (INF + (len + n))), (t.put a.block .dead).put nx (.bl (old ++ new) T sz), nx + 1) else none
      | false => (match Nat.ble (len + n) cap with
       | true => bif x.own t a.block && kok a.block && Nat.ble (a.off + len * sz + n * sz) cs.length then some (.val (.slice (some a) (len + n) cap), t.put a.block (.bl (spliceL cs (a.off + len * sz) new) U sz'), nx) else none
       | false => bif newlab x t nx && Nat.ble ((len + n) * bytes) 35184372088832 then some (.val (.slice (some ⟨nx, 0, none⟩) (len + n) (INF + (len + n))), t.put nx (.bl (old ++ new) T sz), nx + 1) else none))
     | _, _ => none)) else none
   | none => none)
  | _, _ => none)
 | .cp sz d y => (match cat gl d c, cat gl y c with
  | some (.slice (some a) len _), some (.slice b n _) => (match slcells x t b (min n len * sz), live x t a.block with
   | some new, some (cs, U, sz') => bif srcok b (min n len) && x.own t a.block && kok a.block && oneL new && Nat.ble (a.off + min n len * sz) cs.length then
     some (.val (.int .i64 (min n len : Nat)), t.put a.block (.bl (spliceL cs a.off new) U sz'), nx) else none
   | _, _ => none)
  | _, _ => none)
 | .clr sz zero y => (match cat gl y c with
  | some (.slice none _ _) => some (.val (.tuple #[]), t, nx)
  | some (.slice (some a) n _) => (match n with
   | 0 => some (.val (.tuple #[]), t, nx)
   | n' + 1 => (match live x t a.block with
    | some (cs, U, sz') => bif x.own t a.block && kok a.block && flatL zero && oneL (List.replicate (n' + 1) zero).flatten && Nat.beq (List.replicate (n' + 1) zero).flatten.length ((n' + 1) * sz) && Nat.ble (a.off + (n' + 1) * sz) cs.length then
      some (.val (.tuple #[]), t.put a.block (.bl (spliceL cs a.off (List.replicate (n' + 1) zero).flatten) U sz'), nx) else none
    | none => none))
  | _ => none)
 | .mp o args => (match cats gl c args with | some vs => (match mpE x t nx o vs with | some (v, t', nx') => some (.val v, t', nx') | none => none) | none => none)
 | _ => none

theorem slcells_ok (h : Inv P gl μ G x t m) {a : Option Addr} {n : Nat} {us : List Value} (hs : slcells x t a n = some us) :
  us.length = n ∧ (match a with
   | none => n = 0
   | some a => ∀ b s L, G a.block = some (b, s, L) → ∃ vs, RVL G us vs ∧ vs.length = n ∧ CellsAt m ⟨b, a.off, none⟩ vs) := by
 cases a with
 | none =>
  simp only [slcells] at hs
  cases hb : Nat.beq n 0 with
  | false => rw [hb] at hs; cases hs
  | true => rw [hb] at hs; cases hs; exact ⟨(beq_ff hb).symm, beq_ff hb⟩
 | some a =>
  simp only [slcells] at hs
  split at hs <;> try (cases hs; done)
  rename_i cs T sz hl
  cases hb : Nat.ble (a.off + n) cs.length with
  | false => rw [hb] at hs; cases hs
  | true =>
   rw [hb] at hs; cases hs
   have hle := Nat.le_of_ble_eq_true hb
   refine ⟨by simp; omega, fun b s L hG => ?_⟩
   obtain ⟨b', L', l, fr, h1, h2, h3, h4, l1, rest, h5, h6⟩ := h.blk _ _ _ _ (live_get hl)
   rw [hG] at h1; cases h1
   obtain ⟨q1, q2, q3⟩ := cells_list h2 h5 h6 hle
   exact ⟨_, q1, q2, q3⟩
theorem RV.sl' {k b sz L n d d' off : Nat} (h : G k = some (b, sz, L)) (hc : capR d d') (hb : off + d' * sz ≤ L) : RV G (.slice (some ⟨k, off, none⟩) n d) (.slice (some ⟨b, off, none⟩) n d') := by
 unfold RV; exact ⟨b, sz, L, d', h, rfl, hc, hb, rfl⟩
theorem RV.slA {a : Addr} {b sz L n d d' : Nat} (h : G a.block = some (b, sz, L)) (hs : a.spot = none) (hc : capR d d') (hb : a.off + d' * sz ≤ L) : RV G (.slice (some a) n d) (.slice (some ⟨b, a.off, none⟩) n d') := by
 unfold RV; exact ⟨b, sz, L, d', h, hs, hc, hb, rfl⟩
theorem capR_exact {d d' : Nat} (h : Nat.ble INF d = false) (k : capR d d') : d' = d := by unfold capR at k; rw [h] at k; exact k
theorem capR_low {d d' : Nat} (h : Nat.ble INF d = true) (k : capR d d') : d - INF ≤ d' := by unfold capR at k; rw [h] at k; exact k
theorem capR_self {d : Nat} (h : Nat.ble (d + 1) INF = true) : capR d d := by
 unfold capR
 have : Nat.ble INF d = false := by
  cases hb : Nat.ble INF d with
  | false => rfl
  | true => have := Nat.le_of_ble_eq_true hb; have := Nat.le_of_ble_eq_true h; omega
 rw [this]
theorem capR_up {d d' : Nat} (h : d ≤ d') : capR (INF + d) d' := by
 unfold capR
 have : Nat.ble INF (INF + d) = true := Nat.ble_eq_true_of_le (by omega)
 rw [this]; show INF + d - INF ≤ d'; omega
theorem rep_len (n : Nat) (z : List Value) : (List.replicate n z).flatten.length = n * z.length := by simp
theorem rep_rel (n : Nat) {z : List Value} (h : flatL z = true) : RVL G (List.replicate n z).flatten (List.replicate n z).flatten := by
 induction n with
 | zero => exact RVL.nil'
 | succ n ih => rw [List.replicate_succ, List.flatten_cons]; exact RVL.app (flatL_self z h) ih
end Go.Vx.Ev
