import Derived.Test.YtleofbpepfmfgaaGreatDoorVxEvH
set_option linter.unusedSimpArgs false
set_option linter.unusedVariables false
namespace Go.Vx.Ev
open Go Go.Vx
variable {gl : List Nat} {μ : Mem} {G : Ghost} {x : Cx} {t : St} {m : Mem} {c e : Env} {P : Program}

abbrev TE := Tr AV
def ev (tr : TE) : Env := fun k => tr.get k
def okd (d : Option Nat) : Bool := match d with | some d => kok d | none => true
def mapT (f : Option AV → Option AV) : TE → TE
 | .lf => .lf
 | .nd l v r => .nd (mapT f l) (f v) (mapT f r)
theorem mapT_get {f : Option AV → Option AV} (hf : f none = none) : ∀ (tr : TE) (k : Nat), (mapT f tr).get k = f (tr.get k)
 | .lf, k => by simp only [mapT, Tr.get_lf, hf]
 | .nd l v r, k => by
  simp only [mapT, Tr.get]
  cases Nat.beq k 0 with
  | true => rfl
  | false =>
   cases Nat.beq (k % 2) 1 with
   | true => exact mapT_get hf l _
   | false => exact mapT_get hf r _
def tput (tr : TE) (d : Option Nat) (u : AV) : TE :=
 match d with
 | none => tr
 | some t => (match u with | .fresh cs => Tr.set (.var cs) 40 (mapT (dropR t) tr) t | u => Tr.set u 40 tr t)
theorem tset_ev {u : AV} {tr : TE} {d : Nat} (h : kok d = true) (k : Nat) : (Tr.set u 40 tr d).get k = if k = d then some u else tr.get k := by
 by_cases e : k = d
 ·subst e; rw [if_pos rfl, Tr.get_set_eq _ _ _ _ (kok_lt h)]
 ·rw [if_neg e, Tr.get_set_ne _ _ _ _ _ e]
theorem beq_if {α : Type} {k d : Nat} {a b : α} : (bif Nat.beq k d then a else b) = if k = d then a else b := by
 by_cases e : k = d
 ·subst e; rw [if_pos rfl, Nat.beq_refl]; rfl
 ·rw [if_neg e]
  cases hb : Nat.beq k d with
  | true => exact absurd (Nat.eq_of_beq_eq_true hb) e
  | false => rfl
theorem tput_ev {tr : TE} {d : Option Nat} {u : AV} (h : okd d = true) : ev (tput tr d u) = (ev tr).put d u := by
 cases d with
 | none => rfl
 | some d =>
  funext k
  cases u with
  | fresh cs =>
   show (Tr.set (.var cs) 40 (mapT (dropR d) tr) d).get k = bif Nat.beq k d then some (.var cs) else dropR d (tr.get k)
   rw [tset_ev h, beq_if, mapT_get rfl]
  | val v => show (Tr.set _ 40 tr d).get k = bif Nat.beq k d then _ else _; rw [tset_ev h, beq_if]; rfl
  | var v => show (Tr.set _ 40 tr d).get k = bif Nat.beq k d then _ else _; rw [tset_ev h, beq_if]; rfl
  | ref a b => show (Tr.set _ 40 tr d).get k = bif Nat.beq k d then _ else _; rw [tset_ev h, beq_if]; rfl
  | refi a b z => show (Tr.set _ 40 tr d).get k = bif Nat.beq k d then _ else _; rw [tset_ev h, beq_if]; rfl
def mapM (ms : List (Nat × Nat)) (f g : Option AV → Option AV) (a b : Nat) : TE → TE
 | .nd l v r => .nd (mapM ms f g (a + b) (2 * b) l) (match inM a ms with | true => g v | false => f v) (mapM ms f g (a + 2 * b) (2 * b) r)
 | .lf => .lf
def mergeM (ms : List (Nat × Nat)) (f : Option AV → Option AV) (a b : Nat) : TE → TE → TE
 | .nd l v r, q => (match q with
  | .nd l' v' r' => .nd (mergeM ms f (a + b) (2 * b) l l') (match inM a ms with | true => v' | false => f v) (mergeM ms f (a + 2 * b) (2 * b) r r')
  | .lf => mapM ms f (fun _ => none) a b (.nd l v r))
 | .lf, q => mapM ms (fun _ => none) (fun v => v) a b q
theorem idx_odd {k : Nat} (h0 : Nat.beq k 0 = false) (h : Nat.beq (k % 2) 1 = true) : k = 2 * (k / 2) + 1 := by
 have := Nat.eq_of_beq_eq_true h; omega
theorem idx_even {k : Nat} (h0 : Nat.beq k 0 = false) (h : Nat.beq (k % 2) 1 = false) : k = 2 * (k / 2 - 1) + 2 := by
 have h1 : k ≠ 0 := fun e => by subst e; simp at h0
 have h2 : k % 2 ≠ 1 := fun e => by rw [e] at h; simp at h
 omega
theorem idx_l {k a b : Nat} (h0 : Nat.beq k 0 = false) (h1 : Nat.beq (k % 2) 1 = true) : a + b + 2 * b * (k / 2) = a + b * k := by
 have hk := idx_odd h0 h1
 generalize hz : k / 2 = z at hk ⊢
 subst hk
 rw [Nat.mul_add, Nat.mul_one, ← Nat.mul_assoc, Nat.mul_comm b 2]; omega
theorem idx_r {k a b : Nat} (h0 : Nat.beq k 0 = false) (h1 : Nat.beq (k % 2) 1 = false) : a + 2 * b + 2 * b * (k / 2 - 1) = a + b * k := by
 have hk := idx_even h0 h1
 generalize hz : k / 2 - 1 = z at hk ⊢
 subst hk
 rw [Nat.mul_add, ← Nat.mul_assoc, Nat.mul_comm b 2]; omega
theorem mapM_get {ms : List (Nat × Nat)} {f g : Option AV → Option AV} (hf : f none = none) (hg : g none = none) : ∀ (q : TE) (a b k : Nat), (mapM ms f g a b q).get k = bif inM (a + b * k) ms then g (q.get k) else f (q.get k) := by
 intro q
 induction q with
 | lf => intro a b k; simp only [mapM, Tr.get_lf, hf, hg]; cases inM (a + b * k) ms <;> rfl
 | nd l v r ihl ihr =>
  intro a b k
  simp only [mapM, Tr.get]
  cases h0 : Nat.beq k 0 with
  | true =>
   have : k = 0 := Nat.eq_of_beq_eq_true h0
   subst this
   rw [Nat.mul_zero, Nat.add_zero]; cases inM a ms <;> rfl
  | false =>
   cases h1 : Nat.beq (k % 2) 1 with
   | true => simp only [cond_false, cond_true]; rw [ihl, idx_l h0 h1]
   | false => simp only [cond_false]; rw [ihr, idx_r h0 h1]
theorem mergeM_get {ms : List (Nat × Nat)} {f : Option AV → Option AV} (hf : f none = none) : ∀ (p q : TE) (a b k : Nat), (mergeM ms f a b p q).get k = bif inM (a + b * k) ms then q.get k else f (p.get k) := by
 intro p
 induction p with
 | lf =>
  intro q a b k
  simp only [mergeM]
  rw [mapM_get rfl rfl, Tr.get_lf, hf]
 | nd l v r ihl ihr =>
  intro q a b k
  cases q with
  | lf =>
   simp only [mergeM]
   rw [mapM_get hf rfl, Tr.get_lf]
  | nd l' v' r' =>
   simp only [mergeM, Tr.get]
   cases h0 : Nat.beq k 0 with
   | true =>
    have : k = 0 := Nat.eq_of_beq_eq_true h0
    subst this
    rw [Nat.mul_zero, Nat.add_zero]; cases inM a ms <;> rfl
   | false =>
    cases h1 : Nat.beq (k % 2) 1 with
    | true => simp only [cond_false, cond_true]; rw [ihl, idx_l h0 h1]
    | false => simp only [cond_false]; rw [ihr, idx_r h0 h1]
def clrT (ms : List (Nat × Nat)) (tr : TE) : TE := mergeM ms (keepR ms) 0 1 tr .lf
theorem clrT_ev (ms : List (Nat × Nat)) (tr : TE) : ev (clrT ms tr) = clearM (ev tr) ms := by
 funext k
 show (mergeM ms (keepR ms) 0 1 tr .lf).get k = _
 rw [mergeM_get rfl, Nat.zero_add, Nat.one_mul, Tr.get_lf]; rfl
theorem findL_collectR {c : Env} {j : Nat} : ∀ (n t : Nat) (acc : List (Nat × AV)), findL j (collectR c n t acc) = if t ≤ j ∧ j < t + n ∧ (c j).isSome then c j else findL j acc
 | 0, t, acc => by simp only [collectR]; rw [if_neg (by omega)]
 | n + 1, t, acc => by
  simp only [collectR]
  cases h : c t with
  | none =>
   simp only
   rw [findL_collectR n]
   by_cases e : t = j
   ·subst e; rw [if_neg (by omega), if_neg (by rw [h]; simp)]
   ·by_cases g : t + 1 ≤ j ∧ j < t + 1 + n ∧ (c j).isSome
    ·rw [if_pos g, if_pos ⟨by omega, by omega, g.2.2⟩]
    ·rw [if_neg g, if_neg fun hh => g ⟨by omega, by omega, hh.2.2⟩]
  | some u =>
   simp only
   rw [findL_collectR n]
   by_cases e : t = j
   ·subst e
    rw [if_neg (by omega), if_pos ⟨by omega, by omega, by rw [h]; rfl⟩]
    simp only [findL, Nat.beq_refl, cond_true, h]
   ·by_cases g : t + 1 ≤ j ∧ j < t + 1 + n ∧ (c j).isSome
    ·rw [if_pos g, if_pos ⟨by omega, by omega, g.2.2⟩]
    ·rw [if_neg g, if_neg fun hh => g ⟨by omega, by omega, hh.2.2⟩]
     have : Nat.beq j t = false := by
      cases hb : Nat.beq j t with
      | true => exact absurd (Nat.eq_of_beq_eq_true hb) (Ne.symm e)
      | false => rfl
     simp only [findL, this, cond_false]
theorem findL_collect {c : Env} {j : Nat} : ∀ (ms : List (Nat × Nat)) (acc : List (Nat × AV)), findL j (collect c ms acc) = if inM j ms = true ∧ (c j).isSome then c j else findL j acc
 | [], acc => by
  show findL j acc = _
  rw [if_neg (by rintro ⟨h, _⟩; cases h)]
 | (lo, hi) :: ms, acc => by
  show findL j (collect c ms (collectR c (hi + 1 - lo) lo acc)) = _
  rw [findL_collect ms, findL_collectR]
  have hle : (Nat.ble lo j && Nat.ble j hi) = true ↔ lo ≤ j ∧ j < lo + (hi + 1 - lo) := by
   rw [Bool.and_eq_true]
   constructor
   ·rintro ⟨h1, h2⟩; have := Nat.le_of_ble_eq_true h1; have := Nat.le_of_ble_eq_true h2; omega
   ·rintro ⟨h1, h2⟩; exact ⟨Nat.ble_eq_true_of_le h1, Nat.ble_eq_true_of_le (by omega)⟩
  by_cases a : inM j ms = true ∧ (c j).isSome
  ·rw [if_pos a, if_pos ⟨by simp [inM, a.1], a.2⟩]
  ·rw [if_neg a]
   by_cases b : lo ≤ j ∧ j < lo + (hi + 1 - lo) ∧ (c j).isSome
   ·rw [if_pos b, if_pos ⟨by simp only [inM, Bool.or_eq_true]; exact .inl (hle.2 ⟨b.1, b.2.1⟩), b.2.2⟩]
   ·rw [if_neg b, if_neg]
    rintro ⟨h1, h2⟩
    simp only [inM, Bool.or_eq_true] at h1
    rcases h1 with h1 | h1
    ·exact b ⟨(hle.1 h1).1, (hle.1 h1).2, h2⟩
    ·exact a ⟨h1, h2⟩
def headT (ms : List (Nat × Nat)) (tr0 tr : TE) : TE := mergeM ms (keepR ms) 0 1 tr0 tr
theorem headT_ev (ms : List (Nat × Nat)) (tr0 tr : TE) : ev (headT ms tr0 tr) = over (ev tr0) ms (collect (ev tr) ms []) := by
 funext k
 show (mergeM ms (keepR ms) 0 1 tr0 tr).get k = bif inM k ms then findL k (collect (ev tr) ms []) else keepR ms (tr0.get k)
 rw [mergeM_get rfl, Nat.zero_add, Nat.one_mul]
 cases hm : inM k ms with
 | false => rfl
 | true =>
  simp only [cond_true]
  rw [findL_collect]
  by_cases hc : (ev tr k).isSome
  ·rw [if_pos ⟨hm, hc⟩]; rfl
  ·rw [if_neg (by simp [hc])]
   show tr.get k = none
   cases hh : tr.get k with
   | none => rfl
   | some u => exact absurd (show (ev tr k).isSome = true by unfold ev; rw [hh]; rfl) hc
end Go.Vx.Ev
set_option linter.unusedSimpArgs false
set_option linter.unusedVariables false
namespace Go.Vx.Ev
open Go Go.Vx
variable {gl : List Nat} {μ : Mem} {G : Ghost} {x : Cx} {t : St} {m : Mem} {c e : Env} {P : Program}

def pv_mv (gl : List Nat) (c : Env) (x : Opd) : Option AV :=
 (match cat gl x c with | some v => some (.val v) | none => none)
def pv_pick (gl : List Nat) (c : Env) (b : Opd) (x : Opd) (y : Opd) : Option AV :=
 (match cat gl b c, cat gl x c, cat gl y c with | some (.bool b), some x, some y => some (.val (match b with | true => x | false => y)) | _, _, _ => none)
def pv_bin (gl : List Nat) (c : Env) (op : BinOp) (x : Opd) (y : Opd) : Option AV :=
 (match cat gl x c, cat gl y c with
  | some (.int k n), some (.int k' l) => bif kbeq k k' then (match binInt op k n l with | some v => some (.val v) | none => none) else none
  | _, _ => none)
def pv_binN (gl : List Nat) (c : Env) (op : BinOp) (x : Opd) (y : Opd) : Option AV :=
 (match cat gl x c, cat gl y c with
  | some (.int k n), some (.int k' l) => bif kbeq k k' then (match binIntN op n l with | some z => bif eqD (k.wrap z) z then some (.val (.int k z)) else none | none => none) else none
  | _, _ => none)
def pv_div (gl : List Nat) (c : Env) (op : BinOp) (x : Opd) (y : Opd) : Option AV :=
 (match cat gl x c, cat gl y c with
  | some (.int k n), some (.int k' l) => bif kbeq k k' && !(eqD l 0) then (match op with | .quo => some (.val (.int k (k.wrap (n.tdiv l)))) | .rem => some (.val (.int k (n.tmod l))) | _ => none) else none
  | _, _ => none)
def pv_shf (gl : List Nat) (c : Env) (op : BinOp) (x : Opd) (y : Opd) : Option AV :=
 (match cat gl x c, cat gl y c with
  | some (.int k n), some (.int _ l) => bif decide (0 ≤ l) && decide (l < 64) then (match op with | .shl => some (.val (.int k (k.wrap (n * 2 ^ min l.toNat k.bits)))) | .shr => some (.val (.int k (n.fdiv (2 ^ min l.toNat k.bits)))) | _ => none) else none
  | _, _ => none)
def pv_eq (gl : List Nat) (c : Env) (k : EK) (neg : Bool) (x : Opd) (y : Opd) : Option AV :=
 (match cat gl x c, cat gl y c with
  | some a, some b => (match eqV k a b with | some r => some (.val (.bool (match neg with | true => !r | false => r))) | none => none)
  | _, _ => none)
def pv_eqA (gl : List Nat) (c : Env) (neg : Bool) (n : Nat) (x : Opd) (y : Opd) : Option AV :=
 (match cat gl x c, cat gl y c with
  | some (.agg ⟨a⟩), some (.agg ⟨b⟩) => bif Nat.beq a.length n then (match eqCells a b with | some r => some (.val (.bool (match neg with | true => !r | false => r))) | none => none) else none
  | _, _ => none)
def pv_un (gl : List Nat) (c : Env) (op : UnOp) (x : Opd) : Option AV :=
 (match op, cat gl x c with
  | .not, some (.bool b) => some (.val (.bool (!b)))
  | .neg, some (.int k n) => some (.val (.int k (k.wrap (0 - n))))
  | .xor, some (.int k n) => some (.val (.int k (k.wrap (BitVec.ofInt k.bits (if k.signed then -1 else k.max) ^^^ BitVec.ofInt k.bits n).toNat)))
  | _, _ => none)
def pv_cv (gl : List Nat) (c : Env) (k : IntKind) (x : Opd) : Option AV :=
 (match cat gl x c with | some (.int _ n) => some (.val (.int k (k.wrap n))) | _ => none)
def pv_cvN (gl : List Nat) (c : Env) (k : IntKind) (x : Opd) : Option AV :=
 (match cat gl x c with | some (.int _ n) => bif eqD (k.wrap n) n then some (.val (.int k n)) else none | _ => none)
def pv_len (gl : List Nat) (c : Env) (x : Opd) : Option AV :=
 (match cat gl x c with | some (.slice _ n _) => some (.val (.int .i64 n)) | some (.chan _) => some (.val (.int .i64 0)) | _ => none)
def pv_mm (gl : List Nat) (c : Env) (mx : Bool) (xs : List Opd) : Option AV :=
 (match cats gl c xs with | some (.int k x :: vs) => (match minmax mx k x vs with | some v => some (.val v) | none => none) | _ => none)
def pv_fld (gl : List Nat) (c : Env) (off : Nat) (n : Nat) (agg : Bool) (x : Opd) : Option AV :=
 (match cat gl x c with
  | some (.agg ⟨cs⟩) => (match agg with | true => some (.val (.agg ⟨(cs.drop off).take n⟩)) | false => (match cs.drop off with | v :: _ => some (.val v) | [] => none))
  | _ => none)
def pv_idx (gl : List Nat) (c : Env) (esz : Nat) (len : Nat) (x : Opd) (i : Opd) : Option AV :=
 (match cat gl x c, cat gl i c with
  | some (.agg ⟨cs⟩), some (.int _ i) => bif Nat.beq esz 1 && (decide (0 ≤ i) && decide (i < len)) then (match cs[0 + i.toNat]? with | some v => some (.val v) | none => none) else none
  | _, _ => none)
def pv_ext (gl : List Nat) (c : Env) (x : Opd) (i : Nat) : Option AV :=
 (match cat gl x c with | some (.tuple ⟨vs⟩) => (match vs.drop i with | v :: _ => some (.val v) | [] => none) | _ => none)
def pv_bd (gl : List Nat) (c : Env) (zeros : List Value) (parts : List (Nat × Nat × Opd)) : Option AV :=
 bif flatL zeros then (match cparts gl c parts with | some ps => (match fillL zeros ps with | some cs => some (.val (.agg ⟨cs⟩)) | none => none) | none => none) else none
def pv_fa (gl : List Nat) (c : Env) (x : Opd) (off : Nat) : Option AV :=
 (match x with
  | .t k => (match c k with
   | some (.val (.pointer (some a))) => some (.val (.pointer (some ⟨a.block, a.off + off, none⟩)))
   | some (.var _) => some (.ref k off)
   | _ => none)
  | .c v => (match cat gl (.c v) c with | some (.pointer (some a)) => some (.val (.pointer (some ⟨a.block, a.off + off, none⟩))) | _ => none))
def pv_fr (gl : List Nat) (c : Env) (k : Nat) (x : Nat) (off : Nat) : Option AV :=
 (match c k, c x with
  | some (.var _), some (.ref j o) => bif Nat.beq j k then some (.ref k (o + off)) else none
  | _, _ => none)
def pv_ia (gl : List Nat) (c : Env) (x : Opd) (i : Opd) (esz : Nat) : Option AV :=
 (match cat gl x c, cat gl i c with | some (.slice (some a) len _), some (.int _ i) => bif decide (0 ≤ i) && decide (i < len) then some (.val (.pointer (some ⟨a.block, a.off + i.toNat * esz, none⟩))) else none | _, _ => none)
def pv_iap (gl : List Nat) (c : Env) (x : Opd) (i : Opd) (esz : Nat) (len : Nat) : Option AV :=
 (match x with
  | .t k => (match c k, cat gl i c with
   | some (.val (.pointer (some a))), some (.int _ i) => bif decide (0 ≤ i) && decide (i < len) then some (.val (.pointer (some ⟨a.block, a.off + i.toNat * esz, none⟩))) else none
   | some (.var _), some (.int _ i) => bif Nat.beq esz 1 && (decide (0 ≤ i) && decide (i < len)) then some (.refi k 0 i) else none
   | _, _ => none)
  | .c v => (match cat gl (.c v) c, cat gl i c with
   | some (.pointer (some a)), some (.int _ i) => bif decide (0 ≤ i) && decide (i < len) then some (.val (.pointer (some ⟨a.block, a.off + i.toNat * esz, none⟩))) else none
   | _, _ => none))
def pv_ir (gl : List Nat) (c : Env) (k : Nat) (x : Nat) (i : Opd) (len : Nat) : Option AV :=
 (match c k, c x, cat gl i c with
  | some (.var _), some (.ref j o), some (.int _ i) => bif Nat.beq j k && (decide (0 ≤ i) && decide (i < len)) then some (.refi k o i) else none
  | _, _, _ => none)
def pv_nc (gl : List Nat) (c : Env) (x : Opd) : Option AV :=
 (match cat gl x c with | some (.pointer (some a)) => some (.val (.pointer (some a))) | some (.func (.func f) ⟨a⟩ ⟨b⟩) => some (.val (.func (.func f) ⟨a⟩ ⟨b⟩)) | some (.func (.yield f) ⟨a⟩ ⟨b⟩) => some (.val (.func (.yield f) ⟨a⟩ ⟨b⟩)) | _ => none)
def pv_va (gl : List Nat) (c : Env) (zeros : List Value) : Option AV :=
 bif flatL zeros then some (.fresh zeros) else none
def pv_vb (gl : List Nat) (c : Env) (x : Opd) : Option AV :=
 (match cat gl x c with | some v => some (.fresh (cellsL v)) | none => none)
def pv_vld (gl : List Nat) (c : Env) (k : Nat) (x : Nat) : Option AV :=
 (match c k with
  | some (.var cs) => (match c x with
   | some (.var _) => bif Nat.beq x k then (match cs with | v :: _ => some (.val v) | [] => none) else none
   | some (.ref j off) => bif Nat.beq j k then (match cs.drop off with | v :: _ => some (.val v) | [] => none) else none
   | some (.refi j off i) => bif Nat.beq j k then (match cs[off + i.toNat]? with | some v => some (.val v) | none => none) else none
   | _ => none)
  | _ => none)
def pv_vlds (gl : List Nat) (c : Env) (k : Nat) (x : Nat) (n : Nat) : Option AV :=
 (match c k with
  | some (.var cs) => (match c x with
   | some (.var _) => bif Nat.beq x k && Nat.ble n cs.length then some (.val (.agg ⟨cs.take n⟩)) else none
   | some (.ref j off) => bif Nat.beq j k && Nat.ble (off + n) cs.length then some (.val (.agg ⟨(cs.drop off).take n⟩)) else none
   | _ => none)
  | _ => none)
def pv_vst (gl : List Nat) (c : Env) (k : Nat) (x : Nat) (v : Opd) (n : Nat) : Option AV :=
 (match c k, cat gl v c with
  | some (.var cs), some v => bif Nat.beq (cellsL v).length n && oneL (cellsL v) then (match c x with
   | some (.var _) => bif Nat.beq x k && Nat.ble n cs.length then some (.var (spliceL cs 0 (cellsL v))) else none
   | some (.ref j off) => bif Nat.beq j k && Nat.ble (off + n) cs.length then some (.var (spliceL cs off (cellsL v))) else none
   | some (.refi j off i) => bif Nat.beq j k && Nat.beq n 1 && (decide (0 ≤ (off + i.toNat : Int)) && decide ((off + i.toNat : Int) < cs.length)) then some (.var (spliceL cs (off + i.toNat) (cellsL v))) else none
   | _ => none) else none
  | _, _ => none)
def pv_sx (gl : List Nat) (c : Env) (x : Opd) (i : Opd) : Option AV :=
 (match cat gl x c, cat gl i c with | some (.string s), some (.int _ i) => bif decide (0 ≤ i) then (match s[i.toNat]? with | some b => some (.val (.int .u8 b.toNat)) | none => none) else none | _, _ => none)
def pv_mf (gl : List Nat) (c : Env) (fn : Nat) (first : List Opd) (caps : List Opd) : Option AV :=
 (match cats gl c first, cats gl c caps with | some us, some vs => some (.val (.func (.func fn) ⟨us⟩ ⟨vs⟩)) | _, _ => none)
def pv_mi (gl : List Nat) (c : Env) (T : TypeId) (x : Opd) : Option AV :=
 (match cat gl x c with | some v => some (.val (.iface T v)) | none => none)
def mo_ld (gl : List Nat) (x : Cx) (c : Env) (t : St) (nx : Nat) (y : Opd) : Option (AV × St × Nat) :=
 (match cat gl y c with | some (.pointer (some a)) => (match live x t a.block with | some (cs, _, _) => (match cs[a.off]? with | some v => some (.val v, t, nx) | none => none) | none => none) | _ => none)
def mo_lds (gl : List Nat) (x : Cx) (c : Env) (t : St) (nx : Nat) (y : Opd) (n : Nat) : Option (AV × St × Nat) :=
 (match cat gl y c with | some (.pointer (some a)) => (match live x t a.block with | some (cs, _, _) => bif Nat.ble (a.off + n) cs.length then some (.val (.agg ⟨(cs.drop a.off).take n⟩), t, nx) else none | none => none) | _ => none)
def mo_sl (gl : List Nat) (x : Cx) (c : Env) (t : St) (nx : Nat) (y : Opd) (lo : Option Opd) (hi : Option Opd) (esz : Nat) : Option (AV × St × Nat) :=
 (match cat gl y c with
  | some (.slice (some a) n d) => (match cslO gl c 0 lo, cslO gl c n hi, live x t a.block with
   | some l, some h, some (_, _, sz) =>
    (match Nat.ble INF d with
    | true => bif decide (0 ≤ l) && decide (l ≤ h) && decide (h ≤ (d - INF : Nat)) && (decide (l < (d - INF : Nat)) || decide (l = 0)) && (Nat.beq sz esz || decide (l = 0)) then some (.val (.slice (some ⟨a.block, a.off + l.toNat * esz, none⟩) (h.toNat - l.toNat) (INF + (d - INF - l.toNat))), t, nx) else bif decide (0 ≤ l) && decide (l = h) && decide (h ≤ (d - INF : Nat)) then some (.val (.chan none), t, nx) else none
    | false => bif decide (0 ≤ l) && decide (l ≤ h) && decide (h ≤ (d : Nat)) && (Nat.beq sz esz || decide (l = 0) || decide ((d : Int) = l)) then some (.val (.slice (some ⟨a.block, (bif decide ((d : Int) = l) then a.off else a.off + l.toNat * esz), none⟩) (h.toNat - l.toNat) (d - l.toNat)), t, nx) else none)
   | _, _, _ => none)
  | some (.slice none n d) => (match cslO gl c 0 lo, cslO gl c n hi with
   | some l, some h => bif decide (0 ≤ l) && decide (l ≤ h) && decide (h ≤ (d : Nat)) then some (.val (.slice none (h.toNat - l.toNat) (d - l.toNat)), t, nx) else none
   | _, _ => none)
  | _ => none)
def mo_sla (gl : List Nat) (x : Cx) (c : Env) (t : St) (nx : Nat) (y : Opd) (n : Nat) : Option (AV × St × Nat) :=
 (match cat gl y c with
  | some (.pointer (some a)) => (match live x t a.block with | some (cs, _, sz) => bif Nat.ble (a.off + n * sz) cs.length && Nat.ble (n + 1) INF then some (.val (.slice (some ⟨a.block, a.off, none⟩) n n), t, nx) else none | none => none)
  | _ => none)
def mo_st (gl : List Nat) (x : Cx) (c : Env) (t : St) (nx : Nat) (y : Opd) (v : Opd) (n : Nat) : Option (AV × St × Nat) :=
 (match cat gl y c, cat gl v c with
  | some (.pointer (some a)), some v => bif Nat.beq (cellsL v).length n && oneL (cellsL v) then
   (match live x t a.block with | some (cs, T, sz) => bif x.own t a.block && kok a.block && Nat.ble (a.off + n) cs.length then some (.val undef, t.put a.block (.bl (spliceL cs a.off (cellsL v)) T sz), nx) else none | none => none) else none
  | _, _ => none)
def mo_al (gl : List Nat) (x : Cx) (c : Env) (t : St) (nx : Nat) (T : TypeId) (zeros : List Value) : Option (AV × St × Nat) :=
 bif newlab x t nx && flatL zeros then some (.val (.pointer (some ⟨nx, 0, none⟩)), t.put nx (.bl zeros T 1), nx + 1) else none
def mo_bx (gl : List Nat) (x : Cx) (c : Env) (t : St) (nx : Nat) (T : TypeId) (y : Opd) : Option (AV × St × Nat) :=
 (match cat gl y c with | some v => bif newlab x t nx then some (.val (.pointer (some ⟨nx, 0, none⟩)), t.put nx (.bl (cellsL v) T 1), nx + 1) else none | none => none)
def mo_bs (gl : List Nat) (x : Cx) (c : Env) (t : St) (nx : Nat) (T : TypeId) (len : Nat) (zeros : List Value) (parts : List (Nat × Nat × Opd)) : Option (AV × St × Nat) :=
 bif newlab x t nx && flatL zeros && Nat.ble (len + 1) INF && Nat.beq (len * (zeros.length / len)) zeros.length then (match cparts gl c parts with | some ps => (match fillL zeros ps with | some cs => some (.val (.slice (some ⟨nx, 0, none⟩) len len), t.put nx (.bl cs T (zeros.length / len)), nx + 1) | none => none) | none => none) else none
def mo_mk (gl : List Nat) (x : Cx) (c : Env) (t : St) (nx : Nat) (T : Nat) (bytes : Nat) (zero : List Value) (l : Opd) (d : Opd) : Option (AV × St × Nat) :=
 (match cat gl l c, cat gl d c with
  | some (.int .i64 l), some (.int .i64 d) => bif newlab x t nx && flatL zero && (decide (0 ≤ l) && decide (l ≤ d) && decide (d * bytes ≤ 140737488355328)) && Nat.ble (d.toNat + 1) INF then
   some (.val (.slice (some ⟨nx, 0, none⟩) l.toNat d.toNat), t.put nx (.bl (List.replicate d.toNat zero).flatten T zero.length), nx + 1) else none
  | _, _ => none)
def mo_ap (gl : List Nat) (x : Cx) (c : Env) (t : St) (nx : Nat) (T : Nat) (sz : Nat) (bytes : Nat) (zero : List Value) (s : Opd) (y : Opd) : Option (AV × St × Nat) :=
 (match cat gl s c, cat gl y c with
  | some (.slice a len cap), some (.slice b n _) => (match slcells x t b (n * sz) with
   | some new => bif oneL new && Nat.beq sz zero.length && srcok b n then (match a with
    | none => bif Nat.beq len 0 && Nat.beq cap 0 then (match n with
     | 0 => some (.val (.slice none 0 0), t, nx)
     | n' + 1 => bif newlab x t nx && Nat.ble ((n' + 1) * bytes) 35184372088832 then some (.val (.slice (some ⟨nx, 0, none⟩) (n' + 1) (INF + (n' + 1))), t.put nx (.bl new T sz), nx + 1) else none) else none
    | some a => (match live x t a.block, slcells x t (some a) (len * sz) with
     | some (cs, U, sz'), some old => (match Nat.ble INF cap with
      | true => bif Nat.beq a.off 0 && x.own t a.block && Nat.beq sz sz' && newlab x t nx && kok a.block && !(Nat.beq a.block nx) && Nat.ble ((len + n) * bytes) 35184372088832 && Nat.beq U T then
        some (.val (.slice (some ⟨nx, 0, none⟩) (len + n) (INF + (len + n))), (t.put a.block .dead).put nx (.bl (old ++ new) T sz), nx + 1) else none
      | false => (match Nat.ble (len + n) cap with
       | true => bif x.own t a.block && kok a.block && Nat.ble (a.off + len * sz + n * sz) cs.length then some (.val (.slice (some a) (len + n) cap), t.put a.block (.bl (spliceL cs (a.off + len * sz) new) U sz'), nx) else none
       | false => bif newlab x t nx && Nat.ble ((len + n) * bytes) 35184372088832 then some (.val (.slice (some ⟨nx, 0, none⟩) (len + n) (INF + (len + n))), t.put nx (.bl (old ++ new) T sz), nx + 1) else none))
     | _, _ => none)) else none
   | none => none)
  | _, _ => none)
def mo_cp (gl : List Nat) (x : Cx) (c : Env) (t : St) (nx : Nat) (sz : Nat) (d : Opd) (y : Opd) : Option (AV × St × Nat) :=
 (match cat gl d c, cat gl y c with
  | some (.slice (some a) len _), some (.slice b n _) => (match slcells x t b (min n len * sz), live x t a.block with
   | some new, some (cs, U, sz') => bif srcok b (min n len) && x.own t a.block && kok a.block && oneL new && Nat.ble (a.off + min n len * sz) cs.length then
     some (.val (.int .i64 (min n len : Nat)), t.put a.block (.bl (spliceL cs a.off new) U sz'), nx) else none
   | _, _ => none)
  | _, _ => none)
def mo_clr (gl : List Nat) (x : Cx) (c : Env) (t : St) (nx : Nat) (sz : Nat) (zero : List Value) (y : Opd) : Option (AV × St × Nat) :=
 (match cat gl y c with
  | some (.slice none _ _) => some (.val (.tuple #[]), t, nx)
  | some (.slice (some a) n _) => (match n with
   | 0 => some (.val (.tuple #[]), t, nx)
   | n' + 1 => (match live x t a.block with
    | some (cs, U, sz') => bif x.own t a.block && kok a.block && flatL zero && oneL (List.replicate (n' + 1) zero).flatten && Nat.beq (List.replicate (n' + 1) zero).flatten.length ((n' + 1) * sz) && Nat.ble (a.off + (n' + 1) * sz) cs.length then
      some (.val (.tuple #[]), t.put a.block (.bl (spliceL cs a.off (List.replicate (n' + 1) zero).flatten) U sz'), nx) else none
    | none => none))
  | _ => none)
def mo_mp (gl : List Nat) (x : Cx) (c : Env) (t : St) (nx : Nat) (o : MOp) (args : List Opd) : Option (AV × St × Nat) :=
 (match cats gl c args with | some vs => (match mpE x t nx o vs with | some (v, t', nx') => some (.val v, t', nx') | none => none) | none => none)
def evO_call (call : CallEv) (gl : List Nat) (x : Cx) (c : Env) (t : St) (nx : Nat) (f : Nat) (args : List Opd) : Option (AV × St × Nat) :=
 (match Nat.ble YB f with | true => none | false => match cats gl c args with | some vs => (match call x f vs t nx with | some (v, t', nx') => some (.val v, t', nx') | none => none) | none => none)
def evO_callV (call : CallEv) (gl : List Nat) (x : Cx) (c : Env) (t : St) (nx : Nat) (f : Opd) (args : List Opd) : Option (AV × St × Nat) :=
 (match cats gl c args with
  | some vs => (match fnOf (cat gl f c) with
   | some (g, a, b) => (match Nat.ble YB g with | true => none | false => match call x g (a ++ vs ++ b) t nx with | some (v, t', nx') => some (.val v, t', nx') | none => none)
   | none => (match yOf (cat gl f c) with
    | some k => (match call x (YB + k) vs t nx with | some (v, t', nx') => some (.val v, t', nx') | none => none)
    | none => none))
  | none => none)
def evO_callG (call : CallEv) (gl : List Nat) (x : Cx) (c : Env) (t : St) (nx : Nat) (f : Nat) (args : List Opd) : Option (AV × St × Nat) :=
 (match cats gl c args with | some vs => callGof call x f vs t nx | none => none)
def evO_callVG (call : CallEv) (gl : List Nat) (x : Cx) (c : Env) (t : St) (nx : Nat) (f : Opd) (args : List Opd) : Option (AV × St × Nat) :=
 (match fnOf (cat gl f c), cats gl c args with | some (g, a, b), some vs => callGof call x g (a ++ vs ++ b) t nx | _, _ => none)
def pvo (u : Option AV) (t : St) (nx : Nat) : Option (AV × St × Nat) := match u with | some u => some (u, t, nx) | none => none
def evO2 (call : CallEv) (gl : List Nat) (x : Cx) (o : IOp) (c : Env) (t : St) (nx : Nat) : Option (AV × St × Nat) :=
 match o with
 | .mv a0 => pvo (pv_mv gl c a0) t nx
 | .pick a0 a1 a2 => pvo (pv_pick gl c a0 a1 a2) t nx
 | .bin a0 a1 a2 => pvo (pv_bin gl c a0 a1 a2) t nx
 | .binN a0 a1 a2 => pvo (pv_binN gl c a0 a1 a2) t nx
 | .div a0 a1 a2 => pvo (pv_div gl c a0 a1 a2) t nx
 | .shf a0 a1 a2 => pvo (pv_shf gl c a0 a1 a2) t nx
 | .eq a0 a1 a2 a3 => pvo (pv_eq gl c a0 a1 a2 a3) t nx
 | .eqA a0 a1 a2 a3 => pvo (pv_eqA gl c a0 a1 a2 a3) t nx
 | .un a0 a1 => pvo (pv_un gl c a0 a1) t nx
 | .cv a0 a1 => pvo (pv_cv gl c a0 a1) t nx
 | .cvN a0 a1 => pvo (pv_cvN gl c a0 a1) t nx
 | .len a0 => pvo (pv_len gl c a0) t nx
 | .mm a0 a1 => pvo (pv_mm gl c a0 a1) t nx
 | .fld a0 a1 a2 a3 => pvo (pv_fld gl c a0 a1 a2 a3) t nx
 | .idx a0 a1 a2 a3 => pvo (pv_idx gl c a0 a1 a2 a3) t nx
 | .ext a0 a1 => pvo (pv_ext gl c a0 a1) t nx
 | .bd a0 a1 => pvo (pv_bd gl c a0 a1) t nx
 | .fa a0 a1 => pvo (pv_fa gl c a0 a1) t nx
 | .fr a0 a1 a2 => pvo (pv_fr gl c a0 a1 a2) t nx
 | .ia a0 a1 a2 => pvo (pv_ia gl c a0 a1 a2) t nx
 | .iap a0 a1 a2 a3 => pvo (pv_iap gl c a0 a1 a2 a3) t nx
 | .ir a0 a1 a2 a3 => pvo (pv_ir gl c a0 a1 a2 a3) t nx
 | .nc a0 => pvo (pv_nc gl c a0) t nx
 | .ld a0 => mo_ld gl x c t nx a0
 | .lds a0 a1 => mo_lds gl x c t nx a0 a1
 | .st a0 a1 a2 => mo_st gl x c t nx a0 a1 a2
 | .va a0 => pvo (pv_va gl c a0) t nx
 | .vb a0 => pvo (pv_vb gl c a0) t nx
 | .vld a0 a1 => pvo (pv_vld gl c a0 a1) t nx
 | .vlds a0 a1 a2 => pvo (pv_vlds gl c a0 a1 a2) t nx
 | .vst a0 a1 a2 a3 => pvo (pv_vst gl c a0 a1 a2 a3) t nx
 | .al a0 a1 => mo_al gl x c t nx a0 a1
 | .bx a0 a1 => mo_bx gl x c t nx a0 a1
 | .bs a0 a1 a2 a3 => mo_bs gl x c t nx a0 a1 a2 a3
 | .mk a0 a1 a2 a3 a4 => mo_mk gl x c t nx a0 a1 a2 a3 a4
 | .ap a0 a1 a2 a3 a4 a5 => mo_ap gl x c t nx a0 a1 a2 a3 a4 a5
 | .cp a0 a1 a2 => mo_cp gl x c t nx a0 a1 a2
 | .clr a0 a1 a2 => mo_clr gl x c t nx a0 a1 a2
 | .sl a0 a1 a2 a3 => mo_sl gl x c t nx a0 a1 a2 a3
 | .sx a0 a1 => pvo (pv_sx gl c a0 a1) t nx
 | .sla a0 a1 => mo_sla gl x c t nx a0 a1
 | .mp a0 a1 => mo_mp gl x c t nx a0 a1
 | .call a0 a1 => evO_call call gl x c t nx a0 a1
 | .callG a0 a1 => evO_callG call gl x c t nx a0 a1
 | .callV a0 a1 => evO_callV call gl x c t nx a0 a1
 | .callVG a0 a1 => evO_callVG call gl x c t nx a0 a1
 | .mf a0 a1 a2 => pvo (pv_mf gl c a0 a1 a2) t nx
 | .mi a0 a1 => pvo (pv_mi gl c a0 a1) t nx
 | .pn a0 => none
theorem evO2_eq (call : CallEv) (gl : List Nat) (x : Cx) (o : IOp) (c : Env) (t : St) (nx : Nat) : evO2 call gl x o c t nx = evO call gl x o c t nx := by cases o <;> rfl
def evE2 (call : CallEv) (gl : List Nat) (x : Cx) (y : E) (tr : TE) (t : St) (nx : Nat) : Option (TE × St × Nat) :=
 match (match y.g with
  | none => some true
  | some (s, want) => (match tr.get s with
   | some (.val (.bool b)) => some (match b, want with | true, true => true | false, false => true | _, _ => false)
   | some (.val (.tuple _)) => some false
   | _ => none)) with
 | some true => (match evO2 call gl x y.o (ev tr) t nx with | some (u, t', nx') => bif (!y.s || isB u) && okd y.d then some (tput tr y.d u, t', nx') else none | none => none)
 | some false => bif okd y.d then some (tput tr y.d (.val undef), t, nx) else none
 | none => none
theorem evE2_sim {call : CallEv} {y : E} {tr tr' : TE} {nx nx' : Nat} {t' : St} (h : evE2 call gl x y tr t nx = some (tr', t', nx')) : evE call gl x y (ev tr) t nx = some (ev tr', t', nx') := by
 have hrun : (match evO2 call gl x y.o (ev tr) t nx with | some (u, t', nx') => bif (!y.s || isB u) && okd y.d then some (tput tr y.d u, t', nx') else none | none => none) = some (tr', t', nx') →
   (match evO call gl x y.o (ev tr) t nx with | some (u, t', nx') => bif !y.s || isB u then some ((ev tr).put y.d u, t', nx') else none | none => none) = some (ev tr', t', nx') := fun h => by
  rw [evO2_eq] at h
  split at h <;> try (cases h; done)
  rename_i u t1 nx1 h1
  cases hb : ((!y.s || isB u) && okd y.d) with
  | false => rw [hb] at h; cases h
  | true =>
   rw [hb] at h; cases h
   rw [Bool.and_eq_true] at hb
   simp only [hb.1, cond_true, tput_ev hb.2]
 have hskip : (bif okd y.d then some (tput tr y.d (.val undef), t, nx) else none) = some (tr', t', nx') → some ((ev tr).put y.d (.val undef), t, nx) = some (ev tr', t', nx') := fun h => by
  cases hb : okd y.d with
  | false => rw [hb] at h; cases h
  | true => rw [hb] at h; cases h; rw [tput_ev hb]
 unfold evE2 at h
 unfold evE
 cases hg : y.g with
 | none => simp only [hg] at h ⊢; exact hrun h
 | some p =>
  obtain ⟨s, want⟩ := p
  simp only [hg] at h ⊢
  have he : ev tr s = tr.get s := rfl
  rw [he]
  generalize tr.get s = o at h
  match o, h with
  | some (.val (.bool b)), h =>
   cases b <;> cases want
   ·exact hrun h
   ·exact hskip h
   ·exact hskip h
   ·exact hrun h
  | some (.val (.tuple _)), h => exact hskip h
def evRun2 (call : CallEv) (gl : List Nat) (x : Cx) : List E → TE → St → Nat → Option (TE × St × Nat)
 | [], tr, t, nx => some (tr, t, nx)
 | y :: ys, tr, t, nx => match evE2 call gl x y tr t nx with | some (tr', t', nx') => evRun2 call gl x ys tr' t' nx' | none => none
theorem evRun2_sim {call : CallEv} : ∀ {ys : List E} {tr tr' : TE} {t t' : St} {nx nx' : Nat}, evRun2 call gl x ys tr t nx = some (tr', t', nx') → evRun call gl x ys (ev tr) t nx = some (ev tr', t', nx')
 | [], tr, tr', t, t', nx, nx', h => by cases h; rfl
 | y :: ys, tr, tr', t, t', nx, nx', h => by
  simp only [evRun2] at h
  split at h <;> try (cases h; done)
  rename_i tr1 t1 nx1 h1
  simp only [evRun, evE2_sim h1]
  exact evRun2_sim h
def evOps2 (call : CallEv) (gl : List Nat) : Cx → RG → TE → St → Nat → Option (TE × St × Nat)
 | _, .nil, tr, t, nx => some (tr, t, nx)
 | x, .run l r, tr, t, nx => match evRun2 call gl x l tr t nx with | some (tr', t', nx') => evOps2 call gl x r tr' t' nx' | none => none
 | x, .sc s want mods body d y r, tr, t, nx => match tr.get s with
  | some (.val (.bool b)) =>
   match (match beqB b want with
    | true => (match evOps2 call gl ⟨[], t :: (x.wr ++ x.ro)⟩ body tr .lf nx with | some (tr', _, _) => (match cat gl y (ev tr') with | some (.bool v) => some v | _ => none) | none => none)
    | false => some false) with
   | some v => bif kok d then evOps2 call gl x r (tput (clrT mods tr) (some d) (.val (.bool (scB b want v)))) t nx else none
   | none => none
  | _ => none
theorem evOps2_sim {call : CallEv} : ∀ {g : RG} {x : Cx} {tr tr' : TE} {t t' : St} {nx nx' : Nat}, evOps2 call gl x g tr t nx = some (tr', t', nx') → evOps call gl x g (ev tr) t nx = some (ev tr', t', nx') := by
 intro g
 induction g with
 | nil => intro x tr tr' t t' nx nx' h; cases h; rfl
 | run l r ih =>
  intro x tr tr' t t' nx nx' h
  simp only [evOps2] at h
  split at h <;> try (cases h; done)
  rename_i tr1 t1 nx1 h1
  simp only [evOps, evRun2_sim h1]
  exact ih h
 | sc s want mods body d y r ihb ihr =>
  intro x tr tr' t t' nx nx' h
  simp only [evOps2] at h
  split at h <;> try (cases h; done)
  rename_i b hb
  have hb' : ev tr s = some (.val (.bool b)) := hb
  simp only [evOps, hb']
  have fin : ∀ v : Bool, (bif kok d then evOps2 call gl x r (tput (clrT mods tr) (some d) (.val (.bool (scB b want v)))) t nx else none) = some (tr', t', nx') → evOps call gl x r ((clearM (ev tr) mods).upd d (.val (.bool (scB b want v)))) t nx = some (ev tr', t', nx') := fun v h => by
   cases hk : kok d with
   | false => rw [hk] at h; cases h
   | true =>
    rw [hk] at h; simp only [cond_true] at h
    have := ihr h
    rw [tput_ev (d := some d) hk, clrT_ev] at this
    exact this
  cases hbw : beqB b want with
  | false => simp only [hbw] at h ⊢; exact fin false h
  | true =>
   simp only [hbw] at h ⊢
   cases h1 : evOps2 call gl ⟨[], t :: (x.wr ++ x.ro)⟩ body tr .lf nx with
   | none => simp only [h1] at h; cases h
   | some p =>
    obtain ⟨tr1, t1, nx1⟩ := p
    simp only [h1] at h
    simp only [ihb h1]
    generalize cat gl y (ev tr1) = o at h ⊢
    match o, h with
    | some (.bool v), h => exact fin v h
def evTL2 (call : CallEv) (gl : List Nat) (x : Cx) (l : List E) : RT → TE → St → Nat → Option (TE × St × Nat)
 | .nil, c, t, nx => some (c, t, nx)
 | .pure i r, c, t, nx => match l[i]? with
  | some y => (match evE2 call gl x y c t nx with | some (c', t', nx') => evTL2 call gl x l r c' t' nx' | none => none)
  | none => none
 | .alt i r .done, c, t, nx => match l[i]? with
  | some y => (match evE2 call gl x y c t nx with | some (c', t', nx') => evTL2 call gl x l r c' t' nx' | none => none)
  | none => none
 | _, _, _, _ => none
theorem evTL2_sim {call : CallEv} {l : List E} : ∀ {r : RT} {tr tr' : TE} {t t' : St} {nx nx' : Nat}, evTL2 call gl x l r tr t nx = some (tr', t', nx') → evTL call gl x l r (ev tr) t nx = some (ev tr', t', nx') := by
 intro r
 induction r with
 | nil => intro tr tr' t t' nx nx' h; cases h; rfl
 | done => intro tr tr' t t' nx nx' h; cases h
 | pure i r ih =>
  intro tr tr' t t' nx nx' h
  simp only [evTL2] at h
  split at h <;> try (cases h; done)
  rename_i y hy
  split at h <;> try (cases h; done)
  rename_i c1 t1 nx1 h1
  simp only [evTL, hy, evE2_sim h1]
  exact ih h
 | alt i r more ih _ =>
  intro tr tr' t t' nx nx' h
  cases more with
  | done =>
   simp only [evTL2] at h
   split at h <;> try (cases h; done)
   rename_i y hy
   split at h <;> try (cases h; done)
   rename_i c1 t1 nx1 h1
   simp only [evTL, hy, evE2_sim h1]
   exact ih h
  | nil => simp [evTL2] at h
  | pure => simp [evTL2] at h
  | alt => simp [evTL2] at h
def addT : List (Nat × AV) → TE → TE
 | [], tr => tr
 | (k, u) :: r, tr => Tr.set u 40 (addT r tr) k
def allM (ds : List (Nat × Nat)) : List (Nat × AV) → Bool
 | [] => true
 | (k, _) :: r => (inM k ds && kok k) && allM ds r
theorem addT_get {ds : List (Nat × Nat)} : ∀ {vs : List (Nat × AV)} {tr : TE}, allM ds vs = true → (∀ j, inM j ds = true → tr.get j = none) → ∀ j, (addT vs tr).get j = bif inM j ds then findL j vs else tr.get j
 | [], tr, _, hn, j => by
  simp only [addT, findL]
  cases hj : inM j ds with
  | true => exact hn j hj
  | false => rfl
 | (k, u) :: r, tr, h, hn, j => by
  simp only [allM, Bool.and_eq_true] at h
  simp only [addT, findL]
  rw [tset_ev h.1.2, addT_get h.2 hn j]
  by_cases e : j = k
  ·subst e; rw [if_pos rfl, h.1.1, Nat.beq_refl]; rfl
  ·rw [if_neg e]
   have : Nat.beq j k = false := by
    cases hb : Nat.beq j k with
    | true => exact absurd (Nat.eq_of_beq_eq_true hb) e
    | false => rfl
   rw [this]; rfl
def evTree2 (call : CallEv) (gl : List Nat) (x : Cx) (l : List E) (r : RT) (tr : TE) (t : St) (nx : Nat) : Option (TE × St × Nat) :=
 match multi r with
 | false => evTL2 call gl x l r tr t nx
 | true => (match evTA call gl ⟨t :: x.wr, x.ro⟩ l (dsts l) r [] (ev tr) .lf nx with
  | some (vs, t', nx', _) => bif allM (dsts l) vs then some (addT vs (clrT (dsts l) tr), t'.merge t, nx') else none
  | none => none)
theorem evTree2_sim {call : CallEv} {l : List E} {r : RT} {tr tr' : TE} {t t' : St} {nx nx' : Nat} (h : evTree2 call gl x l r tr t nx = some (tr', t', nx')) : evTree call gl x l r (ev tr) t nx = some (ev tr', t', nx') := by
 unfold evTree2 at h
 unfold evTree
 split at h
 ·rename_i hm; rw [hm]; exact evTL2_sim h
 ·rename_i hm
  rw [hm]
  split at h <;> try (cases h; done)
  rename_i vs t1 nx1 pl1 h1
  cases ha : allM (dsts l) vs with
  | false => rw [ha] at h; cases h
  | true =>
   rw [ha] at h; cases h
   simp only [h1]
   have : ev (addT vs (clrT (dsts l) tr)) = over (ev tr) (dsts l) vs := by
    funext j
    show (addT vs (clrT (dsts l) tr)).get j = bif inM j (dsts l) then findL j vs else keepR (dsts l) (ev tr j)
    have hc : ∀ q, (clrT (dsts l) tr).get q = clearM (ev tr) (dsts l) q := fun q => congrFun (clrT_ev (dsts l) tr) q
    rw [addT_get ha (fun q hq => by rw [hc]; unfold clearM; rw [hq]; rfl), hc]
    unfold clearM
    cases inM j (dsts l) <;> rfl
   rw [this]
abbrev BOut2 := Ex × TE × St × Nat
def evLoop2 (body : TE → St → Nat → Option BOut2) (ms : List (Nat × Nat)) (tr0 : TE) : Nat → TE → St → Nat → Option BOut2
 | 0, _, _, _ => none
 | k + 1, tr, t, nx => match body (headT ms tr0 tr) t nx with
  | some (.n, tr', t', nx') => evLoop2 body ms tr0 k tr' t' nx'
  | some (.r, tr', t', nx') => some (.r, tr', t', nx')
  | some (.x i, tr', t', nx') => some (.x i, tr', t', nx')
  | none => none
theorem evLoop2_sim {body2 : TE → St → Nat → Option BOut2} {body : Env → St → Nat → Option BOut} (hb : ∀ tr t nx ex tr' t' nx', body2 tr t nx = some (ex, tr', t', nx') → body (ev tr) t nx = some (ex, ev tr', t', nx')) {ms : List (Nat × Nat)} {tr0 : TE} :
  ∀ (k : Nat) {tr tr' : TE} {t t' : St} {nx nx' : Nat} {ex : Ex}, evLoop2 body2 ms tr0 k tr t nx = some (ex, tr', t', nx') → evLoop body ms (ev tr0) k (collect (ev tr) ms []) t nx = some (ex, ev tr', t', nx')
 | 0, tr, tr', t, t', nx, nx', ex, h => by cases h
 | k + 1, tr, tr', t, t', nx, nx', ex, h => by
  simp only [evLoop2] at h
  simp only [evLoop]
  rw [← headT_ev]
  split at h <;> try (cases h; done)
  ·rename_i tr1 t1 nx1 h1
   simp only [hb _ _ _ _ _ _ _ h1]
   exact evLoop2_sim hb k h
  ·rename_i tr1 t1 nx1 h1
   cases h
   simp only [hb _ _ _ _ _ _ _ h1]
  ·rename_i i tr1 t1 nx1 h1
   cases h
   simp only [hb _ _ _ _ _ _ _ h1]
def evI2 (call : CallEv) (gl : List Nat) (x : Cx) : IR → TE → St → Nat → Option BOut2
 | .skip, c, t, nx => some (.n, c, t, nx)
 | .ret, c, t, nx => some (.r, c, t, nx)
 | .exit i, c, t, nx => some (.x i, c, t, nx)
 | .ops l, c, t, nx => (match evOps2 call gl x l c t nx with | some (c', t', nx') => some (.n, c', t', nx') | none => none)
 | .tree l r, c, t, nx => (match evTree2 call gl x l r c t nx with | some (c', t', nx') => some (.n, c', t', nx') | none => none)
 | .seq a b, c, t, nx => (match evI2 call gl x a c t nx with
  | some (.n, c', t', nx') => evI2 call gl x b c' t' nx'
  | some (.r, c', t', nx') => some (.r, c', t', nx')
  | some (.x i, c', t', nx') => some (.x i, c', t', nx')
  | none => none)
 | .seqj _ _ _, _, _, _ => none
 | .cond d a b, c, t, nx => (match d with
  | .t n => (match c.get n with | some (.val (.bool v)) => (match v with | true => evI2 call gl x a c t nx | false => evI2 call gl x b c t nx) | _ => none)
  | .c (.bool true) => evI2 call gl x a c t nx
  | .c (.bool false) => evI2 call gl x b c t nx
  | .c _ => none)
 | .block id a, c, t, nx => (match evI2 call gl x a c t nx with
  | some (.x i, c', t', nx') => bif Nat.beq i id then some (.n, c', t', nx') else some (.x i, c', t', nx')
  | some (.n, c', t', nx') => some (.n, c', t', nx')
  | some (.r, c', t', nx') => some (.r, c', t', nx')
  | none => none)
 | .loop ms a, c, t, nx => evLoop2 (fun c t nx => evI2 call gl x a c t nx) ms c LFUEL c t nx
 | .rf g ps a b, c, t, nx => (match fnOf (cat gl g (ev c)) with
  | some (f, first, caps) => (match Nat.ble YB f with
   | true => none
   | false => bif newlab x t nx then (match call x f (first ++ [.func (.yield nx) ⟨[]⟩ ⟨[]⟩] ++ caps) (t.put nx (.lp (ev c) ps a b)) (nx + 1) with
    | some (_, t', nx') => (match x.get t' nx with
     | some (.lp _ _ _ _) => bif x.own t' nx then some (.n, c, t'.put nx .dead, nx') else none
     | _ => none)
    | none => none) else none)
  | none => none)
theorem evI2_sim {call : CallEv} : ∀ {ir : IR} {tr tr' : TE} {t t' : St} {nx nx' : Nat} {ex : Ex}, evI2 call gl x ir tr t nx = some (ex, tr', t', nx') → evI call gl x ir (ev tr) t nx = some (ex, ev tr', t', nx') := by
 intro ir
 induction ir with
 | skip => intro tr tr' t t' nx nx' ex h; cases h; rfl
 | ret => intro tr tr' t t' nx nx' ex h; cases h; rfl
 | exit i => intro tr tr' t t' nx nx' ex h; cases h; rfl
 | ops l =>
  intro tr tr' t t' nx nx' ex h
  simp only [evI2] at h
  split at h <;> try (cases h; done)
  rename_i c1 t1 nx1 h1; cases h
  simp only [evI, evOps2_sim h1]
 | tree l r =>
  intro tr tr' t t' nx nx' ex h
  simp only [evI2] at h
  split at h <;> try (cases h; done)
  rename_i c1 t1 nx1 h1; cases h
  simp only [evI, evTree2_sim h1]
 | seq a b iha ihb =>
  intro tr tr' t t' nx nx' ex h
  simp only [evI2] at h
  split at h <;> try (cases h; done)
  ·rename_i c1 t1 nx1 h1
   simp only [evI, iha h1]
   exact ihb h
  ·rename_i c1 t1 nx1 h1; cases h
   simp only [evI, iha h1]
  ·rename_i i c1 t1 nx1 h1; cases h
   simp only [evI, iha h1]
 | seqj ms a b => intro tr tr' t t' nx nx' ex h; simp only [evI2] at h; cases h
 | cond d a b iha ihb =>
  intro tr tr' t t' nx nx' ex h
  simp only [evI2] at h
  split at h
  ·rename_i n
   split at h <;> try (cases h; done)
   rename_i v hv
   have hv' : ev tr n = some (.val (.bool v)) := hv
   simp only [evI, hv']
   cases v with
   | true => exact iha h
   | false => exact ihb h
  ·simp only [evI]; exact iha h
  ·simp only [evI]; exact ihb h
  ·cases h
 | block id a iha =>
  intro tr tr' t t' nx nx' ex h
  simp only [evI2] at h
  split at h <;> try (cases h; done)
  ·rename_i i c1 t1 nx1 h1
   simp only [evI, iha h1]
   cases hi : Nat.beq i id with
   | true => rw [hi] at h; cases h; rfl
   | false => rw [hi] at h; cases h; rfl
  ·rename_i c1 t1 nx1 h1; cases h
   simp only [evI, iha h1]
  ·rename_i c1 t1 nx1 h1; cases h
   simp only [evI, iha h1]
 | loop ms a iha =>
  intro tr tr' t t' nx nx' ex h
  simp only [evI2] at h
  simp only [evI]
  exact evLoop2_sim (body2 := fun c t nx => evI2 call gl x a c t nx) (fun _ _ _ _ _ _ _ hh => iha hh) LFUEL h
 | rf g ps a b iha ihb =>
  intro tr tr' t t' nx nx' ex h
  simp only [evI2] at h
  simp only [evI]
  split at h <;> try (cases h; done)
  rename_i f first caps hf
  simp only [hf]
  split at h <;> try (cases h; done)
  rename_i hy
  simp only [hy]
  cases hn : newlab x t nx with
  | false => rw [hn] at h; cases h
  | true =>
   rw [hn] at h; simp only [cond_true] at h ⊢
   split at h <;> try (cases h; done)
   rename_i v1 t1 nx1 h1
   simp only [h1]
   split at h <;> try (cases h; done)
   rename_i hg
   simp only [hg]
   cases ho : x.own t1 nx with
   | false => rw [ho] at h; cases h
   | true => rw [ho] at h; cases h; simp only [cond_true]
def argT (k : Nat) : List Value → TE
 | [] => .lf
 | v :: vs => Tr.set (.val v) 40 (argT (k + 1) vs) k
theorem argT_get : ∀ (vs : List Value) (k j : Nat), k + vs.length < 1000000 → (argT k vs).get j = if k ≤ j then (match vs[j - k]? with | some v => some (.val v) | none => none) else none
 | [], k, j, _ => by simp only [argT, Tr.get_lf, List.getElem?_nil]; split <;> rfl
 | v :: vs, k, j, h => by
  have hk : kok k = true := Nat.ble_eq_true_of_le (by simp at h; omega)
  simp only [argT]
  rw [tset_ev hk, argT_get vs (k + 1) j (by simp at h; omega)]
  by_cases e : j = k
  ·subst e; rw [if_pos rfl, if_pos (Nat.le_refl _), Nat.sub_self]; rfl
  ·rw [if_neg e]
   by_cases g : k + 1 ≤ j
   ·rw [if_pos g, if_pos (by omega)]
    obtain ⟨z, rfl⟩ : ∃ z, j = k + 1 + z := ⟨j - (k + 1), by omega⟩
    rw [show k + 1 + z - (k + 1) = z by omega, show k + 1 + z - k = z + 1 by omega, List.getElem?_cons_succ]
   ·rw [if_neg g, if_neg (by omega)]
theorem argT_ev {vs : List Value} (h : vs.length < 1000000) : ev (argT 0 vs) = envOf vs := by
 funext j
 show (argT 0 vs).get j = envOf vs j
 rw [argT_get vs 0 j (by omega), if_pos (Nat.zero_le _), Nat.sub_zero]; rfl
def fnEv2 (F : Fn) (call : CallEv) (gl : List Nat) (x : Cx) (vs : List Value) (t : St) (nx : Nat) : Option (Value × St × Nat) :=
 bif Nat.ble vs.length F.nt && Nat.ble (vs.length + 1) 1000000 then (match evI2 call gl x F.body (argT 0 vs) t nx with
  | some (ex, c', t', nx') => (match ex with
   | .x _ => none
   | _ => (match cres x t' (ev c') F.res with | some us => some (resVal us, t', nx') | none => none))
  | none => none) else none
theorem fnEv2_sim {F : Fn} {call : CallEv} {vs : List Value} {r : Value × St × Nat} {nx : Nat} (h : fnEv2 F call gl x vs t nx = some r) : fnEv F call gl x vs t nx = some r := by
 unfold fnEv2 at h
 unfold fnEv
 cases hb : (Nat.ble vs.length F.nt && Nat.ble (vs.length + 1) 1000000) with
 | false => rw [hb] at h; cases h
 | true =>
  rw [hb] at h; simp only [cond_true] at h
  rw [Bool.and_eq_true] at hb
  rw [hb.1]; simp only [cond_true]
  split at h <;> try (cases h; done)
  rename_i ex c1 t1 nx1 h1
  have := evI2_sim h1
  rw [argT_ev (by have := Nat.le_of_ble_eq_true hb.2; omega)] at this
  simp only [this]
  exact h
def evF2 (tab : Nat → Option Ent) (gl : List Nat) : Nat → CallEv
 | 0 => fun _ _ _ _ _ => none
 | k + 1 => fun x f vs t nx => match Nat.ble YB f with
  | true => yieldEv (evF2 tab gl k) gl x (f - YB) vs t nx
  | false => match tab f with
   | some (.fn F) => fnEv2 F (evF2 tab gl k) gl x vs t nx
   | some (.sp g) => g (evF2 tab gl k) gl x vs t nx
   | none => none
theorem evF2_ok (hmix : P.follows .mixedOrders = true) {tab : Nat → Option Ent} (ht : ∀ f E, tab f = some E → EntOK P gl f E) : ∀ k, CallOK P gl (evF2 tab gl k) := by
 intro k
 induction k with
 | zero => intro x f vs t nx v t' nx' h; cases h
 | succ k ih =>
  intro x f vs t nx v t' nx' h μ G m vs' hI hv
  simp only [evF2] at h
  split at h
  ·rename_i hyb
   refine ⟨(fun hh => by rw [hyb] at hh; cases hh), fun j hj b s L hG => ?_⟩
   subst hj
   rw [show YB + j - YB = j by omega] at h
   exact yieldEv_sound ih h hI hv hG
  ·rename_i hyb
   refine ⟨fun _ => ?_, fun j hj b s L hG => by
    subst hj
    have : Nat.ble YB (YB + j) = true := Nat.ble_eq_true_of_le (by omega)
    rw [this] at hyb; cases hyb⟩
   split at h <;> try (cases h; done)
   ·rename_i F hF
    obtain ⟨fn, h1, h2⟩ := ht f _ hF
    exact fnEv_sound hmix ih h1 h2 (fnEv2_sim h) hI hv
   ·rename_i g hg
    exact ht f _ hg _ ih _ _ _ _ _ _ _ h μ G m vs' hI hv
end Go.Vx.Ev
