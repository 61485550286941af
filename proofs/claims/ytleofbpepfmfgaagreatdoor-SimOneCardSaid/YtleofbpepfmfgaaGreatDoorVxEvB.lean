import Derived.Test.YtleofbpepfmfgaaGreatDoorVxEvA
set_option linter.unusedSimpArgs false
set_option linter.unusedVariables false
namespace Go.Vx.Ev
open Go Go.Vx
variable {gl : List Nat} {G : Ghost} {c e : Env}

theorem RV.cells {u v : Value} (h : RV G u v) : RVL G (cellsL u) (cellsL v) := RVL.cells h
theorem RV.ptr' {k b sz L off : Nat} (h : G k = some (b, sz, L)) : RV G (.pointer (some ⟨k, off, none⟩)) (.pointer (some ⟨b, off, none⟩)) := by unfold RV; exact ⟨b, sz, L, h, rfl, rfl⟩
def memN (b : Nat) : List Nat → Bool
 | [] => false
 | x :: xs => Nat.beq b x || memN b xs
def GOK (gl : List Nat) (G : Ghost) : Prop := ∀ g, memN g gl = true → ∃ sz L, G g = some (g, sz, L)
theorem GOK.mono {H : Ghost} (h : GOK gl G) (k : Ghost.le G H) : GOK gl H := fun g hg => by obtain ⟨sz, L, h1⟩ := h g hg; exact ⟨sz, L, k _ _ h1⟩
def cat (gl : List Nat) (x : Opd) (c : Env) : Option Value :=
 match x with
 | .t n => (match c n with | some (.val v) => some v | _ => none)
 | .c v => bif flat v then some v else (match v with | .pointer (some ⟨b, 0, none⟩) => bif memN b gl then some (.pointer (some ⟨b, 0, none⟩)) else none | _ => none)
theorem cat_at (hg : GOK gl G) (h : RE G c e) {x : Opd} {u : Value} (k : cat gl x c = some u) : ∃ v, x.at e = some v ∧ RV G u v := by
 cases x with
 | t n =>
  simp only [cat] at k
  split at k <;> first | (cases k; done) | skip
  rename_i v hv
  cases k
  obtain ⟨w, h1, w', h2, rfl⟩ := h _ _ hv
  exact ⟨w', by simp only [Opd.at, h1], h2⟩
 | c v =>
  simp only [cat] at k
  cases hf : flat v with
  | true => rw [hf] at k; cases k; exact ⟨_, rfl, flat_self _ hf⟩
  | false =>
   rw [hf] at k; simp only [cond_false] at k
   split at k <;> first | (cases k; done) | skip
   rename_i b
   cases hb : memN b gl with
   | false => rw [hb] at k; cases k
   | true =>
    rw [hb] at k; cases k
    obtain ⟨sz, L, h1⟩ := hg b hb
    exact ⟨_, rfl, RV.ptr' h1⟩
def cats (gl : List Nat) (c : Env) : List Opd → Option (List Value)
 | [] => some []
 | x :: xs => match cat gl x c with | some v => (match cats gl c xs with | some vs => some (v :: vs) | none => none) | none => none
theorem cats_ats (hg : GOK gl G) (h : RE G c e) : ∀ {xs : List Opd} {us : List Value}, cats gl c xs = some us → ∃ vs, Opd.ats e xs = some vs ∧ RVL G us vs := by
 intro xs
 induction xs with
 | nil => intro us k; cases k; exact ⟨[], rfl, RVL.nil'⟩
 | cons x xs ih =>
  intro us k
  simp only [cats] at k
  split at k <;> first | (cases k; done) | skip
  rename_i u hu
  split at k <;> first | (cases k; done) | skip
  rename_i ws hws
  cases k
  obtain ⟨v, h1, h2⟩ := cat_at hg h hu
  obtain ⟨vs, h3, h4⟩ := ih hws
  exact ⟨v :: vs, by simp only [Opd.ats, h1, h3], RVL.cons h2 h4⟩
def cparts (gl : List Nat) (c : Env) : List (Nat × Nat × Opd) → Option (List (Nat × Nat × Value))
 | [] => some []
 | (i, n, x) :: ps => match cat gl x c with | some v => (match cparts gl c ps with | some vs => some ((i, n, v) :: vs) | none => none) | none => none
def RPs (G : Ghost) : List (Nat × Nat × Value) → List (Nat × Nat × Value) → Prop
 | [], ys => ys = []
 | (i, n, u) :: xs, ys => ∃ v zs, RV G u v ∧ RPs G xs zs ∧ ys = (i, n, v) :: zs
theorem cparts_parts (hg : GOK gl G) (h : RE G c e) : ∀ {ps : List (Nat × Nat × Opd)} {us : List (Nat × Nat × Value)}, cparts gl c ps = some us → ∃ vs, partsL e ps = some vs ∧ RPs G us vs := by
 intro ps
 induction ps with
 | nil => intro us k; cases k; exact ⟨[], rfl, rfl⟩
 | cons p ps ih =>
  obtain ⟨i, n, x⟩ := p
  intro us k
  simp only [cparts] at k
  split at k <;> first | (cases k; done) | skip
  rename_i u hu
  split at k <;> first | (cases k; done) | skip
  rename_i ws hws
  cases k
  obtain ⟨v, h1, h2⟩ := cat_at hg h hu
  obtain ⟨vs, h3, h4⟩ := ih hws
  exact ⟨(i, n, v) :: vs, by simp only [partsL, h1, h3], v, vs, h2, h4, rfl⟩
theorem fill_rel : ∀ {ps qs : List (Nat × Nat × Value)} {us vs r : List Value}, RPs G ps qs → RVL G us vs → fillL us ps = some r → ∃ r', fillL vs qs = some r' ∧ RVL G r r' := by
 intro ps
 induction ps with
 | nil => intro qs us vs r h k hr; cases h; cases hr; exact ⟨vs, rfl, k⟩
 | cons p ps ih =>
  obtain ⟨i, n, x⟩ := p
  intro qs us vs r h k hr
  obtain ⟨y, zs, h1, h2, rfl⟩ := h
  simp only [fillL] at hr ⊢
  have hl := (RVL.cells h1).len
  rw [← hl, ← k.len]
  cases hb : Nat.beq (cellsL x).length n && Nat.ble (i + n) us.length with
  | false => rw [hb] at hr; cases hr
  | true =>
   rw [hb] at hr; simp only [cond_true] at hr ⊢
   exact ih h2 (RVL.splice i k (RVL.cells h1)) hr
theorem RV.int {k : IntKind} {n : Int} {v : Value} (h : RV G (.int k n) v) : v = .int k n := by simpa only [RV] using h
theorem RV.bool {b : Bool} {v : Value} (h : RV G (.bool b) v) : v = .bool b := by simpa only [RV] using h
theorem RV.int' {k : IntKind} {n : Int} : RV G (.int k n) (.int k n) := by simp only [RV]
theorem RV.bool' {b : Bool} : RV G (.bool b) (.bool b) := by simp only [RV]
theorem RV.agg {xs : List Value} {v : Value} (h : RV G (.agg ⟨xs⟩) v) : ∃ ys, RVL G xs ys ∧ v = .agg ⟨ys⟩ := by simpa only [RV] using h
theorem RV.agg' {xs ys : List Value} (h : RVL G xs ys) : RV G (.agg ⟨xs⟩) (.agg ⟨ys⟩) := by simp only [RV]; exact ⟨ys, h, rfl⟩
theorem RV.tuple {xs : List Value} {v : Value} (h : RV G (.tuple ⟨xs⟩) v) : ∃ ys, RVL G xs ys ∧ v = .tuple ⟨ys⟩ := by simpa only [RV] using h
theorem RV.ptr {a : Addr} {v : Value} (h : RV G (.pointer (some a)) v) : ∃ b sz L, G a.block = some (b, sz, L) ∧ a.spot = none ∧ v = .pointer (some ⟨b, a.off, none⟩) := by simpa only [RV] using h
theorem RV.sl {a : Addr} {n d : Nat} {v : Value} (h : RV G (.slice (some a) n d) v) : ∃ b sz L d', G a.block = some (b, sz, L) ∧ a.spot = none ∧ capR d d' ∧ a.off + d' * sz ≤ L ∧ v = .slice (some ⟨b, a.off, none⟩) n d' := by simpa only [RV] using h
theorem RV.sl0 {n d : Nat} {v : Value} (h : RV G (.slice none n d) v) : v = .slice none n d := by simpa only [RV] using h
theorem eqV_rel {k : EK} {a b a' b' : Value} {r : Bool} (h : eqV k a b = some r) (ha : RV G a a') (hb : RV G b b') : eqV k a' b' = some r := by
 match k, a, b, h with
 | .b, .bool a, .bool b, h => cases ha.bool; cases hb.bool; exact h
 | .s, .slice none _ _, .slice none _ _, h => cases ha.sl0; cases hb.sl0; exact h
 | .s, .slice (some a) _ _, .slice none _ _, h => obtain ⟨_, _, _, _, _, _, _, _, rfl⟩ := ha.sl; cases hb.sl0; exact h
 | .p, .pointer none, .pointer none, h => simp only [RV] at ha hb; subst ha; subst hb; exact h
 | .p, .pointer (some a), .pointer none, h => obtain ⟨_, _, _, _, _, rfl⟩ := ha.ptr; simp only [RV] at hb; subst hb; exact h
 | .f, .nilFunc, .nilFunc, h => simp only [RV] at ha hb; subst ha; subst hb; exact h
 | .f, .func f ⟨xs⟩ ⟨ys⟩, .nilFunc, h => simp only [RV] at ha hb; obtain ⟨_, _, _, _, _, _, rfl⟩ := ha; subst hb; exact h
 | .i, .iface T u, .nilIface, h => simp only [RV] at ha hb; obtain ⟨_, _, rfl⟩ := ha; subst hb; exact h
theorem eqCells_self : ∀ {xs ys : List Value} {r : Bool}, eqCells xs ys = some r → ∀ {xs' ys'}, RVL G xs xs' → RVL G ys ys' → eqCells xs' ys' = some r
 | [], [], r, h, xs', ys', h1, h2 => by rw [h1.nil, h2.nil]; exact h
 | .int k n :: xs, .int k' l :: ys, r, h, xs', ys', h1, h2 => by
  obtain ⟨x, xs2, a1, a2, rfl⟩ := h1.inv
  obtain ⟨y, ys2, b1, b2, rfl⟩ := h2.inv
  cases a1.int; cases b1.int
  simp only [eqCells] at h ⊢
  cases hk : kbeq k k' with
  | false => rw [hk] at h; cases h
  | true =>
   rw [hk] at h; simp only [cond_true] at h ⊢
   split at h <;> try (cases h; done)
   rename_i r2 hr
   rw [eqCells_self hr a2 b2]; exact h
theorem minmax_self {mx : Bool} {k : IntKind} : ∀ {vs vs' : List Value} {x : Int} {v : Value}, minmax mx k x vs = some v → RVL G vs vs' → minmax mx k x vs' = some v ∧ ∃ n, v = .int k n
 | [], vs', x, v, h, h1 => by rw [h1.nil]; simp only [minmax, Option.some.injEq] at h ⊢; exact ⟨h, x, h.symm⟩
 | .int j y :: vs, vs', x, v, h, h1 => by
  obtain ⟨w, ws, a1, a2, rfl⟩ := h1.inv
  cases a1.int
  simp only [minmax] at h ⊢
  exact minmax_self h a2
def eqD {α : Type} [DecidableEq α] (a b : α) : Bool := decide (a = b)
def int2 (a b : Option Value) : Option (IntKind × Int × Int) :=
 match a, b with
 | some (.int k n), some (.int k' l) => bif kbeq k k' then some (k, n, l) else none
 | _, _ => none
theorem binInt_closed {op : BinOp} {k : IntKind} {n l : Int} {v : Value} (h : binInt op k n l = some v) : RV G v v := by
 cases op <;> simp only [binInt, Option.some.injEq] at h <;> first | (cases h; done) | (subst h; first | exact RV.int' | exact RV.bool')
def pv (gl : List Nat) (o : IOp) (c : Env) : Option AV :=
 match o with
 | .mv x => (match cat gl x c with | some v => some (.val v) | none => none)
 | .pick b x y => (match cat gl b c, cat gl x c, cat gl y c with | some (.bool b), some x, some y => some (.val (match b with | true => x | false => y)) | _, _, _ => none)
 | .bin op x y => (match cat gl x c, cat gl y c with
  | some (.int k n), some (.int k' l) => bif kbeq k k' then (match binInt op k n l with | some v => some (.val v) | none => none) else none
  | _, _ => none)
 | .binN op x y => (match cat gl x c, cat gl y c with
  | some (.int k n), some (.int k' l) => bif kbeq k k' then (match binIntN op n l with | some z => bif eqD (k.wrap z) z then some (.val (.int k z)) else none | none => none) else none
  | _, _ => none)
 | .div op x y => (match cat gl x c, cat gl y c with
  | some (.int k n), some (.int k' l) => bif kbeq k k' && !(eqD l 0) then (match op with | .quo => some (.val (.int k (k.wrap (n.tdiv l)))) | .rem => some (.val (.int k (n.tmod l))) | _ => none) else none
  | _, _ => none)
 | .shf op x y => (match cat gl x c, cat gl y c with
  | some (.int k n), some (.int _ l) => bif decide (0 ≤ l) && decide (l < 64) then (match op with | .shl => some (.val (.int k (k.wrap (n * 2 ^ min l.toNat k.bits)))) | .shr => some (.val (.int k (n.fdiv (2 ^ min l.toNat k.bits)))) | _ => none) else none
  | _, _ => none)
 | .eq k neg x y => (match cat gl x c, cat gl y c with
  | some a, some b => (match eqV k a b with | some r => some (.val (.bool (match neg with | true => !r | false => r))) | none => none)
  | _, _ => none)
 | .eqA neg n x y => (match cat gl x c, cat gl y c with
  | some (.agg ⟨a⟩), some (.agg ⟨b⟩) => bif Nat.beq a.length n then (match eqCells a b with | some r => some (.val (.bool (match neg with | true => !r | false => r))) | none => none) else none
  | _, _ => none)
 | .un op x => (match op, cat gl x c with
  | .not, some (.bool b) => some (.val (.bool (!b)))
  | .neg, some (.int k n) => some (.val (.int k (k.wrap (0 - n))))
  | .xor, some (.int k n) => some (.val (.int k (k.wrap (BitVec.ofInt k.bits (if k.signed then -1 else k.max) ^^^ BitVec.ofInt k.bits n).toNat)))
  | _, _ => none)
 | .cv k x => (match cat gl x c with | some (.int _ n) => some (.val (.int k (k.wrap n))) | _ => none)
 | .cvN k x => (match cat gl x c with | some (.int _ n) => bif eqD (k.wrap n) n then some (.val (.int k n)) else none | _ => none)
 | .len x => (match cat gl x c with | some (.slice _ n _) => some (.val (.int .i64 n)) | some (.chan _) => some (.val (.int .i64 0)) | _ => none)
 | .mm mx xs => (match cats gl c xs with | some (.int k x :: vs) => (match minmax mx k x vs with | some v => some (.val v) | none => none) | _ => none)
 | .fld off n agg x => (match cat gl x c with
  | some (.agg ⟨cs⟩) => (match agg with | true => some (.val (.agg ⟨(cs.drop off).take n⟩)) | false => (match cs.drop off with | v :: _ => some (.val v) | [] => none))
  | _ => none)
 | .idx esz len x i => (match cat gl x c, cat gl i c with
  | some (.agg ⟨cs⟩), some (.int _ i) => bif Nat.beq esz 1 && (decide (0 ≤ i) && decide (i < len)) then (match cs[0 + i.toNat]? with | some v => some (.val v) | none => none) else none
  | _, _ => none)
 | .ext x i => (match cat gl x c with | some (.tuple ⟨vs⟩) => (match vs.drop i with | v :: _ => some (.val v) | [] => none) | _ => none)
 | .bd zeros parts => bif flatL zeros then (match cparts gl c parts with | some ps => (match fillL zeros ps with | some cs => some (.val (.agg ⟨cs⟩)) | none => none) | none => none) else none
 | .fa x off => (match x with
  | .t k => (match c k with
   | some (.val (.pointer (some a))) => some (.val (.pointer (some ⟨a.block, a.off + off, none⟩)))
   | some (.var _) => some (.ref k off)
   | _ => none)
  | .c v => (match cat gl (.c v) c with | some (.pointer (some a)) => some (.val (.pointer (some ⟨a.block, a.off + off, none⟩))) | _ => none))
 | .fr k x off => (match c k, c x with
  | some (.var _), some (.ref j o) => bif Nat.beq j k then some (.ref k (o + off)) else none
  | _, _ => none)
 | .ia x i esz => (match cat gl x c, cat gl i c with | some (.slice (some a) len _), some (.int _ i) => bif decide (0 ≤ i) && decide (i < len) then some (.val (.pointer (some ⟨a.block, a.off + i.toNat * esz, none⟩))) else none | _, _ => none)
 | .iap x i esz len => (match x with
  | .t k => (match c k, cat gl i c with
   | some (.val (.pointer (some a))), some (.int _ i) => bif decide (0 ≤ i) && decide (i < len) then some (.val (.pointer (some ⟨a.block, a.off + i.toNat * esz, none⟩))) else none
   | some (.var _), some (.int _ i) => bif Nat.beq esz 1 && (decide (0 ≤ i) && decide (i < len)) then some (.refi k 0 i) else none
   | _, _ => none)
  | .c v => (match cat gl (.c v) c, cat gl i c with
   | some (.pointer (some a)), some (.int _ i) => bif decide (0 ≤ i) && decide (i < len) then some (.val (.pointer (some ⟨a.block, a.off + i.toNat * esz, none⟩))) else none
   | _, _ => none))
 | .ir k x i len => (match c k, c x, cat gl i c with
  | some (.var _), some (.ref j o), some (.int _ i) => bif Nat.beq j k && (decide (0 ≤ i) && decide (i < len)) then some (.refi k o i) else none
  | _, _, _ => none)
 | .nc x => (match cat gl x c with | some (.pointer (some a)) => some (.val (.pointer (some a))) | some (.func (.func f) ⟨a⟩ ⟨b⟩) => some (.val (.func (.func f) ⟨a⟩ ⟨b⟩)) | some (.func (.yield f) ⟨a⟩ ⟨b⟩) => some (.val (.func (.yield f) ⟨a⟩ ⟨b⟩)) | _ => none)
 | .va zeros => bif flatL zeros then some (.fresh zeros) else none
 | .vb x => (match cat gl x c with | some v => some (.fresh (cellsL v)) | none => none)
 | .vld k x => (match c k with
  | some (.var cs) => (match c x with
   | some (.var _) => bif Nat.beq x k then (match cs with | v :: _ => some (.val v) | [] => none) else none
   | some (.ref j off) => bif Nat.beq j k then (match cs.drop off with | v :: _ => some (.val v) | [] => none) else none
   | some (.refi j off i) => bif Nat.beq j k then (match cs[off + i.toNat]? with | some v => some (.val v) | none => none) else none
   | _ => none)
  | _ => none)
 | .vlds k x n => (match c k with
  | some (.var cs) => (match c x with
   | some (.var _) => bif Nat.beq x k && Nat.ble n cs.length then some (.val (.agg ⟨cs.take n⟩)) else none
   | some (.ref j off) => bif Nat.beq j k && Nat.ble (off + n) cs.length then some (.val (.agg ⟨(cs.drop off).take n⟩)) else none
   | _ => none)
  | _ => none)
 | .vst k x v n => (match c k, cat gl v c with
  | some (.var cs), some v => bif Nat.beq (cellsL v).length n && oneL (cellsL v) then (match c x with
   | some (.var _) => bif Nat.beq x k && Nat.ble n cs.length then some (.var (spliceL cs 0 (cellsL v))) else none
   | some (.ref j off) => bif Nat.beq j k && Nat.ble (off + n) cs.length then some (.var (spliceL cs off (cellsL v))) else none
   | some (.refi j off i) => bif Nat.beq j k && Nat.beq n 1 && (decide (0 ≤ (off + i.toNat : Int)) && decide ((off + i.toNat : Int) < cs.length)) then some (.var (spliceL cs (off + i.toNat) (cellsL v))) else none
   | _ => none) else none
  | _, _ => none)
 | .sx x i => (match cat gl x c, cat gl i c with | some (.string s), some (.int _ i) => bif decide (0 ≤ i) then (match s[i.toNat]? with | some b => some (.val (.int .u8 b.toNat)) | none => none) else none | _, _ => none)
 | .mf fn first caps => (match cats gl c first, cats gl c caps with | some us, some vs => some (.val (.func (.func fn) ⟨us⟩ ⟨vs⟩)) | _, _ => none)
 | .mi T x => (match cat gl x c with | some v => some (.val (.iface T v)) | none => none)
 | _ => none
def okA (o : IOp) (e : Env) (u : AV) : Prop := ∀ (P : Program) (m : Mem) (F : AV → Mem → Prop) (X : List PanicEntry → Mem → Prop), F u m → vop P o e m F X
theorem av_t (h : RE G c e) {k : Nat} {u : AV} (hk : c k = some u) : ∃ v, (Opd.t k).av e = some v ∧ RA G u v := h k u hk
theorem av_c (hg : GOK gl G) (h : RE G c e) {v : Value} {u : Value} (hk : cat gl (.c v) c = some u) : ∃ w, (Opd.c v).av e = some (.val w) ∧ RV G u w := by
 obtain ⟨w, h1, h2⟩ := cat_at hg h hk
 simp only [Opd.at] at h1; cases h1
 exact ⟨v, rfl, h2⟩
theorem lt_and {a b : Prop} [Decidable a] [Decidable b] (h : (decide a && decide b) = true) : a ∧ b := by simpa using h
theorem pv_sound {o : IOp} {u : AV} (hg : GOK gl G) (h : RE G c e) (hp : pv gl o c = some u) : ∃ v, RA G u v ∧ okA o e v := by
 cases o
 case mv x =>
  simp only [pv] at hp
  split at hp <;> try (cases hp; done)
  rename_i a ha; cases hp
  obtain ⟨v, h1, h2⟩ := cat_at hg h ha
  exact ⟨.val v, ⟨v, h2, rfl⟩, fun P m F X hF => by simp only [vop, h1]; exact hF⟩
 case pick b x y =>
  simp only [pv] at hp
  split at hp <;> try (cases hp; done)
  rename_i b vx vy hb hx hy; cases hp
  obtain ⟨wb, b1, b2⟩ := cat_at hg h hb
  cases b2.bool
  obtain ⟨wx, x1, x2⟩ := cat_at hg h hx
  obtain ⟨wy, y1, y2⟩ := cat_at hg h hy
  cases b with
  | true => exact ⟨.val wx, ⟨wx, x2, rfl⟩, fun P m F X hF => by simp only [vop, b1, x1, y1]; unfold Br; exact hF⟩
  | false => exact ⟨.val wy, ⟨wy, y2, rfl⟩, fun P m F X hF => by simp only [vop, b1, x1, y1]; unfold Br; exact hF⟩
 case bin op x y =>
  simp only [pv] at hp
  split at hp <;> try (cases hp; done)
  rename_i k n k' l hx hy
  obtain ⟨wx, x1, x2⟩ := cat_at hg h hx; cases x2.int
  obtain ⟨wy, y1, y2⟩ := cat_at hg h hy; cases y2.int
  cases hk : kbeq k k' with
  | false => rw [hk] at hp; cases hp
  | true =>
   rw [hk] at hp; simp only [cond_true] at hp
   split at hp <;> try (cases hp; done)
   rename_i v hv; cases hp
   exact ⟨.val v, ⟨v, binInt_closed hv, rfl⟩, fun P m F X hF => by simp only [vop, x1, y1, hk, cond_true, hv]; exact hF⟩
 case binN op x y =>
  simp only [pv] at hp
  split at hp <;> try (cases hp; done)
  rename_i k n k' l hx hy
  obtain ⟨wx, x1, x2⟩ := cat_at hg h hx; cases x2.int
  obtain ⟨wy, y1, y2⟩ := cat_at hg h hy; cases y2.int
  cases hk : kbeq k k' with
  | false => rw [hk] at hp; cases hp
  | true =>
   rw [hk] at hp; simp only [cond_true] at hp
   split at hp <;> try (cases hp; done)
   rename_i z hz
   cases hw : eqD (k.wrap z) z with
   | false => rw [hw] at hp; cases hp
   | true =>
    rw [hw] at hp; cases hp
    exact ⟨_, ⟨_, RV.int', rfl⟩, fun P m F X hF => by simp only [vop, x1, y1, hk, cond_true, hz]; exact WRng.mk (of_decide_eq_true hw) hF⟩
 case div op x y =>
  simp only [pv] at hp
  split at hp <;> try (cases hp; done)
  rename_i k n k' l hx hy
  obtain ⟨wx, x1, x2⟩ := cat_at hg h hx; cases x2.int
  obtain ⟨wy, y1, y2⟩ := cat_at hg h hy; cases y2.int
  cases hk : (kbeq k k' && !(eqD l 0)) with
  | false => rw [hk] at hp; cases hp
  | true =>
   rw [hk] at hp; simp only [cond_true] at hp
   rw [Bool.and_eq_true] at hk
   have hl : l ≠ 0 := by have := hk.2; simp [eqD] at this; exact this
   split at hp <;> try (cases hp; done)
   ·cases hp; exact ⟨_, ⟨_, RV.int', rfl⟩, fun P m F X hF => by simp only [vop, x1, y1, hk.1, cond_true]; exact WNe.mk hl hF⟩
   ·cases hp; exact ⟨_, ⟨_, RV.int', rfl⟩, fun P m F X hF => by simp only [vop, x1, y1, hk.1, cond_true]; exact WNe.mk hl hF⟩
 case shf op x y =>
  simp only [pv] at hp
  split at hp <;> try (cases hp; done)
  rename_i k n k' l hx hy
  obtain ⟨wx, x1, x2⟩ := cat_at hg h hx; cases x2.int
  obtain ⟨wy, y1, y2⟩ := cat_at hg h hy; cases y2.int
  cases hk : (decide (0 ≤ l) && decide (l < 64)) with
  | false => rw [hk] at hp; cases hp
  | true =>
   rw [hk] at hp; simp only [cond_true] at hp
   have hl : 0 ≤ l ∧ l < (64 : Nat) := lt_and hk
   split at hp <;> try (cases hp; done)
   ·cases hp; exact ⟨_, ⟨_, RV.int', rfl⟩, fun P m F X hF => by simp only [vop, x1, y1]; exact WBnd.mk hl hF⟩
   ·cases hp; exact ⟨_, ⟨_, RV.int', rfl⟩, fun P m F X hF => by simp only [vop, x1, y1]; exact WBnd.mk hl hF⟩
 case eq k neg x y =>
  simp only [pv] at hp
  split at hp <;> try (cases hp; done)
  rename_i a b ha hb
  obtain ⟨wx, x1, x2⟩ := cat_at hg h ha
  obtain ⟨wy, y1, y2⟩ := cat_at hg h hb
  split at hp <;> try (cases hp; done)
  rename_i r hr; cases hp
  exact ⟨_, ⟨_, RV.bool', rfl⟩, fun P m F X hF => by simp only [vop, x1, y1, eqV_rel hr x2 y2]; exact hF⟩
 case eqA neg n x y =>
  simp only [pv] at hp
  split at hp <;> try (cases hp; done)
  rename_i a b ha hb
  obtain ⟨wx, x1, x2⟩ := cat_at hg h ha
  obtain ⟨wy, y1, y2⟩ := cat_at hg h hb
  obtain ⟨xs, x3, rfl⟩ := x2.agg
  obtain ⟨ys, y3, rfl⟩ := y2.agg
  cases hn : Nat.beq a.length n with
  | false => rw [hn] at hp; cases hp
  | true =>
   rw [hn] at hp; simp only [cond_true] at hp
   split at hp <;> try (cases hp; done)
   rename_i r hr; cases hp
   refine ⟨_, ⟨_, RV.bool', rfl⟩, fun P m F X hF => ?_⟩
   simp only [vop, x1, y1]
   rw [← x3.len, hn]
   simp only [cond_true, eqCells_self hr x3 y3]; exact hF
 case un op x =>
  simp only [pv] at hp
  split at hp <;> try (cases hp; done)
  all_goals
   rename_i hx
   obtain ⟨wx, x1, x2⟩ := cat_at hg h hx
   first | cases x2.int | cases x2.bool
   cases hp
   exact ⟨_, ⟨_, by first | exact RV.int' | exact RV.bool', rfl⟩, fun P m F X hF => by simp only [vop, x1]; exact hF⟩
 case cv k x =>
  simp only [pv] at hp
  split at hp <;> try (cases hp; done)
  rename_i hx
  obtain ⟨wx, x1, x2⟩ := cat_at hg h hx
  cases x2.int; cases hp
  exact ⟨_, ⟨_, RV.int', rfl⟩, fun P m F X hF => by simp only [vop, x1]; exact hF⟩
 case cvN k x =>
  simp only [pv] at hp
  split at hp <;> try (cases hp; done)
  rename_i k' n hx
  obtain ⟨wx, x1, x2⟩ := cat_at hg h hx
  cases x2.int
  cases hw : eqD (k.wrap n) n with
  | false => rw [hw] at hp; cases hp
  | true => rw [hw] at hp; cases hp; exact ⟨_, ⟨_, RV.int', rfl⟩, fun P m F X hF => by simp only [vop, x1]; exact WRng.mk (of_decide_eq_true hw) hF⟩
 case len x =>
  simp only [pv] at hp
  split at hp <;> try (cases hp; done)
  ·rename_i a n d hx
   obtain ⟨wx, x1, x2⟩ := cat_at hg h hx
   cases hp
   cases a with
   | none => cases x2.sl0; exact ⟨_, ⟨_, RV.int', rfl⟩, fun P m F X hF => by simp only [vop, x1]; exact hF⟩
   | some a => obtain ⟨_, _, _, _, _, _, _, _, rfl⟩ := x2.sl; exact ⟨_, ⟨_, RV.int', rfl⟩, fun P m F X hF => by simp only [vop, x1]; exact hF⟩
  ·rename_i q hx
   obtain ⟨wx, x1, x2⟩ := cat_at hg h hx
   cases hp
   simp only [RV] at x2
   obtain ⟨a, d, rfl⟩ := x2
   exact ⟨_, ⟨_, RV.int', rfl⟩, fun P m F X hF => by simp only [vop, x1]; exact hF⟩
 case mm mx xs =>
  simp only [pv] at hp
  split at hp <;> try (cases hp; done)
  rename_i k x vs hx
  obtain ⟨ws, x1, x2⟩ := cats_ats hg h hx
  obtain ⟨y, ys, x3, x4, rfl⟩ := x2.inv
  cases x3.int
  split at hp <;> try (cases hp; done)
  rename_i v hv; cases hp
  obtain ⟨h3, n, rfl⟩ := minmax_self hv x4
  exact ⟨_, ⟨_, RV.int', rfl⟩, fun P m F X hF => by simp only [vop, x1, h3]; exact hF⟩
 case fld off n agg x =>
  simp only [pv] at hp
  split at hp <;> try (cases hp; done)
  rename_i cs hx
  obtain ⟨wx, x1, x2⟩ := cat_at hg h hx
  obtain ⟨ys, x3, rfl⟩ := x2.agg
  cases agg with
  | true => cases hp; exact ⟨_, ⟨_, RV.agg' ((x3.drop off).take n), rfl⟩, fun P m F X hF => by simp only [vop, x1]; exact hF⟩
  | false =>
   simp only at hp
   split at hp <;> try (cases hp; done)
   rename_i v r hv; cases hp
   have h3 := x3.drop off
   rw [hv] at h3
   obtain ⟨y, zs, h4, h5, h6⟩ := h3.inv
   exact ⟨_, ⟨_, h4, rfl⟩, fun P m F X hF => by simp only [vop, x1, h6]; exact hF⟩
 case idx esz len x i =>
  simp only [pv] at hp
  split at hp <;> try (cases hp; done)
  rename_i cs k j hx hi
  obtain ⟨wx, x1, x2⟩ := cat_at hg h hx
  obtain ⟨ys, x3, rfl⟩ := x2.agg
  obtain ⟨wi, i1, i2⟩ := cat_at hg h hi
  cases i2.int
  cases hb : (Nat.beq esz 1 && (decide (0 ≤ j) && decide (j < len))) with
  | false => rw [hb] at hp; cases hp
  | true =>
   rw [hb] at hp; simp only [cond_true] at hp
   rw [Bool.and_eq_true] at hb
   split at hp <;> try (cases hp; done)
   rename_i v hv; cases hp
   obtain ⟨y, y1, y2⟩ := x3.at hv
   exact ⟨_, ⟨_, y2, rfl⟩, fun P m F X hF => by simp only [vop, x1, i1, hb.1, cond_true]; exact WBnd.mk (lt_and hb.2) (WGet.mk y y1 hF)⟩
 case ext x i =>
  simp only [pv] at hp
  split at hp <;> try (cases hp; done)
  rename_i cs hx
  obtain ⟨wx, x1, x2⟩ := cat_at hg h hx
  obtain ⟨ys, x3, rfl⟩ := x2.tuple
  split at hp <;> try (cases hp; done)
  rename_i v r hv; cases hp
  have h3 := x3.drop i
  rw [hv] at h3
  obtain ⟨y, zs, h4, h5, h6⟩ := h3.inv
  exact ⟨_, ⟨_, h4, rfl⟩, fun P m F X hF => by simp only [vop, x1, h6]; exact hF⟩
 case bd zeros parts =>
  simp only [pv] at hp
  cases hz : flatL zeros with
  | false => rw [hz] at hp; cases hp
  | true =>
   rw [hz] at hp; simp only [cond_true] at hp
   split at hp <;> try (cases hp; done)
   rename_i ps hps
   obtain ⟨qs, q1, q2⟩ := cparts_parts hg h hps
   split at hp <;> try (cases hp; done)
   rename_i cs hcs; cases hp
   obtain ⟨r, r1, r2⟩ := fill_rel q2 (flatL_self (G := G) zeros hz) hcs
   exact ⟨_, ⟨_, RV.agg' r2, rfl⟩, fun P m F X hF => by simp only [vop, q1, r1]; exact hF⟩
 case fa x off =>
  simp only [pv] at hp
  split at hp
  ·rename_i k
   split at hp <;> try (cases hp; done)
   ·rename_i a ha; cases hp
    obtain ⟨v, v1, w, v2, rfl⟩ := av_t h ha
    obtain ⟨b, sz, L, g1, g2, rfl⟩ := v2.ptr
    refine ⟨_, ⟨.pointer (some ⟨b, a.off + off, none⟩), RV.ptr' g1, rfl⟩, fun P m F X hF => ?_⟩
    simp only [vop, v1, add_none]; exact hF
   ·rename_i cs ha; cases hp
    obtain ⟨v, v1, w, v2, rfl⟩ := av_t h ha
    exact ⟨_, rfl, fun P m F X hF => by simp only [vop, v1]; exact hF⟩
  ·rename_i v
   split at hp <;> try (cases hp; done)
   rename_i a ha; cases hp
   obtain ⟨w, v1, v2⟩ := av_c hg h ha
   obtain ⟨b, sz, L, g1, g2, rfl⟩ := v2.ptr
   refine ⟨_, ⟨.pointer (some ⟨b, a.off + off, none⟩), RV.ptr' g1, rfl⟩, fun P m F X hF => ?_⟩
   simp only [vop, v1, add_none]; exact hF
 case fr k x off =>
  simp only [pv] at hp
  split at hp <;> try (cases hp; done)
  rename_i cs j o hk hx
  obtain ⟨v, v1, ds, v2, rfl⟩ := h _ _ hk
  obtain ⟨w, w1, w2⟩ := h _ _ hx
  cases w2
  cases hb : Nat.beq j k with
  | false => rw [hb] at hp; cases hp
  | true => rw [hb] at hp; cases hp; exact ⟨_, rfl, fun P m F X hF => by simp only [vop, v1, w1, hb, cond_true]; exact hF⟩
 case ia x i esz =>
  simp only [pv] at hp
  split at hp <;> try (cases hp; done)
  rename_i a len d k j hx hi
  obtain ⟨wx, x1, x2⟩ := cat_at hg h hx
  obtain ⟨wi, i1, i2⟩ := cat_at hg h hi
  cases i2.int
  obtain ⟨b, sz, L, d', g1, g2, g3, g4, rfl⟩ := x2.sl
  cases hb : (decide (0 ≤ j) && decide (j < len)) with
  | false => rw [hb] at hp; cases hp
  | true =>
   rw [hb] at hp; cases hp
   refine ⟨_, ⟨.pointer (some ⟨b, a.off + j.toNat * esz, none⟩), RV.ptr' g1, rfl⟩, fun P m F X hF => ?_⟩
   simp only [vop, x1, i1]
   exact WIdx.mk _ rfl (lt_and hb) (by rw [add_none]; exact hF)
 case iap x i esz len =>
  simp only [pv] at hp
  split at hp
  ·rename_i k
   split at hp <;> try (cases hp; done)
   ·rename_i a k' j ha hi
    obtain ⟨v, v1, w, v2, rfl⟩ := av_t h ha
    obtain ⟨b, sz, L, g1, g2, rfl⟩ := v2.ptr
    obtain ⟨wi, i1, i2⟩ := cat_at hg h hi
    cases i2.int
    cases hb : (decide (0 ≤ j) && decide (j < len)) with
    | false => rw [hb] at hp; cases hp
    | true =>
     rw [hb] at hp; cases hp
     refine ⟨_, ⟨.pointer (some ⟨b, a.off + j.toNat * esz, none⟩), RV.ptr' g1, rfl⟩, fun P m F X hF => ?_⟩
     simp only [vop, v1, i1, add_none]
     exact WBnd.mk (lt_and hb) hF
   ·rename_i cs k' j ha hi
    obtain ⟨v, v1, w, v2, rfl⟩ := av_t h ha
    obtain ⟨wi, i1, i2⟩ := cat_at hg h hi
    cases i2.int
    cases hb : (Nat.beq esz 1 && (decide (0 ≤ j) && decide (j < len))) with
    | false => rw [hb] at hp; cases hp
    | true =>
     rw [hb] at hp; cases hp
     rw [Bool.and_eq_true] at hb
     exact ⟨_, rfl, fun P m F X hF => by simp only [vop, v1, i1, hb.1, cond_true]; exact WBnd.mk (lt_and hb.2) hF⟩
  ·rename_i v
   split at hp <;> try (cases hp; done)
   rename_i a k' j ha hi
   obtain ⟨w, v1, v2⟩ := av_c hg h ha
   obtain ⟨b, sz, L, g1, g2, rfl⟩ := v2.ptr
   obtain ⟨wi, i1, i2⟩ := cat_at hg h hi
   cases i2.int
   cases hb : (decide (0 ≤ j) && decide (j < len)) with
   | false => rw [hb] at hp; cases hp
   | true =>
    rw [hb] at hp; cases hp
    refine ⟨_, ⟨.pointer (some ⟨b, a.off + j.toNat * esz, none⟩), RV.ptr' g1, rfl⟩, fun P m F X hF => ?_⟩
    simp only [vop, v1, i1, add_none]
    exact WBnd.mk (lt_and hb) hF
 case ir k x i len =>
  simp only [pv] at hp
  split at hp <;> try (cases hp; done)
  rename_i cs j o k' n hk hx hi
  obtain ⟨v, v1, ds, v2, rfl⟩ := h _ _ hk
  obtain ⟨w, w1, w2⟩ := h _ _ hx
  cases w2
  obtain ⟨wi, i1, i2⟩ := cat_at hg h hi
  cases i2.int
  cases hb : (Nat.beq j k && (decide (0 ≤ n) && decide (n < len))) with
  | false => rw [hb] at hp; cases hp
  | true =>
   rw [hb] at hp; cases hp
   rw [Bool.and_eq_true] at hb
   exact ⟨_, rfl, fun P m F X hF => by simp only [vop, v1, w1, i1, hb.1, cond_true]; exact WBnd.mk (lt_and hb.2) hF⟩
 case nc x =>
  simp only [pv] at hp
  split at hp <;> try (cases hp; done)
  ·rename_i a hx; cases hp
   obtain ⟨wx, x1, x2⟩ := cat_at hg h hx
   have x3 := x2
   obtain ⟨b, sz, L, g1, g2, rfl⟩ := x3.ptr
   exact ⟨_, ⟨_, x2, rfl⟩, fun P m F X hF => by simp only [vop, x1]; exact hF⟩
  ·rename_i f xs ys hx; cases hp
   obtain ⟨wx, x1, x2⟩ := cat_at hg h hx
   have x3 := x2
   simp only [RV] at x3
   obtain ⟨f', xs', ys', hf, _, _, rfl⟩ := x3
   obtain rfl := hf.func
   exact ⟨_, ⟨_, x2, rfl⟩, fun P m F X hF => by simp only [vop, x1]; exact hF⟩
  ·rename_i f xs ys hx; cases hp
   obtain ⟨wx, x1, x2⟩ := cat_at hg h hx
   have x3 := x2
   simp only [RV] at x3
   obtain ⟨f', xs', ys', hf, _, _, rfl⟩ := x3
   obtain ⟨b, sz, L, _, rfl⟩ := hf
   exact ⟨_, ⟨_, x2, rfl⟩, fun P m F X hF => by simp only [vop, x1]; exact hF⟩
 case va zeros =>
  simp only [pv] at hp
  cases hz : flatL zeros with
  | false => rw [hz] at hp; cases hp
  | true => rw [hz] at hp; cases hp; exact ⟨_, ⟨_, flatL_self zeros hz, rfl⟩, fun P m F X hF => by simp only [vop]; exact hF⟩
 case vb x =>
  simp only [pv] at hp
  split at hp <;> try (cases hp; done)
  rename_i v hx; cases hp
  obtain ⟨wx, x1, x2⟩ := cat_at hg h hx
  exact ⟨_, ⟨_, x2.cells, rfl⟩, fun P m F X hF => by simp only [vop, x1]; exact hF⟩
 case vld k x =>
  simp only [pv] at hp
  split at hp <;> try (cases hp; done)
  rename_i cs hk
  obtain ⟨v, v1, ds, v2, rfl⟩ := h _ _ hk
  split at hp <;> try (cases hp; done)
  ·rename_i cs' hx
   obtain ⟨w, w1, ds', w2, rfl⟩ := h _ _ hx
   cases hb : Nat.beq x k with
   | false => rw [hb] at hp; cases hp
   | true =>
    rw [hb] at hp; simp only [cond_true] at hp
    split at hp <;> try (cases hp; done)
    rename_i u r; cases hp
    obtain ⟨y, zs, h4, h5, rfl⟩ := v2.inv
    exact ⟨_, ⟨_, h4, rfl⟩, fun P m F X hF => by simp only [vop, v1, w1, hb, cond_true]; exact hF⟩
  ·rename_i j off hx
   obtain ⟨w, w1, w2⟩ := h _ _ hx
   cases w2
   cases hb : Nat.beq j k with
   | false => rw [hb] at hp; cases hp
   | true =>
    rw [hb] at hp; simp only [cond_true] at hp
    split at hp <;> try (cases hp; done)
    rename_i u r hv; cases hp
    have h3 := v2.drop off
    rw [hv] at h3
    obtain ⟨y, zs, h4, h5, h6⟩ := h3.inv
    exact ⟨_, ⟨_, h4, rfl⟩, fun P m F X hF => by simp only [vop, v1, w1, hb, cond_true, h6]; exact hF⟩
  ·rename_i j off i hx
   obtain ⟨w, w1, w2⟩ := h _ _ hx
   cases w2
   cases hb : Nat.beq j k with
   | false => rw [hb] at hp; cases hp
   | true =>
    rw [hb] at hp; simp only [cond_true] at hp
    split at hp <;> try (cases hp; done)
    rename_i u hu; cases hp
    obtain ⟨y, y1, y2⟩ := v2.at hu
    exact ⟨_, ⟨_, y2, rfl⟩, fun P m F X hF => by simp only [vop, v1, w1, hb, cond_true]; exact WGet.mk y y1 hF⟩
 case vlds k x n =>
  simp only [pv] at hp
  split at hp <;> try (cases hp; done)
  rename_i cs hk
  obtain ⟨v, v1, ds, v2, rfl⟩ := h _ _ hk
  split at hp <;> try (cases hp; done)
  ·rename_i cs' hx
   obtain ⟨w, w1, ds', w2, rfl⟩ := h _ _ hx
   cases hb : (Nat.beq x k && Nat.ble n cs.length) with
   | false => rw [hb] at hp; cases hp
   | true =>
    rw [hb] at hp; cases hp
    rw [v2.len] at hb
    exact ⟨_, ⟨_, RV.agg' (v2.take n), rfl⟩, fun P m F X hF => by simp only [vop, v1, w1, hb, cond_true]; exact hF⟩
  ·rename_i j off hx
   obtain ⟨w, w1, w2⟩ := h _ _ hx
   cases w2
   cases hb : (Nat.beq j k && Nat.ble (off + n) cs.length) with
   | false => rw [hb] at hp; cases hp
   | true =>
    rw [hb] at hp; cases hp
    rw [v2.len] at hb
    exact ⟨_, ⟨_, RV.agg' ((v2.drop off).take n), rfl⟩, fun P m F X hF => by simp only [vop, v1, w1, hb, cond_true]; exact hF⟩
 case vst k x v n =>
  simp only [pv] at hp
  split at hp <;> try (cases hp; done)
  rename_i cs u hk hu
  obtain ⟨v, v1, ds, v2, rfl⟩ := h _ _ hk
  obtain ⟨wu, u1, u2⟩ := cat_at hg h hu
  cases hc : (Nat.beq (cellsL u).length n && oneL (cellsL u)) with
  | false => rw [hc] at hp; cases hp
  | true =>
   rw [hc] at hp; simp only [cond_true] at hp
   rw [Bool.and_eq_true] at hc
   have hc' : (Nat.beq (cellsL wu).length n && oneL (cellsL wu)) = true := by rw [← u2.cells.len, hc.1, u2.cells.one hc.2]; rfl
   split at hp <;> try (cases hp; done)
   ·rename_i cs' hx
    obtain ⟨w, w1, ds', w2, rfl⟩ := h _ _ hx
    cases hb : (Nat.beq x k && Nat.ble n cs.length) with
    | false => rw [hb] at hp; cases hp
    | true =>
     rw [hb] at hp; cases hp
     rw [v2.len] at hb
     exact ⟨_, ⟨_, RVL.splice 0 v2 u2.cells, rfl⟩, fun P m F X hF => by simp only [vop, v1, u1, hc', w1, hb, cond_true]; exact hF⟩
   ·rename_i j off hx
    obtain ⟨w, w1, w2⟩ := h _ _ hx
    cases w2
    cases hb : (Nat.beq j k && Nat.ble (off + n) cs.length) with
    | false => rw [hb] at hp; cases hp
    | true =>
     rw [hb] at hp; cases hp
     rw [v2.len] at hb
     exact ⟨_, ⟨_, RVL.splice off v2 u2.cells, rfl⟩, fun P m F X hF => by simp only [vop, v1, u1, hc', w1, hb, cond_true]; exact hF⟩
   ·rename_i j off i hx
    obtain ⟨w, w1, w2⟩ := h _ _ hx
    cases w2
    cases hb : (Nat.beq j k && Nat.beq n 1 && (decide (0 ≤ (off + i.toNat : Int)) && decide ((off + i.toNat : Int) < cs.length))) with
    | false => rw [hb] at hp; cases hp
    | true =>
     rw [hb] at hp; cases hp
     rw [Bool.and_eq_true] at hb
     refine ⟨_, ⟨_, RVL.splice (off + i.toNat) v2 u2.cells, rfl⟩, fun P m F X hF => ?_⟩
     simp only [vop, v1, u1, hc', w1, hb.1, cond_true]
     refine WBnd.mk ?_ hF
     rw [← v2.len]; exact lt_and hb.2
 case sx x i =>
  simp only [pv] at hp
  split at hp <;> try (cases hp; done)
  rename_i s k j hx hi
  obtain ⟨wx, x1, x2⟩ := cat_at hg h hx
  obtain ⟨wi, i1, i2⟩ := cat_at hg h hi
  cases i2.int
  simp only [RV] at x2
  subst x2
  cases hb : decide (0 ≤ j) with
  | false => rw [hb] at hp; cases hp
  | true =>
   rw [hb] at hp; simp only [cond_true] at hp
   split at hp <;> try (cases hp; done)
   rename_i b hbb; cases hp
   exact ⟨_, ⟨_, RV.int', rfl⟩, fun P m F X hF => by simp only [vop, x1, i1]; exact WByte.mk b ⟨of_decide_eq_true hb, hbb⟩ hF⟩
 case mf fn first caps =>
  simp only [pv] at hp
  split at hp <;> try (cases hp; done)
  rename_i us vs hy hx; cases hp
  obtain ⟨ws, x1, x2⟩ := cats_ats hg h hx
  obtain ⟨zs, y1, y2⟩ := cats_ats hg h hy
  exact ⟨_, ⟨.func (.func fn) ⟨zs⟩ ⟨ws⟩, by simp only [RV]; exact ⟨_, zs, ws, rfl, y2, x2, rfl⟩, rfl⟩, fun P m F X hF => by simp only [vop, x1, y1]; exact hF⟩
 case mi T x =>
  simp only [pv] at hp
  split at hp <;> try (cases hp; done)
  rename_i v hx; cases hp
  obtain ⟨wx, x1, x2⟩ := cat_at hg h hx
  exact ⟨_, ⟨.iface T wx, by simp only [RV]; exact ⟨wx, x2, rfl⟩, rfl⟩, fun P m F X hF => by simp only [vop, x1]; exact hF⟩
 all_goals (simp only [pv] at hp; cases hp)
end Go.Vx.Ev
