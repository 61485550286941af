/- VX, part 4: the checker of one operation, and that it is sound. -/
import Derived.Test.YtmnagbhllnlelaaGreatDoorVxOps
import Derived.Laws.StructEq
namespace Go.Vx
open Go
variable {P : Program} {D0 : DBase} {ro : Option Nat} {m0 : Mem} {w0 : World} {N : Nat} {e : Env} {m : Mem} {a : Act} {w : World} {next : Act → World → Prop} {Q : Exit → Act → World → Prop}

def okInt (P : Program) (t : TypeId) (k : IntKind) : Bool := match P.underlying t with | some (.int j) => kbeq j k | _ => false
def okKind (P : Program) (t : TypeId) (k : EK) : Bool :=
  match k, P.underlying t with
  | .b, some .bool => true
  | .s, some (.slice _) => true
  | .p, some (.pointer _) => true
  | .f, some (.func _ _ _) => true
  | .i, some (.interface _) => true
  | _, _ => false
/-- The fields from place i on: all of them of an int type, one cell each, in order. -/
def okEqF (P : Program) (i : Nat) : List Field → Bool
  | [] => true
  | f :: fs => (match P.underlying f.type with | some (.int _) => true | _ => false) && f.name != "_" && Nat.beq f.offset i && okEqF P (i + 1) fs
def okEqA (P : Program) (t : TypeId) (n : Nat) : Bool :=
  (match P.underlying t with | some (.struct fs) => Nat.beq fs.toList.length n && okEqF P 0 fs.toList | _ => false) && !(P.stoodInHeld t) && !(P.eqGuardType P.depth t)
def okLen (P : Program) (t : TypeId) : Bool := match P.underlying t with | some (.slice _) => true | some .string => true | _ => false
def okField (P : Program) (t : TypeId) (f off : Nat) : Bool :=
  match P.underlying t with
  | some (.struct fs) => (match fs[f]? with | some x => Nat.beq x.offset off && (match P.info? x.type with | some i => !(Nat.beq i.size 0) | none => false) | none => false)
  | _ => false
def okFieldV (P : Program) (t : TypeId) (f off n : Nat) (agg : Bool) : Bool :=
  match P.underlying t with
  | some (.struct fs) => (match fs[f]? with | some x => Nat.beq x.offset off && okAgg P x.type agg n && (agg || Nat.beq n 1) | none => false)
  | _ => false
def okElem (P : Program) (t esz : Nat) : Bool := match P.underlying t with | some (.slice el) => (match P.info? el with | some i => Nat.beq i.size esz | none => false) | _ => false
def okArr (P : Program) (t esz len : Nat) : Bool := match P.underlying t with | some (.array l el) => Nat.beq l len && (match P.info? el with | some i => Nat.beq i.size esz | none => false) | _ => false
def okArrV (P : Program) (t esz len : Nat) : Bool := match P.underlying t with | some (.array l el) => Nat.beq l len && okAgg P el false esz | _ => false
def okZero (P : Program) (t : TypeId) (zeros : List Value) : Bool := match P.info? t with | some i => (match i.zero with | some z => veqL (cellsL z) zeros && Nat.beq i.size zeros.length | none => false) | none => false
def okPlace (P : Program) (t : TypeId) (i off n : Nat) : Bool :=
  match P.underlying t with
  | some (.struct fs) => (match fs[i]? with | some x => Nat.beq x.offset off && (match P.info? x.type with | some y => Nat.beq y.size n | none => false) | none => false)
  | some (.array _ el) => (match P.info? el with | some y => Nat.beq y.size n && Nat.beq (i * n) off | none => false)
  | _ => false
def okParts (ok : Nat → Nat → Nat → Bool) : List (Nat × Nat × Opd) → List (Nat × Operand) → Bool
  | [], [] => true
  | (off, n, x) :: ps, (i, y) :: qs => ok i off n && okX x y && okParts ok ps qs
  | _, _ => false
def okFieldsSized (P : Program) (t : TypeId) : Bool := match P.underlying t with | some (.struct fs) => fs.all fun f => (P.info? f.type).isSome | some (.array _ el) => (P.info? el).isSome | _ => false
def okElemT (P : Program) (t el : TypeId) (sz bytes : Nat) (zero : List Value) : Bool :=
  match P.underlying t with
  | some (.slice u) => Nat.beq u el && okZero P el zero && (match P.info? el with | some i => Nat.beq i.size sz && Nat.beq i.bytes bytes | none => false) && !(Nat.beq bytes 0) && !(Nat.beq sz 0)
  | _ => false
def okO (x : Option Opd) (y : Option Operand) : Bool := match x, y with | none, none => true | some x, some y => okX x y | _, _ => false
def okConcrete (P : Program) (t : TypeId) : Bool := match P.underlying t with | some (.interface _) => false | some _ => true | none => false

def okKey (P : Program) (t : TypeId) (kn : Nat) : Bool :=
  match P.underlying t with
  | some (.int _) => Nat.beq kn 0
  | some (.array n el) => !(Nat.beq kn 0) && Nat.beq n kn && (match P.underlying el, P.info? el with | some (.int _), some i => Nat.beq i.size 1 | _, _ => false)
  | _ => false
/-- A map's type: its keys, and the zero of its elements. -/
def okMap (P : Program) (t : TypeId) (kn : Nat) : Bool := match P.underlying t with | some (.map kt _) => okKey P kt kn | _ => false
def okMapZ (P : Program) (t : TypeId) (zero : Value) : Bool := match P.underlying t with | some (.map _ el) => (match P.info? el with | some i => (match i.zero with | some z => veq z zero | none => false) | none => false) | _ => false
def isMapT (P : Program) (t : TypeId) : Bool := match P.underlying t with | some (.map _ _) => true | _ => false
def okMp (P : Program) (k : MOp) (xs : List Opd) (op : Op) : Bool :=
  match k, xs, op with
  | .cap, [x], .call c => (match c.callee with | .builtin .cap => (match c.args.toList, c.argTypes.toList with | [y], t :: _ => okX x y && (match P.underlying t with | some (.slice _) => true | _ => false) | _, _ => false) | _ => false)
  | .apz el sz bytes zero, [x, i], .call c => (match c.callee with | .builtin .append => (match c.args.toList, c.argTypes.toList with | [y, z], t :: u :: _ => okX x y && okX i z && okElemT P t el sz bytes zero && Nat.beq sz zero.length && (match P.underlying u with | some (.int _) => true | _ => false) | _, _ => false) | _ => false)
  | .mk, [], .makeMap _ none => true
  | .lk kn ok zero, [x, i], .lookup t x' i' ok' => okMap P t kn && okMapZ P t zero && (ok == ok') && okX x x' && okX i i'
  | .up kn, [m, k, x], .mapUpdate t m' k' x' => okMap P t kn && okX m m' && okX k k' && okX x x'
  | .up kn, [m, k, x], .insert t m' k' x' => okMap P t kn && okX m m' && okX k k' && okX x x'
  | .ln, [x], .call c => (match c.callee with | .builtin .len => (match c.args.toList, c.argTypes.toList with | [y], t :: _ => okX x y && isMapT P t | _, _ => false) | _ => false)
  | .rg, [x], .range t x' => isMapT P t && okX x x'
  | .nx, [x], .next x' false => okX x x'
  | .en, [x], .entry x' => okX x x'
  | _, _, _ => false
/-- The checker of one operation: its slot, and what it does. -/
def okOp (P : Program) (o : Oper) (x : IOp) : Bool :=
  match x, o.op with
  | .mv x, .move y => okX x y
  | .mv x, .assign y => okX x y
  | .pick c a b, .pick c' a' b' => okX c c' && okX a a' && okX b b'
  | .bin op x y, .binOp op' _ x' y' _ => op == op' && okX x x' && okX y y'
  | .binN op x y, .binOp op' _ x' y' _ => op == op' && okX x x' && okX y y'
  | .div op x y, .binOp op' _ x' y' _ => op == op' && okX x x' && okX y y'
  | .shf op x y, .binOp op' _ x' y' _ => op == op' && okX x x' && okX y y'
  | .eq k neg x y, .binOp op t x' y' _ => (op == if neg then .neq else .eql) && okKind P t k && okX x x' && okX y y'
  | .eqA neg n x y, .binOp op t x' y' _ => (op == if neg then .neq else .eql) && okEqA P t n && okX x x' && okX y y'
  | .un op x, .unOp op' _ x' => op == op' && okX x x'
  | .cv k x, .convert s d x' => (P.underlying s).isSome && okInt P d k && okX x x'
  | .cvN k x, .convert s d x' => (P.underlying s).isSome && okInt P d k && okX x x'
  | .len x, .call c => (match c.callee with | .builtin .len => (match c.args.toList, c.argTypes.toList with | [y], t :: _ => okX x y && (match P.underlying t with | some (.slice _) => true | _ => false) | _, _ => false) | _ => false)
  | .mm mx xs, .call c => (match c.callee with | .builtin .max => mx && okXs xs c.args.toList | .builtin .min => !mx && okXs xs c.args.toList | _ => false)
  | .fld off n agg x, .field t x' f => okFieldV P t f off n agg && okX x x'
  | .idx esz len x i, .index t x' i' => okArrV P t esz len && okX x x' && okX i i'
  | .sx x i, .index t x' i' => (match P.underlying t with | some .string => true | _ => false) && okX x x' && okX i i'
  | .ext x i, .extract x' i' => Nat.beq i i' && okX x x'
  | .bd zeros parts, .build t ps => okZero P t zeros && okFieldsSized P t && okParts (okPlace P t) parts ps.toList
  | .fa x off, .fieldAddr t x' f => okField P t f off && okX x x'
  | .fr _ x off, .fieldAddr t x' f => okField P t f off && okX (.t x) x'
  | .ia x i esz, .indexAddr t x' i' => okElem P t esz && okX x x' && okX i i'
  | .iap x i esz len, .indexAddr t x' i' => okArr P t esz len && okX x x' && okX i i'
  | .ir _ x i len, .indexAddr t x' i' => okArr P t 1 len && okX (.t x) x' && okX i i'
  | .nc x, .nilCheck x' => okX x x'
  | .ld x, .load t x' => okAgg P t false 1 && okX x x'
  | .lds x n, .load t x' => okAgg P t true n && okX x x'
  | .st x v n, .store t x' v' => (okAgg P t true n || okAgg P t false n) && okX x x' && okX v v'
  | .va zeros, .alloc t => okZero P t zeros
  | .vb x, .box _ x' => okX x x'
  | .vld _ x, .load t x' => okAgg P t false 1 && okX (.t x) x'
  | .vlds _ x n, .load t x' => okAgg P t true n && okX (.t x) x'
  | .vst _ x v n, .store t x' v' => (okAgg P t true n || okAgg P t false n) && okX (.t x) x' && okX v v'
  | .al t zeros, .alloc t' => Nat.beq t t' && okZero P t zeros
  | .bx t x, .box t' x' => Nat.beq t t' && okX x x'
  | .bs el len zeros parts, .buildSlice t n ps => Nat.beq len n && (match P.underlying t with
      | some (.slice u) => Nat.beq u el && (match P.info? el with
        | some i => !(Nat.beq i.size 0) && Nat.ble (n * i.size) 16777216 && (match i.zero with | some z => veqL (List.replicate n (cellsL z)).flatten zeros && Nat.beq i.size (cellsL z).length | none => false) && okParts (fun j off sz => Nat.beq sz i.size && Nat.beq (j * sz) off) parts ps.toList
        | none => false)
      | _ => false)
  | .mk el bytes zero l c, .makeSlice t l' c' => okElemT P t el zero.length bytes zero && okX l l' && okX c c'
  | .ap el sz bytes zero s x, .call c => (match c.callee with
      | .builtin .append => (match c.args.toList, c.argTypes.toList with | [y, z], t :: u :: _ => okElemT P t el sz bytes zero && Nat.beq sz zero.length && (match P.underlying u with | some (.slice _) => true | _ => false) && okX s y && okX x z | _, _ => false)
      | _ => false)
  | .cp sz d x, .call c => (match c.callee with
      | .builtin .copy => (match c.args.toList, c.argTypes.toList with | [y, z], t :: _ => okElem P t sz && okX d y && okX x z | _, _ => false)
      | _ => false)
  | .clr sz zero x, .call c => (match c.callee with
      | .builtin .clear => (match c.args.toList, c.argTypes.toList with | [y], t :: _ => (match P.underlying t with | some (.slice el) => okZero P el zero && Nat.beq sz zero.length | _ => false) && okX x y | _, _ => false)
      | _ => false)
  | .sl x lo hi esz, .slice t x' lo' hi' none => okElem P t esz && okX x x' && okO lo lo' && okO hi hi'
  | .sla x len, .slice t x' none none none => (match P.underlying t with | some (.array l el) => Nat.beq l len && !(Nat.beq len 0) && (P.info? el).isSome | _ => false) && okX x x'
  | .mp k xs, op => okMp P k xs op
  | .call f args, .call c => (match c.callee with | .value (.func g) => Nat.beq f g && okXs args c.args.toList | _ => false)
  | .callG f args, .call c => (match c.callee with | .value (.func g) => Nat.beq f g && okXs args c.args.toList | _ => false)
  | .callV f args, .call c => (match c.callee with | .value g => okX f g && okXs args c.args.toList | _ => false)
  | .callVG f args, .call c => (match c.callee with | .value g => okX f g && okXs args c.args.toList | _ => false)
  | .mf fn first caps, .makeFunc (.func g) fs cs => Nat.beq fn g && okXs first fs.toList && okXs caps cs.toList
  | .mi t x, .makeInterface t' x' => Nat.beq t t' && okConcrete P t && okX x x'
  | .pn x, .panic x' => okX x x'
  | _, _ => false
/-- The slot that is written, in the run and in the form; a store into a variable writes the variable's slot in the form alone. -/
def okD (N : Nat) (o : Oper) (x : E) : Bool :=
  match x.o with
  | .vst k _ _ _ => (match x.d, o.dst with | some d, none => Nat.beq d k | _, _ => false)
  | .va _ | .vb _ => (match x.d, o.dst with | some d, some t => Nat.beq d t && Nat.ble (d + 1) N | _, _ => false)
  | _ => (match x.d, o.dst with | some d, some t => Nat.beq d t && Nat.ble (d + 1) N | none, none => true | _, _ => false)

theorem Rel.putVal (h : Rel D0 m0 w0 N e m a w) {d t : Option Nat} (hd : (match d, t with | some d, some t => Nat.beq d t && Nat.ble (d + 1) N | none, none => true | _, _ => false) = true) (v : Value) :
    Rel D0 m0 w0 N (e.put d (.val v)) m (a.put t v) w := by
  cases d with
  | none => cases t with
    | none => exact h
    | some t => cases hd
  | some d => cases t with
    | none => cases hd
    | some t =>
      simp only [Bool.and_eq_true] at hd
      obtain rfl := beq_ff hd.1
      exact h.updVal (Nat.le_of_ble_eq_true hd.2) v

section runs
theorem run_bin {op : BinOp} {k : IntKind} {n l : Int} {v : Value} (hv : binInt op k n l = some v) (t : TypeId) (x y : Operand) :
    (do eqGuard op t x y (.int k n) (.int k l); binOp op t (.int k n) (.int k l) : Sem Value).run P w = .ok v w := by
  cases op <;> simp only [binInt, Option.some.injEq] at hv <;> first | (cases hv; done) | (subst hv; simp [eqGuard, binOp, Op.intArith, Op.intBits, Op.intCmp])
theorem run_equal {k : EK} {x y : Value} {r : Bool} {t : TypeId} (ht : okKind P t k = true) (hr : eqV k x y = some r) : (Op.equal t x y).run P w = .ok r w := by
  have key : ∀ d, (Op.equalIn (d + 1) t x y).run P w = .ok r w := by
    intro d
    unfold okKind at ht
    match k, x, y, hr with
    | .b, .bool a, .bool b, hr => simp only [eqV, Option.some.injEq] at hr; subst hr; split at ht <;> first | (cases ht; done) | (rename_i hk hu; first | (cases hk; done) | (refine (Sem.run_bind' P (underlying t) _ w).trans ?_; rw [run_underlying hu]; rfl))
    | .s, .slice a _ _, .slice none _ _, hr => simp only [eqV, Option.some.injEq] at hr; subst hr; split at ht <;> first | (cases ht; done) | (rename_i hk hu; first | (cases hk; done) | (refine (Sem.run_bind' P (underlying t) _ w).trans ?_; rw [run_underlying hu]; cases a <;> rfl))
    | .p, .pointer a, .pointer none, hr => simp only [eqV, Option.some.injEq] at hr; subst hr; split at ht <;> first | (cases ht; done) | (rename_i hk hu; first | (cases hk; done) | (refine (Sem.run_bind' P (underlying t) _ w).trans ?_; rw [run_underlying hu]; cases a <;> rfl))
    | .f, .nilFunc, .nilFunc, hr => simp only [eqV, Option.some.injEq] at hr; subst hr; split at ht <;> first | (cases ht; done) | (rename_i hk hu; first | (cases hk; done) | (refine (Sem.run_bind' P (underlying t) _ w).trans ?_; rw [run_underlying hu]; rfl))
    | .f, .func _ _ _, .nilFunc, hr => simp only [eqV, Option.some.injEq] at hr; subst hr; split at ht <;> first | (cases ht; done) | (rename_i hk hu; first | (cases hk; done) | (refine (Sem.run_bind' P (underlying t) _ w).trans ?_; rw [run_underlying hu]; rfl))
    | .i, .iface _ _, .nilIface, hr => simp only [eqV, Option.some.injEq] at hr; subst hr; split at ht <;> first | (cases ht; done) | (rename_i hk hu; first | (cases hk; done) | (refine (Sem.run_bind' P (underlying t) _ w).trans ?_; rw [run_underlying hu]; rfl))
  exact key 9999
theorem part_int {t : TypeId} {k : IntKind} (h : P.underlying t = some (.int k)) {xs : Array Value} {off : Nat} {v : Value} (hx : xs[off]? = some v) : (part t xs off).run P w = .ok v w := by
  simp [part, isAgg, run_underlying h, hx]
theorem run_eqF (X Y : Array Value) : ∀ (fs : List Field) (i : Nat) (xs ys : List Value) (r : Bool), okEqF P i fs = true → X.toList.drop i = xs → Y.toList.drop i = ys → xs.length = fs.length → eqCells xs ys = some r →
    (Op.eqFields 9999 X Y fs).run P w = .ok r w := by
  intro fs
  induction fs with
  | nil =>
    intro i xs ys r _ _ _ hl h
    obtain rfl := List.length_eq_zero_iff.1 hl
    cases ys with
    | nil => simp only [eqCells, Option.some.injEq] at h; subst h; rfl
    | cons y ys => simp [eqCells] at h
  | cons f fs ih =>
    intro i xs ys r ok hx hy hl h
    simp only [okEqF, Bool.and_eq_true, bne_iff_ne] at ok
    obtain ⟨⟨⟨ok1, ok2⟩, ok3⟩, ok4⟩ := ok
    split at ok1
    case h_2 => cases ok1
    rename_i kt hu
    obtain rfl := Nat.eq_of_beq_eq_true ok3
    match xs, ys, h with
    | .int k n :: xs, .int k' l :: ys, h =>
      simp only [eqCells] at h
      cases hk : kbeq k k' with
      | false => rw [hk] at h; cases h
      | true =>
        rw [hk] at h; simp only [cond_true] at h
        obtain rfl := kbeq_eq hk
        split at h <;> try (cases h; done)
        rename_i r2 h2
        simp only [Option.some.injEq] at h
        subst h
        have gx : X[f.offset]? = some (.int k n) := by rw [← Array.getElem?_toList]; have := congrArg (·[0]?) hx; simpa using this
        have gy : Y[f.offset]? = some (.int k l) := by rw [← Array.getElem?_toList]; have := congrArg (·[0]?) hy; simpa using this
        have dx : X.toList.drop (f.offset + 1) = xs := by rw [← List.drop_drop, hx]; rfl
        have dy : Y.toList.drop (f.offset + 1) = ys := by rw [← List.drop_drop, hy]; rfl
        have hrec := ih (f.offset + 1) xs ys r2 ok4 dx dy (by simpa using hl) h2
        unfold Op.eqFields
        rw [if_pos ok2]
        simp only [Sem.run_bind, part_int hu gx, part_int hu gy, Result.andThen_ok, run_equalIn_int w 9998 f.type k kt n l hu]
        cases hnl : (n == l)
        · simp
        · simp only [Bool.not_true, Bool.false_eq_true, if_false, hrec, Bool.true_and]
theorem run_eqA {n : Nat} {neg : Bool} {xs ys : Array Value} {r : Bool} {t : TypeId} (ht : okEqA P t n = true) (hn : Nat.beq xs.toList.length n = true) (hr : eqCells xs.toList ys.toList = some r) (p q : Operand) :
    (do eqGuard (if neg then .neq else .eql) t p q (.agg xs) (.agg ys); binOp (if neg then .neq else .eql) t (.agg xs) (.agg ys) : Sem Value).run P w = .ok (.bool (match neg with | true => !r | false => r)) w := by
  unfold okEqA at ht
  simp only [Bool.and_eq_true, Bool.not_eq_true'] at ht
  obtain ⟨⟨h1, h2⟩, h3⟩ := ht
  split at h1
  case h_2 => cases h1
  rename_i fs hu
  simp only [Bool.and_eq_true] at h1
  have hf : P.fieldsOf t = fs := by simp [Program.fieldsOf, hu]
  have hu2 : P.underlying t = some (.struct (P.fieldsOf t)) := by rw [hf]; exact hu
  have hl : xs.toList.length = fs.toList.length := by rw [Nat.eq_of_beq_eq_true hn, Nat.eq_of_beq_eq_true h1.1]
  have he : (Op.equalIn 10000 t (.agg xs) (.agg ys)).run P w = .ok r w := by
    rw [run_equalIn_struct w 9999 t xs ys hu2 h2, hf]
    exact run_eqF xs ys fs.toList 0 _ _ r h1.2 rfl rfl hl hr
  rw [Sem.run_bind, run_eqGuard_agg w _ t p q xs ys h3, Result.andThen_ok]
  cases neg
  · simp only [Bool.false_eq_true, if_false]; rw [run_eql_struct, he]; rfl
  · simp only [if_true]; rw [run_neq_struct, he]; rfl
theorem run_eq {k : EK} {neg : Bool} {x y : Value} {r : Bool} {t : TypeId} (ht : okKind P t k = true) (hr : eqV k x y = some r) (p q : Operand) :
    (do eqGuard (if neg then .neq else .eql) t p q x y; binOp (if neg then .neq else .eql) t x y : Sem Value).run P w = .ok (.bool (match neg with | true => !r | false => r)) w := by
  have h := run_equal (w := w) ht hr
  have hg : (eqGuard (if neg then .neq else .eql) t p q x y).run P w = .ok () w := by
    match k, x, y, hr with
    | .b, .bool a, .bool b, _ => cases neg <;> rfl
    | .s, .slice a _ _, .slice none _ _, _ => cases neg <;> rfl
    | .p, .pointer a, .pointer none, _ => cases neg <;> rfl
    | .f, .nilFunc, .nilFunc, _ => cases neg <;> rfl
    | .f, .func _ _ _, .nilFunc, _ => cases neg <;> rfl
    | .i, .iface _ _, .nilIface, _ => cases neg <;> rfl
  have hb : binOp (if neg then .neq else .eql) t x y = (if neg then (do pure (.bool (!(← Op.equal t x y)))) else (do pure (.bool (← Op.equal t x y)))) := by
    match k, x, y, hr with
    | .b, .bool a, .bool b, _ => cases neg <;> rfl
    | .s, .slice a _ _, .slice none _ _, _ => cases neg <;> rfl
    | .p, .pointer a, .pointer none, _ => cases neg <;> rfl
    | .f, .nilFunc, .nilFunc, _ => cases neg <;> rfl
    | .f, .func _ _ _, .nilFunc, _ => cases neg <;> rfl
    | .i, .iface _ _, .nilIface, _ => cases neg <;> rfl
  rw [Sem.run_bind, hg, Result.andThen_ok, hb]
  cases neg <;> simp [h]
end runs
end Go.Vx
