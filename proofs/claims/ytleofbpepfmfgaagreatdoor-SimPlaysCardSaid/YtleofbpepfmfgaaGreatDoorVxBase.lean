import Derived.Calls
import Derived.Orders
import Derived.CallsIn
namespace Go.Vx
open Go

abbrev Mem:=Nat→Option Obj
def Mem.set (m:Mem) (b:Nat) (o:Obj):Mem:=fun x=>if x=b then some o else m x
def Mem.le (m m':Mem):Prop:=∀ b o,m b=some o→m' b=some o
abbrev Cells (l:List Value) (T:TypeId):Obj:=.cells ⟨l⟩ T (0,0)

def Sub (m:Mem) (w:World):Prop:=∀ b o,m b=some o→w.heap[b]? = some o
structure Step (m:Mem) (w:World) (m':Mem) (w':World):Prop where
 sub:Sub m' w'
 size:w.heap.size≤w'.heap.size
 keep:∀ b,b<w.heap.size→m b=none→m' b=none∧w'.heap[b]? = w.heap[b]?
 tape:w'.tape=w.tape
 os:w'.os=w.os
 out:w'.output=w.output

def z2i (P : Program) (f : Nat) : Bool := match P.funcs[f]? with | some fn => fn.body.isSome && !(fn.name == "runtime.NumGoroutine") | none => false
def q0f (P:Program) (f:Nat) (args:List Value) (m:Mem) (R:Ending→Mem→Prop):Prop :=
 z2i P f=true∧∀ w,Sub m w→Calls P f ⟨args⟩ w fun e w'=>∃ m',Step m w m' w'∧R e m'

inductive AV where
 | val (v:Value)
 | var (cs:List Value)
 | ref (k off:Nat)
 | refi (k off:Nat) (i:Int)
 | fresh (cs:List Value)
abbrev Env:=Nat→Option AV
def Env.upd (e:Env) (t:Nat) (v:AV):Env:=fun s=>bif Nat.beq s t then some v else e s
def q5c (k:Nat) (x:Option AV):Option AV :=
 match x with
 | some (.ref j _)=>bif Nat.beq j k then none else x
 | some (.refi j _ _)=>bif Nat.beq j k then none else x
 | x=>x
def Env.put (e:Env) (d:Option Nat) (v:AV):Env :=
 match d with
 | some t=>(match v with | .fresh cs=>fun s=>bif Nat.beq s t then some (.var cs) else q5c t (e s) | v=>e.upd t v)
 | none=>e

inductive Opd where
 | t (n:Nat)
 | c (v:Value)
def Opd.at (x:Opd) (e:Env):Option Value:=match x with | .t n=>(match e n with | some (.val v)=>some v | _=>none) | .c v=>some v
def Opd.av (x:Opd) (e:Env):Option AV:=match x with | .t n=>e n | .c v=>some (.val v)
def Opd.ats (e:Env):List Opd→Option (List Value)
 | []=>some []
 | x :: xs=>match x.at e with | some v=>(match Opd.ats e xs with | some vs=>some (v :: vs) | none=>none) | none=>none
def Opd.slots:Opd→List Nat | .t n=>[n] | .c _=>[]

def q0k:Value→List Value | .agg cs=>cs.toList | v=>[v]
def oneL:List Value→Bool
 | []=>true
 | .agg _ :: _=>false
 | .tuple _ :: _=>false
 | _ :: vs=>oneL vs
def q0j (l:List Value) (i:Nat):List Value→List Value
 | []=>l
 | v :: vs=>q0j (l.set i v) (i+1) vs
def q6k (l:List Value):List (Nat×Nat×Value)→Option (List Value)
 | []=>some l
 | (i,n,v) :: ps=>bif Nat.beq (q0k v).length n&&Nat.ble (i+n) l.length then q6k (q0j l i (q0k v)) ps else none
def q3v (e:Env):List (Nat×Nat×Opd)→Option (List (Nat×Nat×Value))
 | []=>some []
 | (i,n,x) :: ps=>match x.at e with | some v=>(match q3v e ps with | some vs=>some ((i,n,v) :: vs) | none=>none) | none=>none

def q0q (m:Mem) (a:Addr) (v:Value):Prop:=∃ c T fr,m a.block=some (.cells c T fr)∧a.spot=none∧c[a.off]? = some v
def q0g (m:Mem) (a:Addr) (vs:List Value):Prop:=∀ i v,vs[i]? = some v→q0q m (a.add i) v

def Br (c:Bool) (A B:Prop):Prop:=match c with | true=>A | false=>B
theorem Br.mk {c:Bool} {A B:Prop} (h:c=true→A) (k:c=false→B):Br c A B:=by cases c with | true=>exact h rfl | false=>exact k rfl
def WLd (m:Mem) (a:Addr) (K:Value→Prop):Prop:=∃ v,q0q m a v∧K v
def WLds (m:Mem) (a:Addr) (n:Nat) (K:Value→Prop):Prop:=∃ vs:List Value,vs.length=n∧q0g m a vs∧K (.agg ⟨vs⟩)
def WIdx (a:Option Addr) (len:Nat) (i:Int) (K:Addr→Prop):Prop:=∃ ad,a=some ad∧(0≤i∧i<len)∧K ad
def WRng (k:IntKind) (z:Int) (K:Prop):Prop:=k.wrap z=z∧K
def WGet (cs:List Value) (off:Nat) (i:Int) (K:Value→Prop):Prop:=∃ v,cs[off+i.toNat]? = some v∧K v
def q6d (s:ByteArray) (i:Int) (K:Value→Prop):Prop:=∃ b:UInt8,(0≤i∧s[i.toNat]? = some b)∧K (.int .u8 b.toNat)
def WBnd (i:Int) (len:Nat) (K:Prop):Prop:=(0≤i∧i<len)∧K
def WNe (y:Int) (K:Prop):Prop:=y≠0∧K
def WNew (m:Mem) (o:Obj) (K:Nat→Mem→Prop):Prop:=∀ b,m b=none→K b (m.set b o)
def WSt (m:Mem) (a:Addr) (vs:List Value) (K:Mem→Prop):Prop :=
 ∃ l T,m a.block=some (Cells l T)∧a.spot=none∧a.off+vs.length≤l.length∧K (m.set a.block (Cells (q0j l a.off vs) T))
def WSl (l h cap:Int) (K:Prop):Prop:=(0≤l∧l≤h∧h≤cap)∧K
def q2z (m:Mem) (T bytes:Nat) (zero:List Value) (l c:Int) (K:Value→Mem→Prop):Prop :=
 (0≤l∧l≤c∧c * bytes≤140737488355328)∧∀ b,m b=none→K (.slice (some ⟨b,0,none⟩) l.toNat c.toNat) (m.set b (Cells (List.replicate c.toNat zero).flatten T))
def q2v (m:Mem) (a:Option Addr) (n:Nat) (vs:List Value):Prop:=vs.length=n∧∀ ad,a=some ad→q0g m ad vs
def WApp (m:Mem) (T sz bytes:Nat) (zero:List Value) (a:Option Addr) (len cap:Nat) (x:Option Addr) (n:Nat) (K:Value→Mem→Prop):Prop :=
 ∃ new,q2v m x (n * sz) new∧(x=none→n=0) ∧
  (len+n≤cap→(a=none∧n * sz=0∧K (.slice none (len+n) cap) m) ∨
   ∃ ad,a=some ad∧∃ l U,m ad.block=some (Cells l U)∧ad.spot=none∧ad.off+len * sz+n * sz≤l.length∧oneL new=true ∧
    K (.slice a (len+n) cap) (m.set ad.block (Cells (q0j l (ad.off+len * sz) new) U))) ∧
  (cap<len+n→(len+n) * bytes≤35184372088832∧∃ old,q2v m a (len * sz) old∧(a=none→len=0) ∧
   ∀ b c,m b=none→len+n≤c→K (.slice (some ⟨b,0,none⟩) (len+n) c) (m.set b (Cells (old++new++(List.replicate (c - (len+n)) zero).flatten) T)))
def q6c (m:Mem) (sz:Nat) (a:Option Addr) (alen:Nat) (x:Option Addr) (xlen:Nat) (K:Value→Mem→Prop):Prop :=
 ∃ new,q2v m x (min xlen alen * sz) new∧(x=none→min xlen alen=0) ∧
  ((a=none∧K (.int .i64 (min xlen alen:Nat)) m)∨∃ ad,a=some ad∧∃ l U,m ad.block=some (Cells l U)∧ad.spot=none∧ad.off+min xlen alen * sz≤l.length∧oneL new=true ∧
   K (.int .i64 (min xlen alen:Nat)) (m.set ad.block (Cells (q0j l ad.off new) U)))
def WClr (m:Mem) (sz:Nat) (zero:List Value) (a:Option Addr) (n:Nat) (K:Mem→Prop):Prop :=
 ((a=none∨n=0)∧K m)∨∃ ad,a=some ad∧∃ l U,m ad.block=some (Cells l U)∧ad.spot=none∧ad.off+n * sz≤l.length∧n≠0∧oneL (List.replicate n zero).flatten=true∧K (m.set ad.block (Cells (q0j l ad.off (List.replicate n zero).flatten) U))
def q0a (P:Program) (f:Nat) (args:List Value) (m:Mem) (K:Value→Mem→Prop) (X:List PanicEntry→Mem→Prop):Prop :=
 ∃ R,q0f P f args m R∧∀ e m',R e m'→(match e with | .returned v=>K v m' | .panicked ch=>X ch m' | .outgrown=>False)
def q1r (P:Program) (f:Nat) (args:List Value) (m:Mem) (K:Value→Mem→Prop) (X:List PanicEntry→Mem→Prop):Prop :=
 ∃ R,q0f P f args m R∧∀ e m',R e m'→(match e with | .returned v=>m.le m'∧K v m' | .panicked ch=>X ch m' | .outgrown=>False)

inductive MOp where
 | cap
 | apz (T sz bytes:Nat) (zero:List Value)
 | mk
 | lk (kn:Nat) (ok:Bool) (zero:Value)
 | up (kn:Nat)
 | ln
 | rg
 | nx
 | en
def v4m (P:Program) (b:Nat) (vs:List Value) (m:Mem) (R:Ending→Mem→Prop):Prop :=
 ∃ r,m b=some (.loop r)∧r.params.size=vs.length ∧
  ∀ w,(∀ b o,m b=some o→w.heap[b]? = some o)→RoundIn Fence.wide 0 P b r.fn ((r.params.zip ⟨vs⟩).foldl (fun tmps (t,a)=>tmps.setIfInBounds t a) r.tmps) r.assign r.body w fun e w'=>∃ m',Step m w m' w'∧R e m'
def q7j (P:Program) (b:Nat) (vs:List Value) (m:Mem) (K:Value→Mem→Prop) (X:List PanicEntry→Mem→Prop):Prop :=
 ∃ R,v4m P b vs m R∧∀ e m',R e m'→(match e with | .returned v=>K v m' | .panicked ch=>X ch m' | .outgrown=>False)
def Mem.del (m:Mem) (b:Nat):Mem:=fun x=>if x=b then none else m x

inductive EK where
 | b | s | p | f | i
inductive IOp where
 | mv (x:Opd)
 | pick (c a b:Opd)
 | bin (op:BinOp) (x y:Opd)
 | binN (op:BinOp) (x y:Opd)
 | div (op:BinOp) (x y:Opd)
 | shf (op:BinOp) (x y:Opd)
 | eq (k:EK) (neg:Bool) (x y:Opd)
 | eqA (neg:Bool) (n:Nat) (x y:Opd)
 | un (op:UnOp) (x:Opd)
 | cv (k:IntKind) (x:Opd)
 | cvN (k:IntKind) (x:Opd)
 | len (x:Opd)
 | mm (max:Bool) (xs:List Opd)
 | fld (off n:Nat) (agg:Bool) (x:Opd)
 | idx (esz len:Nat) (x i:Opd)
 | ext (x:Opd) (i:Nat)
 | bd (zeros:List Value) (parts:List (Nat×Nat×Opd))
 | fa (x:Opd) (off:Nat)
 | fr (k x off:Nat)
 | ia (x i:Opd) (esz:Nat)
 | iap (x i:Opd) (esz len:Nat)
 | ir (k x:Nat) (i:Opd) (len:Nat)
 | nc (x:Opd)
 | ld (x:Opd)
 | lds (x:Opd) (n:Nat)
 | st (x v:Opd) (n:Nat)
 | va (zeros:List Value)
 | vb (x:Opd)
 | vld (k x:Nat)
 | vlds (k x n:Nat)
 | vst (k x:Nat) (v:Opd) (n:Nat)
 | al (T:TypeId) (zeros:List Value)
 | bx (T:TypeId) (x:Opd)
 | bs (T:TypeId) (len:Nat) (zeros:List Value) (parts:List (Nat×Nat×Opd))
 | mk (T bytes:Nat) (zero:List Value) (l c:Opd)
 | ap (T sz bytes:Nat) (zero:List Value) (s x:Opd)
 | cp (sz:Nat) (d x:Opd)
 | clr (sz:Nat) (zero:List Value) (x:Opd)
 | sl (x:Opd) (lo hi:Option Opd) (esz:Nat)
 | sx (x i:Opd)
 | sla (x:Opd) (len:Nat)
 | mp (o:MOp) (xs:List Opd)
 | call (f:Nat) (args:List Opd)
 | callG (f:Nat) (args:List Opd)
 | callV (f:Opd) (args:List Opd)
 | callVG (f:Opd) (args:List Opd)
 | mf (fn:Nat) (first caps:List Opd)
 | mi (T:TypeId) (x:Opd)
 | pn (x:Opd)

def kbeq:IntKind→IntKind→Bool
 | .i8,.i8 | .i16,.i16 | .i32,.i32 | .i64,.i64 | .u8,.u8 | .u16,.u16 | .u32,.u32 | .u64,.u64=>true
 | _,_=>false
def z0c (op:BinOp) (k:IntKind) (n l:Int):Option Value :=
 match op with
 | .add=>some (.int k (k.wrap (n+l)))
 | .sub=>some (.int k (k.wrap (n - l)))
 | .mul=>some (.int k (k.wrap (n * l)))
 | .and=>some (.int k (k.wrap (BitVec.ofInt k.bits n &&& BitVec.ofInt k.bits l).toNat))
 | .or=>some (.int k (k.wrap (BitVec.ofInt k.bits n ||| BitVec.ofInt k.bits l).toNat))
 | .xor=>some (.int k (k.wrap (BitVec.ofInt k.bits n ^^^ BitVec.ofInt k.bits l).toNat))
 | .andNot=>some (.int k (k.wrap (BitVec.ofInt k.bits n &&& ~~~BitVec.ofInt k.bits l).toNat))
 | .eql=>some (.bool (n==l))
 | .neq=>some (.bool (n != l))
 | .lss=>some (.bool (decide (n<l)))
 | .leq=>some (.bool (decide (n≤l)))
 | .gtr=>some (.bool (decide (n>l)))
 | .geq=>some (.bool (decide (n≥l)))
 | _=>none
def v6t (op:BinOp) (n l:Int):Option Int :=
 match op with
 | .add=>some (n+l)
 | .sub=>some (n - l)
 | .mul=>some (n * l)
 | _=>none
def eqV:EK→Value→Value→Option Bool
 | .b,.bool a,.bool b=>some (a==b)
 | .s,.slice a _ _,.slice none _ _=>some a.isNone
 | .p,.pointer a,.pointer none=>some a.isNone
 | .f,.nilFunc,.nilFunc=>some true
 | .f,.func _ _ _,.nilFunc=>some false
 | .i,.iface _ _,.nilIface=>some false
 | _,_,_=>none
def q4s:List Value→List Value→Option Bool
 | [],[]=>some true
 | .int k n :: xs,.int k' l :: ys=>bif kbeq k k' then (match q4s xs ys with | some r=>some ((n==l)&&r) | none=>none) else none
 | _,_=>none
def z1y (max:Bool) (k:IntKind) (x:Int):List Value→Option Value
 | []=>some (.int k x)
 | .int _ y :: vs=>z1y max k (match max with | true=>(if y>x then y else x) | false=>(if y<x then y else x)) vs
 | _=>none
def q8v:List Value→Bool | []=>true | .int _ _ :: r=>q8v r | _=>false
def q6i (kn:Nat):Value→Bool
 | .int _ _=>Nat.beq kn 0
 | .agg a=>!(Nat.beq kn 0)&&Nat.beq a.toList.length kn&&q8v a.toList
 | _=>false
def keq:Value→Value→Option Bool
 | .int k n,.int j l=>bif kbeq k j then some (n==l) else none
 | .agg a,.agg b=>q4s a.toList b.toList
 | _,_=>none
def q5v (k:Value):List MapEntry→Nat→Option (Option (Nat×Value))
 | [],_=>some none
 | e :: es,j=>match keq k e.key with | some true=>some (some (j,e.val)) | some false=>q5v k es (j+1) | none=>none
def z4p (ok:Bool) (zero:Value) (f:Option (Nat×Value)):Value :=
 match ok,f with
 | true,some (_,v)=>.tuple #[v,.bool true]
 | true,none=>.tuple #[zero,.bool false]
 | false,some (_,v)=>v
 | false,none=>zero
def v6w (es:Array MapEntry) (cl:Nat) (f:Option (Nat×Value)) (k v:Value):Obj :=
 match f with
 | some (j,_)=>.map (es.modify j fun e=>{ e with key:=k,val:=v }) cl
 | none=>.map (es.push { key:=k,val:=v,born:=cl }) (cl+1)
def z5r (es:Array MapEntry) (seen:Array Nat):List MapEntry:=es.toList.filter fun e=>!seen.contains e.born
def WMp (o:MOp) (vs:List Value) (m:Mem) (K:Value→Mem→Prop):Prop :=
 match o,vs with
 | .cap,[.slice _ _ c]=>K (.int .i64 c) m
 | .apz T _ bytes zero,[.slice none 0 0,.int .i64 n]=>(0≤n∧n.toNat * bytes≤35184372088832∧n≤9223372036854775807)∧(n=0→K (.slice none 0 0) m) ∧
   (0<n→∀ b c,m b=none→n.toNat≤c→K (.slice (some ⟨b,0,none⟩) n.toNat c) (m.set b (Cells ((List.replicate n.toNat zero).flatten++(List.replicate (c - n.toNat) zero).flatten) T)))
 | .mk,[]=>∀ b,m b=none→K (.map (some b)) (m.set b (.map #[] 0))
 | .lk kn ok zero,[.map none,k]=>q6i kn k=true∧K (z4p ok zero none) m
 | .lk kn ok zero,[.map (some r),k]=>q6i kn k=true∧∃ (es:Array MapEntry) (cl:Nat) (f:Option (Nat×Value)),m r=some (.map es cl)∧q5v k es.toList 0=some f∧K (z4p ok zero f) m
 | .up kn,[.map (some r),k,v]=>q6i kn k=true∧∃ (es:Array MapEntry) (cl:Nat) (f:Option (Nat×Value)),m r=some (.map es cl)∧q5v k es.toList 0=some f∧K undef (m.set r (v6w es cl f k v))
 | .ln,[.map none]=>K (.int .i64 0) m
 | .ln,[.map (some r)]=>∃ (es:Array MapEntry) (cl:Nat),m r=some (.map es cl)∧K (.int .i64 es.size) m
 | .rg,[.map none]=>∀ b,m b=none→K (.pointer (some ⟨b,0,none⟩)) (m.set b (.mapIter none 0 #[] 0))
 | .rg,[.map (some r)]=>∃ (es:Array MapEntry) (cl:Nat),m r=some (.map es cl)∧∀ b,m b=none→K (.pointer (some ⟨b,0,none⟩)) (m.set b (.mapIter (some r) cl #[] cl))
 | .nx,[.pointer (some ⟨b,0,none⟩)]=>∃ bm,(m b=some (.mapIter none 0 #[] 0)∧bm=none∧K (.tuple #[.bool false]) m) ∨
   ∃ (r since:Nat) (seen:Array Nat) (c0:Nat) (es:Array MapEntry) (cl:Nat),bm=some r∧m b=some (.mapIter (some r) since seen c0)∧m r=some (.map es cl)∧(∀ x∈es.toList,x.born<since)∧since≤c0 ∧
    (z5r es seen=[]→K (.tuple #[.bool false]) m)∧∀ x∈z5r es seen,K (.tuple #[.bool true,x.key,x.val]) (m.set b (.mapIter (some r) since (seen.push x.born) cl))
 | .en,[.pointer (some ⟨b,0,none⟩)]=>∃ (r since:Nat) (seen:Array Nat) (es:Array MapEntry) (cl:Nat) (x:MapEntry),m b=some (.mapIter (some r) since (seen.push x.born) cl)∧m r=some (.map es cl)∧x∈es.toList∧(es.toList.map (·.born)).Nodup∧K (.tuple #[x.key,x.val]) m
 | _,_=>False

def q5e (e:Env) (d:Int):Option Opd→Option Int
 | none=>some d
 | some x=>match x.at e with | some (.int _ n)=>some n | _=>none

def vop (P:Program) (o:IOp) (e:Env) (m:Mem) (F:AV→Mem→Prop) (X:List PanicEntry→Mem→Prop):Prop :=
 match o with
 | .mv x=>match x.at e with | some v=>F (.val v) m | none=>False
 | .pick c a b=>match c.at e with | some (.bool c)=>(match a.at e,b.at e with | some a,some b=>Br c (F (.val a) m) (F (.val b) m) | _,_=>False) | _=>False
 | .bin op x y=>match x.at e,y.at e with
  | some (.int k n),some (.int k' l)=>bif kbeq k k' then (match z0c op k n l with | some v=>F (.val v) m | none=>False) else False
  | _,_=>False
 | .binN op x y=>match x.at e,y.at e with
  | some (.int k n),some (.int k' l)=>bif kbeq k k' then (match v6t op n l with | some z=>WRng k z (F (.val (.int k z)) m) | none=>False) else False
  | _,_=>False
 | .div op x y=>match x.at e,y.at e with
  | some (.int k n),some (.int k' l)=>bif kbeq k k' then (match op with | .quo=>WNe l (F (.val (.int k (k.wrap (n.tdiv l)))) m) | .rem=>WNe l (F (.val (.int k (n.tmod l))) m) | _=>False) else False
  | _,_=>False
 | .shf op x y=>match x.at e,y.at e with
  | some (.int k n),some (.int _ l)=>WBnd l 64 (match op with | .shl=>F (.val (.int k (k.wrap (n * 2 ^ min l.toNat k.bits)))) m | .shr=>F (.val (.int k (n.fdiv (2 ^ min l.toNat k.bits)))) m | _=>False)
  | _,_=>False
 | .eq k neg x y=>match x.at e,y.at e with
  | some a,some b=>(match eqV k a b with | some r=>F (.val (.bool (match neg with | true=>!r | false=>r))) m | none=>False)
  | _,_=>False
 | .eqA neg n x y=>match x.at e,y.at e with
  | some (.agg a),some (.agg b)=>(match bif Nat.beq a.toList.length n then q4s a.toList b.toList else none with | some r=>F (.val (.bool (match neg with | true=>!r | false=>r))) m | none=>False)
  | _,_=>False
 | .un op x=>match op,x.at e with
  | .not,some (.bool b)=>F (.val (.bool (!b))) m
  | .neg,some (.int k n)=>F (.val (.int k (k.wrap (0 - n)))) m
  | .xor,some (.int k n)=>F (.val (.int k (k.wrap (BitVec.ofInt k.bits (if k.signed then -1 else k.max) ^^^ BitVec.ofInt k.bits n).toNat))) m
  | _,_=>False
 | .cv k x=>match x.at e with | some (.int _ n)=>F (.val (.int k (k.wrap n))) m | _=>False
 | .cvN k x=>match x.at e with | some (.int _ n)=>WRng k n (F (.val (.int k n)) m) | _=>False
 | .len x=>match x.at e with | some (.slice _ n _)=>F (.val (.int .i64 n)) m | _=>False
 | .mm max xs=>match Opd.ats e xs with | some (.int k x :: vs)=>(match z1y max k x vs with | some v=>F (.val v) m | none=>False) | _=>False
 | .fld off n agg x=>match x.at e with
  | some (.agg cs)=>(match agg with | true=>F (.val (.agg ⟨(cs.toList.drop off).take n⟩)) m | false=>(match cs.toList.drop off with | v :: _=>F (.val v) m | []=>False))
  | _=>False
 | .idx esz len x i=>match x.at e,i.at e with
  | some (.agg cs),some (.int _ i)=>bif Nat.beq esz 1 then WBnd i len (WGet cs.toList 0 i fun v=>F (.val v) m) else False
  | _,_=>False
 | .ext x i=>match x.at e with | some (.tuple vs)=>(match vs.toList.drop i with | v :: _=>F (.val v) m | []=>False) | _=>False
 | .bd zeros parts=>match q3v e parts with | some ps=>(match q6k zeros ps with | some cs=>F (.val (.agg ⟨cs⟩)) m | none=>False) | none=>False
 | .fa x off=>match x.av e with
  | some (.val (.pointer (some a)))=>F (.val (.pointer (some (a.add off)))) m
  | some (.var _)=>(match x with | .t k=>F (.ref k off) m | .c _=>False)
  | _=>False
 | .fr k x off=>match e k,e x with
  | some (.var _),some (.ref j o)=>bif Nat.beq j k then F (.ref k (o+off)) m else False
  | _,_=>False
 | .ia x i esz=>match x.at e,i.at e with | some (.slice a len _),some (.int _ i)=>WIdx a len i fun ad=>F (.val (.pointer (some (ad.add (i.toNat * esz))))) m | _,_=>False
 | .iap x i esz len=>match x.av e,i.at e with
  | some (.val (.pointer (some a))),some (.int _ i)=>WBnd i len (F (.val (.pointer (some (a.add (i.toNat * esz))))) m)
  | some (.var _),some (.int _ i)=>(match x with | .t k=>bif Nat.beq esz 1 then WBnd i len (F (.refi k 0 i) m) else False | .c _=>False)
  | _,_=>False
 | .ir k x i len=>match e k,e x,i.at e with
  | some (.var _),some (.ref j o),some (.int _ i)=>bif Nat.beq j k then WBnd i len (F (.refi k o i) m) else False
  | _,_,_=>False
 | .nc x=>match x.at e with | some (.pointer (some a))=>F (.val (.pointer (some a))) m | some (.func (.func f) a b)=>F (.val (.func (.func f) a b)) m | some (.func (.yield f) a b)=>F (.val (.func (.yield f) a b)) m | _=>False
 | .ld x=>match x.at e with | some (.pointer (some a))=>WLd m a fun v=>F (.val v) m | _=>False
 | .lds x n=>match x.at e with | some (.pointer (some a))=>WLds m a n fun v=>F (.val v) m | _=>False
 | .st x v n=>match x.at e,v.at e with | some (.pointer (some a)),some v=>bif Nat.beq (q0k v).length n&&oneL (q0k v) then WSt m a (q0k v) fun m'=>F (.val undef) m' else False | _,_=>False
 | .va zeros=>F (.fresh zeros) m
 | .vb x=>match x.at e with | some v=>F (.fresh (q0k v)) m | none=>False
 | .vld k x=>match e k with
  | some (.var cs)=>(match e x with
   | some (.var _)=>bif Nat.beq x k then (match cs with | v :: _=>F (.val v) m | []=>False) else False
   | some (.ref j off)=>bif Nat.beq j k then (match cs.drop off with | v :: _=>F (.val v) m | []=>False) else False
   | some (.refi j off i)=>bif Nat.beq j k then WGet cs off i fun v=>F (.val v) m else False
   | _=>False)
  | _=>False
 | .vlds k x n=>match e k with
  | some (.var cs)=>(match e x with
   | some (.var _)=>bif Nat.beq x k&&Nat.ble n cs.length then F (.val (.agg ⟨cs.take n⟩)) m else False
   | some (.ref j off)=>bif Nat.beq j k&&Nat.ble (off+n) cs.length then F (.val (.agg ⟨(cs.drop off).take n⟩)) m else False
   | _=>False)
  | _=>False
 | .vst k x v n=>match e k,v.at e with
  | some (.var cs),some v=>bif Nat.beq (q0k v).length n&&oneL (q0k v) then (match e x with
   | some (.var _)=>bif Nat.beq x k&&Nat.ble n cs.length then F (.var (q0j cs 0 (q0k v))) m else False
   | some (.ref j off)=>bif Nat.beq j k&&Nat.ble (off+n) cs.length then F (.var (q0j cs off (q0k v))) m else False
   | some (.refi j off i)=>bif Nat.beq j k&&Nat.beq n 1 then WBnd (off+i.toNat) cs.length (F (.var (q0j cs (off+i.toNat) (q0k v))) m) else False
   | _=>False) else False
  | _,_=>False
 | .al T zeros=>WNew m (Cells zeros T) fun b m'=>F (.val (.pointer (some ⟨b,0,none⟩))) m'
 | .bx T x=>match x.at e with | some v=>WNew m (Cells (q0k v) T) fun b m'=>F (.val (.pointer (some ⟨b,0,none⟩))) m' | none=>False
 | .bs T len zeros parts=>match q3v e parts with | some ps=>(match q6k zeros ps with | some cs=>WNew m (Cells cs T) fun b m'=>F (.val (.slice (some ⟨b,0,none⟩) len len)) m' | none=>False) | none=>False
 | .mk T bytes zero l c=>match l.at e,c.at e with | some (.int .i64 l),some (.int .i64 c)=>q2z m T bytes zero l c fun v m'=>F (.val v) m' | _,_=>False
 | .ap T sz bytes zero s x=>match s.at e,x.at e with | some (.slice a len cap),some (.slice b n _)=>WApp m T sz bytes zero a len cap b n fun v m'=>F (.val v) m' | _,_=>False
 | .cp sz d x=>match d.at e,x.at e with | some (.slice a len _),some (.slice b n _)=>q6c m sz a len b n fun v m'=>F (.val v) m' | _,_=>False
 | .clr sz zero x=>match x.at e with | some (.slice a n _)=>WClr m sz zero a n fun m'=>F (.val (.tuple #[])) m' | _=>False
 | .sl x lo hi esz=>match x.at e with
  | some (.slice a len cap)=>(match q5e e 0 lo,q5e e len hi with
   | some l,some h=>WSl l h cap (F (.val (.slice (if (cap:Int)=l then a else a.map (·.add (l.toNat * esz))) (h.toNat - l.toNat) (cap - l.toNat))) m)
   | _,_=>False)
  | _=>False
 | .sx x i=>match x.at e,i.at e with | some (.string s),some (.int _ i)=>q6d s i fun v=>F (.val v) m | _,_=>False
 | .sla x len=>match x.at e with | some (.pointer (some a))=>F (.val (.slice (some (a.add 0)) len len)) m | _=>False
 | .mp o args=>match Opd.ats e args with | some vs=>WMp o vs m fun v m'=>F (.val v) m' | none=>False
 | .call f args=>match Opd.ats e args with | some vs=>q0a P f vs m (fun v m'=>F (.val v) m') X | none=>False
 | .callG f args=>match Opd.ats e args with | some vs=>q1r P f vs m (fun v m'=>F (.val v) m') X | none=>False
 | .callV f args=>match f.at e,Opd.ats e args with | some (.func (.func g) first caps),some vs=>q0a P g (first.toList++vs++caps.toList) m (fun v m'=>F (.val v) m') X | some (.func (.yield b) ⟨[]⟩ ⟨[]⟩),some vs=>q7j P b vs m (fun v m'=>F (.val v) m') X | _,_=>False
 | .callVG f args=>match f.at e,Opd.ats e args with | some (.func (.func g) first caps),some vs=>q1r P g (first.toList++vs++caps.toList) m (fun v m'=>F (.val v) m') X | _,_=>False
 | .mf fn first caps=>match Opd.ats e first,Opd.ats e caps with | some us,some vs=>F (.val (.func (.func fn) ⟨us⟩ ⟨vs⟩)) m | _,_=>False
 | .mi T x=>match x.at e with | some v=>F (.val (.iface T v)) m | none=>False
 | .pn x=>match x.at e with | some (.iface T v)=>X [{ v:=.iface T v,recovered:=false }] m | _=>False

structure E where
 d:Option Nat
 o:IOp
 g:Option (Nat×Bool):=none
 s:Bool:=false

def q3l (s:Bool) (F:AV→Mem→Prop) (u:AV) (m:Mem):Prop :=
 match s with
 | false=>F u m
 | true=>match u with | .val (.bool b)=>Br b (F (.val (.bool true)) m) (F (.val (.bool false)) m) | _=>False
def q1w (P:Program) (x:E) (e:Env) (m:Mem) (K:Env→Mem→Prop) (X:List PanicEntry→Mem→Prop):Prop :=
 match x.g with
 | none=>vop P x.o e m (q3l x.s fun u m'=>K (e.put x.d u) m') X
 | some (s,want)=>match e s with
  | some (.val (.bool b))=>(match b,want with
   | true,true=>vop P x.o e m (q3l x.s fun u m'=>K (e.put x.d u) m') X
   | false,false=>vop P x.o e m (q3l x.s fun u m'=>K (e.put x.d u) m') X
   | _,_=>K (e.put x.d (.val undef)) m)
  | some (.val (.tuple _))=>K (e.put x.d (.val undef)) m
  | _=>False
inductive RG where
 | nil
 | run (l:List E) (r:RG)
 | sc (s:Nat) (want:Bool) (mods:List (Nat×Nat)) (body:RG) (d:Nat) (x:Opd) (r:RG)
def runI (P:Program) (X:List PanicEntry→Mem→Prop):List E→(Env→Mem→Prop)→Env→Mem→Prop
 | [],K,e,m=>K e m
 | x :: xs,K,e,m=>q1w P x e m (fun e' m'=>runI P X xs K e' m') X
def inM (t:Nat):List (Nat×Nat)→Bool
 | []=>false
 | (lo,hi) :: r=>(Nat.ble lo t&&Nat.ble t hi)||inM t r
def q9v (mods:List (Nat×Nat)) (x:Option AV):Option AV :=
 match x with
 | some (.ref j _)=>bif inM j mods then none else x
 | some (.refi j _ _)=>bif inM j mods then none else x
 | x=>x
def q5d (e:Env) (mods:List (Nat×Nat)):Env:=fun t=>bif inM t mods then none else q9v mods (e t)
def scB (c want v:Bool):Bool:=match want with | true=>c&&v | false=>c||v
def WSc (c want:Bool) (A:Bool→Prop) (K:Bool→Prop):Prop:=∃ v,(c=want→A v)∧K (scB c want v)
def opsI (P:Program) (X:List PanicEntry→Mem→Prop):RG→(Env→Mem→Prop)→Env→Mem→Prop
 | .nil,K,e,m=>K e m
 | .run l r,K,e,m=>runI P X l (fun e' m'=>opsI P X r K e' m') e m
 | .sc s want mods body d y r,K,e,m=>match e s with
  | some (.val (.bool c))=>WSc c want (fun v=>opsI P X body (fun e' m'=>Mem.le m m'∧y.at e'=some (.bool v)) e m) (fun v=>opsI P X r K ((q5d e mods).upd d (.val (.bool v))) m)
  | _=>False

inductive RT where
 | nil
 | pure (i:Nat) (t:RT)
 | alt (i:Nat) (t more:RT)
 | done
def q1n (P:Program) (l:List E) (K:Env→Mem→Prop) (X:List PanicEntry→Mem→Prop):RT→Env→Mem→Prop
 | .nil,e,m=>K e m
 | .pure i t,e,m=>match l[i]? with | some x=>q1w P x e m (fun e' m'=>q1n P l K X t e' m') X | none=>False
 | .alt i t more,e,m=>(match l[i]? with | some x=>q1w P x e m (fun e' m'=>q1n P l K X t e' m') X | none=>False)∧q1n P l K X more e m
 | .done,_,_=>True

inductive IR where
 | skip
 | ret
 | exit (id:Nat)
 | ops (l:RG)
 | tree (l:List E) (t:RT)
 | seq (a b:IR)
 | seqj (mods:List (Nat×Nat)) (a b:IR)
 | cond (c:Opd) (a b:IR)
 | block (id:Nat) (a:IR)
 | loop (mods:List (Nat×Nat)) (a:IR)
 | rf (g:Opd) (ps:List Nat) (a b:IR)

abbrev Post:=Exit→Env→Mem→Prop
def z1d (t:Nat):List (Nat×AV)→Option AV
 | []=>none
 | (k,v) :: r=>bif Nat.beq t k then some v else z1d t r
def over (e:Env) (mods:List (Nat×Nat)) (l:List (Nat×AV)):Env:=fun t=>bif inM t mods then z1d t l else q9v mods (e t)
def q3i (e:Env):List (Nat×AV)→Prop
 | []=>True
 | (t,v) :: r=>e t=some v∧q3i e r
def q4i (J:Env→Mem→Prop) (Q:Post):Post:=fun ex e m=>match ex with | .normal=>J e m | ex=>Q ex e m
def q6x (id:Nat) (Q:Post):Post:=fun ex e m=>match ex with | .exit j=>bif Nat.beq j id then Q .normal e m else Q (.exit j) e m | ex=>Q ex e m
def q0v (e:Env) (m:Mem) (mods:List (Nat×Nat)) (B:Post→Env→Mem→Prop) (Q:Post):Prop :=
 ∃ (σ:Type) (vals:σ→List (Nat×AV)) (inv:σ→Mem→Prop) (μ:σ→Nat) (s₀:σ),q3i e (vals s₀)∧inv s₀ m ∧
  ∀ s m',inv s m'→B (q4i (fun e' m''=>∃ s',q3i e' (vals s')∧inv s' m''∧μ s'<μ s) Q) (over e mods (vals s)) m'
def z1e (e:Env) (m:Mem) (mods:List (Nat×Nat)) (A:Post→Env→Mem→Prop) (B:Env→Mem→Prop) (Q:Post):Prop :=
 ∃ (σ:Type) (vals:σ→List (Nat×AV)) (inv:σ→Mem→Prop),
  A (q4i (fun e' m'=>∃ s,q3i e' (vals s)∧inv s m') Q) e m∧∀ s m',inv s m'→B (over e mods (vals s)) m'

def q9p (e:Env):Env:=fun t=>match e t with | some (.val v)=>some (.val v) | _=>none
def q8b (e:Env):List Nat→List Value→Env
 | p :: ps,v :: vs=>q8b (e.upd p (.val v)) ps vs
 | _,_=>e
def k5q (b:Nat) (r:Loop) (R:Ending→Mem→Prop):Post:=fun x _ m=>match x with
 | .normal=>m b=some (.loop { r with state:=.busy })∧R (.returned (.bool true)) (m.set b (.loop r))
 | _=>False
def v2d (P:Program) (A B:Post→Env→Mem→Prop) (ps:List Nat) (e:Env) (b:Nat) (r:Loop):Prop :=
 ∀ vs m R,vs.length=ps.length→m b=some (.loop r) →
  A (q4i (fun e1 m1=>m1 b=some (.loop r)∧B (k5q b r R) e1 (m1.set b (.loop { r with state:=.busy }))) (fun _ _ _=>False)) (q8b (q9p e) ps vs) m→v4m P b vs m R
def WRf (P:Program) (A B:Post→Env→Mem→Prop) (g:Option Value) (ps:List Nat) (e:Env) (m:Mem) (Q:Post):Prop :=
 ∃ f first caps,g=some (.func (.func f) first caps)∧∀ b r,m b=none→r.state=.ready→r.pending=none→v2d P A B ps e b r →
  ∃ R,q0f P f (first.toList++[.func (.yield b) #[] #[]]++caps.toList) (m.set b (.loop r)) R∧∀ e' m',R e' m'→(match e' with
   | .returned _=>(∃ r',m' b=some (.loop r')∧r'.state=.ready∧r'.pending=none)∧Q .normal e (m'.del b)
   | .panicked ch=>Q (.panic ch) (fun _=>none) (m'.del b)
   | .outgrown=>False)
def wpI (P:Program):IR→Post→Env→Mem→Prop
 | .skip,Q,e,m=>Q .normal e m
 | .ret,Q,e,m=>Q .ret e m
 | .exit id,Q,e,m=>Q (.exit id) e m
 | .ops l,Q,e,m=>opsI P (fun ch m'=>Q (.panic ch) (fun _=>none) m') l (Q .normal) e m
 | .tree l t,Q,e,m=>q1n P l (Q .normal) (fun ch m'=>Q (.panic ch) (fun _=>none) m') t e m
 | .seq a b,Q,e,m=>wpI P a (q4i (fun e' m'=>wpI P b Q e' m') Q) e m
 | .seqj mods a b,Q,e,m=>z1e e m mods (wpI P a) (fun e' m'=>wpI P b Q e' m') Q
 | .cond c a b,Q,e,m=>match c with
  | .t n=>(match e n with | some (.val (.bool c))=>Br c (wpI P a Q (e.upd n (.val (.bool true))) m) (wpI P b Q (e.upd n (.val (.bool false))) m) | _=>False)
  | .c (.bool true)=>wpI P a Q e m
  | .c (.bool false)=>wpI P b Q e m
  | .c _=>False
 | .block id a,Q,e,m=>wpI P a (q6x id Q) e m
 | .loop mods a,Q,e,m=>q0v e m mods (wpI P a) Q
 | .rf g ps a b,Q,e,m=>WRf P (wpI P a) (wpI P b) (g.at e) ps e m Q

inductive Res where
 | t (n:Nat)
 | c (k n:Nat) (agg:Bool)
 | h (k n:Nat) (agg:Bool)
def v5p (m:Mem) (a:Addr) (n:Nat) (agg:Bool):Option Value :=
 match m a.block with
 | some (.cells c _ _)=>(match a.spot with
  | none=>(match agg with | true=>(bif Nat.ble (a.off+n) c.toList.length then some (.agg ⟨(c.toList.drop a.off).take n⟩) else none) | false=>(match c.toList.drop a.off with | v :: _=>some v | []=>none))
  | some _=>none)
 | _=>none
def Res.at (m:Mem) (e:Env):Res→Option Value
 | .t n=>match e n with | some (.val v)=>some v | _=>none
 | .c k n agg=>match e k with
  | some (.var cs)=>(match agg with | true=>(bif Nat.ble n cs.length then some (.agg ⟨cs.take n⟩) else none) | false=>(match cs with | v :: _=>some v | []=>none))
  | _=>none
 | .h k n agg=>match e k with | some (.val (.pointer (some a)))=>v5p m a n agg | _=>none
def q5h (m:Mem) (e:Env):List Res→Option (List Value)
 | []=>some []
 | r :: rs=>match r.at m e with | some v=>(match q5h m e rs with | some vs=>some (v :: vs) | none=>none) | none=>none
def q8h:List Value→Value
 | [v]=>v
 | vs=>.tuple ⟨vs⟩
def WRet (m:Mem) (R:Ending→Mem→Prop) (e:Ending):Prop:=∃ m',Mem.le m' m∧R e m'
def q0i (rs:List Res) (R:Ending→Mem→Prop):Post:=fun ex e m =>
 match ex with
 | .normal | .ret=>(match q5h m e rs with | some vs=>WRet m R (.returned (q8h vs)) | none=>False)
 | .panic ch=>WRet m R (.panicked ch)
 | _=>False
def q5p (args:List Value):Env:=fun t=>match args[t]? with | some v=>some (.val v) | none=>none
abbrev x (d:Nat) (o:IOp):E:=⟨some d,o,none,false⟩
abbrev n (o:IOp):E:=⟨none,o,none,false⟩
abbrev xs (d:Nat) (o:IOp):E:=⟨some d,o,none,true⟩
abbrev i (n:Int):Value:=.int .i64 n
abbrev ns:Value:=.slice none 0 0
abbrev np:Value:=.pointer none
abbrev es:Value:=.string ⟨#[]⟩
structure Fn where
 nt:Nat
 res:List Res
 body:IR
def Fn.asks (P:Program) (fn:Fn) (args:List Value) (m:Mem) (R:Ending→Mem→Prop):Prop:=wpI P fn.body (q0i fn.res R) (q5p args) m
theorem WRet.mk {m m':Mem} {R:Ending→Mem→Prop} {e:Ending} (h:Mem.le m' m) (k:R e m'):WRet m R e:=⟨m',h,k⟩
theorem WRet.same {m:Mem} {R:Ending→Mem→Prop} {e:Ending} (k:R e m):WRet m R e:=⟨m,fun _ _ h=>h,k⟩
theorem WLd.mk {m:Mem} {a:Addr} {K:Value→Prop} (v:Value) (h:q0q m a v) (k:K v):WLd m a K:=⟨v,h,k⟩
theorem WLds.mk {m:Mem} {a:Addr} {n:Nat} {K:Value→Prop} (vs:List Value) (h:q0g m a vs) (hn:vs.length=n) (k:K (.agg ⟨vs⟩)):WLds m a n K:=⟨vs,hn,h,k⟩
theorem WIdx.mk {a:Option Addr} {len:Nat} {i:Int} {K:Addr→Prop} (ad:Addr) (h:a=some ad) (b:0≤i∧i<len) (k:K ad):WIdx a len i K:=⟨ad,h,b,k⟩
theorem WRng.mk {k:IntKind} {z:Int} {K:Prop} (h:k.wrap z=z) (q:K):WRng k z K:=⟨h,q⟩
theorem WGet.mk {cs:List Value} {off:Nat} {i:Int} {K:Value→Prop} (v:Value) (h:cs[off+i.toNat]? = some v) (k:K v):WGet cs off i K:=⟨v,h,k⟩
theorem q6d.mk {s:ByteArray} {i:Int} {K:Value→Prop} (b:UInt8) (h:0≤i∧s[i.toNat]? = some b) (k:K (.int .u8 b.toNat)):q6d s i K:=⟨b,h,k⟩
theorem WBnd.mk {i:Int} {len:Nat} {K:Prop} (h:0≤i∧i<len) (k:K):WBnd i len K:=⟨h,k⟩
theorem WNe.mk {y:Int} {K:Prop} (h:y≠0) (k:K):WNe y K:=⟨h,k⟩
theorem WNew.mk {m:Mem} {o:Obj} {K:Nat→Mem→Prop} (h:∀ b,m b=none→K b (m.set b o)):WNew m o K:=h
theorem WSt.mk {m:Mem} {a:Addr} {vs:List Value} {K:Mem→Prop} (l:List Value) (T:TypeId) (h:m a.block=some (Cells l T)) (hs:a.spot=none) (hb:a.off+vs.length≤l.length) (k:K (m.set a.block (Cells (q0j l a.off vs) T))):WSt m a vs K:=⟨l,T,h,hs,hb,k⟩
theorem WSl.mk {l h cap:Int} {K:Prop} (b:0≤l∧l≤h∧h≤cap) (k:K):WSl l h cap K:=⟨b,k⟩
theorem q2z.mk {m:Mem} {T bytes:Nat} {zero:List Value} {l c:Int} {K:Value→Mem→Prop} (h:0≤l∧l≤c∧c * bytes≤140737488355328)
  (k:∀ b,m b=none→K (.slice (some ⟨b,0,none⟩) l.toNat c.toNat) (m.set b (Cells (List.replicate c.toNat zero).flatten T))):q2z m T bytes zero l c K:=⟨h,k⟩
theorem q0a.mk {P:Program} {f:Nat} {args:List Value} {m:Mem} {K:Value→Mem→Prop} {X:List PanicEntry→Mem→Prop} {R:Ending→Mem→Prop} (h:q0f P f args m R)
  (k:∀ e m',R e m'→(match e with | .returned v=>K v m' | .panicked ch=>X ch m' | .outgrown=>False)):q0a P f args m K X:=⟨R,h,k⟩
theorem q1r.mk {P:Program} {f:Nat} {args:List Value} {m:Mem} {K:Value→Mem→Prop} {X:List PanicEntry→Mem→Prop} {R:Ending→Mem→Prop} (h:q0f P f args m R)
  (k:∀ e m',R e m'→(match e with | .returned v=>m.le m'∧K v m' | .panicked ch=>X ch m' | .outgrown=>False)):q1r P f args m K X:=⟨R,h,k⟩
theorem q0a.pure {P:Program} {f:Nat} {args:List Value} {m:Mem} {K:Value→Mem→Prop} {X:List PanicEntry→Mem→Prop} {v:Value} (h:q0f P f args m fun e m'=>e=.returned v∧m'=m)
  (k:K v m):q0a P f args m K X:=⟨_,h,by rintro _ _ ⟨rfl,rfl⟩;exact k⟩
theorem q1r.pure {P:Program} {f:Nat} {args:List Value} {m:Mem} {K:Value→Mem→Prop} {X:List PanicEntry→Mem→Prop} {v:Value} (h:q0f P f args m fun e m'=>e=.returned v∧m'=m)
  (k:K v m):q1r P f args m K X:=⟨_,h,by rintro _ _ ⟨rfl,rfl⟩;exact ⟨fun _ _ h=>h,k⟩⟩
theorem WSc.mk {c want:Bool} {A K:Bool→Prop} {v:Bool} (h:c=want→A v) (k:K (scB c want v)):WSc c want A K:=⟨v,h,k⟩
theorem q0v.mk {e:Env} {m:Mem} {mods:List (Nat×Nat)} {B:Post→Env→Mem→Prop} {Q:Post} (σ:Type) (vals:σ→List (Nat×AV)) (inv:σ→Mem→Prop) (μ:σ→Nat) (s₀:σ)
  (h:q3i e (vals s₀)) (h0:inv s₀ m) (k:∀ s m',inv s m'→B (q4i (fun e' m''=>∃ s',q3i e' (vals s')∧inv s' m''∧μ s'<μ s) Q) (over e mods (vals s)) m'):q0v e m mods B Q:=⟨σ,vals,inv,μ,s₀,h,h0,k⟩
attribute [irreducible] q7j WRf WMp q6d Br WRet WLd WLds WIdx WRng WGet WBnd WNe WNew WSt WSl q2z WApp q6c WClr q0a q1r WSc q0v z1e
abbrev Y (d k : Nat) : E := x d (.mv (.t k))
abbrev Z (d k j : Nat) : E := x d (.fa (.t k) j)
abbrev W (d k j : Nat) : E := x d (.vld k j)
abbrev D (d k : Nat) : E := x d (.nc (.t k))
abbrev G (d k : Nat) : E := x d (.ld (.t k))
abbrev O (l : List E) : IR := .ops (.run l .nil)
abbrev J (z : Int) : Opd := .c (i z)
abbrev qO (l : List E) (r : IR) : IR := .seq (.ops (.run l .nil)) r
abbrev bB (d : Nat) (b : Bool) : E := x d (.mv (.c (.bool b)))
abbrev bJ (d : Nat) (o : BinOp) (a : Nat) (z : Int) : E := x d (.bin o (.t a) (.c (i z)))
abbrev bT (d : Nat) (o : BinOp) (a b : Nat) : E := x d (.bin o (.t a) (.t b))
abbrev gE (d : Nat) (o : IOp) (s : Nat) (w : Bool) : E := ⟨some d, o, some (s, w), false⟩
abbrev aL (j : Nat) (r : RT) : RT := .alt j r .done
def pL : List Nat → RT → RT
  | [], r => r
  | j :: js, r => .pure j (pL js r)
end Go.Vx
