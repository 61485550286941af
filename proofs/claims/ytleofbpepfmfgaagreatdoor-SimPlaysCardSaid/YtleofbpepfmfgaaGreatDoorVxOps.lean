import Derived.Test.YtleofbpepfmfgaaGreatDoorVxRel
import Derived.Laws.StructEq
import Derived.Laws.Entries
import Derived.IntWalk
import Derived.Maps.RangeRun
import Derived.MapKept
set_option linter.unusedSimpArgs false
set_option linter.unusedVariables false
namespace Go.Vx
open Go

mutual
def veq:Value→Value→Bool
 | .int k n,.int j l=>kbeq k j&&n==l
 | .bool a,.bool b=>a==b
 | .string a,.string b=>a.data.toList==b.data.toList
 | .slice none a b,.slice none c d=>Nat.beq a c&&Nat.beq b d
 | .pointer none,.pointer none=>true
 | .pointer (some ⟨a,b,none⟩),.pointer (some ⟨c,d,none⟩)=>Nat.beq a c&&Nat.beq b d
 | .nilFunc,.nilFunc=>true
 | .nilIface,.nilIface=>true
 | .map none,.map none=>true
 | .agg ⟨a⟩,.agg ⟨b⟩=>veqL a b
 | .tuple ⟨a⟩,.tuple ⟨b⟩=>veqL a b
 | _,_=>false
def veqL:List Value→List Value→Bool
 | [],[]=>true
 | x :: xs,y :: ys=>veq x y&&veqL xs ys
 | _,_=>false
end
theorem q6n {k j:IntKind} (h:kbeq k j=true):k=j:=by cases k<;>cases j<;>first | rfl | (simp [kbeq] at h)
theorem q0n {a b:Nat} (h:Nat.beq a b=true):a=b:=Nat.eq_of_beq_eq_true h
theorem j8m {a b:ByteArray} (h:a.data.toList=b.data.toList):a=b:=by
 cases a;cases b;congr 1;exact Array.ext' h
mutual
theorem z6o:∀ (a b:Value),veq a b=true→a=b:=by
 intro a b h
 match a,b,h with
 | .int k n,.int j l,h=>simp only [veq,Bool.and_eq_true,beq_iff_eq] at h;rw [q6n h.1,h.2]
 | .bool a,.bool b,h=>simp only [veq,beq_iff_eq] at h;rw [h]
 | .string a,.string b,h=>simp only [veq,beq_iff_eq] at h;rw [j8m h]
 | .slice none a b,.slice none c d,h=>simp only [veq,Bool.and_eq_true] at h;rw [q0n h.1,q0n h.2]
 | .pointer none,.pointer none,_=>rfl
 | .pointer (some ⟨a,b,none⟩),.pointer (some ⟨c,d,none⟩),h=>simp only [veq,Bool.and_eq_true] at h;rw [q0n h.1,q0n h.2]
 | .nilFunc,.nilFunc,_=>rfl
 | .nilIface,.nilIface,_=>rfl
 | .map none,.map none,_=>rfl
 | .agg ⟨a⟩,.agg ⟨b⟩,h=>simp only [veq] at h;rw [z2v a b h]
 | .tuple ⟨a⟩,.tuple ⟨b⟩,h=>simp only [veq] at h;rw [z2v a b h]
theorem z2v:∀ (a b:List Value),veqL a b=true→a=b:=by
 intro a b h
 match a,b,h with
 | [],[],_=>rfl
 | x :: xs,y :: ys,h=>simp only [veqL,Bool.and_eq_true] at h;rw [z6o x y h.1,z2v xs ys h.2]
end
def okX (x:Opd) (y:Operand):Bool :=
 match x,y with
 | .t n,.tmp k=>Nat.beq n k
 | .c v,.const u=>veq v u
 | .c (.pointer (some ⟨b,0,none⟩)),.global g=>Nat.beq b g
 | .c (.func (.func f) ⟨[]⟩ ⟨[]⟩),.func g=>Nat.beq f g
 | _,_=>false
def okXs:List Opd→List Operand→Bool
 | [],[]=>true
 | x :: xs,y :: ys=>okX x y&&okXs xs ys
 | _,_=>false

variable {P:Program} {D0:q3k} {ro:Option Nat} {m0:Mem} {w0:World} {N:Nat} {e:Env} {m:Mem} {a:Act} {w:World}
theorem q6f (h:Rel D0 m0 w0 N e m a w) {x:Opd} {y:Operand} {v:Value} (hx:okX x y=true) (hv:x.at e=some v):a.eval y=v:=by
 unfold okX at hx
 split at hx
 ·rename_i n k
  have:=q0n hx;subst this
  simp only [Opd.at] at hv
  cases hn:e n with
  | none=>rw [hn] at hv;cases hv
  | some u =>
   rw [hn] at hv
   cases u<;>first | (cases hv;done) | skip
   rename_i x
   simp only [Option.some.injEq] at hv;subst hv
   exact h.val n x hn
 ·rename_i v' u
  simp only [Opd.at,Option.some.injEq] at hv;subst hv
  exact (z6o _ _ hx).symm
 ·rename_i b g
  simp only [Opd.at,Option.some.injEq] at hv;subst hv
  rw [q0n hx];rfl
 ·rename_i f g
  simp only [Opd.at,Option.some.injEq] at hv;subst hv
  rw [q0n hx];rfl
 ·cases hx
theorem q7x (h:Rel D0 m0 w0 N e m a w):∀ {xs:List Opd} {ys:List Operand} {vs:List Value},okXs xs ys=true→Opd.ats e xs=some vs→ys.map a.eval=vs:=by
 intro xs
 induction xs with
 | nil=>intro ys vs hx hv;cases ys<;>simp_all [okXs,Opd.ats]
 | cons x xs ih =>
  intro ys vs hx hv
  cases ys with
  | nil=>simp [okXs] at hx
  | cons y ys =>
   simp only [okXs,Bool.and_eq_true] at hx
   simp only [Opd.ats] at hv
   cases hx1:x.at e with
   | none=>rw [hx1] at hv;cases hv
   | some v =>
    rw [hx1] at hv
    cases hx2:Opd.ats e xs with
    | none=>rw [hx2] at hv;cases hv
    | some us =>
     rw [hx2] at hv;simp only [Option.some.injEq] at hv;subst hv
     rw [List.map_cons,q6f h hx.1 hx1,ih hx.2 hx2]

variable {next:Act→World→Prop} {Q:Exit→Act→World→Prop}
theorem z5e {o:Oper} {x:Next} {w':World} {ρ:Operand→Value} (h:(execOp ρ o).run P w=.ok x w') (hx:∀ d,x≠.defer d):∀ c,o.op≠.defer c:=fun c hc=>by
 simp only [execOp,hc,Sem.run_bind] at h
 cases hr:(resolve ρ c o.type).run P w with
 | ok d w1=>rw [hr] at h;simp only [Result.andThen_ok,Sem.run_pure,Result.ok.injEq] at h;exact hx d h.1.symm
 | halt y w1=>rw [hr] at h;cases h
theorem z2s {o:Oper} (hnd:∀ c,o.op≠.defer c) (k:o.uponIn (FR ro) 0 P a next Q ((execOp a.eval o).run P w)):o.wpIn (FR ro) 0 P a w next Q :=
 ⟨fun f _=>v0e ro f,by rw [Oper.semAt_eq _ _ _ hnd];exact k⟩
theorem q8k {o:Oper} {v:Value} {w':World} (h:(execOp a.eval o).run P w=.ok (.value v) w') (k:next (a.put o.dst v) w'):o.wpIn (FR ro) 0 P a w next Q :=
 z2s (z5e h fun _ hh=>by cases hh) (by rw [h];exact k)
theorem v5k {o:Oper} {w':World} (h:(execOp a.eval o).run P w=.ok .skip w') (k:next (a.put o.dst undef) w'):o.wpIn (FR ro) 0 P a w next Q :=
 z2s (z5e h fun _ hh=>by cases hh) (by rw [h];exact k)
theorem k9y {o:Oper} {f:FuncId} {args:Array Value} {w':World} (h:(execOp a.eval o).run P w=.ok (.enter f args) w')
  (k:Calls P f args w' fun | .returned v,w''=>next (a.put o.dst v) w'' | .panicked chain,w''=>Q (.panic chain) a w'' | .outgrown,_=>LetsOut Q):o.wpIn (FR ro) 0 P a w next Q :=
 z2s (z5e h fun _ hh=>by cases hh) (by rw [h];exact ⟨FR_n ro,v4e k⟩)
theorem k1i {o:Oper} {l:Nat} {f:FuncId} {tmps:Array Value} {assign body:Code} {w':World} (h:(execOp a.eval o).run P w=.ok (.round l f tmps assign body) w')
  (k:RoundIn Fence.wide 0 P l f tmps assign body w' fun | .returned v,w''=>next (a.put o.dst v) w'' | .panicked chain,w''=>Q (.panic chain) a w'' | .outgrown,_=>LetsOut Q):o.wpIn (FR ro) 0 P a w next Q :=
 z2s (z5e h fun _ hh=>by cases hh) (by rw [h];exact ⟨FR_n ro,j0a k⟩)
theorem k3h {o:Oper} {v:Value} {w':World} (hnd:∀ c,o.op≠.defer c) (h:(execOp a.eval o).run P w=.halt (.panic v) w') (k:Q (.panic [{ v,recovered:=false }]) a w'):o.wpIn (FR ro) 0 P a w next Q :=
 z2s hnd (by rw [h];exact k)

theorem z1i {t:TypeId} {i:TypeInfo} (h:P.info? t=some i) (w:World):(typeInfo t).run P w=.ok i w:=by simp [typeInfo,h]
theorem q3u {t:TypeId} {i:TypeInfo} (h:P.info? t=some i) (w:World):(sizeOf t).run P w=.ok i.size w:=by simp [sizeOf,z1i h]
theorem q7h {t:TypeId} {i:TypeInfo} {z:Value} (h:P.info? t=some i) (hz:i.zero=some z) (w:World):(zeroValue t).run P w=.ok z w:=by simp [zeroValue,z1i h,hz]

def z5i:TypeDesc→Bool | .struct _=>true | .array _ _=>true | _=>false
theorem q8t {t:TypeId} {d:TypeDesc} (h:P.underlying t=some d) (w:World):(isAgg t).run P w=.ok (z5i d) w:=by
 unfold isAgg;rw [Sem.run_bind,run_underlying h,Result.andThen_ok];cases d<;>rfl

def q4h (P:Program) (t:TypeId) (agg:Bool) (n:Nat):Bool :=
 match P.underlying t,P.info? t with
 | some d,some i=>(z5i d==agg)&&Nat.beq i.size n
 | _,_=>false
theorem q8z {t:TypeId} {agg:Bool} {n:Nat} (h:q4h P t agg n=true):∃ d i,P.underlying t=some d∧P.info? t=some i∧z5i d=agg∧i.size=n:=by
 unfold q4h at h
 cases hd:P.underlying t with
 | none=>simp [hd] at h
 | some d =>
  cases hi:P.info? t with
  | none=>simp [hd,hi] at h
  | some i =>
   simp only [hd,hi,Bool.and_eq_true,beq_iff_eq] at h
   exact ⟨d,i,rfl,rfl,h.1,q0n h.2⟩
theorem v5c {t:TypeId} {n:Nat} (ht:q4h P t false n=true) {ad:Addr} {v:Value} (hc:w.cell? ad=some v):(Instr.loadAt t (.pointer (some ad))).run P w=.ok v w:=by
 obtain ⟨d,i,hd,hi,hk,hn⟩:=q8z ht
 simp [Instr.loadAt,Instr.sureAddr,loadVar,q8t hd,hk,hc]
theorem v0a {t:TypeId} {vs:List Value} (ht:q4h P t true vs.length=true) {ad:Addr} (hc:∀ j v,vs[j]? = some v→w.cell? (ad.add j)=some v):(Instr.loadAt t (.pointer (some ad))).run P w=.ok (.agg ⟨vs⟩) w:=by
 obtain ⟨d,i,hd,hi,hk,hn⟩:=q8z ht
 simp [Instr.loadAt,Instr.sureAddr,loadVar,q8t hd,hk,q3u hi,hn,run_loadCells_list w ad vs hc]

theorem v4t:∀ (vs l:List Value) (i:Nat),(q0j l i vs).length=l.length
 | [],_,_=>rfl
 | v :: vs,l,i=>by rw [q0j,v4t vs];simp
theorem q5x:∀ (vs l:List Value) (i:Nat),i+vs.length≤l.length→q0j l i vs=l.take i++vs++l.drop (i+vs.length)
 | [],l,i,_=>by simp [q0j]
 | v :: vs,l,i,h=>by
  simp only [List.length_cons] at h
  rw [q0j,q5x vs _ _ (by simp;omega)]
  have h1:(l.set i v).take (i+1)=l.take i++[v]:=by
   rw [List.take_succ_eq_append_getElem (by simp;omega),List.take_set_of_le (Nat.le_refl i)]
   simp
  have h2:(l.set i v).drop (i+1+vs.length)=l.drop (i+(v :: vs).length):=by
   rw [List.drop_set_of_lt (by omega)];congr 1;simp;omega
  rw [h1,h2];simp
theorem v0k:∀ {vs:List Value},oneL vs=true→∀ v∈vs,v.oneCell'=true:=by
 intro vs
 induction vs with
 | nil=>intro _ v hv;cases hv
 | cons x xs ih =>
  intro h v hv
  have h2:x.oneCell'=true∧oneL xs=true:=by cases x<;>first | exact ⟨rfl,h⟩ | (simp [oneL] at h)
  rcases List.mem_cons.1 hv with rfl | hv
  ·exact h2.1
  ·exact ih h2.2 v hv
theorem z2y (v:Value):v.cells.toList=q0k v:=by cases v<;>rfl
theorem v3p {t:TypeId} {agg:Bool} {v:Value} (ht:q4h P t agg (q0k v).length=true) (h1:oneL (q0k v)=true) {b off:Nat} {l:List Value} {T:TypeId}
  (hb:w.heap[b]? = some (Cells l T)) (hl:off+(q0k v).length≤l.length):(Instr.storeAt t (.pointer (some ⟨b,off,none⟩)) v).run P w=.ok () (w.setRow b ⟨q0j l off (q0k v)⟩):=by
 obtain ⟨d,i,hd,hi,hk,hn⟩:=q8z ht
 have hsz:v.cells.size=i.size:=by rw [hn,← z2y];simp
 have hrun:=run_storeCells_at (P:=P) b off T (q0k v) 0 ⟨l⟩ w hb (by simpa using hl) (v0k h1)
 simp only [Nat.add_zero] at hrun
 rw [q5x _ _ _ hl]
 simp only [Instr.storeAt,Instr.sureAddr,Sem.run_bind,Sem.run_pure,Result.andThen_ok,storeVar,q3u hi,hsz,ne_eq,not_true_eq_false,if_false,z2y,hrun]
end Go.Vx
namespace Go.Vx
open Go
variable {P:Program} {D0:q3k} {ro:Option Nat} {m0:Mem} {w0:World} {N:Nat} {e:Env} {m:Mem} {a:Act} {w:World} {next:Act→World→Prop} {Q:Exit→Act→World→Prop}

def z5h (P:Program) (t:TypeId) (k:IntKind):Bool:=match P.underlying t with | some (.int j)=>kbeq j k | _=>false
def z5w (P:Program) (t:TypeId) (k:EK):Bool :=
 match k,P.underlying t with
 | .b,some .bool=>true
 | .s,some (.slice _)=>true
 | .p,some (.pointer _)=>true
 | .f,some (.func _ _ _)=>true
 | .i,some (.interface _)=>true
 | _,_=>false
def z5q (P:Program) (i:Nat):List Field→Bool
 | []=>true
 | f :: fs => (match P.underlying f.type with | some (.int _) => true | _ => false) && f.name != "_" && Nat.beq f.offset i && z5q P (i + 1) fs
def z8t (P:Program) (t:TypeId) (n:Nat):Bool :=
 (match P.underlying t with | some (.struct fs)=>Nat.beq fs.toList.length n&&z5q P 0 fs.toList | _=>false)&&!(P.stoodInHeld t)&&!(P.eqGuardType P.depth t)
def z1s (P:Program) (t:TypeId) (f off:Nat):Bool :=
 match P.underlying t with
 | some (.struct fs)=>(match fs[f]? with | some x=>Nat.beq x.offset off&&(match P.info? x.type with | some i=>!(Nat.beq i.size 0) | none=>false) | none=>false)
 | _=>false
def z7v (P:Program) (t:TypeId) (f off n:Nat) (agg:Bool):Bool :=
 match P.underlying t with
 | some (.struct fs)=>(match fs[f]? with | some x=>Nat.beq x.offset off&&q4h P x.type agg n&&(agg||Nat.beq n 1) | none=>false)
 | _=>false
def q9s (P:Program) (t esz:Nat):Bool:=match P.underlying t with | some (.slice el)=>(match P.info? el with | some i=>Nat.beq i.size esz | none=>false) | _=>false
def z2d (P:Program) (t esz len:Nat):Bool:=match P.underlying t with | some (.array l el)=>Nat.beq l len&&(match P.info? el with | some i=>Nat.beq i.size esz | none=>false) | _=>false
def z3w (P:Program) (t esz len:Nat):Bool:=match P.underlying t with | some (.array l el)=>Nat.beq l len&&q4h P el false esz | _=>false
def q8n (P:Program) (t:TypeId) (zeros:List Value):Bool:=match P.info? t with | some i=>(match i.zero with | some z=>veqL (q0k z) zeros&&Nat.beq i.size zeros.length | none=>false) | none=>false
def z4v (P:Program) (t:TypeId) (i off n:Nat):Bool :=
 match P.underlying t with
 | some (.struct fs)=>(match fs[i]? with | some x=>Nat.beq x.offset off&&(match P.info? x.type with | some y=>Nat.beq y.size n | none=>false) | none=>false)
 | some (.array _ el)=>(match P.info? el with | some y=>Nat.beq y.size n&&Nat.beq (i * n) off | none=>false)
 | _=>false
def q6z (ok:Nat→Nat→Nat→Bool):List (Nat×Nat×Opd)→List (Nat×Operand)→Bool
 | [],[]=>true
 | (off,n,x) :: ps,(i,y) :: qs=>ok i off n&&okX x y&&q6z ok ps qs
 | _,_=>false
def z6p (P:Program) (t:TypeId):Bool:=match P.underlying t with | some (.struct fs)=>fs.all fun f=>(P.info? f.type).isSome | some (.array _ el)=>(P.info? el).isSome | _=>false
def q7w (P:Program) (t el:TypeId) (sz bytes:Nat) (zero:List Value):Bool :=
 match P.underlying t with
 | some (.slice u)=>Nat.beq u el&&q8n P el zero&&(match P.info? el with | some i=>Nat.beq i.size sz&&Nat.beq i.bytes bytes | none=>false)&&!(Nat.beq bytes 0)&&!(Nat.beq sz 0)
 | _=>false
def okO (x:Option Opd) (y:Option Operand):Bool:=match x,y with | none,none=>true | some x,some y=>okX x y | _,_=>false
def v7e (P:Program) (t:TypeId):Bool:=match P.underlying t with | some (.interface _)=>false | some _=>true | none=>false

def z0m (P:Program) (t:TypeId) (kn:Nat):Bool :=
 match P.underlying t with
 | some (.int _)=>Nat.beq kn 0
 | some (.array n el)=>!(Nat.beq kn 0)&&Nat.beq n kn&&(match P.underlying el,P.info? el with | some (.int _),some i=>Nat.beq i.size 1 | _,_=>false)
 | _=>false
def q8j (P:Program) (t:TypeId) (kn:Nat):Bool:=match P.underlying t with | some (.map kt _)=>z0m P kt kn | _=>false
def z6c (P:Program) (t:TypeId) (zero:Value):Bool:=match P.underlying t with | some (.map _ el)=>(match P.info? el with | some i=>(match i.zero with | some z=>veq z zero | none=>false) | none=>false) | _=>false
def z5d (P:Program) (t:TypeId):Bool:=match P.underlying t with | some (.map _ _)=>true | _=>false
def okMp (P:Program) (k:MOp) (xs:List Opd) (op:Op):Bool :=
 match k,xs,op with
 | .cap,[x],.call c=>(match c.callee with | .builtin .cap=>(match c.args.toList,c.argTypes.toList with | [y],t :: _=>okX x y&&(match P.underlying t with | some (.slice _)=>true | _=>false) | _,_=>false) | _=>false)
 | .apz el sz bytes zero,[x,i],.call c=>(match c.callee with | .builtin .append=>(match c.args.toList,c.argTypes.toList with | [y,z],t :: u :: _=>okX x y&&okX i z&&q7w P t el sz bytes zero&&Nat.beq sz zero.length&&(match P.underlying u with | some (.int _)=>true | _=>false) | _,_=>false) | _=>false)
 | .mk,[],.makeMap _ none=>true
 | .lk kn ok zero,[x,i],.lookup t x' i' ok'=>q8j P t kn&&z6c P t zero&&(ok==ok')&&okX x x'&&okX i i'
 | .up kn,[m,k,x],.mapUpdate t m' k' x'=>q8j P t kn&&okX m m'&&okX k k'&&okX x x'
 | .up kn,[m,k,x],.insert t m' k' x'=>q8j P t kn&&okX m m'&&okX k k'&&okX x x'
 | .ln,[x],.call c=>(match c.callee with | .builtin .len=>(match c.args.toList,c.argTypes.toList with | [y],t :: _=>okX x y&&z5d P t | _,_=>false) | _=>false)
 | .rg,[x],.range t x'=>z5d P t&&okX x x'
 | .nx,[x],.next x' false=>okX x x'
 | .en,[x],.entry x'=>okX x x'
 | _,_,_=>false
def okOp (P:Program) (o:Oper) (x:IOp):Bool :=
 match x,o.op with
 | .mv x,.move y=>okX x y
 | .mv x,.assign y=>okX x y
 | .pick c a b,.pick c' a' b'=>okX c c'&&okX a a'&&okX b b'
 | .bin op x y,.binOp op' _ x' y' _=>op==op'&&okX x x'&&okX y y'
 | .binN op x y,.binOp op' _ x' y' _=>op==op'&&okX x x'&&okX y y'
 | .div op x y,.binOp op' _ x' y' _=>op==op'&&okX x x'&&okX y y'
 | .shf op x y,.binOp op' _ x' y' _=>op==op'&&okX x x'&&okX y y'
 | .eq k neg x y,.binOp op t x' y' _=>(op==if neg then .neq else .eql)&&z5w P t k&&okX x x'&&okX y y'
 | .eqA neg n x y,.binOp op t x' y' _=>(op==if neg then .neq else .eql)&&z8t P t n&&okX x x'&&okX y y'
 | .un op x,.unOp op' _ x'=>op==op'&&okX x x'
 | .cv k x,.convert s d x'=>(P.underlying s).isSome&&z5h P d k&&okX x x'
 | .cvN k x,.convert s d x'=>(P.underlying s).isSome&&z5h P d k&&okX x x'
 | .len x,.call c=>(match c.callee with | .builtin .len=>(match c.args.toList,c.argTypes.toList with | [y],t :: _=>okX x y&&(match P.underlying t with | some (.slice _)=>true | _=>false) | _,_=>false) | _=>false)
 | .mm mx xs,.call c=>(match c.callee with | .builtin .max=>mx&&okXs xs c.args.toList | .builtin .min=>!mx&&okXs xs c.args.toList | _=>false)
 | .fld off n agg x,.field t x' f=>z7v P t f off n agg&&okX x x'
 | .idx esz len x i,.index t x' i'=>z3w P t esz len&&okX x x'&&okX i i'
 | .sx x i,.index t x' i'=>(match P.underlying t with | some .string=>true | _=>false)&&okX x x'&&okX i i'
 | .ext x i,.extract x' i'=>Nat.beq i i'&&okX x x'
 | .bd zeros parts,.build t ps=>q8n P t zeros&&z6p P t&&q6z (z4v P t) parts ps.toList
 | .fa x off,.fieldAddr t x' f=>z1s P t f off&&okX x x'
 | .fr _ x off,.fieldAddr t x' f=>z1s P t f off&&okX (.t x) x'
 | .ia x i esz,.indexAddr t x' i'=>q9s P t esz&&okX x x'&&okX i i'
 | .iap x i esz len,.indexAddr t x' i'=>z2d P t esz len&&okX x x'&&okX i i'
 | .ir _ x i len,.indexAddr t x' i'=>z2d P t 1 len&&okX (.t x) x'&&okX i i'
 | .nc x,.nilCheck x'=>okX x x'
 | .ld x,.load t x'=>q4h P t false 1&&okX x x'
 | .lds x n,.load t x'=>q4h P t true n&&okX x x'
 | .st x v n,.store t x' v'=>(q4h P t true n||q4h P t false n)&&okX x x'&&okX v v'
 | .va zeros,.alloc t=>q8n P t zeros
 | .vb x,.box _ x'=>okX x x'
 | .vld _ x,.load t x'=>q4h P t false 1&&okX (.t x) x'
 | .vlds _ x n,.load t x'=>q4h P t true n&&okX (.t x) x'
 | .vst _ x v n,.store t x' v'=>(q4h P t true n||q4h P t false n)&&okX (.t x) x'&&okX v v'
 | .al t zeros,.alloc t'=>Nat.beq t t'&&q8n P t zeros
 | .bx t x,.box t' x'=>Nat.beq t t'&&okX x x'
 | .bs el len zeros parts,.buildSlice t n ps=>Nat.beq len n&&(match P.underlying t with
   | some (.slice u)=>Nat.beq u el&&(match P.info? el with
    | some i=>!(Nat.beq i.size 0)&&Nat.ble (n * i.size) 16777216&&(match i.zero with | some z=>veqL (List.replicate n (q0k z)).flatten zeros&&Nat.beq i.size (q0k z).length | none=>false)&&q6z (fun j off sz=>Nat.beq sz i.size&&Nat.beq (j * sz) off) parts ps.toList
    | none=>false)
   | _=>false)
 | .mk el bytes zero l c,.makeSlice t l' c'=>q7w P t el zero.length bytes zero&&okX l l'&&okX c c'
 | .ap el sz bytes zero s x,.call c=>(match c.callee with
   | .builtin .append=>(match c.args.toList,c.argTypes.toList with | [y,z],t :: u :: _=>q7w P t el sz bytes zero&&Nat.beq sz zero.length&&(match P.underlying u with | some (.slice _)=>true | _=>false)&&okX s y&&okX x z | _,_=>false)
   | _=>false)
 | .cp sz d x,.call c=>(match c.callee with
   | .builtin .copy=>(match c.args.toList,c.argTypes.toList with | [y,z],t :: _=>q9s P t sz&&okX d y&&okX x z | _,_=>false)
   | _=>false)
 | .clr sz zero x,.call c=>(match c.callee with
   | .builtin .clear=>(match c.args.toList,c.argTypes.toList with | [y],t :: _=>(match P.underlying t with | some (.slice el)=>q8n P el zero&&Nat.beq sz zero.length | _=>false)&&okX x y | _,_=>false)
   | _=>false)
 | .sl x lo hi esz,.slice t x' lo' hi' none=>q9s P t esz&&okX x x'&&okO lo lo'&&okO hi hi'
 | .sla x len,.slice t x' none none none=>(match P.underlying t with | some (.array l el)=>Nat.beq l len&&!(Nat.beq len 0)&&(P.info? el).isSome | _=>false)&&okX x x'
 | .mp k xs,op=>okMp P k xs op
 | .call f args,.call c=>(match c.callee with | .value (.func g)=>Nat.beq f g&&okXs args c.args.toList | _=>false)
 | .callG f args,.call c=>(match c.callee with | .value (.func g)=>Nat.beq f g&&okXs args c.args.toList | _=>false)
 | .callV f args,.call c=>(match c.callee with | .value g=>okX f g&&okXs args c.args.toList | _=>false)
 | .callVG f args,.call c=>(match c.callee with | .value g=>okX f g&&okXs args c.args.toList | _=>false)
 | .mf fn first caps,.makeFunc (.func g) fs cs=>Nat.beq fn g&&okXs first fs.toList&&okXs caps cs.toList
 | .mi t x,.makeInterface t' x'=>Nat.beq t t'&&v7e P t&&okX x x'
 | .pn x,.panic x'=>okX x x'
 | _,_=>false
theorem Rel.putVal (h:Rel D0 m0 w0 N e m a w) {d t:Option Nat} (hd:(match d,t with | some d,some t=>Nat.beq d t&&Nat.ble (d+1) N | none,none=>true | _,_=>false)=true) (v:Value) :
  Rel D0 m0 w0 N (e.put d (.val v)) m (a.put t v) w:=by
 cases d with
 | none=>cases t with
  | none=>exact h
  | some t=>cases hd
 | some d=>cases t with
  | none=>cases hd
  | some t =>
   simp only [Bool.and_eq_true] at hd
   obtain rfl:=q0n hd.1
   exact h.updVal (Nat.le_of_ble_eq_true hd.2) v

section runs
theorem v1v {op:BinOp} {k:IntKind} {n l:Int} {v:Value} (hv:z0c op k n l=some v) (t:TypeId) (x y:Operand) :
  (do eqGuard op t x y (.int k n) (.int k l);binOp op t (.int k n) (.int k l):Sem Value).run P w=.ok v w:=by
 cases op<;>simp only [z0c,Option.some.injEq] at hv<;>first | (cases hv;done) | (subst hv;simp [eqGuard,binOp,Op.intArith,Op.intBits,Op.intCmp])
theorem j9o {k:EK} {x y:Value} {r:Bool} {t:TypeId} (ht:z5w P t k=true) (hr:eqV k x y=some r):(Op.equal t x y).run P w=.ok r w:=by
 have key:∀ d,(Op.equalIn (d+1) t x y).run P w=.ok r w:=by
  intro d
  unfold z5w at ht
  match k,x,y,hr with
  | .b,.bool a,.bool b,hr=>simp only [eqV,Option.some.injEq] at hr;subst hr;split at ht<;>first | (cases ht;done) | (rename_i hk hu;first | (cases hk;done) | (refine (Sem.run_bind' P (underlying t) _ w).trans ?_;rw [run_underlying hu];rfl))
  | .s,.slice a _ _,.slice none _ _,hr=>simp only [eqV,Option.some.injEq] at hr;subst hr;split at ht<;>first | (cases ht;done) | (rename_i hk hu;first | (cases hk;done) | (refine (Sem.run_bind' P (underlying t) _ w).trans ?_;rw [run_underlying hu];cases a<;>rfl))
  | .p,.pointer a,.pointer none,hr=>simp only [eqV,Option.some.injEq] at hr;subst hr;split at ht<;>first | (cases ht;done) | (rename_i hk hu;first | (cases hk;done) | (refine (Sem.run_bind' P (underlying t) _ w).trans ?_;rw [run_underlying hu];cases a<;>rfl))
  | .f,.nilFunc,.nilFunc,hr=>simp only [eqV,Option.some.injEq] at hr;subst hr;split at ht<;>first | (cases ht;done) | (rename_i hk hu;first | (cases hk;done) | (refine (Sem.run_bind' P (underlying t) _ w).trans ?_;rw [run_underlying hu];rfl))
  | .f,.func _ _ _,.nilFunc,hr=>simp only [eqV,Option.some.injEq] at hr;subst hr;split at ht<;>first | (cases ht;done) | (rename_i hk hu;first | (cases hk;done) | (refine (Sem.run_bind' P (underlying t) _ w).trans ?_;rw [run_underlying hu];rfl))
  | .i,.iface _ _,.nilIface,hr=>simp only [eqV,Option.some.injEq] at hr;subst hr;split at ht<;>first | (cases ht;done) | (rename_i hk hu;first | (cases hk;done) | (refine (Sem.run_bind' P (underlying t) _ w).trans ?_;rw [run_underlying hu];rfl))
 exact key 9999
theorem z6i {t:TypeId} {k:IntKind} (h:P.underlying t=some (.int k)) {xs:Array Value} {off:Nat} {v:Value} (hx:xs[off]? = some v):(part t xs off).run P w=.ok v w:=by
 simp [part,isAgg,run_underlying h,hx]
theorem j5e (X Y:Array Value):∀ (fs:List Field) (i:Nat) (xs ys:List Value) (r:Bool),z5q P i fs=true→X.toList.drop i=xs→Y.toList.drop i=ys→xs.length=fs.length→q4s xs ys=some r →
  (Op.eqFields 9999 X Y fs).run P w=.ok r w:=by
 intro fs
 induction fs with
 | nil =>
  intro i xs ys r _ _ _ hl h
  obtain rfl:=List.length_eq_zero_iff.1 hl
  cases ys with
  | nil=>simp only [q4s,Option.some.injEq] at h;subst h;rfl
  | cons y ys=>simp [q4s] at h
 | cons f fs ih =>
  intro i xs ys r ok hx hy hl h
  simp only [z5q,Bool.and_eq_true,bne_iff_ne] at ok
  obtain ⟨⟨⟨ok1,ok2⟩,ok3⟩,ok4⟩:=ok
  split at ok1
  case h_2=>cases ok1
  rename_i kt hu
  obtain rfl:=Nat.eq_of_beq_eq_true ok3
  match xs,ys,h with
  | .int k n :: xs,.int k' l :: ys,h =>
   simp only [q4s] at h
   cases hk:kbeq k k' with
   | false=>rw [hk] at h;cases h
   | true =>
    rw [hk] at h;simp only [cond_true] at h
    obtain rfl:=q6n hk
    split at h<;>try (cases h;done)
    rename_i r2 h2
    simp only [Option.some.injEq] at h
    subst h
    have gx:X[f.offset]? = some (.int k n):=by rw [← Array.getElem?_toList];have:=congrArg (·[0]?) hx;simpa using this
    have gy:Y[f.offset]? = some (.int k l):=by rw [← Array.getElem?_toList];have:=congrArg (·[0]?) hy;simpa using this
    have dx:X.toList.drop (f.offset+1)=xs:=by rw [← List.drop_drop,hx];rfl
    have dy:Y.toList.drop (f.offset+1)=ys:=by rw [← List.drop_drop,hy];rfl
    have hrec:=ih (f.offset+1) xs ys r2 ok4 dx dy (by simpa using hl) h2
    unfold Op.eqFields
    rw [if_pos ok2]
    simp only [Sem.run_bind,z6i hu gx,z6i hu gy,Result.andThen_ok,run_equalIn_int w 9998 f.type k kt n l hu]
    cases hnl:(n==l)
    ·simp
    ·simp only [Bool.not_true,Bool.false_eq_true,if_false,hrec,Bool.true_and]
theorem v9e {n:Nat} {neg:Bool} {xs ys:Array Value} {r:Bool} {t:TypeId} (ht:z8t P t n=true) (hn:Nat.beq xs.toList.length n=true) (hr:q4s xs.toList ys.toList=some r) (p q:Operand) :
  (do eqGuard (if neg then .neq else .eql) t p q (.agg xs) (.agg ys);binOp (if neg then .neq else .eql) t (.agg xs) (.agg ys):Sem Value).run P w=.ok (.bool (match neg with | true=>!r | false=>r)) w:=by
 unfold z8t at ht
 simp only [Bool.and_eq_true,Bool.not_eq_true'] at ht
 obtain ⟨⟨h1,h2⟩,h3⟩:=ht
 split at h1
 case h_2=>cases h1
 rename_i fs hu
 simp only [Bool.and_eq_true] at h1
 have hf:P.fieldsOf t=fs:=by simp [Program.fieldsOf,hu]
 have hu2:P.underlying t=some (.struct (P.fieldsOf t)):=by rw [hf];exact hu
 have hl:xs.toList.length=fs.toList.length:=by rw [Nat.eq_of_beq_eq_true hn,Nat.eq_of_beq_eq_true h1.1]
 have he:(Op.equalIn 10000 t (.agg xs) (.agg ys)).run P w=.ok r w:=by
  rw [run_equalIn_struct w 9999 t xs ys hu2 h2,hf]
  exact j5e xs ys fs.toList 0 _ _ r h1.2 rfl rfl hl hr
 rw [Sem.run_bind,run_eqGuard_agg w _ t p q xs ys h3,Result.andThen_ok]
 cases neg
 ·simp only [Bool.false_eq_true,if_false];rw [run_eql_struct,he];rfl
 ·simp only [if_true];rw [run_neq_struct,he];rfl
theorem k0u {k:EK} {neg:Bool} {x y:Value} {r:Bool} {t:TypeId} (ht:z5w P t k=true) (hr:eqV k x y=some r) (p q:Operand) :
  (do eqGuard (if neg then .neq else .eql) t p q x y;binOp (if neg then .neq else .eql) t x y:Sem Value).run P w=.ok (.bool (match neg with | true=>!r | false=>r)) w:=by
 have h:=j9o (w:=w) ht hr
 have hg:(eqGuard (if neg then .neq else .eql) t p q x y).run P w=.ok () w:=by
  match k,x,y,hr with
  | .b,.bool a,.bool b,_=>cases neg<;>rfl
  | .s,.slice a _ _,.slice none _ _,_=>cases neg<;>rfl
  | .p,.pointer a,.pointer none,_=>cases neg<;>rfl
  | .f,.nilFunc,.nilFunc,_=>cases neg<;>rfl
  | .f,.func _ _ _,.nilFunc,_=>cases neg<;>rfl
  | .i,.iface _ _,.nilIface,_=>cases neg<;>rfl
 have hb:binOp (if neg then .neq else .eql) t x y=(if neg then (do pure (.bool (!(← Op.equal t x y)))) else (do pure (.bool (← Op.equal t x y)))):=by
  match k,x,y,hr with
  | .b,.bool a,.bool b,_=>cases neg<;>rfl
  | .s,.slice a _ _,.slice none _ _,_=>cases neg<;>rfl
  | .p,.pointer a,.pointer none,_=>cases neg<;>rfl
  | .f,.nilFunc,.nilFunc,_=>cases neg<;>rfl
  | .f,.func _ _ _,.nilFunc,_=>cases neg<;>rfl
  | .i,.iface _ _,.nilIface,_=>cases neg<;>rfl
 rw [Sem.run_bind,hg,Result.andThen_ok,hb]
 cases neg<;>simp [h]
end runs
end Go.Vx
namespace Go.Vx
open Go
variable {P:Program} {m:Mem} {w:World}

theorem k4s (l:List Value):∀ (vs:List Value) (i k:Nat),
  ((⟨vs⟩:Array Value).zipIdx k).foldl (fun (cs:Array Value) (x:Value×Nat)=>cs.setIfInBounds (i+x.2) x.1) ⟨l⟩=(⟨q0j l (i+k) vs⟩:Array Value):=by
 intro vs i k
 have key:∀ (vs:List Value) (l:List Value) (k:Nat),(vs.zipIdx k).foldl (fun (cs:Array Value) (x:Value×Nat)=>cs.setIfInBounds (i+x.2) x.1) ⟨l⟩=(⟨q0j l (i+k) vs⟩:Array Value):=by
  intro vs
  induction vs with
  | nil=>intro l k;rfl
  | cons v vs ih =>
   intro l k
   rw [List.zipIdx_cons,List.foldl_cons,q0j,show i+k+1=i+(k+1) by omega,← ih (l.set (i+k) v) (k+1)]
   congr 1
   exact Array.ext' (by simp)
 rw [← key vs l k,← Array.foldl_toList,Array.toList_zipIdx]
theorem z6s (place:Nat→Option (Nat×Nat)):∀ (ps:List (Nat×Nat×Value)) (qs:List (Nat×Value)) (l:List Value) (r:List Value),
  ps.map (fun p=>p.2.2)=qs.map (·.2)→(∀ (k:Nat) (p:Nat×Nat×Value) (q:Nat×Value),ps[k]? = some p→qs[k]? = some q→place q.1=some (p.1,p.2.1)) →
  q6k l ps=some r→Instr.fill place ⟨l⟩ qs=some ⟨r⟩:=by
 intro ps
 induction ps with
 | nil =>
  intro qs l r h1 _ hr
  cases qs with
  | nil=>simp only [q6k,Option.some.injEq] at hr;subst hr;rfl
  | cons q qs=>simp at h1
 | cons p ps ih =>
  intro qs l r h1 h2 hr
  cases qs with
  | nil=>simp at h1
  | cons q qs =>
   obtain ⟨i,n,v⟩:=p
   obtain ⟨j,u⟩:=q
   simp only [List.map_cons,List.cons.injEq] at h1
   obtain ⟨rfl,h1⟩:=h1
   have hp:=h2 0 (i,n,v) (j,v) rfl rfl
   simp only [q6k] at hr
   cases hc:(Nat.beq (q0k v).length n&&Nat.ble (i+n) l.length) with
   | false=>rw [hc] at hr;cases hr
   | true =>
    rw [hc] at hr;simp only [cond_true] at hr
    rw [Bool.and_eq_true] at hc
    have hn:v.cells.size=n:=by rw [← q0n hc.1,← z2y];simp
    have hle:=Nat.le_of_ble_eq_true hc.2
    have ih':=ih qs _ r h1 (fun k p q hp hq=>h2 (k+1) p q hp hq) hr
    unfold Instr.fill
    simp only [hp]
    have hsz:(⟨l⟩:Array Value).size=l.length:=rfl
    rw [if_neg (by simp [hn];omega)]
    have hv:v.cells=⟨q0k v⟩:=by apply Array.ext';rw [z2y]
    have:=k4s l (q0k v) i 0
    rw [Nat.add_zero] at this
    rw [hv,← ih',← this]
theorem w2s {ok:Nat→Nat→Nat→Bool}:∀ {ps:List (Nat×Nat×Opd)} {qs:List (Nat×Operand)},q6z ok ps qs=true →
  ps.length=qs.length∧∀ (k:Nat) (p:Nat×Nat×Opd) (q:Nat×Operand),ps[k]? = some p→qs[k]? = some q→ok q.1 p.1 p.2.1=true∧okX p.2.2 q.2=true:=by
 intro ps
 induction ps with
 | nil=>intro qs h;cases qs<;>simp_all [q6z]
 | cons p ps ih =>
  intro qs h
  cases qs with
  | nil=>simp [q6z] at h
  | cons q qs =>
   obtain ⟨i,n,x⟩:=p
   obtain ⟨j,y⟩:=q
   simp only [q6z,Bool.and_eq_true] at h
   obtain ⟨h1,h2⟩:=ih h.2
   refine ⟨by simp [h1],fun k p q hp hq=>?_⟩
   cases k with
   | zero=>simp at hp hq;subst hp;subst hq;exact h.1
   | succ k=>exact h2 k p q (by simpa using hp) (by simpa using hq)
theorem v8g {e:Env}:∀ {ps:List (Nat×Nat×Opd)} {vs:List (Nat×Nat×Value)},q3v e ps=some vs →
  vs.length=ps.length∧∀ (k:Nat) (p:Nat×Nat×Opd),ps[k]? = some p→∃ v,vs[k]? = some (p.1,p.2.1,v)∧p.2.2.at e=some v:=by
 intro ps
 induction ps with
 | nil=>intro vs h;simp only [q3v,Option.some.injEq] at h;subst h;simp
 | cons p ps ih =>
  intro vs h
  obtain ⟨i,n,x⟩:=p
  simp only [q3v] at h
  cases hx:x.at e with
  | none=>rw [hx] at h;cases h
  | some v =>
   rw [hx] at h
   cases hp:q3v e ps with
   | none=>rw [hp] at h;cases h
   | some us =>
    rw [hp] at h;simp only [Option.some.injEq] at h;subst h
    obtain ⟨h1,h2⟩:=ih hp
    refine ⟨by simp [h1],fun k p hk=>?_⟩
    cases k with
    | zero=>simp at hk;subst hk;exact ⟨v,rfl,hx⟩
    | succ k=>exact h2 k p (by simpa using hk)
theorem v2n {D0:q3k} {m0:Mem} {w0:World} {N:Nat} {e:Env} {a:Act} (h:Rel D0 m0 w0 N e m a w) {ok:Nat→Nat→Nat→Bool} {ps:List (Nat×Nat×Opd)} {qs:List (Nat×Operand)} {vs:List (Nat×Nat×Value)}
  (hok:q6z ok ps qs=true) (hv:q3v e ps=some vs) :
  vs.map (fun p=>p.2.2)=(qs.map fun q=>(q.1,a.eval q.2)).map (·.2) ∧
  ∀ (k:Nat) (p:Nat×Nat×Value) (q:Nat×Value),vs[k]? = some p→(qs.map fun q=>(q.1,a.eval q.2))[k]? = some q→ok q.1 p.1 p.2.1=true:=by
 obtain ⟨h1,h2⟩:=w2s hok
 obtain ⟨h3,h4⟩:=v8g hv
 constructor
 ·apply List.ext_getElem?
  intro k
  simp only [List.getElem?_map,List.map_map,Function.comp_def]
  cases hk:ps[k]? with
  | none =>
   have:ps.length≤k:=List.getElem?_eq_none_iff.1 hk
   rw [List.getElem?_eq_none (by omega:vs.length≤k),List.getElem?_eq_none (by omega:qs.length≤k)];rfl
  | some p =>
   have hlt:k<ps.length:=(List.getElem?_eq_some_iff.1 hk).1
   obtain ⟨v,hv1,hv2⟩:=h4 k p hk
   have hq:qs[k]? = some qs[k]:=List.getElem?_eq_getElem (by omega)
   rw [hv1,hq]
   simp [q6f h (h2 k p _ hk hq).2 hv2]
 ·intro k p q hp hq
  simp only [List.getElem?_map] at hq
  cases hk:ps[k]? with
  | none =>
   have:ps.length≤k:=List.getElem?_eq_none_iff.1 hk
   rw [List.getElem?_eq_none (by omega:vs.length≤k)] at hp;cases hp
  | some p' =>
   obtain ⟨v,hv1,hv2⟩:=h4 k p' hk
   rw [hv1] at hp;cases hp
   cases hq':qs[k]? with
   | none=>rw [hq'] at hq;cases hq
   | some q' =>
    rw [hq'] at hq;simp at hq;subst hq
    exact (h2 k p' q' hk hq').1

def z2j (P:Program) (fs:List Field):List (Nat×Nat):=fs.map fun f=>(f.offset,match P.info? f.type with | some i=>i.size | none=>0)
theorem w3h (fs:Array Field) (h:fs.all (fun f=>(P.info? f.type).isSome)=true) :
  (fs.mapM fun f=>do pure (f.offset,← sizeOf f.type):Sem (Array (Nat×Nat))).run P w=.ok ⟨z2j P fs.toList⟩ w:=by
 have key:∀ (l:List Field),l.all (fun f=>(P.info? f.type).isSome)=true→(l.mapM fun f=>do pure (f.offset,← sizeOf f.type):Sem (List (Nat×Nat))).run P w=.ok (z2j P l) w:=by
  intro l
  induction l with
  | nil=>intro _;rfl
  | cons f l ih =>
   intro h
   simp only [List.all_cons,Bool.and_eq_true] at h
   obtain ⟨i,hi⟩:=Option.isSome_iff_exists.1 h.1
   simp only [List.mapM_cons,Sem.run_bind,q3u hi,Result.andThen_ok,Sem.run_pure,ih h.2,z2j,List.map_cons,hi]
 have h2:(fs.mapM fun f=>do pure (f.offset,← sizeOf f.type):Sem (Array (Nat×Nat)))=(List.toArray <$> fs.toList.mapM fun f=>do pure (f.offset,← sizeOf f.type)):=by
  rw [Array.mapM_eq_mapM_toList]
 rw [h2,Sem.run_map,key fs.toList (by rw [← Array.all_toList] at h;exact h),Result.andThen_ok]
end Go.Vx
namespace Go.Vx
open Go
variable {P:Program} {D0:q3k} {ro:Option Nat} {m0:Mem} {w0:World} {N:Nat} {e:Env} {m:Mem} {a:Act} {w:World}

theorem z2k {t:TypeId} {zeros:List Value} (h:q8n P t zeros=true):∃ i z,P.info? t=some i∧i.zero=some z∧q0k z=zeros∧i.size=zeros.length:=by
 unfold q8n at h
 cases hi:P.info? t with
 | none=>simp [hi] at h
 | some i =>
  simp only [hi] at h
  cases hz:i.zero with
  | none=>simp [hz] at h
  | some z =>
   simp only [hz,Bool.and_eq_true] at h
   exact ⟨i,z,rfl,hz,z2v _ _ h.1,q0n h.2⟩
theorem q6r (v:Value):v.cells=⟨q0k v⟩:=by apply Array.ext';rw [z2y]

theorem run_build (h:Rel D0 m0 w0 N e m a w) {t:TypeId} {zeros:List Value} {ps:List (Nat×Nat×Opd)} {qs:Array (Nat×Operand)} {vs:List (Nat×Nat×Value)} {cs:List Value}
  (hz:q8n P t zeros=true) (hf:z6p P t=true) (hp:q6z (z4v P t) ps qs.toList=true) (hv:q3v e ps=some vs) (hc:q6k zeros vs=some cs) :
  (Instr.build t (qs.map fun (i,x)=>(i,a.eval x))).run P w=.ok (.agg ⟨cs⟩) w:=by
 obtain ⟨i,z,hi,hzz,hcz,hsz⟩:=z2k hz
 obtain ⟨g1,g2⟩:=v2n h hp hv
 have hq:(qs.map fun (i,x)=>(i,a.eval x)).toList=qs.toList.map fun q=>(q.1,a.eval q.2):=by simp
 unfold z6p at hf
 cases hu:P.underlying t with
 | none=>simp [hu] at hf
 | some d =>
  cases d<;>simp only [hu] at hf<;>first | (cases hf;done) | skip
  ·rename_i len elem
   obtain ⟨y,hy⟩:=Option.isSome_iff_exists.1 hf
   have hfill:=z6s (fun i=>some (i * y.size,y.size)) vs (qs.toList.map fun q=>(q.1,a.eval q.2)) zeros cs g1 (fun k p q hp hq=>by
    have:=g2 k p q hp hq
    simp only [z4v,hu,hy,Bool.and_eq_true] at this
    have h1:=q0n this.1
    have h2:=q0n this.2
    simp only [← h1] at h2
    simp only [h1,← h2]) hc
   simp [Instr.build,q7h hi hzz,run_underlying hu,q3u hy,q6r,hcz,hfill]
  ·rename_i fs
   have hfill:=z6s (fun i=>(⟨z2j P fs.toList⟩:Array (Nat×Nat))[i]?) vs (qs.toList.map fun q=>(q.1,a.eval q.2)) zeros cs g1 (fun k p q hp hq=>by
    have:=g2 k p q hp hq
    simp only [z4v,hu] at this
    cases hx:fs[q.1]? with
    | none=>simp [hx] at this
    | some x =>
     simp only [hx,Bool.and_eq_true] at this
     cases hy:P.info? x.type with
     | none=>simp [hy] at this
     | some y =>
      simp only [hy] at this
      have hx':fs.toList[q.1]? = some x:=by simpa using hx
      simp [z2j,hx',hy,q0n this.1,q0n this.2]) hc
   simp only [Instr.build,Sem.run_bind,q7h hi hzz,run_underlying hu,Result.andThen_ok,q6r,hcz]
   rw [w3h fs hf,Result.andThen_ok,hq,hfill]
   rfl

theorem z6m (zero:List Value) (hz:zero.length≠0) (n:Nat):(Array.range (n * zero.length)).map (fun i=>(⟨zero⟩:Array Value)[i % zero.length]!)=(⟨(List.replicate n zero).flatten⟩:Array Value):=by
 apply Array.ext'
 apply List.ext_getElem?
 intro k
 have hlen:((List.replicate n zero).flatten).length=n * zero.length:=by simp [List.length_flatten]
 rcases Nat.lt_or_ge k (n * zero.length) with hk | hk
 ·have hm:k % zero.length<zero.length:=Nat.mod_lt _ (by omega)
  have h1:∀ (n k:Nat),k<n * zero.length→((List.replicate n zero).flatten)[k]? = zero[k % zero.length]?:=by
   intro n
   induction n with
   | zero=>intro k hk;simp at hk
   | succ n ih =>
    intro k hk
    rw [List.replicate_succ,List.flatten_cons,List.getElem?_append]
    by_cases hlt:k<zero.length
    ·rw [if_pos hlt,Nat.mod_eq_of_lt hlt]
    ·rw [if_neg hlt,ih (k - zero.length) (by rw [Nat.succ_mul] at hk;omega)]
     congr 1
     rw [← Nat.mod_eq_sub_mod (by omega)]
  show _=((List.replicate n zero).flatten)[k]?
  rw [h1 n k hk]
  simp [hk,hm]
 ·rw [List.getElem?_eq_none (by simpa using hk)]
  show _=((List.replicate n zero).flatten)[k]?
  rw [List.getElem?_eq_none (by omega)]
theorem z6b (zero:List Value) (hz:zero.length≠0) (n:Nat):Builtin.zeroCells ⟨zero⟩ n=⟨(List.replicate n zero).flatten⟩:=z6m zero hz n

theorem v9b (h:Rel D0 m0 w0 N e m a w) {t el n:Nat} {zeros:List Value} {ps:List (Nat×Nat×Opd)} {qs:Array (Nat×Operand)} {vs:List (Nat×Nat×Value)} {cs:List Value}
  (hu:P.underlying t=some (.slice el)) {i:TypeInfo} {z:Value} (hi:P.info? el=some i) (hz:i.zero=some z) (h0:i.size≠0) (hs:i.size=(q0k z).length)
  (hzz:(List.replicate n (q0k z)).flatten=zeros) (hl:n * i.size≤16777216)
  (hp:q6z (fun j off sz=>Nat.beq sz i.size&&Nat.beq (j * sz) off) ps qs.toList=true) (hv:q3v e ps=some vs) (hc:q6k zeros vs=some cs) :
  (Instr.buildSlice t n (qs.map fun (i,x)=>(i,a.eval x))).run P w=.ok (.slice (some ⟨w.heap.size,0,none⟩) n n) { w with heap:=w.heap.push (Cells cs el) }:=by
 obtain ⟨g1,g2⟩:=v2n h hp hv
 have hq:(qs.map fun (i,x)=>(i,a.eval x)).toList=qs.toList.map fun q=>(q.1,a.eval q.2):=by simp
 have hfill:=z6s (fun j=>some (j * i.size,i.size)) vs (qs.toList.map fun q=>(q.1,a.eval q.2)) zeros cs g1 (fun k p q hp hq=>by
  have:=g2 k p q hp hq
  simp only [Bool.and_eq_true] at this
  have h1:=q0n this.1
  have h2:=q0n this.2
  simp only [h1] at h2
  simp only [h1,← h2]) hc
 have hcells:(Array.range (n * i.size)).map (fun j=>(z.cells)[j % z.cells.size]!)=(⟨zeros⟩:Array Value):=by
  rw [q6r,hs,← hzz]
  exact z6m (q0k z) (by omega) n
 unfold Instr.buildSlice
 rw [Sem.run_bind,run_underlying hu,Result.andThen_ok]
 show (Sem.run P (sizeOf el >>= _) w)=_
 rw [Sem.run_bind,q3u hi,Result.andThen_ok]
 have hlt:¬ (n * i.size>2 ^ 24):=by omega
 simp only [hlt,if_false]
 by_cases hn:n * i.size=0
 ·have hn0:n=0:=by rcases Nat.mul_eq_zero.1 hn with h | h<;>first | exact h | exact absurd h h0
  subst hn0
  simp only [List.replicate_zero,List.flatten_nil] at hzz
  subst hzz
  have e0:∀ f:Nat→Value,Array.map f (Array.range (0 * i.size))=⟨[]⟩:=fun f=>by simp
  rw [hq]
  simp only [if_pos hn,Sem.run_bind,Result.andThen_ok,Sem.run_pure,e0,hfill,newRow,run_newObj]
 ·rw [hq]
  simp only [if_neg hn,Sem.run_bind,q7h hi hz,Result.andThen_ok,Sem.run_pure,hcells,hfill,newRow,run_newObj]
end Go.Vx
namespace Go.Vx
open Go
variable {P:Program} {D0:q3k} {ro:Option Nat} {m0:Mem} {w0:World} {N:Nat} {e:Env} {m:Mem} {a:Act} {w:World}

theorem z5l {t el sz bytes:Nat} {zero:List Value} (h:q7w P t el sz bytes zero=true) :
  ∃ i z,P.underlying t=some (.slice el)∧P.info? el=some i∧i.zero=some z∧q0k z=zero∧i.size=zero.length∧i.size=sz∧i.bytes=bytes∧bytes≠0∧sz≠0:=by
 unfold q7w at h
 cases hu:P.underlying t with
 | none=>simp [hu] at h
 | some d =>
  cases d<;>simp only [hu] at h<;>first | (cases h;done) | skip
  rename_i u
  cases hi:P.info? el with
  | none=>simp [hi] at h
  | some i =>
   simp only [hi,Bool.and_eq_true,Bool.not_eq_true',beq_eq_false_iff_ne] at h
   obtain ⟨⟨⟨⟨h1,h2⟩,h3,h4⟩,h5⟩,h6⟩:=h
   obtain ⟨i',z,hi',hz,hc,hs⟩:=z2k h2
   rw [hi] at hi';cases hi'
   obtain rfl:=q0n h1
   refine ⟨i,z,rfl,rfl,hz,hc,hs,q0n h3,q0n h4,fun e=>?_,fun e=>?_⟩
   ·subst e;simp at h5
   ·subst e;simp at h6

theorem v9f {t el bytes:Nat} {zero:List Value} (ht:q7w P t el zero.length bytes zero=true) {l c:Int} (h:0≤l∧l≤c∧c * bytes≤140737488355328) :
  (Instr.makeSlice t (.int .i64 l) (.int .i64 c)).run P w=.ok (.slice (some ⟨w.heap.size,0,none⟩) l.toNat c.toNat) { w with heap:=w.heap.push (Cells (List.replicate c.toNat zero).flatten el) }:=by
 obtain ⟨i,z,hu,hi,hz,hc,hs,_,hb,hb0,hs0⟩:=z5l ht
 obtain ⟨h0,h1,h2⟩:=h
 have hc1:c≤140737488355328:=by
  have:c * 1≤c * bytes:=Int.mul_le_mul_of_nonneg_left (by omega) (by omega)
  omega
 have w1:=IntWalk.i64_in l (by omega)
 have w2:=IntWalk.i64_in c (by omega)
 have hc2:(bytes:Int) * c≤140737488355328:=by rw [Int.mul_comm];exact h2
 have hcells:(Array.range (c.toNat * i.size)).map (fun j=>(z.cells)[j % z.cells.size]!)=(⟨(List.replicate c.toNat zero).flatten⟩:Array Value):=by
  rw [q6r,hc,hs]
  exact z6m zero (by omega) c.toNat
 unfold Instr.makeSlice
 rw [Sem.run_bind,run_underlying hu,Result.andThen_ok]
 simp only [asInt,asIntOf,Sem.run_bind,Sem.run_pure,Result.andThen_ok,z1i hi,hb,w1,w2]
 have t1:(decide (c<0)||decide ((bytes:Int) * c>2 ^ 48))=false:=by simp;omega
 have t2:(decide (l<0))=false:=by simp;omega
 have t3:(decide (l>c))=false:=by simp;omega
 simp only [t1,t2,t3,Bool.or_false,Bool.false_eq_true,if_false,Sem.run_bind,run_askRoom,Result.andThen_ok,q3u hi,Sem.run_pure]
 by_cases hn:c.toNat * i.size=0
 ·have hn0:c.toNat=0:=by rcases Nat.mul_eq_zero.1 hn with h | h<;>first | exact h | omega
  have e0:∀ f:Nat→Value,Array.map f (Array.range (c.toNat * i.size))=⟨[]⟩:=fun f=>by rw [hn];simp
  rw [if_pos hn]
  simp only [Sem.run_bind,Result.andThen_ok,Sem.run_pure,e0,newRow,run_newObj]
  rw [hn0];simp
 ·simp only [if_neg hn,Sem.run_bind,q7h hi hz,Result.andThen_ok,Sem.run_pure,hcells,newRow,run_newObj]

theorem v0u (L:Nat):∀ (r c:Nat),256≤c→c≤2 * L→Builtin.growBy L r c≤2 * L
 | 0,c,_,h=>h
 | r+1,c,hc,h=>by
  unfold Builtin.growBy
  split
  ·exact h
  ·exact v0u L r _ (by omega) (by omega)
theorem v6o {need old:Nat} (h:old<need):Builtin.nextslicecap need old≤2 * need:=by
 unfold Builtin.nextslicecap
 split
 ·omega
 ·split
  ·omega
  ·exact v0u need 4 old (by omega) (by omega)

theorem z4f {x:Option Addr} {len cap n sz:Nat} {new:List Value} (hs:Sub m w) (hf:q2v m x (n * sz) new) (h0:x=none→n=0):(Builtin.firstCells sz n (.slice x len cap)).run P w=.ok ⟨new⟩ w:=by
 obtain ⟨h1,h2⟩:=hf
 cases x with
 | none =>
  have:=h0 rfl;subst this
  have:new=[]:=by simpa using h1
  subst this;rfl
 | some ad =>
  unfold Builtin.firstCells
  have:=run_loadCells_list (P:=P) w ad new (fun j v hj=>cell?_of hs (h2 ad rfl j v hj))
  rw [h1] at this
  exact this

theorem j2c {t el sz bytes:Nat} {zero:List Value} (ht:q7w P t el sz bytes zero=true) {u:TypeId} {d:TypeDesc} (hu2:P.underlying u=some d) (hd:(match d with | .slice _=>true | _=>false)=true) {ts:List TypeId} (ty:TypeId)
  {b x:Option Addr} {len cap n xcap:Nat} {new:List Value} (hs:Sub m w) (hf:q2v m x (n * sz) new) (h0:x=none→n=0) (hfit:len+n≤cap) :
  (Builtin.append_ ⟨t :: u :: ts⟩ ty #[.slice b len cap,.slice x n xcap]).run P w =
   ((match b with | some ad=>storeCells (ad.add (len * sz)) new | none=>pure ():Sem Unit).run P w).andThen fun _ w'=>.ok (.slice b (len+n) cap) w':=by
 obtain ⟨i,z,hu,hi,hz,hc,hsz,hsz2,hb,hb0,hs0⟩:=z5l ht
 have hfc:=z4f (P:=P) (len:=n) (cap:=xcap) hs hf h0
 cases d<;>first | (cases hd;done) | skip
 unfold Builtin.append_
 simp only [List.getElem?_toArray,List.getElem?_cons_zero,List.getElem?_cons_succ]
 show Sem.run P (underlying t >>= _) w=_
 rw [Sem.run_bind,run_underlying hu,Result.andThen_ok]
 show Sem.run P (sizeOf el >>= _) w=_
 rw [Sem.run_bind,q3u hi,Result.andThen_ok]
 show Sem.run P (underlying u >>= _) w=_
 rw [Sem.run_bind,run_underlying hu2,Result.andThen_ok]
 simp only [Sem.run_bind,Sem.run_pure,Result.andThen_ok,Bool.false_eq_true,if_false,Builtin.lenOf,if_pos hfit,Bool.not_false,if_true,hsz2,hfc]
 cases b with
 | none=>simp only [Sem.run_pure,Result.andThen_ok]
 | some ad=>simp only [Sem.run_bind,Sem.run_pure]
theorem k0q {t el sz bytes:Nat} {zero:List Value} (ht:q7w P t el sz bytes zero=true) {u:TypeId} {d:TypeDesc} (hu2:P.underlying u=some d) (hd:(match d with | .slice _=>true | _=>false)=true) {ts:List TypeId} (ty:TypeId)
  {b x:Option Addr} {len cap n xcap:Nat} {new old:List Value} (hs:Sub m w) (hf:q2v m x (n * sz) new) (h0:x=none→n=0) (hg:q2v m b (len * sz) old) (h1:b=none→len=0)
  (hfit:cap<len+n) (hsmall:(len+n) * bytes≤35184372088832) :
  ∃ c,len+n≤c∧(Builtin.append_ ⟨t :: u :: ts⟩ ty #[.slice b len cap,.slice x n xcap]).run P w =
   .ok (.slice (some ⟨w.heap.size,0,none⟩) (len+n) c) { w with heap:=w.heap.push (Cells (old++new++(List.replicate (c - (len+n)) zero).flatten) el),drawn:=w.drawn+1 }:=by
 obtain ⟨i,z,hu,hi,hz,hc,hsz,hsz2,hb,hb0,hs0⟩:=z5l ht
 cases d<;>first | (cases hd;done) | skip
 obtain ⟨c,hcdef⟩:∃ c,c=(Question.appendCap (len+n) cap el).cut (w.tape w.drawn (.appendCap (len+n) cap el)):=⟨_,rfl⟩
 refine ⟨c,by rw [hcdef];simp [Question.cut],?_⟩
 have hsd:Sub m { w with drawn:=w.drawn+1 }:=hs
 have hfc:=z4f (P:=P) (len:=n) (cap:=xcap) hsd hf h0
 have hfo:=z4f (P:=P) (len:=len) (cap:=cap) hsd hg h1
 have hq:(Question.appendCap (len+n) cap el).forced=false:=rfl
 have hn1:¬ (((len+n:Nat):Int)>IntKind.i64.max∧(False∨i.bytes=0)):=fun h=>by
  rcases h.2 with h | h
  ·exact h
  ·exact hb0 (hb.symm.trans h)
 have hn2:¬ (Builtin.nextslicecap (len+n) cap * i.bytes>2 ^ 48):=by
  have h3:=v6o hfit
  have h4:Builtin.nextslicecap (len+n) cap * i.bytes≤2 * (len+n) * i.bytes:=Nat.mul_le_mul_right _ h3
  have h5:2 * (len+n) * i.bytes≤2 * 35184372088832:=by rw [Nat.mul_assoc,hb];exact Nat.mul_le_mul_left _ hsmall
  omega
 unfold Builtin.append_
 simp only [List.getElem?_toArray,List.getElem?_cons_zero,List.getElem?_cons_succ]
 show Sem.run P (underlying t >>= _) w=_
 rw [Sem.run_bind,run_underlying hu,Result.andThen_ok]
 show Sem.run P (sizeOf el >>= _) w=_
 rw [Sem.run_bind,q3u hi,Result.andThen_ok]
 show Sem.run P (underlying u >>= _) w=_
 rw [Sem.run_bind,run_underlying hu2,Result.andThen_ok]
 have hz2:z.cells=⟨zero⟩:=by rw [q6r,hc]
 simp only [Sem.run_bind,Sem.run_pure,Result.andThen_ok,Bool.false_eq_true,if_false,Builtin.lenOf,if_neg (Nat.not_le.2 hfit),Bool.not_false,if_true,z1i hi,if_neg hn1,if_neg hn2,run_choose,hq,run_askRoom]
 rw [hsz2]
 simp only [hfc,hfo,Result.andThen_ok,q7h hi hz,newRow,Sem.run_bind,run_newObj,Sem.run_pure,hz2,z6b zero (by omega),← hcdef]
 congr 1
 simp
end Go.Vx
namespace Go.Vx
open Go
variable {P:Program} {D0:q3k} {ro:Option Nat} {m0:Mem} {w0:World} {N:Nat} {e:Env} {m:Mem} {a:Act} {w:World}

theorem z9c {t sz:Nat} (h:q9s P t sz=true):∃ el i,P.underlying t=some (.slice el)∧P.info? el=some i∧i.size=sz:=by
 unfold q9s at h
 cases hu:P.underlying t with
 | none=>simp [hu] at h
 | some d =>
  cases d<;>simp only [hu] at h<;>first | (cases h;done) | skip
  rename_i el
  cases hi:P.info? el with
  | none=>simp [hi] at h
  | some i=>simp only [hi] at h;exact ⟨el,i,rfl,hi,q0n h⟩
theorem j8a {t sz len:Nat} (h:z2d P t sz len=true):∃ el i,P.underlying t=some (.array len el)∧P.info? el=some i∧i.size=sz:=by
 unfold z2d at h
 cases hu:P.underlying t with
 | none=>simp [hu] at h
 | some d =>
  cases d<;>simp only [hu] at h<;>first | (cases h;done) | skip
  rename_i l el
  rw [Bool.and_eq_true] at h
  obtain rfl:=q0n h.1
  cases hi:P.info? el with
  | none=>simp [hi] at h
  | some i=>simp only [hi] at h;exact ⟨el,i,rfl,hi,q0n h.2⟩
theorem j0y {t f off:Nat} (h:z1s P t f off=true):∃ fs x i,P.underlying t=some (.struct fs)∧fs[f]? = some x∧x.offset=off∧P.info? x.type=some i∧i.size≠0:=by
 unfold z1s at h
 cases hu:P.underlying t with
 | none=>simp [hu] at h
 | some d =>
  cases d<;>simp only [hu] at h<;>first | (cases h;done) | skip
  rename_i fs
  cases hx:fs[f]? with
  | none=>simp [hx] at h
  | some x =>
   simp only [hx,Bool.and_eq_true] at h
   cases hi:P.info? x.type with
   | none=>simp [hi] at h
   | some i =>
    simp only [hi] at h
    exact ⟨fs,x,i,rfl,hx,q0n h.1,hi,fun e=>by rw [e] at h;simp at h⟩
theorem z8j {t f off:Nat} (h:z1s P t f off=true) (ad:Addr):(Instr.fieldAt t (.pointer (some ad)) f).run P w=.ok (.pointer (some (ad.add off))) w:=by
 obtain ⟨fs,x,i,hu,hx,ho,hi,h0⟩:=j0y h
 unfold Instr.fieldAt
 rw [Sem.run_bind,run_underlying hu,Result.andThen_ok]
 simp only [hx,Instr.sureAddr,fieldPlace,Sem.run_bind,Sem.run_pure,Result.andThen_ok,q3u hi,if_neg h0,ho]
theorem w3a {t esz:Nat} (h:q9s P t esz=true) (ad:Addr) (len cap:Nat) (k:IntKind) (i:Int) (hi:0≤i∧i<len) :
  (Instr.indexAt t (.slice (some ad) len cap) (.int k i)).run P w=.ok (.pointer (some (ad.add (i.toNat * esz)))) w:=by
 obtain ⟨el,inf,hu,hinf,hs⟩:=z9c h
 unfold Instr.indexAt
 simp only [asIntOf,Sem.run_bind,Sem.run_pure,Result.andThen_ok,run_underlying hu,if_pos hi,q3u hinf,hs]
theorem z8r {t esz len:Nat} (h:z2d P t esz len=true) (ad:Addr) (k:IntKind) (i:Int) (hi:0≤i∧i<len) :
  (Instr.indexAt t (.pointer (some ad)) (.int k i)).run P w=.ok (.pointer (some (ad.add (i.toNat * esz)))) w:=by
 obtain ⟨el,inf,hu,hinf,hs⟩:=j8a h
 unfold Instr.indexAt
 simp only [asIntOf,Sem.run_bind,Sem.run_pure,Result.andThen_ok,run_underlying hu,Instr.sureAddr,if_pos hi,q3u hinf,hs]
def z8l (agg:Bool) (cs:Array Value) (off n:Nat) (v:Value):Prop:=match agg with | true=>v=.agg ⟨(cs.toList.drop off).take n⟩ | false=>∃ r,cs.toList.drop off=v :: r
theorem j3b {t f off n:Nat} {agg:Bool} {cs:Array Value} {v:Value} (h:z7v P t f off n agg=true)
  (hv:z8l agg cs off n v):(Instr.field t (.agg cs) f).run P w=.ok v w:=by
 unfold z7v at h
 cases hu:P.underlying t with
 | none=>simp [hu] at h
 | some d =>
  cases d<;>simp only [hu] at h<;>first | (cases h;done) | skip
  rename_i fs
  cases hx:fs[f]? with
  | none=>simp [hx] at h
  | some x =>
   simp only [hx,Bool.and_eq_true] at h
   obtain ⟨⟨h1,h2⟩,h3⟩:=h
   obtain ⟨d,i,hd,hi,hk,hn⟩:=q8z h2
   unfold Instr.field
   rw [Sem.run_bind,run_underlying hu,Result.andThen_ok]
   simp only [hx,asAgg,part,Sem.run_bind,Sem.run_pure,Result.andThen_ok,q8t hd,hk,q0n h1]
   unfold z8l at hv
   cases agg with
   | true =>
    subst hv
    simp only [if_true,Sem.run_bind,q3u hi,Result.andThen_ok,Sem.run_pure,hn]
    congr 2
    apply Array.ext'
    simp [List.take_drop,List.extract_eq_take_drop]
   | false =>
    obtain ⟨r,hr⟩:=hv
    have h0:cs[off]? = some v:=by
     have:(cs.toList.drop off)[0]? = some v:=by rw [hr];rfl
     rw [List.getElem?_drop] at this
     simpa using this
    simp only [Bool.false_eq_true,if_false,h0,Sem.run_pure]
theorem j5r {t sz len:Nat} (h:z3w P t sz len=true):∃ el d i,P.underlying t=some (.array len el)∧P.underlying el=some d∧P.info? el=some i∧z5i d=false∧i.size=sz:=by
 unfold z3w at h
 cases hu:P.underlying t with
 | none=>simp [hu] at h
 | some d =>
  cases d<;>simp only [hu] at h<;>first | (cases h;done) | skip
  rename_i l el
  rw [Bool.and_eq_true] at h
  obtain rfl:=q0n h.1
  obtain ⟨d,i,hd,hi,hk,hn⟩:=q8z h.2
  exact ⟨el,d,i,rfl,hd,hi,hk,hn⟩
theorem v8i {t len:Nat} {cs:Array Value} {v:Value} {i:Int} (h:z3w P t 1 len=true) (hi:0≤i∧i<len) (hv:cs.toList[i.toNat]? = some v) (k:IntKind) :
  (Instr.index t (.agg cs) (.int k i)).run P w=.ok v w:=by
 obtain ⟨el,d,inf,hu,hd,hinf,hk,hs⟩:=j5r h
 unfold Instr.index
 have hv':cs[i.toNat]? = some v:=by simpa using hv
 simp only [asIntOf,Sem.run_bind,Sem.run_pure,Result.andThen_ok,run_underlying hu,if_pos hi,q3u hinf,hs,part,q8t hd,hk,Bool.false_eq_true,if_false,Nat.mul_one,hv']
theorem j0b {t:Nat} {s:ByteArray} {i:Int} {b:UInt8} (h:P.underlying t=some .string) (hi:0≤i) (hb:s[i.toNat]? = some b) (k:IntKind):(Instr.index t (.string s) (.int k i)).run P w=.ok (.int .u8 b.toNat) w:=by
 unfold Instr.index
 simp only [asIntOf,Sem.run_bind,Sem.run_pure,Result.andThen_ok,run_underlying h,if_pos hi,hb]
theorem w5b {t len el:Nat} {inf:TypeInfo} (h:P.underlying t=some (.array len el)) (hinf:P.info? el=some inf) (hl:len≠0) (a:Addr):(Instr.sliceAt t (.pointer (some a)) none none none).run P w=.ok (.slice (some (a.add 0)) len len) w:=by
 unfold Instr.sliceAt
 simp only [Sem.run_bind,run_underlying h,Result.andThen_ok,Instr.sureAddr,Sem.run_pure,Instr.sliceBounds,q3u hinf,Nat.zero_mul,Nat.sub_zero,if_neg hl]
theorem w1z {t esz:Nat} (h:q9s P t esz=true) {b:Option Addr} {len cap:Nat} {lo hi:Option Value} {l r:Int}
  (hlo:lo=none∧l=0∨∃ k,lo=some (.int k l)) (hhi:hi=none∧r=len∨∃ k,hi=some (.int k r)) (hb:0≤l∧l≤r∧r≤cap) :
  (Instr.sliceAt t (.slice b len cap) lo hi none).run P w=.ok (.slice (if (cap:Int)=l then b else b.map (·.add (l.toNat * esz))) (r.toNat - l.toNat) (cap - l.toNat)) w:=by
 obtain ⟨el,inf,hu,hinf,hs⟩:=z9c h
 have hb2:(Instr.sliceBounds true len cap lo hi none).run P w=.ok (l.toNat,r.toNat,cap) w:=by
  have q1:0≤r∧r≤(cap:Int):=⟨by omega,hb.2.2⟩
  have q2:0≤l∧l≤(r.toNat:Int):=⟨hb.1,by omega⟩
  rcases hhi with ⟨rfl,rfl⟩ | ⟨k,rfl⟩
  ·have q3:0≤l∧l≤(len:Int):=⟨hb.1,hb.2.1⟩
   rcases hlo with ⟨rfl,rfl⟩ | ⟨k',rfl⟩
   ·simp [Instr.sliceBounds]
   ·simp only [Instr.sliceBounds,Instr.sliceBound,asIntOf,Sem.run_bind,Sem.run_pure,Result.andThen_ok,if_pos q3,Int.toNat_natCast]
  ·rcases hlo with ⟨rfl,rfl⟩ | ⟨k',rfl⟩
   ·simp only [Instr.sliceBounds,Instr.sliceBound,asIntOf,Sem.run_bind,Sem.run_pure,Result.andThen_ok,if_pos q1];rfl
   ·simp only [Instr.sliceBounds,Instr.sliceBound,asIntOf,Sem.run_bind,Sem.run_pure,Result.andThen_ok,if_pos q1,if_pos q2]
 unfold Instr.sliceAt
 rw [Sem.run_bind,run_underlying hu,Result.andThen_ok]
 show Sem.run P (Instr.slice t (.slice b len cap) lo hi none) w=_
 unfold Instr.slice
 rw [Sem.run_bind,run_underlying hu,Result.andThen_ok]
 simp only [Sem.run_bind,hb2,Result.andThen_ok,q3u hinf,hs,Sem.run_pure]
 congr 2
 by_cases hc:(cap:Int)=l
 ·rw [if_pos hc,if_pos (by omega)]
 ·rw [if_neg hc,if_neg (by omega)]
theorem k8c {mx:Bool}:∀ (vs:List Value) {k:IntKind} {x:Int} {v:Value},z1y mx k x vs=some v →
  (vs.foldlM (if mx then Builtin.max2 else Builtin.min2) (.int k x)).run P w=.ok v w:=by
 intro vs
 induction vs with
 | nil=>intro k x v h;simp only [z1y,Option.some.injEq] at h;subst h;rfl
 | cons u vs ih =>
  intro k x v h
  cases u<;>simp only [z1y] at h<;>first | (cases h;done) | skip
  rename_i k' y
  cases mx with
  | true=>simp only [List.foldlM_cons,if_true,Builtin.max2,pure_bind];exact ih h
  | false=>simp only [List.foldlM_cons,Bool.false_eq_true,if_false,Builtin.min2,pure_bind];exact ih h
theorem j5p {f : Nat} (h : z2i P f = true) : ∃ fn, P.funcs[f]? = some fn ∧ fn.body.isSome = true ∧ (fn.name == "runtime.NumGoroutine") = false := by
 unfold z2i at h
 cases hf:P.funcs[f]? with
 | none=>simp [hf] at h
 | some fn=>simp only [hf,Bool.and_eq_true,Bool.not_eq_true'] at h;exact ⟨fn,rfl,h.1,h.2⟩
theorem v1y {f:Nat} (h:z2i P f=true) (args:Array Value):(callFunc f args).run P w=.ok (.enter f args) w:=by
 obtain ⟨fn,hf,hb,hn⟩:=j5p h
 have hb':fn.body.isNone=false:=by cases hh:fn.body with | none=>simp [hh] at hb | some _=>rfl
 unfold callFunc
 simp only [Sem.run_bind,run_program,Result.andThen_ok,hf,hn,Bool.false_eq_true,if_false,hb',Sem.run_pure]
end Go.Vx
namespace Go.Vx
open Go
variable {P:Program} {D0:q3k} {ro:Option Nat} {m0:Mem} {w0:World} {N:Nat} {e:Env} {m:Mem} {a:Act} {w:World}

theorem Step.putO {m:Mem} {w:World} (h:Sub m w) {b:Nat} {o o':Obj} (hb:m b=some o):Step m w (m.set b o') { w with heap:=w.heap.setIfInBounds b o' } :=
 ⟨fun c q hc=>by
  have hlt:=h.lt hb
  show (w.heap.setIfInBounds b o')[c]? = _
  by_cases e:c=b
  ·subst e;rw [Mem.set_same] at hc;cases hc;simp [hlt]
  ·rw [Mem.set_other _ _ e] at hc;rw [Array.getElem?_setIfInBounds_ne (Ne.symm e)];exact h c q hc,
  by simp,fun c hc hm=>by
   have e:c≠b:=fun e=>by subst e;rw [hb] at hm;cases hm
   exact ⟨by rw [Mem.set_other _ _ e];exact hm,by show (w.heap.setIfInBounds b o')[c]? = _;rw [Array.getElem?_setIfInBounds_ne (Ne.symm e)]⟩,rfl,rfl,rfl⟩

theorem v1l:∀ {xs ys:List Value},q4s xs ys=some true→xs=ys
 | [],[],_=>rfl
 | .int k n :: xs,.int k' l :: ys,h=>by
  simp only [q4s] at h
  cases hk:kbeq k k' with
  | false=>rw [hk] at h;cases h
  | true =>
   rw [hk] at h;simp only [cond_true] at h
   split at h<;>try (cases h;done)
   rename_i r hr
   simp only [Option.some.injEq,Bool.and_eq_true,beq_iff_eq] at h
   obtain ⟨h1,rfl⟩:=h
   rw [q6n hk,h1,v1l hr]
theorem v0t:∀ {xs ys:List Value} {r:Bool},q4s xs ys=some r→q8v xs=true∧q8v ys=true∧xs.length=ys.length
 | [],[],_,_=>⟨rfl,rfl,rfl⟩
 | .int k n :: xs,.int k' l :: ys,r,h=>by
  simp only [q4s] at h
  cases hk:kbeq k k' with
  | false=>rw [hk] at h;cases h
  | true =>
   rw [hk] at h;simp only [cond_true] at h
   split at h<;>try (cases h;done)
   rename_i r2 hr
   obtain ⟨h1,h2,h3⟩:=v0t hr
   exact ⟨h1,h2,by simp [h3]⟩
theorem v0j (d:Nat):∀ (xs:List Value),q8v xs=true→((xs.zip xs).all fun p=>Instr.sameBits d p.1 p.2)=true
 | [],_=>rfl
 | .int k n :: xs,h=>by
  simp only [List.zip_cons_cons,List.all_cons,Bool.and_eq_true]
  exact ⟨by cases d<;>simp [Instr.sameBits],v0j d xs h⟩
theorem w1y {k j:Value} (h:keq k j=some true):Instr.sameBits 10000 j k=true:=by
 unfold keq at h
 split at h<;>try (cases h;done)
 ·rename_i a n b l
  cases hk:kbeq a b with
  | false=>rw [hk] at h;cases h
  | true=>rw [hk] at h;simp only [cond_true,Option.some.injEq,beq_iff_eq] at h;rw [q6n hk,h];simp [Instr.sameBits]
 ·rename_i a b
  obtain rfl:a=b:=Array.ext' (v1l h)
  have:=(v0t h).1
  simp only [Instr.sameBits,beq_self_eq_true,Bool.true_and]
  exact v0j 9999 _ this
theorem k9g {k j:Value} (h:keq k j=some true):(Instr.keyThatStays j k).run P w=.ok k w:=by
 unfold Instr.keyThatStays
 rw [if_pos (w1y h)];rfl

theorem v1a {β:Type} (f:Nat→β→Sem (ForInStep β)) (n:Nat) (b:β):(forIn (m:=Sem) [0:n] b f).run P w=(forIn (List.range' 0 n) b f).run P w:=by
 rw [Std.Legacy.Range.forIn_eq_forIn_range']
 simp [Std.Legacy.Range.size]
theorem getI {xs:List Value} {s:Nat} {k:IntKind} {n:Int} {r:List Value} (h:xs.drop s=.int k n :: r):(⟨xs⟩:Array Value)[s]? = some (.int k n):=by
 rw [List.getElem?_toArray]
 have:=congrArg (·[0]?) h
 simpa using this
theorem z7p {el:TypeId} {kt:IntKind} (hel:P.underlying el=some (.int kt)) {xs:List Value} {s:Nat} {v:Value} (h:(⟨xs⟩:Array Value)[s]? = some v):(part el ⟨xs⟩ s).run P w=.ok v w:=z6i hel h
theorem v6i {el:TypeId} {inf:TypeInfo} (hi:P.info? el=some inf) (h1:inf.size=1):(sizeOf el).run P w=.ok 1 w:=by rw [q3u hi,h1]
theorem w1g (d:Nat) {t el n:Nat} {kt:IntKind} {inf:TypeInfo} (ht:P.underlying t=some (.array n el)) (hel:P.underlying el=some (.int kt)) (hi:P.info? el=some inf) (h1:inf.size=1) {xs ys:List Value} {r:Bool}
  (hn:xs.length=n) (hr:q4s xs ys=some r):(Op.equalIn (d+2) t (.agg ⟨xs⟩) (.agg ⟨ys⟩)).run P w=.ok r w:=by
 unfold Op.equalIn
 simp only [Sem.run_bind,run_underlying ht,Result.andThen_ok,v6i hi h1,Nat.mul_one]
 rw [v1a]
 have key:∀ (k s:Nat) (xs' ys':List Value) (r:Bool),xs.drop s=xs'→ys.drop s=ys'→xs'.length=k→q4s xs' ys'=some r →
   (forIn (m:=Sem) (List.range' s k) ((none,()):Option Bool×Unit) (fun i r=>do
    let x ← part el ⟨xs⟩ i
    let y ← part el ⟨ys⟩ i
    let b ← Op.equalIn (d+1) el x y
    if (!b)=true then pure (ForInStep.done (some false,())) else pure (ForInStep.yield (none,())))).run P w=.ok (match r with | true=>(none,()) | false=>(some false,())) w:=by
  intro k
  induction k with
  | zero =>
   intro s xs' ys' r hx hy hl hr
   obtain rfl:=List.length_eq_zero_iff.1 hl
   cases ys' with
   | nil=>simp only [q4s,Option.some.injEq] at hr;subst hr;rfl
   | cons y ys'=>simp [q4s] at hr
  | succ k ih =>
   intro s xs' ys' r hx hy hl hr
   match xs',ys',hr with
   | .int a n :: xs2,.int b l :: ys2,hr =>
    simp only [q4s] at hr
    cases hk:kbeq a b with
    | false=>rw [hk] at hr;cases hr
    | true =>
     rw [hk] at hr;simp only [cond_true] at hr
     split at hr<;>try (cases hr;done)
     rename_i r2 hr2
     simp only [Option.some.injEq] at hr
     subst hr
     obtain rfl:=q6n hk
     rw [List.range'_succ,List.forIn_cons]
     simp only [Sem.run_bind,z7p hel (getI hx),z7p hel (getI hy),Result.andThen_ok,run_equalIn_int w d el a kt n l hel]
     cases hnl:(n==l)
     ·simp
     ·simp only [Bool.not_true,Bool.false_eq_true,if_false,Sem.run_pure,Result.andThen_ok,Bool.true_and]
      exact ih (s+1) xs2 ys2 r2 (by rw [← List.drop_drop,hx];rfl) (by rw [← List.drop_drop,hy];rfl) (by simpa using hl) hr2
 have:=key n 0 xs ys r rfl rfl hn hr
 rw [this]
 cases r<;>rfl
theorem w0z (em:Bool) (d:Nat) {t el n:Nat} {kt:IntKind} {inf:TypeInfo} (ht:P.underlying t=some (.array n el)) (hel:P.underlying el=some (.int kt)) (hi:P.info? el=some inf) (h1:inf.size=1) {xs:List Value}
  (hn:xs.length=n) (hx:q8v xs=true):(Instr.checkKey em (d+2) t (.agg ⟨xs⟩)).run P w=.ok () w:=by
 unfold Instr.checkKey
 simp only [Sem.run_bind,run_underlying ht,Result.andThen_ok]
 rw [v1a]
 have key:∀ (k s:Nat) (xs':List Value),xs.drop s=xs'→xs'.length=k→q8v xs'=true →
   (forIn (m:=Sem) (List.range' s k) PUnit.unit (fun i r=>do
    let z ← sizeOf el
    let x ← part el ⟨xs⟩ (i * z)
    Instr.checkKey em (d+1) el x
    pure (ForInStep.yield PUnit.unit))).run P w=.ok PUnit.unit w:=by
  intro k
  induction k with
  | zero=>intro s xs' _ hl _;rfl
  | succ k ih =>
   intro s xs' hx hl hi2
   match xs',hi2 with
   | .int a n :: xs2,hi2 =>
    rw [List.range'_succ,List.forIn_cons]
    have hc:(Instr.checkKey em (d+1) el (.int a n)).run P w=.ok () w:=by
     unfold Instr.checkKey;simp only [Sem.run_bind,run_underlying hel,Result.andThen_ok];rfl
    simp only [Sem.run_bind,v6i hi h1,Result.andThen_ok,Nat.mul_one,z7p hel (getI hx),hc,Sem.run_pure]
    exact ih (s+1) xs2 (by rw [← List.drop_drop,hx];rfl) (by simpa using hl) hi2
 rw [key n 0 xs rfl hn hx]
 rfl

theorem v1w {t kn:Nat} (h:z0m P t kn=true):(∃ kt,P.underlying t=some (.int kt)∧kn=0)∨(∃ el kt inf,P.underlying t=some (.array kn el)∧kn≠0∧P.underlying el=some (.int kt)∧P.info? el=some inf∧inf.size=1):=by
 unfold z0m at h
 split at h<;>try (cases h;done)
 ·rename_i kt hu;exact .inl ⟨kt,hu,q0n h⟩
 ·rename_i n el hu
  simp only [Bool.and_eq_true,Bool.not_eq_true'] at h
  obtain ⟨⟨h1,h2⟩,h3⟩:=h
  split at h3<;>try (cases h3;done)
  rename_i kt inf hk hi
  obtain rfl:=q0n h2
  exact .inr ⟨el,kt,inf,hu,(fun hh=>by rw [hh] at h1;cases h1),hk,hi,q0n h3⟩
theorem z9z {t kn:Nat} (h:z0m P t kn=true) {k:Value} (hk:q6i kn k=true) (em:Bool):(Instr.checkKey em 10000 t k).run P w=.ok () w:=by
 rcases v1w h with ⟨kt,hu,rfl⟩ | ⟨el,kt,inf,hu,hn,hel,hi,h1⟩
 ·unfold q6i at hk
  split at hk<;>try (cases hk;done)
  ·unfold Instr.checkKey;simp only [Sem.run_bind,run_underlying hu,Result.andThen_ok];rfl
 ·unfold q6i at hk
  split at hk<;>try (cases hk;done)
  ·exact absurd (q0n hk) hn
  ·rename_i xs
   simp only [Bool.and_eq_true] at hk
   exact w0z em 9998 hu hel hi h1 (xs:=xs.toList) (q0n hk.1.2) hk.2
theorem z8a {t kn:Nat} (h:z0m P t kn=true) {k:Value} (hk:q6i kn k=true) {es:List MapEntry} {f:Option (Nat×Value)} (hf:q5v k es 0=some f):(Instr.findKey t k es).run P w=.ok f w:=by
 rcases v1w h with ⟨kt,hu,rfl⟩ | ⟨el,kt,inf,hu,hn,hel,hi,h1⟩
 ·unfold q6i at hk
  split at hk<;>try (cases hk;done)
  rename_i kk n
  have key:∀ (es:List MapEntry) (j:Nat) (f:Option (Nat×Value)),q5v (.int kk n) es j=some f→Instr.findNow (.int kt) (.int kk n) es j=some f:=by
   intro es
   induction es with
   | nil=>intro j f h;exact h
   | cons e es ih =>
    intro j f h
    simp only [q5v] at h
    unfold Instr.findNow
    have hs:∀ r,keq (.int kk n) e.key=some r→Instr.sameNow (.int kt) (.int kk n) e.key=some r:=by
     intro r hr
     cases hkey:e.key<;>rw [hkey] at hr<;>simp only [keq] at hr<;>try (cases hr;done)
     rename_i b l
     cases hb:kbeq kk b with
     | false=>rw [hb] at hr;cases hr
     | true =>
      rw [hb] at hr
      obtain rfl:=q6n hb
      simpa [Instr.sameNow] using hr
    split at h<;>try (cases h;done)
    ·rename_i hq;rw [hs _ hq];exact h
    ·rename_i hq;rw [hs _ hq];exact ih _ _ h
  unfold Instr.findKey
  simp only [Sem.run_bind,run_underlying hu,Result.andThen_ok,key es 0 f hf]
  rfl
 ·unfold q6i at hk
  split at hk<;>try (cases hk;done)
  ·exact absurd (q0n hk) hn
  rename_i xs
  simp only [Bool.and_eq_true] at hk
  have hl:=q0n hk.1.2
  have ask:∀ (es:List MapEntry) (j:Nat) (f:Option (Nat×Value)),q5v (.agg xs) es j=some f→(Instr.findAsking t (.agg xs) es j).run P w=.ok f w:=by
   intro es
   induction es with
   | nil=>intro j f h;cases h;rfl
   | cons e es ih =>
    intro j f h
    simp only [q5v] at h
    unfold Instr.findAsking
    have hs:∀ r,keq (.agg xs) e.key=some r→(Op.equal t (.agg xs) e.key).run P w=.ok r w:=by
     intro r hr
     cases hkey:e.key<;>rw [hkey] at hr<;>simp only [keq] at hr<;>try (cases hr;done)
     rename_i b
     exact w1g 9998 hu hel hi h1 (xs:=xs.toList) (ys:=b.toList) hl hr
    split at h<;>try (cases h;done)
    ·rename_i hq
     cases h
     simp only [Sem.run_bind,hs _ hq,Result.andThen_ok,if_true,Sem.run_pure]
    ·rename_i hq
     simp only [Sem.run_bind,hs _ hq,Result.andThen_ok,Bool.false_eq_true,if_false]
     exact ih _ _ h
  have now:∀ (es:List MapEntry) (j:Nat),Instr.findNow (.array kn el) (.agg xs) es j=match es with | []=>some none | _ :: _=>none:=by
   intro es j
   cases es with
   | nil=>rfl
   | cons e es=>simp [Instr.findNow,Instr.sameNow]
  unfold Instr.findKey
  simp only [Sem.run_bind,run_underlying hu,Result.andThen_ok,now]
  cases es with
  | nil=>cases hf;rfl
  | cons e es=>exact ask _ 0 f hf

theorem v6p {t kn:Nat} (h:q8j P t kn=true):∃ kt el,P.underlying t=some (.map kt el)∧z0m P kt kn=true:=by
 unfold q8j at h
 split at h<;>try (cases h;done)
 rename_i kt el hu;exact ⟨kt,el,hu,h⟩
theorem z9b {r:Nat} {es:Array MapEntry} {cl:Nat} (hs:Sub m w) (h:m r=some (.map es cl)):(getObj r).run P w=.ok (.map es cl) w:=by simp [getObj,Sem.run,hs _ _ h]
theorem v4u {r:Nat} {es:Array MapEntry} {cl:Nat} {o':Obj} (hs:Sub m w) (h:m r=some (.map es cl)):(setObj r o').run P w=.ok () { w with heap:=w.heap.setIfInBounds r o' }:=by simp [setObj,Sem.run,hs _ _ h]
theorem w2q {t kn:Nat} {ok:Bool} {zero:Value} (h:q8j P t kn=true) (hz:z6c P t zero=true) {mv k:Value} {f:Option (Nat×Value)} (hk:q6i kn k=true)
  (hm:(mv=.map none∧f=none)∨∃ r es cl,mv=.map (some r)∧w.heap[r]? = some (.map es cl)∧q5v k es.toList 0=some f) :
  (Instr.lookup t mv k ok).run P w=.ok (z4p ok zero f) w:=by
 obtain ⟨kt,el,hu,hkt⟩:=v6p h
 unfold z6c at hz
 rw [hu] at hz;simp only at hz
 split at hz<;>try (cases hz;done)
 rename_i inf hinf
 split at hz<;>try (cases hz;done)
 rename_i z hz0
 obtain rfl:=z6o _ _ hz
 have hzero:(zeroValue el).run P w=.ok z w:=q7h hinf hz0 w
 unfold Instr.lookup
 simp only [Sem.run_bind,run_underlying hu,Result.andThen_ok]
 rcases hm with ⟨rfl,rfl⟩ | ⟨r,es,cl,rfl,hb,hf⟩
 ·have hfk:(Instr.findKey kt k (#[]:Array MapEntry).toList).run P w=.ok none w:=z8a hkt hk (es:=[]) (f:=none) rfl
  refine (Sem.run_bind' P (pure #[]) _ w).trans ?_
  simp only [Sem.run_pure,Result.andThen_ok,Sem.run_bind,z9z hkt hk,hfk,hzero]
  cases ok<;>rfl
 ·have hg:(getObj r).run P w=.ok (.map es cl) w:=by simp [getObj,Sem.run,hb]
  simp only [Sem.run_bind,hg,Sem.run_pure,Result.andThen_ok,z9z hkt hk,z8a hkt hk hf]
  cases f with
  | none=>simp only [Result.andThen_ok,Sem.run_bind,hzero,Sem.run_pure];cases ok<;>rfl
  | some p=>obtain ⟨j,v⟩:=p;simp only [Result.andThen_ok,Sem.run_bind,Sem.run_pure];cases ok<;>rfl
theorem j4r {k:Value}:∀ (es:List MapEntry) (j:Nat) {i:Nat} {v:Value},q5v k es j=some (some (i,v))→∃ s x,i=j+s∧es[s]? = some x∧keq k x.key=some true∧v=x.val:=by
 intro es
 induction es with
 | nil=>intro j i v h;cases h
 | cons e es ih =>
  intro j i v h
  simp only [q5v] at h
  split at h<;>try (cases h;done)
  ·rename_i hq;cases h;exact ⟨0,e,rfl,rfl,hq,rfl⟩
  ·obtain ⟨s,x,h1,h2,h3,h4⟩:=ih _ h
   exact ⟨s+1,x,by omega,by simpa using h2,h3,h4⟩
theorem j6z {t kn:Nat} (h:q8j P t kn=true) (hs:Sub m w) {r:Nat} {es:Array MapEntry} {cl:Nat} (hb:m r=some (.map es cl)) {k v:Value} {f:Option (Nat×Value)} (hk:q6i kn k=true) (hf:q5v k es.toList 0=some f) :
  (Instr.mapUpdate t (.map (some r)) k v).run P w=.ok () { w with heap:=w.heap.setIfInBounds r (v6w es cl f k v) }:=by
 obtain ⟨kt,el,hu,hkt⟩:=v6p h
 unfold Instr.mapUpdate
 simp only [Sem.run_bind,run_underlying hu,Result.andThen_ok,z9b hs hb,z9z hkt hk,z8a hkt hk hf]
 cases f with
 | none=>simp only [v4u hs hb];rfl
 | some p =>
  obtain ⟨j,u⟩:=p
  obtain ⟨s,x,h1,h2,h3,h4⟩:=j4r _ _ hf
  obtain rfl:j=s:=by omega
  have hx:(es[j]?).map (·.key)=some x.key:=by rw [← Array.getElem?_toList,h2];rfl
  simp only [Sem.run_bind,hx,Option.getD_some,k9g h3,Result.andThen_ok,v4u hs hb]
  rfl
theorem w4f {t el sz bytes:Nat} {zero:List Value} (ht:q7w P t el sz bytes zero=true) (hszl:sz=zero.length) {u:TypeId} {k:IntKind} (hu2:P.underlying u=some (.int k)) {ts:List TypeId} (ty:TypeId) {n:Int}
  (hn0:0≤n) (hn1:n≤9223372036854775807) (hsmall:n.toNat * bytes≤35184372088832) :
  (n=0→(Builtin.append_ ⟨t :: u :: ts⟩ ty #[.slice none 0 0,.int .i64 n]).run P w=.ok (.slice none 0 0) w) ∧
  (0<n→∃ c,n.toNat≤c∧(Builtin.append_ ⟨t :: u :: ts⟩ ty #[.slice none 0 0,.int .i64 n]).run P w =
   .ok (.slice (some ⟨w.heap.size,0,none⟩) n.toNat c) { w with heap:=w.heap.push (Cells ((List.replicate n.toNat zero).flatten++(List.replicate (c - n.toNat) zero).flatten) el),drawn:=w.drawn+1 }):=by
 obtain ⟨i,z,hu,hi,hz,hc,hsz,hsz2,hb,hb0,hs0⟩:=z5l ht
 have hwr:IntKind.i64.wrap n=n:=IntWalk.i64_in n (by omega)
 have hneg:¬ n<0:=by omega
 have hz2:z.cells=⟨zero⟩:=by rw [q6r,hc]
 have hbig:¬ n * (i.bytes:Int)>2 ^ 48:=by
  rw [hb]
  have:n * (bytes:Int)=((n.toNat * bytes:Nat):Int):=by
   rw [Int.natCast_mul,Int.toNat_of_nonneg hn0]
  rw [this];omega
 have start:∀ (k:Sem Value) ,True:=fun _=>trivial
 constructor
 ·intro h0
  subst h0
  unfold Builtin.append_
  simp only [List.getElem?_toArray,List.getElem?_cons_zero,List.getElem?_cons_succ]
  show Sem.run P (underlying t >>= _) w=_
  rw [Sem.run_bind,run_underlying hu,Result.andThen_ok]
  show Sem.run P (sizeOf el >>= _) w=_
  rw [Sem.run_bind,q3u hi,Result.andThen_ok]
  show Sem.run P (underlying u >>= _) w=_
  rw [Sem.run_bind,run_underlying hu2,Result.andThen_ok]
  simp [asInt,asIntOf,z1i hi,hwr]
 ·intro hpos
  obtain ⟨c,hcdef⟩:∃ c,c=(Question.appendCap (0+n.toNat) 0 el).cut (w.tape w.drawn (.appendCap (0+n.toNat) 0 el)):=⟨_,rfl⟩
  refine ⟨c,by rw [hcdef];simp [Question.cut],?_⟩
  have hq:(Question.appendCap (0+n.toNat) 0 el).forced=false:=rfl
  have hfit:(0:Nat)<0+n.toNat:=by omega
  have hm1:¬ (((0+n.toNat:Nat):Int)>IntKind.i64.max∧(True∨i.bytes=0)):=fun h=>by
   have h1:=h.1
   have:IntKind.i64.max=9223372036854775807:=rfl
   rw [this] at h1;omega
  have hm2:¬ (Builtin.nextslicecap (0+n.toNat) 0 * i.bytes>2 ^ 48):=by
   have h3:=v6o hfit
   have h4:Builtin.nextslicecap (0+n.toNat) 0 * i.bytes≤2 * (0+n.toNat) * i.bytes:=Nat.mul_le_mul_right _ h3
   have h5:2 * (0+n.toNat) * i.bytes≤2 * 35184372088832:=by rw [Nat.mul_assoc,hb,Nat.zero_add];exact Nat.mul_le_mul_left _ hsmall
   omega
  have hne:¬ n.toNat * i.size=0:=fun h=>by
   rcases Nat.mul_eq_zero.1 h with h | h
   ·omega
   ·exact hs0 (hsz2.symm.trans h)
  unfold Builtin.append_
  simp only [List.getElem?_toArray,List.getElem?_cons_zero,List.getElem?_cons_succ]
  show Sem.run P (underlying t >>= _) w=_
  rw [Sem.run_bind,run_underlying hu,Result.andThen_ok]
  show Sem.run P (sizeOf el >>= _) w=_
  rw [Sem.run_bind,q3u hi,Result.andThen_ok]
  show Sem.run P (underlying u >>= _) w=_
  rw [Sem.run_bind,run_underlying hu2,Result.andThen_ok]
  simp only [Sem.run_bind,Sem.run_pure,Result.andThen_ok,if_true,asInt,asIntOf,hwr,if_neg hneg,z1i hi,if_neg hbig,if_neg (Nat.not_le.2 hfit),if_neg hm1,if_neg hm2,run_choose,hq,Bool.false_eq_true,if_false,run_askRoom,Bool.not_true,if_neg hne,Builtin.firstCells]
  simp only [q7h hi hz,newRow,Sem.run_bind,run_newObj,Sem.run_pure,Result.andThen_ok,hz2,z6b zero (by omega),← hcdef]
  congr 1
  ·simp
  ·simp
theorem ats1 {e:Env} {x:Opd} {vs:List Value} (h:Opd.ats e [x]=some vs):∃ v,x.at e=some v∧vs=[v]:=by
 simp only [Opd.ats] at h
 split at h<;>try (cases h;done)
 rename_i v hv;cases h;exact ⟨v,hv,rfl⟩
theorem ats2 {e:Env} {x y:Opd} {vs:List Value} (h:Opd.ats e [x,y]=some vs):∃ v u,x.at e=some v∧y.at e=some u∧vs=[v,u]:=by
 rw [Opd.ats] at h
 split at h<;>try (cases h;done)
 rename_i v hv
 split at h<;>try (cases h;done)
 rename_i us hus;cases h
 obtain ⟨u,h1,rfl⟩:=ats1 hus
 exact ⟨v,u,hv,h1,rfl⟩
theorem ats3 {e:Env} {x y z:Opd} {vs:List Value} (h:Opd.ats e [x,y,z]=some vs):∃ v u t,x.at e=some v∧y.at e=some u∧z.at e=some t∧vs=[v,u,t]:=by
 rw [Opd.ats] at h
 split at h<;>try (cases h;done)
 rename_i v hv
 split at h<;>try (cases h;done)
 rename_i us hus;cases h
 obtain ⟨u,t,h1,h2,rfl⟩:=ats2 hus
 exact ⟨v,u,t,hv,h1,h2,rfl⟩
theorem v2r {t:TypeId} (h:z5d P t=true):∃ kt el,P.underlying t=some (.map kt el):=by
 unfold z5d at h
 split at h<;>try (cases h;done)
 rename_i kt el hu;exact ⟨kt,el,hu⟩
theorem v0c (es:Array MapEntry) (seen:Array Nat):(leftOf es seen).toList=z5r es seen:=by unfold leftOf z5r;simp
theorem k7f {o:Oper} {k:MOp} {xs:List Opd} {vs:List Value} {K:Value→Mem→Prop} (ok:okMp P k xs o.op=true) (h:Rel D0 m0 w0 N e m a w) (hvs:Opd.ats e xs=some vs) (hv:WMp k vs m K) :
  ∃ v m' w',K v m'∧Step m w m' w'∧((execOp a.eval o).run P w=.ok (.value v) w'∨(v=undef∧(execOp a.eval o).run P w=.ok .skip w')):=by
 have E:∀ {x:Opd} {y:Operand} {v:Value},okX x y=true→x.at e=some v→a.eval y=v:=fun hx hv=>q6f h hx hv
 have hs:=h.sub
 have up:∀ {kn t:Nat} {m1 k1 x1:Opd} {m' k' x':Operand},vs=vs→xs=[m1,k1,x1]→k=.up kn→(q8j P t kn&&okX m1 m'&&okX k1 k'&&okX x1 x')=true →
   ((execOp a.eval o)=(do Instr.mapUpdate t (a.eval m') (a.eval k') (a.eval x');pure Next.skip:Sem Next)) →
   ∃ v m' w',K v m'∧Step m w m' w'∧((execOp a.eval o).run P w=.ok (.value v) w'∨(v=undef∧(execOp a.eval o).run P w=.ok .skip w')):=by
  intro kn t m1 k1 x1 m' k' x' _ hxs hkk okk hex
  clear ok
  subst hxs;subst hkk
  simp only [Bool.and_eq_true] at okk
  obtain ⟨⟨⟨o1,o2⟩,o3⟩,o4⟩:=okk
  obtain ⟨v1,v2,v3,h1,h2,h3,rfl⟩:=ats3 hvs
  unfold WMp at hv
  split at hv<;>first | exact hv.elim | (rename_i hq _;cases hq;done) | (rename_i hq;cases hq;done) | skip
  all_goals (rename_i q1 q2;first | (cases q1;done) | (cases q2;done) | skip)
  cases q1;cases q2
  obtain ⟨hk,es,cl,f,hb,hf,hv⟩:=hv
  refine ⟨undef,_,_,hv,Step.putO hs hb,.inr ⟨rfl,?_⟩⟩
  rw [hex,E o2 h1,E o3 h2,E o4 h3,Sem.run_bind,j6z o1 hs hb hk hf];rfl
 unfold okMp at ok
 split at ok<;>try (cases ok;done)
 ·rename_i x c hop
  split at ok<;>try (cases ok;done)
  rename_i hcal
  split at ok<;>try (cases ok;done)
  rename_i y t ts hargs htys
  rw [Bool.and_eq_true] at ok
  obtain ⟨ok1,ok2⟩:=ok
  split at ok2<;>try (cases ok2;done)
  rename_i el hu
  obtain ⟨v,hx,rfl⟩:=ats1 hvs
  have ha:c.args.map a.eval=#[a.eval y]:=by apply Array.ext';simp [hargs]
  have ht:c.argTypes[0]? = some t:=by rw [← Array.getElem?_toList,htys];rfl
  cases v<;>unfold WMp at hv<;>try exact hv.elim
  refine ⟨_,_,_,hv,Step.refl hs,.inl ?_⟩
  simp only [execOp,hop,resolve,hcal,Sem.run_bind,Sem.run_pure,Result.andThen_ok,invoke,builtin,ha,E ok1 hx]
  simp [Builtin.cap_,ht,run_underlying hu,goInt]
 ·rename_i el sz bytes zero x i c hop
  split at ok<;>try (cases ok;done)
  rename_i hcal
  split at ok<;>try (cases ok;done)
  rename_i y z t u ts hargs htys
  simp only [Bool.and_eq_true] at ok
  obtain ⟨⟨⟨⟨o1,o2⟩,o3⟩,o4⟩,o5⟩:=ok
  split at o5<;>try (cases o5;done)
  rename_i kk hu
  obtain ⟨v1,v2,hx,hy,rfl⟩:=ats2 hvs
  have ha:c.args.map a.eval=#[a.eval y,a.eval z]:=by apply Array.ext';simp [hargs]
  have ht:c.argTypes=⟨t :: u :: ts⟩:=by apply Array.ext';rw [htys]
  unfold WMp at hv
  split at hv<;>try (first | exact hv.elim | (rename_i hq _;cases hq;done) | (rename_i hq;cases hq;done))
  rename_i q1 q2
  cases q1;cases q2
  obtain ⟨⟨n0,n1,n2⟩,hz0,hz1⟩:=hv
  have hap:=w4f (P:=P) (w:=w) (ts:=ts) o3 (q0n o4) hu o.type n0 n2 n1
  rename_i n
  have hex:(execOp a.eval o).run P w=((Builtin.append_ ⟨t :: u :: ts⟩ o.type #[.slice none 0 0,.int .i64 n]).run P w).andThen fun v w=>.ok (.value v) w:=by
   simp only [execOp,hop,resolve,hcal,Sem.run_bind,Sem.run_pure,Result.andThen_ok,invoke,builtin,ha,E o1 hx,E o2 hy,ht]
  by_cases hn:n=0
  ·exact ⟨_,_,_,hz0 hn,Step.refl hs,.inl (by rw [hex,hap.1 hn];rfl)⟩
  ·obtain ⟨cp,hc1,hc2⟩:=hap.2 (by omega)
   refine ⟨_,_,_,hz1 (by omega) _ cp (Sub.none hs (Nat.le_refl _)) hc1,?_,.inl (by rw [hex,hc2];rfl)⟩
   exact (Step.new hs _).trans (Step.drew (Step.new hs _).sub _)
 ·rename_i t hop
  cases hvs
  unfold WMp at hv
  exact ⟨_,_,_,hv _ (Sub.none hs (Nat.le_refl _)),Step.new hs (.map #[] 0),.inl (by simp only [execOp,hop,Instr.makeMap];rfl)⟩
 ·rename_i kn okc zero x i t x' i' okc' hop
  simp only [Bool.and_eq_true,beq_iff_eq] at ok
  obtain ⟨⟨⟨⟨o1,o2⟩,rfl⟩,o3⟩,o4⟩:=ok
  obtain ⟨vx,vi,hx,hi,rfl⟩:=ats2 hvs
  have hrun:∀ {f},q6i kn vi=true→((vx=.map none∧f=none)∨∃ r es cl,vx=.map (some r)∧w.heap[r]? = some (.map es cl)∧q5v vi es.toList 0=some f) →
    (execOp a.eval o).run P w=.ok (.value (z4p okc zero f)) w:=fun hk hm=>by
   simp only [execOp,hop,E o3 hx,E o4 hi,Sem.run_bind,w2q o1 o2 hk hm,Result.andThen_ok,Sem.run_pure]
  cases vx<;>unfold WMp at hv<;>try exact hv.elim
  rename_i q
  cases q with
  | none=>exact ⟨_,_,_,hv.2,Step.refl hs,.inl (hrun hv.1 (.inl ⟨rfl,rfl⟩))⟩
  | some r =>
   obtain ⟨hk,es,cl,f,hb,hf,hv⟩:=hv
   exact ⟨_,_,_,hv,Step.refl hs,.inl (hrun hk (.inr ⟨r,es,cl,rfl,hs _ _ hb,hf⟩))⟩
 ·rename_i kn m1 k1 x1 t m' k' x' hop
  exact up rfl rfl rfl ok (by simp only [execOp,hop])
 ·rename_i kn m1 k1 x1 t m' k' x' hop
  exact up rfl rfl rfl ok (by simp only [execOp,hop])
 ·rename_i x c hop
  split at ok<;>try (cases ok;done)
  rename_i hcal
  split at ok<;>try (cases ok;done)
  rename_i y t ts hargs htys
  rw [Bool.and_eq_true] at ok
  obtain ⟨kt,el,hu⟩:=v2r ok.2
  obtain ⟨v,hx,rfl⟩:=ats1 hvs
  have ha:c.args.map a.eval=#[a.eval y]:=by apply Array.ext';simp [hargs]
  have ht:c.argTypes[0]? = some t:=by rw [← Array.getElem?_toList,htys];rfl
  cases v<;>unfold WMp at hv<;>try exact hv.elim
  rename_i q
  cases q with
  | none =>
   refine ⟨_,_,_,hv,Step.refl hs,.inl ?_⟩
   simp only [execOp,hop,resolve,hcal,Sem.run_bind,Sem.run_pure,Result.andThen_ok,invoke,builtin,ha,E ok.1 hx]
   simp [Builtin.len_,ht,run_underlying hu,goInt]
  | some r =>
   obtain ⟨es,cl,hb,hv⟩:=hv
   refine ⟨_,_,_,hv,Step.refl hs,.inl ?_⟩
   simp only [execOp,hop,resolve,hcal,Sem.run_bind,Sem.run_pure,Result.andThen_ok,invoke,builtin,ha,E ok.1 hx]
   simp [Builtin.len_,ht,run_underlying hu,goInt,z9b hs hb]
 ·rename_i x t x' hop
  rw [Bool.and_eq_true] at ok
  obtain ⟨kt,el,hu⟩:=v2r ok.1
  obtain ⟨v,hx,rfl⟩:=ats1 hvs
  cases v<;>unfold WMp at hv<;>try exact hv.elim
  rename_i q
  cases q with
  | none =>
   refine ⟨_,_,_,hv _ (Sub.none hs (Nat.le_refl _)),Step.new hs (.mapIter none 0 #[] 0),.inl ?_⟩
   simp only [execOp,hop,E ok.2 hx,Instr.range,Sem.run_bind,run_underlying hu,Result.andThen_ok,Sem.run_pure];rfl
  | some r =>
   obtain ⟨es,cl,hb,hv⟩:=hv
   refine ⟨_,_,_,hv _ (Sub.none hs (Nat.le_refl _)),Step.new hs (.mapIter (some r) cl #[] cl),.inl ?_⟩
   simp only [execOp,hop,E ok.2 hx,Instr.range,Sem.run_bind,run_underlying hu,Result.andThen_ok,Sem.run_pure,z9b hs hb];rfl
 ·rename_i x x' hop
  obtain ⟨v,hx,rfl⟩:=ats1 hvs
  have hex:(execOp a.eval o).run P w=((Instr.next v false o.type).run P w).andThen fun v w=>.ok (.value v) w:=by
   simp only [execOp,hop,E ok hx,Sem.run_bind,Sem.run_pure]
  unfold WMp at hv
  split at hv<;>try (first | exact hv.elim | (rename_i hq _;cases hq;done) | (rename_i hq;cases hq;done))
  rename_i b q1 q2
  cases q2
  obtain ⟨bm,hv⟩:=hv
  rcases hv with ⟨hb,_,hv⟩ | ⟨r,since,seen,c0,es,cl,_,hb,hr,hold,hsc,hv1,hv2⟩
  ·refine ⟨_,_,_,hv,Step.refl hs,.inl ?_⟩
   rw [hex]
   have:(getObj b).run P w=.ok (.mapIter none 0 #[] 0) w:=by simp [getObj,Sem.run,hs _ _ hb]
   simp only [Instr.next,Sem.run_bind,this,Result.andThen_ok,Sem.run_pure]
  ·rcases run_next_at (P:=P) w o.type b r since c0 seen es cl (hs _ _ hb) (hs _ _ hr) hold hsc with ⟨g1,g2⟩ | ⟨x,hx,w1,hw,g2⟩
   ·refine ⟨_,_,_,hv1 ?_,Step.refl hs,.inl (by rw [hex,g2];rfl)⟩
    rw [← v0c]
    have:leftOf es seen=#[]:=Array.eq_empty_of_size_eq_zero g1
    rw [this]
   ·rw [v0c] at hx
    refine ⟨_,_,_,hv2 x hx,?_,.inl (by rw [hex,g2];rfl)⟩
    have s1:Step m w m w1:=by
     rcases hw with rfl | rfl
     ·exact Step.refl hs
     ·exact Step.drew hs _
    exact s1.trans (Step.putO s1.sub hb)
 ·rename_i x x' hop
  obtain ⟨v,hx,rfl⟩:=ats1 hvs
  unfold WMp at hv
  split at hv<;>try (first | exact hv.elim | (rename_i hq _;cases hq;done) | (rename_i hq;cases hq;done))
  rename_i b q1 q2
  cases q2
  obtain ⟨r,since,seen,es,cl,x,hb,hr,hx1,hx2,hv⟩:=hv
  refine ⟨_,_,_,hv,Step.refl hs,.inl ?_⟩
  simp only [execOp,hop,E ok hx,Sem.run_bind,run_entry_at w b r since seen es cl x (hs _ _ hb) (hs _ _ hr) hx1 hx2,Result.andThen_ok,Sem.run_pure]
end Go.Vx
