import Derived.Test.YtleofbpepfmfgaaGreatDoorVxSimC
set_option linter.unusedSimpArgs false
set_option linter.unusedVariables false
set_option maxRecDepth 100000
namespace Go.Proofs.YtleofbpepfmfgaaGreatDoor
open Go Go.Vx
open Go.Vx.IOp Go.Vx.IR Go.Vx.Opd
theorem word_cells {m:Mem} {V:CV} {C:CodeR} (hV:CodeAt m V C) {k:Nat} (hk:k<C.ws.length):∃ ad a3 c3,V.a2=some ad∧CellsAt m (ad.add (k * 2)) [.slice a3 (wordAt C k).ops.length c3,i (wordAt C k).ct]∧OAt m (.slice a3 (wordAt C k).ops.length c3) (wordAt C k).ops:=by
 obtain ⟨a2',c2',e2,hw0,hw1,hw2⟩:=hV.ws
 have ea2:V.a2=a2':=by injection e2
 subst ea2
 obtain ⟨ad,had⟩:∃ ad,V.a2=some ad:=by
  cases hh:V.a2 with
  | none=>rw [hw0 hh] at hk;simp at hk
  | some ad=>exact ⟨ad,rfl⟩
 have hwk:C.ws[k]=wordAt C k:=by
  unfold wordAt
  rw [List.getD_eq_getElem?_getD,List.getElem?_eq_getElem hk];rfl
 obtain ⟨a3,n3,c3,hcells,hops⟩:=hw1 ad had k hk
 rw [hwk] at hcells hops
 obtain ⟨a3',c3',e3,_⟩:=id hops
 injection e3 with e31 e32 e33
 subst e32
 exact ⟨ad,a3,c3,had,hcells,hops⟩
theorem CallsM.mono {P:Program} {f:Nat} {vs:List Value} {m:Mem} {R R':Ending→Mem→Prop} (h:CallsM P f vs m R) (hr:∀ e m',R e m'→R' e m'):CallsM P f vs m R' :=
 ⟨h.1,fun w hw=>(h.2 w hw).mono fun e w' hh=>by obtain ⟨m',a,b⟩:=hh;exact ⟨m',a,hr _ _ b⟩⟩
structure Hd1 where
 a:Option Addr
 c:Nat
abbrev HdF:=Nat→Hd1
def HdF.upd (H:HdF) (k:Nat) (h:Hd1):HdF:=fun j=>if j=k then h else H j
theorem upd_same (H:HdF) (k:Nat) (h:Hd1):H.upd k h k=h:=if_pos rfl
theorem upd_other (H:HdF) {k j:Nat} (h:Hd1) (e:j≠k):H.upd k h j=H j:=if_neg e
def OwnsB (h:Hd1) (b:Nat):Prop:=h.c≠0∧h.a=some ⟨b,0,none⟩
structure FamAt (m:Mem) (N:Nat) (ty sz:Nat→Nat) (H:HdF) (num:Nat→Nat) (cont:Nat→List Value):Prop where
 len:∀ j,j<N→(cont j).length=num j * sz j
 cap:∀ j,j<N→num j≤(H j).c
 blk:∀ j,j<N→(H j).c≠0→∃ b rest,(H j).a=some ⟨b,0,none⟩∧m b=some (Cells (cont j++rest) (ty j))∧(cont j).length+rest.length=(H j).c * sz j
 inj:∀ j k b,j<N→k<N→OwnsB (H j) b→OwnsB (H k) b→j=k
def FootF (N:Nat) (H:HdF) (b:Nat):Prop:=∃ j,j<N∧OwnsB (H j) b
section
variable {m m':Mem} {N:Nat} {ty sz:Nat→Nat} {H:HdF} {num:Nat→Nat} {cont:Nat→List Value}
theorem FamAt.own (h:FamAt m N ty sz H num cont) {j b:Nat} (hj:j<N) (hb:OwnsB (H j) b):∃ rest,m b=some (Cells (cont j++rest) (ty j))∧(cont j).length+rest.length=(H j).c * sz j:=by
 obtain ⟨b',rest,h1,h2,h3⟩:=h.blk j hj hb.1
 rw [hb.2] at h1;cases h1
 exact ⟨rest,h2,h3⟩
theorem FamAt.live (h:FamAt m N ty sz H num cont) {b:Nat} (hb:FootF N H b):∃ L j,j<N∧m b=some (Cells L (ty j)):=by
 obtain ⟨j,hj,hb⟩:=hb
 obtain ⟨rest,h1,_⟩:=h.own hj hb
 exact ⟨_,j,hj,h1⟩
theorem FamAt.free (h:FamAt m N ty sz H num cont) {b:Nat} (hb:m b=none):¬ FootF N H b:=fun hf=>by
 obtain ⟨L,j,_,h1⟩:=h.live hf
 rw [hb] at h1;cases h1
theorem FamAt.room (h:FamAt m N ty sz H num cont) {j:Nat} (hj:j<N) (hn:num j≠0):∃ b rest,OwnsB (H j) b∧m b=some (Cells (cont j++rest) (ty j))∧(cont j).length+rest.length=(H j).c * sz j:=by
 have hc:(H j).c≠0:=by have:=h.cap j hj;omega
 obtain ⟨b,rest,h1,h2,h3⟩:=h.blk j hj hc
 exact ⟨b,rest,⟨hc,h1⟩,h2,h3⟩
theorem FamAt.same (h:FamAt m N ty sz H num cont) (hk:∀ b o,FootF N H b→m b=some o→m' b=some o):FamAt m' N ty sz H num cont where
 len:=h.len
 cap:=h.cap
 blk:=fun j hj hc=>by
  obtain ⟨b,rest,h1,h2,h3⟩:=h.blk j hj hc
  exact ⟨b,rest,h1,hk _ _ ⟨j,hj,hc,h1⟩ h2,h3⟩
 inj:=h.inj
theorem FamAt.mono (h:FamAt m N ty sz H num cont) (hle:Mem.le m m'):FamAt m' N ty sz H num cont:=h.same fun b o _ hb=>hle b o hb
theorem FamAt.put (h:FamAt m N ty sz H num cont) {k b:Nat} {H':HdF} {num':Nat→Nat} {cont':Nat→List Value} {rest:List Value} (hk:k<N)
  (hH:∀ j,j<N→j≠k→H' j=H j∧num' j=num j∧cont' j=cont j) (ha:(H' k).a=some ⟨b,0,none⟩) (hb:m b=none∨OwnsB (H k) b)
  (hm:m' b=some (Cells (cont' k++rest) (ty k))) (hl:(cont' k).length=num' k * sz k) (hcap:num' k≤(H' k).c) (hr:(cont' k).length+rest.length=(H' k).c * sz k)
  (hx:∀ x o,x≠b→FootF N H x→m x=some o→m' x=some o):FamAt m' N ty sz H' num' cont' where
 len:=fun j hj=>by
  by_cases e:j=k
  ·subst e;exact hl
  ·obtain ⟨_,h2,h3⟩:=hH j hj e;rw [h2,h3];exact h.len j hj
 cap:=fun j hj=>by
  by_cases e:j=k
  ·subst e;exact hcap
  ·obtain ⟨h1,h2,_⟩:=hH j hj e;rw [h1,h2];exact h.cap j hj
 blk:=fun j hj hc=>by
  by_cases e:j=k
  ·subst e;exact ⟨b,rest,ha,hm,hr⟩
  ·obtain ⟨h1,h2,h3⟩:=hH j hj e
   rw [h1] at hc ⊢
   rw [h3]
   obtain ⟨b2,r2,g1,g2,g3⟩:=h.blk j hj hc
   refine ⟨b2,r2,g1,hx _ _ (fun e2=>?_) ⟨j,hj,hc,g1⟩ g2,g3⟩
   subst e2
   rcases hb with hb | hb
   ·rw [hb] at g2;cases g2
   ·exact e (h.inj j k _ hj hk ⟨hc,g1⟩ hb)
 inj:=fun i j x hi hj hxi hxj=>by
  have key:∀ q,q<N→q≠k→OwnsB (H' q) x→OwnsB (H' k) x→False:=fun q hq e h1 h2=>by
   obtain ⟨g1,_,_⟩:=hH q hq e
   rw [g1] at h1
   have e3:=h2.2
   rw [ha] at e3
   cases e3
   rcases hb with hb | hb
   ·exact h.free hb ⟨q,hq,h1⟩
   ·exact e (h.inj q k _ hq hk h1 hb)
  by_cases e1:i=k
  ·by_cases e2:j=k
   ·rw [e1,e2]
   ·subst e1;exact (key j hj e2 hxj hxi).elim
  ·by_cases e2:j=k
   ·subst e2;exact (key i hi e1 hxi hxj).elim
   ·obtain ⟨g1,_,_⟩:=hH i hi e1
    obtain ⟨g2,_,_⟩:=hH j hj e2
    rw [g1] at hxi;rw [g2] at hxj
    exact h.inj i j x hi hj hxi hxj
theorem FamAt.drop (h:FamAt m N ty sz H num cont) {k:Nat} {H':HdF} {num':Nat→Nat} {cont':Nat→List Value} (hk:k<N)
  (hH:∀ j,j<N→j≠k→H' j=H j∧num' j=num j∧cont' j=cont j) (hc:(H' k).c=0) (hn:num' k=0) (hl:cont' k=[]):FamAt m N ty sz H' num' cont' where
 len:=fun j hj=>by
  by_cases e:j=k
  ·subst e;rw [hl,hn];simp
  ·obtain ⟨_,h2,h3⟩:=hH j hj e;rw [h2,h3];exact h.len j hj
 cap:=fun j hj=>by
  by_cases e:j=k
  ·subst e;rw [hn];exact Nat.zero_le _
  ·obtain ⟨h1,h2,_⟩:=hH j hj e;rw [h1,h2];exact h.cap j hj
 blk:=fun j hj hc2=>by
  by_cases e:j=k
  ·subst e;exact absurd hc hc2
  ·obtain ⟨h1,h2,h3⟩:=hH j hj e
   rw [h1] at hc2 ⊢;rw [h3];exact h.blk j hj hc2
 inj:=fun i j x hi hj hxi hxj=>by
  by_cases e1:i=k
  ·subst e1;exact absurd hc hxi.1
  ·by_cases e2:j=k
   ·subst e2;exact absurd hc hxj.1
   ·obtain ⟨g1,_,_⟩:=hH i hi e1
    obtain ⟨g2,_,_⟩:=hH j hj e2
    rw [g1] at hxi;rw [g2] at hxj
    exact h.inj i j x hi hj hxi hxj
theorem FamAt.cellsAt (h:FamAt m N ty sz H num cont) {j:Nat} (hj:j<N) {ad:Addr} (ha:(H j).a=some ad):CellsAt m ad (cont j):=fun q v hq=>by
 have hlt:=(List.getElem?_eq_some_iff.1 hq).1
 have hn:num j≠0:=fun e=>by have:=h.len j hj;rw [e,Nat.zero_mul] at this;omega
 obtain ⟨b,rest,hb,hm,_⟩:=h.room hj hn
 rw [hb.2] at ha;cases ha
 exact CellsAt.blk hm (fun q v hq=>by rw [Nat.zero_add,List.getElem?_append_left (List.getElem?_eq_some_iff.1 hq).1];exact hq) q v hq
theorem FamAt.app (h:FamAt m N ty sz H num cont) {k bx Tx n c bytes:Nat} {a:Option Addr} {x zero:List Value} {K:Value→Mem→Prop} (hk:k<N) (ha:a=(H k).a) (hn:n=num k) (hcc:c=(H k).c) (hz:zero.length=sz k) (hs:0<sz k)
  (hx:m bx=some (Cells x Tx)) (hxl:x.length=sz k) (ho:oneL x=true) (hlen:(num k+1) * bytes≤35184372088832) (hnil:(H k).a=none→num k=0)
  (kk:∀ b' c' rest m',m' b'=some (Cells (cont k++x++rest) (ty k))→num k+1≤c'→(cont k++x).length+rest.length=c' * sz k→(m b'=none∨OwnsB (H k) b')→(∀ b,b≠b'→m' b=m b)→K (.slice (some ⟨b',0,none⟩) (num k+1) c') m') :
  WApp m (ty k) (sz k) bytes zero a n c (some ⟨bx,0,none⟩) 1 K:=by
 subst ha;subst hn;subst hcc
 have hnew:FirstCells m (some ⟨bx,0,none⟩) (1 * sz k) x:=⟨by rw [hxl,Nat.one_mul],fun ad had=>by cases had;exact CellsAt.blk hx fun j v hj=>by rw [Nat.zero_add];exact hj⟩
 have hL:=h.len k hk
 by_cases hcc:num k+1≤(H k).c
 ·obtain ⟨b,rest,g1,g2,g3⟩:=h.blk k hk (by omega)
  obtain ⟨q,hq⟩:∃ q,(H k).c=num k+1+q:=⟨(H k).c - (num k+1),by omega⟩
  have hrl:rest.length=sz k+q * sz k:=by
   rw [hL,hq,Nat.add_mul,Nat.add_mul,Nat.one_mul] at g3;omega
  rw [g1]
  refine WApp.in (ad:=⟨b,0,none⟩) _ hnew (fun h=>by cases h) _ (ty k) hcc g2 rfl (by rw [List.length_append,hL,hrl];simp only;omega) ho ?_
  have e:spliceL (cont k++rest) (0+num k * sz k) x=cont k++x++rest.drop (sz k):=by
   rw [spliceL_eq _ _ _ (by rw [List.length_append,hL,hrl,hxl];omega),Nat.zero_add,← hL,List.take_left' rfl,hxl,List.drop_append]
   rw [List.drop_eq_nil_of_le (by omega),List.nil_append,show (cont k).length+sz k - (cont k).length=sz k by omega]
  refine kk b (H k).c (rest.drop (sz k)) _ (by rw [Mem.set_same,e]) hcc ?_ (.inr ⟨by omega,g1⟩) fun b3 hb3=>Mem.set_other _ _ hb3
  rw [List.length_append,List.length_drop,hrl,hxl,hL,hq,Nat.add_mul,Nat.add_mul,Nat.one_mul];omega
 ·refine WApp.grow _ hnew (fun h=>by cases h) (by omega) hlen (cont k) ⟨hL,fun ad had=>h.cellsAt hk had⟩ hnil fun b2 c2 hb2 hc2=>?_
  refine kk b2 c2 ((List.replicate (c2 - (num k+1)) zero).flatten) _ (Mem.set_same _ _ _) hc2 ?_ (.inl hb2) fun b hb=>Mem.set_other _ _ hb
  obtain ⟨q,hq⟩:∃ q,c2=num k+1+q:=⟨c2 - (num k+1),by omega⟩
  rw [List.length_append,repl_len,hz,hxl,hL,hq,show num k+1+q - (num k+1)=q by omega,Nat.add_mul,Nat.add_mul,Nat.one_mul]
end
section
variable {α:Type} {f:α→List Value} {k:Nat}
def flatL (f:α→List Value) (L:List α):List Value:=(L.map f).flatten
theorem flat_cons (x:α) (L:List α):flatL f (x :: L)=f x++flatL f L:=rfl
theorem flat_app (A B:List α):flatL f (A++B)=flatL f A++flatL f B:=by unfold flatL;rw [List.map_append,List.flatten_append]
theorem flat_one (x:α):flatL f [x]=f x:=by show f x++[]=_;rw [List.append_nil]
theorem flat_len (hf:∀ x,(f x).length=k) (L:List α):(flatL f L).length=L.length * k:=by
 induction L with
 | nil=>simp [flatL]
 | cons x L ih=>rw [flat_cons,List.length_append,ih,hf,List.length_cons,Nat.add_mul,Nat.one_mul,Nat.add_comm]
theorem flat_take (hf:∀ x,(f x).length=k) (L:List α) (j:Nat):flatL f (L.take j)=(flatL f L).take (j * k):=by
 induction L generalizing j with
 | nil=>simp [flatL]
 | cons x L ih =>
  cases j with
  | zero=>simp [flatL]
  | succ j =>
   rw [List.take_succ_cons,flat_cons,flat_cons,ih,List.take_append,hf,show (j+1) * k - k=j * k by rw [Nat.add_mul,Nat.one_mul];omega,List.take_of_length_le (l:=f x) (by rw [hf,Nat.add_mul,Nat.one_mul];omega)]
theorem flat_drop (hf:∀ x,(f x).length=k) (L:List α) (j:Nat):flatL f (L.drop j)=(flatL f L).drop (j * k):=by
 induction L generalizing j with
 | nil=>simp [flatL]
 | cons x L ih =>
  cases j with
  | zero=>simp
  | succ j =>
   rw [List.drop_succ_cons,flat_cons,ih,List.drop_append,hf,show (j+1) * k - k=j * k by rw [Nat.add_mul,Nat.one_mul];omega,List.drop_eq_nil_of_le (show (f x).length≤(j+1) * k by rw [hf,Nat.add_mul,Nat.one_mul];omega),List.nil_append]
theorem flat_get (hf:∀ x,(f x).length=k) {L:List α} {j q:Nat} (hj:j<L.length) (hq:q<k):(flatL f L)[j * k+q]? = (f L[j])[q]?:=by
 have e:flatL f L=(flatL f L).take (j * k)++flatL f (L.drop j):=by rw [flat_drop hf,List.take_append_drop]
 have hl:((flatL f L).take (j * k)).length=j * k:=by
  rw [List.length_take,flat_len hf];have:=Nat.mul_le_mul_right k (Nat.le_of_lt hj);omega
 rw [e,List.getElem?_append_right (by rw [hl];omega),hl,show j * k+q - j * k=q by omega,List.drop_eq_getElem_cons hj,flat_cons,List.getElem?_append_left (by rw [hf];exact hq)]
theorem flat_set (hf:∀ x,(f x).length=k) {L:List α} {j:Nat} (hj:j<L.length) (x:α) (rest:List Value):spliceL (flatL f L++rest) (j * k) (f x)=flatL f (L.set j x)++rest:=by
 have h1:j * k+k≤L.length * k:=by rw [← Nat.succ_mul];exact Nat.mul_le_mul_right k hj
 rw [spliceL_eq _ _ _ (by rw [List.length_append,flat_len hf,hf];omega),hf,List.set_eq_take_append_cons_drop,if_pos hj,flat_app,flat_cons,flat_take hf,flat_drop hf,List.take_append_of_le_length (by rw [flat_len hf];omega),List.drop_append_of_le_length (by rw [flat_len hf];omega),show (j+1) * k=j * k+k by rw [Nat.add_mul,Nat.one_mul]]
 simp only [List.append_assoc]
end
abbrev TSim:Nat:=87
abbrev TVal:Nat:=92
abbrev TRes:Nat:=130
abbrev T64:Nat:=2
abbrev TRow:Nat:=29
def WayR.cells (w:WayR):List Value:=[i (w.rg:Int),i w.v.n,i w.v.b,i (w.t:Int)]
theorem vr_len (v:VR):v.cells.length=2:=rfl
theorem wr_len (w:WayR):w.cells.length=4:=rfl
def tyS:Nat→Nat | 1=>TVal | 2=>TVal | 3=>TRow | 4=>TRes | _=>T64
def szS:Nat→Nat | 1=>2 | 2=>2 | 4=>4 | _=>1
def numS (s:St):Nat→Nat | 0=>s.prints.length | 1=>s.regs.length | 2=>s.kept.length | 3=>s.arr.length | 4=>s.way.length | k+5=>(s.arr.getD k []).length
def rowsV (H:HdF) (A:List (List Int)):List Value:=(List.range A.length).map fun k=>.slice (H (k+5)).a (A.getD k []).length (H (k+5)).c
def contS (H:HdF) (s:St):Nat→List Value | 0=>s.prints.map i | 1=>flatL VR.cells s.regs | 2=>flatL VR.cells s.kept | 3=>rowsV H s.arr | 4=>flatL WayR.cells s.way | k+5=>(s.arr.getD k []).map i
def hv (H:HdF) (s:St) (j:Nat):Value:=.slice (H j).a (numS s j) (H j).c
def wordV (s:St):Int:=if s.ended=true then -1 else s.word
def simCells (V:CV) (C:CodeR) (M:Mac) (sv:Value) (H:HdF) (s:St):List Value :=
 [i (wordV s),i (s.took:Int),i (s.begun:Int),i s.kind,i s.value,hv H s 0,hv H s 1,hv H s 2,hv H s 3]++V.cells C++M.cells++[sv,hv H s 4]
abbrev famN (s:St):Nat:=5+s.arr.length
def FootS (p:Nat) (H:HdF) (s:St) (b:Nat):Prop:=b=p∨FootF (famN s) H b
structure SimBase (m0:Mem) (V:CV) (C:CodeR) (M:Mac) (sv:Value) (sh:List Int):Prop where
 code:CodeAt m0 V C
 ok:CodeOK C
 mac:M.ok=true
 shown:IAt m0 sv sh
 shl:sh.length≤1000
 laid:∃ T fr,m0 0=some (.cells ⟨cells0⟩ T fr)
structure SimAt (m0 m:Mem) (V:CV) (C:CodeR) (M:Mac) (sv:Value) (p:Nat) (H:HdF) (s:St):Prop where
 hp:m p=some (Cells (simCells V C M sv H s) TSim)
 fam:FamAt m (famN s) tyS szS H (numS s) (contS H s)
 le:Mem.le m0 m
 nw:∀ b,FootS p H s b→m0 b=none
 nil0:(H 0).a=none→s.prints=[]
 nil4:(H 4).a=none→s.way=[]
theorem tyS_ne (j:Nat):tyS j≠TSim:=by
 match j with
 | 0=>decide
 | 1=>decide
 | 2=>decide
 | 3=>decide
 | 4=>decide
 | k+5=>show T64≠TSim;decide
structure Goes (m0:Mem) (V:CV) (C:CodeR) (M:Mac) (sv:Value) (p:Nat) (m:Mem) (H:HdF) (s:St) (m':Mem) (H':HdF) (s':St):Prop where
 at':SimAt m0 m' V C M sv p H' s'
 keep:Keep (FootS p H s) m m'
 new:∀ b,FootS p H' s' b→FootS p H s b∨m b=none
section
variable {m0 m m' m2:Mem} {V:CV} {C:CodeR} {M:Mac} {sv:Value} {p:Nat} {H H' H2:HdF} {s s' s2:St}
theorem Goes.refl (h:SimAt m0 m V C M sv p H s):Goes m0 V C M sv p m H s m H s:=⟨h,Keep.refl _ _,fun b hb=>.inl hb⟩
theorem Goes.trans (h:Goes m0 V C M sv p m H s m' H' s') (k:Goes m0 V C M sv p m' H' s' m2 H2 s2):Goes m0 V C M sv p m H s m2 H2 s2 :=
 ⟨k.at',h.keep.trans' k.keep h.new,fun b hb=>by
  rcases k.new b hb with h1 | h1
  ·exact h.new b h1
  ·by_cases hf:FootS p H s b
   ·exact .inl hf
   ·refine .inr ?_
    cases hh:m b with
    | none=>rfl
    | some o=>rw [h.keep b o hh hf] at h1;cases h1⟩
theorem SimAt.live (h:SimAt m0 m V C M sv p H s) {b:Nat} (hb:FootS p H s b):∃ o,m b=some o:=by
 rcases hb with hb | hb
 ·subst hb;exact ⟨_,h.hp⟩
 ·obtain ⟨L,j,_,h1⟩:=h.fam.live hb;exact ⟨_,h1⟩
theorem SimAt.free (h:SimAt m0 m V C M sv p H s) {b:Nat} (hb:m b=none):¬ FootS p H s b:=fun hf=>by
 obtain ⟨o,ho⟩:=h.live hf
 rw [hb] at ho;cases ho
theorem SimAt.notp (h:SimAt m0 m V C M sv p H s) {b:Nat} (hb:FootF (famN s) H b):b≠p:=fun e=>by
 subst e
 obtain ⟨L,j,_,h1⟩:=h.fam.live hb
 exact ne_type h1 h.hp (tyS_ne j) rfl
theorem SimAt.same (h:SimAt m0 m V C M sv p H s) (hle:Mem.le m0 m') (hk:∀ b o,FootS p H s b→m b=some o→m' b=some o):SimAt m0 m' V C M sv p H s :=
 ⟨hk _ _ (.inl rfl) h.hp,h.fam.same fun b o hb=>hk b o (.inr hb),hle,h.nw,h.nil0,h.nil4⟩
theorem SimAt.mono (h:SimAt m0 m V C M sv p H s) (hle:Mem.le m m'):SimAt m0 m' V C M sv p H s:=h.same (h.le.trans hle) fun b o _ hb=>hle b o hb
theorem SimAt.goesMono (h:SimAt m0 m V C M sv p H s) (hle:Mem.le m m'):Goes m0 V C M sv p m H s m' H s:=⟨h.mono hle,Keep.of_le hle,fun b hb=>.inl hb⟩
theorem SimAt.hdr (h:SimAt m0 m V C M sv p H s) (hN:famN s'=famN s) (hn:numS s'=numS s) (hc:contS H s'=contS H s) (hp0:s'.prints=s.prints) (hw:s'.way=s.way) :
  Goes m0 V C M sv p m H s (m.set p (Cells (simCells V C M sv H s') TSim)) H s':=by
 have hk:Keep (FootS p H s) m (m.set p (Cells (simCells V C M sv H s') TSim)):=(Keep.refl _ _).set (.inl (.inl rfl))
 have hf:∀ b,FootS p H s' b→FootS p H s b:=fun b hb=>by unfold FootS at hb ⊢;rw [hN] at hb;exact hb
 refine ⟨⟨Mem.set_same _ _ _,?_,hk.le h.le h.nw,fun b hb=>h.nw b (hf b hb),fun e=>by rw [hp0];exact h.nil0 e,fun e=>by rw [hw];exact h.nil4 e⟩,hk,fun b hb=>.inl (hf b hb)⟩
 rw [hN,hn,hc]
 exact h.fam.same fun b o hb hm=>by rw [Mem.set_other _ _ (h.notp hb)];exact hm
theorem SimAt.cell (h:SimAt m0 m V C M sv p H s) {k:Nat} {v:Value} (hk:(simCells V C M sv H s)[k]? = some v):CellAt m ((⟨p,0,none⟩:Addr).add k) v:=by
 rw [add0];exact ⟨_,_,_,h.hp,rfl,by simpa using hk⟩
theorem SimAt.put (h:SimAt m0 m V C M sv p H s) {k b:Nat} {rest:List Value} (hk:k<famN s) (hb:OwnsB (H k) b) (hcells:simCells V C M sv H s'=simCells V C M sv H s) (hN:famN s'=famN s)
  (hH:∀ j,j<famN s→j≠k→numS s' j=numS s j∧contS H s' j=contS H s j) (hn:numS s' k=numS s k) (hl:(contS H s' k).length=(contS H s k).length)
  (hr:(contS H s k).length+rest.length=(H k).c * szS k) (hp0:s'.prints.length=s.prints.length) (hw:s'.way.length=s.way.length) :
  Goes m0 V C M sv p m H s (m.set b (Cells (contS H s' k++rest) (tyS k))) H s':=by
 have hF:FootF (famN s) H b:=⟨k,hk,hb⟩
 have hk2:Keep (FootS p H s) m (m.set b (Cells (contS H s' k++rest) (tyS k))):=(Keep.refl _ _).set (.inl (.inr hF))
 have hf:∀ b,FootS p H s' b→FootS p H s b:=fun b hb=>by unfold FootS at hb ⊢;rw [hN] at hb;exact hb
 refine ⟨⟨?_,?_,hk2.le h.le h.nw,fun b hb=>h.nw b (hf b hb),fun e=>?_,fun e=>?_⟩,hk2,fun b hb=>.inl (hf b hb)⟩
 ·rw [Mem.set_other _ _ (fun e=>h.notp hF e.symm),hcells];exact h.hp
 ·rw [hN]
  refine h.fam.put hk (fun j hj e=>⟨rfl,hH j hj e⟩) hb.2 (.inr hb) (Mem.set_same _ _ _) (by rw [hl,hn];exact h.fam.len k hk) (by rw [hn];exact h.fam.cap k hk) (by rw [hl];exact hr) fun x o hx _ hm=>by rw [Mem.set_other _ _ hx];exact hm
 ·have:=h.nil0 e;rw [this] at hp0;exact List.length_eq_zero_iff.1 hp0
 ·have:=h.nil4 e;rw [this] at hw;exact List.length_eq_zero_iff.1 hw
end
structure LimS (s:St) (k:Nat):Prop where
 took:s.took≤k
 begun:s.begun≤k
 way:s.way.length≤k
 prints:s.prints.length≤k
theorem LimS.up {s:St} {j k:Nat} (h:LimS s j) (e:j≤k):LimS s k:=⟨Nat.le_trans h.took e,Nat.le_trans h.begun e,Nat.le_trans h.way e,Nat.le_trans h.prints e⟩
theorem Mem.set2 (m:Mem) (b:Nat) (o o':Obj):(Mem.set m b o).set b o'=Mem.set m b o':=by
 funext x;unfold Mem.set;split<;>rfl
theorem rows_upd (H:HdF) {k:Nat} (hk:k<5) (h:Hd1) (A:List (List Int)):rowsV (H.upd k h) A=rowsV H A:=by
 unfold rowsV
 apply List.map_congr_left
 intro j _
 rw [upd_other H h (by omega)]
theorem cont_upd (H:HdF) {k:Nat} (hk:k<5) (h:Hd1) (s:St) (j:Nat):contS (H.upd k h) s j=contS H s j:=by
 match j with
 | 0=>rfl
 | 1=>rfl
 | 2=>rfl
 | 3=>exact rows_upd H hk h _
 | 4=>rfl
 | j+5=>rfl
section
variable {m0 m m':Mem} {V:CV} {C:CodeR} {M:Mac} {sv:Value} {p:Nat} {H:HdF} {s s':St} {sh:List Int}
theorem SimAt.relist (h:SimAt m0 m V C M sv p H s) {k b c:Nat} {rest:List Value} (hk:k<5) (hN:famN s'=famN s) (hH:∀ j,j≠k→numS s' j=numS s j∧contS H s' j=contS H s j)
  (hb:m b=none∨OwnsB (H k) b) (hm:m' b=some (Cells (contS H s' k++rest) (tyS k))) (hp:m' p=some (Cells (simCells V C M sv (H.upd k ⟨some ⟨b,0,none⟩,c⟩) s') TSim))
  (hx:∀ x,x≠b→x≠p→m' x=m x) (hl:(contS H s' k).length=numS s' k * szS k) (hcap:numS s' k≤c) (hr:(contS H s' k).length+rest.length=c * szS k)
  (h0:k≠0→s'.prints=s.prints) (h4:k≠4→s'.way=s.way):Goes m0 V C M sv p m H s m' (H.upd k ⟨some ⟨b,0,none⟩,c⟩) s':=by
 have hkN:k<famN s:=by unfold famN;omega
 have hbp:b≠p:=by
  rcases hb with hb | hb
  ·exact fun e=>by subst e;rw [h.hp] at hb;cases hb
  ·exact h.notp ⟨k,hkN,hb⟩
 have hbf:FootS p H s b∨m b=none:=by
  rcases hb with hb | hb
  ·exact .inr hb
  ·exact .inl (.inr ⟨k,hkN,hb⟩)
 have hfoot:∀ x,FootS p (H.upd k ⟨some ⟨b,0,none⟩,c⟩) s' x→FootS p H s x∨m x=none:=fun x hf=>by
  rcases hf with hf | ⟨j,hj,hf⟩
  ·exact .inl (.inl hf)
  ·by_cases e:j=k
   ·subst e
    rw [upd_same] at hf
    have:=hf.2
    cases this
    exact hbf
   ·rw [upd_other H _ e] at hf
    rw [hN] at hj
    exact .inl (.inr ⟨j,hj,hf⟩)
 have hkeep:Keep (FootS p H s) m m':=fun x o hxo hn=>by
  by_cases e1:x=b
  ·subst e1
   rcases hbf with g | g
   ·exact absurd g hn
   ·rw [g] at hxo;cases hxo
  ·rw [hx x e1 (fun e=>hn (.inl e))];exact hxo
 refine ⟨⟨hp,?_,hkeep.le h.le h.nw,fun x hf=>?_,fun e=>?_,fun e=>?_⟩,hkeep,hfoot⟩
 ·rw [hN]
  refine h.fam.put hkN (b:=b) (fun j hj e=>⟨upd_other H _ e,(hH j e).1,by rw [cont_upd H hk];exact (hH j e).2⟩) (by rw [upd_same]) hb (rest:=rest) (by rw [cont_upd H hk];exact hm) (by rw [cont_upd H hk];exact hl) (by rw [upd_same];exact hcap) (by rw [cont_upd H hk,upd_same];exact hr) fun x o e hf hxo=>?_
  rw [hx x e (h.notp hf)];exact hxo
 ·rcases hfoot x hf with g | g
  ·exact h.nw x g
  ·exact none_of_le h.le g
 ·by_cases e0:k=0
  ·subst e0;rw [upd_same] at e;cases e
  ·rw [upd_other H _ (Ne.symm e0)] at e;rw [h0 e0];exact h.nil0 e
 ·by_cases e0:k=4
  ·subst e0;rw [upd_same] at e;cases e
  ·rw [upd_other H _ (Ne.symm e0)] at e;rw [h4 e0];exact h.nil4 e
theorem SimAt.dropWay (h:SimAt m0 m V C M sv p H s) (hN:famN s'=famN s) (hH:∀ j,j≠4→numS s' j=numS s j∧contS H s' j=contS H s j) (hw:s'.way=[]) (h0:s'.prints=s.prints) {o:Obj}
  (hp:o=Cells (simCells V C M sv (H.upd 4 ⟨none,0⟩) s') TSim):Goes m0 V C M sv p m H s (m.set p o) (H.upd 4 ⟨none,0⟩) s':=by
 subst hp
 have hk2:Keep (FootS p H s) m (m.set p (Cells (simCells V C M sv (H.upd 4 ⟨none,0⟩) s') TSim)):=(Keep.refl _ _).set (.inl (.inl rfl))
 have hf:∀ b,FootS p (H.upd 4 ⟨none,0⟩) s' b→FootS p H s b:=fun b hb=>by
  rcases hb with hb | ⟨j,hj,hb⟩
  ·exact .inl hb
  ·by_cases e:j=4
   ·subst e;rw [upd_same] at hb;exact absurd rfl hb.1
   ·rw [upd_other H _ e] at hb;rw [hN] at hj;exact .inr ⟨j,hj,hb⟩
 refine ⟨⟨Mem.set_same _ _ _,?_,hk2.le h.le h.nw,fun b hb=>h.nw b (hf b hb),fun e=>?_,fun _=>hw⟩,hk2,fun b hb=>.inl (hf b hb)⟩
 ·rw [hN]
  have h1:FamAt (m.set p (Cells (simCells V C M sv (H.upd 4 ⟨none,0⟩) s') TSim)) (famN s) tyS szS H (numS s) (contS H s):=h.fam.same fun b o hb hm=>by rw [Mem.set_other _ _ (h.notp hb)];exact hm
  exact h1.drop (k:=4) (by unfold famN;omega) (fun j hj e=>⟨upd_other H _ e,(hH j e).1,by rw [cont_upd H (by decide)];exact (hH j e).2⟩) (by rw [upd_same]) (by show s'.way.length=0;rw [hw];rfl) (by show flatL _ s'.way=[];rw [hw];rfl)
 ·rw [h0];rw [upd_other H _ (by decide)] at e;exact h.nil0 e
theorem SimAt.regCells (h:SimAt m0 m V C M sv p H s) {r:Nat} (hr:r<s.regs.length):∃ ad,(H 1).a=some ad∧CellsAt m (ad.add (r * 2)) (s.regs.getD r VR.zero).cells:=by
 obtain ⟨b,rest,hb,hm,_⟩:=h.fam.room (j:=1) (by unfold famN;omega) (show s.regs.length≠0 by omega)
 refine ⟨_,hb.2,fun q v hq=>?_⟩
 have hq2:q<2:=(List.getElem?_eq_some_iff.1 hq).1
 have:=h.fam.cellsAt (j:=1) (by unfold famN;omega) hb.2 (r * 2+q) v (by
  show (flatL VR.cells s.regs)[_]? = _
  rw [flat_get vr_len hr hq2]
  rw [List.getD_eq_getElem?_getD,List.getElem?_eq_getElem hr] at hq
  exact hq)
 rw [add_add];exact this
theorem SimAt.keptCells (h:SimAt m0 m V C M sv p H s) {r:Nat} (hr:r<s.kept.length):∃ ad,(H 2).a=some ad∧CellsAt m (ad.add (r * 2)) (s.kept.getD r VR.zero).cells:=by
 obtain ⟨b,rest,hb,hm,_⟩:=h.fam.room (j:=2) (by unfold famN;omega) (show s.kept.length≠0 by omega)
 refine ⟨_,hb.2,fun q v hq=>?_⟩
 have hq2:q<2:=(List.getElem?_eq_some_iff.1 hq).1
 have:=h.fam.cellsAt (j:=2) (by unfold famN;omega) hb.2 (r * 2+q) v (by
  show (flatL VR.cells s.kept)[_]? = _
  rw [flat_get vr_len hr hq2]
  rw [List.getD_eq_getElem?_getD,List.getElem?_eq_getElem hr] at hq
  exact hq)
 rw [add_add];exact this
theorem SimAt.wayCells (h:SimAt m0 m V C M sv p H s) {r:Nat} (hr:r<s.way.length):∃ ad,(H 4).a=some ad∧CellsAt m (ad.add (r * 4)) (s.way[r]).cells:=by
 obtain ⟨b,rest,hb,hm,_⟩:=h.fam.room (j:=4) (by unfold famN;omega) (show s.way.length≠0 by omega)
 refine ⟨_,hb.2,fun q v hq=>?_⟩
 have hq2:q<4:=(List.getElem?_eq_some_iff.1 hq).1
 have:=h.fam.cellsAt (j:=4) (by unfold famN;omega) hb.2 (r * 4+q) v (by
  show (flatL WayR.cells s.way)[_]? = _
  rw [flat_get wr_len hr hq2];exact hq)
 rw [add_add];exact this
theorem SimAt.setReg (h:SimAt m0 m V C M sv p H s) {r:Nat} (hr:r<s.regs.length) {v:VR} {ad:Addr} {vs:List Value} {K:Mem→Prop} (ha:(H 1).a=some ad) (hv:vs=v.cells)
  (k:∀ m',Goes m0 V C M sv p m H s m' H { s with regs:=s.regs.set r v }→K m'):WSt m (ad.add (r * 2)) vs K:=by
 subst hv
 obtain ⟨b,rest,hb,hm,hl⟩:=h.fam.room (j:=1) (by unfold famN;omega) (show s.regs.length≠0 by omega)
 rw [hb.2] at ha;cases ha
 have hlen:(contS H s 1++rest).length=(contS H s 1).length+rest.length:=List.length_append
 have hfl:(contS H s 1).length=s.regs.length * 2:=flat_len vr_len _
 refine WSt.at _ _ hm (by rw [hlen,hfl];show r * 2+2≤_;omega) ?_
 have e:spliceL (contS H s 1++rest) (r * 2) v.cells=contS H { s with regs:=s.regs.set r v } 1++rest:=flat_set vr_len hr v rest
 rw [e]
 refine k _ (h.put (k:=1) (by unfold famN;omega) hb ?_ rfl (fun j hj e=>?_) ?_ ?_ hl rfl rfl)
 ·unfold simCells hv;show _=_
  have:numS { s with regs:=s.regs.set r v } 1=numS s 1:=List.length_set
  rw [this];rfl
 ·match j,e with
  | 0,_=>exact ⟨rfl,rfl⟩
  | 2,_=>exact ⟨rfl,rfl⟩
  | 3,_=>exact ⟨rfl,rfl⟩
  | 4,_=>exact ⟨rfl,rfl⟩
  | j+5,_=>exact ⟨rfl,rfl⟩
 ·exact List.length_set
 ·show (flatL VR.cells (s.regs.set r v)).length=(flatL VR.cells s.regs).length
  rw [flat_len vr_len,flat_len vr_len,List.length_set]
theorem SimAt.setKept (h:SimAt m0 m V C M sv p H s) {r:Nat} (hr:r<s.kept.length) {v:VR} {ad:Addr} {vs:List Value} {K:Mem→Prop} (ha:(H 2).a=some ad) (hv:vs=v.cells)
  (k:∀ m',Goes m0 V C M sv p m H s m' H { s with kept:=s.kept.set r v }→K m'):WSt m (ad.add (r * 2)) vs K:=by
 subst hv
 obtain ⟨b,rest,hb,hm,hl⟩:=h.fam.room (j:=2) (by unfold famN;omega) (show s.kept.length≠0 by omega)
 rw [hb.2] at ha;cases ha
 have hlen:(contS H s 2++rest).length=(contS H s 2).length+rest.length:=List.length_append
 have hfl:(contS H s 2).length=s.kept.length * 2:=flat_len vr_len _
 refine WSt.at _ _ hm (by rw [hlen,hfl];show r * 2+2≤_;omega) ?_
 have e:spliceL (contS H s 2++rest) (r * 2) v.cells=contS H { s with kept:=s.kept.set r v } 2++rest:=flat_set vr_len hr v rest
 rw [e]
 refine k _ (h.put (k:=2) (by unfold famN;omega) hb ?_ rfl (fun j hj e=>?_) ?_ ?_ hl rfl rfl)
 ·unfold simCells hv;show _=_
  have:numS { s with kept:=s.kept.set r v } 2=numS s 2:=List.length_set
  rw [this];rfl
 ·match j,e with
  | 0,_=>exact ⟨rfl,rfl⟩
  | 1,_=>exact ⟨rfl,rfl⟩
  | 3,_=>exact ⟨rfl,rfl⟩
  | 4,_=>exact ⟨rfl,rfl⟩
  | j+5,_=>exact ⟨rfl,rfl⟩
 ·exact List.length_set
 ·show (flatL VR.cells (s.kept.set r v)).length=(flatL VR.cells s.kept).length
  rw [flat_len vr_len,flat_len vr_len,List.length_set]
theorem simNone_ok (h:SimAt m0 m V C M sv p H s) (hB:SimBase m0 V C M sv sh):PureM Tryz.prog 57 [ptr p] m (.bool false):=by
 refine calls_of mixed Tryz.func57 ok_sim_Sim_none rfl ?_
 have hw:=hB.ok.wl
 refine WSc.mk (v:=false) (fun _=>?_) ?_
 ·refine WLd.mk (.slice V.a2 V.n2 V.c2) (by rw [add_add];exact h.cell rfl) ?_
  conv=>whnf
  refine And.intro (Mem.le.refl _) ?_
  show some (Value.bool ((V.n2:Int)==0))=some (Value.bool false)
  have:((V.n2:Nat):Int)≠0:=by rw [hB.code.n2];omega
  simpa using this
 exact WRet.same ⟨rfl,rfl⟩
end
end Go.Proofs.YtleofbpepfmfgaaGreatDoor
