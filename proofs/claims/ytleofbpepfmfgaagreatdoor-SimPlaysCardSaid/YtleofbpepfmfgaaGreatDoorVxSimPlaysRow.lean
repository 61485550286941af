import Derived.Test.YtleofbpepfmfgaaGreatDoorRows
import Derived.WalkKit
import Derived.ProofKit
import Derived.LaidMore
import Derived.OpenShut
import Derived.Stop.Joined
import Derived.ChangeOld
import Derived.SizedLaws
import Derived.Carry
import Derived.JoinedOf
import Derived.Test.YtleofbpepfmfgaaGreatDoorTie
import Derived.Test.YtleofbpepfmfgaaGreatDoorCards
import Derived.SevenTiedAt
import Derived.WideShapes
import Derived.Test.YtleofbpepfmfgaaGreatDoorVxSimPlaysAll
set_option maxRecDepth 100000
namespace Go.Proofs.YtleofbpepfmfgaaGreatDoor
open Go.ChangeShapes Go.WideShapes Go.ChangeAt Go.RowKit
open Go Go.Vx

theorem own:ownKnob Tryz.prog.godebug=none:=by kernel_rfl
theorem j5h : Tryz.prog.globalNamed "bireme/code.forms" = some 0 := by kernel_rfl
def z1p : List (String × DataW Unit) := [("bireme/code.forms", Rows.laid_bireme_code_forms)]
theorem j6m (os:Os) (args:Array Value):laidMetH Tryz.prog z1p ((World.doorLaid Tryz.prog 400 os).forCall (fun _ _=>0) ⟨#[],args,[]⟩).memory :=
 laidMetH_of_parts3 (fuel:=8) (laidMet_of_run' 8 (by kernel_rfl) (by kernel_rfl)) (by kernel_rfl) (by kernel_rfl)
theorem v8j:((Tryz.prog.globals[0]?).map (·.type)).map (z3b Tryz.prog 4)=some true:=by kernel_rfl
theorem k3l:z2l (H:=Unit) Rows.laid_bireme_code_forms=q2f:=by kernel_rfl
theorem j6n {W:World} (h:laidMetH Tryz.prog z1p W):∃ T fr,W.heap[0]? = some (.cells ⟨q2f⟩ T fr):=by
 rw [MakeChecks.laidMetH_plain _ _ _ (by kernel_rfl)] at h
 obtain ⟨ps,⟨g0,t0,cs0,f0,p0,q0,hg0,ht0,hv0,hd0,_,_⟩,_,_⟩:=h
 obtain rfl:=Option.some.inj (j5h.symm.trans hg0)
 have hp:=v8j
 rw [ht0] at hp
 have hc:=j0e 4 t0 f0 cs0.toList _ p0 (Option.some.inj hp) hd0
 rw [k3l] at hc
 unfold World.var? at hv0
 rw [hg0] at hv0
 simp only [Option.bind_some] at hv0
 split at hv0<;>try (cases hv0;done)
 rename_i cs T fr hh
 cases hv0
 exact ⟨T,fr,by rw [hh];congr 2;exact Array.ext' hc⟩
theorem j9m {m:Mem} {W W':World} (hs:Sub m W) (h:Step m W m W'):Below W.heap.size W W' :=
 ⟨h.os,h.tape,h.out,h.size,fun k hk=>by
  cases hm:m k with
  | none=>exact (h.keep k hk hm).2
  | some o=>rw [h.sub k o hm,hs k o hm]⟩
theorem w1x {W W':World} (h:Step (fun b=>W.heap[b]?) W (fun b=>W.heap[b]?) W'):Below W.heap.size W W':=j9m (fun _ _ h=>h) h
theorem q9h:laidOutB Tryz.prog=true:=by kernel_rfl
theorem k2i:mapsRowed Tryz.prog=true:=by kernel_rfl
theorem v9y:Tryz.prog.stopsHeard=true:=by kernel_rfl
theorem j6d:Tryz.prog.mayEnter=true:=by kernel_rfl
theorem j5q:Tryz.prog.liftsFinal=false:=by kernel_rfl
theorem k9v:Tryz.prog.plainKeys=true:=by kernel_rfl
end Go.Proofs.YtleofbpepfmfgaaGreatDoor
set_option maxRecDepth 100000
namespace Go.Proofs.YtleofbpepfmfgaaGreatDoor
open Go
def z9y : Bool × String := (true, "df85d65f2da84bc1e3710418a0942af33b3a71b46afada8500d8c4d100323101")
theorem k9f:Tryz.pinned.checked.prog.mainIs=some (z9y.1,z9y.2.toList):=by kernel_rfl
theorem v8a:true=Tryz.prog.looks []:=by kernel_rfl
theorem k7i:([3,4,22,25,26,28,29,57,60,69].all fun u=>!Tryz.prog.wantsStandIn u)=true:=by kernel_rfl
theorem j2l {t:TypeId} (h:t∈[3,4,22,25,26,28,29,57,60,69]):Tryz.prog.wantsStandIn t=false:=by simpa using List.all_eq_true.1 k7i t h
end Go.Proofs.YtleofbpepfmfgaaGreatDoor
set_option maxRecDepth 100000
namespace Go.Proofs.YtleofbpepfmfgaaGreatDoor
open Go Go.Vx
def AllI (cs:List Value):Prop:=∀ v∈cs,∃ z:Int,v=i z∧-9223372036854775808≤z∧z≤9223372036854775807
def okFs (P:Program) (ok:TypeId→Bool) (total:Nat):Nat→List Field→Bool
 | o,[]=>Nat.beq o total
 | o,f :: fs=>Nat.beq f.offset o&&ok f.type&&okFs P ok total (o+P.cellsOf f.type) fs
def z0d (P:Program):Nat→TypeId→Bool
 | 0,_=>false
 | n+1,t=>match P.underlying t with
  | some (.int k)=>kbeq k .i64
  | some (.struct fs)=>okFs P (z0d P n) (P.cellsOf t) 0 fs.toList
  | some (.array m e)=>z0d P n e&&Nat.beq (P.cellsOf t) (m * P.cellsOf e)
  | _=>false
theorem AllI.take_drop {cs:List Value} {k:Nat} (h1:AllI (cs.take k)) (h2:AllI (cs.drop k)):AllI cs:=fun v hv=>by
 rw [← List.take_append_drop k cs] at hv
 rcases List.mem_append.1 hv with h | h
 ·exact h1 v h
 ·exact h2 v h
theorem j6k {P:Program} {ok:TypeId→Bool} {total:Nat} {cs:List Value} (hlen:cs.length=total) :
  ∀ (fs:List Field) (o:Nat),okFs P ok total o fs=true→(∀ f∈fs,ok f.type=true→AllI ((cs.drop f.offset).take (P.cellsOf f.type)))→AllI (cs.drop o):=by
 intro fs
 induction fs with
 | nil =>
  intro o h _
  simp only [okFs] at h
  have:=q0n h
  rw [List.drop_eq_nil_iff.2 (by omega)]
  intro v hv;cases hv
 | cons f fs ih =>
  intro o h hf
  simp only [okFs,Bool.and_eq_true] at h
  obtain ⟨⟨h1,h2⟩,h3⟩:=h
  obtain rfl:=q0n h1
  refine AllI.take_drop (hf f (by simp) h2) ?_
  rw [List.drop_drop]
  exact ih _ h3 fun g hg=>hf g (by simp [hg])
theorem j7n {k:Nat} {cs:List Value}:∀ (n s:Nat),cs.length=(s+n) * k→(∀ j,s≤j→j<s+n→AllI ((cs.drop (j * k)).take k))→AllI (cs.drop (s * k)):=by
 intro n
 induction n with
 | zero =>
  intro s hl _
  rw [List.drop_eq_nil_iff.2 (by simp at hl;omega)]
  intro v hv;cases hv
 | succ n ih =>
  intro s hl h
  refine AllI.take_drop (h s (Nat.le_refl _) (by omega)) ?_
  rw [List.drop_drop]
  have:=ih (s+1) (by rw [hl];congr 1;omega) fun j h1 h2=>h j (by omega) (by omega)
  rw [Nat.add_mul,Nat.one_mul] at this
  exact this
variable {H:Type} {enc:TypeId×Value→H} {w:World} {base:Nat} {spare:Nat→Bool} {held:Bool}
theorem j7u {k:IntKind} (h:kbeq k .i64=true):k=.i64:=by cases k<;>first | rfl | cases h
theorem v6c:∀ (n:Nat) (t:TypeId) (F:Nat) (cs:List Value) (x:DataW H×List MemPlace),z0d Tryz.prog n t=true→DataW.trod enc Tryz.prog w base spare held F t cs=some x→AllI cs:=by
 intro n
 induction n with
 | zero=>intro t F cs x h;cases h
 | succ n ih =>
  intro t F cs x h hd
  unfold z0d at h
  split at h
  ·rename_i k hu
   obtain rfl:=j7u h
   obtain ⟨z,rfl,_,hw⟩:=DataW.trod_int hu hd
   intro v hv
   rw [List.mem_singleton] at hv
   refine ⟨z,hv,?_⟩
   simp [Lit.wf] at hw
   first | exact hw | (rw [show IntKind.i64.min=-9223372036854775808 from rfl,show IntKind.i64.max=9223372036854775807 from rfl] at hw;exact hw)
  ·rename_i fs hu
   obtain ⟨xs,m,rfl,_,hlen,hxs,hf⟩:=DataW.trod_struct hu hd
   have:=j6k hlen fs.toList 0 h fun f hfm hok=>by
    obtain ⟨j,hj,rfl⟩:=List.getElem_of_mem hfm
    have hj2:j<fs.size:=by simpa using hj
    have h1:=hf j fs[j] (by simp [hj2])
    have h2:xs[j]? = some xs[j]:=List.getElem?_eq_getElem (by omega)
    rw [h2] at h1
    exact ih _ _ _ _ (by simpa using hok) (by simpa using h1)
   simpa using this
  ·rename_i m e hu
   rw [Bool.and_eq_true] at h
   obtain ⟨xs,q,rfl,_,hlen,hxs,hf⟩:=DataW.trod_array hu hd
   have:=j7n (cs:=cs) (k:=Tryz.prog.cellsOf e) m 0 (by rw [hlen,q0n h.2];congr 1;omega) fun j _ hj=>by
    have h1:=hf j (by omega)
    have h2:xs[j]? = some xs[j]:=List.getElem?_eq_getElem (by omega)
    rw [h2] at h1
    exact ih _ _ _ _ h.1 h1
   simpa using this
  ·cases h
theorem v5l {α:Type} {T e k:Nat} {Q:List Value→α→Prop} {fuel:Nat} {cs:List Value} {x:DataW H×List MemPlace} (ht:Tryz.prog.underlying T=some (.slice e)) (hk:Tryz.prog.cellsOf e=k)
  (hel:∀ n ds y,DataW.trod enc Tryz.prog w base spare held n e ds=some y→ds.length=k→∃ a,Q ds a) (h:DataW.trod enc Tryz.prog w base spare held fuel T cs=some x) :
  cs=[.slice none 0 0]∨∃ (a:Addr) (len cap:Nat) (L:List α),cs=[.slice (some a) len cap]∧len≤cap∧cap≤maxLen∧L.length=len∧∀ j (hj:j<L.length),∃ ds,ds.length=k∧Q ds L[j]∧q0g (q3p w) (a.add (j * k)) ds:=by
 rcases DataW.trod_slice ht h with ⟨h0,_⟩ | ⟨a,len,cap,elems,rest,n,_,rfl,rfl,hb,hl,hm,hlen,hel2,_,_⟩
 ·exact .inl h0
 right
 obtain ⟨L,hL,hc⟩:=z6k (Q:=fun j (b:α)=>∃ ds,ds.length=k∧Q ds b∧q0g (q3p w) (a.add (j * k)) ds) len fun j hj=>by
  have hj2:elems[j]? = some elems[j]:=List.getElem?_eq_getElem (by omega)
  have h1:=hel2 j hj
  rw [hj2,hk,Option.bind_eq_some_iff] at h1
  obtain ⟨ds,h2,h3⟩:=h1
  obtain ⟨_,hl2,h5⟩:=World.cells?_some h2
  obtain ⟨b,hb2⟩:=hel n ds _ h3 hl2
  refine ⟨b,ds,hl2,hb2,fun q v hq=>?_⟩
  have hql:=(List.getElem?_eq_some_iff.1 hq).1
  have:=h5 q (by omega)
  rw [hq] at this
  exact z1t this
 exact ⟨a,len,cap,L,rfl,hl,hm,hL,hc⟩
theorem ints7 {cs:List Value} (h:AllI cs) (hl:cs.length=7):∃ o:OpR,cs=o.cells:=by
 match cs,hl with
 | [a,b,c,d,e,f,g],_ =>
  obtain ⟨a',rfl,_⟩:=h a (by simp)
  obtain ⟨b',rfl,_⟩:=h b (by simp)
  obtain ⟨c',rfl,_⟩:=h c (by simp)
  obtain ⟨d',rfl,_⟩:=h d (by simp)
  obtain ⟨e',rfl,_⟩:=h e (by simp)
  obtain ⟨f',rfl,_⟩:=h f (by simp)
  obtain ⟨g',rfl,_⟩:=h g (by simp)
  exact ⟨⟨a',b',c',d',e',f',g'⟩,rfl⟩
theorem j9h {cs:List Value} (h:AllI cs) (hl:cs.length=11):∃ M:Mac,cs=M.cells:=by
 match cs,hl with
 | [a,b,c,d,e,f,g,p,q,r,s],_ =>
  obtain ⟨a',rfl,_⟩:=h a (by simp)
  obtain ⟨b',rfl,_⟩:=h b (by simp)
  obtain ⟨c',rfl,_⟩:=h c (by simp)
  obtain ⟨d',rfl,_⟩:=h d (by simp)
  obtain ⟨e',rfl,_⟩:=h e (by simp)
  obtain ⟨f',rfl,_⟩:=h f (by simp)
  obtain ⟨g',rfl,_⟩:=h g (by simp)
  obtain ⟨p',rfl,_⟩:=h p (by simp)
  obtain ⟨q',rfl,_⟩:=h q (by simp)
  obtain ⟨r',rfl,_⟩:=h r (by simp)
  obtain ⟨s',rfl,_⟩:=h s (by simp)
  exact ⟨⟨a',b',c',d',e',f',g',p',q',r',s'⟩,rfl⟩
theorem z4y {v:Value} {cs:List Value} (h:v.cells.toList=cs) (hl:cs.length≠1):v=.agg ⟨cs⟩:=by
 subst h
 cases v<;>first | rfl | (exfalso;exact hl rfl)
theorem k6x {t:TypeId} {v:Value} {d:DataW H} {ps:List MemPlace} (hok:z0d Tryz.prog 4 t=true) (hc:Tryz.prog.cellsOf t=11) (hu:∃ fs,Tryz.prog.underlying t=some (.struct fs)) (h:DataW.Trod enc Tryz.prog w base spare held t v d ps):∃ M:Mac,v=M.val:=by
 obtain ⟨fuel,hf⟩:=h
 obtain ⟨fs,hu⟩:=hu
 obtain ⟨xs,m,_,_,hlen,_,_⟩:=DataW.trod_struct hu hf
 obtain ⟨M,hM⟩:=j9h (v6c 4 t _ _ _ hok hf) (by rw [hlen,hc])
 exact ⟨M,by rw [z4y hM (by simp [Mac.cells])];rfl⟩
theorem j9z {T e fuel:Nat} {cs:List Value} {x:DataW H×List MemPlace} (ht:Tryz.prog.underlying T=some (.slice e)) (hk:Tryz.prog.cellsOf e=7) (hok:z0d Tryz.prog 4 e=true) (h:DataW.trod enc Tryz.prog w base spare held fuel T cs=some x) :
  cs=[.slice none 0 0]∨∃ (a:Addr) (len cap:Nat) (L:List OpR),cs=[.slice (some a) len cap]∧len≤cap∧cap≤maxLen∧L.length=len∧q0g (q3p w) a (ocs L):=by
 rcases v5l (Q:=fun ds (o:OpR)=>ds=o.cells) ht hk (fun n ds y hd hl=>ints7 (v6c 4 e _ _ _ hok hd) hl) h with h0 | ⟨a,len,cap,L,rfl,h1,h2,h3,h4⟩
 ·exact .inl h0
 right
 refine ⟨a,len,cap,L,rfl,h1,h2,h3,fun q v hq=>?_⟩
 have hql:=(List.getElem?_eq_some_iff.1 hq).1
 rw [z9a] at hql
 have hk2:q / 7<L.length:=by omega
 have hj:q % 7<7:=by omega
 have e1:q / 7 * 7+q % 7=q:=by omega
 rw [← e1,v6d hk2 hj] at hq
 obtain ⟨ds,_,rfl,g⟩:=h4 (q / 7) hk2
 have:=g (q % 7) v hq
 rw [q0o,e1] at this
 exact this
theorem v2i {v:Value} (h:v.cells.toList=[.slice none 0 0]∨∃ (a:Addr) (len cap:Nat) (L:List OpR),v.cells.toList=[.slice (some a) len cap]∧len≤cap∧cap≤maxLen∧L.length=len∧q0g (q3p w) a (ocs L)) {A:Option Addr} {n c:Nat} (hv:v=.slice A n c):∃ O,OAt (q3p w) v O∧O.length<2 ^ 63:=by
 subst hv
 rcases h with h | ⟨a,len,cap,L,h,hl,hm,hE,hc⟩
 ·simp [Value.cells] at h
  obtain ⟨rfl,rfl,rfl⟩:=h
  exact ⟨[],⟨none,0,rfl,fun _=>rfl,(fun ad h=>by cases h),Nat.le_refl _⟩,by decide⟩
 ·simp [Value.cells] at h
  obtain ⟨rfl,rfl,rfl⟩:=h
  subst hE
  exact ⟨L,⟨some a,_,rfl,(fun h=>by cases h),(fun ad h=>by cases h;exact hc),hl⟩,by unfold maxLen at hm;omega⟩
end Go.Proofs.YtleofbpepfmfgaaGreatDoor
set_option maxRecDepth 100000
namespace Go.Proofs.YtleofbpepfmfgaaGreatDoor
open Go Go.Vx
open Go.Vx.IOp Go.Vx.IR Go.Vx.Opd
variable {H:Type} {enc:TypeId×Value→H} {w:World} {base:Nat} {spare:Nat→Bool} {held:Bool} {fuel:Nat} {cs:List Value} {x:DataW H×List MemPlace}
theorem k8y {n:Nat} {cs:List Value} {y:DataW H×List MemPlace} (h:DataW.trod enc Tryz.prog w base spare held n 73 cs=some y):∃ a:Int×Int,cs=[.int .u8 a.1,i a.2]:=by
 obtain ⟨xs,m,rfl,_,hlen,hxs,hf⟩:=DataW.trod_struct Tryz.underlying73 h
 have h2:cs.length=2:=by rw [hlen];kernel_rfl
 have c3:Tryz.prog.cellsOf 3=1:=by kernel_rfl
 have c5:Tryz.prog.cellsOf 5=1:=by kernel_rfl
 obtain ⟨y0,hy0⟩:∃ y,xs[0]? = some y:=⟨_,List.getElem?_eq_getElem (by rw [hxs];decide)⟩
 obtain ⟨y1,hy1⟩:∃ y,xs[1]? = some y:=⟨_,List.getElem?_eq_getElem (by rw [hxs];decide)⟩
 have t0:DataW.trod enc Tryz.prog w base spare held m 5 ((cs.drop 0).take (Tryz.prog.cellsOf 5))=xs[0]?:=hf 0 _ rfl
 have t1:DataW.trod enc Tryz.prog w base spare held m 3 ((cs.drop 1).take (Tryz.prog.cellsOf 3))=xs[1]?:=hf 1 _ rfl
 rw [hy0,c5] at t0
 rw [hy1,c3] at t1
 obtain ⟨z0,hz0,_,_⟩:=DataW.trod_int Tryz.underlying5 t0
 obtain ⟨z1,hz1,_,_⟩:=DataW.trod_int Tryz.underlying3 t1
 match cs,h2 with
 | [p,q],_ =>
  simp at hz0 hz1
  subst hz0;subst hz1
  exact ⟨(z0,z1),rfl⟩
theorem w3b (h:DataW.trod enc Tryz.prog w base spare held fuel 69 cs=some x) :
  cs=[.slice none 0 0]∨∃ (a:Addr) (len cap:Nat) (E:List (Int×Int)),cs=[.slice (some a) len cap]∧len≤cap∧cap≤maxLen∧E.length=len∧∀ k (hk:k<E.length),q0q (q3p w) ((a.add (k * 2)).add 0) (.int .u8 E[k].1)∧q0q (q3p w) ((a.add (k * 2)).add 1) (i E[k].2):=by
 rcases DataW.trod_slice Tryz.underlying69 h with ⟨h0,_⟩ | ⟨a,len,cap,elems,rest,n,_,rfl,rfl,hb,hl,hm,hlen,hel,_,_⟩
 ·exact .inl h0
 right
 have c2:Tryz.prog.cellsOf 73=2:=by kernel_rfl
 obtain ⟨E,hE,hc⟩:=z6k (Q:=fun k (e:Int×Int)=>w.cell? ((a.add (k * 2)).add 0)=some (.int .u8 e.1)∧w.cell? ((a.add (k * 2)).add 1)=some (i e.2)) len fun k hk=>by
  have hk2:∃ y,elems[k]? = some y:=⟨_,List.getElem?_eq_getElem (by omega)⟩
  obtain ⟨y,hy⟩:=hk2
  have h1:=hel k hk
  rw [hy,c2,Option.bind_eq_some_iff] at h1
  obtain ⟨cs',h2,h3⟩:=h1
  obtain ⟨e,rfl⟩:=k8y h3
  obtain ⟨_,_,h5⟩:=World.cells?_some h2
  exact ⟨e,h5 0 (by decide),h5 1 (by decide)⟩
 exact ⟨a,len,cap,E,rfl,hl,hm,hE,fun k hk=>⟨z1t (hc k hk).1,z1t (hc k hk).2⟩⟩
theorem k5o {v:Value} (h:v.cells.toList=[.slice none 0 0]∨∃ (a:Addr) (len cap:Nat) (E:List (Int×Int)),v.cells.toList=[.slice (some a) len cap]∧len≤cap∧cap≤maxLen∧E.length=len∧∀ k (hk:k<E.length),q0q (q3p w) ((a.add (k * 2)).add 0) (.int .u8 E[k].1)∧q0q (q3p w) ((a.add (k * 2)).add 1) (i E[k].2))
  {A:Option Addr} {n c:Nat} (hv:v=.slice A n c):∃ L,q6o (q3p w) v L:=by
 subst hv
 rcases h with h | ⟨a,len,cap,E,h,hl,hm,hE,hc⟩
 ·simp [Value.cells] at h
  obtain ⟨rfl,rfl,rfl⟩:=h
  exact ⟨[],none,0,rfl,fun _=>rfl,(fun ad h=>by cases h),Nat.le_refl _⟩
 ·simp [Value.cells] at h
  obtain ⟨rfl,rfl,rfl⟩:=h
  subst hE
  exact ⟨E,some a,_,rfl,(fun h=>by cases h),(fun ad h=>by cases h;exact hc),hl⟩
theorem z3g {fuel:Nat} {c:Value} {x:DataW H×List MemPlace} (h:DataW.trod enc Tryz.prog w base spare held fuel 3 [c]=some x):∃ z:Int,c=i z:=by
 obtain ⟨z,e,_,_⟩:=DataW.trod_int Tryz.underlying3 h
 injection e with e _
 exact ⟨z,e⟩
theorem w0y {v:Value} {d:DataW H} {ps:List MemPlace} (h:DataW.Trod enc Tryz.prog w base spare held 26 v d ps):∃ x0 x1 x2 x3:Int,v=.agg ⟨[i x0,i x1,i x2,i x3]⟩:=by
 obtain ⟨fuel,hf0⟩:=h
 obtain ⟨xs,n,_,_,hlen,hxs,hf⟩:=DataW.trod_array Tryz.underlying26 hf0
 have hl:v.cells.toList.length=4:=by rw [hlen];kernel_rfl
 have f0:=hf 0 (by decide)
 have f1:=hf 1 (by decide)
 have f2:=hf 2 (by decide)
 have f3:=hf 3 (by decide)
 rw [List.getElem?_eq_getElem (by omega)] at f0 f1 f2 f3
 rw [show Tryz.prog.cellsOf 3=1 by kernel_rfl] at f0 f1 f2 f3
 generalize hcs:v.cells.toList=cs at *
 match cs,hl with
 | [v0,v1,v2,v3],_ =>
  obtain ⟨z0,rfl⟩:=z3g f0
  obtain ⟨z1,rfl⟩:=z3g f1
  obtain ⟨z2,rfl⟩:=z3g f2
  obtain ⟨z3,rfl⟩:=z3g f3
  exact ⟨z0,z1,z2,z3,by rw [z4y hcs (by simp)]⟩
end Go.Proofs.YtleofbpepfmfgaaGreatDoor
set_option maxRecDepth 100000
namespace Go.Proofs.YtleofbpepfmfgaaGreatDoor
open Go Go.Vx
variable {H:Type} {enc:TypeId×Value→H} {w:World} {base:Nat} {spare:Nat→Bool} {held:Bool}
theorem z3c {fuel:Nat} {cs:List Value} {x:DataW H×List MemPlace} (h:DataW.trod enc Tryz.prog w base spare held fuel 3 cs=some x):∃ z:Int,cs=[i z]:=by
 obtain ⟨z,e,_⟩:=DataW.trod_int Tryz.underlying3 h
 exact ⟨z,e⟩
theorem w5m {fuel:Nat} {cs:List Value} {x:DataW H×List MemPlace} (h:DataW.trod enc Tryz.prog w base spare held fuel 22 cs=some x):∃ a n c C,cs=[.slice a n c]∧IAt (q3p w) (.slice a n c) C∧C.length<2 ^ 63:=by
 rcases v5i h with rfl | ⟨a,len,cap,C,rfl,h1,h2,h3,h4⟩
 ·obtain ⟨C,hC,hl⟩:=z4u (w:=w) (v:=.slice none 0 0) (.inl rfl) rfl
  exact ⟨none,0,0,C,rfl,hC,hl⟩
 ·obtain ⟨C',hC,hl⟩:=z4u (w:=w) (v:=.slice (some a) len cap) (.inr ⟨a,len,cap,C,rfl,h1,h2,h3,h4⟩) rfl
  exact ⟨_,_,_,C',rfl,hC,hl⟩
theorem j7w {fuel:Nat} {cs:List Value} {x:DataW H×List MemPlace} (h:DataW.trod enc Tryz.prog w base spare held fuel 101 cs=some x):∃ a n c O,cs=[.slice a n c]∧OAt (q3p w) (.slice a n c) O:=by
 rcases j9z Tryz.underlying101 (by kernel_rfl) (by kernel_rfl) h with rfl | ⟨a,len,cap,L,rfl,h1,h2,h3,h4⟩
 ·obtain ⟨O,hO,_⟩:=v2i (w:=w) (v:=.slice none 0 0) (.inl rfl) rfl
  exact ⟨none,0,0,O,rfl,hO⟩
 ·obtain ⟨O,hO,_⟩:=v2i (w:=w) (v:=.slice (some a) len cap) (.inr ⟨a,len,cap,L,rfl,h1,h2,h3,h4⟩) rfl
  exact ⟨_,_,_,O,rfl,hO⟩
def v5y (w:World) (ds:List Value) (r:q3g):Prop:=∃ a n c,ds=[.slice a n c,i r.ct]∧OAt (q3p w) (.slice a n c) r.ops
theorem j9x {fuel:Nat} {cs:List Value} {x:DataW H×List MemPlace} (h:DataW.trod enc Tryz.prog w base spare held fuel 103 cs=some x):∃ r:q3g,v5y w cs r:=by
 obtain ⟨xs,n,rfl,_,hlen,hxs,hf⟩:=DataW.trod_struct Tryz.underlying103 h
 have hl:cs.length=2:=by rw [hlen];kernel_rfl
 have hxs:xs.length=2:=hxs
 have f0:=hf 0 _ rfl
 have f1:=hf 1 _ rfl
 rw [List.getElem?_eq_getElem (by omega)] at f0 f1
 match cs,hl with
 | [v0,v1],_ =>
  have f0:DataW.trod enc Tryz.prog w base spare held n 101 (List.take (Tryz.prog.cellsOf 101) [v0,v1])=some _:=f0
  have f1:DataW.trod enc Tryz.prog w base spare held n 3 (List.take (Tryz.prog.cellsOf 3) [v1])=some _:=f1
  rw [show Tryz.prog.cellsOf 101=1 by kernel_rfl] at f0
  rw [show Tryz.prog.cellsOf 3=1 by kernel_rfl] at f1
  obtain ⟨a,n',c,O,e0,hO⟩:=j7w f0
  obtain ⟨z,e1⟩:=z3c f1
  injection e0 with e0 _
  injection e1 with e1 _
  exact ⟨⟨O,z⟩,a,n',c,by rw [e0,e1],hO⟩
theorem j6s {v:Value} {d:DataW H} {ps:List MemPlace} (h:DataW.Trod enc Tryz.prog w base spare held 25 v d ps):∃ V C,v=CV.val V C∧q1q (q3p w) V C:=by
 obtain ⟨fuel,hf0⟩:=h
 obtain ⟨xs,n,rfl,_,hlen,hxs,hf⟩:=DataW.trod_struct Tryz.underlying25 hf0
 have hl:v.cells.toList.length=6:=by rw [hlen];kernel_rfl
 have hxs:xs.length=6:=hxs
 have f0:=hf 0 _ rfl
 have f1:=hf 1 _ rfl
 have f2:=hf 2 _ rfl
 have f3:=hf 3 _ rfl
 have f4:=hf 4 _ rfl
 have f5:=hf 5 _ rfl
 rw [List.getElem?_eq_getElem (by omega)] at f0 f1 f2 f3 f4 f5
 generalize hcs:v.cells.toList=cs at *
 match cs,hl with
 | [v0,v1,v2,v3,v4,v5],_ =>
  have f0:DataW.trod enc Tryz.prog w base spare held n 22 (List.take (Tryz.prog.cellsOf 22) [v0,v1,v2,v3,v4,v5])=some _:=f0
  have f1:DataW.trod enc Tryz.prog w base spare held n 3 (List.take (Tryz.prog.cellsOf 3) [v1,v2,v3,v4,v5])=some _:=f1
  have f2:DataW.trod enc Tryz.prog w base spare held n 3 (List.take (Tryz.prog.cellsOf 3) [v2,v3,v4,v5])=some _:=f2
  have f3:DataW.trod enc Tryz.prog w base spare held n 3 (List.take (Tryz.prog.cellsOf 3) [v3,v4,v5])=some _:=f3
  have f4:DataW.trod enc Tryz.prog w base spare held n 3 (List.take (Tryz.prog.cellsOf 3) [v4,v5])=some _:=f4
  have f5:DataW.trod enc Tryz.prog w base spare held n 23 (List.take (Tryz.prog.cellsOf 23) [v5])=some _:=f5
  rw [show Tryz.prog.cellsOf 22=1 by kernel_rfl] at f0
  rw [show Tryz.prog.cellsOf 3=1 by kernel_rfl] at f1 f2 f3 f4
  rw [show Tryz.prog.cellsOf 23=1 by kernel_rfl] at f5
  obtain ⟨a1,n1,c1,sz,e0,hsz,hszl⟩:=w5m f0
  obtain ⟨z1,e1⟩:=z3c f1
  obtain ⟨z2,e2⟩:=z3c f2
  obtain ⟨z3,e3⟩:=z3c f3
  obtain ⟨z4,e4⟩:=z3c f4
  injection e0 with e0 _
  injection e1 with e1 _
  injection e2 with e2 _
  injection e3 with e3 _
  injection e4 with e4 _
  have hw:=v5l (Q:=v5y w) Tryz.underlying23 (show Tryz.prog.cellsOf 103=2 by kernel_rfl) (fun n ds y hd _=>j9x hd) f5
  rcases hw with e5 | ⟨a,len,cap,L,e5,g1,g2,g3,g4⟩
  ·injection e5 with e5 _
   refine ⟨⟨a1,n1,c1,none,0,0⟩,⟨sz,z1,z2,z3,z4,[]⟩,?_,hsz,⟨none,0,rfl,fun _=>rfl,(fun ad h=>by cases h),Nat.le_refl _⟩,hszl,show (0:Nat)<2 ^ 63 by decide⟩
   rw [z4y hcs (by simp),e0,e1,e2,e3,e4,e5];rfl
  ·injection e5 with e5 _
   subst g3
   refine ⟨⟨a1,n1,c1,some a,L.length,cap⟩,⟨sz,z1,z2,z3,z4,L⟩,?_,hsz,⟨some a,cap,rfl,(fun h=>by cases h),fun ad h k hk=>?_,g1⟩,hszl,by show L.length<_;unfold maxLen at g2;omega⟩
   ·rw [z4y hcs (by simp),e0,e1,e2,e3,e4,e5];rfl
   ·cases h
    obtain ⟨ds,_,⟨a3,n3,c3,rfl,hO⟩,hc⟩:=g4 k hk
    exact ⟨a3,n3,c3,hc,hO⟩
end Go.Proofs.YtleofbpepfmfgaaGreatDoor
set_option maxRecDepth 100000
namespace Go.Proofs.YtleofbpepfmfgaaGreatDoor
open Go.ChangeShapes Go.WideShapes Go.ChangeAt Go.RowKit
open Go Go.Vx
theorem k1u (os:Os) (started:os.Started) (H:Type) (enc:TypeId×Value→H) :
  ReturnsInHanded {} Tryz.checked os 10 .any (fun w args=>(Rows.simPlaysSpec.pre enc Tryz.prog Tryz.f10 [] false w args∧laidMetH Tryz.prog z1p w)∧sizedMet enc Tryz.prog Tryz.f10 (OpenSpec.ofChange Rows.simPlaysSpec) false w args)
   (Rows.simPlaysSpec.post enc Tryz.prog Tryz.f10 false true false false):=by
 refine returnsInHanded_of_change_and (C:=Tryz.checked) (X:=fun w _=>laidMetH Tryz.prog z1p w) (fun _ _ _ hh h=>h.of_heap hh) own started (by kernel_rfl) Tryz.func10
  (ChangeSpec.witness_shaped (enc:=enc) (C:=Tryz.checked) (os:=os) (X:=fun w _=>laidMetH Tryz.prog z1p w) false (World.doorLaid Tryz.prog 400 os) #[.agg #[.slice none 0 0,.int .i64 0,.int .i64 0,.int .i64 0,.int .i64 0,.slice none 0 0],.agg #[.int .i64 0,.int .i64 0,.int .i64 0,.int .i64 0,.int .i64 0,.int .i64 0,.int .i64 0,.int .i64 0,.int .i64 0,.int .i64 0,.int .i64 0],.slice none 0 0,.slice none 0 0,.slice none 0 0,.agg #[.int .i64 0,.int .i64 0,.int .i64 0,.int .i64 0]] 8 rfl (World.shaped_of_RefB (by kernel_rfl) (by kernel_rfl)) (by kernel_rfl) (by kernel_rfl) (by kernel_rfl) (j6m os _)) ?_
 intro W base args ds gs before hval0 hW _ _ hL _
 have hval:∀ (j:Nat) t v,Tryz.f10.params[j]? = some t→args[j]? = some v→Value.okWide Tryz.prog W .any base t v:=hval0
 have hW':=hW
 obtain ⟨p,q,hA0,hV,rfl,hfz,hnd⟩:=hW
 have hA:DataW.TrodAll enc Tryz.prog W 0 (fun _=>true) true Tryz.f10.params.toList args.toList ds p:=hA0
 rw [Tryz.params10] at hA hval
 obtain ⟨v0,vs0,d0,ds0,p0,q0,hargs,rfl,rfl,h0,r0⟩:=trodAll_cons hA
 obtain ⟨v1,vs1,d1,ds1,p1,q1,rfl,rfl,rfl,h1,r1⟩:=trodAll_cons r0
 obtain ⟨v2,vs2,d2,ds2,p2,q2,rfl,rfl,rfl,h2,r2⟩:=trodAll_cons r1
 obtain ⟨v3,vs3,d3,ds3,p3,q3,rfl,rfl,rfl,h3,r3⟩:=trodAll_cons r2
 obtain ⟨v4,vs4,d4,ds4,p4,q4,rfl,rfl,rfl,h4,r4⟩:=trodAll_cons r3
 obtain ⟨v5,vs5,d5,ds5,p5,q5,rfl,rfl,rfl,h5,r5⟩:=trodAll_cons r4
 obtain ⟨rfl,rfl,rfl⟩:=trodAll_nil r5
 obtain rfl:args=#[v0,v1,v2,v3,v4,v5]:=by cases args;simp_all
 obtain ⟨rfl,rfl⟩:=trodVars_none hV
 have k0:=h0
 have lt0:∀ x∈p0,x.block<W.heap.size:=by obtain ⟨m,hm⟩:=k0;exact DataW.trod_lt m _ _ _ hm
 obtain ⟨V0,C0,rfl,hV0⟩:=j6s h0
 have k1:=h1
 have lt1:∀ x∈p1,x.block<W.heap.size:=by obtain ⟨m,hm⟩:=k1;exact DataW.trod_lt m _ _ _ hm
 obtain ⟨M1,rfl⟩:=k6x (by kernel_rfl) (by kernel_rfl) ⟨_,Tryz.underlying28⟩ h1
 obtain ⟨a2,len2,cap2,e2⟩:=okWide_slice Tryz.underlying29 (hval 2 29 v2 rfl rfl)
 have k2:=h2
 have lt2:∀ x∈p2,x.block<W.heap.size:=by obtain ⟨m,hm⟩:=k2;exact DataW.trod_lt m _ _ _ hm
 obtain ⟨C2,hC2,hCl2⟩:∃ C,IAt (q3p W) v2 C∧C.length<2 ^ 63:=by obtain ⟨fuel,hf⟩:=h2;exact z4u (k6h hf) e2
 obtain ⟨a3,len3,cap3,e3⟩:=okWide_slice Tryz.underlying22 (hval 3 22 v3 rfl rfl)
 have k3:=h3
 have lt3:∀ x∈p3,x.block<W.heap.size:=by obtain ⟨m,hm⟩:=k3;exact DataW.trod_lt m _ _ _ hm
 obtain ⟨C3,hC3,hCl3⟩:∃ C,IAt (q3p W) v3 C∧C.length<2 ^ 63:=by obtain ⟨fuel,hf⟩:=h3;exact z4u (v5i hf) e3
 obtain ⟨a4,len4,cap4,e4⟩:=okWide_slice Tryz.underlying69 (hval 4 69 v4 rfl rfl)
 have k4:=h4
 have lt4:∀ x∈p4,x.block<W.heap.size:=by obtain ⟨m,hm⟩:=k4;exact DataW.trod_lt m _ _ _ hm
 obtain ⟨L4,hA4⟩:∃ L,q6o (q3p W) v4 L:=by obtain ⟨fuel,hf⟩:=h4;exact k5o (w3b hf) e4
 have k5:=h5
 have lt5:∀ x∈p5,x.block<W.heap.size:=by obtain ⟨m,hm⟩:=k5;exact DataW.trod_lt m _ _ _ hm
 have hU5:=w0y h5
 obtain ⟨T,fr,hT⟩:=j6n hL
 clear hA0 hval0
 have hcall:Calls Tryz.prog 10 #[V0.val C0,M1.val,v2,v3,v4,v5] W fun e W'=>e=.returned (.bool true)∧Below W.heap.size W W':=by
  refine ((w1d hV0 hC2 hC3 hA4 hU5 (T:=T) (fr:=fr) hT).2 W (j4w W)).mono fun e W' hR=>?_
  obtain ⟨m',h1,rfl,h2⟩:=hR
  exact ⟨rfl,w1x (h1.forget h2)⟩
 refine hcall.mono fun e W' ⟨he,bel⟩=>?_
 subst he
 exact ⟨_,rfl,_,_,_,[],_,[],hW',trodAll_mk1 (shut_bool Tryz.underlying4 _),(trodAll_cons_mk (Below.trod q9h (by kernel_rfl) (of_decide_eq_true (by kernel_rfl)) k0 bel lt0) (trodAll_cons_mk (Below.trod q9h (by kernel_rfl) (of_decide_eq_true (by kernel_rfl)) k1 bel lt1) (trodAll_cons_mk (Below.trod q9h (by kernel_rfl) (of_decide_eq_true (by kernel_rfl)) k2 bel lt2) (trodAll_cons_mk (Below.trod q9h (by kernel_rfl) (of_decide_eq_true (by kernel_rfl)) k3 bel lt3) (trodAll_cons_mk (Below.trod q9h (by kernel_rfl) (of_decide_eq_true (by kernel_rfl)) k4 bel lt4) (trodAll_cons_mk (Below.trod q9h (by kernel_rfl) (of_decide_eq_true (by kernel_rfl)) k5 bel lt5) trodAll_mk0)))))),rfl,bel.frame _,fun h=>by cases h⟩
theorem w3l:(Rows.simPlaysRow.inPlace==Tryz.prog.inPlace 10)=true:=by kernel_rfl
theorem v7s:(Rows.simPlaysRow.unfollowed==Tryz.prog.unfollowed 10)=true:=by kernel_rfl
theorem k6r:(Rows.simPlaysRow.recurses==Tryz.prog.recurses 10)=true:=by kernel_rfl
theorem j9l:(Rows.simPlaysRow.named==Tryz.prog.varsNamed 10)=true:=by kernel_rfl
theorem j9k:joinedFacts Tryz.prog 10 Tryz.f10 Rows.simPlaysSpec Rows.simPlaysRow=true:=by
 simp only [joinedFacts,q9h,k2i,v9y,j6d,j5q,k9v,w3l,v7s,k6r,j9l,Bool.and_true]
 kernel_rfl
theorem simPlays_holds:Rows.SimPlaysSaid :=
 OpenClaim.holds_of_wide 10 Tryz.f10 rfl rfl rfl rfl rfl rfl rfl ⟨rfl,rfl,rfl,rfl,rfl⟩ rfl rfl rfl rfl rfl (by kernel_rfl) Tryz.func10 j9k
  (of_decide_eq_true (by kernel_rfl)) (by unfold Func.isWrapper;rw [if_neg (of_decide_eq_false (by kernel_rfl))];exact ⟨rfl,rfl⟩)
  (fun os started H enc _=>k1u os started H enc)
end Go.Proofs.YtleofbpepfmfgaaGreatDoor
