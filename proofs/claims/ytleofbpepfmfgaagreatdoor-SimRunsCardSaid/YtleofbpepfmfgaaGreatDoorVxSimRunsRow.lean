import Derived.Test.YtleofbpepfmfgaaGreatDoorRows
import Derived.Test.YtleofbpepfmfgaaGreatDoorVxEvRun
import Derived.Test.YtleofbpepfmfgaaGreatDoorVxOpen64
import Derived.WalkKit
import Derived.ProofKit
import Derived.LaidMore
import Derived.OpenShut
import Derived.Stop.Joined
import Derived.Below
import Derived.ChangeOld
import Derived.SizedLaws
import Derived.Carry
import Derived.JoinedOf
import Derived.Test.YtleofbpepfmfgaaGreatDoorTie
import Derived.Test.YtleofbpepfmfgaaGreatDoorCards
import Derived.SevenTiedAt
import Derived.Test.YtleofbpepfmfgaaGreatDoorVxTogether
import Derived.WideShapes
import Derived.Test.YtleofbpepfmfgaaGreatDoorVxWrd
import Derived.Test.YtleofbpepfmfgaaGreatDoorVxSimRunsAll
set_option linter.unusedSimpArgs false
set_option linter.unusedVariables false
set_option maxRecDepth 100000
namespace Go.Proofs.YtleofbpepfmfgaaGreatDoor
open Go.ChangeShapes Go.WideShapes Go.ChangeAt Go.RowKit
open Go Go.Vx

theorem own:ownKnob Tryz.prog.godebug=none:=by kernel_rfl
theorem gForms : Tryz.prog.globalNamed "bireme/code.forms" = some 0 := by kernel_rfl
def laid1 : List (String × DataW Unit) := [("bireme/code.forms", Rows.laid_bireme_code_forms)]
theorem door_met (os:Os) (args:Array Value):laidMetH Tryz.prog laid1 ((World.doorLaid Tryz.prog 400 os).forCall (fun _ _=>0) ⟨#[],args,[]⟩).memory :=
 laidMetH_of_parts3 (fuel:=8) (laidMet_of_run' 8 (by kernel_rfl) (by kernel_rfl)) (by kernel_rfl) (by kernel_rfl)
theorem plainForms:((Tryz.prog.globals[0]?).map (·.type)).map (okPlain Tryz.prog 4)=some true:=by kernel_rfl
theorem cellsForms:cellsD (H:=Unit) Rows.laid_bireme_code_forms=cells0:=by kernel_rfl
theorem of_laid {W:World} (h:laidMetH Tryz.prog laid1 W):∃ T fr,W.heap[0]? = some (.cells ⟨cells0⟩ T fr):=by
 rw [MakeChecks.laidMetH_plain _ _ _ (by kernel_rfl)] at h
 obtain ⟨ps,⟨g0,t0,cs0,f0,p0,q0,hg0,ht0,hv0,hd0,_,_⟩,_,_⟩:=h
 obtain rfl:=Option.some.inj (gForms.symm.trans hg0)
 have hp:=plainForms
 rw [ht0] at hp
 have hc:=trod_cells 4 t0 f0 cs0.toList _ p0 (Option.some.inj hp) hd0
 rw [cellsForms] at hc
 unfold World.var? at hv0
 rw [hg0] at hv0
 simp only [Option.bind_some] at hv0
 split at hv0<;>try (cases hv0;done)
 rename_i cs T fr hh
 cases hv0
 exact ⟨T,fr,by rw [hh];congr 2;exact Array.ext' hc⟩
theorem step_below {m:Mem} {W W':World} (hs:Sub m W) (h:Step m W m W'):Below W.heap.size W W' :=
 ⟨h.os,h.tape,h.out,h.size,fun k hk=>by
  cases hm:m k with
  | none=>exact (h.keep k hk hm).2
  | some o=>rw [h.sub k o hm,hs k o hm]⟩
theorem step_below' {W W':World} (h:Step (fun b=>W.heap[b]?) W (fun b=>W.heap[b]?) W'):Below W.heap.size W W':=step_below (fun _ _ h=>h) h
theorem laidOut:laidOutB Tryz.prog=true:=by kernel_rfl
theorem jk_maps:mapsRowed Tryz.prog=true:=by kernel_rfl
theorem jk_heard:Tryz.prog.stopsHeard=true:=by kernel_rfl
theorem jk_enter:Tryz.prog.mayEnter=true:=by kernel_rfl
theorem jk_lifts:Tryz.prog.liftsFinal=false:=by kernel_rfl
theorem jk_plain:Tryz.prog.plainKeys=true:=by kernel_rfl
end Go.Proofs.YtleofbpepfmfgaaGreatDoor
set_option maxRecDepth 100000
namespace Go.Proofs.YtleofbpepfmfgaaGreatDoor
open Go
def mainSha : Bool × String := (true, "df85d65f2da84bc1e3710418a0942af33b3a71b46afada8500d8c4d100323101")
theorem jk_main:Tryz.pinned.checked.prog.mainIs=some (mainSha.1,mainSha.2.toList):=by kernel_rfl
theorem jk_looks:true=Tryz.prog.looks []:=by kernel_rfl
theorem jk_stand:([3,4,22,25,26,28,29,57,60,69].all fun u=>!Tryz.prog.wantsStandIn u)=true:=by kernel_rfl
theorem no_stand {t:TypeId} (h:t∈[3,4,22,25,26,28,29,57,60,69]):Tryz.prog.wantsStandIn t=false:=by simpa using List.all_eq_true.1 jk_stand t h
end Go.Proofs.YtleofbpepfmfgaaGreatDoor
set_option maxRecDepth 100000
namespace Go.Proofs.YtleofbpepfmfgaaGreatDoor
open Go Go.Vx
def AllI (cs:List Value):Prop:=∀ v∈cs,∃ z:Int,v=i z∧-9223372036854775808≤z∧z≤9223372036854775807
def okFs (P:Program) (ok:TypeId→Bool) (total:Nat):Nat→List Field→Bool
 | o,[]=>Nat.beq o total
 | o,f :: fs=>Nat.beq f.offset o&&ok f.type&&okFs P ok total (o+P.cellsOf f.type) fs
def okInts (P:Program):Nat→TypeId→Bool
 | 0,_=>false
 | n+1,t=>match P.underlying t with
  | some (.int k)=>kbeq k .i64
  | some (.struct fs)=>okFs P (okInts P n) (P.cellsOf t) 0 fs.toList
  | some (.array m e)=>okInts P n e&&Nat.beq (P.cellsOf t) (m * P.cellsOf e)
  | _=>false
theorem AllI.take_drop {cs:List Value} {k:Nat} (h1:AllI (cs.take k)) (h2:AllI (cs.drop k)):AllI cs:=fun v hv=>by
 rw [← List.take_append_drop k cs] at hv
 rcases List.mem_append.1 hv with h | h
 ·exact h1 v h
 ·exact h2 v h
theorem allI_fields {P:Program} {ok:TypeId→Bool} {total:Nat} {cs:List Value} (hlen:cs.length=total) :
  ∀ (fs:List Field) (o:Nat),okFs P ok total o fs=true→(∀ f∈fs,ok f.type=true→AllI ((cs.drop f.offset).take (P.cellsOf f.type)))→AllI (cs.drop o):=by
 intro fs
 induction fs with
 | nil =>
  intro o h _
  simp only [okFs] at h
  have:=beq_ff h
  rw [List.drop_eq_nil_iff.2 (by omega)]
  intro v hv;cases hv
 | cons f fs ih =>
  intro o h hf
  simp only [okFs,Bool.and_eq_true] at h
  obtain ⟨⟨h1,h2⟩,h3⟩:=h
  obtain rfl:=beq_ff h1
  refine AllI.take_drop (hf f (by simp) h2) ?_
  rw [List.drop_drop]
  exact ih _ h3 fun g hg=>hf g (by simp [hg])
theorem allI_array {k:Nat} {cs:List Value}:∀ (n s:Nat),cs.length=(s+n) * k→(∀ j,s≤j→j<s+n→AllI ((cs.drop (j * k)).take k))→AllI (cs.drop (s * k)):=by
 intro n
 induction n with
 | zero =>
  intro s hl _
  rw [List.drop_eq_nil_iff.2 (by simp at hl;omega)]
  intro v hv;cases hv
 | succ n ih =>
  intro s hl h
  refine AllI.take_drop (h s (Nat.le_refl _) (by omega)) ?_
  rw [List.drop_drop]
  have:=ih (s+1) (by rw [hl];congr 1;omega) fun j h1 h2=>h j (by omega) (by omega)
  rw [Nat.add_mul,Nat.one_mul] at this
  exact this
variable {H:Type} {enc:TypeId×Value→H} {w:World} {base:Nat} {spare:Nat→Bool} {held:Bool}
theorem kbeq_i64 {k:IntKind} (h:kbeq k .i64=true):k=.i64:=by cases k<;>first | rfl | cases h
theorem trod_ints:∀ (n:Nat) (t:TypeId) (F:Nat) (cs:List Value) (x:DataW H×List MemPlace),okInts Tryz.prog n t=true→DataW.trod enc Tryz.prog w base spare held F t cs=some x→AllI cs:=by
 intro n
 induction n with
 | zero=>intro t F cs x h;cases h
 | succ n ih =>
  intro t F cs x h hd
  unfold okInts at h
  split at h
  ·rename_i k hu
   obtain rfl:=kbeq_i64 h
   obtain ⟨z,rfl,_,hw⟩:=DataW.trod_int hu hd
   intro v hv
   rw [List.mem_singleton] at hv
   refine ⟨z,hv,?_⟩
   simp [Lit.wf] at hw
   first | exact hw | (rw [show IntKind.i64.min=-9223372036854775808 from rfl,show IntKind.i64.max=9223372036854775807 from rfl] at hw;exact hw)
  ·rename_i fs hu
   obtain ⟨xs,m,rfl,_,hlen,hxs,hf⟩:=DataW.trod_struct hu hd
   have:=allI_fields hlen fs.toList 0 h fun f hfm hok=>by
    obtain ⟨j,hj,rfl⟩:=List.getElem_of_mem hfm
    have hj2:j<fs.size:=by simpa using hj
    have h1:=hf j fs[j] (by simp [hj2])
    have h2:xs[j]? = some xs[j]:=List.getElem?_eq_getElem (by omega)
    rw [h2] at h1
    exact ih _ _ _ _ (by simpa using hok) (by simpa using h1)
   simpa using this
  ·rename_i m e hu
   rw [Bool.and_eq_true] at h
   obtain ⟨xs,q,rfl,_,hlen,hxs,hf⟩:=DataW.trod_array hu hd
   have:=allI_array (cs:=cs) (k:=Tryz.prog.cellsOf e) m 0 (by rw [hlen,beq_ff h.2];congr 1;omega) fun j _ hj=>by
    have h1:=hf j (by omega)
    have h2:xs[j]? = some xs[j]:=List.getElem?_eq_getElem (by omega)
    rw [h2] at h1
    exact ih _ _ _ _ h.1 h1
   simpa using this
  ·cases h
theorem open_list {α:Type} {T e k:Nat} {Q:List Value→α→Prop} {fuel:Nat} {cs:List Value} {x:DataW H×List MemPlace} (ht:Tryz.prog.underlying T=some (.slice e)) (hk:Tryz.prog.cellsOf e=k)
  (hel:∀ n ds y,DataW.trod enc Tryz.prog w base spare held n e ds=some y→ds.length=k→∃ a,Q ds a) (h:DataW.trod enc Tryz.prog w base spare held fuel T cs=some x) :
  cs=[.slice none 0 0]∨∃ (a:Addr) (len cap:Nat) (L:List α),cs=[.slice (some a) len cap]∧len≤cap∧cap≤maxLen∧L.length=len∧∀ j (hj:j<L.length),∃ ds,ds.length=k∧Q ds L[j]∧CellsAt (memOf w) (a.add (j * k)) ds:=by
 rcases DataW.trod_slice ht h with ⟨h0,_⟩ | ⟨a,len,cap,elems,rest,n,_,rfl,rfl,hb,hl,hm,hlen,hel2,_,_⟩
 ·exact .inl h0
 right
 obtain ⟨L,hL,hc⟩:=choose_list (Q:=fun j (b:α)=>∃ ds,ds.length=k∧Q ds b∧CellsAt (memOf w) (a.add (j * k)) ds) len fun j hj=>by
  have hj2:elems[j]? = some elems[j]:=List.getElem?_eq_getElem (by omega)
  have h1:=hel2 j hj
  rw [hj2,hk,Option.bind_eq_some_iff] at h1
  obtain ⟨ds,h2,h3⟩:=h1
  obtain ⟨_,hl2,h5⟩:=World.cells?_some h2
  obtain ⟨b,hb2⟩:=hel n ds _ h3 hl2
  refine ⟨b,ds,hl2,hb2,fun q v hq=>?_⟩
  have hql:=(List.getElem?_eq_some_iff.1 hq).1
  have:=h5 q (by omega)
  rw [hq] at this
  exact cellAt_of this
 exact ⟨a,len,cap,L,rfl,hl,hm,hL,hc⟩
theorem ints7 {cs:List Value} (h:AllI cs) (hl:cs.length=7):∃ o:OpR,cs=o.cells:=by
 match cs,hl with
 | [a,b,c,d,e,f,g],_ =>
  obtain ⟨a',rfl,_⟩:=h a (by simp)
  obtain ⟨b',rfl,_⟩:=h b (by simp)
  obtain ⟨c',rfl,_⟩:=h c (by simp)
  obtain ⟨d',rfl,_⟩:=h d (by simp)
  obtain ⟨e',rfl,_⟩:=h e (by simp)
  obtain ⟨f',rfl,_⟩:=h f (by simp)
  obtain ⟨g',rfl,_⟩:=h g (by simp)
  exact ⟨⟨a',b',c',d',e',f',g'⟩,rfl⟩
theorem ints11 {cs:List Value} (h:AllI cs) (hl:cs.length=11):∃ M:Mac,cs=M.cells:=by
 match cs,hl with
 | [a,b,c,d,e,f,g,p,q,r,s],_ =>
  obtain ⟨a',rfl,_⟩:=h a (by simp)
  obtain ⟨b',rfl,_⟩:=h b (by simp)
  obtain ⟨c',rfl,_⟩:=h c (by simp)
  obtain ⟨d',rfl,_⟩:=h d (by simp)
  obtain ⟨e',rfl,_⟩:=h e (by simp)
  obtain ⟨f',rfl,_⟩:=h f (by simp)
  obtain ⟨g',rfl,_⟩:=h g (by simp)
  obtain ⟨p',rfl,_⟩:=h p (by simp)
  obtain ⟨q',rfl,_⟩:=h q (by simp)
  obtain ⟨r',rfl,_⟩:=h r (by simp)
  obtain ⟨s',rfl,_⟩:=h s (by simp)
  exact ⟨⟨a',b',c',d',e',f',g',p',q',r',s'⟩,rfl⟩
theorem agg_of {v:Value} {cs:List Value} (h:v.cells.toList=cs) (hl:cs.length≠1):v=.agg ⟨cs⟩:=by
 subst h
 cases v<;>first | rfl | (exfalso;exact hl rfl)
theorem open_mac {t:TypeId} {v:Value} {d:DataW H} {ps:List MemPlace} (hok:okInts Tryz.prog 4 t=true) (hc:Tryz.prog.cellsOf t=11) (hu:∃ fs,Tryz.prog.underlying t=some (.struct fs)) (h:DataW.Trod enc Tryz.prog w base spare held t v d ps):∃ M:Mac,v=M.val:=by
 obtain ⟨fuel,hf⟩:=h
 obtain ⟨fs,hu⟩:=hu
 obtain ⟨xs,m,_,_,hlen,_,_⟩:=DataW.trod_struct hu hf
 obtain ⟨M,hM⟩:=ints11 (trod_ints 4 t _ _ _ hok hf) (by rw [hlen,hc])
 exact ⟨M,by rw [agg_of hM (by simp [Mac.cells])];rfl⟩
theorem open_ops {T e fuel:Nat} {cs:List Value} {x:DataW H×List MemPlace} (ht:Tryz.prog.underlying T=some (.slice e)) (hk:Tryz.prog.cellsOf e=7) (hok:okInts Tryz.prog 4 e=true) (h:DataW.trod enc Tryz.prog w base spare held fuel T cs=some x) :
  cs=[.slice none 0 0]∨∃ (a:Addr) (len cap:Nat) (L:List OpR),cs=[.slice (some a) len cap]∧len≤cap∧cap≤maxLen∧L.length=len∧CellsAt (memOf w) a (ocs L):=by
 rcases open_list (Q:=fun ds (o:OpR)=>ds=o.cells) ht hk (fun n ds y hd hl=>ints7 (trod_ints 4 e _ _ _ hok hd) hl) h with h0 | ⟨a,len,cap,L,rfl,h1,h2,h3,h4⟩
 ·exact .inl h0
 right
 refine ⟨a,len,cap,L,rfl,h1,h2,h3,fun q v hq=>?_⟩
 have hql:=(List.getElem?_eq_some_iff.1 hq).1
 rw [ocs_len] at hql
 have hk2:q / 7<L.length:=by omega
 have hj:q % 7<7:=by omega
 have e1:q / 7 * 7+q % 7=q:=by omega
 rw [← e1,ocs_get hk2 hj] at hq
 obtain ⟨ds,_,rfl,g⟩:=h4 (q / 7) hk2
 have:=g (q % 7) v hq
 rw [add_add,e1] at this
 exact this
theorem oat_of {v:Value} (h:v.cells.toList=[.slice none 0 0]∨∃ (a:Addr) (len cap:Nat) (L:List OpR),v.cells.toList=[.slice (some a) len cap]∧len≤cap∧cap≤maxLen∧L.length=len∧CellsAt (memOf w) a (ocs L)) {A:Option Addr} {n c:Nat} (hv:v=.slice A n c):∃ O,OAt (memOf w) v O∧O.length<2 ^ 63:=by
 subst hv
 rcases h with h | ⟨a,len,cap,L,h,hl,hm,hE,hc⟩
 ·simp [Value.cells] at h
  obtain ⟨rfl,rfl,rfl⟩:=h
  exact ⟨[],⟨none,0,rfl,fun _=>rfl,(fun ad h=>by cases h),Nat.le_refl _⟩,by decide⟩
 ·simp [Value.cells] at h
  obtain ⟨rfl,rfl,rfl⟩:=h
  subst hE
  exact ⟨L,⟨some a,_,rfl,(fun h=>by cases h),(fun ad h=>by cases h;exact hc),hl⟩,by unfold maxLen at hm;omega⟩
end Go.Proofs.YtleofbpepfmfgaaGreatDoor
set_option maxRecDepth 100000
namespace Go.Proofs.YtleofbpepfmfgaaGreatDoor
open Go Go.Vx
variable {H:Type} {enc:TypeId×Value→H} {w:World} {base:Nat} {spare:Nat→Bool} {held:Bool}
theorem open_i1 {fuel:Nat} {cs:List Value} {x:DataW H×List MemPlace} (h:DataW.trod enc Tryz.prog w base spare held fuel 3 cs=some x):∃ z:Int,cs=[i z]:=by
 obtain ⟨z,e,_⟩:=DataW.trod_int Tryz.underlying3 h
 exact ⟨z,e⟩
theorem open_isl {fuel:Nat} {cs:List Value} {x:DataW H×List MemPlace} (h:DataW.trod enc Tryz.prog w base spare held fuel 22 cs=some x):∃ a n c C,cs=[.slice a n c]∧IAt (memOf w) (.slice a n c) C∧C.length<2 ^ 63:=by
 rcases open_is h with rfl | ⟨a,len,cap,C,rfl,h1,h2,h3,h4⟩
 ·obtain ⟨C,hC,hl⟩:=iat_of (w:=w) (v:=.slice none 0 0) (.inl rfl) rfl
  exact ⟨none,0,0,C,rfl,hC,hl⟩
 ·obtain ⟨C',hC,hl⟩:=iat_of (w:=w) (v:=.slice (some a) len cap) (.inr ⟨a,len,cap,C,rfl,h1,h2,h3,h4⟩) rfl
  exact ⟨_,_,_,C',rfl,hC,hl⟩
theorem open_osl {fuel:Nat} {cs:List Value} {x:DataW H×List MemPlace} (h:DataW.trod enc Tryz.prog w base spare held fuel 101 cs=some x):∃ a n c O,cs=[.slice a n c]∧OAt (memOf w) (.slice a n c) O:=by
 rcases open_ops Tryz.underlying101 (by kernel_rfl) (by kernel_rfl) h with rfl | ⟨a,len,cap,L,rfl,h1,h2,h3,h4⟩
 ·obtain ⟨O,hO,_⟩:=oat_of (w:=w) (v:=.slice none 0 0) (.inl rfl) rfl
  exact ⟨none,0,0,O,rfl,hO⟩
 ·obtain ⟨O,hO,_⟩:=oat_of (w:=w) (v:=.slice (some a) len cap) (.inr ⟨a,len,cap,L,rfl,h1,h2,h3,h4⟩) rfl
  exact ⟨_,_,_,O,rfl,hO⟩
def wordQ (w:World) (ds:List Value) (r:WordR):Prop:=∃ a n c,ds=[.slice a n c,i r.ct]∧OAt (memOf w) (.slice a n c) r.ops
theorem open_word {fuel:Nat} {cs:List Value} {x:DataW H×List MemPlace} (h:DataW.trod enc Tryz.prog w base spare held fuel 103 cs=some x):∃ r:WordR,wordQ w cs r:=by
 obtain ⟨xs,n,rfl,_,hlen,hxs,hf⟩:=DataW.trod_struct Tryz.underlying103 h
 have hl:cs.length=2:=by rw [hlen];kernel_rfl
 have hxs:xs.length=2:=hxs
 have f0:=hf 0 _ rfl
 have f1:=hf 1 _ rfl
 rw [List.getElem?_eq_getElem (by omega)] at f0 f1
 match cs,hl with
 | [v0,v1],_ =>
  have f0:DataW.trod enc Tryz.prog w base spare held n 101 (List.take (Tryz.prog.cellsOf 101) [v0,v1])=some _:=f0
  have f1:DataW.trod enc Tryz.prog w base spare held n 3 (List.take (Tryz.prog.cellsOf 3) [v1])=some _:=f1
  rw [show Tryz.prog.cellsOf 101=1 by kernel_rfl] at f0
  rw [show Tryz.prog.cellsOf 3=1 by kernel_rfl] at f1
  obtain ⟨a,n',c,O,e0,hO⟩:=open_osl f0
  obtain ⟨z,e1⟩:=open_i1 f1
  injection e0 with e0 _
  injection e1 with e1 _
  exact ⟨⟨O,z⟩,a,n',c,by rw [e0,e1],hO⟩
theorem open_code {v:Value} {d:DataW H} {ps:List MemPlace} (h:DataW.Trod enc Tryz.prog w base spare held 25 v d ps):∃ V C,v=CV.val V C∧CodeAt (memOf w) V C:=by
 obtain ⟨fuel,hf0⟩:=h
 obtain ⟨xs,n,rfl,_,hlen,hxs,hf⟩:=DataW.trod_struct Tryz.underlying25 hf0
 have hl:v.cells.toList.length=6:=by rw [hlen];kernel_rfl
 have hxs:xs.length=6:=hxs
 have f0:=hf 0 _ rfl
 have f1:=hf 1 _ rfl
 have f2:=hf 2 _ rfl
 have f3:=hf 3 _ rfl
 have f4:=hf 4 _ rfl
 have f5:=hf 5 _ rfl
 rw [List.getElem?_eq_getElem (by omega)] at f0 f1 f2 f3 f4 f5
 generalize hcs:v.cells.toList=cs at *
 match cs,hl with
 | [v0,v1,v2,v3,v4,v5],_ =>
  have f0:DataW.trod enc Tryz.prog w base spare held n 22 (List.take (Tryz.prog.cellsOf 22) [v0,v1,v2,v3,v4,v5])=some _:=f0
  have f1:DataW.trod enc Tryz.prog w base spare held n 3 (List.take (Tryz.prog.cellsOf 3) [v1,v2,v3,v4,v5])=some _:=f1
  have f2:DataW.trod enc Tryz.prog w base spare held n 3 (List.take (Tryz.prog.cellsOf 3) [v2,v3,v4,v5])=some _:=f2
  have f3:DataW.trod enc Tryz.prog w base spare held n 3 (List.take (Tryz.prog.cellsOf 3) [v3,v4,v5])=some _:=f3
  have f4:DataW.trod enc Tryz.prog w base spare held n 3 (List.take (Tryz.prog.cellsOf 3) [v4,v5])=some _:=f4
  have f5:DataW.trod enc Tryz.prog w base spare held n 23 (List.take (Tryz.prog.cellsOf 23) [v5])=some _:=f5
  rw [show Tryz.prog.cellsOf 22=1 by kernel_rfl] at f0
  rw [show Tryz.prog.cellsOf 3=1 by kernel_rfl] at f1 f2 f3 f4
  rw [show Tryz.prog.cellsOf 23=1 by kernel_rfl] at f5
  obtain ⟨a1,n1,c1,sz,e0,hsz,hszl⟩:=open_isl f0
  obtain ⟨z1,e1⟩:=open_i1 f1
  obtain ⟨z2,e2⟩:=open_i1 f2
  obtain ⟨z3,e3⟩:=open_i1 f3
  obtain ⟨z4,e4⟩:=open_i1 f4
  injection e0 with e0 _
  injection e1 with e1 _
  injection e2 with e2 _
  injection e3 with e3 _
  injection e4 with e4 _
  have hw:=open_list (Q:=wordQ w) Tryz.underlying23 (show Tryz.prog.cellsOf 103=2 by kernel_rfl) (fun n ds y hd _=>open_word hd) f5
  rcases hw with e5 | ⟨a,len,cap,L,e5,g1,g2,g3,g4⟩
  ·injection e5 with e5 _
   refine ⟨⟨a1,n1,c1,none,0,0⟩,⟨sz,z1,z2,z3,z4,[]⟩,?_,hsz,⟨none,0,rfl,fun _=>rfl,(fun ad h=>by cases h),Nat.le_refl _⟩,hszl,show (0:Nat)<2 ^ 63 by decide⟩
   rw [agg_of hcs (by simp),e0,e1,e2,e3,e4,e5];rfl
  ·injection e5 with e5 _
   subst g3
   refine ⟨⟨a1,n1,c1,some a,L.length,cap⟩,⟨sz,z1,z2,z3,z4,L⟩,?_,hsz,⟨some a,cap,rfl,(fun h=>by cases h),fun ad h k hk=>?_,g1⟩,hszl,by show L.length<_;unfold maxLen at g2;omega⟩
   ·rw [agg_of hcs (by simp),e0,e1,e2,e3,e4,e5];rfl
   ·cases h
    obtain ⟨ds,_,⟨a3,n3,c3,rfl,hO⟩,hc⟩:=g4 k hk
    exact ⟨a3,n3,c3,hc,hO⟩
end Go.Proofs.YtleofbpepfmfgaaGreatDoor
set_option maxRecDepth 100000
namespace Go.Proofs.YtleofbpepfmfgaaGreatDoor
open Go.ChangeShapes Go.WideShapes Go.ChangeAt Go.RowKit
open Go Go.Vx
theorem simRuns_lifted (os:Os) (started:os.Started) (H:Type) (enc:TypeId×Value→H) :
  ReturnsInHanded {} Tryz.checked os 3 .any (fun w args=>(Rows.simRunsSpec.pre enc Tryz.prog Tryz.f3 [] false w args∧laidMetH Tryz.prog laid1 w)∧sizedMet enc Tryz.prog Tryz.f3 (OpenSpec.ofChange Rows.simRunsSpec) false w args)
   (Rows.simRunsSpec.post enc Tryz.prog Tryz.f3 false true false false):=by
 refine returnsInHanded_of_change_and (C:=Tryz.checked) (X:=fun w _=>laidMetH Tryz.prog laid1 w) (fun _ _ _ hh h=>h.of_heap hh) own started (by kernel_rfl) Tryz.func3
  (ChangeSpec.witness_shaped (enc:=enc) (C:=Tryz.checked) (os:=os) (X:=fun w _=>laidMetH Tryz.prog laid1 w) false (World.doorLaid Tryz.prog 400 os) #[.agg #[.slice none 0 0,.int .i64 0,.int .i64 0,.int .i64 0,.int .i64 0,.slice none 0 0],.agg #[.int .i64 0,.int .i64 0,.int .i64 0,.int .i64 0,.int .i64 0,.int .i64 0,.int .i64 0,.int .i64 0,.int .i64 0,.int .i64 0,.int .i64 0],.slice none 0 0,.int .i64 0,.slice none 0 0] 8 rfl (World.shaped_of_RefB (by kernel_rfl) (by kernel_rfl)) (by kernel_rfl) (by kernel_rfl) (by kernel_rfl) (door_met os _)) ?_
 intro W base args ds gs before hval0 hW _ _ hL _
 have hval:∀ (j:Nat) t v,Tryz.f3.params[j]? = some t→args[j]? = some v→Value.okWide Tryz.prog W .any base t v:=hval0
 have hW':=hW
 obtain ⟨p,q,hA0,hV,rfl,hfz,hnd⟩:=hW
 have hA:DataW.TrodAll enc Tryz.prog W 0 (fun _=>true) true Tryz.f3.params.toList args.toList ds p:=hA0
 rw [Tryz.params3] at hA hval
 obtain ⟨v0,vs0,d0,ds0,p0,q0,hargs,rfl,rfl,h0,r0⟩:=trodAll_cons hA
 obtain ⟨v1,vs1,d1,ds1,p1,q1,rfl,rfl,rfl,h1,r1⟩:=trodAll_cons r0
 obtain ⟨v2,vs2,d2,ds2,p2,q2,rfl,rfl,rfl,h2,r2⟩:=trodAll_cons r1
 obtain ⟨v3,vs3,d3,ds3,p3,q3,rfl,rfl,rfl,h3,r3⟩:=trodAll_cons r2
 obtain ⟨v4,vs4,d4,ds4,p4,q4,rfl,rfl,rfl,h4,r4⟩:=trodAll_cons r3
 obtain ⟨rfl,rfl,rfl⟩:=trodAll_nil r4
 obtain rfl:args=#[v0,v1,v2,v3,v4]:=by cases args;simp_all
 obtain ⟨rfl,rfl⟩:=trodVars_none hV
 have k0:=h0
 have lt0:∀ x∈p0,x.block<W.heap.size:=by obtain ⟨m,hm⟩:=k0;exact DataW.trod_lt m _ _ _ hm
 obtain ⟨V0,C0,rfl,hV0⟩:=open_code h0
 have k1:=h1
 have lt1:∀ x∈p1,x.block<W.heap.size:=by obtain ⟨m,hm⟩:=k1;exact DataW.trod_lt m _ _ _ hm
 obtain ⟨M1,rfl⟩:=open_mac (by kernel_rfl) (by kernel_rfl) ⟨_,Tryz.underlying28⟩ h1
 obtain ⟨a2,len2,cap2,e2⟩:=okWide_slice Tryz.underlying29 (hval 2 29 v2 rfl rfl)
 have k2:=h2
 have lt2:∀ x∈p2,x.block<W.heap.size:=by obtain ⟨m,hm⟩:=k2;exact DataW.trod_lt m _ _ _ hm
 obtain ⟨C2,hC2,hCl2⟩:∃ C,IAt (memOf W) v2 C∧C.length<2 ^ 63:=by obtain ⟨fuel,hf⟩:=h2;exact iat_of (open_is64 hf) e2
 obtain ⟨n3,rfl,rfl,rfl,w3⟩:=open_int Tryz.underlying3 (hval 3 3 v3 rfl rfl) h3
 obtain ⟨a4,len4,cap4,e4⟩:=okWide_slice Tryz.underlying22 (hval 4 22 v4 rfl rfl)
 have k4:=h4
 have lt4:∀ x∈p4,x.block<W.heap.size:=by obtain ⟨m,hm⟩:=k4;exact DataW.trod_lt m _ _ _ hm
 obtain ⟨C4,hC4,hCl4⟩:∃ C,IAt (memOf W) v4 C∧C.length<2 ^ 63:=by obtain ⟨fuel,hf⟩:=h4;exact iat_of (open_is hf) e4
 obtain ⟨T,fr,hT⟩:=of_laid hL
 clear hA0 hval0
 have hcall:Calls Tryz.prog 3 #[V0.val C0,M1.val,v2,i n3,v4] W fun e W'=>e=.returned (.bool true)∧Below W.heap.size W W':=by
  refine ((simRuns_ok hV0 hC2 hC4 (T:=T) (fr:=fr) hT).2 W (memOf_sub W)).mono fun e W' hR=>?_
  obtain ⟨m',h1,rfl,h2⟩:=hR
  exact ⟨rfl,step_below' (h1.forget h2)⟩
 refine hcall.mono fun e W' ⟨he,bel⟩=>?_
 subst he
 exact ⟨_,rfl,_,_,_,[],_,[],hW',trodAll_mk1 (shut_bool Tryz.underlying4 _),(trodAll_cons_mk (Below.trod laidOut (by kernel_rfl) (of_decide_eq_true (by kernel_rfl)) k0 bel lt0) (trodAll_cons_mk (Below.trod laidOut (by kernel_rfl) (of_decide_eq_true (by kernel_rfl)) k1 bel lt1) (trodAll_cons_mk (Below.trod laidOut (by kernel_rfl) (of_decide_eq_true (by kernel_rfl)) k2 bel lt2) (trodAll_cons_mk (shut_int Tryz.underlying3 w3) (trodAll_cons_mk (Below.trod laidOut (by kernel_rfl) (of_decide_eq_true (by kernel_rfl)) k4 bel lt4) trodAll_mk0))))),rfl,bel.frame _,fun h=>by cases h⟩
theorem simRuns_place:(Rows.simRunsRow.inPlace==Tryz.prog.inPlace 3)=true:=by kernel_rfl
theorem simRuns_unf:(Rows.simRunsRow.unfollowed==Tryz.prog.unfollowed 3)=true:=by kernel_rfl
theorem simRuns_rec:(Rows.simRunsRow.recurses==Tryz.prog.recurses 3)=true:=by kernel_rfl
theorem simRuns_named:(Rows.simRunsRow.named==Tryz.prog.varsNamed 3)=true:=by kernel_rfl
theorem simRuns_facts:joinedFacts Tryz.prog 3 Tryz.f3 Rows.simRunsSpec Rows.simRunsRow=true:=by
 simp only [joinedFacts,laidOut,jk_maps,jk_heard,jk_enter,jk_lifts,jk_plain,simRuns_place,simRuns_unf,simRuns_rec,simRuns_named,Bool.and_true]
 kernel_rfl
theorem simRuns_holds:Rows.SimRunsSaid :=
 OpenClaim.holds_of_wide 3 Tryz.f3 rfl rfl rfl rfl rfl rfl rfl ⟨rfl,rfl,rfl,rfl,rfl⟩ rfl rfl rfl rfl rfl (by kernel_rfl) Tryz.func3 simRuns_facts
  (of_decide_eq_true (by kernel_rfl)) (by unfold Func.isWrapper;rw [if_neg (of_decide_eq_false (by kernel_rfl))];exact ⟨rfl,rfl⟩)
  (fun os started H enc _=>simRuns_lifted os started H enc)
end Go.Proofs.YtleofbpepfmfgaaGreatDoor
