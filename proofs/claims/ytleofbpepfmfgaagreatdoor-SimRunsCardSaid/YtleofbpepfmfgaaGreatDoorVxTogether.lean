import Derived.Test.YtleofbpepfmfgaaGreatDoorVxUseM
set_option linter.unusedSimpArgs false
set_option linter.unusedVariables false
set_option maxRecDepth 100000
namespace Go.Proofs.YtleofbpepfmfgaaGreatDoor
open Go Go.Vx
open Go.Vx.IOp Go.Vx.IR Go.Vx.Opd
def maxS (C:List Int):Int:=C.foldl max (C.headD 0)
theorem max_ok {m:Mem} {v:Value} {C:List Int} (hv:IAt m v C) (hlen:C.length<2 ^ 63) (hne:0<C.length):PureM Tryz.prog 105 [v] m (i (maxS C)):=by
 obtain ⟨a,c,rfl,h0,h1,hcap⟩:=hv
 obtain ⟨ad,rfl⟩:∃ ad,a=some ad:=by
  cases a with
  | none=>rw [h0 rfl] at hne;simp at hne
  | some ad=>exact ⟨ad,rfl⟩
 have hhead:C.headD 0=C[0]:=by cases C with | nil=>simp at hne | cons x xs=>rfl
 refine calls_of mixed Tryz.func105 ok_slices_Max_int_int rfl ?_
 refine Br.mk (fun hb=>?_) (fun hb=>?_)
 ·exfalso
  have:(C.length:Int)<1:=of_decide_eq_true hb
  omega
 refine WIdx.mk ad rfl ⟨by omega,by omega⟩ ?_
 refine WLd.mk (i C[0]) (by simpa using IAt.cell (h1 ad rfl) hne) ?_
 refine WLoop.mk Nat (fun k=>[(4,.val (i k)),(3,.val (i ((C.take k).foldl max C[0])))]) (fun k m'=>m=m'∧1≤k∧k≤C.length) (fun k=>C.length - k) 1 ⟨rfl,by
   have:(C.take 1).foldl max C[0]=C[0]:=by
    cases C with
    | nil=>simp at hne
    | cons x xs=>simp
   rw [this];rfl,trivial⟩ ⟨rfl,Nat.le_refl _,hne⟩ ?_
 rintro k m' ⟨rfl,hk1,hk⟩
 refine Br.mk (fun hb2=>?_) (fun hb2=>?_)
 ·have hk2:k<C.length:=by
   have:(k:Int)<C.length:=of_decide_eq_true hb2
   omega
  refine WIdx.mk ad rfl ⟨by omega,by simpa using hk2⟩ ?_
  refine WLd.mk (i C[k]) (by simpa using IAt.cell (h1 ad rfl) hk2) ?_
  refine WRng.mk (by apply wrap_i64<;>omega) ?_
  conv=>whnf
  refine ⟨k+1,⟨rfl,?_,trivial⟩,⟨rfl,by omega,hk2⟩,by omega⟩
  have e:(C.take (k+1)).foldl max C[0]=max ((C.take k).foldl max C[0]) C[k]:=fold_succ hk2
  rw [e,← max_if]
  rfl
 ·have hk2:k=C.length:=by
   have:¬ (k:Int)<C.length:=of_decide_eq_false hb2
   omega
  subst hk2
  refine WRet.same ⟨?_,rfl⟩
  rw [List.take_length]
  unfold maxS;rw [hhead];rfl
theorem maxS_le {C:List Int} {p:Int} (hne:0<C.length):decide (maxS C≤p)=C.all fun x=>decide (x≤p):=by
 have key:∀ (L:List Int) (a:Int),(L.foldl max a≤p)↔a≤p∧∀ x∈L,x≤p:=by
  intro L
  induction L with
  | nil=>intro a;simp
  | cons x L ih=>intro a;simp only [List.foldl_cons,ih,List.mem_cons,forall_eq_or_imp,Int.max_le];exact and_assoc
 rw [Bool.eq_iff_iff,decide_eq_true_eq,List.all_eq_true]
 unfold maxS
 rw [key]
 constructor
 ·rintro ⟨_,h⟩ x hx;exact decide_eq_true (h x hx)
 ·intro h
  have h2:∀ x∈C,x≤p:=fun x hx=>of_decide_eq_true (h x hx)
  refine ⟨?_,h2⟩
  cases C with
  | nil=>simp at hne
  | cons x xs=>exact h2 x (by simp)
def UseR.readL (X:UseR):List Int:=[X.r0,X.r1,X.r2,X.r3,X.r4,X.r5,X.r6,X.r7]
def fitsS (X:UseR):Bool:=((decide (X.u0≤X.M.u0)&&decide (X.u1≤X.M.u1))&&(decide (X.u2≤X.M.u2)&&decide (X.u3≤X.M.u3)))&&X.readL.all fun x=>decide (x≤X.M.pt)
theorem fits_ok (m:Mem) (X:UseR):CallsM Tryz.prog 72 [X.val] m fun e m'=>e=.returned (.bool (fitsS X))∧Mem.le m m':=by
 refine calls_of mixed Tryz.func72 ok_machine_Use_Fits rfl ?_
 refine WNew.mk fun b hb=>?_
 have hle1:Mem.le m (m.set b (Cells X.cells 135)):=Mem.le_set hb
 have hcell:∀ (z:Nat) (v:Value),X.cells[z]? = some v→CellAt (m.set b (Cells X.cells 135)) ⟨b,z,none⟩ v:=fun z v h=>⟨_,_,_,Mem.set_same _ _ _,rfl,by simpa using h⟩
 have hcells:∀ (off:Nat) (vs:List Value),(∀ j v,vs[j]? = some v→X.cells[off+j]? = some v)→CellsAt (m.set b (Cells X.cells 135)) ⟨b,off,none⟩ vs:=fun off vs h=>CellsAt.blk (Mem.set_same _ _ _) h
 have hgoal:Cells (cellsL X.val) 135=Cells X.cells 135:=rfl
 rw [hgoal]
 generalize m.set b (Cells X.cells 135)=m1 at *
 refine WLds.mk [i X.u0,i X.u1,i X.u2,i X.u3] ?_ rfl ?_
 ·rw [add0]
  refine hcells 11 _ fun j v hj=>?_
  have hj4:j<4:=(List.getElem?_eq_some_iff.1 hj).1
  rw [← hj]
  have:j=0∨j=1∨j=2∨j=3:=by omega
  rcases this with rfl | rfl | rfl | rfl<;>rfl
 refine WLoop.mk Nat (fun k=>[(7,.val (i k))]) (fun k m'=>m1=m'∧k≤4∧∀ j,j<k→X.uses j≤X.M.unit j) (fun k=>4 - k) 0 ⟨rfl,trivial⟩ ⟨rfl,Nat.zero_le _,fun j hj=>by omega⟩ ?_
 rintro k m' ⟨rfl,hk,hq⟩
 refine Br.mk (fun hb2=>?_) (fun hb2=>?_)
 ·have hk4:k<4:=by
   have:(k:Int)<4:=of_decide_eq_true hb2
   omega
  have hks:k=0∨k=1∨k=2∨k=3:=by omega
  refine WBnd.mk ⟨by omega,by omega⟩ ?_
  refine WGet.mk (i (X.uses k)) (by rcases hks with rfl | rfl | rfl | rfl<;>rfl) ?_
  refine WBnd.mk ⟨by omega,by omega⟩ ?_
  refine WLd.mk (i (X.M.unit k)) ?_ ?_
  ·rw [add0,addo,addo]
   refine hcell _ _ ?_
   rcases hks with rfl | rfl | rfl | rfl<;>rfl
  refine Br.mk (fun hb3=>?_) (fun hb3=>?_)
  ·have h3:X.uses k>X.M.unit k:=of_decide_eq_true hb3
   refine WRet.same ⟨?_,hle1⟩
   have:fitsS X=false:=by
    unfold fitsS
    rcases hks with rfl | rfl | rfl | rfl
    ·rw [decide_eq_false (p:=X.u0≤X.M.u0) (by simp only [UseR.uses,Mac.unit] at h3;omega)];simp
    ·rw [decide_eq_false (p:=X.u1≤X.M.u1) (by simp only [UseR.uses,Mac.unit] at h3;omega)];simp
    ·rw [decide_eq_false (p:=X.u2≤X.M.u2) (by simp only [UseR.uses,Mac.unit] at h3;omega)];simp
    ·rw [decide_eq_false (p:=X.u3≤X.M.u3) (by simp only [UseR.uses,Mac.unit] at h3;omega)];simp
   rw [this];rfl
  ·have h3:¬ X.uses k>X.M.unit k:=of_decide_eq_false hb3
   refine WRng.mk (by apply wrap_i64<;>omega) ?_
   conv=>whnf
   refine ⟨k+1,⟨rfl,trivial⟩,⟨rfl,hk4,fun j hj=>?_⟩,by omega⟩
   by_cases e:j=k
   ·subst e;omega
   ·exact hq j (by omega)
 ·have hk4:k=4:=by
   have:¬ (k:Int)<4:=of_decide_eq_false hb2
   omega
  subst hk4
  have hR:IAt m1 (.slice (some ⟨b,15,none⟩) 8 8) X.readL:=by
   refine ⟨some ⟨b,15,none⟩,8,rfl,(fun h=>by cases h),fun ad ha=>?_,Nat.le_refl _⟩
   cases ha
   refine hcells 15 _ fun j v hj=>?_
   have hj8:j<8:=by have:=(List.getElem?_eq_some_iff.1 hj).1;simpa [UseR.readL] using this
   rw [← hj]
   have:j=0∨j=1∨j=2∨j=3∨j=4∨j=5∨j=6∨j=7:=by omega
   rcases this with rfl | rfl | rfl | rfl | rfl | rfl | rfl | rfl<;>rfl
  have q0:=hq 0 (by omega);have q1:=hq 1 (by omega);have q2:=hq 2 (by omega);have q3:=hq 3 (by omega)
  have hfit:fitsS X=decide (maxS X.readL≤X.M.pt):=by
   unfold fitsS
   rw [maxS_le (by simp [UseR.readL])]
   rw [decide_eq_true (p:=X.u0≤X.M.u0) q0,decide_eq_true (p:=X.u1≤X.M.u1) q1,decide_eq_true (p:=X.u2≤X.M.u2) q2,decide_eq_true (p:=X.u3≤X.M.u3) q3]
   rfl
  rw [hfit]
  have hadr:((⟨b,0,none⟩:Addr).add 15).add 0=⟨b,15,none⟩:=by rw [add0,addo]
  refine WLd.mk (i X.M.pt) ?_ ?_
  ·rw [add0,addo];exact hcell 10 _ rfl
  conv=>whnf
  refine ⟨?_,trivial⟩
  conv=>whnf
  rw [hadr]
  refine WCallG.mk (max_ok hR (by simp [UseR.readL]) (by simp [UseR.readL])) ?_
  rintro _ m2 ⟨rfl,rfl⟩
  refine ⟨Mem.le.refl _,?_⟩
  exact WRet.same ⟨rfl,hle1⟩
def ocs (O:List OpR):List Value:=(O.map OpR.cells).flatten
def OAt (m:Mem) (v:Value) (O:List OpR):Prop:=∃ a c,v=.slice a O.length c∧(a=none→O=[])∧(∀ ad,a=some ad→CellsAt m ad (ocs O))∧O.length≤c
theorem ocs_len (O:List OpR):(ocs O).length=O.length * 7:=by
 induction O with
 | nil=>rfl
 | cons e E ih=>simp only [ocs,List.map_cons,List.flatten_cons,List.length_append,List.length_cons] at ih ⊢;rw [ih];simp [OpR.cells];omega
theorem ocs_get {O:List OpR} {k j:Nat} (hk:k<O.length) (hj:j<7):(ocs O)[k * 7+j]? = (O[k]).cells[j]?:=by
 induction O generalizing k with
 | nil=>simp at hk
 | cons e E ih =>
  have hc:ocs (e :: E)=e.cells++ocs E:=by simp [ocs]
  have hl:e.cells.length=7:=rfl
  rw [hc]
  cases k with
  | zero=>rw [List.getElem?_append_left (by omega)];simp
  | succ k =>
   rw [List.getElem?_append_right (by omega)]
   have:(k+1) * 7+j - e.cells.length=k * 7+j:=by omega
   rw [this,ih (by simpa using hk)];simp
theorem OAt.cells {m:Mem} {ad:Addr} {O:List OpR} (h:CellsAt m ad (ocs O)) {k:Nat} (hk:k<O.length):CellsAt m (ad.add (k * 7)) (O[k]).cells:=fun j v hj=>by
 have hl:j<7:=(List.getElem?_eq_some_iff.1 hj).1
 rw [add_add]
 exact h _ _ (by rw [ocs_get hk hl];exact hj)
def badRead (rg r:Int):Bool:=!(inR r 0 (rg - 1))
def badOp (M:Mac) (o:OpR):Bool:=!(classS o.kd).2||(readsS o).any (badRead M.rg)
def usesAll (M:Mac) (O:List OpR):UseR:=O.foldl withS (newU M)
theorem withS_M (X:UseR) (o:OpR):(withS X o).M=X.M:=by unfold withS;rw [bank_M,UseR.incU_M]
theorem fold_M (O:List OpR):∀ X,(O.foldl withS X).M=X.M:=by
 induction O with
 | nil=>intro X;rfl
 | cons o O ih=>intro X;rw [List.foldl_cons,ih,withS_M]
theorem readsS_len (o:OpR):(readsS o).length≤4:=by
 have a:=foldPut_len (rawS o) []
 have b:=rawS_len o
 unfold readsS onceS;simp only [List.length_nil] at a;omega
theorem with_small {X:UseR} {b:Int} (o:OpR) (h:X.small b):(withS X o).small (b+5):=by
 unfold withS
 refine small_mono (bank_small _ _ (UseR.incU_small h _)) ?_
 have:=readsS_len o
 omega
theorem fold_small:∀ (O:List OpR) {X:UseR} {b:Int},X.small b→(O.foldl withS X).small (b+5 * O.length)
 | [],X,b,h=>by
  have h2:(List.foldl withS X []).small b:=h
  simpa using h2
 | o :: O,X,b,h=>by
  have h1:=fold_small O (with_small o h)
  have e:b+5 * ((o :: O).length:Int)=b+5+5 * (O.length:Int):=by simp;omega
  rw [e];exact h1
theorem newU_small (M:Mac):(newU M).small 0:=by
 refine ⟨fun j=>?_,fun j=>?_⟩
 ·have:(newU M).uses j=0:=by rcases j with _|_|_|j<;>rfl
  rw [this];omega
 ·have:(newU M).reads j=0:=by rcases j with _|_|_|_|_|_|_|j<;>rfl
  rw [this];omega
theorem spAll (Y:UseR):spliceL zeros23 0 (cellsL Y.val)=Y.cells:=spliceL_all (l:=zeros23) (vs:=cellsL Y.val) rfl
theorem spAll2 (X Y:UseR):spliceL X.cells 0 (cellsL Y.val)=Y.cells:=spliceL_all (l:=X.cells) (vs:=cellsL Y.val) rfl
abbrev zeros7:List Value:=[i 0,i 0,i 0,i 0,i 0,i 0,i 0]
theorem sp7 (o:OpR):spliceL zeros7 0 (cellsL (.agg ⟨o.cells⟩))=o.cells:=spliceL_all (l:=zeros7) (vs:=cellsL (.agg ⟨o.cells⟩)) rfl
theorem ok_range {M:Mac} (h:M.ok=true):(1≤M.rg∧M.rg≤4096)∧(1≤M.bk∧M.bk≤8)∧(4≤M.pt∧M.pt≤32):=by
 unfold Mac.ok inR at h
 simp only [Bool.and_eq_true,decide_eq_true_eq] at h
 omega
end Go.Proofs.YtleofbpepfmfgaaGreatDoor
