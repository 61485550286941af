import Derived.Test.YtleofbpepfmfgaaGreatDoorVxRefReads
set_option linter.unusedSimpArgs false
set_option linter.unusedVariables false
set_option maxRecDepth 100000
namespace Go.Proofs.YtleofbpepfmfgaaGreatDoor
open Go Go.Vx
open Go.Vx.IOp Go.Vx.IR Go.Vx.Opd
structure UseR where
 M:Mac
 u0:Int
 u1:Int
 u2:Int
 u3:Int
 r0:Int
 r1:Int
 r2:Int
 r3:Int
 r4:Int
 r5:Int
 r6:Int
 r7:Int
def UseR.cells (X:UseR):List Value:=[i X.M.u0,i X.M.u1,i X.M.u2,i X.M.u3,i X.M.l0,i X.M.l1,i X.M.l2,i X.M.l3,i X.M.rg,i X.M.bk,i X.M.pt,i X.u0,i X.u1,i X.u2,i X.u3,i X.r0,i X.r1,i X.r2,i X.r3,i X.r4,i X.r5,i X.r6,i X.r7]
def UseR.val (X:UseR):Value:=.agg ⟨X.cells⟩
def newU (M:Mac):UseR:=⟨M,0,0,0,0,0,0,0,0,0,0,0,0⟩
def UseR.uses (X:UseR):Nat→Int | 0=>X.u0 | 1=>X.u1 | 2=>X.u2 | _=>X.u3
def UseR.reads (X:UseR):Nat→Int | 0=>X.r0 | 1=>X.r1 | 2=>X.r2 | 3=>X.r3 | 4=>X.r4 | 5=>X.r5 | 6=>X.r6 | _=>X.r7
def UseR.incU (X:UseR):Nat→UseR
 | 0=>{ X with u0:=X.u0+1 } | 1=>{ X with u1:=X.u1+1 } | 2=>{ X with u2:=X.u2+1 } | _=>{ X with u3:=X.u3+1 }
def UseR.incR (X:UseR):Nat→UseR
 | 0=>{ X with r0:=X.r0+1 } | 1=>{ X with r1:=X.r1+1 } | 2=>{ X with r2:=X.r2+1 } | 3=>{ X with r3:=X.r3+1 }
 | 4=>{ X with r4:=X.r4+1 } | 5=>{ X with r5:=X.r5+1 } | 6=>{ X with r6:=X.r6+1 } | _=>{ X with r7:=X.r7+1 }
def UseR.small (X:UseR) (b:Int):Prop:=(∀ j,0≤X.uses j∧X.uses j≤b)∧∀ j,0≤X.reads j∧X.reads j≤b
theorem newUse_body (m:Mem) (M:Mac) (R:Ending→Mem→Prop):ir_machine_NewUse.asks Tryz.prog [M.val] m R=WRet m R (.returned (newU M).val):=by kernel_rfl
theorem newUse_ok (m:Mem) (M:Mac):PureM Tryz.prog 70 [M.val] m (newU M).val:=by
 refine calls_of mixed Tryz.func70 ok_machine_NewUse rfl ?_
 rw [newUse_body]
 exact WRet.same ⟨rfl,rfl⟩
theorem UseR.incU_M (X:UseR) (k:Nat):(X.incU k).M=X.M:=by unfold UseR.incU;split<;>rfl
theorem UseR.incR_M (X:UseR) (k:Nat):(X.incR k).M=X.M:=by unfold UseR.incR;split<;>rfl
theorem UseR.incU_uses (X:UseR) (k j:Nat):(X.incU k).uses j=X.uses j∨(X.incU k).uses j=X.uses j+1:=by
 rcases k with _|_|_|k<;>rcases j with _|_|_|j<;>first | exact .inl rfl | exact .inr rfl
theorem UseR.incU_reads (X:UseR) (k j:Nat):(X.incU k).reads j=X.reads j:=by unfold UseR.incU;split<;>rfl
theorem UseR.incR_uses (X:UseR) (k j:Nat):(X.incR k).uses j=X.uses j:=by unfold UseR.incR;split<;>rfl
theorem UseR.incR_reads (X:UseR) (k j:Nat):(X.incR k).reads j=X.reads j∨(X.incR k).reads j=X.reads j+1:=by
 rcases k with _|_|_|_|_|_|_|k<;>rcases j with _|_|_|_|_|_|_|j<;>first | exact .inl rfl | exact .inr rfl
theorem UseR.incU_small {X:UseR} {b:Int} (h:X.small b) (k:Nat):(X.incU k).small (b+1):=by
 refine ⟨fun j=>?_,fun j=>?_⟩
 ·have:=h.1 j;rcases X.incU_uses k j with e | e<;>rw [e]<;>omega
 ·have:=h.2 j;rw [X.incU_reads k j];omega
theorem UseR.incR_small {X:UseR} {b:Int} (h:X.small b) (k:Nat):(X.incR k).small (b+1):=by
 refine ⟨fun j=>?_,fun j=>?_⟩
 ·have:=h.1 j;rw [X.incR_uses k j];omega
 ·have:=h.2 j;rcases X.incR_reads k j with e | e<;>rw [e]<;>omega
def bankS (X:UseR) (L:List Int):UseR:=L.foldl (fun X r=>X.incR (r.tmod X.M.bk).toNat) X
def withS (X:UseR) (o:OpR):UseR:=bankS (X.incU (classS o.kd).1.toNat) (readsS o)
theorem classS_in (k:Int):(classS k).1=0∨(classS k).1=1∨(classS k).1=2∨(classS k).1=3:=by
 unfold classS;split
 ·exact .inl rfl
 ·split
  ·exact .inr (.inl rfl)
  ·split
   ·exact .inr (.inr (.inl rfl))
   ·split
    ·exact .inr (.inr (.inr rfl))
    ·exact .inl rfl
theorem bank_M (L:List Int):∀ X,(bankS X L).M=X.M:=by
 induction L with
 | nil=>intro X;rfl
 | cons r L ih=>intro X;show (bankS (X.incR _) L).M=X.M;rw [ih,UseR.incR_M]
theorem bank_small {b:Int}:∀ (L:List Int) (X:UseR),X.small b→(bankS X L).small (b+L.length)
 | [],X,h=>by
  have h2:(bankS X []).small b:=h
  simpa using h2
 | r :: L,X,h=>by
  have h1:=bank_small L (X.incR (r.tmod X.M.bk).toNat) (UseR.incR_small h _)
  have e:b+((r :: L).length:Int)=b+1+(L.length:Int):=by simp;omega
  rw [e];exact h1
theorem small_mono {X:UseR} {b b':Int} (h:X.small b) (hb:b≤b'):X.small b':=⟨fun j=>⟨(h.1 j).1,Int.le_trans (h.1 j).2 hb⟩,fun j=>⟨(h.2 j).1,Int.le_trans (h.2 j).2 hb⟩⟩
theorem spU0 (X:UseR):spliceL (cellsL X.val) (11+Int.toNat 0) (cellsL (Value.int IntKind.i64 (X.u0+1)))=(X.incU 0).cells:=rfl
theorem spU1 (X:UseR):spliceL (cellsL X.val) (11+Int.toNat 1) (cellsL (Value.int IntKind.i64 (X.u1+1)))=(X.incU 1).cells:=rfl
theorem spU2 (X:UseR):spliceL (cellsL X.val) (11+Int.toNat 2) (cellsL (Value.int IntKind.i64 (X.u2+1)))=(X.incU 2).cells:=rfl
theorem spU3 (X:UseR):spliceL (cellsL X.val) (11+Int.toNat 3) (cellsL (Value.int IntKind.i64 (X.u3+1)))=(X.incU 3).cells:=rfl
theorem spR0 (Y:UseR):spliceL Y.cells (15+Int.toNat 0) (cellsL (Value.int IntKind.i64 (Y.reads 0+1)))=(Y.incR 0).cells:=rfl
theorem spR1 (Y:UseR):spliceL Y.cells (15+Int.toNat 1) (cellsL (Value.int IntKind.i64 (Y.reads 1+1)))=(Y.incR 1).cells:=rfl
theorem spR2 (Y:UseR):spliceL Y.cells (15+Int.toNat 2) (cellsL (Value.int IntKind.i64 (Y.reads 2+1)))=(Y.incR 2).cells:=rfl
theorem spR3 (Y:UseR):spliceL Y.cells (15+Int.toNat 3) (cellsL (Value.int IntKind.i64 (Y.reads 3+1)))=(Y.incR 3).cells:=rfl
theorem spR4 (Y:UseR):spliceL Y.cells (15+Int.toNat 4) (cellsL (Value.int IntKind.i64 (Y.reads 4+1)))=(Y.incR 4).cells:=rfl
theorem spR5 (Y:UseR):spliceL Y.cells (15+Int.toNat 5) (cellsL (Value.int IntKind.i64 (Y.reads 5+1)))=(Y.incR 5).cells:=rfl
theorem spR6 (Y:UseR):spliceL Y.cells (15+Int.toNat 6) (cellsL (Value.int IntKind.i64 (Y.reads 6+1)))=(Y.incR 6).cells:=rfl
theorem spR7 (Y:UseR):spliceL Y.cells (15+Int.toNat 7) (cellsL (Value.int IntKind.i64 (Y.reads 7+1)))=(Y.incR 7).cells:=rfl
abbrev zeros23:List Value:=[i 0,i 0,i 0,i 0,i 0,i 0,i 0,i 0,i 0,i 0,i 0,i 0,i 0,i 0,i 0,i 0,i 0,i 0,i 0,i 0,i 0,i 0,i 0]
theorem spliceL_all {l vs:List Value} (h:vs.length=l.length):spliceL l 0 vs=vs:=by
 rw [spliceL_eq vs l 0 (by omega)]
 rw [List.take_zero,List.nil_append,Nat.zero_add,h,List.drop_length,List.append_nil]
attribute [local irreducible] spliceL in
set_option maxHeartbeats 1000000 in
theorem with_ok {m:Mem} {T:Nat} {fr:Nat×Nat} (hm:m 0=some (.cells ⟨cells0⟩ T fr)) (X:UseR) (o:OpR) (hX:X.small 4611686018427387904) (hb:1≤X.M.bk∧X.M.bk≤8) (hr:∀ r∈readsS o,0≤r) :
  CallsM Tryz.prog 71 [X.val,o.val] m fun e m'=>e=.returned (withS X o).val∧Mem.le m m':=by
 refine calls_of mixed Tryz.func71 ok_machine_Use_With rfl ?_
 unfold withS
 refine WCall.pure (class_ok hm o.kd) ?_
 have hXu:=hX.1
 have h0:=hXu 0;have h1:=hXu 1;have h2:=hXu 2;have h3:=hXu 3
 simp only [UseR.uses] at h0 h1 h2 h3
 unfold pairV
 have hL4:(readsS o).length≤4:=by
  have a:=foldPut_len (rawS o) []
  have b:=rawS_len o
  unfold readsS onceS;simp only [List.length_nil] at a;omega
 have hlen:∀ {z:Int},z<23→z<((cellsL X.val).length:Int):=fun h=>h
 rcases classS_in o.kd with hc | hc | hc | hc
 ·rw [hc]
  refine WBnd.mk (by decide) ?_
  refine WGet.mk _ rfl ?_
  refine WRng.mk (by apply wrap_i64<;>omega) ?_
  refine WBnd.mk (by decide) ?_
  refine WBnd.mk ⟨by decide,hlen (by decide)⟩ ?_
  refine WCall.mk (reads_ok hm o) ?_
  rintro _ m1 ⟨A,cA,rfl,hle1,hp1⟩
  obtain ⟨hx0,hx1⟩:=hp1.cells
  refine WLoop.mk (Nat×UseR) (fun s=>[(25,.val (i s.1)),(2,.var s.2.cells)]) (fun s m'=>Mem.le m1 m'∧s.1≤(readsS o).length∧bankS (X.incU (0:Int).toNat) ((readsS o).take s.1)=s.2) (fun s=>(readsS o).length - s.1) (0,X.incU (0:Int).toNat) ⟨rfl,congrArg (fun l=>some (AV.var l)) (spU0 X),trivial⟩ ⟨Mem.le.refl _,Nat.zero_le _,rfl⟩ ?_
  rintro ⟨k,Y⟩ m6 ⟨g1,g2,g3⟩
  simp only at g2 g3
  refine Br.mk (fun hb3=>?_) (fun hb3=>?_)
  ·have hk:k<(readsS o).length:=by
    have:(k:Int)<(readsS o).length:=of_decide_eq_true hb3
    omega
   obtain ⟨ad,rfl⟩:∃ ad,A=some ad:=by
    cases A with
    | none=>rw [hx0 rfl] at hk;simp at hk
    | some ad=>exact ⟨ad,rfl⟩
   have hcell:CellAt m6 (ad.add k) (i (readsS o)[k]):=(IAt.cell (hx1 ad rfl) hk).mono g1
   have hYM:Y.M.bk=X.M.bk:=by rw [← g3,bank_M,UseR.incU_M]
   have hYs:Y.small 4611686018427387909:=by
    rw [← g3]
    refine small_mono (bank_small _ _ (UseR.incU_small hX _)) ?_
    rw [List.length_take];omega
   have hsucc:bankS (X.incU (0:Int).toNat) ((readsS o).take (k+1))=Y.incR (((readsS o)[k]).tmod Y.M.bk).toNat:=by
    unfold bankS;rw [fold_succ hk]
    show UseR.incR (bankS (X.incU (0:Int).toNat) ((readsS o).take k)) _=_
    rw [g3]
    have:(bankS (X.incU (0:Int).toNat) ((readsS o).take k))=Y:=g3
    unfold bankS at this;rw [this]
   have hr0:=hr _ (List.getElem_mem hk)
   refine WIdx.mk ad rfl ⟨by omega,by simpa using hk⟩ ?_
   refine WLd.mk (i (readsS o)[k]) (by simpa using hcell) ?_
   refine WNe.mk (by rw [hYM];omega) ?_
   conv=>whnf
   have hj:0≤((readsS o)[k]).tmod Y.M.bk∧((readsS o)[k]).tmod Y.M.bk<8:=by
    rw [Int.tmod_eq_emod_of_nonneg hr0,hYM]
    have a:=Int.emod_nonneg (readsS o)[k] (show X.M.bk≠0 by omega)
    have b:=Int.emod_lt_of_pos (readsS o)[k] (show 0<X.M.bk by omega)
    omega
   generalize ((readsS o)[k]).tmod Y.M.bk=j at hj hsucc ⊢
   have hjs:j=0∨j=1∨j=2∨j=3∨j=4∨j=5∨j=6∨j=7:=by omega
   have hYr:=hYs.2
   have y0:=hYr 0;have y1:=hYr 1;have y2:=hYr 2;have y3:=hYr 3;have y4:=hYr 4;have y5:=hYr 5;have y6:=hYr 6;have y7:=hYr 7
   have hlY:∀ {z:Int},z<23→z<(Y.cells.length:Int):=fun h=>h
   rcases hjs with rfl | rfl | rfl | rfl | rfl | rfl | rfl | rfl
   ·refine WBnd.mk (by decide) ?_
    refine WGet.mk (i (Y.reads 0)) rfl ?_
    refine WRng.mk (by apply wrap_i64<;>omega) ?_
    refine WBnd.mk (by decide) ?_
    refine WBnd.mk ⟨by decide,hlY (by decide)⟩ ?_
    refine WRng.mk (by apply wrap_i64<;>omega) ?_
    conv=>whnf
    exact ⟨(k+1,Y.incR 0),⟨rfl,congrArg (fun l=>some (AV.var l)) (spR0 Y),trivial⟩,⟨g1,hk,hsucc⟩,by simp only;omega⟩
   ·refine WBnd.mk (by decide) ?_
    refine WGet.mk (i (Y.reads 1)) rfl ?_
    refine WRng.mk (by apply wrap_i64<;>omega) ?_
    refine WBnd.mk (by decide) ?_
    refine WBnd.mk ⟨by decide,hlY (by decide)⟩ ?_
    refine WRng.mk (by apply wrap_i64<;>omega) ?_
    conv=>whnf
    exact ⟨(k+1,Y.incR 1),⟨rfl,congrArg (fun l=>some (AV.var l)) (spR1 Y),trivial⟩,⟨g1,hk,hsucc⟩,by simp only;omega⟩
   ·refine WBnd.mk (by decide) ?_
    refine WGet.mk (i (Y.reads 2)) rfl ?_
    refine WRng.mk (by apply wrap_i64<;>omega) ?_
    refine WBnd.mk (by decide) ?_
    refine WBnd.mk ⟨by decide,hlY (by decide)⟩ ?_
    refine WRng.mk (by apply wrap_i64<;>omega) ?_
    conv=>whnf
    exact ⟨(k+1,Y.incR 2),⟨rfl,congrArg (fun l=>some (AV.var l)) (spR2 Y),trivial⟩,⟨g1,hk,hsucc⟩,by simp only;omega⟩
   ·refine WBnd.mk (by decide) ?_
    refine WGet.mk (i (Y.reads 3)) rfl ?_
    refine WRng.mk (by apply wrap_i64<;>omega) ?_
    refine WBnd.mk (by decide) ?_
    refine WBnd.mk ⟨by decide,hlY (by decide)⟩ ?_
    refine WRng.mk (by apply wrap_i64<;>omega) ?_
    conv=>whnf
    exact ⟨(k+1,Y.incR 3),⟨rfl,congrArg (fun l=>some (AV.var l)) (spR3 Y),trivial⟩,⟨g1,hk,hsucc⟩,by simp only;omega⟩
   ·refine WBnd.mk (by decide) ?_
    refine WGet.mk (i (Y.reads 4)) rfl ?_
    refine WRng.mk (by apply wrap_i64<;>omega) ?_
    refine WBnd.mk (by decide) ?_
    refine WBnd.mk ⟨by decide,hlY (by decide)⟩ ?_
    refine WRng.mk (by apply wrap_i64<;>omega) ?_
    conv=>whnf
    exact ⟨(k+1,Y.incR 4),⟨rfl,congrArg (fun l=>some (AV.var l)) (spR4 Y),trivial⟩,⟨g1,hk,hsucc⟩,by simp only;omega⟩
   ·refine WBnd.mk (by decide) ?_
    refine WGet.mk (i (Y.reads 5)) rfl ?_
    refine WRng.mk (by apply wrap_i64<;>omega) ?_
    refine WBnd.mk (by decide) ?_
    refine WBnd.mk ⟨by decide,hlY (by decide)⟩ ?_
    refine WRng.mk (by apply wrap_i64<;>omega) ?_
    conv=>whnf
    exact ⟨(k+1,Y.incR 5),⟨rfl,congrArg (fun l=>some (AV.var l)) (spR5 Y),trivial⟩,⟨g1,hk,hsucc⟩,by simp only;omega⟩
   ·refine WBnd.mk (by decide) ?_
    refine WGet.mk (i (Y.reads 6)) rfl ?_
    refine WRng.mk (by apply wrap_i64<;>omega) ?_
    refine WBnd.mk (by decide) ?_
    refine WBnd.mk ⟨by decide,hlY (by decide)⟩ ?_
    refine WRng.mk (by apply wrap_i64<;>omega) ?_
    conv=>whnf
    exact ⟨(k+1,Y.incR 6),⟨rfl,congrArg (fun l=>some (AV.var l)) (spR6 Y),trivial⟩,⟨g1,hk,hsucc⟩,by simp only;omega⟩
   ·refine WBnd.mk (by decide) ?_
    refine WGet.mk (i (Y.reads 7)) rfl ?_
    refine WRng.mk (by apply wrap_i64<;>omega) ?_
    refine WBnd.mk (by decide) ?_
    refine WBnd.mk ⟨by decide,hlY (by decide)⟩ ?_
    refine WRng.mk (by apply wrap_i64<;>omega) ?_
    conv=>whnf
    exact ⟨(k+1,Y.incR 7),⟨rfl,congrArg (fun l=>some (AV.var l)) (spR7 Y),trivial⟩,⟨g1,hk,hsucc⟩,by simp only;omega⟩
  ·have hk:k=(readsS o).length:=by
    have:¬ (k:Int)<(readsS o).length:=of_decide_eq_false hb3
    omega
   subst hk
   rw [List.take_length] at g3
   conv=>whnf
   rw [spliceL_all (l:=zeros23) (vs:=cellsL (.agg ⟨List.take 23 Y.cells⟩)) rfl]
   refine WRet.same ⟨?_,hle1.trans g1⟩
   rw [g3];rfl
 ·rw [hc]
  refine WBnd.mk (by decide) ?_
  refine WGet.mk _ rfl ?_
  refine WRng.mk (by apply wrap_i64<;>omega) ?_
  refine WBnd.mk (by decide) ?_
  refine WBnd.mk ⟨by decide,hlen (by decide)⟩ ?_
  refine WCall.mk (reads_ok hm o) ?_
  rintro _ m1 ⟨A,cA,rfl,hle1,hp1⟩
  obtain ⟨hx0,hx1⟩:=hp1.cells
  refine WLoop.mk (Nat×UseR) (fun s=>[(25,.val (i s.1)),(2,.var s.2.cells)]) (fun s m'=>Mem.le m1 m'∧s.1≤(readsS o).length∧bankS (X.incU (1:Int).toNat) ((readsS o).take s.1)=s.2) (fun s=>(readsS o).length - s.1) (0,X.incU (1:Int).toNat) ⟨rfl,congrArg (fun l=>some (AV.var l)) (spU1 X),trivial⟩ ⟨Mem.le.refl _,Nat.zero_le _,rfl⟩ ?_
  rintro ⟨k,Y⟩ m6 ⟨g1,g2,g3⟩
  simp only at g2 g3
  refine Br.mk (fun hb3=>?_) (fun hb3=>?_)
  ·have hk:k<(readsS o).length:=by
    have:(k:Int)<(readsS o).length:=of_decide_eq_true hb3
    omega
   obtain ⟨ad,rfl⟩:∃ ad,A=some ad:=by
    cases A with
    | none=>rw [hx0 rfl] at hk;simp at hk
    | some ad=>exact ⟨ad,rfl⟩
   have hcell:CellAt m6 (ad.add k) (i (readsS o)[k]):=(IAt.cell (hx1 ad rfl) hk).mono g1
   have hYM:Y.M.bk=X.M.bk:=by rw [← g3,bank_M,UseR.incU_M]
   have hYs:Y.small 4611686018427387909:=by
    rw [← g3]
    refine small_mono (bank_small _ _ (UseR.incU_small hX _)) ?_
    rw [List.length_take];omega
   have hsucc:bankS (X.incU (1:Int).toNat) ((readsS o).take (k+1))=Y.incR (((readsS o)[k]).tmod Y.M.bk).toNat:=by
    unfold bankS;rw [fold_succ hk]
    show UseR.incR (bankS (X.incU (1:Int).toNat) ((readsS o).take k)) _=_
    rw [g3]
    have:(bankS (X.incU (1:Int).toNat) ((readsS o).take k))=Y:=g3
    unfold bankS at this;rw [this]
   have hr0:=hr _ (List.getElem_mem hk)
   refine WIdx.mk ad rfl ⟨by omega,by simpa using hk⟩ ?_
   refine WLd.mk (i (readsS o)[k]) (by simpa using hcell) ?_
   refine WNe.mk (by rw [hYM];omega) ?_
   conv=>whnf
   have hj:0≤((readsS o)[k]).tmod Y.M.bk∧((readsS o)[k]).tmod Y.M.bk<8:=by
    rw [Int.tmod_eq_emod_of_nonneg hr0,hYM]
    have a:=Int.emod_nonneg (readsS o)[k] (show X.M.bk≠0 by omega)
    have b:=Int.emod_lt_of_pos (readsS o)[k] (show 0<X.M.bk by omega)
    omega
   generalize ((readsS o)[k]).tmod Y.M.bk=j at hj hsucc ⊢
   have hjs:j=0∨j=1∨j=2∨j=3∨j=4∨j=5∨j=6∨j=7:=by omega
   have hYr:=hYs.2
   have y0:=hYr 0;have y1:=hYr 1;have y2:=hYr 2;have y3:=hYr 3;have y4:=hYr 4;have y5:=hYr 5;have y6:=hYr 6;have y7:=hYr 7
   have hlY:∀ {z:Int},z<23→z<(Y.cells.length:Int):=fun h=>h
   rcases hjs with rfl | rfl | rfl | rfl | rfl | rfl | rfl | rfl
   ·refine WBnd.mk (by decide) ?_
    refine WGet.mk (i (Y.reads 0)) rfl ?_
    refine WRng.mk (by apply wrap_i64<;>omega) ?_
    refine WBnd.mk (by decide) ?_
    refine WBnd.mk ⟨by decide,hlY (by decide)⟩ ?_
    refine WRng.mk (by apply wrap_i64<;>omega) ?_
    conv=>whnf
    exact ⟨(k+1,Y.incR 0),⟨rfl,congrArg (fun l=>some (AV.var l)) (spR0 Y),trivial⟩,⟨g1,hk,hsucc⟩,by simp only;omega⟩
   ·refine WBnd.mk (by decide) ?_
    refine WGet.mk (i (Y.reads 1)) rfl ?_
    refine WRng.mk (by apply wrap_i64<;>omega) ?_
    refine WBnd.mk (by decide) ?_
    refine WBnd.mk ⟨by decide,hlY (by decide)⟩ ?_
    refine WRng.mk (by apply wrap_i64<;>omega) ?_
    conv=>whnf
    exact ⟨(k+1,Y.incR 1),⟨rfl,congrArg (fun l=>some (AV.var l)) (spR1 Y),trivial⟩,⟨g1,hk,hsucc⟩,by simp only;omega⟩
   ·refine WBnd.mk (by decide) ?_
    refine WGet.mk (i (Y.reads 2)) rfl ?_
    refine WRng.mk (by apply wrap_i64<;>omega) ?_
    refine WBnd.mk (by decide) ?_
    refine WBnd.mk ⟨by decide,hlY (by decide)⟩ ?_
    refine WRng.mk (by apply wrap_i64<;>omega) ?_
    conv=>whnf
    exact ⟨(k+1,Y.incR 2),⟨rfl,congrArg (fun l=>some (AV.var l)) (spR2 Y),trivial⟩,⟨g1,hk,hsucc⟩,by simp only;omega⟩
   ·refine WBnd.mk (by decide) ?_
    refine WGet.mk (i (Y.reads 3)) rfl ?_
    refine WRng.mk (by apply wrap_i64<;>omega) ?_
    refine WBnd.mk (by decide) ?_
    refine WBnd.mk ⟨by decide,hlY (by decide)⟩ ?_
    refine WRng.mk (by apply wrap_i64<;>omega) ?_
    conv=>whnf
    exact ⟨(k+1,Y.incR 3),⟨rfl,congrArg (fun l=>some (AV.var l)) (spR3 Y),trivial⟩,⟨g1,hk,hsucc⟩,by simp only;omega⟩
   ·refine WBnd.mk (by decide) ?_
    refine WGet.mk (i (Y.reads 4)) rfl ?_
    refine WRng.mk (by apply wrap_i64<;>omega) ?_
    refine WBnd.mk (by decide) ?_
    refine WBnd.mk ⟨by decide,hlY (by decide)⟩ ?_
    refine WRng.mk (by apply wrap_i64<;>omega) ?_
    conv=>whnf
    exact ⟨(k+1,Y.incR 4),⟨rfl,congrArg (fun l=>some (AV.var l)) (spR4 Y),trivial⟩,⟨g1,hk,hsucc⟩,by simp only;omega⟩
   ·refine WBnd.mk (by decide) ?_
    refine WGet.mk (i (Y.reads 5)) rfl ?_
    refine WRng.mk (by apply wrap_i64<;>omega) ?_
    refine WBnd.mk (by decide) ?_
    refine WBnd.mk ⟨by decide,hlY (by decide)⟩ ?_
    refine WRng.mk (by apply wrap_i64<;>omega) ?_
    conv=>whnf
    exact ⟨(k+1,Y.incR 5),⟨rfl,congrArg (fun l=>some (AV.var l)) (spR5 Y),trivial⟩,⟨g1,hk,hsucc⟩,by simp only;omega⟩
   ·refine WBnd.mk (by decide) ?_
    refine WGet.mk (i (Y.reads 6)) rfl ?_
    refine WRng.mk (by apply wrap_i64<;>omega) ?_
    refine WBnd.mk (by decide) ?_
    refine WBnd.mk ⟨by decide,hlY (by decide)⟩ ?_
    refine WRng.mk (by apply wrap_i64<;>omega) ?_
    conv=>whnf
    exact ⟨(k+1,Y.incR 6),⟨rfl,congrArg (fun l=>some (AV.var l)) (spR6 Y),trivial⟩,⟨g1,hk,hsucc⟩,by simp only;omega⟩
   ·refine WBnd.mk (by decide) ?_
    refine WGet.mk (i (Y.reads 7)) rfl ?_
    refine WRng.mk (by apply wrap_i64<;>omega) ?_
    refine WBnd.mk (by decide) ?_
    refine WBnd.mk ⟨by decide,hlY (by decide)⟩ ?_
    refine WRng.mk (by apply wrap_i64<;>omega) ?_
    conv=>whnf
    exact ⟨(k+1,Y.incR 7),⟨rfl,congrArg (fun l=>some (AV.var l)) (spR7 Y),trivial⟩,⟨g1,hk,hsucc⟩,by simp only;omega⟩
  ·have hk:k=(readsS o).length:=by
    have:¬ (k:Int)<(readsS o).length:=of_decide_eq_false hb3
    omega
   subst hk
   rw [List.take_length] at g3
   conv=>whnf
   rw [spliceL_all (l:=zeros23) (vs:=cellsL (.agg ⟨List.take 23 Y.cells⟩)) rfl]
   refine WRet.same ⟨?_,hle1.trans g1⟩
   rw [g3];rfl
 ·rw [hc]
  refine WBnd.mk (by decide) ?_
  refine WGet.mk _ rfl ?_
  refine WRng.mk (by apply wrap_i64<;>omega) ?_
  refine WBnd.mk (by decide) ?_
  refine WBnd.mk ⟨by decide,hlen (by decide)⟩ ?_
  refine WCall.mk (reads_ok hm o) ?_
  rintro _ m1 ⟨A,cA,rfl,hle1,hp1⟩
  obtain ⟨hx0,hx1⟩:=hp1.cells
  refine WLoop.mk (Nat×UseR) (fun s=>[(25,.val (i s.1)),(2,.var s.2.cells)]) (fun s m'=>Mem.le m1 m'∧s.1≤(readsS o).length∧bankS (X.incU (2:Int).toNat) ((readsS o).take s.1)=s.2) (fun s=>(readsS o).length - s.1) (0,X.incU (2:Int).toNat) ⟨rfl,congrArg (fun l=>some (AV.var l)) (spU2 X),trivial⟩ ⟨Mem.le.refl _,Nat.zero_le _,rfl⟩ ?_
  rintro ⟨k,Y⟩ m6 ⟨g1,g2,g3⟩
  simp only at g2 g3
  refine Br.mk (fun hb3=>?_) (fun hb3=>?_)
  ·have hk:k<(readsS o).length:=by
    have:(k:Int)<(readsS o).length:=of_decide_eq_true hb3
    omega
   obtain ⟨ad,rfl⟩:∃ ad,A=some ad:=by
    cases A with
    | none=>rw [hx0 rfl] at hk;simp at hk
    | some ad=>exact ⟨ad,rfl⟩
   have hcell:CellAt m6 (ad.add k) (i (readsS o)[k]):=(IAt.cell (hx1 ad rfl) hk).mono g1
   have hYM:Y.M.bk=X.M.bk:=by rw [← g3,bank_M,UseR.incU_M]
   have hYs:Y.small 4611686018427387909:=by
    rw [← g3]
    refine small_mono (bank_small _ _ (UseR.incU_small hX _)) ?_
    rw [List.length_take];omega
   have hsucc:bankS (X.incU (2:Int).toNat) ((readsS o).take (k+1))=Y.incR (((readsS o)[k]).tmod Y.M.bk).toNat:=by
    unfold bankS;rw [fold_succ hk]
    show UseR.incR (bankS (X.incU (2:Int).toNat) ((readsS o).take k)) _=_
    rw [g3]
    have:(bankS (X.incU (2:Int).toNat) ((readsS o).take k))=Y:=g3
    unfold bankS at this;rw [this]
   have hr0:=hr _ (List.getElem_mem hk)
   refine WIdx.mk ad rfl ⟨by omega,by simpa using hk⟩ ?_
   refine WLd.mk (i (readsS o)[k]) (by simpa using hcell) ?_
   refine WNe.mk (by rw [hYM];omega) ?_
   conv=>whnf
   have hj:0≤((readsS o)[k]).tmod Y.M.bk∧((readsS o)[k]).tmod Y.M.bk<8:=by
    rw [Int.tmod_eq_emod_of_nonneg hr0,hYM]
    have a:=Int.emod_nonneg (readsS o)[k] (show X.M.bk≠0 by omega)
    have b:=Int.emod_lt_of_pos (readsS o)[k] (show 0<X.M.bk by omega)
    omega
   generalize ((readsS o)[k]).tmod Y.M.bk=j at hj hsucc ⊢
   have hjs:j=0∨j=1∨j=2∨j=3∨j=4∨j=5∨j=6∨j=7:=by omega
   have hYr:=hYs.2
   have y0:=hYr 0;have y1:=hYr 1;have y2:=hYr 2;have y3:=hYr 3;have y4:=hYr 4;have y5:=hYr 5;have y6:=hYr 6;have y7:=hYr 7
   have hlY:∀ {z:Int},z<23→z<(Y.cells.length:Int):=fun h=>h
   rcases hjs with rfl | rfl | rfl | rfl | rfl | rfl | rfl | rfl
   ·refine WBnd.mk (by decide) ?_
    refine WGet.mk (i (Y.reads 0)) rfl ?_
    refine WRng.mk (by apply wrap_i64<;>omega) ?_
    refine WBnd.mk (by decide) ?_
    refine WBnd.mk ⟨by decide,hlY (by decide)⟩ ?_
    refine WRng.mk (by apply wrap_i64<;>omega) ?_
    conv=>whnf
    exact ⟨(k+1,Y.incR 0),⟨rfl,congrArg (fun l=>some (AV.var l)) (spR0 Y),trivial⟩,⟨g1,hk,hsucc⟩,by simp only;omega⟩
   ·refine WBnd.mk (by decide) ?_
    refine WGet.mk (i (Y.reads 1)) rfl ?_
    refine WRng.mk (by apply wrap_i64<;>omega) ?_
    refine WBnd.mk (by decide) ?_
    refine WBnd.mk ⟨by decide,hlY (by decide)⟩ ?_
    refine WRng.mk (by apply wrap_i64<;>omega) ?_
    conv=>whnf
    exact ⟨(k+1,Y.incR 1),⟨rfl,congrArg (fun l=>some (AV.var l)) (spR1 Y),trivial⟩,⟨g1,hk,hsucc⟩,by simp only;omega⟩
   ·refine WBnd.mk (by decide) ?_
    refine WGet.mk (i (Y.reads 2)) rfl ?_
    refine WRng.mk (by apply wrap_i64<;>omega) ?_
    refine WBnd.mk (by decide) ?_
    refine WBnd.mk ⟨by decide,hlY (by decide)⟩ ?_
    refine WRng.mk (by apply wrap_i64<;>omega) ?_
    conv=>whnf
    exact ⟨(k+1,Y.incR 2),⟨rfl,congrArg (fun l=>some (AV.var l)) (spR2 Y),trivial⟩,⟨g1,hk,hsucc⟩,by simp only;omega⟩
   ·refine WBnd.mk (by decide) ?_
    refine WGet.mk (i (Y.reads 3)) rfl ?_
    refine WRng.mk (by apply wrap_i64<;>omega) ?_
    refine WBnd.mk (by decide) ?_
    refine WBnd.mk ⟨by decide,hlY (by decide)⟩ ?_
    refine WRng.mk (by apply wrap_i64<;>omega) ?_
    conv=>whnf
    exact ⟨(k+1,Y.incR 3),⟨rfl,congrArg (fun l=>some (AV.var l)) (spR3 Y),trivial⟩,⟨g1,hk,hsucc⟩,by simp only;omega⟩
   ·refine WBnd.mk (by decide) ?_
    refine WGet.mk (i (Y.reads 4)) rfl ?_
    refine WRng.mk (by apply wrap_i64<;>omega) ?_
    refine WBnd.mk (by decide) ?_
    refine WBnd.mk ⟨by decide,hlY (by decide)⟩ ?_
    refine WRng.mk (by apply wrap_i64<;>omega) ?_
    conv=>whnf
    exact ⟨(k+1,Y.incR 4),⟨rfl,congrArg (fun l=>some (AV.var l)) (spR4 Y),trivial⟩,⟨g1,hk,hsucc⟩,by simp only;omega⟩
   ·refine WBnd.mk (by decide) ?_
    refine WGet.mk (i (Y.reads 5)) rfl ?_
    refine WRng.mk (by apply wrap_i64<;>omega) ?_
    refine WBnd.mk (by decide) ?_
    refine WBnd.mk ⟨by decide,hlY (by decide)⟩ ?_
    refine WRng.mk (by apply wrap_i64<;>omega) ?_
    conv=>whnf
    exact ⟨(k+1,Y.incR 5),⟨rfl,congrArg (fun l=>some (AV.var l)) (spR5 Y),trivial⟩,⟨g1,hk,hsucc⟩,by simp only;omega⟩
   ·refine WBnd.mk (by decide) ?_
    refine WGet.mk (i (Y.reads 6)) rfl ?_
    refine WRng.mk (by apply wrap_i64<;>omega) ?_
    refine WBnd.mk (by decide) ?_
    refine WBnd.mk ⟨by decide,hlY (by decide)⟩ ?_
    refine WRng.mk (by apply wrap_i64<;>omega) ?_
    conv=>whnf
    exact ⟨(k+1,Y.incR 6),⟨rfl,congrArg (fun l=>some (AV.var l)) (spR6 Y),trivial⟩,⟨g1,hk,hsucc⟩,by simp only;omega⟩
   ·refine WBnd.mk (by decide) ?_
    refine WGet.mk (i (Y.reads 7)) rfl ?_
    refine WRng.mk (by apply wrap_i64<;>omega) ?_
    refine WBnd.mk (by decide) ?_
    refine WBnd.mk ⟨by decide,hlY (by decide)⟩ ?_
    refine WRng.mk (by apply wrap_i64<;>omega) ?_
    conv=>whnf
    exact ⟨(k+1,Y.incR 7),⟨rfl,congrArg (fun l=>some (AV.var l)) (spR7 Y),trivial⟩,⟨g1,hk,hsucc⟩,by simp only;omega⟩
  ·have hk:k=(readsS o).length:=by
    have:¬ (k:Int)<(readsS o).length:=of_decide_eq_false hb3
    omega
   subst hk
   rw [List.take_length] at g3
   conv=>whnf
   rw [spliceL_all (l:=zeros23) (vs:=cellsL (.agg ⟨List.take 23 Y.cells⟩)) rfl]
   refine WRet.same ⟨?_,hle1.trans g1⟩
   rw [g3];rfl
 ·rw [hc]
  refine WBnd.mk (by decide) ?_
  refine WGet.mk _ rfl ?_
  refine WRng.mk (by apply wrap_i64<;>omega) ?_
  refine WBnd.mk (by decide) ?_
  refine WBnd.mk ⟨by decide,hlen (by decide)⟩ ?_
  refine WCall.mk (reads_ok hm o) ?_
  rintro _ m1 ⟨A,cA,rfl,hle1,hp1⟩
  obtain ⟨hx0,hx1⟩:=hp1.cells
  refine WLoop.mk (Nat×UseR) (fun s=>[(25,.val (i s.1)),(2,.var s.2.cells)]) (fun s m'=>Mem.le m1 m'∧s.1≤(readsS o).length∧bankS (X.incU (3:Int).toNat) ((readsS o).take s.1)=s.2) (fun s=>(readsS o).length - s.1) (0,X.incU (3:Int).toNat) ⟨rfl,congrArg (fun l=>some (AV.var l)) (spU3 X),trivial⟩ ⟨Mem.le.refl _,Nat.zero_le _,rfl⟩ ?_
  rintro ⟨k,Y⟩ m6 ⟨g1,g2,g3⟩
  simp only at g2 g3
  refine Br.mk (fun hb3=>?_) (fun hb3=>?_)
  ·have hk:k<(readsS o).length:=by
    have:(k:Int)<(readsS o).length:=of_decide_eq_true hb3
    omega
   obtain ⟨ad,rfl⟩:∃ ad,A=some ad:=by
    cases A with
    | none=>rw [hx0 rfl] at hk;simp at hk
    | some ad=>exact ⟨ad,rfl⟩
   have hcell:CellAt m6 (ad.add k) (i (readsS o)[k]):=(IAt.cell (hx1 ad rfl) hk).mono g1
   have hYM:Y.M.bk=X.M.bk:=by rw [← g3,bank_M,UseR.incU_M]
   have hYs:Y.small 4611686018427387909:=by
    rw [← g3]
    refine small_mono (bank_small _ _ (UseR.incU_small hX _)) ?_
    rw [List.length_take];omega
   have hsucc:bankS (X.incU (3:Int).toNat) ((readsS o).take (k+1))=Y.incR (((readsS o)[k]).tmod Y.M.bk).toNat:=by
    unfold bankS;rw [fold_succ hk]
    show UseR.incR (bankS (X.incU (3:Int).toNat) ((readsS o).take k)) _=_
    rw [g3]
    have:(bankS (X.incU (3:Int).toNat) ((readsS o).take k))=Y:=g3
    unfold bankS at this;rw [this]
   have hr0:=hr _ (List.getElem_mem hk)
   refine WIdx.mk ad rfl ⟨by omega,by simpa using hk⟩ ?_
   refine WLd.mk (i (readsS o)[k]) (by simpa using hcell) ?_
   refine WNe.mk (by rw [hYM];omega) ?_
   conv=>whnf
   have hj:0≤((readsS o)[k]).tmod Y.M.bk∧((readsS o)[k]).tmod Y.M.bk<8:=by
    rw [Int.tmod_eq_emod_of_nonneg hr0,hYM]
    have a:=Int.emod_nonneg (readsS o)[k] (show X.M.bk≠0 by omega)
    have b:=Int.emod_lt_of_pos (readsS o)[k] (show 0<X.M.bk by omega)
    omega
   generalize ((readsS o)[k]).tmod Y.M.bk=j at hj hsucc ⊢
   have hjs:j=0∨j=1∨j=2∨j=3∨j=4∨j=5∨j=6∨j=7:=by omega
   have hYr:=hYs.2
   have y0:=hYr 0;have y1:=hYr 1;have y2:=hYr 2;have y3:=hYr 3;have y4:=hYr 4;have y5:=hYr 5;have y6:=hYr 6;have y7:=hYr 7
   have hlY:∀ {z:Int},z<23→z<(Y.cells.length:Int):=fun h=>h
   rcases hjs with rfl | rfl | rfl | rfl | rfl | rfl | rfl | rfl
   ·refine WBnd.mk (by decide) ?_
    refine WGet.mk (i (Y.reads 0)) rfl ?_
    refine WRng.mk (by apply wrap_i64<;>omega) ?_
    refine WBnd.mk (by decide) ?_
    refine WBnd.mk ⟨by decide,hlY (by decide)⟩ ?_
    refine WRng.mk (by apply wrap_i64<;>omega) ?_
    conv=>whnf
    exact ⟨(k+1,Y.incR 0),⟨rfl,congrArg (fun l=>some (AV.var l)) (spR0 Y),trivial⟩,⟨g1,hk,hsucc⟩,by simp only;omega⟩
   ·refine WBnd.mk (by decide) ?_
    refine WGet.mk (i (Y.reads 1)) rfl ?_
    refine WRng.mk (by apply wrap_i64<;>omega) ?_
    refine WBnd.mk (by decide) ?_
    refine WBnd.mk ⟨by decide,hlY (by decide)⟩ ?_
    refine WRng.mk (by apply wrap_i64<;>omega) ?_
    conv=>whnf
    exact ⟨(k+1,Y.incR 1),⟨rfl,congrArg (fun l=>some (AV.var l)) (spR1 Y),trivial⟩,⟨g1,hk,hsucc⟩,by simp only;omega⟩
   ·refine WBnd.mk (by decide) ?_
    refine WGet.mk (i (Y.reads 2)) rfl ?_
    refine WRng.mk (by apply wrap_i64<;>omega) ?_
    refine WBnd.mk (by decide) ?_
    refine WBnd.mk ⟨by decide,hlY (by decide)⟩ ?_
    refine WRng.mk (by apply wrap_i64<;>omega) ?_
    conv=>whnf
    exact ⟨(k+1,Y.incR 2),⟨rfl,congrArg (fun l=>some (AV.var l)) (spR2 Y),trivial⟩,⟨g1,hk,hsucc⟩,by simp only;omega⟩
   ·refine WBnd.mk (by decide) ?_
    refine WGet.mk (i (Y.reads 3)) rfl ?_
    refine WRng.mk (by apply wrap_i64<;>omega) ?_
    refine WBnd.mk (by decide) ?_
    refine WBnd.mk ⟨by decide,hlY (by decide)⟩ ?_
    refine WRng.mk (by apply wrap_i64<;>omega) ?_
    conv=>whnf
    exact ⟨(k+1,Y.incR 3),⟨rfl,congrArg (fun l=>some (AV.var l)) (spR3 Y),trivial⟩,⟨g1,hk,hsucc⟩,by simp only;omega⟩
   ·refine WBnd.mk (by decide) ?_
    refine WGet.mk (i (Y.reads 4)) rfl ?_
    refine WRng.mk (by apply wrap_i64<;>omega) ?_
    refine WBnd.mk (by decide) ?_
    refine WBnd.mk ⟨by decide,hlY (by decide)⟩ ?_
    refine WRng.mk (by apply wrap_i64<;>omega) ?_
    conv=>whnf
    exact ⟨(k+1,Y.incR 4),⟨rfl,congrArg (fun l=>some (AV.var l)) (spR4 Y),trivial⟩,⟨g1,hk,hsucc⟩,by simp only;omega⟩
   ·refine WBnd.mk (by decide) ?_
    refine WGet.mk (i (Y.reads 5)) rfl ?_
    refine WRng.mk (by apply wrap_i64<;>omega) ?_
    refine WBnd.mk (by decide) ?_
    refine WBnd.mk ⟨by decide,hlY (by decide)⟩ ?_
    refine WRng.mk (by apply wrap_i64<;>omega) ?_
    conv=>whnf
    exact ⟨(k+1,Y.incR 5),⟨rfl,congrArg (fun l=>some (AV.var l)) (spR5 Y),trivial⟩,⟨g1,hk,hsucc⟩,by simp only;omega⟩
   ·refine WBnd.mk (by decide) ?_
    refine WGet.mk (i (Y.reads 6)) rfl ?_
    refine WRng.mk (by apply wrap_i64<;>omega) ?_
    refine WBnd.mk (by decide) ?_
    refine WBnd.mk ⟨by decide,hlY (by decide)⟩ ?_
    refine WRng.mk (by apply wrap_i64<;>omega) ?_
    conv=>whnf
    exact ⟨(k+1,Y.incR 6),⟨rfl,congrArg (fun l=>some (AV.var l)) (spR6 Y),trivial⟩,⟨g1,hk,hsucc⟩,by simp only;omega⟩
   ·refine WBnd.mk (by decide) ?_
    refine WGet.mk (i (Y.reads 7)) rfl ?_
    refine WRng.mk (by apply wrap_i64<;>omega) ?_
    refine WBnd.mk (by decide) ?_
    refine WBnd.mk ⟨by decide,hlY (by decide)⟩ ?_
    refine WRng.mk (by apply wrap_i64<;>omega) ?_
    conv=>whnf
    exact ⟨(k+1,Y.incR 7),⟨rfl,congrArg (fun l=>some (AV.var l)) (spR7 Y),trivial⟩,⟨g1,hk,hsucc⟩,by simp only;omega⟩
  ·have hk:k=(readsS o).length:=by
    have:¬ (k:Int)<(readsS o).length:=of_decide_eq_false hb3
    omega
   subst hk
   rw [List.take_length] at g3
   conv=>whnf
   rw [spliceL_all (l:=zeros23) (vs:=cellsL (.agg ⟨List.take 23 Y.cells⟩)) rfl]
   refine WRet.same ⟨?_,hle1.trans g1⟩
   rw [g3];rfl
end Go.Proofs.YtleofbpepfmfgaaGreatDoor
