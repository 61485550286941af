import Derived.Test.YtleofbpepfmfgaaGreatDoorVxRefReads
set_option maxRecDepth 100000
namespace Go.Proofs.YtleofbpepfmfgaaGreatDoor
open Go Go.Vx
open Go.Vx.IOp Go.Vx.IR Go.Vx.Opd
structure UseR where
 M:Mac
 u0:Int
 u1:Int
 u2:Int
 u3:Int
 r0:Int
 r1:Int
 r2:Int
 r3:Int
 r4:Int
 r5:Int
 r6:Int
 r7:Int
def UseR.cells (X:UseR):List Value:=[i X.M.u0,i X.M.u1,i X.M.u2,i X.M.u3,i X.M.l0,i X.M.l1,i X.M.l2,i X.M.l3,i X.M.rg,i X.M.bk,i X.M.pt,i X.u0,i X.u1,i X.u2,i X.u3,i X.r0,i X.r1,i X.r2,i X.r3,i X.r4,i X.r5,i X.r6,i X.r7]
def UseR.val (X:UseR):Value:=.agg ⟨X.cells⟩
def newU (M:Mac):UseR:=⟨M,0,0,0,0,0,0,0,0,0,0,0,0⟩
def UseR.uses (X:UseR):Nat→Int | 0=>X.u0 | 1=>X.u1 | 2=>X.u2 | _=>X.u3
def UseR.reads (X:UseR):Nat→Int | 0=>X.r0 | 1=>X.r1 | 2=>X.r2 | 3=>X.r3 | 4=>X.r4 | 5=>X.r5 | 6=>X.r6 | _=>X.r7
def UseR.incU (X:UseR):Nat→UseR
 | 0=>{ X with u0:=X.u0+1 } | 1=>{ X with u1:=X.u1+1 } | 2=>{ X with u2:=X.u2+1 } | _=>{ X with u3:=X.u3+1 }
def UseR.incR (X:UseR):Nat→UseR
 | 0=>{ X with r0:=X.r0+1 } | 1=>{ X with r1:=X.r1+1 } | 2=>{ X with r2:=X.r2+1 } | 3=>{ X with r3:=X.r3+1 }
 | 4=>{ X with r4:=X.r4+1 } | 5=>{ X with r5:=X.r5+1 } | 6=>{ X with r6:=X.r6+1 } | _=>{ X with r7:=X.r7+1 }
def UseR.small (X:UseR) (b:Int):Prop:=(∀ j,0≤X.uses j∧X.uses j≤b)∧∀ j,0≤X.reads j∧X.reads j≤b
theorem k4p (m:Mem) (M:Mac) (R:Ending→Mem→Prop):v1d.asks Tryz.prog [M.val] m R=WRet m R (.returned (newU M).val):=by kernel_rfl
theorem k7a (m:Mem) (M:Mac):q0m Tryz.prog 70 [M.val] m (newU M).val:=by
 refine q0e q0d Tryz.func70 k8s rfl ?_
 rw [k4p]
 exact WRet.same ⟨rfl,rfl⟩
theorem UseR.incU_M (X:UseR) (k:Nat):(X.incU k).M=X.M:=by unfold UseR.incU;split<;>rfl
theorem UseR.incR_M (X:UseR) (k:Nat):(X.incR k).M=X.M:=by unfold UseR.incR;split<;>rfl
theorem UseR.incU_uses (X:UseR) (k j:Nat):(X.incU k).uses j=X.uses j∨(X.incU k).uses j=X.uses j+1:=by
 rcases k with _|_|_|k<;>rcases j with _|_|_|j<;>first | exact .inl rfl | exact .inr rfl
theorem UseR.incU_reads (X:UseR) (k j:Nat):(X.incU k).reads j=X.reads j:=by unfold UseR.incU;split<;>rfl
theorem UseR.incR_uses (X:UseR) (k j:Nat):(X.incR k).uses j=X.uses j:=by unfold UseR.incR;split<;>rfl
theorem UseR.incR_reads (X:UseR) (k j:Nat):(X.incR k).reads j=X.reads j∨(X.incR k).reads j=X.reads j+1:=by
 rcases k with _|_|_|_|_|_|_|k<;>rcases j with _|_|_|_|_|_|_|j<;>first | exact .inl rfl | exact .inr rfl
theorem UseR.incU_small {X:UseR} {b:Int} (h:X.small b) (k:Nat):(X.incU k).small (b+1):=by
 refine ⟨fun j=>?_,fun j=>?_⟩
 ·have:=h.1 j;rcases X.incU_uses k j with e | e<;>rw [e]<;>omega
 ·have:=h.2 j;rw [X.incU_reads k j];omega
theorem UseR.incR_small {X:UseR} {b:Int} (h:X.small b) (k:Nat):(X.incR k).small (b+1):=by
 refine ⟨fun j=>?_,fun j=>?_⟩
 ·have:=h.1 j;rw [X.incR_uses k j];omega
 ·have:=h.2 j;rcases X.incR_reads k j with e | e<;>rw [e]<;>omega
def q0y (X:UseR) (L:List Int):UseR:=L.foldl (fun X r=>X.incR (r.tmod X.M.bk).toNat) X
def q4e (X:UseR) (o:OpR):UseR:=q0y (X.incU (q2j o.kd).1.toNat) (q0b o)
theorem v6e (k:Int):(q2j k).1=0∨(q2j k).1=1∨(q2j k).1=2∨(q2j k).1=3:=by
 unfold q2j;split
 ·exact .inl rfl
 ·split
  ·exact .inr (.inl rfl)
  ·split
   ·exact .inr (.inr (.inl rfl))
   ·split
    ·exact .inr (.inr (.inr rfl))
    ·exact .inl rfl
theorem q8g (L:List Int):∀ X,(q0y X L).M=X.M:=by
 induction L with
 | nil=>intro X;rfl
 | cons r L ih=>intro X;show (q0y (X.incR _) L).M=X.M;rw [ih,UseR.incR_M]
theorem q6y {b:Int}:∀ (L:List Int) (X:UseR),X.small b→(q0y X L).small (b+L.length)
 | [],X,h=>by
  have h2:(q0y X []).small b:=h
  simpa using h2
 | r :: L,X,h=>by
  have h1:=q6y L (X.incR (r.tmod X.M.bk).toNat) (UseR.incR_small h _)
  have e:b+((r :: L).length:Int)=b+1+(L.length:Int):=by simp;omega
  rw [e];exact h1
theorem q5r {X:UseR} {b b':Int} (h:X.small b) (hb:b≤b'):X.small b':=⟨fun j=>⟨(h.1 j).1,Int.le_trans (h.1 j).2 hb⟩,fun j=>⟨(h.2 j).1,Int.le_trans (h.2 j).2 hb⟩⟩
theorem spU0 (X:UseR):q0j (q0k X.val) (11+Int.toNat 0) (q0k (Value.int IntKind.i64 (X.u0+1)))=(X.incU 0).cells:=rfl
theorem spU1 (X:UseR):q0j (q0k X.val) (11+Int.toNat 1) (q0k (Value.int IntKind.i64 (X.u1+1)))=(X.incU 1).cells:=rfl
theorem spU2 (X:UseR):q0j (q0k X.val) (11+Int.toNat 2) (q0k (Value.int IntKind.i64 (X.u2+1)))=(X.incU 2).cells:=rfl
theorem spU3 (X:UseR):q0j (q0k X.val) (11+Int.toNat 3) (q0k (Value.int IntKind.i64 (X.u3+1)))=(X.incU 3).cells:=rfl
theorem spR0 (Y:UseR):q0j Y.cells (15+Int.toNat 0) (q0k (Value.int IntKind.i64 (Y.reads 0+1)))=(Y.incR 0).cells:=rfl
theorem spR1 (Y:UseR):q0j Y.cells (15+Int.toNat 1) (q0k (Value.int IntKind.i64 (Y.reads 1+1)))=(Y.incR 1).cells:=rfl
theorem spR2 (Y:UseR):q0j Y.cells (15+Int.toNat 2) (q0k (Value.int IntKind.i64 (Y.reads 2+1)))=(Y.incR 2).cells:=rfl
theorem spR3 (Y:UseR):q0j Y.cells (15+Int.toNat 3) (q0k (Value.int IntKind.i64 (Y.reads 3+1)))=(Y.incR 3).cells:=rfl
theorem spR4 (Y:UseR):q0j Y.cells (15+Int.toNat 4) (q0k (Value.int IntKind.i64 (Y.reads 4+1)))=(Y.incR 4).cells:=rfl
theorem spR5 (Y:UseR):q0j Y.cells (15+Int.toNat 5) (q0k (Value.int IntKind.i64 (Y.reads 5+1)))=(Y.incR 5).cells:=rfl
theorem spR6 (Y:UseR):q0j Y.cells (15+Int.toNat 6) (q0k (Value.int IntKind.i64 (Y.reads 6+1)))=(Y.incR 6).cells:=rfl
theorem spR7 (Y:UseR):q0j Y.cells (15+Int.toNat 7) (q0k (Value.int IntKind.i64 (Y.reads 7+1)))=(Y.incR 7).cells:=rfl
abbrev z0r:List Value:=[i 0,i 0,i 0,i 0,i 0,i 0,i 0,i 0,i 0,i 0,i 0,i 0,i 0,i 0,i 0,i 0,i 0,i 0,i 0,i 0,i 0,i 0,i 0]
theorem q8d {l vs:List Value} (h:vs.length=l.length):q0j l 0 vs=vs:=by
 rw [q5x vs l 0 (by omega)]
 rw [List.take_zero,List.nil_append,Nat.zero_add,h,List.drop_length,List.append_nil]
attribute [local irreducible] q0j in
set_option maxHeartbeats 1000000 in
theorem k4f {m:Mem} {T:Nat} {fr:Nat×Nat} (hm:m 0=some (.cells ⟨q2f⟩ T fr)) (X:UseR) (o:OpR) (hX:X.small 4611686018427387904) (hb:1≤X.M.bk∧X.M.bk≤8) (hr:∀ r∈q0b o,0≤r) :
  q0f Tryz.prog 71 [X.val,o.val] m fun e m'=>e=.returned (q4e X o).val∧Mem.le m m':=by
 refine q0e q0d Tryz.func71 k0t rfl ?_
 unfold q4e
 conv=>whnf
 refine q0a.pure (z9d hm o.kd) ?_
 have hXu:=hX.1
 have h0:=hXu 0;have h1:=hXu 1;have h2:=hXu 2;have h3:=hXu 3
 simp only [UseR.uses] at h0 h1 h2 h3
 unfold q7y
 have hL4:(q0b o).length≤4:=by
  have a:=q4t (rawS o) []
  have b:=q8f o
  unfold q0b q0h;simp only [List.length_nil] at a;omega
 have hlen:∀ {z:Int},z<23→z<((q0k X.val).length:Int):=fun h=>h
 rcases v6e o.kd with hc | hc | hc | hc
 ·rw [hc]
  refine WBnd.mk (by decide) ?_
  refine WGet.mk _ rfl ?_
  refine WRng.mk (by apply wrap_i64<;>omega) ?_
  refine WBnd.mk (by decide) ?_
  refine WBnd.mk ⟨by decide,hlen (by decide)⟩ ?_
  conv=>whnf
  refine q0a.mk (z2u hm o) ?_
  rintro _ m1 ⟨A,cA,rfl,hle1,hp1⟩
  obtain ⟨hx0,hx1⟩:=hp1.cells
  conv=>whnf
  refine q0v.mk (Nat×UseR) (fun s=>[(25,.val (i s.1)),(2,.var s.2.cells)]) (fun s m'=>Mem.le m1 m'∧s.1≤(q0b o).length∧q0y (X.incU (0:Int).toNat) ((q0b o).take s.1)=s.2) (fun s=>(q0b o).length - s.1) (0,X.incU (0:Int).toNat) ⟨rfl,congrArg (fun l=>some (AV.var l)) (spU0 X),trivial⟩ ⟨Mem.le.refl _,Nat.zero_le _,rfl⟩ ?_
  rintro ⟨k,Y⟩ m6 ⟨g1,g2,g3⟩
  simp only at g2 g3
  refine Br.mk (fun hb3=>?_) (fun hb3=>?_)
  ·have hk:k<(q0b o).length:=by
    have:(k:Int)<(q0b o).length:=of_decide_eq_true hb3
    omega
   obtain ⟨ad,rfl⟩:∃ ad,A=some ad:=by
    cases A with
    | none=>rw [hx0 rfl] at hk;simp at hk
    | some ad=>exact ⟨ad,rfl⟩
   have hcell:q0q m6 (ad.add k) (i (q0b o)[k]):=(IAt.cell (hx1 ad rfl) hk).mono g1
   have hYM:Y.M.bk=X.M.bk:=by rw [← g3,q8g,UseR.incU_M]
   have hYs:Y.small 4611686018427387909:=by
    rw [← g3]
    refine q5r (q6y _ _ (UseR.incU_small hX _)) ?_
    rw [List.length_take];omega
   have hsucc:q0y (X.incU (0:Int).toNat) ((q0b o).take (k+1))=Y.incR (((q0b o)[k]).tmod Y.M.bk).toNat:=by
    unfold q0y;rw [q4k hk]
    show UseR.incR (q0y (X.incU (0:Int).toNat) ((q0b o).take k)) _=_
    rw [g3]
    have:(q0y (X.incU (0:Int).toNat) ((q0b o).take k))=Y:=g3
    unfold q0y at this;rw [this]
   have hr0:=hr _ (List.getElem_mem hk)
   refine WIdx.mk ad rfl ⟨by omega,by simpa using hk⟩ ?_
   refine WLd.mk (i (q0b o)[k]) (by simpa using hcell) ?_
   refine WNe.mk (by rw [hYM];omega) ?_
   conv=>whnf
   have hj:0≤((q0b o)[k]).tmod Y.M.bk∧((q0b o)[k]).tmod Y.M.bk<8:=by
    rw [Int.tmod_eq_emod_of_nonneg hr0,hYM]
    have a:=Int.emod_nonneg (q0b o)[k] (show X.M.bk≠0 by omega)
    have b:=Int.emod_lt_of_pos (q0b o)[k] (show 0<X.M.bk by omega)
    omega
   generalize ((q0b o)[k]).tmod Y.M.bk=j at hj hsucc ⊢
   have hjs:j=0∨j=1∨j=2∨j=3∨j=4∨j=5∨j=6∨j=7:=by omega
   have hYr:=hYs.2
   have y0:=hYr 0;have y1:=hYr 1;have y2:=hYr 2;have y3:=hYr 3;have y4:=hYr 4;have y5:=hYr 5;have y6:=hYr 6;have y7:=hYr 7
   have hlY:∀ {z:Int},z<23→z<(Y.cells.length:Int):=fun h=>h
   rcases hjs with rfl | rfl | rfl | rfl | rfl | rfl | rfl | rfl
   ·refine WBnd.mk (by decide) ?_
    refine WGet.mk (i (Y.reads 0)) rfl ?_
    refine WRng.mk (by apply wrap_i64<;>omega) ?_
    refine WBnd.mk (by decide) ?_
    refine WBnd.mk ⟨by decide,hlY (by decide)⟩ ?_
    refine WRng.mk (by apply wrap_i64<;>omega) ?_
    conv=>whnf
    exact ⟨(k+1,Y.incR 0),⟨rfl,congrArg (fun l=>some (AV.var l)) (spR0 Y),trivial⟩,⟨g1,hk,hsucc⟩,by simp only;omega⟩
   ·refine WBnd.mk (by decide) ?_
    refine WGet.mk (i (Y.reads 1)) rfl ?_
    refine WRng.mk (by apply wrap_i64<;>omega) ?_
    refine WBnd.mk (by decide) ?_
    refine WBnd.mk ⟨by decide,hlY (by decide)⟩ ?_
    refine WRng.mk (by apply wrap_i64<;>omega) ?_
    conv=>whnf
    exact ⟨(k+1,Y.incR 1),⟨rfl,congrArg (fun l=>some (AV.var l)) (spR1 Y),trivial⟩,⟨g1,hk,hsucc⟩,by simp only;omega⟩
   ·refine WBnd.mk (by decide) ?_
    refine WGet.mk (i (Y.reads 2)) rfl ?_
    refine WRng.mk (by apply wrap_i64<;>omega) ?_
    refine WBnd.mk (by decide) ?_
    refine WBnd.mk ⟨by decide,hlY (by decide)⟩ ?_
    refine WRng.mk (by apply wrap_i64<;>omega) ?_
    conv=>whnf
    exact ⟨(k+1,Y.incR 2),⟨rfl,congrArg (fun l=>some (AV.var l)) (spR2 Y),trivial⟩,⟨g1,hk,hsucc⟩,by simp only;omega⟩
   ·refine WBnd.mk (by decide) ?_
    refine WGet.mk (i (Y.reads 3)) rfl ?_
    refine WRng.mk (by apply wrap_i64<;>omega) ?_
    refine WBnd.mk (by decide) ?_
    refine WBnd.mk ⟨by decide,hlY (by decide)⟩ ?_
    refine WRng.mk (by apply wrap_i64<;>omega) ?_
    conv=>whnf
    exact ⟨(k+1,Y.incR 3),⟨rfl,congrArg (fun l=>some (AV.var l)) (spR3 Y),trivial⟩,⟨g1,hk,hsucc⟩,by simp only;omega⟩
   ·refine WBnd.mk (by decide) ?_
    refine WGet.mk (i (Y.reads 4)) rfl ?_
    refine WRng.mk (by apply wrap_i64<;>omega) ?_
    refine WBnd.mk (by decide) ?_
    refine WBnd.mk ⟨by decide,hlY (by decide)⟩ ?_
    refine WRng.mk (by apply wrap_i64<;>omega) ?_
    conv=>whnf
    exact ⟨(k+1,Y.incR 4),⟨rfl,congrArg (fun l=>some (AV.var l)) (spR4 Y),trivial⟩,⟨g1,hk,hsucc⟩,by simp only;omega⟩
   ·refine WBnd.mk (by decide) ?_
    refine WGet.mk (i (Y.reads 5)) rfl ?_
    refine WRng.mk (by apply wrap_i64<;>omega) ?_
    refine WBnd.mk (by decide) ?_
    refine WBnd.mk ⟨by decide,hlY (by decide)⟩ ?_
    refine WRng.mk (by apply wrap_i64<;>omega) ?_
    conv=>whnf
    exact ⟨(k+1,Y.incR 5),⟨rfl,congrArg (fun l=>some (AV.var l)) (spR5 Y),trivial⟩,⟨g1,hk,hsucc⟩,by simp only;omega⟩
   ·refine WBnd.mk (by decide) ?_
    refine WGet.mk (i (Y.reads 6)) rfl ?_
    refine WRng.mk (by apply wrap_i64<;>omega) ?_
    refine WBnd.mk (by decide) ?_
    refine WBnd.mk ⟨by decide,hlY (by decide)⟩ ?_
    refine WRng.mk (by apply wrap_i64<;>omega) ?_
    conv=>whnf
    exact ⟨(k+1,Y.incR 6),⟨rfl,congrArg (fun l=>some (AV.var l)) (spR6 Y),trivial⟩,⟨g1,hk,hsucc⟩,by simp only;omega⟩
   ·refine WBnd.mk (by decide) ?_
    refine WGet.mk (i (Y.reads 7)) rfl ?_
    refine WRng.mk (by apply wrap_i64<;>omega) ?_
    refine WBnd.mk (by decide) ?_
    refine WBnd.mk ⟨by decide,hlY (by decide)⟩ ?_
    refine WRng.mk (by apply wrap_i64<;>omega) ?_
    conv=>whnf
    exact ⟨(k+1,Y.incR 7),⟨rfl,congrArg (fun l=>some (AV.var l)) (spR7 Y),trivial⟩,⟨g1,hk,hsucc⟩,by simp only;omega⟩
  ·have hk:k=(q0b o).length:=by
    have:¬ (k:Int)<(q0b o).length:=of_decide_eq_false hb3
    omega
   subst hk
   rw [List.take_length] at g3
   conv=>whnf
   rw [q8d (l:=z0r) (vs:=q0k (.agg ⟨List.take 23 Y.cells⟩)) rfl]
   refine WRet.same ⟨?_,hle1.trans g1⟩
   rw [g3];rfl
 ·rw [hc]
  refine WBnd.mk (by decide) ?_
  refine WGet.mk _ rfl ?_
  refine WRng.mk (by apply wrap_i64<;>omega) ?_
  refine WBnd.mk (by decide) ?_
  refine WBnd.mk ⟨by decide,hlen (by decide)⟩ ?_
  conv=>whnf
  refine q0a.mk (z2u hm o) ?_
  rintro _ m1 ⟨A,cA,rfl,hle1,hp1⟩
  obtain ⟨hx0,hx1⟩:=hp1.cells
  conv=>whnf
  refine q0v.mk (Nat×UseR) (fun s=>[(25,.val (i s.1)),(2,.var s.2.cells)]) (fun s m'=>Mem.le m1 m'∧s.1≤(q0b o).length∧q0y (X.incU (1:Int).toNat) ((q0b o).take s.1)=s.2) (fun s=>(q0b o).length - s.1) (0,X.incU (1:Int).toNat) ⟨rfl,congrArg (fun l=>some (AV.var l)) (spU1 X),trivial⟩ ⟨Mem.le.refl _,Nat.zero_le _,rfl⟩ ?_
  rintro ⟨k,Y⟩ m6 ⟨g1,g2,g3⟩
  simp only at g2 g3
  refine Br.mk (fun hb3=>?_) (fun hb3=>?_)
  ·have hk:k<(q0b o).length:=by
    have:(k:Int)<(q0b o).length:=of_decide_eq_true hb3
    omega
   obtain ⟨ad,rfl⟩:∃ ad,A=some ad:=by
    cases A with
    | none=>rw [hx0 rfl] at hk;simp at hk
    | some ad=>exact ⟨ad,rfl⟩
   have hcell:q0q m6 (ad.add k) (i (q0b o)[k]):=(IAt.cell (hx1 ad rfl) hk).mono g1
   have hYM:Y.M.bk=X.M.bk:=by rw [← g3,q8g,UseR.incU_M]
   have hYs:Y.small 4611686018427387909:=by
    rw [← g3]
    refine q5r (q6y _ _ (UseR.incU_small hX _)) ?_
    rw [List.length_take];omega
   have hsucc:q0y (X.incU (1:Int).toNat) ((q0b o).take (k+1))=Y.incR (((q0b o)[k]).tmod Y.M.bk).toNat:=by
    unfold q0y;rw [q4k hk]
    show UseR.incR (q0y (X.incU (1:Int).toNat) ((q0b o).take k)) _=_
    rw [g3]
    have:(q0y (X.incU (1:Int).toNat) ((q0b o).take k))=Y:=g3
    unfold q0y at this;rw [this]
   have hr0:=hr _ (List.getElem_mem hk)
   refine WIdx.mk ad rfl ⟨by omega,by simpa using hk⟩ ?_
   refine WLd.mk (i (q0b o)[k]) (by simpa using hcell) ?_
   refine WNe.mk (by rw [hYM];omega) ?_
   conv=>whnf
   have hj:0≤((q0b o)[k]).tmod Y.M.bk∧((q0b o)[k]).tmod Y.M.bk<8:=by
    rw [Int.tmod_eq_emod_of_nonneg hr0,hYM]
    have a:=Int.emod_nonneg (q0b o)[k] (show X.M.bk≠0 by omega)
    have b:=Int.emod_lt_of_pos (q0b o)[k] (show 0<X.M.bk by omega)
    omega
   generalize ((q0b o)[k]).tmod Y.M.bk=j at hj hsucc ⊢
   have hjs:j=0∨j=1∨j=2∨j=3∨j=4∨j=5∨j=6∨j=7:=by omega
   have hYr:=hYs.2
   have y0:=hYr 0;have y1:=hYr 1;have y2:=hYr 2;have y3:=hYr 3;have y4:=hYr 4;have y5:=hYr 5;have y6:=hYr 6;have y7:=hYr 7
   have hlY:∀ {z:Int},z<23→z<(Y.cells.length:Int):=fun h=>h
   rcases hjs with rfl | rfl | rfl | rfl | rfl | rfl | rfl | rfl
   ·refine WBnd.mk (by decide) ?_
    refine WGet.mk (i (Y.reads 0)) rfl ?_
    refine WRng.mk (by apply wrap_i64<;>omega) ?_
    refine WBnd.mk (by decide) ?_
    refine WBnd.mk ⟨by decide,hlY (by decide)⟩ ?_
    refine WRng.mk (by apply wrap_i64<;>omega) ?_
    conv=>whnf
    exact ⟨(k+1,Y.incR 0),⟨rfl,congrArg (fun l=>some (AV.var l)) (spR0 Y),trivial⟩,⟨g1,hk,hsucc⟩,by simp only;omega⟩
   ·refine WBnd.mk (by decide) ?_
    refine WGet.mk (i (Y.reads 1)) rfl ?_
    refine WRng.mk (by apply wrap_i64<;>omega) ?_
    refine WBnd.mk (by decide) ?_
    refine WBnd.mk ⟨by decide,hlY (by decide)⟩ ?_
    refine WRng.mk (by apply wrap_i64<;>omega) ?_
    conv=>whnf
    exact ⟨(k+1,Y.incR 1),⟨rfl,congrArg (fun l=>some (AV.var l)) (spR1 Y),trivial⟩,⟨g1,hk,hsucc⟩,by simp only;omega⟩
   ·refine WBnd.mk (by decide) ?_
    refine WGet.mk (i (Y.reads 2)) rfl ?_
    refine WRng.mk (by apply wrap_i64<;>omega) ?_
    refine WBnd.mk (by decide) ?_
    refine WBnd.mk ⟨by decide,hlY (by decide)⟩ ?_
    refine WRng.mk (by apply wrap_i64<;>omega) ?_
    conv=>whnf
    exact ⟨(k+1,Y.incR 2),⟨rfl,congrArg (fun l=>some (AV.var l)) (spR2 Y),trivial⟩,⟨g1,hk,hsucc⟩,by simp only;omega⟩
   ·refine WBnd.mk (by decide) ?_
    refine WGet.mk (i (Y.reads 3)) rfl ?_
    refine WRng.mk (by apply wrap_i64<;>omega) ?_
    refine WBnd.mk (by decide) ?_
    refine WBnd.mk ⟨by decide,hlY (by decide)⟩ ?_
    refine WRng.mk (by apply wrap_i64<;>omega) ?_
    conv=>whnf
    exact ⟨(k+1,Y.incR 3),⟨rfl,congrArg (fun l=>some (AV.var l)) (spR3 Y),trivial⟩,⟨g1,hk,hsucc⟩,by simp only;omega⟩
   ·refine WBnd.mk (by decide) ?_
    refine WGet.mk (i (Y.reads 4)) rfl ?_
    refine WRng.mk (by apply wrap_i64<;>omega) ?_
    refine WBnd.mk (by decide) ?_
    refine WBnd.mk ⟨by decide,hlY (by decide)⟩ ?_
    refine WRng.mk (by apply wrap_i64<;>omega) ?_
    conv=>whnf
    exact ⟨(k+1,Y.incR 4),⟨rfl,congrArg (fun l=>some (AV.var l)) (spR4 Y),trivial⟩,⟨g1,hk,hsucc⟩,by simp only;omega⟩
   ·refine WBnd.mk (by decide) ?_
    refine WGet.mk (i (Y.reads 5)) rfl ?_
    refine WRng.mk (by apply wrap_i64<;>omega) ?_
    refine WBnd.mk (by decide) ?_
    refine WBnd.mk ⟨by decide,hlY (by decide)⟩ ?_
    refine WRng.mk (by apply wrap_i64<;>omega) ?_
    conv=>whnf
    exact ⟨(k+1,Y.incR 5),⟨rfl,congrArg (fun l=>some (AV.var l)) (spR5 Y),trivial⟩,⟨g1,hk,hsucc⟩,by simp only;omega⟩
   ·refine WBnd.mk (by decide) ?_
    refine WGet.mk (i (Y.reads 6)) rfl ?_
    refine WRng.mk (by apply wrap_i64<;>omega) ?_
    refine WBnd.mk (by decide) ?_
    refine WBnd.mk ⟨by decide,hlY (by decide)⟩ ?_
    refine WRng.mk (by apply wrap_i64<;>omega) ?_
    conv=>whnf
    exact ⟨(k+1,Y.incR 6),⟨rfl,congrArg (fun l=>some (AV.var l)) (spR6 Y),trivial⟩,⟨g1,hk,hsucc⟩,by simp only;omega⟩
   ·refine WBnd.mk (by decide) ?_
    refine WGet.mk (i (Y.reads 7)) rfl ?_
    refine WRng.mk (by apply wrap_i64<;>omega) ?_
    refine WBnd.mk (by decide) ?_
    refine WBnd.mk ⟨by decide,hlY (by decide)⟩ ?_
    refine WRng.mk (by apply wrap_i64<;>omega) ?_
    conv=>whnf
    exact ⟨(k+1,Y.incR 7),⟨rfl,congrArg (fun l=>some (AV.var l)) (spR7 Y),trivial⟩,⟨g1,hk,hsucc⟩,by simp only;omega⟩
  ·have hk:k=(q0b o).length:=by
    have:¬ (k:Int)<(q0b o).length:=of_decide_eq_false hb3
    omega
   subst hk
   rw [List.take_length] at g3
   conv=>whnf
   rw [q8d (l:=z0r) (vs:=q0k (.agg ⟨List.take 23 Y.cells⟩)) rfl]
   refine WRet.same ⟨?_,hle1.trans g1⟩
   rw [g3];rfl
 ·rw [hc]
  refine WBnd.mk (by decide) ?_
  refine WGet.mk _ rfl ?_
  refine WRng.mk (by apply wrap_i64<;>omega) ?_
  refine WBnd.mk (by decide) ?_
  refine WBnd.mk ⟨by decide,hlen (by decide)⟩ ?_
  conv=>whnf
  refine q0a.mk (z2u hm o) ?_
  rintro _ m1 ⟨A,cA,rfl,hle1,hp1⟩
  obtain ⟨hx0,hx1⟩:=hp1.cells
  conv=>whnf
  refine q0v.mk (Nat×UseR) (fun s=>[(25,.val (i s.1)),(2,.var s.2.cells)]) (fun s m'=>Mem.le m1 m'∧s.1≤(q0b o).length∧q0y (X.incU (2:Int).toNat) ((q0b o).take s.1)=s.2) (fun s=>(q0b o).length - s.1) (0,X.incU (2:Int).toNat) ⟨rfl,congrArg (fun l=>some (AV.var l)) (spU2 X),trivial⟩ ⟨Mem.le.refl _,Nat.zero_le _,rfl⟩ ?_
  rintro ⟨k,Y⟩ m6 ⟨g1,g2,g3⟩
  simp only at g2 g3
  refine Br.mk (fun hb3=>?_) (fun hb3=>?_)
  ·have hk:k<(q0b o).length:=by
    have:(k:Int)<(q0b o).length:=of_decide_eq_true hb3
    omega
   obtain ⟨ad,rfl⟩:∃ ad,A=some ad:=by
    cases A with
    | none=>rw [hx0 rfl] at hk;simp at hk
    | some ad=>exact ⟨ad,rfl⟩
   have hcell:q0q m6 (ad.add k) (i (q0b o)[k]):=(IAt.cell (hx1 ad rfl) hk).mono g1
   have hYM:Y.M.bk=X.M.bk:=by rw [← g3,q8g,UseR.incU_M]
   have hYs:Y.small 4611686018427387909:=by
    rw [← g3]
    refine q5r (q6y _ _ (UseR.incU_small hX _)) ?_
    rw [List.length_take];omega
   have hsucc:q0y (X.incU (2:Int).toNat) ((q0b o).take (k+1))=Y.incR (((q0b o)[k]).tmod Y.M.bk).toNat:=by
    unfold q0y;rw [q4k hk]
    show UseR.incR (q0y (X.incU (2:Int).toNat) ((q0b o).take k)) _=_
    rw [g3]
    have:(q0y (X.incU (2:Int).toNat) ((q0b o).take k))=Y:=g3
    unfold q0y at this;rw [this]
   have hr0:=hr _ (List.getElem_mem hk)
   refine WIdx.mk ad rfl ⟨by omega,by simpa using hk⟩ ?_
   refine WLd.mk (i (q0b o)[k]) (by simpa using hcell) ?_
   refine WNe.mk (by rw [hYM];omega) ?_
   conv=>whnf
   have hj:0≤((q0b o)[k]).tmod Y.M.bk∧((q0b o)[k]).tmod Y.M.bk<8:=by
    rw [Int.tmod_eq_emod_of_nonneg hr0,hYM]
    have a:=Int.emod_nonneg (q0b o)[k] (show X.M.bk≠0 by omega)
    have b:=Int.emod_lt_of_pos (q0b o)[k] (show 0<X.M.bk by omega)
    omega
   generalize ((q0b o)[k]).tmod Y.M.bk=j at hj hsucc ⊢
   have hjs:j=0∨j=1∨j=2∨j=3∨j=4∨j=5∨j=6∨j=7:=by omega
   have hYr:=hYs.2
   have y0:=hYr 0;have y1:=hYr 1;have y2:=hYr 2;have y3:=hYr 3;have y4:=hYr 4;have y5:=hYr 5;have y6:=hYr 6;have y7:=hYr 7
   have hlY:∀ {z:Int},z<23→z<(Y.cells.length:Int):=fun h=>h
   rcases hjs with rfl | rfl | rfl | rfl | rfl | rfl | rfl | rfl
   ·refine WBnd.mk (by decide) ?_
    refine WGet.mk (i (Y.reads 0)) rfl ?_
    refine WRng.mk (by apply wrap_i64<;>omega) ?_
    refine WBnd.mk (by decide) ?_
    refine WBnd.mk ⟨by decide,hlY (by decide)⟩ ?_
    refine WRng.mk (by apply wrap_i64<;>omega) ?_
    conv=>whnf
    exact ⟨(k+1,Y.incR 0),⟨rfl,congrArg (fun l=>some (AV.var l)) (spR0 Y),trivial⟩,⟨g1,hk,hsucc⟩,by simp only;omega⟩
   ·refine WBnd.mk (by decide) ?_
    refine WGet.mk (i (Y.reads 1)) rfl ?_
    refine WRng.mk (by apply wrap_i64<;>omega) ?_
    refine WBnd.mk (by decide) ?_
    refine WBnd.mk ⟨by decide,hlY (by decide)⟩ ?_
    refine WRng.mk (by apply wrap_i64<;>omega) ?_
    conv=>whnf
    exact ⟨(k+1,Y.incR 1),⟨rfl,congrArg (fun l=>some (AV.var l)) (spR1 Y),trivial⟩,⟨g1,hk,hsucc⟩,by simp only;omega⟩
   ·refine WBnd.mk (by decide) ?_
    refine WGet.mk (i (Y.reads 2)) rfl ?_
    refine WRng.mk (by apply wrap_i64<;>omega) ?_
    refine WBnd.mk (by decide) ?_
    refine WBnd.mk ⟨by decide,hlY (by decide)⟩ ?_
    refine WRng.mk (by apply wrap_i64<;>omega) ?_
    conv=>whnf
    exact ⟨(k+1,Y.incR 2),⟨rfl,congrArg (fun l=>some (AV.var l)) (spR2 Y),trivial⟩,⟨g1,hk,hsucc⟩,by simp only;omega⟩
   ·refine WBnd.mk (by decide) ?_
    refine WGet.mk (i (Y.reads 3)) rfl ?_
    refine WRng.mk (by apply wrap_i64<;>omega) ?_
    refine WBnd.mk (by decide) ?_
    refine WBnd.mk ⟨by decide,hlY (by decide)⟩ ?_
    refine WRng.mk (by apply wrap_i64<;>omega) ?_
    conv=>whnf
    exact ⟨(k+1,Y.incR 3),⟨rfl,congrArg (fun l=>some (AV.var l)) (spR3 Y),trivial⟩,⟨g1,hk,hsucc⟩,by simp only;omega⟩
   ·refine WBnd.mk (by decide) ?_
    refine WGet.mk (i (Y.reads 4)) rfl ?_
    refine WRng.mk (by apply wrap_i64<;>omega) ?_
    refine WBnd.mk (by decide) ?_
    refine WBnd.mk ⟨by decide,hlY (by decide)⟩ ?_
    refine WRng.mk (by apply wrap_i64<;>omega) ?_
    conv=>whnf
    exact ⟨(k+1,Y.incR 4),⟨rfl,congrArg (fun l=>some (AV.var l)) (spR4 Y),trivial⟩,⟨g1,hk,hsucc⟩,by simp only;omega⟩
   ·refine WBnd.mk (by decide) ?_
    refine WGet.mk (i (Y.reads 5)) rfl ?_
    refine WRng.mk (by apply wrap_i64<;>omega) ?_
    refine WBnd.mk (by decide) ?_
    refine WBnd.mk ⟨by decide,hlY (by decide)⟩ ?_
    refine WRng.mk (by apply wrap_i64<;>omega) ?_
    conv=>whnf
    exact ⟨(k+1,Y.incR 5),⟨rfl,congrArg (fun l=>some (AV.var l)) (spR5 Y),trivial⟩,⟨g1,hk,hsucc⟩,by simp only;omega⟩
   ·refine WBnd.mk (by decide) ?_
    refine WGet.mk (i (Y.reads 6)) rfl ?_
    refine WRng.mk (by apply wrap_i64<;>omega) ?_
    refine WBnd.mk (by decide) ?_
    refine WBnd.mk ⟨by decide,hlY (by decide)⟩ ?_
    refine WRng.mk (by apply wrap_i64<;>omega) ?_
    conv=>whnf
    exact ⟨(k+1,Y.incR 6),⟨rfl,congrArg (fun l=>some (AV.var l)) (spR6 Y),trivial⟩,⟨g1,hk,hsucc⟩,by simp only;omega⟩
   ·refine WBnd.mk (by decide) ?_
    refine WGet.mk (i (Y.reads 7)) rfl ?_
    refine WRng.mk (by apply wrap_i64<;>omega) ?_
    refine WBnd.mk (by decide) ?_
    refine WBnd.mk ⟨by decide,hlY (by decide)⟩ ?_
    refine WRng.mk (by apply wrap_i64<;>omega) ?_
    conv=>whnf
    exact ⟨(k+1,Y.incR 7),⟨rfl,congrArg (fun l=>some (AV.var l)) (spR7 Y),trivial⟩,⟨g1,hk,hsucc⟩,by simp only;omega⟩
  ·have hk:k=(q0b o).length:=by
    have:¬ (k:Int)<(q0b o).length:=of_decide_eq_false hb3
    omega
   subst hk
   rw [List.take_length] at g3
   conv=>whnf
   rw [q8d (l:=z0r) (vs:=q0k (.agg ⟨List.take 23 Y.cells⟩)) rfl]
   refine WRet.same ⟨?_,hle1.trans g1⟩
   rw [g3];rfl
 ·rw [hc]
  refine WBnd.mk (by decide) ?_
  refine WGet.mk _ rfl ?_
  refine WRng.mk (by apply wrap_i64<;>omega) ?_
  refine WBnd.mk (by decide) ?_
  refine WBnd.mk ⟨by decide,hlen (by decide)⟩ ?_
  conv=>whnf
  refine q0a.mk (z2u hm o) ?_
  rintro _ m1 ⟨A,cA,rfl,hle1,hp1⟩
  obtain ⟨hx0,hx1⟩:=hp1.cells
  conv=>whnf
  refine q0v.mk (Nat×UseR) (fun s=>[(25,.val (i s.1)),(2,.var s.2.cells)]) (fun s m'=>Mem.le m1 m'∧s.1≤(q0b o).length∧q0y (X.incU (3:Int).toNat) ((q0b o).take s.1)=s.2) (fun s=>(q0b o).length - s.1) (0,X.incU (3:Int).toNat) ⟨rfl,congrArg (fun l=>some (AV.var l)) (spU3 X),trivial⟩ ⟨Mem.le.refl _,Nat.zero_le _,rfl⟩ ?_
  rintro ⟨k,Y⟩ m6 ⟨g1,g2,g3⟩
  simp only at g2 g3
  refine Br.mk (fun hb3=>?_) (fun hb3=>?_)
  ·have hk:k<(q0b o).length:=by
    have:(k:Int)<(q0b o).length:=of_decide_eq_true hb3
    omega
   obtain ⟨ad,rfl⟩:∃ ad,A=some ad:=by
    cases A with
    | none=>rw [hx0 rfl] at hk;simp at hk
    | some ad=>exact ⟨ad,rfl⟩
   have hcell:q0q m6 (ad.add k) (i (q0b o)[k]):=(IAt.cell (hx1 ad rfl) hk).mono g1
   have hYM:Y.M.bk=X.M.bk:=by rw [← g3,q8g,UseR.incU_M]
   have hYs:Y.small 4611686018427387909:=by
    rw [← g3]
    refine q5r (q6y _ _ (UseR.incU_small hX _)) ?_
    rw [List.length_take];omega
   have hsucc:q0y (X.incU (3:Int).toNat) ((q0b o).take (k+1))=Y.incR (((q0b o)[k]).tmod Y.M.bk).toNat:=by
    unfold q0y;rw [q4k hk]
    show UseR.incR (q0y (X.incU (3:Int).toNat) ((q0b o).take k)) _=_
    rw [g3]
    have:(q0y (X.incU (3:Int).toNat) ((q0b o).take k))=Y:=g3
    unfold q0y at this;rw [this]
   have hr0:=hr _ (List.getElem_mem hk)
   refine WIdx.mk ad rfl ⟨by omega,by simpa using hk⟩ ?_
   refine WLd.mk (i (q0b o)[k]) (by simpa using hcell) ?_
   refine WNe.mk (by rw [hYM];omega) ?_
   conv=>whnf
   have hj:0≤((q0b o)[k]).tmod Y.M.bk∧((q0b o)[k]).tmod Y.M.bk<8:=by
    rw [Int.tmod_eq_emod_of_nonneg hr0,hYM]
    have a:=Int.emod_nonneg (q0b o)[k] (show X.M.bk≠0 by omega)
    have b:=Int.emod_lt_of_pos (q0b o)[k] (show 0<X.M.bk by omega)
    omega
   generalize ((q0b o)[k]).tmod Y.M.bk=j at hj hsucc ⊢
   have hjs:j=0∨j=1∨j=2∨j=3∨j=4∨j=5∨j=6∨j=7:=by omega
   have hYr:=hYs.2
   have y0:=hYr 0;have y1:=hYr 1;have y2:=hYr 2;have y3:=hYr 3;have y4:=hYr 4;have y5:=hYr 5;have y6:=hYr 6;have y7:=hYr 7
   have hlY:∀ {z:Int},z<23→z<(Y.cells.length:Int):=fun h=>h
   rcases hjs with rfl | rfl | rfl | rfl | rfl | rfl | rfl | rfl
   ·refine WBnd.mk (by decide) ?_
    refine WGet.mk (i (Y.reads 0)) rfl ?_
    refine WRng.mk (by apply wrap_i64<;>omega) ?_
    refine WBnd.mk (by decide) ?_
    refine WBnd.mk ⟨by decide,hlY (by decide)⟩ ?_
    refine WRng.mk (by apply wrap_i64<;>omega) ?_
    conv=>whnf
    exact ⟨(k+1,Y.incR 0),⟨rfl,congrArg (fun l=>some (AV.var l)) (spR0 Y),trivial⟩,⟨g1,hk,hsucc⟩,by simp only;omega⟩
   ·refine WBnd.mk (by decide) ?_
    refine WGet.mk (i (Y.reads 1)) rfl ?_
    refine WRng.mk (by apply wrap_i64<;>omega) ?_
    refine WBnd.mk (by decide) ?_
    refine WBnd.mk ⟨by decide,hlY (by decide)⟩ ?_
    refine WRng.mk (by apply wrap_i64<;>omega) ?_
    conv=>whnf
    exact ⟨(k+1,Y.incR 1),⟨rfl,congrArg (fun l=>some (AV.var l)) (spR1 Y),trivial⟩,⟨g1,hk,hsucc⟩,by simp only;omega⟩
   ·refine WBnd.mk (by decide) ?_
    refine WGet.mk (i (Y.reads 2)) rfl ?_
    refine WRng.mk (by apply wrap_i64<;>omega) ?_
    refine WBnd.mk (by decide) ?_
    refine WBnd.mk ⟨by decide,hlY (by decide)⟩ ?_
    refine WRng.mk (by apply wrap_i64<;>omega) ?_
    conv=>whnf
    exact ⟨(k+1,Y.incR 2),⟨rfl,congrArg (fun l=>some (AV.var l)) (spR2 Y),trivial⟩,⟨g1,hk,hsucc⟩,by simp only;omega⟩
   ·refine WBnd.mk (by decide) ?_
    refine WGet.mk (i (Y.reads 3)) rfl ?_
    refine WRng.mk (by apply wrap_i64<;>omega) ?_
    refine WBnd.mk (by decide) ?_
    refine WBnd.mk ⟨by decide,hlY (by decide)⟩ ?_
    refine WRng.mk (by apply wrap_i64<;>omega) ?_
    conv=>whnf
    exact ⟨(k+1,Y.incR 3),⟨rfl,congrArg (fun l=>some (AV.var l)) (spR3 Y),trivial⟩,⟨g1,hk,hsucc⟩,by simp only;omega⟩
   ·refine WBnd.mk (by decide) ?_
    refine WGet.mk (i (Y.reads 4)) rfl ?_
    refine WRng.mk (by apply wrap_i64<;>omega) ?_
    refine WBnd.mk (by decide) ?_
    refine WBnd.mk ⟨by decide,hlY (by decide)⟩ ?_
    refine WRng.mk (by apply wrap_i64<;>omega) ?_
    conv=>whnf
    exact ⟨(k+1,Y.incR 4),⟨rfl,congrArg (fun l=>some (AV.var l)) (spR4 Y),trivial⟩,⟨g1,hk,hsucc⟩,by simp only;omega⟩
   ·refine WBnd.mk (by decide) ?_
    refine WGet.mk (i (Y.reads 5)) rfl ?_
    refine WRng.mk (by apply wrap_i64<;>omega) ?_
    refine WBnd.mk (by decide) ?_
    refine WBnd.mk ⟨by decide,hlY (by decide)⟩ ?_
    refine WRng.mk (by apply wrap_i64<;>omega) ?_
    conv=>whnf
    exact ⟨(k+1,Y.incR 5),⟨rfl,congrArg (fun l=>some (AV.var l)) (spR5 Y),trivial⟩,⟨g1,hk,hsucc⟩,by simp only;omega⟩
   ·refine WBnd.mk (by decide) ?_
    refine WGet.mk (i (Y.reads 6)) rfl ?_
    refine WRng.mk (by apply wrap_i64<;>omega) ?_
    refine WBnd.mk (by decide) ?_
    refine WBnd.mk ⟨by decide,hlY (by decide)⟩ ?_
    refine WRng.mk (by apply wrap_i64<;>omega) ?_
    conv=>whnf
    exact ⟨(k+1,Y.incR 6),⟨rfl,congrArg (fun l=>some (AV.var l)) (spR6 Y),trivial⟩,⟨g1,hk,hsucc⟩,by simp only;omega⟩
   ·refine WBnd.mk (by decide) ?_
    refine WGet.mk (i (Y.reads 7)) rfl ?_
    refine WRng.mk (by apply wrap_i64<;>omega) ?_
    refine WBnd.mk (by decide) ?_
    refine WBnd.mk ⟨by decide,hlY (by decide)⟩ ?_
    refine WRng.mk (by apply wrap_i64<;>omega) ?_
    conv=>whnf
    exact ⟨(k+1,Y.incR 7),⟨rfl,congrArg (fun l=>some (AV.var l)) (spR7 Y),trivial⟩,⟨g1,hk,hsucc⟩,by simp only;omega⟩
  ·have hk:k=(q0b o).length:=by
    have:¬ (k:Int)<(q0b o).length:=of_decide_eq_false hb3
    omega
   subst hk
   rw [List.take_length] at g3
   conv=>whnf
   rw [q8d (l:=z0r) (vs:=q0k (.agg ⟨List.take 23 Y.cells⟩)) rfl]
   refine WRet.same ⟨?_,hle1.trans g1⟩
   rw [g3];rfl
def maxS (C:List Int):Int:=C.foldl max (C.headD 0)
theorem k3e {m:Mem} {v:Value} {C:List Int} (hv:IAt m v C) (hlen:C.length<2 ^ 63) (hne:0<C.length):q0m Tryz.prog 105 [v] m (i (maxS C)):=by
 obtain ⟨a,c,rfl,h0,h1,hcap⟩:=hv
 obtain ⟨ad,rfl⟩:∃ ad,a=some ad:=by
  cases a with
  | none=>rw [h0 rfl] at hne;simp at hne
  | some ad=>exact ⟨ad,rfl⟩
 have hhead:C.headD 0=C[0]:=by cases C with | nil=>simp at hne | cons x xs=>rfl
 refine q0e q0d Tryz.func105 j3r rfl ?_
 refine Br.mk (fun hb=>?_) (fun hb=>?_)
 ·exfalso
  have:(C.length:Int)<1:=of_decide_eq_true hb
  omega
 refine WIdx.mk ad rfl ⟨by omega,by omega⟩ ?_
 refine WLd.mk (i C[0]) (by simpa using IAt.cell (h1 ad rfl) hne) ?_
 conv=>whnf
 refine q0v.mk Nat (fun k=>[(4,.val (i k)),(3,.val (i ((C.take k).foldl max C[0])))]) (fun k m'=>m=m'∧1≤k∧k≤C.length) (fun k=>C.length - k) 1 ⟨rfl,by
   have:(C.take 1).foldl max C[0]=C[0]:=by
    cases C with
    | nil=>simp at hne
    | cons x xs=>simp
   rw [this];rfl,trivial⟩ ⟨rfl,Nat.le_refl _,hne⟩ ?_
 rintro k m' ⟨rfl,hk1,hk⟩
 refine Br.mk (fun hb2=>?_) (fun hb2=>?_)
 ·have hk2:k<C.length:=by
   have:(k:Int)<C.length:=of_decide_eq_true hb2
   omega
  refine WIdx.mk ad rfl ⟨by omega,by simpa using hk2⟩ ?_
  refine WLd.mk (i C[k]) (by simpa using IAt.cell (h1 ad rfl) hk2) ?_
  refine WRng.mk (by apply wrap_i64<;>omega) ?_
  conv=>whnf
  refine ⟨k+1,⟨rfl,?_,trivial⟩,⟨rfl,by omega,hk2⟩,by omega⟩
  have e:(C.take (k+1)).foldl max C[0]=max ((C.take k).foldl max C[0]) C[k]:=q4k hk2
  rw [e,← z7f]
  rfl
 ·have hk2:k=C.length:=by
   have:¬ (k:Int)<C.length:=of_decide_eq_false hb2
   omega
  subst hk2
  refine WRet.same ⟨?_,rfl⟩
  rw [List.take_length]
  unfold maxS;rw [hhead];rfl
theorem w4a {C:List Int} {p:Int} (hne:0<C.length):decide (maxS C≤p)=C.all fun x=>decide (x≤p):=by
 have key:∀ (L:List Int) (a:Int),(L.foldl max a≤p)↔a≤p∧∀ x∈L,x≤p:=by
  intro L
  induction L with
  | nil=>intro a;simp
  | cons x L ih=>intro a;simp only [List.foldl_cons,ih,List.mem_cons,forall_eq_or_imp,Int.max_le];exact and_assoc
 rw [Bool.eq_iff_iff,decide_eq_true_eq,List.all_eq_true]
 unfold maxS
 rw [key]
 constructor
 ·rintro ⟨_,h⟩ x hx;exact decide_eq_true (h x hx)
 ·intro h
  have h2:∀ x∈C,x≤p:=fun x hx=>of_decide_eq_true (h x hx)
  refine ⟨?_,h2⟩
  cases C with
  | nil=>simp at hne
  | cons x xs=>exact h2 x (by simp)
def UseR.readL (X:UseR):List Int:=[X.r0,X.r1,X.r2,X.r3,X.r4,X.r5,X.r6,X.r7]
def q4w (X:UseR):Bool:=((decide (X.u0≤X.M.u0)&&decide (X.u1≤X.M.u1))&&(decide (X.u2≤X.M.u2)&&decide (X.u3≤X.M.u3)))&&X.readL.all fun x=>decide (x≤X.M.pt)
theorem j4x (m:Mem) (X:UseR):q0f Tryz.prog 72 [X.val] m fun e m'=>e=.returned (.bool (q4w X))∧Mem.le m m':=by
 refine q0e q0d Tryz.func72 j6l rfl ?_
 refine WNew.mk fun b hb=>?_
 have hle1:Mem.le m (m.set b (Cells X.cells 135)):=Mem.le_set hb
 have hcell:∀ (z:Nat) (v:Value),X.cells[z]? = some v→q0q (m.set b (Cells X.cells 135)) ⟨b,z,none⟩ v:=fun z v h=>⟨_,_,_,Mem.set_same _ _ _,rfl,by simpa using h⟩
 have hcells:∀ (off:Nat) (vs:List Value),(∀ j v,vs[j]? = some v→X.cells[off+j]? = some v)→q0g (m.set b (Cells X.cells 135)) ⟨b,off,none⟩ vs:=fun off vs h=>q0g.blk (Mem.set_same _ _ _) h
 have hgoal:Cells (q0k X.val) 135=Cells X.cells 135:=rfl
 rw [hgoal]
 generalize m.set b (Cells X.cells 135)=m1 at *
 refine WLds.mk [i X.u0,i X.u1,i X.u2,i X.u3] ?_ rfl ?_
 ·rw [add0]
  refine hcells 11 _ fun j v hj=>?_
  have hj4:j<4:=(List.getElem?_eq_some_iff.1 hj).1
  rw [← hj]
  have:j=0∨j=1∨j=2∨j=3:=by omega
  rcases this with rfl | rfl | rfl | rfl<;>rfl
 conv=>whnf
 refine q0v.mk Nat (fun k=>[(7,.val (i k))]) (fun k m'=>m1=m'∧k≤4∧∀ j,j<k→X.uses j≤X.M.unit j) (fun k=>4 - k) 0 ⟨rfl,trivial⟩ ⟨rfl,Nat.zero_le _,fun j hj=>by omega⟩ ?_
 rintro k m' ⟨rfl,hk,hq⟩
 refine Br.mk (fun hb2=>?_) (fun hb2=>?_)
 ·have hk4:k<4:=by
   have:(k:Int)<4:=of_decide_eq_true hb2
   omega
  have hks:k=0∨k=1∨k=2∨k=3:=by omega
  refine WBnd.mk ⟨by omega,by omega⟩ ?_
  refine WGet.mk (i (X.uses k)) (by rcases hks with rfl | rfl | rfl | rfl<;>rfl) ?_
  refine WBnd.mk ⟨by omega,by omega⟩ ?_
  refine WLd.mk (i (X.M.unit k)) ?_ ?_
  ·rw [add0,addo,addo]
   refine hcell _ _ ?_
   rcases hks with rfl | rfl | rfl | rfl<;>rfl
  refine Br.mk (fun hb3=>?_) (fun hb3=>?_)
  ·have h3:X.uses k>X.M.unit k:=of_decide_eq_true hb3
   refine WRet.same ⟨?_,hle1⟩
   have:q4w X=false:=by
    unfold q4w
    rcases hks with rfl | rfl | rfl | rfl
    ·rw [decide_eq_false (p:=X.u0≤X.M.u0) (by simp only [UseR.uses,Mac.unit] at h3;omega)];simp
    ·rw [decide_eq_false (p:=X.u1≤X.M.u1) (by simp only [UseR.uses,Mac.unit] at h3;omega)];simp
    ·rw [decide_eq_false (p:=X.u2≤X.M.u2) (by simp only [UseR.uses,Mac.unit] at h3;omega)];simp
    ·rw [decide_eq_false (p:=X.u3≤X.M.u3) (by simp only [UseR.uses,Mac.unit] at h3;omega)];simp
   rw [this];rfl
  ·have h3:¬ X.uses k>X.M.unit k:=of_decide_eq_false hb3
   refine WRng.mk (by apply wrap_i64<;>omega) ?_
   conv=>whnf
   refine ⟨k+1,⟨rfl,trivial⟩,⟨rfl,hk4,fun j hj=>?_⟩,by omega⟩
   by_cases e:j=k
   ·subst e;omega
   ·exact hq j (by omega)
 ·have hk4:k=4:=by
   have:¬ (k:Int)<4:=of_decide_eq_false hb2
   omega
  subst hk4
  have hR:IAt m1 (.slice (some ⟨b,15,none⟩) 8 8) X.readL:=by
   refine ⟨some ⟨b,15,none⟩,8,rfl,(fun h=>by cases h),fun ad ha=>?_,Nat.le_refl _⟩
   cases ha
   refine hcells 15 _ fun j v hj=>?_
   have hj8:j<8:=by have:=(List.getElem?_eq_some_iff.1 hj).1;simpa [UseR.readL] using this
   rw [← hj]
   have:j=0∨j=1∨j=2∨j=3∨j=4∨j=5∨j=6∨j=7:=by omega
   rcases this with rfl | rfl | rfl | rfl | rfl | rfl | rfl | rfl<;>rfl
  have q0:=hq 0 (by omega);have q1:=hq 1 (by omega);have q2:=hq 2 (by omega);have q3:=hq 3 (by omega)
  have hfit:q4w X=decide (maxS X.readL≤X.M.pt):=by
   unfold q4w
   rw [w4a (by simp [UseR.readL])]
   rw [decide_eq_true (p:=X.u0≤X.M.u0) q0,decide_eq_true (p:=X.u1≤X.M.u1) q1,decide_eq_true (p:=X.u2≤X.M.u2) q2,decide_eq_true (p:=X.u3≤X.M.u3) q3]
   rfl
  rw [hfit]
  have hadr:((⟨b,0,none⟩:Addr).add 15).add 0=⟨b,15,none⟩:=by rw [add0,addo]
  refine WLd.mk (i X.M.pt) ?_ ?_
  ·rw [add0,addo];exact hcell 10 _ rfl
  conv=>whnf
  refine ⟨?_,trivial⟩
  conv=>whnf
  rw [hadr]
  refine q1r.mk (k3e hR (by simp [UseR.readL]) (by simp [UseR.readL])) ?_
  rintro _ m2 ⟨rfl,rfl⟩
  refine ⟨Mem.le.refl _,?_⟩
  exact WRet.same ⟨rfl,hle1⟩
def ocs (O:List OpR):List Value:=(O.map OpR.cells).flatten
def OAt (m:Mem) (v:Value) (O:List OpR):Prop:=∃ a c,v=.slice a O.length c∧(a=none→O=[])∧(∀ ad,a=some ad→q0g m ad (ocs O))∧O.length≤c
theorem z9a (O:List OpR):(ocs O).length=O.length * 7:=by
 induction O with
 | nil=>rfl
 | cons e E ih=>simp only [ocs,List.map_cons,List.flatten_cons,List.length_append,List.length_cons] at ih ⊢;rw [ih];simp [OpR.cells];omega
theorem v6d {O:List OpR} {k j:Nat} (hk:k<O.length) (hj:j<7):(ocs O)[k * 7+j]? = (O[k]).cells[j]?:=by
 induction O generalizing k with
 | nil=>simp at hk
 | cons e E ih =>
  have hc:ocs (e :: E)=e.cells++ocs E:=by simp [ocs]
  have hl:e.cells.length=7:=rfl
  rw [hc]
  cases k with
  | zero=>rw [List.getElem?_append_left (by omega)];simp
  | succ k =>
   rw [List.getElem?_append_right (by omega)]
   have:(k+1) * 7+j - e.cells.length=k * 7+j:=by omega
   rw [this,ih (by simpa using hk)];simp
theorem OAt.cells {m:Mem} {ad:Addr} {O:List OpR} (h:q0g m ad (ocs O)) {k:Nat} (hk:k<O.length):q0g m (ad.add (k * 7)) (O[k]).cells:=fun j v hj=>by
 have hl:j<7:=(List.getElem?_eq_some_iff.1 hj).1
 rw [q0o]
 exact h _ _ (by rw [v6d hk hl];exact hj)
def z6w (rg r:Int):Bool:=!(inR r 0 (rg - 1))
def q7p (M:Mac) (o:OpR):Bool:=!(q2j o.kd).2||(q0b o).any (z6w M.rg)
def q0p (M:Mac) (O:List OpR):UseR:=O.foldl q4e (newU M)
theorem v5f (X:UseR) (o:OpR):(q4e X o).M=X.M:=by unfold q4e;rw [q8g,UseR.incU_M]
theorem z8z (O:List OpR):∀ X,(O.foldl q4e X).M=X.M:=by
 induction O with
 | nil=>intro X;rfl
 | cons o O ih=>intro X;rw [List.foldl_cons,ih,v5f]
theorem v5h (o:OpR):(q0b o).length≤4:=by
 have a:=q4t (rawS o) []
 have b:=q8f o
 unfold q0b q0h;simp only [List.length_nil] at a;omega
theorem w4s {X:UseR} {b:Int} (o:OpR) (h:X.small b):(q4e X o).small (b+5):=by
 unfold q4e
 refine q5r (q6y _ _ (UseR.incU_small h _)) ?_
 have:=v5h o
 omega
theorem z2t:∀ (O:List OpR) {X:UseR} {b:Int},X.small b→(O.foldl q4e X).small (b+5 * O.length)
 | [],X,b,h=>by
  have h2:(List.foldl q4e X []).small b:=h
  simpa using h2
 | o :: O,X,b,h=>by
  have h1:=z2t O (w4s o h)
  have e:b+5 * ((o :: O).length:Int)=b+5+5 * (O.length:Int):=by simp;omega
  rw [e];exact h1
theorem z4o (M:Mac):(newU M).small 0:=by
 refine ⟨fun j=>?_,fun j=>?_⟩
 ·have:(newU M).uses j=0:=by rcases j with _|_|_|j<;>rfl
  rw [this];omega
 ·have:(newU M).reads j=0:=by rcases j with _|_|_|_|_|_|_|j<;>rfl
  rw [this];omega
theorem spAll (Y:UseR):q0j z0r 0 (q0k Y.val)=Y.cells:=q8d (l:=z0r) (vs:=q0k Y.val) rfl
theorem w0n (X Y:UseR):q0j X.cells 0 (q0k Y.val)=Y.cells:=q8d (l:=X.cells) (vs:=q0k Y.val) rfl
abbrev v2y:List Value:=[i 0,i 0,i 0,i 0,i 0,i 0,i 0]
theorem sp7 (o:OpR):q0j v2y 0 (q0k (.agg ⟨o.cells⟩))=o.cells:=q8d (l:=v2y) (vs:=q0k (.agg ⟨o.cells⟩)) rfl
theorem z6f {M:Mac} (h:M.ok=true):(1≤M.rg∧M.rg≤4096)∧(1≤M.bk∧M.bk≤8)∧(4≤M.pt∧M.pt≤32):=by
 unfold Mac.ok inR at h
 simp only [Bool.and_eq_true,decide_eq_true_eq] at h
 omega
end Go.Proofs.YtleofbpepfmfgaaGreatDoor
