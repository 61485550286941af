import Derived.Test.YtleofbpepfmfgaaGreatDoorVxTogether
set_option maxRecDepth 100000
namespace Go.Proofs.YtleofbpepfmfgaaGreatDoor
open Go Go.Vx
open Go.Vx.IOp Go.Vx.IR Go.Vx.Opd
def UseR.useL (X:UseR):List Int:=[X.u0,X.u1,X.u2,X.u3]
theorem z1z:∀ (L:List Int) (X:UseR),(q0y X L).useL=X.useL
 | [],X=>rfl
 | r :: L,X=>by
  show (q0y (X.incR _) L).useL=X.useL
  rw [z1z L]
  unfold UseR.incR;split<;>rfl
theorem q9a {X:UseR} {j n:Nat} (hj:j<n) (hn:n≤8):((X.readL.take n).map i)[j]? = some (i (X.reads j)):=by
 have h8:j=0∨j=1∨j=2∨j=3∨j=4∨j=5∨j=6∨j=7:=by omega
 rw [List.getElem?_map,List.getElem?_take,if_pos hj]
 rcases h8 with rfl | rfl | rfl | rfl | rfl | rfl | rfl | rfl<;>rfl
theorem z5k {X:UseR} {j n:Nat} (hj:j<n) (hn:n≤8):(X.incR j).readL.take n=(X.readL.take n).set j (X.reads j+1):=by
 have h8:j=0∨j=1∨j=2∨j=3∨j=4∨j=5∨j=6∨j=7:=by omega
 have e:(X.incR j).readL=X.readL.set j (X.reads j+1):=by
  rcases h8 with rfl | rfl | rfl | rfl | rfl | rfl | rfl | rfl<;>rfl
 rw [e,List.take_set]
theorem v2l {M:Mac} {o:OpR} (h:q7p M o=false):∀ r∈q0b o,0≤r:=fun r hr=>by
 unfold q7p at h
 rw [Bool.or_eq_false_iff] at h
 have h1:=List.any_eq_false.1 h.2 r hr
 have h2:inR r 0 (M.rg - 1)=true:=by
  cases hh:inR r 0 (M.rg - 1) with
  | true=>rfl
  | false=>exact absurd (by unfold z6w;rw [hh];rfl) h1
 unfold inR at h2
 simp only [Bool.and_eq_true,decide_eq_true_eq] at h2
 omega
def j4i (X:UseR) (b n:Nat):Value:=.tuple ⟨[.agg ⟨X.useL.map i⟩,.slice (some ⟨b,0,none⟩) n n]⟩
set_option maxHeartbeats 1000000 in
theorem k4i {m:Mem} {v:Value} (M:Mac) {O:List OpR} (hO:OAt m v O) (hl:O.length≤400) (hbk:1≤M.bk∧M.bk≤8) (hgood:∀ o∈O,q7p M o=false) :
  q0f Tryz.prog 114 [M.val,v] m fun e m'=>∃ b,e=.returned (j4i (q0p M O) b M.bk.toNat)∧Mem.le m m'∧m' b=some (Cells (((q0p M O).readL.take M.bk.toNat).map i) 3):=by
 obtain ⟨a,c,rfl,h0,h1,hcap⟩:=hO
 refine q0e q0d Tryz.func114 k8e rfl ?_
 conv=>whnf
 refine q2z.mk ⟨by omega,Int.le_refl _,by omega⟩ fun b hbm=>?_
 have hz:(List.replicate M.bk.toNat [i 0]).flatten=((newU M).readL.take M.bk.toNat).map i:=by
  have h8:M.bk.toNat=1∨M.bk.toNat=2∨M.bk.toNat=3∨M.bk.toNat=4∨M.bk.toNat=5∨M.bk.toNat=6∨M.bk.toNat=7∨M.bk.toNat=8:=by omega
  rcases h8 with h | h | h | h | h | h | h | h<;>rw [h]<;>rfl
 rw [hz]
 have hle0:Mem.le m (m.set b (Cells (((newU M).readL.take M.bk.toNat).map i) 3)):=Mem.le_set hbm
 have hcell0:=Mem.set_same m b (Cells (((newU M).readL.take M.bk.toNat).map i) 3)
 generalize m.set b (Cells (((newU M).readL.take M.bk.toNat).map i) 3)=m0 at *
 conv=>whnf
 refine q0v.mk Nat (fun k=>[(8,.val (i k)),(6,.var ((q0p M (O.take k)).useL.map i))]) (fun k m'=>Mem.le m m'∧k≤O.length∧m' b=some (Cells (((q0p M (O.take k)).readL.take M.bk.toNat).map i) 3)) (fun k=>O.length - k) 0
  ⟨rfl,rfl,trivial⟩ ⟨hle0,Nat.zero_le _,hcell0⟩ ?_
 rintro k m1 ⟨g1,g2,g4⟩
 have hXM:(q0p M (O.take k)).M=M:=by unfold q0p;rw [z8z];rfl
 have hXs:(q0p M (O.take k)).small 2000:=by
  unfold q0p
  refine q5r (z2t _ (z4o M)) ?_
  rw [List.length_take];omega
 refine Br.mk (fun hb2=>?_) (fun hb2=>?_)
 ·have hk:k<O.length:=by
   have:(k:Int)<O.length:=of_decide_eq_true hb2
   omega
  obtain ⟨ad,rfl⟩:∃ ad,a=some ad:=by
   cases a with
   | none=>rw [h0 rfl] at hk;simp at hk
   | some ad=>exact ⟨ad,rfl⟩
  have hsuccK:q0p M (O.take (k+1))=q4e (q0p M (O.take k)) O[k]:=by unfold q0p;exact q4k hk
  have hpos:=v2l (hgood _ (List.getElem_mem hk))
  have hcells:=(OAt.cells (h1 ad rfl) hk).mono g1
  refine WIdx.mk ad rfl ⟨by omega,by simpa using hk⟩ ?_
  refine WLd.mk (i (O[k]).kd) ?_ ?_
  ·have:=hcells 0 (i (O[k]).kd) rfl
   simpa using this
  generalize hok:O[k]=o at *
  have hL4:=v5h o
  have x0:=hXs.1 0;have x1:=hXs.1 1;have x2:=hXs.1 2;have x3:=hXs.1 3
  conv=>whnf
  refine q0a.pure (z8i m1 o.kd) ?_
  unfold q7y
  have hlU:∀ {z:Int},z<4→z<((List.map i (q0p M (O.take k)).useL).length:Int):=fun h=>h
  rcases v6e o.kd with hc | hc | hc | hc
  ·rw [hc]
   refine WBnd.mk (by decide) ?_
   refine WGet.mk (i ((q0p M (O.take k)).uses 0)) rfl ?_
   refine WRng.mk (by apply wrap_i64<;>omega) ?_
   refine WBnd.mk (by decide) ?_
   refine WBnd.mk ⟨by decide,hlU (by decide)⟩ ?_
   refine WIdx.mk ad rfl ⟨by omega,by simpa using hk⟩ ?_
   refine WLds.mk o.cells (by simpa using hcells) rfl ?_
   conv=>whnf
   refine q0a.mk (z5c m1 o) ?_
   rintro _ m2 ⟨A,cA,rfl,hle2,hp2⟩
   obtain ⟨hx0,hx1⟩:=hp2.cells
   conv=>whnf
   refine q0v.mk Nat (fun j=>[(12,.val (i j))]) (fun j m'=>Mem.le m m'∧(∀ ad,A=some ad→q0g m' ad ((q0b o).map i))∧m' b=some (Cells (((q0y ((q0p M (O.take k)).incU 0) ((q0b o).take j)).readL.take M.bk.toNat).map i) 3)∧j≤(q0b o).length) (fun j=>(q0b o).length - j) 0
    ⟨rfl,trivial⟩ ⟨g1.trans hle2,hx1,by
     have e:(q0y ((q0p M (O.take k)).incU 0) ((q0b o).take 0)).readL=(q0p M (O.take k)).readL:=rfl
     rw [e];exact hle2 _ _ g4,Nat.zero_le _⟩ ?_
   rintro j m3 ⟨q1,q2,q3,q4⟩
   refine Br.mk (fun hb4=>?_) (fun hb4=>?_)
   ·have hj:j<(q0b o).length:=by
     have:(j:Int)<(q0b o).length:=of_decide_eq_true hb4
     omega
    obtain ⟨ad2,rfl⟩:∃ ad,A=some ad:=by
     cases A with
     | none=>rw [hx0 rfl] at hj;simp at hj
     | some ad=>exact ⟨ad,rfl⟩
    have hcell:q0q m3 (ad2.add j) (i (q0b o)[j]):=IAt.cell (q2 ad2 rfl) hj
    have hne2:ad2.block≠b:=by
     intro e
     rcases hp2 with ⟨h3,_⟩ | ⟨b',h3,_,h4,_⟩
     ·cases h3
     ·cases h3
      simp only at e
      rw [e,g4] at h4;cases h4
    have hYM:(q0y ((q0p M (O.take k)).incU 0) ((q0b o).take j)).M=M:=by rw [q8g,UseR.incU_M,hXM]
    have hYs:(q0y ((q0p M (O.take k)).incU 0) ((q0b o).take j)).small 3000:=by
     refine q5r (q6y _ _ (UseR.incU_small hXs _)) ?_
     rw [List.length_take];omega
    have hsucc:q0y ((q0p M (O.take k)).incU 0) ((q0b o).take (j+1))=(q0y ((q0p M (O.take k)).incU 0) ((q0b o).take j)).incR (((q0b o)[j]).tmod M.bk).toNat:=by
     have e:=q4k (f:=fun (X:UseR) r=>X.incR (r.tmod X.M.bk).toNat) (s:=(q0p M (O.take k)).incU 0) hj
     have e2:(List.foldl (fun (X:UseR) r=>X.incR (r.tmod X.M.bk).toNat) ((q0p M (O.take k)).incU 0) ((q0b o).take j)).M=M:=hYM
     unfold q0y
     rw [e,e2]
    have hr0:=hpos _ (List.getElem_mem hj)
    have hjb:0≤((q0b o)[j]).tmod M.bk∧((q0b o)[j]).tmod M.bk<M.bk:=by
     rw [Int.tmod_eq_emod_of_nonneg hr0]
     exact ⟨Int.emod_nonneg _ (by omega),Int.emod_lt_of_pos _ (by omega)⟩
    generalize hY:q0y ((q0p M (O.take k)).incU 0) ((q0b o).take j)=Y at *
    have hget:((Y.readL.take M.bk.toNat).map i)[(((q0b o)[j]).tmod M.bk).toNat]? = some (i (Y.reads (((q0b o)[j]).tmod M.bk).toNat)):=q9a (by omega) (by omega)
    have hYr:=hYs.2 (((q0b o)[j]).tmod M.bk).toNat
    have hlenY:((Y.readL.take M.bk.toNat).map i).length=M.bk.toNat:=by simp [UseR.readL];omega
    refine WIdx.mk ad2 rfl ⟨by omega,by simpa using hj⟩ ?_
    refine WLd.mk (i (q0b o)[j]) (by simpa using hcell) ?_
    refine WNe.mk (by omega) ?_
    refine WIdx.mk ⟨b,0,none⟩ rfl ⟨by omega,by omega⟩ ?_
    refine WLd.mk (i (Y.reads (((q0b o)[j]).tmod M.bk).toNat)) ?_ ?_
    ·rw [add0]
     exact ⟨_,_,_,q3,rfl,by simpa using hget⟩
    refine WRng.mk (by apply wrap_i64<;>omega) ?_
    refine WIdx.mk ⟨b,0,none⟩ rfl ⟨by omega,by omega⟩ ?_
    conv=>whnf
    refine ⟨?_,trivial⟩
    refine WSt.mk ((Y.readL.take M.bk.toNat).map i) 3 ?_ ?_ ?_ ?_
    ·rw [add0];exact q3
    ·rw [add0]
    ·rw [add0]
     show _ * 1+1≤((Y.readL.take M.bk.toNat).map i).length
     omega
    simp only [add0]
    refine WRng.mk (by apply wrap_i64<;>omega) ?_
    conv=>whnf
    refine ⟨j+1,⟨rfl,trivial⟩,⟨q2n q1 hbm,fun ad' ha'=>?_,?_,hj⟩,by omega⟩
    ·refine q0g.keep (q2 ad' ha') fun o2 h2=>?_
     cases ha'
     rw [Mem.set_other _ _ hne2];exact h2
    ·rw [Mem.set_same,hsucc,z5k (by omega) (by omega)]
     show some (Cells (((Y.readL.take M.bk.toNat).map i).set _ _) 3)=_
     rw [Nat.mul_one,List.map_set]
   ·have hj:j=(q0b o).length:=by
     have:¬ (j:Int)<(q0b o).length:=of_decide_eq_false hb4
     omega
    subst hj
    rw [List.take_length] at q3
    have hsucc:q0p M (O.take (k+1))=q0y ((q0p M (O.take k)).incU 0) (q0b o):=by
     rw [hsuccK];unfold q4e;rw [hc];rfl
    refine WRng.mk (by apply wrap_i64<;>omega) ?_
    conv=>whnf
    refine ⟨k+1,⟨rfl,?_,trivial⟩,⟨q1,hk,by rw [hsucc];exact q3⟩,by omega⟩
    rw [hsucc,z1z]
    rfl
  ·rw [hc]
   refine WBnd.mk (by decide) ?_
   refine WGet.mk (i ((q0p M (O.take k)).uses 1)) rfl ?_
   refine WRng.mk (by apply wrap_i64<;>omega) ?_
   refine WBnd.mk (by decide) ?_
   refine WBnd.mk ⟨by decide,hlU (by decide)⟩ ?_
   refine WIdx.mk ad rfl ⟨by omega,by simpa using hk⟩ ?_
   refine WLds.mk o.cells (by simpa using hcells) rfl ?_
   conv=>whnf
   refine q0a.mk (z5c m1 o) ?_
   rintro _ m2 ⟨A,cA,rfl,hle2,hp2⟩
   obtain ⟨hx0,hx1⟩:=hp2.cells
   conv=>whnf
   refine q0v.mk Nat (fun j=>[(12,.val (i j))]) (fun j m'=>Mem.le m m'∧(∀ ad,A=some ad→q0g m' ad ((q0b o).map i))∧m' b=some (Cells (((q0y ((q0p M (O.take k)).incU 1) ((q0b o).take j)).readL.take M.bk.toNat).map i) 3)∧j≤(q0b o).length) (fun j=>(q0b o).length - j) 0
    ⟨rfl,trivial⟩ ⟨g1.trans hle2,hx1,by
     have e:(q0y ((q0p M (O.take k)).incU 1) ((q0b o).take 0)).readL=(q0p M (O.take k)).readL:=rfl
     rw [e];exact hle2 _ _ g4,Nat.zero_le _⟩ ?_
   rintro j m3 ⟨q1,q2,q3,q4⟩
   refine Br.mk (fun hb4=>?_) (fun hb4=>?_)
   ·have hj:j<(q0b o).length:=by
     have:(j:Int)<(q0b o).length:=of_decide_eq_true hb4
     omega
    obtain ⟨ad2,rfl⟩:∃ ad,A=some ad:=by
     cases A with
     | none=>rw [hx0 rfl] at hj;simp at hj
     | some ad=>exact ⟨ad,rfl⟩
    have hcell:q0q m3 (ad2.add j) (i (q0b o)[j]):=IAt.cell (q2 ad2 rfl) hj
    have hne2:ad2.block≠b:=by
     intro e
     rcases hp2 with ⟨h3,_⟩ | ⟨b',h3,_,h4,_⟩
     ·cases h3
     ·cases h3
      simp only at e
      rw [e,g4] at h4;cases h4
    have hYM:(q0y ((q0p M (O.take k)).incU 1) ((q0b o).take j)).M=M:=by rw [q8g,UseR.incU_M,hXM]
    have hYs:(q0y ((q0p M (O.take k)).incU 1) ((q0b o).take j)).small 3000:=by
     refine q5r (q6y _ _ (UseR.incU_small hXs _)) ?_
     rw [List.length_take];omega
    have hsucc:q0y ((q0p M (O.take k)).incU 1) ((q0b o).take (j+1))=(q0y ((q0p M (O.take k)).incU 1) ((q0b o).take j)).incR (((q0b o)[j]).tmod M.bk).toNat:=by
     have e:=q4k (f:=fun (X:UseR) r=>X.incR (r.tmod X.M.bk).toNat) (s:=(q0p M (O.take k)).incU 1) hj
     have e2:(List.foldl (fun (X:UseR) r=>X.incR (r.tmod X.M.bk).toNat) ((q0p M (O.take k)).incU 1) ((q0b o).take j)).M=M:=hYM
     unfold q0y
     rw [e,e2]
    have hr0:=hpos _ (List.getElem_mem hj)
    have hjb:0≤((q0b o)[j]).tmod M.bk∧((q0b o)[j]).tmod M.bk<M.bk:=by
     rw [Int.tmod_eq_emod_of_nonneg hr0]
     exact ⟨Int.emod_nonneg _ (by omega),Int.emod_lt_of_pos _ (by omega)⟩
    generalize hY:q0y ((q0p M (O.take k)).incU 1) ((q0b o).take j)=Y at *
    have hget:((Y.readL.take M.bk.toNat).map i)[(((q0b o)[j]).tmod M.bk).toNat]? = some (i (Y.reads (((q0b o)[j]).tmod M.bk).toNat)):=q9a (by omega) (by omega)
    have hYr:=hYs.2 (((q0b o)[j]).tmod M.bk).toNat
    have hlenY:((Y.readL.take M.bk.toNat).map i).length=M.bk.toNat:=by simp [UseR.readL];omega
    refine WIdx.mk ad2 rfl ⟨by omega,by simpa using hj⟩ ?_
    refine WLd.mk (i (q0b o)[j]) (by simpa using hcell) ?_
    refine WNe.mk (by omega) ?_
    refine WIdx.mk ⟨b,0,none⟩ rfl ⟨by omega,by omega⟩ ?_
    refine WLd.mk (i (Y.reads (((q0b o)[j]).tmod M.bk).toNat)) ?_ ?_
    ·rw [add0]
     exact ⟨_,_,_,q3,rfl,by simpa using hget⟩
    refine WRng.mk (by apply wrap_i64<;>omega) ?_
    refine WIdx.mk ⟨b,0,none⟩ rfl ⟨by omega,by omega⟩ ?_
    conv=>whnf
    refine ⟨?_,trivial⟩
    refine WSt.mk ((Y.readL.take M.bk.toNat).map i) 3 ?_ ?_ ?_ ?_
    ·rw [add0];exact q3
    ·rw [add0]
    ·rw [add0]
     show _ * 1+1≤((Y.readL.take M.bk.toNat).map i).length
     omega
    simp only [add0]
    refine WRng.mk (by apply wrap_i64<;>omega) ?_
    conv=>whnf
    refine ⟨j+1,⟨rfl,trivial⟩,⟨q2n q1 hbm,fun ad' ha'=>?_,?_,hj⟩,by omega⟩
    ·refine q0g.keep (q2 ad' ha') fun o2 h2=>?_
     cases ha'
     rw [Mem.set_other _ _ hne2];exact h2
    ·rw [Mem.set_same,hsucc,z5k (by omega) (by omega)]
     show some (Cells (((Y.readL.take M.bk.toNat).map i).set _ _) 3)=_
     rw [Nat.mul_one,List.map_set]
   ·have hj:j=(q0b o).length:=by
     have:¬ (j:Int)<(q0b o).length:=of_decide_eq_false hb4
     omega
    subst hj
    rw [List.take_length] at q3
    have hsucc:q0p M (O.take (k+1))=q0y ((q0p M (O.take k)).incU 1) (q0b o):=by
     rw [hsuccK];unfold q4e;rw [hc];rfl
    refine WRng.mk (by apply wrap_i64<;>omega) ?_
    conv=>whnf
    refine ⟨k+1,⟨rfl,?_,trivial⟩,⟨q1,hk,by rw [hsucc];exact q3⟩,by omega⟩
    rw [hsucc,z1z]
    rfl
  ·rw [hc]
   refine WBnd.mk (by decide) ?_
   refine WGet.mk (i ((q0p M (O.take k)).uses 2)) rfl ?_
   refine WRng.mk (by apply wrap_i64<;>omega) ?_
   refine WBnd.mk (by decide) ?_
   refine WBnd.mk ⟨by decide,hlU (by decide)⟩ ?_
   refine WIdx.mk ad rfl ⟨by omega,by simpa using hk⟩ ?_
   refine WLds.mk o.cells (by simpa using hcells) rfl ?_
   conv=>whnf
   refine q0a.mk (z5c m1 o) ?_
   rintro _ m2 ⟨A,cA,rfl,hle2,hp2⟩
   obtain ⟨hx0,hx1⟩:=hp2.cells
   conv=>whnf
   refine q0v.mk Nat (fun j=>[(12,.val (i j))]) (fun j m'=>Mem.le m m'∧(∀ ad,A=some ad→q0g m' ad ((q0b o).map i))∧m' b=some (Cells (((q0y ((q0p M (O.take k)).incU 2) ((q0b o).take j)).readL.take M.bk.toNat).map i) 3)∧j≤(q0b o).length) (fun j=>(q0b o).length - j) 0
    ⟨rfl,trivial⟩ ⟨g1.trans hle2,hx1,by
     have e:(q0y ((q0p M (O.take k)).incU 2) ((q0b o).take 0)).readL=(q0p M (O.take k)).readL:=rfl
     rw [e];exact hle2 _ _ g4,Nat.zero_le _⟩ ?_
   rintro j m3 ⟨q1,q2,q3,q4⟩
   refine Br.mk (fun hb4=>?_) (fun hb4=>?_)
   ·have hj:j<(q0b o).length:=by
     have:(j:Int)<(q0b o).length:=of_decide_eq_true hb4
     omega
    obtain ⟨ad2,rfl⟩:∃ ad,A=some ad:=by
     cases A with
     | none=>rw [hx0 rfl] at hj;simp at hj
     | some ad=>exact ⟨ad,rfl⟩
    have hcell:q0q m3 (ad2.add j) (i (q0b o)[j]):=IAt.cell (q2 ad2 rfl) hj
    have hne2:ad2.block≠b:=by
     intro e
     rcases hp2 with ⟨h3,_⟩ | ⟨b',h3,_,h4,_⟩
     ·cases h3
     ·cases h3
      simp only at e
      rw [e,g4] at h4;cases h4
    have hYM:(q0y ((q0p M (O.take k)).incU 2) ((q0b o).take j)).M=M:=by rw [q8g,UseR.incU_M,hXM]
    have hYs:(q0y ((q0p M (O.take k)).incU 2) ((q0b o).take j)).small 3000:=by
     refine q5r (q6y _ _ (UseR.incU_small hXs _)) ?_
     rw [List.length_take];omega
    have hsucc:q0y ((q0p M (O.take k)).incU 2) ((q0b o).take (j+1))=(q0y ((q0p M (O.take k)).incU 2) ((q0b o).take j)).incR (((q0b o)[j]).tmod M.bk).toNat:=by
     have e:=q4k (f:=fun (X:UseR) r=>X.incR (r.tmod X.M.bk).toNat) (s:=(q0p M (O.take k)).incU 2) hj
     have e2:(List.foldl (fun (X:UseR) r=>X.incR (r.tmod X.M.bk).toNat) ((q0p M (O.take k)).incU 2) ((q0b o).take j)).M=M:=hYM
     unfold q0y
     rw [e,e2]
    have hr0:=hpos _ (List.getElem_mem hj)
    have hjb:0≤((q0b o)[j]).tmod M.bk∧((q0b o)[j]).tmod M.bk<M.bk:=by
     rw [Int.tmod_eq_emod_of_nonneg hr0]
     exact ⟨Int.emod_nonneg _ (by omega),Int.emod_lt_of_pos _ (by omega)⟩
    generalize hY:q0y ((q0p M (O.take k)).incU 2) ((q0b o).take j)=Y at *
    have hget:((Y.readL.take M.bk.toNat).map i)[(((q0b o)[j]).tmod M.bk).toNat]? = some (i (Y.reads (((q0b o)[j]).tmod M.bk).toNat)):=q9a (by omega) (by omega)
    have hYr:=hYs.2 (((q0b o)[j]).tmod M.bk).toNat
    have hlenY:((Y.readL.take M.bk.toNat).map i).length=M.bk.toNat:=by simp [UseR.readL];omega
    refine WIdx.mk ad2 rfl ⟨by omega,by simpa using hj⟩ ?_
    refine WLd.mk (i (q0b o)[j]) (by simpa using hcell) ?_
    refine WNe.mk (by omega) ?_
    refine WIdx.mk ⟨b,0,none⟩ rfl ⟨by omega,by omega⟩ ?_
    refine WLd.mk (i (Y.reads (((q0b o)[j]).tmod M.bk).toNat)) ?_ ?_
    ·rw [add0]
     exact ⟨_,_,_,q3,rfl,by simpa using hget⟩
    refine WRng.mk (by apply wrap_i64<;>omega) ?_
    refine WIdx.mk ⟨b,0,none⟩ rfl ⟨by omega,by omega⟩ ?_
    conv=>whnf
    refine ⟨?_,trivial⟩
    refine WSt.mk ((Y.readL.take M.bk.toNat).map i) 3 ?_ ?_ ?_ ?_
    ·rw [add0];exact q3
    ·rw [add0]
    ·rw [add0]
     show _ * 1+1≤((Y.readL.take M.bk.toNat).map i).length
     omega
    simp only [add0]
    refine WRng.mk (by apply wrap_i64<;>omega) ?_
    conv=>whnf
    refine ⟨j+1,⟨rfl,trivial⟩,⟨q2n q1 hbm,fun ad' ha'=>?_,?_,hj⟩,by omega⟩
    ·refine q0g.keep (q2 ad' ha') fun o2 h2=>?_
     cases ha'
     rw [Mem.set_other _ _ hne2];exact h2
    ·rw [Mem.set_same,hsucc,z5k (by omega) (by omega)]
     show some (Cells (((Y.readL.take M.bk.toNat).map i).set _ _) 3)=_
     rw [Nat.mul_one,List.map_set]
   ·have hj:j=(q0b o).length:=by
     have:¬ (j:Int)<(q0b o).length:=of_decide_eq_false hb4
     omega
    subst hj
    rw [List.take_length] at q3
    have hsucc:q0p M (O.take (k+1))=q0y ((q0p M (O.take k)).incU 2) (q0b o):=by
     rw [hsuccK];unfold q4e;rw [hc];rfl
    refine WRng.mk (by apply wrap_i64<;>omega) ?_
    conv=>whnf
    refine ⟨k+1,⟨rfl,?_,trivial⟩,⟨q1,hk,by rw [hsucc];exact q3⟩,by omega⟩
    rw [hsucc,z1z]
    rfl
  ·rw [hc]
   refine WBnd.mk (by decide) ?_
   refine WGet.mk (i ((q0p M (O.take k)).uses 3)) rfl ?_
   refine WRng.mk (by apply wrap_i64<;>omega) ?_
   refine WBnd.mk (by decide) ?_
   refine WBnd.mk ⟨by decide,hlU (by decide)⟩ ?_
   refine WIdx.mk ad rfl ⟨by omega,by simpa using hk⟩ ?_
   refine WLds.mk o.cells (by simpa using hcells) rfl ?_
   conv=>whnf
   refine q0a.mk (z5c m1 o) ?_
   rintro _ m2 ⟨A,cA,rfl,hle2,hp2⟩
   obtain ⟨hx0,hx1⟩:=hp2.cells
   conv=>whnf
   refine q0v.mk Nat (fun j=>[(12,.val (i j))]) (fun j m'=>Mem.le m m'∧(∀ ad,A=some ad→q0g m' ad ((q0b o).map i))∧m' b=some (Cells (((q0y ((q0p M (O.take k)).incU 3) ((q0b o).take j)).readL.take M.bk.toNat).map i) 3)∧j≤(q0b o).length) (fun j=>(q0b o).length - j) 0
    ⟨rfl,trivial⟩ ⟨g1.trans hle2,hx1,by
     have e:(q0y ((q0p M (O.take k)).incU 3) ((q0b o).take 0)).readL=(q0p M (O.take k)).readL:=rfl
     rw [e];exact hle2 _ _ g4,Nat.zero_le _⟩ ?_
   rintro j m3 ⟨q1,q2,q3,q4⟩
   refine Br.mk (fun hb4=>?_) (fun hb4=>?_)
   ·have hj:j<(q0b o).length:=by
     have:(j:Int)<(q0b o).length:=of_decide_eq_true hb4
     omega
    obtain ⟨ad2,rfl⟩:∃ ad,A=some ad:=by
     cases A with
     | none=>rw [hx0 rfl] at hj;simp at hj
     | some ad=>exact ⟨ad,rfl⟩
    have hcell:q0q m3 (ad2.add j) (i (q0b o)[j]):=IAt.cell (q2 ad2 rfl) hj
    have hne2:ad2.block≠b:=by
     intro e
     rcases hp2 with ⟨h3,_⟩ | ⟨b',h3,_,h4,_⟩
     ·cases h3
     ·cases h3
      simp only at e
      rw [e,g4] at h4;cases h4
    have hYM:(q0y ((q0p M (O.take k)).incU 3) ((q0b o).take j)).M=M:=by rw [q8g,UseR.incU_M,hXM]
    have hYs:(q0y ((q0p M (O.take k)).incU 3) ((q0b o).take j)).small 3000:=by
     refine q5r (q6y _ _ (UseR.incU_small hXs _)) ?_
     rw [List.length_take];omega
    have hsucc:q0y ((q0p M (O.take k)).incU 3) ((q0b o).take (j+1))=(q0y ((q0p M (O.take k)).incU 3) ((q0b o).take j)).incR (((q0b o)[j]).tmod M.bk).toNat:=by
     have e:=q4k (f:=fun (X:UseR) r=>X.incR (r.tmod X.M.bk).toNat) (s:=(q0p M (O.take k)).incU 3) hj
     have e2:(List.foldl (fun (X:UseR) r=>X.incR (r.tmod X.M.bk).toNat) ((q0p M (O.take k)).incU 3) ((q0b o).take j)).M=M:=hYM
     unfold q0y
     rw [e,e2]
    have hr0:=hpos _ (List.getElem_mem hj)
    have hjb:0≤((q0b o)[j]).tmod M.bk∧((q0b o)[j]).tmod M.bk<M.bk:=by
     rw [Int.tmod_eq_emod_of_nonneg hr0]
     exact ⟨Int.emod_nonneg _ (by omega),Int.emod_lt_of_pos _ (by omega)⟩
    generalize hY:q0y ((q0p M (O.take k)).incU 3) ((q0b o).take j)=Y at *
    have hget:((Y.readL.take M.bk.toNat).map i)[(((q0b o)[j]).tmod M.bk).toNat]? = some (i (Y.reads (((q0b o)[j]).tmod M.bk).toNat)):=q9a (by omega) (by omega)
    have hYr:=hYs.2 (((q0b o)[j]).tmod M.bk).toNat
    have hlenY:((Y.readL.take M.bk.toNat).map i).length=M.bk.toNat:=by simp [UseR.readL];omega
    refine WIdx.mk ad2 rfl ⟨by omega,by simpa using hj⟩ ?_
    refine WLd.mk (i (q0b o)[j]) (by simpa using hcell) ?_
    refine WNe.mk (by omega) ?_
    refine WIdx.mk ⟨b,0,none⟩ rfl ⟨by omega,by omega⟩ ?_
    refine WLd.mk (i (Y.reads (((q0b o)[j]).tmod M.bk).toNat)) ?_ ?_
    ·rw [add0]
     exact ⟨_,_,_,q3,rfl,by simpa using hget⟩
    refine WRng.mk (by apply wrap_i64<;>omega) ?_
    refine WIdx.mk ⟨b,0,none⟩ rfl ⟨by omega,by omega⟩ ?_
    conv=>whnf
    refine ⟨?_,trivial⟩
    refine WSt.mk ((Y.readL.take M.bk.toNat).map i) 3 ?_ ?_ ?_ ?_
    ·rw [add0];exact q3
    ·rw [add0]
    ·rw [add0]
     show _ * 1+1≤((Y.readL.take M.bk.toNat).map i).length
     omega
    simp only [add0]
    refine WRng.mk (by apply wrap_i64<;>omega) ?_
    conv=>whnf
    refine ⟨j+1,⟨rfl,trivial⟩,⟨q2n q1 hbm,fun ad' ha'=>?_,?_,hj⟩,by omega⟩
    ·refine q0g.keep (q2 ad' ha') fun o2 h2=>?_
     cases ha'
     rw [Mem.set_other _ _ hne2];exact h2
    ·rw [Mem.set_same,hsucc,z5k (by omega) (by omega)]
     show some (Cells (((Y.readL.take M.bk.toNat).map i).set _ _) 3)=_
     rw [Nat.mul_one,List.map_set]
   ·have hj:j=(q0b o).length:=by
     have:¬ (j:Int)<(q0b o).length:=of_decide_eq_false hb4
     omega
    subst hj
    rw [List.take_length] at q3
    have hsucc:q0p M (O.take (k+1))=q0y ((q0p M (O.take k)).incU 3) (q0b o):=by
     rw [hsuccK];unfold q4e;rw [hc];rfl
    refine WRng.mk (by apply wrap_i64<;>omega) ?_
    conv=>whnf
    refine ⟨k+1,⟨rfl,?_,trivial⟩,⟨q1,hk,by rw [hsucc];exact q3⟩,by omega⟩
    rw [hsucc,z1z]
    rfl
 ·have hk:k=O.length:=by
   have:¬ (k:Int)<O.length:=of_decide_eq_false hb2
   omega
  subst hk
  rw [List.take_length] at g4
  exact WRet.same ⟨b,by rw [List.take_length];rfl,g1,g4⟩
def upD (a b:Int):Int:=(a+b - 1).tdiv b
def upS (X:UseR) (M:Mac) (acc:Int) (j:Nat):Int:=max acc (upD (X.uses j) (M.unit j))
def upP (p acc r:Int):Int:=max acc (upD r p)
def z3q (M:Mac) (X:UseR):Int:=(X.readL.take M.bk.toNat).foldl (upP M.pt) ((List.range 4).foldl (upS X M) 0)
theorem v4d {a b:Int} (ha:0≤a) (ha2:a≤3000) (hb:1≤b) (hb2:b≤4096):0≤upD a b∧upD a b≤7096:=by
 unfold upD
 rw [Int.tdiv_eq_ediv_of_nonneg (by omega)]
 have h1:=Int.ediv_nonneg (show 0≤a+b - 1 by omega) (show 0≤b by omega)
 have h2:=Int.ediv_le_self b (show 0≤a+b - 1 by omega)
 omega
theorem z3v {a b:Int} (ha:0≤a) (hb:1≤b):upD a b≤1↔a≤b:=by
 unfold upD
 rw [Int.tdiv_eq_ediv_of_nonneg (by omega)]
 constructor
 ·intro h
  by_cases c:a≤b
  ·exact c
  ·have:2≤(a+b - 1) / b:=Int.le_ediv_of_mul_le (by omega) (by omega)
   omega
 ·intro h
  have:(a+b - 1) / b<2:=Int.ediv_lt_of_lt_mul (by omega) (by omega)
  omega
theorem z7z {α:Type} {f:α→Int} {q:Int}:∀ (L:List α) (a:Int),(L.foldl (fun acc x=>max acc (f x)) a≤q)↔a≤q∧∀ x∈L,f x≤q
 | [],a=>by simp
 | x :: L,a=>by
  simp only [List.foldl_cons,z7z L,List.mem_cons,forall_eq_or_imp,Int.max_le];exact and_assoc
theorem w1c {X:UseR} {k j:Nat} (hk:k<8) (hj:j<8) (h:j≠k):(X.incR k).reads j=X.reads j:=by
 have h8:k=0∨k=1∨k=2∨k=3∨k=4∨k=5∨k=6∨k=7:=by omega
 have j8:j=0∨j=1∨j=2∨j=3∨j=4∨j=5∨j=6∨j=7:=by omega
 rcases h8 with rfl | rfl | rfl | rfl | rfl | rfl | rfl | rfl<;>rcases j8 with rfl | rfl | rfl | rfl | rfl | rfl | rfl | rfl<;>first | rfl | exact absurd rfl h
theorem v6k {M:Mac} (hbk:1≤M.bk∧M.bk≤8) {j:Nat} (hj:j<8) (hj2:M.bk≤j):∀ (L:List Int) (X:UseR),X.M=M→(∀ r∈L,0≤r)→(q0y X L).reads j=X.reads j
 | [],X,_,_=>rfl
 | r :: L,X,hX,hr=>by
  have h1:0≤r.tmod X.M.bk∧r.tmod X.M.bk<X.M.bk:=by
   rw [hX,Int.tmod_eq_emod_of_nonneg (hr r (by simp))]
   exact ⟨Int.emod_nonneg _ (by omega),Int.emod_lt_of_pos _ (by omega)⟩
  show (q0y (X.incR _) L).reads j=_
  rw [v6k hbk hj hj2 L _ (by rw [UseR.incR_M,hX]) fun x hx=>hr x (by simp [hx])]
  rw [hX] at h1 ⊢
  exact w1c (by omega) hj (by omega)
theorem v1p {M:Mac} (hbk:1≤M.bk∧M.bk≤8) {j:Nat} (hj:j<8) (hj2:M.bk≤j):∀ (O:List OpR) (X:UseR),X.M=M→(∀ o∈O,q7p M o=false)→(O.foldl q4e X).reads j=X.reads j
 | [],X,_,_=>rfl
 | o :: O,X,hX,hO=>by
  rw [List.foldl_cons,v1p hbk hj hj2 O _ (by rw [v5f,hX]) fun x hx=>hO x (by simp [hx])]
  unfold q4e
  rw [v6k hbk hj hj2 _ _ (by rw [UseR.incU_M,hX]) (v2l (hO o (by simp))),UseR.incU_reads]
theorem v9s {M:Mac} {O:List OpR} (hM:M.ok=true) (hl:O.length≤400) (hO:∀ o∈O,q7p M o=false):decide (z3q M (q0p M O)≤1)=q4w (q0p M O):=by
 obtain ⟨_,hbk,hpt⟩:=z6f hM
 have hXM:(q0p M O).M=M:=by unfold q0p;rw [z8z];rfl
 have hs:(q0p M O).small 2000:=by
  unfold q0p
  exact q5r (z2t _ (z4o M)) (by omega)
 have hout:∀ j:Nat,j<8→M.bk≤j→(q0p M O).reads j=0:=fun j hj hj2=>by
  unfold q0p
  rw [v1p hbk hj hj2 O (newU M) rfl hO]
  rcases j with _|_|_|_|_|_|_|j<;>rfl
 have hun:∀ j,1≤M.unit j:=fun j=>by
  have h:=hM
  unfold Mac.ok Mac.row inR at h
  simp only [Bool.and_eq_true,decide_eq_true_eq] at h
  rcases j with _|_|_|j
  ·exact h.1.1.1.1.1.1
  ·exact h.1.1.1.2.1.1
  ·exact h.1.1.2.1.1
  ·exact h.1.2.1.1
 generalize q0p M O=X at *
 have hrest:X.readL.all (fun x=>decide (x≤M.pt))=(X.readL.take M.bk.toNat).all (fun x=>decide (x≤M.pt)):=by
  rw [Bool.eq_iff_iff,List.all_eq_true,List.all_eq_true]
  constructor
  ·intro h x hx;exact h x (List.mem_of_mem_take hx)
  ·intro h x hx
   obtain ⟨j,hj,rfl⟩:=List.getElem_of_mem hx
   have hj8:j<8:=by simpa [UseR.readL] using hj
   have hg:X.readL[j]'hj=X.reads j:=by
    have:=q9a (X:=X) (j:=j) (n:=8) hj8 (Nat.le_refl _)
    rw [List.getElem?_map,List.getElem?_take,if_pos hj8,List.getElem?_eq_getElem hj] at this
    simpa using this
   by_cases c:j<M.bk.toNat
   ·exact h _ (List.mem_take_iff_getElem.2 ⟨j,by omega,rfl⟩)
   ·rw [hg,hout j hj8 (by omega)];exact decide_eq_true (by omega)
 have hfit:q4w X=(((decide (X.uses 0≤M.unit 0)&&decide (X.uses 1≤M.unit 1))&&(decide (X.uses 2≤M.unit 2)&&decide (X.uses 3≤M.unit 3)))&&(X.readL.take M.bk.toNat).all fun x=>decide (x≤M.pt)):=by
  unfold q4w;rw [hXM,hrest];rfl
 rw [hfit,Bool.eq_iff_iff,decide_eq_true_eq]
 unfold z3q
 have e1:=z7z (f:=fun r=>upD r M.pt) (q:=1) (X.readL.take M.bk.toNat) ((List.range 4).foldl (upS X M) 0)
 have e2:=z7z (f:=fun j=>upD (X.uses j) (M.unit j)) (q:=1) (List.range 4) 0
 have e1':((X.readL.take M.bk.toNat).foldl (upP M.pt) ((List.range 4).foldl (upS X M) 0)≤1)↔_:=e1
 rw [e1']
 have e2':((List.range 4).foldl (upS X M) 0≤1)↔_:=e2
 rw [e2']
 simp only [Bool.and_eq_true,decide_eq_true_eq,List.all_eq_true]
 have hnn:∀ x∈X.readL.take M.bk.toNat,0≤x:=fun x hx=>by
  obtain ⟨j,hj,hje⟩:=List.getElem_of_mem (List.mem_of_mem_take hx)
  subst hje
  have hj8:j<8:=by simpa [UseR.readL] using hj
  have:=q9a (X:=X) (j:=j) (n:=8) hj8 (Nat.le_refl _)
  rw [List.getElem?_map,List.getElem?_take,if_pos hj8,List.getElem?_eq_getElem hj] at this
  have hg:X.readL[j]'hj=X.reads j:=by simpa using this
  rw [hg];exact (hs.2 j).1
 constructor
 ·rintro ⟨⟨_,h1⟩,h2⟩
  have q:∀ j,j<4→X.uses j≤M.unit j:=fun j hj=>(z3v (hs.1 j).1 (hun j)).1 (h1 j (List.mem_range.2 hj))
  exact ⟨⟨⟨q 0 (by omega),q 1 (by omega)⟩,q 2 (by omega),q 3 (by omega)⟩,fun x hx=>(z3v (hnn x hx) (by omega)).1 (h2 x hx)⟩
 ·rintro ⟨⟨⟨a0,a1⟩,a2,a3⟩,h2⟩
  refine ⟨⟨by omega,fun j hj=>(z3v (hs.1 j).1 (hun j)).2 ?_⟩,fun x hx=>(z3v (hnn x hx) (by omega)).2 (h2 x hx)⟩
  have hj4:=List.mem_range.1 hj
  have:j=0∨j=1∨j=2∨j=3:=by omega
  rcases this with rfl | rfl | rfl | rfl<;>assumption
theorem j1y {m:Mem} {v:Value} (M:Mac) {O:List OpR} (hO:OAt m v O) (hl:O.length≤400) (hM:M.ok=true) (hgood:∀ o∈O,q7p M o=false) :
  q0f Tryz.prog 82 [M.val,v] m fun e m'=>e=.returned (i (z3q M (q0p M O)))∧Mem.le m m':=by
 obtain ⟨_,hbk,hpt⟩:=z6f hM
 have hsl:∃ a c,v=.slice a O.length c:=by obtain ⟨a,c,e,_⟩:=hO;exact ⟨a,c,e⟩
 obtain ⟨a,c,rfl⟩:=hsl
 have hun:∀ j,1≤M.unit j∧M.unit j≤8:=fun j=>by
  have h:=hM
  unfold Mac.ok Mac.row inR at h
  simp only [Bool.and_eq_true,decide_eq_true_eq] at h
  rcases j with _|_|_|j
  ·exact h.1.1.1.1.1
  ·exact h.1.1.1.2.1
  ·exact h.1.1.2.1
  ·exact h.1.2.1
 have hs:(q0p M O).small 3000:=by
  unfold q0p
  exact q5r (z2t _ (z4o M)) (by omega)
 refine q0e q0d Tryz.func82 j7t rfl ?_
 conv=>whnf
 refine q0a.mk (k4i M hO hl hbk hgood) ?_
 rintro _ m1 ⟨b,rfl,hle1,hcell⟩
 generalize q0p M O=X at *
 conv=>whnf
 refine q0v.mk Nat (fun k=>[(8,.val (i k)),(7,.val (i ((List.range k).foldl (upS X M) 0)))]) (fun k m'=>m1=m'∧k≤4) (fun k=>4 - k) 0 ⟨rfl,rfl,trivial⟩ ⟨rfl,Nat.zero_le _⟩ ?_
 rintro k m2 ⟨rfl,g2⟩
 refine Br.mk (fun hb2=>?_) (fun hb2=>?_)
 ·have hk4:k<4:=by
   have:(k:Int)<4:=of_decide_eq_true hb2
   omega
  have hks:k=0∨k=1∨k=2∨k=3:=by omega
  have hx:=hs.1 k
  have hu:=hun k
  have hup:=v4d hx.1 hx.2 hu.1 (by omega)
  have hw:IntKind.i64.wrap ((X.uses k+M.unit k - 1).tdiv (M.unit k))=upD (X.uses k) (M.unit k):=by
   show IntKind.i64.wrap (upD (X.uses k) (M.unit k))=_
   apply wrap_i64<;>omega
  refine WBnd.mk ⟨by omega,by omega⟩ ?_
  refine WGet.mk (i (X.uses k)) (by rcases hks with rfl | rfl | rfl | rfl<;>rfl) ?_
  refine WBnd.mk ⟨by omega,by omega⟩ ?_
  refine WGet.mk (i (M.unit k)) (M.unit_get hk4) ?_
  refine WRng.mk (by apply wrap_i64<;>omega) ?_
  refine WRng.mk (by apply wrap_i64<;>omega) ?_
  refine WBnd.mk ⟨by omega,by omega⟩ ?_
  refine WGet.mk (i (M.unit k)) (M.unit_get hk4) ?_
  refine WNe.mk (by omega) ?_
  refine WRng.mk (by apply wrap_i64<;>omega) ?_
  conv=>whnf
  refine ⟨k+1,⟨rfl,?_,trivial⟩,⟨rfl,hk4⟩,by omega⟩
  rw [List.range_succ,List.foldl_append]
  show _=some (AV.val (i (upS X M _ k)))
  unfold upS
  rw [← z7f,← hw]
  rfl
 ·have hk4:k=4:=by
   have:¬ (k:Int)<4:=of_decide_eq_false hb2
   omega
  subst hk4
  have hlen:(X.readL.take M.bk.toNat).length=M.bk.toNat:=by simp [UseR.readL];omega
  have hread:∀ (j:Nat) (hj:j<(X.readL.take M.bk.toNat).length),0≤(X.readL.take M.bk.toNat)[j]∧(X.readL.take M.bk.toNat)[j]≤3000:=fun j hj=>by
   have h1:=q9a (X:=X) (j:=j) (n:=M.bk.toNat) (by omega) (by omega)
   rw [List.getElem?_map,List.getElem?_eq_getElem hj] at h1
   have h2:(X.readL.take M.bk.toNat)[j]=X.reads j:=by simpa using h1
   rw [h2];exact hs.2 j
  unfold z3q
  generalize X.readL.take M.bk.toNat=BL at *
  generalize (List.range 4).foldl (upS X M) 0=a4 at *
  conv=>whnf
  refine q0v.mk Nat (fun k=>[(9,.val (i k)),(7,.val (i ((BL.take k).foldl (upP M.pt) a4)))]) (fun k m'=>m1=m'∧k≤BL.length) (fun k=>BL.length - k) 0 ⟨rfl,rfl,trivial⟩ ⟨rfl,Nat.zero_le _⟩ ?_
  rintro k m2 ⟨rfl,q2⟩
  refine Br.mk (fun hb3=>?_) (fun hb3=>?_)
  ·have hk:k<BL.length:=by
    have:(k:Int)<(M.bk.toNat:Int):=of_decide_eq_true hb3
    omega
   have hx:=hread k hk
   have hup:=v4d hx.1 hx.2 (show 1≤M.pt by omega) (by omega)
   have hw:IntKind.i64.wrap ((BL[k]+M.pt - 1).tdiv M.pt)=upD BL[k] M.pt:=by
    show IntKind.i64.wrap (upD BL[k] M.pt)=_
    apply wrap_i64<;>omega
   refine WIdx.mk ⟨b,0,none⟩ rfl ⟨by omega,by show (k:Int)<_;omega⟩ ?_
   refine WLd.mk (i BL[k]) ?_ ?_
   ·rw [add0]
    exact ⟨_,_,_,hcell,rfl,by simp [hk]⟩
   refine WRng.mk (by apply wrap_i64<;>omega) ?_
   refine WRng.mk (by apply wrap_i64<;>omega) ?_
   refine WNe.mk (by omega) ?_
   refine WRng.mk (by apply wrap_i64<;>omega) ?_
   conv=>whnf
   refine ⟨k+1,⟨rfl,?_,trivial⟩,⟨rfl,hk⟩,by omega⟩
   have e:(BL.take (k+1)).foldl (upP M.pt) a4=upP M.pt ((BL.take k).foldl (upP M.pt) a4) BL[k]:=q4k hk
   rw [e]
   unfold upP
   rw [← z7f,← hw]
   rfl
  ·have hk:k=BL.length:=by
    have:¬ (k:Int)<(M.bk.toNat:Int):=of_decide_eq_false hb3
    omega
   subst hk
   exact WRet.same ⟨by rw [List.take_length];rfl,hle1⟩
theorem j0d {m:Mem} {v:Value} (M:Mac) {O:List OpR} (hO:OAt m v O) (hl:O.length≤400) (hM:M.ok=true) (hgood:∀ o∈O,q7p M o=false) :
  q0f Tryz.prog 54 [M.val,v] m fun e m'=>e=.returned (.bool (q4w (q0p M O)))∧Mem.le m m':=by
 have hsl:∃ a c,v=.slice a O.length c:=by obtain ⟨a,c,e,_⟩:=hO;exact ⟨a,c,e⟩
 obtain ⟨a,c,rfl⟩:=hsl
 refine q0e q0d Tryz.func54 j4d rfl ?_
 conv=>whnf
 refine q0a.mk (j1y M hO hl hM hgood) ?_
 rintro _ m1 ⟨rfl,hle1⟩
 refine WRet.same ⟨?_,hle1⟩
 rw [← v9s hM hl hgood];rfl
end Go.Proofs.YtleofbpepfmfgaaGreatDoor
