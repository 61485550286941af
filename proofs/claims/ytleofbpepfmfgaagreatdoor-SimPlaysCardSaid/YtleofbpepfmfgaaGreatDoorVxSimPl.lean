import Derived.Test.YtleofbpepfmfgaaGreatDoorVxSimCp
set_option linter.unusedSimpArgs false
set_option linter.unusedVariables false
set_option maxRecDepth 100000
namespace Go.Proofs.YtleofbpepfmfgaaGreatDoor
open Go Go.Vx
open Go.Vx.IOp Go.Vx.IR Go.Vx.Opd
def numX (s:St) (j:Nat):Nat:=if j=4 then 0 else numS s j
def z2h (H:HdF) (s:St) (j:Nat):List Value:=if j=4 then [] else q0t H s j
def mixV (H H':HdF) (A:List (List Int)) (j:Nat):List Value:=(List.range A.length).map fun k=>if k<j then .slice (H' (k+5)).a (A.getD k []).length (H' (k+5)).c else .slice (H (k+5)).a (A.getD k []).length (H (k+5)).c
theorem z1o (H H':HdF) (A:List (List Int)) (j:Nat):(mixV H H' A j).length=A.length:=by unfold mixV;simp
theorem j4j (H H':HdF) (A:List (List Int)):mixV H H' A 0=q2h H A:=by
 unfold mixV q2h
 apply List.map_congr_left
 intro k _
 rw [if_neg (by omega)]
theorem w3m (H H':HdF) (A:List (List Int)):mixV H H' A A.length=q2h H' A:=by
 unfold mixV q2h
 apply List.map_congr_left
 intro k hk
 rw [if_pos (List.mem_range.1 hk)]
theorem v8u {H H':HdF} {A:List (List Int)} {j:Nat} (hj:j<A.length):(mixV H H' A j)[j]? = some (.slice (H (j+5)).a (A.getD j []).length (H (j+5)).c):=by
 unfold mixV
 rw [List.getElem?_map,List.getElem?_range hj]
 show some (if j<j then _ else _)=_
 rw [if_neg (Nat.lt_irrefl j)]
theorem j8y {H H':HdF} {A:List (List Int)} {j:Nat} (hj:j<A.length) (h:Hd1):(mixV H H' A j).set j (.slice h.a (A.getD j []).length h.c)=mixV H (H'.upd (j+5) h) A (j+1):=by
 apply List.ext_getElem?
 intro q
 rw [List.getElem?_set,z1o]
 unfold mixV
 rw [List.getElem?_map,List.getElem?_map]
 by_cases hq:q<A.length
 ·rw [List.getElem?_range hq]
  show (if j=q then if j<A.length then some (Value.slice h.a (A.getD j []).length h.c) else none else some (if q<j then Value.slice (H' (q+5)).a (A.getD q []).length (H' (q+5)).c else Value.slice (H (q+5)).a (A.getD q []).length (H (q+5)).c))=some (if q<j+1 then Value.slice (H'.upd (j+5) h (q+5)).a (A.getD q []).length (H'.upd (j+5) h (q+5)).c else Value.slice (H (q+5)).a (A.getD q []).length (H (q+5)).c)
  by_cases e:j=q
  ·subst e
   rw [if_pos rfl,if_pos hq,if_pos (Nat.lt_succ_self j),q1c]
  ·rw [if_neg e,q0u _ _ (by omega)]
   by_cases e2:q<j
   ·rw [if_pos e2,if_pos (by omega)]
   ·rw [if_neg e2,if_neg (by omega)]
 ·rw [List.getElem?_eq_none (l:=List.range A.length) (by simp;omega)]
  show (if j=q then if j<A.length then some (Value.slice h.a (A.getD j []).length h.c) else none else none)=none
  rw [if_neg (by omega)]
def scA:IR:=(match q9w.body with | .seq a _=>a | r=>r)
def scB:IR:=(match q9w.body with | .seq _ (.seq b _)=>b | r=>r)
def scC:IR:=(match q9w.body with | .seq _ (.seq _ (.seq b _))=>b | r=>r)
def scD:IR:=(match q9w.body with | .seq _ (.seq _ (.seq _ b))=>b | r=>r)
theorem k2b:q9w.body=.seq scA (.seq scB (.seq scC scD)):=rfl
section
variable {m:Mem} {H:HdF} {s:St} {a0 a1 a2 a3 a4:Int}
theorem k0s (hf:q2g m (famN s) tyS szS H (numS s) (q0t H s)) (hb:∀ j,numS s j≤1000000000) {rs:List Res} {RR:Ending→Mem→Prop} {R:IR}
  (K:∀ m' (h0 h1 h2 h3:Hd1),Cop m m' (famN s) ((((HdF.upd (fun _=>⟨none,0⟩) 0 h0).upd 1 h1).upd 2 h2).upd 3 h3) (fun j=>if j<4 then numS s j else 0) (fun j=>if j<4 then q0t H s j else [])→(h3.a=none→s.arr.length=0) →
   wpI Tryz.prog R (q0i rs RR) (envL [(1,.var [i a0,i a1,i a2,i a3,i a4,.slice h0.a (numS s 0) h0.c,.slice h1.a (numS s 1) h1.c,.slice h2.a (numS s 2) h2.c,.slice h3.a (numS s 3) h3.c]),(2,.var [i 0,i 0,i 0,i 0,i 0,ns,ns,ns,ns])]) m') :
  wpI Tryz.prog (.seq scA (.seq scB R)) (q0i rs RR) (q5p [.agg ⟨[i a0,i a1,i a2,i a3,i a4,hv H s 0,hv H s 1,hv H s 2,hv H s 3]⟩]) m:=by
 have hN:∀ j,j<4→j<famN s:=fun j hj=>by unfold famN;omega
 have first:∀ {j:Nat} {mm:Mem},j<4→Mem.le m mm→q2v mm (H j).a (numS s j * szS j) (q0t H s j):=fun {j mm} hj hle=>⟨hf.len j (hN j hj),fun ad had=>(hf.cellsAt (hN j hj) had).mono hle⟩
 have nz:∀ {j:Nat},j<4→(H j).a=none→numS s j=0:=fun {j} hj he=>by
  cases hh:numS s j with
  | zero=>rfl
  | succ q =>
   obtain ⟨b,_,hb,_⟩:=hf.room (hN j hj) (show numS s j≠0 by omega)
   rw [hb.2] at he;cases he
 have I0:=Cop.nil m (famN s)
 conv=>whnf
 refine ⟨?_,trivial⟩
 conv=>whnf
 refine q0a.mk (z7j (L:=q0t H s 0) (first (j:=0) (by decide) (Mem.le.refl _)) (hb 0)) ?_
 intro e1 m1 hR1
 obtain ⟨h0,rfl,hz0,l1,I1⟩:=I0.clone (hN 0 (by decide)) hR1 (hf.len 0 (hN 0 (by decide))) (nz (by decide))
 conv=>whnf
 refine ⟨?_,trivial⟩
 conv=>whnf
 refine q0a.mk (v5d (L:=q0t H s 1) (first (j:=1) (by decide) l1) (hb 1)) ?_
 intro e2 m2 hR2
 obtain ⟨h1,rfl,hz1,l2,I2⟩:=I1.clone (hN 1 (by decide)) hR2 (hf.len 1 (hN 1 (by decide))) (nz (by decide))
 conv=>whnf
 refine ⟨?_,trivial⟩
 conv=>whnf
 refine q0a.mk (v5d (L:=q0t H s 2) (first (j:=2) (by decide) (l1.trans l2)) (hb 2)) ?_
 intro e3 m3 hR3
 obtain ⟨h2,rfl,hz2,l3,I3⟩:=I2.clone (hN 2 (by decide)) hR3 (hf.len 2 (hN 2 (by decide))) (nz (by decide))
 conv=>whnf
 refine ⟨?_,trivial⟩
 conv=>whnf
 refine q0a.mk (k8b (L:=q0t H s 3) (first (j:=3) (by decide) ((l1.trans l2).trans l3)) (hb 3)) ?_
 intro e4 m4 hR4
 obtain ⟨h3,rfl,hz3,l4,I4⟩:=I3.clone (hN 3 (by decide)) hR4 (hf.len 3 (hN 3 (by decide))) (nz (by decide))
 have I5:=I4.congr (H':=(((HdF.upd (fun _=>⟨none,0⟩) 0 h0).upd 1 h1).upd 2 h2).upd 3 h3) (num':=fun j=>if j<4 then numS s j else 0) (cont':=fun j=>if j<4 then q0t H s j else []) (fun j _=>by
  match j with
  | 0=>exact ⟨rfl,rfl,rfl⟩
  | 1=>exact ⟨rfl,rfl,rfl⟩
  | 2=>exact ⟨rfl,rfl,rfl⟩
  | 3=>exact ⟨rfl,rfl,rfl⟩
  | j+4=>exact ⟨rfl,if_neg (by omega),if_neg (by omega)⟩)
 have K2:=K m4 h0 h1 h2 h3 I5 hz3
 conv=>whnf
 refine ⟨?_,trivial⟩
 conv=>whnf
 refine ⟨?_,trivial⟩
 conv=>whnf
 refine ⟨?_,trivial⟩
 conv=>whnf
 refine ⟨?_,trivial⟩
 conv=>whnf
 exact q0x K2 ⟨rfl,rfl,trivial⟩
def numJ (s:St) (j q:Nat):Nat:=if q<4 then numS s q else if q=4 then 0 else if q<j+5 then numS s q else 0
def q6j (H Hj:HdF) (s:St) (j q:Nat):List Value:=if q<3 then q0t H s q else if q=3 then mixV H Hj s.arr j else if q=4 then [] else if q<j+5 then q0t H s q else []
theorem j8b (H Hj:HdF) (s:St) (j:Nat):q6j H Hj s j 3=mixV H Hj s.arr j:=rfl
theorem Cop.row {m1 m2:Mem} {Hj:HdF} {j b3:Nat} {rest:List Value} (I:Cop m m1 (famN s) Hj (numJ s j) (q6j H Hj s j)) (hj:j<s.arr.length) (hown:q3x (Hj 3) b3) (h1:m1 b3=some (Cells (mixV H Hj s.arr j++rest) TRow)) (hr:(mixV H Hj s.arr j).length+rest.length=(Hj 3).c * 1)
  {a:Option Addr} {e:Ending} (hR:q9t m1 a (s.arr.getD j []).length ((s.arr.getD j []).map i) T64 1 e m2) (ha:a=none→(s.arr.getD j []).length=0) :
  ∃ h:Hd1,e=.returned (.slice h.a (s.arr.getD j []).length h.c)∧m2 b3=some (Cells (mixV H Hj s.arr j++rest) TRow)∧Mem.le m1 m2 ∧
   Cop m (m2.set b3 (Cells (mixV H (Hj.upd (j+5) h) s.arr (j+1)++rest) TRow)) (famN s) (Hj.upd (j+5) h) (numJ s (j+1)) (q6j H (Hj.upd (j+5) h) s (j+1)):=by
 have hN:j+5<famN s:=by unfold famN;omega
 have hN3:3<famN s:=by unfold famN;omega
 obtain ⟨h,he,hz,l2,I2⟩:=I.clone (k:=j+5) hN hR (by show (List.map i _).length=_ * 1;simp) ha
 have h2:=l2 _ _ h1
 have hF3:q5o (famN s) Hj b3:=⟨3,hN3,hown⟩
 refine ⟨h,he,h2,l2,I2.fam.put (k:=3) (b:=b3) (rest:=rest) hN3 (fun q hq e=>?_) (by rw [q0u _ _ (by omega)];exact hown.2) (.inr (by rw [q0u _ _ (by omega)];exact hown)) (by rw [Mem.set_same];rfl) ?_ ?_ ?_ (fun x o hx _ hxo=>by rw [Mem.set_other _ _ hx];exact hxo),?_,fun x hx=>?_⟩
 ·refine ⟨rfl,?_,?_⟩
  ·show numJ s (j+1) q=if q=j+5 then (s.arr.getD j []).length else numJ s j q
   unfold numJ
   split
   ·rename_i e1;rw [if_neg (by omega)]
   ·split
    ·rename_i e1;rw [if_neg (by omega)]
    ·rename_i e1 e2
     by_cases e3:q=j+5
     ·subst e3;rw [if_pos (by omega),if_pos rfl];rfl
     ·rw [if_neg e3]
      by_cases e4:q<j+5
      ·rw [if_pos (by omega),if_pos e4]
      ·rw [if_neg (by omega),if_neg e4]
  ·show q6j H (Hj.upd (j+5) h) s (j+1) q=if q=j+5 then (s.arr.getD j []).map i else q6j H Hj s j q
   unfold q6j
   split
   ·rename_i e1;rw [if_neg (by omega)]
   ·split
    ·rename_i e1;rw [if_neg (by omega)]
    ·rename_i e1 e2
     by_cases e3:q=j+5
     ·subst e3;rw [if_pos (by omega),if_pos rfl];rfl
     ·rw [if_neg e3]
      by_cases e4:q<j+5
      ·rw [if_pos (by omega),if_pos e4]
      ·rw [if_neg (by omega),if_neg e4]
 ·show (mixV H (Hj.upd (j+5) h) s.arr (j+1)).length=s.arr.length * 1
  rw [z1o];omega
 ·rw [q0u _ _ (by omega)]
  exact I.fam.cap 3 hN3
 ·rw [q0u _ _ (by omega)]
  show (mixV H (Hj.upd (j+5) h) s.arr (j+1)).length+rest.length=_
  rw [z1o] at hr ⊢;exact hr
 ·intro x o hx
  have hne:x≠b3:=fun e=>by subst e;rw [I.new _ hF3] at hx;cases hx
  rw [Mem.set_other _ _ hne];exact I2.le _ _ hx
 ·exact I2.new x hx
theorem k3q (hf:q2g m (famN s) tyS szS H (numS s) (q0t H s)) (hb:∀ j,numS s j≤1000000000) {m4:Mem} {H4:HdF} {cells:List Value} (hc:cells=[i a0,i a1,i a2,i a3,i a4,.slice (H4 0).a (numS s 0) (H4 0).c,.slice (H4 1).a (numS s 1) (H4 1).c,.slice (H4 2).a (numS s 2) (H4 2).c,.slice (H4 3).a (numS s 3) (H4 3).c])
  (I:Cop m m4 (famN s) H4 (fun j=>if j<4 then numS s j else 0) (fun j=>if j<4 then q0t H s j else [])) (h40:(H4 4).c=0) (hz:(H4 3).a=none→s.arr.length=0) {rs:List Res} {RR:Ending→Mem→Prop} {R:IR}
  (K:∀ m' H',Cop m m' (famN s) H' (numX s) (z2h H' s)→(H' 4).c=0→(H' 0).a=(H4 0).a→cells=[i a0,i a1,i a2,i a3,i a4,hv H' s 0,hv H' s 1,hv H' s 2,hv H' s 3]→wpI Tryz.prog R (q0i rs RR) (envL [(1,.var cells),(2,.var [i 0,i 0,i 0,i 0,i 0,ns,ns,ns,ns])]) m') :
  wpI Tryz.prog (.seq scC R) (q0i rs RR) (envL [(1,.var cells),(2,.var [i 0,i 0,i 0,i 0,i 0,ns,ns,ns,ns])]) m4:=by
 have hN:∀ j,j<s.arr.length→j+5<famN s:=fun j hj=>by unfold famN;omega
 have hN3:3<famN s:=by unfold famN;omega
 have hal:=hb 3
 have hal:s.arr.length≤1000000000:=hal
 have I0:Cop m m4 (famN s) H4 (numJ s 0) (q6j H H4 s 0):=I.congr fun q hq=>by
  refine ⟨rfl,?_,?_⟩
  ·show numJ s 0 q=if q<4 then numS s q else 0
   unfold numJ
   split
   ·rfl
   ·split
    ·rfl
    ·rw [if_neg (by omega)]
  ·show q6j H H4 s 0 q=if q<4 then q0t H s q else []
   unfold q6j
   split
   ·rw [if_pos (by omega)]
   ·split
    ·rename_i e;subst e;rw [j4j];rfl
    ·split
     ·rename_i e;subst e;rfl
     ·rw [if_neg (by omega),if_neg (by omega)]
 have K2:∀ m' H',(∀ k,k<5→H' k=H4 k)→Cop m m' (famN s) H' (numJ s s.arr.length) (q6j H H' s s.arr.length)→wpI Tryz.prog R (q0i rs RR) (envL [(1,.var cells),(2,.var [i 0,i 0,i 0,i 0,i 0,ns,ns,ns,ns])]) m':=fun m' H' hH I'=>by
  refine K m' H' (I'.congr fun q hq=>⟨rfl,?_,?_⟩) (by rw [hH 4 (by decide)];exact h40) (by rw [hH 0 (by decide)]) (by rw [hc];unfold hv;rw [hH 0 (by decide),hH 1 (by decide),hH 2 (by decide),hH 3 (by decide)])
  ·unfold numX numJ
   split
   ·rename_i e;subst e;rfl
   ·rename_i e
    split
    ·rfl
    ·rw [if_pos (by unfold famN at hq;omega)]
  ·unfold z2h q6j
   match q with
   | 0=>rfl
   | 1=>rfl
   | 2=>rfl
   | 3=>show q2h H' s.arr=mixV H H' s.arr s.arr.length;rw [w3m]
   | 4=>rfl
   | q+5 =>
    rw [if_neg (by omega),if_neg (by omega),if_neg (by omega),if_neg (by omega),if_pos (by unfold famN at hq;omega)]
    rfl
 subst hc
 conv=>whnf
 refine q0v.mk (Nat×HdF) (fun x=>[(23,.val (i x.1))]) (fun x m'=>x.1≤s.arr.length∧Cop m m' (famN s) x.2 (numJ s x.1) (q6j H x.2 s x.1)∧∀ k,k<5→x.2 k=H4 k) (fun x=>s.arr.length - x.1) (0,H4) ⟨rfl,trivial⟩ ⟨Nat.zero_le _,I0,fun _ _=>rfl⟩ ?_
 rintro ⟨j,Hj⟩ m5 ⟨hj,I5,hH⟩
 simp only at hj I5 hH
 refine Br.mk (fun hb2=>?_) (fun hb2=>?_)
 ·have hj2:j<s.arr.length:=by
   have:(j:Int)<(numS s 3:Nat):=of_decide_eq_true hb2
   exact Int.ofNat_lt.1 this
  obtain ⟨b3,rest,hown,h1,hr⟩:=I5.fam.room (j:=3) hN3 (show s.arr.length≠0 by omega)
  rw [j8b] at h1 hr
  have h3a:(H4 3).a=some ⟨b3,0,none⟩:=by rw [← hH 3 (by decide)];exact hown.2
  have hrow:q0q m5 ((⟨b3,0,none⟩:Addr).add j) (.slice (H (j+5)).a (s.arr.getD j []).length (H (j+5)).c):=by
   refine (q0g.blk (vs:=mixV H Hj s.arr j) h1 fun q v hq=>?_) j _ (v8u hj2)
   rw [Nat.zero_add,List.getElem?_append_left (List.getElem?_eq_some_iff.1 hq).1];exact hq
  have hbj:(s.arr.getD j []).length≤1000000000:=hb (j+5)
  have hfirst:q2v m5 (H (j+5)).a ((s.arr.getD j []).length * 1) ((s.arr.getD j []).map i):=⟨by simp,fun ad had=>(hf.cellsAt (hN j hj2) had).mono I5.le⟩
  have hnz:(H (j+5)).a=none→(s.arr.getD j []).length=0:=fun he=>by
   cases hh:(s.arr.getD j []).length with
   | zero=>rfl
   | succ q =>
    obtain ⟨b,_,hbb,_⟩:=hf.room (hN j hj2) (show (s.arr.getD j []).length≠0 by omega)
    rw [hbb.2] at he;cases he
  refine WIdx.mk _ h3a ⟨by omega,by show (j:Int)<(s.arr.length:Nat);omega⟩ ?_
  refine WLd.mk (.slice (H (j+5)).a (s.arr.getD j []).length (H (j+5)).c) (by simpa using hrow) ?_
  conv=>whnf
  refine ⟨?_,trivial⟩
  conv=>whnf
  refine q0a.mk (z7j hfirst hbj) ?_
  intro e1 m6 hR
  obtain ⟨h,rfl,h2,l6,I6⟩:=I5.row hj2 hown h1 hr hR hnz
  refine WIdx.mk _ h3a ⟨by omega,by show (j:Int)<(s.arr.length:Nat);omega⟩ ?_
  conv=>whnf
  refine ⟨?_,trivial⟩
  conv=>whnf
  have ej:((((j,Hj):Nat×HdF).1:Int)).toNat * 1=j:=by show (j:Int).toNat * 1=j;omega
  rw [ej]
  refine WSt.at _ _ h2 (by rw [List.length_append,z1o];show j+1≤_;omega) ?_
  have e:q0j (mixV H Hj s.arr j++rest) j (q0k (.slice h.a (s.arr.getD j []).length h.c))=mixV H (Hj.upd (j+5) h) s.arr (j+1)++rest:=by
   rw [← j8y hj2 h]
   show (mixV H Hj s.arr j++rest).set j _=_
   rw [List.set_append_left _ _ (by rw [z1o];exact hj2)]
  rw [e]
  refine WRng.mk (by apply wrap_i64<;>omega) ?_
  conv=>whnf
  exact ⟨(j+1,Hj.upd (j+5) h),⟨rfl,trivial⟩,⟨hj2,I6,fun k hk=>by rw [← hH k hk];exact q0u _ _ (by omega)⟩,Nat.sub_lt_sub_left hj2 (Nat.lt_succ_self j)⟩
 ·have hj2:j=s.arr.length:=by
   have:¬ (j:Int)<(numS s 3:Nat):=of_decide_eq_false hb2
   have:¬ j<s.arr.length:=fun h=>this (Int.ofNat_lt.2 h)
   omega
  subst hj2
  conv=>whnf
  exact q0x (K2 _ _ hH I5) ⟨rfl,rfl,trivial⟩
theorem j0x {b0 b1 b2 b3:Option Addr} {n0 n1 n2 n3 c0 c1 c2 c3:Nat} {rs:List Res} {RR:Ending→Mem→Prop} (hrs:rs=[.c 2 9 true]) (fin:RR (.returned (.agg ⟨[i a0,i a1,i a2,i a3,i a4,.slice b0 n0 c0,.slice b1 n1 c1,.slice b2 n2 c2,.slice b3 n3 c3]⟩)) m) :
  wpI Tryz.prog scD (q0i rs RR) (envL [(1,.var [i a0,i a1,i a2,i a3,i a4,.slice b0 n0 c0,.slice b1 n1 c1,.slice b2 n2 c2,.slice b3 n3 c3]),(2,.var [i 0,i 0,i 0,i 0,i 0,ns,ns,ns,ns])]) m:=by
 subst hrs
 exact WRet.same fin
theorem w4n (hf:q2g m (famN s) tyS szS H (numS s) (q0t H s)) (hb:∀ j,numS s j≤1000000000) :
  q0f Tryz.prog 60 [.agg ⟨[i a0,i a1,i a2,i a3,i a4,hv H s 0,hv H s 1,hv H s 2,hv H s 3]⟩] m fun e m'=>∃ H',e=.returned (.agg ⟨[i a0,i a1,i a2,i a3,i a4,hv H' s 0,hv H' s 1,hv H' s 2,hv H' s 3]⟩)∧Cop m m' (famN s) H' (numX s) (z2h H' s)∧(H' 4).c=0:=by
 refine q0e q0d Tryz.func60 k6b rfl ?_
 unfold Fn.asks
 rw [k2b]
 refine k0s hf hb fun m4 h0 h1 h2 h3 I hz=>k3q hf hb rfl I rfl hz fun m5 H' I5 h4 _ e=>j0x rfl ⟨H',?_,I5,h4⟩
 rw [← e]
end
section
variable {m0 m m':Mem} {V:CV} {C:q0c} {M:Mac} {sv:Value} {p:Nat} {H:HdF} {s:St} {sh:List Int}
theorem w2f (V:CV) (C:q0c) (M:Mac) (sv:Value) (H:HdF) (s:St) (b0 b1 b2 b3:Value):q0j (q1p V C M sv H s) 0 [i (q2q s),i (s.took:Int),i (s.begun:Int),i s.kind,i s.value,b0,b1,b2,b3]=[i (q2q s),i (s.took:Int),i (s.begun:Int),i s.kind,i s.value,b0,b1,b2,b3]++V.cells C++M.cells++[sv,hv H s 4]:=rfl
theorem w0e (V:CV) (C:q0c) (M:Mac) (sv:Value) (L9:List Value) (h9:L9.length=9) (x y:Value):q0j (L9++V.cells C++M.cells++[sv,x]) 27 [y]=L9++V.cells C++M.cells++[sv,y]:=by
 match L9,h9 with
 | [_,_,_,_,_,_,_,_,_],_=>rfl
def cpA:IR:=(match q9b.body with | .seq a _=>a | r=>r)
def cpB:IR:=(match q9b.body with | .seq _ (.seq b _)=>b | r=>r)
def cpC:IR:=(match q9b.body with | .seq _ (.seq _ (.seq b _))=>b | r=>r)
def cpD:IR:=(match q9b.body with | .seq _ (.seq _ (.seq _ (.seq b _)))=>b | r=>r)
def cpE:IR:=(match q9b.body with | .seq _ (.seq _ (.seq _ (.seq _ b)))=>b | r=>r)
theorem k0m:q9b.body=.seq cpA (.seq cpB (.seq cpC (.seq cpD cpE))):=rfl
attribute [local irreducible] q0j in
theorem j1l {sa:Option Addr} {sl sc:Nat} (hn:q0m Tryz.prog 57 [ptr p] m (.bool false)) (hc:q0g m ⟨p,0,none⟩ (q1p V C M (.slice sa sl sc) H s)) {rs:List Res} {RR:Ending→Mem→Prop} {R:IR}
  (K:∀ p' m',m p'=none→Mem.le m m'→m' p'=some (Cells (q1p V C M (.slice sa sl sc) H s) TSim)→wpI Tryz.prog R (q0i rs RR) (envL [(0,.val (ptr p)),(3,.val (ptr p'))]) m') :
  wpI Tryz.prog (.seq cpA (.seq cpB (.seq cpC R))) (q0i rs RR) (q5p [ptr p]) m:=by
 conv=>whnf
 refine q0a.pure hn ?_
 refine Br.mk (fun h=>by cases h) (fun _=>?_)
 refine WLds.mk (q1p V C M (.slice sa sl sc) H s) hc rfl ?_
 refine WNew.ab fun p' m1 hp' l1 c1=>?_
 refine WSt.mk (a:=⟨p',0,none⟩) (vs:=q0k (.agg ⟨q1p V C M (.slice sa sl sc) H s⟩)) [i 0,i 0,i 0,i 0,i 0,ns,ns,ns,ns,ns,i 0,i 0,i 0,i 0,ns,i 0,i 0,i 0,i 0,i 0,i 0,i 0,i 0,i 0,i 0,i 0,ns,ns] TSim c1 rfl (by show 0+28≤28;decide) ?_
 rw [show q0j [i 0,i 0,i 0,i 0,i 0,ns,ns,ns,ns,ns,i 0,i 0,i 0,i 0,ns,i 0,i 0,i 0,i 0,i 0,i 0,i 0,i 0,i 0,i 0,i 0,ns,ns] 0 (q0k (.agg ⟨q1p V C M (.slice sa sl sc) H s⟩))=q1p V C M (.slice sa sl sc) H s from q8d rfl]
 conv=>whnf
 exact q0x (K p' _ hp' (q2n l1 hp') (Mem.set_same _ _ _)) ⟨rfl,rfl,trivial⟩
attribute [local irreducible] q0j in
theorem j6r {p':Nat} {w tk bg kd vl:Int} {s0 s1 s2 s3 s4:Value} (hc:q0g m ((⟨p,0,none⟩:Addr).add 0) [i w,i tk,i bg,i kd,i vl,s0,s1,s2,s3]) (hw:q0q m ((⟨p,0,none⟩:Addr).add 27) s4)
  {R1:Ending→Mem→Prop} (h1:q0f Tryz.prog 60 [.agg ⟨[i w,i tk,i bg,i kd,i vl,s0,s1,s2,s3]⟩] m R1) {rs:List Res} {RR:Ending→Mem→Prop} {R:IR}
  (K:∀ e m1,R1 e m1→∃ A0 n0 c0 A1 n1 c1 A2 n2 c2 A3 n3 c3,e=.returned (.agg ⟨[i w,i tk,i bg,i kd,i vl,.slice A0 n0 c0,.slice A1 n1 c1,.slice A2 n2 c2,.slice A3 n3 c3]⟩)∧Mem.le m m1∧∃ R2,q0f Tryz.prog 61 [s4] m1 R2 ∧
   ∀ e2 m2,R2 e2 m2→∃ A4 n4 c4 L,e2=.returned (.slice A4 n4 c4)∧Mem.le m1 m2∧m2 p'=some (Cells L TSim)∧L.length=28 ∧
    wpI Tryz.prog R (q0i rs RR) (envL [(0,.val (ptr p)),(3,.val (ptr p'))]) (m2.set p' (Cells (q0j (q0j L 0 [i w,i tk,i bg,i kd,i vl,.slice A0 n0 c0,.slice A1 n1 c1,.slice A2 n2 c2,.slice A3 n3 c3]) 27 [.slice A4 n4 c4]) TSim))) :
  wpI Tryz.prog (.seq cpD R) (q0i rs RR) (envL [(0,.val (ptr p)),(3,.val (ptr p'))]) m:=by
 refine WLds.mk _ hc rfl ?_
 refine WLd.mk _ hw ?_
 conv=>whnf
 refine ⟨?_,trivial⟩
 conv=>whnf
 refine q1r.mk h1 ?_
 intro e m1 hR1
 obtain ⟨A0,n0,c0,A1,n1,c1,A2,n2,c2,A3,n3,c3,rfl,l1,R2,h2,K2⟩:=K e m1 hR1
 refine ⟨l1,?_⟩
 conv=>whnf
 refine ⟨?_,trivial⟩
 conv=>whnf
 refine q1r.mk h2 ?_
 intro e2 m2 hR2
 obtain ⟨A4,n4,c4,L,rfl,l2,hp',hL,K3⟩:=K2 e2 m2 hR2
 refine ⟨l2,?_⟩
 conv=>whnf
 refine ⟨?_,trivial⟩
 refine WSt.at _ _ hp' (by rw [hL];show 0+9≤28;decide) ?_
 conv=>whnf
 refine ⟨?_,trivial⟩
 refine WSt.at _ _ (Mem.set_same _ _ _) (by rw [v4t,hL];show 27+1≤28;decide) ?_
 rw [Mem.set2]
 conv=>whnf
 exact q0x K3 ⟨rfl,rfl,trivial⟩
theorem k7k {p':Nat} {rs:List Res} {RR:Ending→Mem→Prop} (hrs:rs=[.t 2]) (fin:RR (.returned (ptr p')) m):wpI Tryz.prog cpE (q0i rs RR) (envL [(0,.val (ptr p)),(3,.val (ptr p'))]) m:=by
 subst hrs
 exact WRet.same fin
theorem v6h (h:q0l m0 m V C M sv p H s) (hB:q1m m0 V C M sv sh) (hb:∀ j,numS s j≤1000000000) :
  q0f Tryz.prog 36 [ptr p] m fun e m'=>∃ p' H',e=.returned (ptr p')∧Mem.le m m'∧q0l m0 m' V C M sv p' H' s∧∀ b,q0s p' H' s b→m b=none:=by
 refine q0e q0d Tryz.func36 k1e rfl ?_
 obtain ⟨sa,sc,hsv,_⟩:=id hB.shown
 subst hsv
 unfold Fn.asks
 rw [k0m]
 refine j1l (q6u h hB) (q0g.blk h.hp fun q v hq=>by rw [Nat.zero_add];exact hq) fun p' m1 hp' l1 c1=>?_
 have h1:=h.mono l1
 have hc9:q0g m1 ((⟨p,0,none⟩:Addr).add 0) [i (q2q s),i (s.took:Int),i (s.begun:Int),i s.kind,i s.value,hv H s 0,hv H s 1,hv H s 2,hv H s 3]:=fun q v hq=>by
  rw [q0o]
  refine h1.cell ?_
  match q,hq with
  | 0,hq=>exact hq
  | 1,hq=>exact hq
  | 2,hq=>exact hq
  | 3,hq=>exact hq
  | 4,hq=>exact hq
  | 5,hq=>exact hq
  | 6,hq=>exact hq
  | 7,hq=>exact hq
  | 8,hq=>exact hq
 have hN4:4<famN s:=by unfold famN;omega
 refine j6r hc9 (h1.cell rfl) (w4n h1.fam hb) ?_
 rintro _ m2 ⟨H2,rfl,I2,h24⟩
 refine ⟨_,_,_,_,_,_,_,_,_,_,_,_,rfl,I2.le,_,k6u (L:=q0t H s 4) ⟨h1.fam.len 4 hN4,fun ad had=>(h1.fam.cellsAt hN4 had).mono I2.le⟩ (hb 4),?_⟩
 intro e3 m3 hR3
 obtain ⟨h4,rfl,hz4,l3,I3⟩:=I2.clone hN4 hR3 (h1.fam.len 4 hN4) (fun he=>by
  cases hh:numS s 4 with
  | zero=>rfl
  | succ q =>
   obtain ⟨b,_,hbb,_⟩:=h1.fam.room hN4 (show numS s 4≠0 by omega)
   rw [hbb.2] at he;cases he)
 have c3:m3 p'=some (Cells (q1p V C M (.slice sa sh.length sc) H s) TSim):=l3 _ _ (I2.le _ _ c1)
 have hu:∀ j,j≠4→(H2.upd 4 h4) j=H2 j:=fun j e=>q0u _ _ e
 have I4:Cop m1 m3 (famN s) (H2.upd 4 h4) (numS s) (q0t (H2.upd 4 h4) s):=I3.congr fun j hj=>by
  refine ⟨rfl,?_,?_⟩
  ·show numS s j=if j=4 then numS s 4 else numX s j
   unfold numX
   split
   ·rename_i e;rw [e]
   ·rfl
  ·show q0t (H2.upd 4 h4) s j=if j=4 then q0t H s 4 else z2h H2 s j
   unfold z2h
   match j with
   | 0=>rfl
   | 1=>rfl
   | 2=>rfl
   | 3 =>
    rw [if_neg (by decide),if_neg (by decide)]
    show q2h (H2.upd 4 h4) s.arr=q2h H2 s.arr
    unfold q2h
    apply List.map_congr_left
    intro k _
    rw [hu (k+5) (by omega)]
   | 4=>rfl
   | j+5=>rfl
 have hnp:∀ b,q5o (famN s) (H2.upd 4 h4) b→b≠p':=fun b hf e=>by
  have:=I4.new b hf
  rw [e,c1] at this;cases this
 have hfree:∀ b,q0s p' (H2.upd 4 h4) s b→m b=none:=fun b hf=>by
  rcases hf with hf | hf
  ·rw [hf];exact hp'
  ·exact q1z l1 (I4.new b hf)
 refine ⟨_,_,_,q1p V C M (.slice sa sh.length sc) H s,rfl,l3,c3,rfl,?_⟩
 have e:q0j (q0j (q1p V C M (.slice sa sh.length sc) H s) 0 [i (q2q s),i (s.took:Int),i (s.begun:Int),i s.kind,i s.value,hv H2 s 0,hv H2 s 1,hv H2 s 2,hv H2 s 3]) 27 [.slice h4.a (numS s 4) h4.c]=q1p V C M (.slice sa sh.length sc) (H2.upd 4 h4) s:=by
  rw [w2f,w0e _ _ _ _ _ rfl]
  unfold q1p hv
  rw [hu 0 (by decide),hu 1 (by decide),hu 2 (by decide),hu 3 (by decide),q1c]
 show wpI Tryz.prog cpE _ _ (m3.set p' (Cells (q0j (q0j (q1p V C M (.slice sa sh.length sc) H s) 0 [i (q2q s),i (s.took:Int),i (s.begun:Int),i s.kind,i s.value,hv H2 s 0,hv H2 s 1,hv H2 s 2,hv H2 s 3]) 27 [.slice h4.a (numS s 4) h4.c]) TSim))
 rw [e]
 have L3:Mem.le m m3:=l1.trans (I2.le.trans l3)
 have hle:Mem.le m (m3.set p' (Cells (q1p V C M (.slice sa sh.length sc) (H2.upd 4 h4) s) TSim)):=q2n L3 hp'
 refine k7k rfl ⟨p',H2.upd 4 h4,rfl,hle,⟨Mem.set_same _ _ _,I4.fam.same fun b o hf hbo=>by rw [Mem.set_other _ _ (hnp b hf)];exact hbo,h.le.trans hle,fun b hf=>q1z h.le (hfree b hf),fun hn=>?_,fun hn=>?_⟩,hfree⟩
 ·cases hh:s.prints with
  | nil=>rfl
  | cons x L =>
   obtain ⟨b,_,hbb,_⟩:=I4.fam.room (j:=0) (by unfold famN;omega) (show s.prints.length≠0 by rw [hh];simp)
   rw [hbb.2] at hn;cases hn
 ·cases hh:s.way with
  | nil=>rfl
  | cons x L =>
   obtain ⟨b,_,hbb,_⟩:=I4.fam.room (j:=4) hN4 (show s.way.length≠0 by rw [hh];simp)
   rw [hbb.2] at hn;cases hn
end
section
variable {m0 m m':Mem} {V:CV} {C:q0c} {M:Mac} {sv:Value} {p:Nat} {H:HdF} {s s':St} {sh:List Int}
theorem j1u (h:q0l m0 m V C M sv p H s) (hB:q1m m0 V C M sv sh):q0m Tryz.prog 38 [ptr p] m (.tuple ⟨[i (if s.ended=true then 0 else (s.word:Int)),.bool (!s.ended)]⟩):=by
 refine q0e q0d Tryz.func38 j8v rfl ?_
 have hw:q0q m ((⟨p,0,none⟩:Addr).add (0+0)) (i (q2q s)):=h.cell rfl
 conv=>whnf
 refine q0a.pure (q6u h hB) ?_
 refine WSc.mk (v:=decide (q2q s<0)) (fun _=>?_) ?_
 ·refine WLd.mk (i (q2q s)) (by rw [q0o];exact hw) ?_
  conv=>whnf
  exact And.intro (Mem.le.refl _) rfl
 have hwv:decide (q2q s<0)=s.ended:=by
  unfold q2q
  cases s.ended with
  | true=>rfl
  | false=>rw [if_neg (by decide)];exact decide_eq_false (by omega)
 rw [hwv]
 refine Br.mk (fun hh=>?_) (fun hh=>?_)
 ·have hh:s.ended=true:=hh
  rw [hh]
  exact WRet.same ⟨rfl,rfl⟩
 ·have hh:s.ended=false:=hh
  have e:q2q s=(s.word:Int):=by unfold q2q;rw [hh];rfl
  rw [e] at hw
  rw [hh]
  refine WLd.mk (i (s.word:Int)) (by rw [q0o];exact hw) ?_
  exact WRet.same ⟨rfl,rfl⟩
theorem w0g (h:q0l m0 m V C M sv p H s) (hB:q1m m0 V C M sv sh) (r:Int) :
  q0m Tryz.prog 41 [ptr p,i r] m (if 0≤r∧r<s.kept.length then .tuple ⟨[(s.kept.getD r.toNat VR.zero).val,i 0]⟩ else .tuple ⟨[VR.zero.val,i 2]⟩):=by
 refine q0e q0d Tryz.func41 v9c rfl ?_
 conv=>whnf
 refine q0a.pure (q6u h hB) ?_
 refine Br.mk (fun hh=>by cases hh) (fun _=>?_)
 refine WSc.mk (v:=decide (r≥(s.kept.length:Int))) (fun _=>?_) ?_
 ·refine WLd.mk (hv H s 2) (by rw [q0o];exact h.cell rfl) ?_
  conv=>whnf
  exact And.intro (Mem.le.refl _) rfl
 refine Br.mk (fun hh=>?_) (fun hh=>?_)
 ·have hh:(decide (r<0)||decide (r≥(s.kept.length:Int)))=true:=hh
  simp only [Bool.or_eq_true,decide_eq_true_eq] at hh
  rw [if_neg (by omega)]
  exact WRet.same ⟨rfl,rfl⟩
 ·have hh:(decide (r<0)||decide (r≥(s.kept.length:Int)))=false:=hh
  simp only [Bool.or_eq_false_iff,decide_eq_false_iff_not] at hh
  rw [if_pos (by omega)]
  have hr:r.toNat<s.kept.length:=by omega
  obtain ⟨ar,har,hc⟩:=h.keptCells hr
  refine WLd.mk (hv H s 2) (by rw [q0o];exact h.cell rfl) ?_
  refine WIdx.mk ar har ⟨by omega,by show r<(s.kept.length:Nat);omega⟩ ?_
  refine WLds.mk _ hc rfl ?_
  exact WRet.same ⟨rfl,rfl⟩
theorem j8q (h:q0l m0 m V C M sv p H s) (hB:q1m m0 V C M sv sh) (a b:Int) :
  q0m Tryz.prog 40 [ptr p,i a,i b] m (if 0≤a∧a<s.arr.length∧0≤b∧b<(s.arr.getD a.toNat []).length then .tuple ⟨[i ((s.arr.getD a.toNat []).getD b.toNat 0),i 0]⟩ else .tuple ⟨[i 0,i 2]⟩):=by
 refine q0e q0d Tryz.func40 j4y rfl ?_
 conv=>whnf
 refine q0a.pure (q6u h hB) ?_
 refine Br.mk (fun hh=>by cases hh) (fun _=>?_)
 refine WSc.mk (v:=decide (a≥(s.arr.length:Int))) (fun _=>?_) ?_
 ·refine WLd.mk (hv H s 3) (by rw [q0o];exact h.cell rfl) ?_
  conv=>whnf
  exact And.intro (Mem.le.refl _) rfl
 refine WSc.mk (v:=decide (b<0)) (fun _=>And.intro (Mem.le.refl _) rfl) ?_
 refine WSc.mk (v:=decide (b≥((s.arr.getD a.toNat []).length:Int))) (fun hg=>?_) ?_
 ·have hg:((decide (a<0)||decide (a≥(s.arr.length:Int)))||decide (b<0))=false:=hg
  simp only [Bool.or_eq_false_iff,decide_eq_false_iff_not] at hg
  obtain ⟨ar,har,hc⟩:=h.rowCell (k:=a.toNat) (by omega)
  refine WLd.mk (hv H s 3) (by rw [q0o];exact h.cell rfl) ?_
  refine WIdx.mk ar har ⟨by omega,by show a<(s.arr.length:Nat);omega⟩ ?_
  refine WLd.mk (.slice (H (a.toNat+5)).a (s.arr.getD a.toNat []).length (H (a.toNat+5)).c) (by simpa using hc) ?_
  conv=>whnf
  exact And.intro (Mem.le.refl _) rfl
 refine Br.mk (fun hh=>?_) (fun hh=>?_)
 ·have hh:(((decide (a<0)||decide (a≥(s.arr.length:Int)))||decide (b<0))||decide (b≥((s.arr.getD a.toNat []).length:Int)))=true:=hh
  simp only [Bool.or_eq_true,decide_eq_true_eq] at hh
  rw [if_neg (by omega)]
  exact WRet.same ⟨rfl,rfl⟩
 ·have hh:(((decide (a<0)||decide (a≥(s.arr.length:Int)))||decide (b<0))||decide (b≥((s.arr.getD a.toNat []).length:Int)))=false:=hh
  simp only [Bool.or_eq_false_iff,decide_eq_false_iff_not] at hh
  rw [if_pos (by omega)]
  obtain ⟨ar,har,hc⟩:=h.rowCell (k:=a.toNat) (by omega)
  obtain ⟨ae,hae,hce⟩:=h.elemCell (k:=a.toNat) (q:=b.toNat) (by omega) (by omega)
  refine WLd.mk (hv H s 3) (by rw [q0o];exact h.cell rfl) ?_
  refine WIdx.mk ar har ⟨by omega,by show a<(s.arr.length:Nat);omega⟩ ?_
  refine WLd.mk (.slice (H (a.toNat+5)).a (s.arr.getD a.toNat []).length (H (a.toNat+5)).c) (by simpa using hc) ?_
  refine WIdx.mk ae hae ⟨by omega,by omega⟩ ?_
  refine WLd.mk (i ((s.arr.getD a.toNat []).getD b.toNat 0)) (by simpa using hce) ?_
  exact WRet.same ⟨rfl,rfl⟩
theorem j7o {lw:Int} (h:RfAt m0 m V C M sv lw p H s):q0m Tryz.prog 62 [ptr p] m (i (s.way.length:Int)):=by
 refine q0e q0d Tryz.func62 j8k rfl ?_
 refine WLd.mk (hv H s 4) (h.cell rfl) ?_
 exact WRet.same ⟨rfl,rfl⟩
end
end Go.Proofs.YtleofbpepfmfgaaGreatDoor
