import Derived.Test.YtleofbpepfmfgaaGreatDoorVxSimV
import Derived.Test.YtleofbpepfmfgaaGreatDoorVxRfN
set_option maxRecDepth 100000
namespace Go.Proofs.YtleofbpepfmfgaaGreatDoor
open Go Go.Vx
open Go.Vx.IOp Go.Vx.IR Go.Vx.Opd
section
variable {m0 m m':Mem} {V:CV} {C:q0c} {M:Mac} {sv:Value} {p:Nat} {H:HdF} {s s':St} {sh:List Int}
theorem k1z (h:q0l m0 m V C M sv p H s) (hB:q1m m0 V C M sv sh) (hS:StOK C s) (he:s.ended=false) {k:Nat} (hl:LimS s k) (hk:k≤1000000000) {o:OpR} (ho:OpOK C o) :
  q0f Tryz.prog 101 [ptr p,o.val] m (z3x m0 V C M sv p m H s (doS M sh s o)):=by
 refine q0e q0d Tryz.func101 k1x rfl ?_
 have hg:=ho.gd
 have tail:=j2w h hB hS he hl hk ho
 unfold Fn.asks
 rw [k7o]
 refine Br.mk (fun hb=>?_) (fun hb=>?_)
 ·have hb:o.gd≠-1:=by
   have hb:(o.gd != -1)=true:=hb
   simpa using hb
  have hr:o.gd.toNat<s.regs.length:=by rw [hS.regs];omega
  obtain ⟨ar,har,hc⟩:=h.regCells hr
  refine WLd.mk (hv H s 1) (by rw [q0o];exact h.cell rfl) ?_
  refine WIdx.mk ar har ⟨by omega,by show o.gd<(s.regs.length:Nat);omega⟩ ?_
  refine WLds.mk _ hc rfl ?_
  conv=>whnf
  refine ⟨?_,trivial⟩
  conv=>whnf
  refine ⟨?_,trivial⟩
  refine Br.mk (fun hq=>?_) (fun hq=>?_)
  ·have hq:(s.reg o.gd).b≠0:=by
    have hq:((s.reg o.gd).b != 0)=true:=hq
    simpa using hq
   have e:doS M sh s o=⟨s,(s.reg o.gd).b,true,false⟩:=by unfold doS;rw [if_pos ⟨hb,hq⟩]
   refine WRet.same ⟨?_,H,?_⟩
   ·rw [e];rfl
   ·rw [e];exact Goes.refl h
  ·have hq:¬ (s.reg o.gd).b≠0:=by
    have hq:((s.reg o.gd).b != 0)=false:=hq
    simpa using hq
   refine Br.mk (fun hz=>?_) (fun hz=>?_)
   ·have hz:(s.reg o.gd).n=0:=by
     have hz:((s.reg o.gd).n==0)=true:=hz
     simpa using hz
    have e:doS M sh s o=⟨s,0,false,false⟩:=by unfold doS;rw [if_neg (fun hh=>hq hh.2),if_pos ⟨hb,hz⟩]
    refine WRet.same ⟨?_,H,?_⟩
    ·rw [e];rfl
    ·rw [e];exact Goes.refl h
   ·have hz:¬ (s.reg o.gd).n=0:=by
     have hz:((s.reg o.gd).n==0)=false:=hz
     simpa using hz
    have e:doS M sh s o=q1x M sh s o:=by unfold doS;rw [if_neg (fun hh=>hq hh.2),if_neg (fun hh=>hz hh.2)]
    rw [e]
    conv=>whnf
    exact q0x tail ⟨rfl,rfl,rfl,rfl,rfl,trivial⟩
 ·have hb:¬ o.gd≠-1:=by
   have hb:(o.gd != -1)=false:=hb
   simpa using hb
  have e:doS M sh s o=q1x M sh s o:=by unfold doS;rw [if_neg (fun hh=>hb hh.1),if_neg (fun hh=>hb hh.1)]
  rw [e]
  conv=>whnf
  exact q0x tail ⟨rfl,rfl,rfl,rfl,rfl,trivial⟩
theorem v3o (h:q0l m0 m V C M sv p H s) {bx T:Nat} (hbx:m bx=some (Cells [ptr p] T)) (w:WayR) (hw:w.rg<s.regs.length) :
  q0f Tryz.prog 131 [.agg ⟨w.cells⟩,ptr bx] m fun e m'=>e=.returned (.bool (decide (w.t≤s.took)))∧Goes m0 V C M sv p m H s m' H (if w.t≤s.took then { s with regs:=s.regs.set w.rg w.v } else s):=by
 refine q0e q0d Tryz.func131 k6s rfl ?_
 have hb:q0q m ⟨bx,0,none⟩ (ptr p):=⟨_,_,_,hbx,rfl,rfl⟩
 refine WLd.mk _ hb ?_
 refine WLd.mk (i (s.took:Int)) (by rw [q0o];exact h.cell rfl) ?_
 refine Br.mk (fun hq=>?_) (fun hq=>?_)
 ·have hq:¬ w.t≤s.took:=by
   have hq:(w.t:Int)>(s.took:Int):=of_decide_eq_true hq
   omega
  refine WRet.same ⟨?_,?_⟩
  ·rw [decide_eq_false hq];rfl
  ·rw [if_neg hq];exact Goes.refl h
 ·have hq:w.t≤s.took:=by
   have hq:¬ (w.t:Int)>(s.took:Int):=of_decide_eq_false hq
   omega
  obtain ⟨ar,har,_⟩:=h.regCells hw
  refine WLd.mk _ hb ?_
  refine WLd.mk (hv H s 1) (by rw [q0o];exact h.cell rfl) ?_
  refine WIdx.mk ar har ⟨by omega,by show (w.rg:Int)<(s.regs.length:Nat);omega⟩ ?_
  conv=>whnf
  refine ⟨?_,trivial⟩
  conv=>whnf
  refine h.setReg hw har (v:=w.v) rfl fun m2 G2=>?_
  refine WRet.same ⟨?_,?_⟩
  ·rw [decide_eq_true hq];rfl
  ·rw [if_pos hq];exact G2
abbrev dueW (k:Nat) (W:List WayR):List WayR:=W.filter fun w=>decide (w.t≤k)
abbrev q1o (k:Nat) (W:List WayR):List WayR:=W.filter fun w=>!decide (w.t≤k)
theorem z1m {k:Nat} {W:List WayR} {j:Nat} (hj:j<W.length):dueW k (W.take (j+1))=if (W[j]).t≤k then dueW k (W.take j)++[W[j]] else dueW k (W.take j):=by
 unfold dueW
 rw [List.take_succ_eq_append_getElem hj,List.filter_append]
 by_cases e:(W[j]).t≤k
 ·rw [if_pos e];simp [e]
 ·rw [if_neg e];simp [e]
theorem q8p {k:Nat} {W:List WayR} {j:Nat} (hj:j<W.length):q1o k (W.take (j+1))=if (W[j]).t≤k then q1o k (W.take j) else q1o k (W.take j)++[W[j]]:=by
 unfold q1o
 rw [List.take_succ_eq_append_getElem hj,List.filter_append]
 by_cases e:(W[j]).t≤k
 ·rw [if_pos e];simp [e]
 ·rw [if_neg e];simp [e]
theorem w2b (k:Nat) (W:List WayR) (j:Nat):(q1o k (W.take j)).length≤j:=Nat.le_trans (List.length_filter_le _ _) (by simp;omega)
theorem v3x (R:List VR) (A:List WayR) (w:WayR):q1h R (A++[w])=(q1h R A).set w.rg w.v:=by unfold q1h;rw [List.foldl_append];rfl
theorem w1u (h:q0l m0 m V C M sv p H s) {bx T:Nat} (hbx:m bx=some (Cells [ptr p] T)) (hnf:¬ q0s p H s bx) (hw:∀ w∈s.way,w.rg<s.regs.length) (hl:s.way.length≤1000000000) :
  q0f Tryz.prog 154 [hv H s 4,.func (.func 131) ⟨[]⟩ ⟨[ptr bx]⟩] m fun e m'=>(e=.returned (i (-1))∧Goes m0 V C M sv p m H s m' H s∧dueW s.took s.way=[]) ∨
   ∃ (j:Nat) (hj:j<s.way.length),e=.returned (i j)∧Goes m0 V C M sv p m H s m' H { s with regs:=s.regs.set (s.way[j]).rg (s.way[j]).v }∧dueW s.took (s.way.take j)=[]∧(s.way[j]).t≤s.took:=by
 refine q0e q0d Tryz.func154 k1w rfl ?_
 conv=>whnf
 refine q0v.mk Nat (fun k=>[(8,.val (i k))]) (fun k m'=>k≤s.way.length∧Goes m0 V C M sv p m H s m' H s∧dueW s.took (s.way.take k)=[]) (fun k=>s.way.length - k) 0 ⟨rfl,trivial⟩ ⟨Nat.zero_le _,Goes.refl h,rfl⟩ ?_
 rintro k m1 ⟨hk,G,hd⟩
 have h1:=G.at'
 refine Br.mk (fun hb=>?_) (fun hb=>?_)
 ·have hk2:k<s.way.length:=by
   have:(k:Int)<(s.way.length:Nat):=of_decide_eq_true hb
   omega
  obtain ⟨ad,ha,hc⟩:=h1.wayCells (r:=k) hk2
  have hbx1:=G.keep _ _ hbx hnf
  refine WIdx.mk ad ha ⟨by omega,by show (k:Int)<(s.way.length:Nat);omega⟩ ?_
  refine WLds.mk _ (by simpa using hc) rfl ?_
  conv=>whnf
  refine q0a.mk (v3o h1 hbx1 (s.way[k]) (hw _ (List.getElem_mem hk2))) ?_
  rintro _ m2 ⟨rfl,G2⟩
  refine Br.mk (fun hq=>?_) (fun hq=>?_)
  ·have hq:(s.way[k]).t≤s.took:=of_decide_eq_true hq
   rw [if_pos hq] at G2
   exact WRet.same (.inr ⟨k,hk2,rfl,G.trans G2,hd,hq⟩)
  ·have hq:¬ (s.way[k]).t≤s.took:=of_decide_eq_false hq
   rw [if_neg hq] at G2
   refine WRng.mk (by apply wrap_i64<;>omega) ?_
   conv=>whnf
   exact ⟨k+1,⟨rfl,trivial⟩,⟨hk2,G.trans G2,by rw [z1m hk2,if_neg hq];exact hd⟩,Nat.sub_lt_sub_left hk2 (Nat.lt_succ_self k)⟩
 ·have hk2:k=s.way.length:=by
   have:¬ (k:Int)<(s.way.length:Nat):=of_decide_eq_false hb
   omega
  subst hk2
  rw [List.take_length] at hd
  exact WRet.same (.inl ⟨rfl,G,hd⟩)
theorem q0l.wayPut (h:q0l m0 m V C M sv p H s) {W:List WayR} (hW:W.length=s.way.length) {q:Nat} {vs:List Value} (hne:s.way.length≠0) (hq:q+vs.length≤s.way.length * 4)
  (hsp:q0j (q0r WayR.cells s.way) q vs=q0r WayR.cells W):∃ b rest,(H 4).a=some ⟨b,0,none⟩∧m b=some (Cells (q0t H s 4++rest) TRes)∧(q0t H s 4).length=s.way.length * 4 ∧
   Goes m0 V C M sv p m H s (m.set b (Cells (q0j (q0t H s 4++rest) q vs) TRes)) H { s with way:=W }:=by
 obtain ⟨b,rest,hb,hm,hl⟩:=h.fam.room (j:=4) (by unfold famN;omega) (show s.way.length≠0 from hne)
 have hfl:(q0t H s 4).length=s.way.length * 4:=q1y q7n _
 refine ⟨b,rest,hb.2,hm,hfl,?_⟩
 have e:q0j (q0t H s 4++rest) q vs=q0t H { s with way:=W } 4++rest:=by
  have h2:q0j (q0t H s 4++rest) q vs=q0j (q0t H s 4) q vs++rest:=by
   rw [q5x _ _ _ (by rw [List.length_append,hfl];omega),q5x _ _ _ (by rw [hfl];exact hq),List.take_append_of_le_length (by rw [hfl];omega),List.drop_append_of_le_length (by rw [hfl];exact hq)]
   simp only [List.append_assoc]
  rw [h2]
  exact congrArg (·++rest) hsp
 rw [e]
 refine h.put (k:=4) (by unfold famN;omega) hb ?_ rfl (fun j hj e=>z1b H s W s.begun j e) ?_ ?_ hl rfl hW
 ·unfold q1p hv
  have:numS { s with way:=W } 4=numS s 4:=hW
  rw [this];rfl
 ·exact hW
 ·show (q0r WayR.cells W).length=(q0r WayR.cells s.way).length
  rw [q1y q7n,q1y q7n,hW]
theorem q0l.setWay (h:q0l m0 m V C M sv p H s) {q:Nat} (hq:q<s.way.length) {w:WayR} {ad:Addr} {vs:List Value} {K:Mem→Prop} (ha:(H 4).a=some ad) (hvs:vs=w.cells)
  (kk:∀ m',Goes m0 V C M sv p m H s m' H { s with way:=s.way.set q w }→K m'):WSt m (ad.add (q * 4)) vs K:=by
 subst hvs
 obtain ⟨b,rest,hb,hm,hfl,G⟩:=h.wayPut (W:=s.way.set q w) List.length_set (q:=q * 4) (vs:=w.cells) (by omega) (by show q * 4+4≤_;omega) (by
  have:=q9e q7n hq w []
  rw [List.append_nil,List.append_nil] at this;exact this)
 rw [hb] at ha;cases ha
 exact WSt.at _ _ hm (by rw [List.length_append,hfl];show q * 4+4≤_;omega) (kk _ G)
def q5j:WayR:=⟨0,⟨0,0⟩,0⟩
theorem j8c (n:Nat):q0r WayR.cells (List.replicate n q5j)=(List.replicate n [i 0,i 0,i 0,i 0]).flatten:=by unfold q0r;rw [List.map_replicate];rfl
theorem k4g (n:Nat):oneL (List.replicate n [i 0,i 0,i 0,i 0]).flatten=true:=by
 induction n with
 | zero=>rfl
 | succ n ih=>rw [List.replicate_succ,List.flatten_cons];exact ih
theorem q0l.clearWay (h:q0l m0 m V C M sv p H s) {q n:Nat} (hq:q<s.way.length) (hn:n=s.way.length - q) {K:Mem→Prop} {ad:Addr} {a:Option Addr} (ha:(H 4).a=some ad) (hsl:a=some (ad.add (q * 4)))
  (kk:∀ m',Goes m0 V C M sv p m H s m' H { s with way:=s.way.take q++List.replicate n q5j }→K m'):WClr m 4 [i 0,i 0,i 0,i 0] a n K:=by
 subst hn;subst hsl
 have hlen:(List.replicate (s.way.length - q) [i 0,i 0,i 0,i 0]).flatten.length=(s.way.length - q) * 4:=z2z _ _
 obtain ⟨b,rest,hb,hm,hfl,G⟩:=h.wayPut (W:=s.way.take q++List.replicate (s.way.length - q) q5j) (by rw [List.length_append,List.length_take,List.length_replicate];omega) (q:=q * 4)
  (vs:=(List.replicate (s.way.length - q) [i 0,i 0,i 0,i 0]).flatten) (by omega) (by rw [hlen];omega) (by
  rw [q5x _ _ _ (by rw [hlen,q1y q7n];omega),hlen,z0i,v1o q7n,j8c,List.drop_eq_nil_of_le (by rw [q1y q7n];omega),List.append_nil])
 rw [hb] at ha;cases ha
 unfold WClr
 refine .inr ⟨_,rfl,q0t H s 4++rest,TRes,?_,?_,?_,by omega,k4g _,?_⟩
 ·rw [add0];exact hm
 ·rw [add0]
 ·rw [add0];show q * 4+(s.way.length - q) * 4≤_;rw [List.length_append,hfl];omega
 ·rw [add0];exact kk _ G
theorem j3h (h:q0l m0 m V C M sv p H s) {bx T:Nat} (hbx:m bx=some (Cells [ptr p] T)) (hnf:¬ q0s p H s bx) (hw:∀ w∈s.way,w.rg<s.regs.length) (hl:s.way.length≤1000000000) :
  q0f Tryz.prog 130 [hv H s 4,.func (.func 131) ⟨[]⟩ ⟨[ptr bx]⟩] m fun e m'=>∃ n,e=.returned (.slice (H 4).a (q1o s.took s.way).length (H 4).c) ∧
   Goes m0 V C M sv p m H s m' H { s with regs:=q1h s.regs (dueW s.took s.way),way:=q1o s.took s.way++List.replicate n q5j }:=by
 refine q0e q0d Tryz.func130 j8h rfl ?_
 conv=>whnf
 refine q0a.mk (w1u h hbx hnf hw hl) ?_
 rintro en m1 (⟨rfl,G,hd⟩ | ⟨j0,hj0,rfl,G,hd,ht⟩)
 ·refine Br.mk (fun _=>?_) (fun hh=>by cases hh)
  have e1:q1o s.took s.way=s.way:=by
   unfold q1o
   rw [List.filter_eq_self]
   intro w hw'
   have:=List.filter_eq_nil_iff.1 hd w hw'
   simpa using this
  refine WRet.same ⟨0,?_,?_⟩
  ·rw [e1];rfl
  ·rw [hd,e1,List.replicate_zero,List.append_nil];exact G
 ·refine Br.mk (fun hb=>?_) (fun _=>?_)
  ·simp at hb
  refine WRng.mk (by apply wrap_i64<;>omega) ?_
  conv=>whnf
  have e1:q1o s.took (s.way.take (j0+1))=s.way.take j0:=by
   rw [q8p hj0,if_pos ht]
   unfold q1o
   rw [List.filter_eq_self]
   intro w hw'
   have:=List.filter_eq_nil_iff.1 hd w hw'
   simpa using this
  have hl1:(q1o s.took (s.way.take (j0+1))).length=j0:=by rw [e1,List.length_take];omega
  refine q0v.mk Nat (fun j=>[(5,.val (i ((q1o s.took (s.way.take j)).length:Nat))),(6,.val (i j))]) (fun j m'=>j≤s.way.length∧(q1o s.took (s.way.take j)).length<j ∧
   Goes m0 V C M sv p m H s m' H { s with regs:=q1h s.regs (dueW s.took (s.way.take j)),way:=q1o s.took (s.way.take j)++s.way.drop (q1o s.took (s.way.take j)).length }) (fun j=>s.way.length - j) (j0+1) ?_ ?_ ?_
  ·refine ⟨?_,?_,trivial⟩
   ·show some (AV.val (i (j0:Int)))=some (AV.val (i _))
    rw [hl1]
   ·rfl
  ·refine ⟨hj0,by rw [hl1];omega,?_⟩
   have e2:q1h s.regs (dueW s.took (s.way.take (j0+1)))=s.regs.set (s.way[j0]).rg (s.way[j0]).v:=by rw [z1m hj0,if_pos ht,hd];rfl
   rw [e2,e1,List.length_take,Nat.min_eq_left (Nat.le_of_lt hj0),List.take_append_drop]
   exact G
  rintro j m2 ⟨hj,hlt,G2⟩
  have h2:=G2.at'
  generalize hF:q1o s.took (s.way.take j)=F at hlt G2 h2
  have hWl:(F++s.way.drop F.length).length=s.way.length:=by rw [List.length_append,List.length_drop];omega
  refine Br.mk (fun hb=>?_) (fun hb=>?_)
  ·have hj2:j<s.way.length:=by
    have:(j:Int)<(s.way.length:Nat):=of_decide_eq_true hb
    omega
   have hjW:j<(F++s.way.drop F.length).length:=by rw [hWl];exact hj2
   have hget:(F++s.way.drop F.length)[j]=s.way[j]:=by
    rw [List.getElem_append_right (by omega),List.getElem_drop]
    congr 1;omega
   obtain ⟨ad,ha,hc⟩:=h2.wayCells (r:=j) hjW
   rw [hget] at hc
   have hbx2:=G2.keep _ _ hbx hnf
   refine WIdx.mk ad ha ⟨by omega,by show (j:Int)<(s.way.length:Nat);omega⟩ ?_
   refine WLds.mk _ (by simpa using hc) rfl ?_
   conv=>whnf
   refine q0a.mk (v3o h2 hbx2 (s.way[j]) (by show _<(q1h _ _).length;rw [q8i];exact hw _ (List.getElem_mem hj2))) ?_
   rintro _ m3 ⟨rfl,G3⟩
   have G3:=G2.trans G3
   refine Br.mk (fun hq=>?_) (fun hq=>?_)
   ·have hq:¬ (s.way[j]).t≤s.took:=by
     have hq:(!decide ((s.way[j]).t≤s.took))=true:=hq
     simpa using hq
    rw [if_neg hq] at G3
    have eW:(F++s.way.drop F.length).set F.length s.way[j]=q1o s.took (s.way.take (j+1))++s.way.drop (q1o s.took (s.way.take (j+1))).length:=by
     rw [q8p hj2,if_neg hq,hF,List.set_append_right _ _ (Nat.le_refl _),Nat.sub_self,List.drop_eq_getElem_cons (show F.length<s.way.length by omega),List.set_cons_zero,List.length_append,List.append_assoc]
     rfl
    refine WIdx.mk ad ha ⟨by omega,by show (F.length:Int)<(s.way.length:Nat);omega⟩ ?_
    conv=>whnf
    refine G3.at'.setWay (q:=F.length) (by show F.length<(F++s.way.drop F.length).length;rw [hWl];omega) ha (w:=s.way[j]) rfl fun m4 G4=>?_
    refine WRng.mk (by apply wrap_i64<;>omega) ?_
    refine WRng.mk (by apply wrap_i64<;>omega) ?_
    conv=>whnf
    refine ⟨j+1,⟨?_,rfl,trivial⟩,⟨hj2,?_,?_⟩,Nat.sub_lt_sub_left hj2 (Nat.lt_succ_self j)⟩
    ·show some (AV.val (i ((F.length:Int)+1)))=some (AV.val (i _))
     rw [q8p hj2,if_neg hq,hF,List.length_append];rfl
    ·rw [q8p hj2,if_neg hq,hF,List.length_append];simp;omega
    ·have:=G3.trans G4
     rw [z1m hj2,if_neg hq,← eW]
     exact this
   ·have hq:(s.way[j]).t≤s.took:=by
     have hq:(!decide ((s.way[j]).t≤s.took))=false:=hq
     simpa using hq
    rw [if_pos hq] at G3
    refine WRng.mk (by apply wrap_i64<;>omega) ?_
    conv=>whnf
    refine ⟨j+1,⟨?_,rfl,trivial⟩,⟨hj2,?_,?_⟩,Nat.sub_lt_sub_left hj2 (Nat.lt_succ_self j)⟩
    ·show some (AV.val (i (F.length:Int)))=some (AV.val (i _))
     rw [q8p hj2,if_pos hq,hF]
    ·rw [q8p hj2,if_pos hq,hF];omega
    ·rw [z1m hj2,if_pos hq,q8p hj2,if_pos hq,hF,v3x]
     exact G3
  ·have hj2:j=s.way.length:=by
    have:¬ (j:Int)<(s.way.length:Nat):=of_decide_eq_false hb
    omega
   subst hj2
   rw [List.take_length] at hF G2 h2
   have hcap:s.way.length≤(H 4).c:=h.fam.cap 4 (by unfold famN;omega)
   obtain ⟨ad,ha,_⟩:=h.wayCells hj0
   refine WSl.mk ⟨by omega,by show (F.length:Int)≤(s.way.length:Nat);omega,by show ((s.way.length:Nat):Int)≤(H 4).c;omega⟩ ?_
   conv=>whnf
   refine h2.clearWay (q:=F.length) (n:=s.way.length - F.length) (by show F.length<(F++s.way.drop F.length).length;rw [hWl];omega) (by rw [hWl]) ha ?_ fun m3 G3=>?_
   ·rw [if_neg (by omega),ha];rfl
   refine WSl.mk ⟨Int.le_refl _,by omega,by omega⟩ ?_
   refine WRet.same ⟨s.way.length - F.length,?_,?_⟩
   ·rw [q8r (show Int.toNat 0 * 4=0 from rfl),hF]
    rfl
   ·have:=G2.trans G3
    rw [hF]
    simp only [List.take_left'] at this
    exact this
theorem k8r (h:q0l m0 m V C M sv p H s) (hw:∀ w∈s.way,w.rg<s.regs.length) (hl:s.way.length≤1000000000) :
  q0f Tryz.prog 100 [ptr p] m fun e m'=>e=.returned q2r∧∃ H',Goes m0 V C M sv p m H s m' H' (q2y s):=by
 refine q0e q0d Tryz.func100 k0c rfl ?_
 refine WNew.ab fun bx mx hbx lx cx=>?_
 have hx:=h.mono lx
 have hnf:=h.free hbx
 have hb:∀ {m':Mem},m' bx=some (Cells [ptr p] 61)→q0q m' ⟨bx,0,none⟩ (ptr p):=fun hh=>⟨_,_,_,hh,rfl,rfl⟩
 have hway:q0q mx ((⟨p,0,none⟩:Addr).add 27) (hv H s 4):=hx.cell rfl
 have hcall:=j3h hx cx hnf hw hl
 -- where the list lies is stored
 have fin:∀ {m2:Mem} {n:Nat} {K:Mem→Prop},Goes m0 V C M sv p mx H s m2 H { s with regs:=q1h s.regs (dueW s.took s.way),way:=q1o s.took s.way++List.replicate n q5j } →
   (∀ m3 H3,Goes m0 V C M sv p m H s m3 H3 (q2y s)→K m3)→WSt m2 ((⟨p,0,none⟩:Addr).add 27) [.slice (H 4).a (q1o s.took s.way).length (H 4).c] K:=fun {m2 n K} G k=>by
  have h2:=G.at'
  refine WSt.at _ _ h2.hp (show 27+1≤28 from Nat.le_refl _) ?_
  by_cases hc0:(H 4).c=0
  ·have hcap:=h2.fam.cap 4 (by unfold famN;omega)
   have hlen0:(q1o s.took s.way++List.replicate n q5j).length=0:=by
    have:(q1o s.took s.way++List.replicate n q5j).length≤(H 4).c:=hcap
    omega
   have hn0:n=0:=by rw [List.length_append,List.length_replicate] at hlen0;omega
   subst hn0
   rw [List.replicate_zero,List.append_nil] at h2 G
   refine k _ H ((h.goesMono lx).trans (G.trans (h2.hdr (s':=q2y s) rfl rfl rfl rfl rfl)))
  ·obtain ⟨b,rest,hba,hbm,hbl⟩:=h2.fam.blk 4 (by unfold famN;omega) hc0
   have e4:q0t H { s with regs:=q1h s.regs (dueW s.took s.way),way:=q1o s.took s.way++List.replicate n q5j } 4=q0r WayR.cells (q1o s.took s.way)++q0r WayR.cells (List.replicate n q5j):=z0i _ _
   rw [e4] at hbm hbl
   have hcap:(q1o s.took s.way++List.replicate n q5j).length≤(H 4).c:=h2.fam.cap 4 (by unfold famN;omega)
   rw [List.length_append] at hcap
   have hH:H.upd 4 ⟨some ⟨b,0,none⟩,(H 4).c⟩=H:=by
    funext j
    by_cases e:j=4
    ·subst e;rw [q1c,← hba]
    ·rw [q0u H _ e]
   have G2:=h2.relist (s':=q2y s) (k:=4) (b:=b) (c:=(H 4).c) (rest:=q0r WayR.cells (List.replicate n q5j)++rest) (m':=m2.set p (Cells (q0j (q1p V C M sv H { s with regs:=q1h s.regs (dueW s.took s.way),way:=q1o s.took s.way++List.replicate n q5j }) 27 [.slice (H 4).a (q1o s.took s.way).length (H 4).c]) TSim))
    (by decide) rfl (fun j hj=>⟨(z1b H { s with regs:=q1h s.regs (dueW s.took s.way) } (q1o s.took s.way) s.begun j hj).1.trans (z1b H { s with regs:=q1h s.regs (dueW s.took s.way) } (q1o s.took s.way++List.replicate n q5j) s.begun j hj).1.symm,(z1b H { s with regs:=q1h s.regs (dueW s.took s.way) } (q1o s.took s.way) s.begun j hj).2.trans (z1b H { s with regs:=q1h s.regs (dueW s.took s.way) } (q1o s.took s.way++List.replicate n q5j) s.begun j hj).2.symm⟩) (.inr ⟨hc0,hba⟩)
    (by rw [Mem.set_other _ _ (h2.notp ⟨4,by unfold famN;omega,hc0,hba⟩),hbm,List.append_assoc];rfl) (by rw [Mem.set_same,hH];rfl) (fun x h1 h2'=>Mem.set_other _ _ h2')
    (q1y q7n _) (by show (q1o s.took s.way).length≤_;omega) (by rw [← hbl];show (q0r _ _).length+_=_;rw [List.length_append,List.length_append];show (q0r WayR.cells (q1o s.took s.way)).length+_=_;omega) (fun _=>rfl) (fun e=>absurd rfl e)
   exact k _ _ ((h.goesMono lx).trans (G.trans G2))
 conv=>whnf
 refine ⟨?_,?_,trivial⟩
 ·refine WLd.mk _ (hb cx) ?_
  conv=>whnf
  refine ⟨?_,trivial⟩
  refine WLd.mk _ (hb cx) ?_
  refine WLd.mk _ hway ?_
  conv=>whnf
  refine ⟨?_,trivial⟩
  conv=>whnf
  refine q0a.mk hcall ?_
  rintro _ m2 ⟨n,rfl,G⟩
  conv=>whnf
  refine ⟨?_,trivial⟩
  conv=>whnf
  refine fin G fun m3 H3 G3=>?_
  exact WRet.same ⟨rfl,H3,G3⟩
 ·refine WLd.mk _ (hb cx) ?_
  refine WLd.mk _ hway ?_
  conv=>whnf
  refine ⟨?_,?_,trivial⟩
  ·refine WLd.mk _ (hb cx) ?_
   conv=>whnf
   refine ⟨?_,trivial⟩
   conv=>whnf
   refine q0a.mk hcall ?_
   rintro _ m2 ⟨n,rfl,G⟩
   conv=>whnf
   refine ⟨?_,trivial⟩
   conv=>whnf
   refine fin G fun m3 H3 G3=>?_
   exact WRet.same ⟨rfl,H3,G3⟩
  ·conv=>whnf
   refine q0a.mk hcall ?_
   rintro _ m2 ⟨n,rfl,G⟩
   refine WLd.mk _ (hb (G.keep _ _ cx hnf)) ?_
   conv=>whnf
   refine ⟨?_,trivial⟩
   conv=>whnf
   refine fin G fun m3 H3 G3=>?_
   exact WRet.same ⟨rfl,H3,G3⟩
end
section
variable {m0 m m':Mem} {V:CV} {C:q0c} {M:Mac} {sv:Value} {lw:Int} {p:Nat} {H:HdF} {s s':St} {sh:List Int}
theorem v0v (h:RfAt m0 m V C M sv lw p H s) (hw:∀ w∈s.way,w.rg<s.regs.length) (hl:s.way.length≤1000000000000) :
  q0f Tryz.prog 35 [ptr p] m fun e m'=>e=.returned q2r∧q1d m0 V C M sv lw p m H s m' (H.upd 4 ⟨none,0⟩) (q4y s):=by
 refine q0e q0d Tryz.func35 j2r rfl ?_
 conv=>whnf
 refine q0v.mk Nat (fun k=>[(2,.val (i k))]) (fun k m'=>k≤s.way.length∧q1d m0 V C M sv lw p m H s m' H { s with regs:=q1h s.regs (s.way.take k) }) (fun k=>s.way.length - k) 0 ⟨rfl,trivial⟩ ⟨Nat.zero_le _,q1d.refl h⟩ ?_
 rintro k m1 ⟨hk,G⟩
 have h1:=G.at'
 refine WLd.mk (hv H s 4) (h1.cell rfl) ?_
 refine Br.mk (fun hb=>?_) (fun hb=>?_)
 ·have hk2:k<s.way.length:=by
   have:(k:Int)<(s.way.length:Nat):=of_decide_eq_true hb
   omega
  obtain ⟨ad,ha,hc⟩:=h1.wayCells (r:=k) hk2
  have hr:(s.way[k]).rg<({ s with regs:=q1h s.regs (s.way.take k) }:St).regs.length:=by show _<(q1h _ _).length;rw [q8i];exact hw _ (List.getElem_mem hk2)
  obtain ⟨ar,har,_⟩:=h1.regCells hr
  refine WLd.mk (hv H { s with regs:=q1h s.regs (s.way.take k) } 1) (h1.cell rfl) ?_
  refine WLd.mk (hv H s 4) (h1.cell rfl) ?_
  refine WIdx.mk ad ha ⟨by omega,by show (k:Int)<(s.way.length:Nat);omega⟩ ?_
  refine WLd.mk (i ((s.way[k]).rg:Int)) (hc 0 _ rfl) ?_
  refine WLd.mk (hv H s 4) (h1.cell rfl) ?_
  refine WIdx.mk ad ha ⟨by omega,by show (k:Int)<(s.way.length:Nat);omega⟩ ?_
  refine WLds.mk (s.way[k]).v.cells (fun q v hq=>?_) rfl ?_
  ·rw [q0o]
   have hq2:q<2:=(List.getElem?_eq_some_iff.1 hq).1
   refine hc (2+q) v ?_
   have:q=0∨q=1:=by omega
   rcases this with rfl | rfl<;>exact hq
  refine WIdx.mk ar har ⟨by omega,by show ((s.way[k]).rg:Int)<(numS { s with regs:=q1h s.regs (s.way.take k) } 1:Nat);exact Int.ofNat_lt.2 hr⟩ ?_
  conv=>whnf
  refine ⟨?_,trivial⟩
  conv=>whnf
  refine h1.setReg hr har rfl fun m2 G2=>?_
  refine WRng.mk (by apply wrap_i64<;>omega) ?_
  conv=>whnf
  refine ⟨k+1,⟨rfl,trivial⟩,⟨hk2,?_⟩,Nat.sub_lt_sub_left hk2 (Nat.lt_succ_self k)⟩
  have:=G.trans G2
  rw [v4y hk2]
  exact this
 ·have hk2:k=s.way.length:=by
   have:¬ (k:Int)<(s.way.length:Nat):=of_decide_eq_false hb
   omega
  subst hk2
  rw [List.take_length] at h1 G
  refine WSt.at _ _ h1.hp (show 21+1≤29 by decide) ?_
  have G2:=h1.dropWay (s':=q4y s) (o:=Cells (q0j (q1l V C M sv lw H { s with regs:=q1h s.regs s.way }) 21 (q0k ns)) TRf) rfl (fun j hj=>by
   match j,hj with
   | 0,_=>exact ⟨rfl,rfl⟩
   | 1,_=>exact ⟨rfl,rfl⟩
   | 2,_=>exact ⟨rfl,rfl⟩
   | 3,_=>exact ⟨rfl,rfl⟩
   | j+5,_=>exact ⟨rfl,rfl⟩) rfl rfl rfl
  exact WRet.same ⟨rfl,G.trans G2⟩
theorem v7f (h:RfAt m0 m V C M sv lw p H s) (hlw:s.word=lw) (he:s.ended=false) (kind n:Int) :
  q0f Tryz.prog 117 [ptr p,i kind,i n] m fun e m'=>e=.returned q2r∧q1d m0 V C M sv lw p m H s m' (H.upd 4 ⟨none,0⟩) (endS s kind n):=by
 refine q0e q0d Tryz.func117 k2x rfl ?_
 have hwl:q5w lw s=lw:=by unfold q5w;rw [he];exact hlw
 conv=>whnf
 rw [q0o]
 refine WSt.at _ _ h.hp (show 27+1≤29 by decide) ?_
 conv=>whnf
 rw [q0o]
 refine WSt.at _ _ (Mem.set_same _ _ _) (show 28+1≤29 by decide) ?_
 rw [Mem.set2]
 refine WSt.at _ _ (Mem.set_same _ _ _) (show 25+1≤29 by decide) ?_
 rw [Mem.set2]
 refine WSt.at _ _ (Mem.set_same _ _ _) (show 21+1≤29 by decide) ?_
 rw [Mem.set2]
 have G2:=h.dropWay (s':=endS s kind n) (o:=Cells (q1l V C M sv lw (H.upd 4 ⟨none,0⟩) (endS s kind n)) TRf) rfl (fun j hj=>by
  match j,hj with
  | 0,_=>exact ⟨rfl,rfl⟩
  | 1,_=>exact ⟨rfl,rfl⟩
  | 2,_=>exact ⟨rfl,rfl⟩
  | 3,_=>exact ⟨rfl,rfl⟩
  | j+5,_=>exact ⟨rfl,rfl⟩) rfl rfl rfl
 have e1:q0j (q0j (q0j (q0j (q1l V C M sv lw H s) 27 [i kind]) 28 [i n]) 25 [.bool true]) 21 [ns]=q1l V C M sv lw (H.upd 4 ⟨none,0⟩) (endS s kind n):=by
  unfold q1l;rw [hwl];rfl
 refine WRet.same ⟨rfl,?_⟩
 rw [← e1] at G2
 exact G2
theorem w5q (h:RfAt m0 m V C M sv lw p H s) (hB:q1m m0 V C M sv sh) (kd:Int) :
  q0m Tryz.prog 145 [ptr p,i (q2j kd).1] m (i (latS M sh s.begun kd)):=by
 refine q0e q0d Tryz.func145 j5w rfl ?_
 have hc:=z2b kd
 obtain ⟨q,hq,hq4⟩:∃ q:Nat,(q2j kd).1=q∧q<4:=⟨(q2j kd).1.toNat,by omega,by omega⟩
 obtain ⟨a,c,hsv,hs0,hs1,hs2⟩:=hB.shown.mono h.le
 have hy:=z4k hB.mac hq4
 rw [hq]
 refine WBnd.mk ⟨by omega,by omega⟩ ?_
 refine WLd.mk (i (M.lat q)) ?_ ?_
 ·rw [q0o,q0o]
  have hq5:q=0∨q=1∨q=2∨q=3:=by omega
  rcases hq5 with rfl | rfl | rfl | rfl<;>exact h.cell rfl
 refine WLd.mk sv (h.cell rfl) ?_
 rw [hsv]
 refine Br.mk (fun hb=>?_) (fun hb=>?_)
 ·have h0:sh=[]:=by
   have:((sh.length:Nat):Int)=0:=by simpa using hb
   exact List.length_eq_zero_iff.1 (by omega)
  refine WRet.same ⟨?_,rfl⟩
  unfold latS
  rw [if_pos h0,hq,Int.toNat_natCast]
  rfl
 ·have h0:sh≠[]:=fun e=>by subst e;simp at hb
  have hlen:0<sh.length:=List.length_pos_iff.2 h0
  obtain ⟨ad,rfl⟩:∃ ad,a=some ad:=by
   cases a with
   | none=>exact absurd (hs0 rfl) h0
   | some ad=>exact ⟨ad,rfl⟩
  have hmod:s.begun % sh.length<sh.length:=Nat.mod_lt _ hlen
  have e1:((s.begun:Nat):Int).tmod ((sh.length:Nat):Int)=((s.begun % sh.length:Nat):Int):=rfl
  refine WLd.mk sv (h.cell rfl) ?_
  rw [hsv]
  refine WLd.mk (i (s.begun:Int)) (h.cell rfl) ?_
  refine WLd.mk sv (h.cell rfl) ?_
  rw [hsv]
  refine WNe.mk (by omega) ?_
  rw [e1]
  refine WIdx.mk ad rfl ⟨by omega,by omega⟩ ?_
  refine WLd.mk (i (sh.getD (s.begun % sh.length) 0)) ?_ ?_
  ·have:=IAt.cell (hs1 ad rfl) hmod
   rw [List.getD_eq_getElem?_getD,List.getElem?_eq_getElem hmod]
   rw [Int.toNat_natCast,Nat.mul_one]
   exact this
  refine WRet.same ⟨?_,rfl⟩
  show Ending.returned (i _)=.returned (i _)
  unfold latS
  rw [if_neg h0,hq,Int.toNat_natCast]
  congr 2
  generalize sh.getD (s.begun % sh.length) 0=z
  generalize M.lat q=y at hy
  show (if (if z<y then z else y)>(1:Int) then (if z<y then z else y) else 1)=_
  split<;>split at *<;>omega
theorem z4g (h:RfAt m0 m V C M sv lw p H s) (hB:q1m m0 V C M sv sh) {k:Nat} (hl:LimS s k) (hk:k≤1000000000) (o:OpR) (hds:0≤o.ds) (v:VR) :
  q0f Tryz.prog 119 [ptr p,o.val,v.val] m fun e m'=>e=.returned q2r∧∃ H',q1d m0 V C M sv lw p m H s m' H' (q4b M sh s o v):=by
 refine q0e q0d Tryz.func119 k3t rfl ?_
 obtain ⟨q1,q2⟩:=v4h (sh:=sh) hB.mac s.begun o.kd
 obtain ⟨l1,l2,l3,l4⟩:=hl
 have hlat:=w5q h hB o.kd
 have ht:q0q m ((⟨p,0,none⟩:Addr).add 22) (i (s.took:Int)):=h.cell rfl
 conv=>whnf
 refine q0a.pure (z8i m o.kd) ?_
 unfold q7y
 generalize (q2j o.kd).1=q at hlat ⊢
 refine WLd.mk (hv H s 4) (h.cell rfl) ?_
 repeat' (conv=>whnf
          first
          | exact trivial
          | (refine WLd.mk _ ht ?_)
          | (refine q1r.pure hlat ?_)
          | (refine WRng.mk (by apply wrap_i64<;>omega) ?_)
          | (refine WNew.ab fun bx mx hbx lx cx=>?_
             have hw:[i o.ds,i ((s.took:Int)+latS M sh s.begun o.kd),i v.n,i v.b]=WayR.cellsR ⟨o.ds.toNat,v,s.took+(latS M sh s.begun o.kd).toNat⟩:=by
              unfold WayR.cellsR
              rw [Int.toNat_of_nonneg hds,show ((s.took+(latS M sh s.begun o.kd).toNat:Nat):Int)=(s.took:Int)+latS M sh s.begun o.kd by omega]
             have cx:mx bx=some (Cells [i o.ds,i ((s.took:Int)+latS M sh s.begun o.kd),i v.n,i v.b] q7a):=cx
             rw [hw] at cx
             conv=>whnf
             refine ⟨?_,trivial⟩
             conv=>whnf
             refine (h.mono lx).pushWay cx (by omega) fun b' c' m2 hst=>?_
             conv=>whnf
             refine ⟨?_,trivial⟩
             conv=>whnf
             refine hst _ fun m3 H3 G3=>?_
             refine WLd.mk (i (s.begun:Int)) (G3.at'.cell rfl) ?_
             refine WRng.mk (by apply wrap_i64<;>omega) ?_
             conv=>whnf
             refine G3.at'.setInt (q4b M sh s o v) rfl (show 23+1≤29 by decide) rfl rfl rfl rfl rfl fun m4 G4=>?_
             exact WRet.same ⟨rfl,H3,(h.goesMono lx).trans (G3.trans G4)⟩)
          | (refine And.intro ?_ ?_))
end
def Lst0 (m:Mem) (T sz:Nat) (a:Option Addr) (n c:Nat) (L:List Value):Prop :=
 (a=none∧n=0∧c=0∧L=[])∨∃ b rest,a=some ⟨b,0,none⟩∧m b=some (Cells (L++rest) T)∧L.length=n * sz∧n≤c∧L.length+rest.length=c * sz
theorem Lst0.push {m:Mem} {T sz n c bx bytes:Nat} {a:Option Addr} {L x zero:List Value} {K:Value→Mem→Prop} (h:Lst0 m T sz a n c L) (hz:zero.length=sz) (hx:m bx=some (Cells x T)) (hxl:x.length=sz) (hx1:oneL x=true) (hlen:(n+1) * bytes≤35184372088832)
  (k:∀ b' c' m',Lst0 m' T sz (some ⟨b',0,none⟩) (n+1) c' (L++x)→(m b'=none∨a=some ⟨b',0,none⟩)→(∀ b,b≠b'→m' b=m b)→K (.slice (some ⟨b',0,none⟩) (n+1) c') m') :
  WApp m T sz bytes zero a n c (some ⟨bx,0,none⟩) 1 K:=by
 have hnew:q2v m (some ⟨bx,0,none⟩) (1 * sz) x:=⟨by omega,fun ad had=>by cases had;exact q0g.blk hx fun j v hj=>by rw [Nat.zero_add];exact hj⟩
 have hm1:(n+1) * sz=n * sz+sz:=by rw [Nat.add_mul,Nat.one_mul]
 have grow:L.length=n * sz→(∀ ad,a=some ad→q0g m ad L)→(a=none→n=0)→c<n+1→WApp m T sz bytes zero a n c (some ⟨bx,0,none⟩) 1 K:=fun hl hc h0 hcc=>by
  refine WApp.grow _ hnew (fun h=>by cases h) hcc hlen L ⟨hl,hc⟩ h0 fun b2 c2 hb2 hc2=>?_
  refine k b2 c2 _ (.inr ⟨b2,(List.replicate (c2 - (n+1)) zero).flatten,rfl,Mem.set_same _ _ _,by rw [List.length_append,hl,hxl,hm1],hc2,?_⟩) (.inl hb2) fun b hb=>Mem.set_other _ _ hb
  rw [List.length_append,z2z,hz,hl,hxl,← hm1,← Nat.add_mul,show n+1+(c2 - (n+1))=c2 by omega]
 rcases h with ⟨rfl,rfl,rfl,rfl⟩ | ⟨b,rest,rfl,hm,hl,hc0,hr⟩
 ·exact grow (by simp) (fun ad h=>by cases h) (fun _=>rfl) (by omega)
 ·by_cases hcc:n+1≤c
  ·have h1:(n+1) * sz≤c * sz:=Nat.mul_le_mul_right sz hcc
   refine WApp.in (ad:=⟨b,0,none⟩) _ hnew (fun h=>by cases h) _ _ hcc hm rfl (by simp;omega) hx1 ?_
   have e:q0j (L++rest) (0+n * sz) x=(L++x)++rest.drop sz:=by
    rw [q5x _ _ _ (by simp;omega),Nat.zero_add,← hl,List.take_left' rfl,← List.drop_drop,List.drop_left' rfl,hxl]
   refine k b c _ (.inr ⟨b,rest.drop sz,rfl,by rw [Mem.set_same,e],by rw [List.length_append,hl,hxl,hm1],hcc,?_⟩) (.inr rfl) fun b3 hb3=>Mem.set_other _ _ hb3
   rw [List.length_append,List.length_drop,hxl];omega
  ·exact grow hl (fun ad ha=>by cases ha;exact q0g.blk hm fun j v hj=>by rw [Nat.zero_add,List.getElem?_append_left (List.getElem?_eq_some_iff.1 hj).1];exact hj) (fun h=>by cases h) (by omega)
section
variable {m0 m m' m2 m3:Mem} {V:CV} {C:q0c} {M:Mac} {sv:Value} {lw:Int} {p:Nat} {H:HdF} {s s' s1:St} {sh:List Int}
theorem q1d.extra (G:q1d m0 V C M sv lw p m H s m2 H s1) (h:RfAt m0 m V C M sv lw p H s) (hx:∀ b o,m2 b=some o→m b≠none→m3 b=some o) (hf:∀ b,q0s p H s1 b→q0s p H s b):q1d m0 V C M sv lw p m H s m3 H s1:=by
 have hk:Keep (q0s p H s) m m3:=fun b o hb hn=>hx b o (G.keep b o hb hn) (by rw [hb];intro e;cases e)
 refine ⟨G.at'.same (hk.le h.le h.nw) fun b o hb ho=>hx b o ho ?_,hk,G.new⟩
 obtain ⟨o',ho'⟩:=h.live (hf b hb)
 rw [ho'];intro e;cases e
theorem q1d.takeWay (G:q1d m0 V C M sv lw p m H s m2 H s1) (h:RfAt m0 m V C M sv lw p H s) (hf1:∀ b,q0s p H s1 b↔q0s p H s b) {W:List WayR} {b c:Nat} {rest:List Value} (hb:m b=none) (hm:m2 b=some (Cells (q0r WayR.cellsR W++rest) q7a)) (hc:W.length≤c) (hr:(q0r WayR.cellsR W).length+rest.length=c * 4) :
  q1d m0 V C M sv lw p m H s (m2.set p (Cells (q1l V C M sv lw (H.upd 4 ⟨some ⟨b,0,none⟩,c⟩) { s1 with way:=W }) TRf)) (H.upd 4 ⟨some ⟨b,0,none⟩,c⟩) { s1 with way:=W }:=by
 have h1:=G.at'
 have hnf:¬ q0s p H s1 b:=fun hf=>by
  obtain ⟨o,ho⟩:=h.live ((hf1 b).1 hf)
  rw [hb] at ho;cases ho
 have hpb:p≠b:=fun e=>hnf (.inl e.symm)
 have hdel:∀ x,x≠b→(m2.del b) x=m2 x:=fun x hx=>by unfold Mem.del;rw [if_neg hx]
 have hdb:(m2.del b) b=none:=by unfold Mem.del;rw [if_pos rfl]
 have hd:RfAt m0 (m2.del b) V C M sv lw p H s1:=h1.same (fun x o hx=>by
   have hxb:x≠b:=fun e=>by subst e;rw [h.le _ _ hx] at hb;cases hb
   rw [hdel x hxb];exact h1.le _ _ hx) fun x o hf hx=>by
   have hxb:x≠b:=fun e=>hnf (by rw [← e];exact hf)
   rw [hdel x hxb];exact hx
 have R:=hd.relist (s':={ s1 with way:=W }) (k:=4) (b:=b) (c:=c) (rest:=rest) (m':=m2.set p (Cells (q1l V C M sv lw (H.upd 4 ⟨some ⟨b,0,none⟩,c⟩) { s1 with way:=W }) TRf)) (by decide) rfl (fun j hj=>v0i H s1 W s1.begun j hj) (.inl hdb)
  (by rw [Mem.set_other _ _ hpb.symm];exact hm) (Mem.set_same _ _ _) (fun x e1 e2=>by rw [Mem.set_other _ _ e2,hdel x e1]) (q1y z6q _) hc hr (fun _=>rfl) (fun e=>absurd rfl e)
 refine ⟨R.at',fun x o hx hn=>?_,fun x hx=>?_⟩
 ·have hxb:x≠b:=fun e=>by subst e;rw [hb] at hx;cases hx
  exact R.keep x o (by rw [hdel x hxb];exact G.keep x o hx hn) fun hf=>hn ((hf1 x).1 hf)
 ·rcases R.new x hx with g | g
  ·exact .inl ((hf1 x).1 g)
  ·by_cases hxb:x=b
   ·subst hxb;exact .inr hb
   ·rw [hdel x hxb] at g
    cases hh:m x with
    | none=>exact .inr rfl
    | some o =>
     by_cases hf:q0s p H s x
     ·exact .inl hf
     ·rw [G.keep x o hh hf] at g;cases g
theorem j0n (h:RfAt m0 m V C M sv lw p H s) (hw:∀ w∈s.way,w.rg<s.regs.length) (hl:s.way.length≤1000000000) :
  q0f Tryz.prog 87 [ptr p] m fun e m'=>e=.returned q2r∧∃ H',q1d m0 V C M sv lw p m H s m' H' (q2y s):=by
 refine q0e q0d Tryz.func87 k2l rfl ?_
 have hfoot:∀ R b,q0s p H ({ s with regs:=R }:St) b→q0s p H s b:=fun R b hb=>hb
 conv=>whnf
 refine q0v.mk (Nat×Option Addr×Nat) (fun x=>[(2,.val (.slice x.2.1 (q1o s.took (s.way.take x.1)).length x.2.2)),(3,.val (i x.1))]) (fun x m'=>x.1≤s.way.length∧q1d m0 V C M sv lw p m H s m' H { s with regs:=q1h s.regs (dueW s.took (s.way.take x.1)) } ∧
   Lst0 m' q7a 4 x.2.1 (q1o s.took (s.way.take x.1)).length x.2.2 (q0r WayR.cellsR (q1o s.took (s.way.take x.1)))∧∀ ad,x.2.1=some ad→m ad.block=none) (fun x=>s.way.length - x.1) (0,none,0) ⟨rfl,rfl,trivial⟩ ⟨Nat.zero_le _,q1d.refl h,.inl ⟨rfl,rfl,rfl,rfl⟩,fun ad h=>by cases h⟩ ?_
 rintro ⟨k,a,c⟩ m1 ⟨hk,G,hL,hfr⟩
 simp only at hk G hL hfr
 have h1:=G.at'
 refine WLd.mk (hv H s 4) (h1.cell rfl) ?_
 refine Br.mk (fun hb=>?_) (fun hb=>?_)
 ·have hk2:k<s.way.length:=by
   have:(k:Int)<(s.way.length:Nat):=of_decide_eq_true hb
   omega
  obtain ⟨ad,ha,hc⟩:=h1.wayCells (r:=k) hk2
  have hds:=z1m (k:=s.took) hk2
  have hls:=q8p (k:=s.took) hk2
  have hr:(s.way[k]).rg<({ s with regs:=q1h s.regs (dueW s.took (s.way.take k)) }:St).regs.length:=by show _<(q1h _ _).length;rw [q8i];exact hw _ (List.getElem_mem hk2)
  have hc:q0g m1 (ad.add (k * 4)) (s.way[k]).cellsR:=hc
  generalize hwk:s.way[k]=w at *
  obtain ⟨ar,har,_⟩:=h1.regCells hr
  refine WLd.mk (hv H s 4) (h1.cell rfl) ?_
  refine WIdx.mk ad ha ⟨by omega,by show (k:Int)<(s.way.length:Nat);omega⟩ ?_
  refine WLds.mk w.cellsR (by simpa using hc) rfl ?_
  refine WLd.mk (i (s.took:Int)) (h1.cell rfl) ?_
  refine Br.mk (fun ht=>?_) (fun ht=>?_)
  ·have ht2:w.t≤s.took:=by
    have:(w.t:Int)≤(s.took:Int):=of_decide_eq_true ht
    omega
   rw [if_pos ht2] at hds hls
   refine WLd.mk (hv H { s with regs:=q1h s.regs (dueW s.took (s.way.take k)) } 1) (h1.cell rfl) ?_
   refine WIdx.mk ar har ⟨by omega,by show (w.rg:Int)<(numS { s with regs:=q1h s.regs (dueW s.took (s.way.take k)) } 1:Nat);exact Int.ofNat_lt.2 hr⟩ ?_
   conv=>whnf
   refine ⟨?_,trivial⟩
   conv=>whnf
   refine h1.setReg hr har rfl fun m2 G2=>?_
   refine WRng.mk (by apply wrap_i64<;>omega) ?_
   conv=>whnf
   refine ⟨(k+1,a,c),⟨?_,rfl,trivial⟩,⟨hk2,?_,?_,hfr⟩,Nat.sub_lt_sub_left hk2 (Nat.lt_succ_self k)⟩
   ·show some (AV.val (.slice a (q1o s.took (s.way.take k)).length c))=some (AV.val (.slice a (q1o s.took (s.way.take (k+1))).length c))
    rw [hls]
   ·have:=G.trans G2
    show q1d m0 V C M sv lw p m H s m2 H { s with regs:=q1h s.regs (dueW s.took (s.way.take (k+1))) }
    rw [hds,v3x];exact this
   ·show Lst0 m2 q7a 4 a (q1o s.took (s.way.take (k+1))).length c (q0r WayR.cellsR (q1o s.took (s.way.take (k+1))))
    rw [hls]
    rcases hL with hL | ⟨b,rest,e1,e2,e3,e4,e5⟩
    ·exact .inl hL
    ·refine .inr ⟨b,rest,e1,G2.keep b _ e2 fun hf=>?_,e3,e4,e5⟩
     obtain ⟨o,ho⟩:=h.live (hfoot _ b hf)
     rw [hfr _ e1] at ho;cases ho
  ·have ht2:¬ w.t≤s.took:=by
    have:¬ (w.t:Int)≤(s.took:Int):=of_decide_eq_false ht
    omega
   rw [if_neg ht2] at hds hls
   have hll:=w2b s.took s.way k
   refine WNew.ab fun bx mx hbx lx cx=>?_
   have cx2:mx bx=some (Cells w.cellsR q7a):=cx
   have hLx:Lst0 mx q7a 4 a (q1o s.took (s.way.take k)).length c (q0r WayR.cellsR (q1o s.took (s.way.take k))):=by
    rcases hL with hL | ⟨b,rest,e1,e2,e3⟩
    ·exact .inl hL
    ·exact .inr ⟨b,rest,e1,lx _ _ e2,e3⟩
   conv=>whnf
   refine hLx.push rfl cx2 rfl rfl (by omega) fun b' c' m2 hL2 hb' hx2=>?_
   have hmb:m b'=none:=by
    rcases hb' with hb' | hb'
    ·have h1n:m1 b'=none:=q1z lx hb'
     cases hh:m b' with
     | none=>rfl
     | some o =>
      by_cases hf:q0s p H s b'
      ·obtain ⟨o2,ho2⟩:=h1.live (show q0s p H { s with regs:=q1h s.regs (dueW s.took (s.way.take k)) } b' from hf)
       rw [h1n] at ho2;cases ho2
      ·rw [G.keep b' o hh hf] at h1n;cases h1n
    ·exact hfr _ hb'
   have G2:q1d m0 V C M sv lw p m H s m2 H { s with regs:=q1h s.regs (dueW s.took (s.way.take k)) }:=G.extra h (fun b o hb hn=>by
    have hne:b≠b':=fun e=>by subst e;exact hn hmb
    rw [hx2 b hne];exact lx _ _ hb) (hfoot _)
   refine WRng.mk (by apply wrap_i64<;>omega) ?_
   conv=>whnf
   refine ⟨(k+1,some ⟨b',0,none⟩,c'),⟨?_,rfl,trivial⟩,⟨hk2,?_,?_,fun ad had=>by cases had;exact hmb⟩,Nat.sub_lt_sub_left hk2 (Nat.lt_succ_self k)⟩
   ·show some (AV.val (.slice (some ⟨b',0,none⟩) ((q1o s.took (s.way.take k)).length+1) c'))=some (AV.val (.slice (some ⟨b',0,none⟩) (q1o s.took (s.way.take (k+1))).length c'))
    rw [hls,List.length_append];rfl
   ·show q1d m0 V C M sv lw p m H s m2 H { s with regs:=q1h s.regs (dueW s.took (s.way.take (k+1))) }
    rw [hds];exact G2
   ·show Lst0 m2 q7a 4 (some ⟨b',0,none⟩) (q1o s.took (s.way.take (k+1))).length c' (q0r WayR.cellsR (q1o s.took (s.way.take (k+1))))
    rw [hls,z0i,z6e,List.length_append];exact hL2
 ·have hk2:k=s.way.length:=by
   have:¬ (k:Int)<(s.way.length:Nat):=of_decide_eq_false hb
   omega
  subst hk2
  rw [List.take_length] at h1 G hL
  conv=>whnf
  show WSt m1 ((⟨p,0,none⟩:Addr).add 21) [.slice a (q1o s.took (s.way.take s.way.length)).length c] _
  rw [List.take_length]
  refine WSt.at _ _ h1.hp (show 21+1≤29 by decide) ?_
  rcases hL with ⟨rfl,hn,rfl,hL⟩ | ⟨b,rest,rfl,e2,e3,e4,e5⟩
  ·have hW:q1o s.took s.way=[]:=List.length_eq_zero_iff.1 hn
   have G2:=h1.dropWay (s':={ s with regs:=q1h s.regs (dueW s.took s.way),way:=[] }) (o:=Cells (q0j (q1l V C M sv lw H { s with regs:=q1h s.regs (dueW s.took s.way) }) 21 [ns]) TRf) rfl (fun j hj=>by
    match j,hj with
    | 0,_=>exact ⟨rfl,rfl⟩
    | 1,_=>exact ⟨rfl,rfl⟩
    | 2,_=>exact ⟨rfl,rfl⟩
    | 3,_=>exact ⟨rfl,rfl⟩
    | j+5,_=>exact ⟨rfl,rfl⟩) rfl rfl rfl
   have ea:q2y s={ s with regs:=q1h s.regs (dueW s.took s.way),way:=[] }:=by
    show ({ s with regs:=q1h s.regs (dueW s.took s.way),way:=q1o s.took s.way }:St)=_
    rw [hW]
   rw [hW,ea]
   exact WRet.same ⟨rfl,_,G.trans G2⟩
  ·have G2:=G.takeWay h (fun b=>Iff.rfl) (W:=q1o s.took s.way) (hfr _ rfl) e2 e4 (by rw [e3] at e5 ⊢;exact e5)
   have e:q0j (q1l V C M sv lw H { s with regs:=q1h s.regs (dueW s.took s.way) }) 21 [.slice (some ⟨b,0,none⟩) (q1o s.took s.way).length c]=q1l V C M sv lw (H.upd 4 ⟨some ⟨b,0,none⟩,c⟩) { s with regs:=q1h s.regs (dueW s.took s.way),way:=q1o s.took s.way }:=rfl
   rw [e]
   exact WRet.same ⟨rfl,_,G2⟩
end
end Go.Proofs.YtleofbpepfmfgaaGreatDoor
