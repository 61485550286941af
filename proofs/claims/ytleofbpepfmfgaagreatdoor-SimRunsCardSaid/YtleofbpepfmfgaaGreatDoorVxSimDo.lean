import Derived.Test.YtleofbpepfmfgaaGreatDoorVxSimV
set_option linter.unusedSimpArgs false
set_option linter.unusedVariables false
set_option maxRecDepth 100000
namespace Go.Proofs.YtleofbpepfmfgaaGreatDoor
open Go Go.Vx
open Go.Vx.IOp Go.Vx.IR Go.Vx.Opd
section
variable {m0 m m':Mem} {V:CV} {C:CodeR} {M:Mac} {sv:Value} {p:Nat} {H:HdF} {s s':St} {sh:List Int}
theorem do_ok2 (h:SimAt m0 m V C M sv p H s) (hB:SimBase m0 V C M sv sh) (hS:StOK C s) (he:s.ended=false) {k:Nat} (hl:LimS s k) (hk:k≤1000000000) {o:OpR} (ho:OpOK C o) :
  CallsM Tryz.prog 101 [ptr p,o.val] m (DoPost m0 V C M sv p m H s (doS M sh s o)):=by
 refine calls_of mixed Tryz.func101 ok_sim_Sim_do rfl ?_
 have hg:=ho.gd
 have tail:=doTail_ok h hB hS he hl hk ho
 unfold Fn.asks
 rw [do_body]
 refine Br.mk (fun hb=>?_) (fun hb=>?_)
 ·have hb:o.gd≠-1:=by
   have hb:(o.gd != -1)=true:=hb
   simpa using hb
  have hr:o.gd.toNat<s.regs.length:=by rw [hS.regs];omega
  obtain ⟨ar,har,hc⟩:=h.regCells hr
  refine WLd.mk (hv H s 1) (by rw [add_add];exact h.cell rfl) ?_
  refine WIdx.mk ar har ⟨by omega,by show o.gd<(s.regs.length:Nat);omega⟩ ?_
  refine WLds.mk _ hc rfl ?_
  conv=>whnf
  refine ⟨?_,trivial⟩
  conv=>whnf
  refine ⟨?_,trivial⟩
  refine Br.mk (fun hq=>?_) (fun hq=>?_)
  ·have hq:(s.reg o.gd).b≠0:=by
    have hq:((s.reg o.gd).b != 0)=true:=hq
    simpa using hq
   have e:doS M sh s o=⟨s,(s.reg o.gd).b,true,false⟩:=by unfold doS;rw [if_pos ⟨hb,hq⟩]
   refine WRet.same ⟨?_,H,?_⟩
   ·rw [e];rfl
   ·rw [e];exact Goes.refl h
  ·have hq:¬ (s.reg o.gd).b≠0:=by
    have hq:((s.reg o.gd).b != 0)=false:=hq
    simpa using hq
   refine Br.mk (fun hz=>?_) (fun hz=>?_)
   ·have hz:(s.reg o.gd).n=0:=by
     have hz:((s.reg o.gd).n==0)=true:=hz
     simpa using hz
    have e:doS M sh s o=⟨s,0,false,false⟩:=by unfold doS;rw [if_neg (fun hh=>hq hh.2),if_pos ⟨hb,hz⟩]
    refine WRet.same ⟨?_,H,?_⟩
    ·rw [e];rfl
    ·rw [e];exact Goes.refl h
   ·have hz:¬ (s.reg o.gd).n=0:=by
     have hz:((s.reg o.gd).n==0)=false:=hz
     simpa using hz
    have e:doS M sh s o=bodyS M sh s o:=by unfold doS;rw [if_neg (fun hh=>hq hh.2),if_neg (fun hh=>hz hh.2)]
    rw [e]
    conv=>whnf
    exact rest_envL tail ⟨rfl,rfl,rfl,rfl,rfl,trivial⟩
 ·have hb:¬ o.gd≠-1:=by
   have hb:(o.gd != -1)=false:=hb
   simpa using hb
  have e:doS M sh s o=bodyS M sh s o:=by unfold doS;rw [if_neg (fun hh=>hb hh.1),if_neg (fun hh=>hb hh.1)]
  rw [e]
  conv=>whnf
  exact rest_envL tail ⟨rfl,rfl,rfl,rfl,rfl,trivial⟩
theorem arrive1_ok (h:SimAt m0 m V C M sv p H s) {bx T:Nat} (hbx:m bx=some (Cells [ptr p] T)) (w:WayR) (hw:w.rg<s.regs.length) :
  CallsM Tryz.prog 131 [.agg ⟨w.cells⟩,ptr bx] m fun e m'=>e=.returned (.bool (decide (w.t≤s.took)))∧Goes m0 V C M sv p m H s m' H (if w.t≤s.took then { s with regs:=s.regs.set w.rg w.v } else s):=by
 refine calls_of mixed Tryz.func131 ok_sim_Sim_arrive_1 rfl ?_
 have hb:CellAt m ⟨bx,0,none⟩ (ptr p):=⟨_,_,_,hbx,rfl,rfl⟩
 refine WLd.mk _ hb ?_
 refine WLd.mk (i (s.took:Int)) (by rw [add_add];exact h.cell rfl) ?_
 refine Br.mk (fun hq=>?_) (fun hq=>?_)
 ·have hq:¬ w.t≤s.took:=by
   have hq:(w.t:Int)>(s.took:Int):=of_decide_eq_true hq
   omega
  refine WRet.same ⟨?_,?_⟩
  ·rw [decide_eq_false hq];rfl
  ·rw [if_neg hq];exact Goes.refl h
 ·have hq:w.t≤s.took:=by
   have hq:¬ (w.t:Int)>(s.took:Int):=of_decide_eq_false hq
   omega
  obtain ⟨ar,har,_⟩:=h.regCells hw
  refine WLd.mk _ hb ?_
  refine WLd.mk (hv H s 1) (by rw [add_add];exact h.cell rfl) ?_
  refine WIdx.mk ar har ⟨by omega,by show (w.rg:Int)<(s.regs.length:Nat);omega⟩ ?_
  conv=>whnf
  refine ⟨?_,trivial⟩
  conv=>whnf
  refine h.setReg hw har (v:=w.v) rfl fun m2 G2=>?_
  refine WRet.same ⟨?_,?_⟩
  ·rw [decide_eq_true hq];rfl
  ·rw [if_pos hq];exact G2
abbrev dueW (k:Nat) (W:List WayR):List WayR:=W.filter fun w=>decide (w.t≤k)
abbrev leftW (k:Nat) (W:List WayR):List WayR:=W.filter fun w=>!decide (w.t≤k)
theorem due_succ {k:Nat} {W:List WayR} {j:Nat} (hj:j<W.length):dueW k (W.take (j+1))=if (W[j]).t≤k then dueW k (W.take j)++[W[j]] else dueW k (W.take j):=by
 unfold dueW
 rw [List.take_succ_eq_append_getElem hj,List.filter_append]
 by_cases e:(W[j]).t≤k
 ·rw [if_pos e];simp [e]
 ·rw [if_neg e];simp [e]
theorem left_succ {k:Nat} {W:List WayR} {j:Nat} (hj:j<W.length):leftW k (W.take (j+1))=if (W[j]).t≤k then leftW k (W.take j) else leftW k (W.take j)++[W[j]]:=by
 unfold leftW
 rw [List.take_succ_eq_append_getElem hj,List.filter_append]
 by_cases e:(W[j]).t≤k
 ·rw [if_pos e];simp [e]
 ·rw [if_neg e];simp [e]
theorem left_len (k:Nat) (W:List WayR) (j:Nat):(leftW k (W.take j)).length≤j:=Nat.le_trans (List.length_filter_le _ _) (by simp;omega)
theorem puts_snoc (R:List VR) (A:List WayR) (w:WayR):putsS R (A++[w])=(putsS R A).set w.rg w.v:=by unfold putsS;rw [List.foldl_append];rfl
theorem idxWay_ok (h:SimAt m0 m V C M sv p H s) {bx T:Nat} (hbx:m bx=some (Cells [ptr p] T)) (hnf:¬ FootS p H s bx) (hw:∀ w∈s.way,w.rg<s.regs.length) (hl:s.way.length≤1000000000) :
  CallsM Tryz.prog 154 [hv H s 4,.func (.func 131) ⟨[]⟩ ⟨[ptr bx]⟩] m fun e m'=>(e=.returned (i (-1))∧Goes m0 V C M sv p m H s m' H s∧dueW s.took s.way=[]) ∨
   ∃ (j:Nat) (hj:j<s.way.length),e=.returned (i j)∧Goes m0 V C M sv p m H s m' H { s with regs:=s.regs.set (s.way[j]).rg (s.way[j]).v }∧dueW s.took (s.way.take j)=[]∧(s.way[j]).t≤s.took:=by
 refine calls_of mixed Tryz.func154 ok_slices_IndexFunc_sim_result_sim_result rfl ?_
 refine WLoop.mk Nat (fun k=>[(8,.val (i k))]) (fun k m'=>k≤s.way.length∧Goes m0 V C M sv p m H s m' H s∧dueW s.took (s.way.take k)=[]) (fun k=>s.way.length - k) 0 ⟨rfl,trivial⟩ ⟨Nat.zero_le _,Goes.refl h,rfl⟩ ?_
 rintro k m1 ⟨hk,G,hd⟩
 have h1:=G.at'
 refine Br.mk (fun hb=>?_) (fun hb=>?_)
 ·have hk2:k<s.way.length:=by
   have:(k:Int)<(s.way.length:Nat):=of_decide_eq_true hb
   omega
  obtain ⟨ad,ha,hc⟩:=h1.wayCells (r:=k) hk2
  have hbx1:=G.keep _ _ hbx hnf
  refine WIdx.mk ad ha ⟨by omega,by show (k:Int)<(s.way.length:Nat);omega⟩ ?_
  refine WLds.mk _ (by simpa using hc) rfl ?_
  refine WCall.mk (arrive1_ok h1 hbx1 (s.way[k]) (hw _ (List.getElem_mem hk2))) ?_
  rintro _ m2 ⟨rfl,G2⟩
  refine Br.mk (fun hq=>?_) (fun hq=>?_)
  ·have hq:(s.way[k]).t≤s.took:=of_decide_eq_true hq
   rw [if_pos hq] at G2
   exact WRet.same (.inr ⟨k,hk2,rfl,G.trans G2,hd,hq⟩)
  ·have hq:¬ (s.way[k]).t≤s.took:=of_decide_eq_false hq
   rw [if_neg hq] at G2
   refine WRng.mk (by apply wrap_i64<;>omega) ?_
   conv=>whnf
   exact ⟨k+1,⟨rfl,trivial⟩,⟨hk2,G.trans G2,by rw [due_succ hk2,if_neg hq];exact hd⟩,Nat.sub_lt_sub_left hk2 (Nat.lt_succ_self k)⟩
 ·have hk2:k=s.way.length:=by
   have:¬ (k:Int)<(s.way.length:Nat):=of_decide_eq_false hb
   omega
  subst hk2
  rw [List.take_length] at hd
  exact WRet.same (.inl ⟨rfl,G,hd⟩)
theorem SimAt.wayPut (h:SimAt m0 m V C M sv p H s) {W:List WayR} (hW:W.length=s.way.length) {q:Nat} {vs:List Value} (hne:s.way.length≠0) (hq:q+vs.length≤s.way.length * 4)
  (hsp:spliceL (flatL WayR.cells s.way) q vs=flatL WayR.cells W):∃ b rest,(H 4).a=some ⟨b,0,none⟩∧m b=some (Cells (contS H s 4++rest) TRes)∧(contS H s 4).length=s.way.length * 4 ∧
   Goes m0 V C M sv p m H s (m.set b (Cells (spliceL (contS H s 4++rest) q vs) TRes)) H { s with way:=W }:=by
 obtain ⟨b,rest,hb,hm,hl⟩:=h.fam.room (j:=4) (by unfold famN;omega) (show s.way.length≠0 from hne)
 have hfl:(contS H s 4).length=s.way.length * 4:=flat_len wr_len _
 refine ⟨b,rest,hb.2,hm,hfl,?_⟩
 have e:spliceL (contS H s 4++rest) q vs=contS H { s with way:=W } 4++rest:=by
  have h2:spliceL (contS H s 4++rest) q vs=spliceL (contS H s 4) q vs++rest:=by
   rw [spliceL_eq _ _ _ (by rw [List.length_append,hfl];omega),spliceL_eq _ _ _ (by rw [hfl];exact hq),List.take_append_of_le_length (by rw [hfl];omega),List.drop_append_of_le_length (by rw [hfl];exact hq)]
   simp only [List.append_assoc]
  rw [h2]
  exact congrArg (·++rest) hsp
 rw [e]
 refine h.put (k:=4) (by unfold famN;omega) hb ?_ rfl (fun j hj e=>cont_way H s W s.begun j e) ?_ ?_ hl rfl hW
 ·unfold simCells hv
  have:numS { s with way:=W } 4=numS s 4:=hW
  rw [this];rfl
 ·exact hW
 ·show (flatL WayR.cells W).length=(flatL WayR.cells s.way).length
  rw [flat_len wr_len,flat_len wr_len,hW]
theorem SimAt.setWay (h:SimAt m0 m V C M sv p H s) {q:Nat} (hq:q<s.way.length) {w:WayR} {ad:Addr} {vs:List Value} {K:Mem→Prop} (ha:(H 4).a=some ad) (hvs:vs=w.cells)
  (kk:∀ m',Goes m0 V C M sv p m H s m' H { s with way:=s.way.set q w }→K m'):WSt m (ad.add (q * 4)) vs K:=by
 subst hvs
 obtain ⟨b,rest,hb,hm,hfl,G⟩:=h.wayPut (W:=s.way.set q w) List.length_set (q:=q * 4) (vs:=w.cells) (by omega) (by show q * 4+4≤_;omega) (by
  have:=flat_set wr_len hq w []
  rw [List.append_nil,List.append_nil] at this;exact this)
 rw [hb] at ha;cases ha
 exact WSt.at _ _ hm (by rw [List.length_append,hfl];show q * 4+4≤_;omega) (kk _ G)
def zeroW:WayR:=⟨0,⟨0,0⟩,0⟩
theorem flat_zero (n:Nat):flatL WayR.cells (List.replicate n zeroW)=(List.replicate n [i 0,i 0,i 0,i 0]).flatten:=by unfold flatL;rw [List.map_replicate];rfl
theorem one_zero (n:Nat):oneL (List.replicate n [i 0,i 0,i 0,i 0]).flatten=true:=by
 induction n with
 | zero=>rfl
 | succ n ih=>rw [List.replicate_succ,List.flatten_cons];exact ih
theorem SimAt.clearWay (h:SimAt m0 m V C M sv p H s) {q n:Nat} (hq:q<s.way.length) (hn:n=s.way.length - q) {K:Mem→Prop} {ad:Addr} {a:Option Addr} (ha:(H 4).a=some ad) (hsl:a=some (ad.add (q * 4)))
  (kk:∀ m',Goes m0 V C M sv p m H s m' H { s with way:=s.way.take q++List.replicate n zeroW }→K m'):WClr m 4 [i 0,i 0,i 0,i 0] a n K:=by
 subst hn;subst hsl
 have hlen:(List.replicate (s.way.length - q) [i 0,i 0,i 0,i 0]).flatten.length=(s.way.length - q) * 4:=repl_len _ _
 obtain ⟨b,rest,hb,hm,hfl,G⟩:=h.wayPut (W:=s.way.take q++List.replicate (s.way.length - q) zeroW) (by rw [List.length_append,List.length_take,List.length_replicate];omega) (q:=q * 4)
  (vs:=(List.replicate (s.way.length - q) [i 0,i 0,i 0,i 0]).flatten) (by omega) (by rw [hlen];omega) (by
  rw [spliceL_eq _ _ _ (by rw [hlen,flat_len wr_len];omega),hlen,flat_app,flat_take wr_len,flat_zero,List.drop_eq_nil_of_le (by rw [flat_len wr_len];omega),List.append_nil])
 rw [hb] at ha;cases ha
 unfold WClr
 refine .inr ⟨_,rfl,contS H s 4++rest,TRes,?_,?_,?_,by omega,one_zero _,?_⟩
 ·rw [add0];exact hm
 ·rw [add0]
 ·rw [add0];show q * 4+(s.way.length - q) * 4≤_;rw [List.length_append,hfl];omega
 ·rw [add0];exact kk _ G
theorem delete_ok (h:SimAt m0 m V C M sv p H s) {bx T:Nat} (hbx:m bx=some (Cells [ptr p] T)) (hnf:¬ FootS p H s bx) (hw:∀ w∈s.way,w.rg<s.regs.length) (hl:s.way.length≤1000000000) :
  CallsM Tryz.prog 130 [hv H s 4,.func (.func 131) ⟨[]⟩ ⟨[ptr bx]⟩] m fun e m'=>∃ n,e=.returned (.slice (H 4).a (leftW s.took s.way).length (H 4).c) ∧
   Goes m0 V C M sv p m H s m' H { s with regs:=putsS s.regs (dueW s.took s.way),way:=leftW s.took s.way++List.replicate n zeroW }:=by
 refine calls_of mixed Tryz.func130 ok_slices_DeleteFunc_sim_result_sim_result rfl ?_
 refine WCall.mk (idxWay_ok h hbx hnf hw hl) ?_
 rintro en m1 (⟨rfl,G,hd⟩ | ⟨j0,hj0,rfl,G,hd,ht⟩)
 ·refine Br.mk (fun _=>?_) (fun hh=>by cases hh)
  have e1:leftW s.took s.way=s.way:=by
   unfold leftW
   rw [List.filter_eq_self]
   intro w hw'
   have:=List.filter_eq_nil_iff.1 hd w hw'
   simpa using this
  refine WRet.same ⟨0,?_,?_⟩
  ·rw [e1];rfl
  ·rw [hd,e1,List.replicate_zero,List.append_nil];exact G
 ·refine Br.mk (fun hb=>?_) (fun _=>?_)
  ·simp at hb
  refine WRng.mk (by apply wrap_i64<;>omega) ?_
  conv=>whnf
  have e1:leftW s.took (s.way.take (j0+1))=s.way.take j0:=by
   rw [left_succ hj0,if_pos ht]
   unfold leftW
   rw [List.filter_eq_self]
   intro w hw'
   have:=List.filter_eq_nil_iff.1 hd w hw'
   simpa using this
  have hl1:(leftW s.took (s.way.take (j0+1))).length=j0:=by rw [e1,List.length_take];omega
  refine WLoop.mk Nat (fun j=>[(5,.val (i ((leftW s.took (s.way.take j)).length:Nat))),(6,.val (i j))]) (fun j m'=>j≤s.way.length∧(leftW s.took (s.way.take j)).length<j ∧
   Goes m0 V C M sv p m H s m' H { s with regs:=putsS s.regs (dueW s.took (s.way.take j)),way:=leftW s.took (s.way.take j)++s.way.drop (leftW s.took (s.way.take j)).length }) (fun j=>s.way.length - j) (j0+1) ?_ ?_ ?_
  ·refine ⟨?_,?_,trivial⟩
   ·show some (AV.val (i (j0:Int)))=some (AV.val (i _))
    rw [hl1]
   ·rfl
  ·refine ⟨hj0,by rw [hl1];omega,?_⟩
   have e2:putsS s.regs (dueW s.took (s.way.take (j0+1)))=s.regs.set (s.way[j0]).rg (s.way[j0]).v:=by rw [due_succ hj0,if_pos ht,hd];rfl
   rw [e2,e1,List.length_take,Nat.min_eq_left (Nat.le_of_lt hj0),List.take_append_drop]
   exact G
  rintro j m2 ⟨hj,hlt,G2⟩
  have h2:=G2.at'
  generalize hF:leftW s.took (s.way.take j)=F at hlt G2 h2
  have hWl:(F++s.way.drop F.length).length=s.way.length:=by rw [List.length_append,List.length_drop];omega
  refine Br.mk (fun hb=>?_) (fun hb=>?_)
  ·have hj2:j<s.way.length:=by
    have:(j:Int)<(s.way.length:Nat):=of_decide_eq_true hb
    omega
   have hjW:j<(F++s.way.drop F.length).length:=by rw [hWl];exact hj2
   have hget:(F++s.way.drop F.length)[j]=s.way[j]:=by
    rw [List.getElem_append_right (by omega),List.getElem_drop]
    congr 1;omega
   obtain ⟨ad,ha,hc⟩:=h2.wayCells (r:=j) hjW
   rw [hget] at hc
   have hbx2:=G2.keep _ _ hbx hnf
   refine WIdx.mk ad ha ⟨by omega,by show (j:Int)<(s.way.length:Nat);omega⟩ ?_
   refine WLds.mk _ (by simpa using hc) rfl ?_
   refine WCall.mk (arrive1_ok h2 hbx2 (s.way[j]) (by show _<(putsS _ _).length;rw [puts_len];exact hw _ (List.getElem_mem hj2))) ?_
   rintro _ m3 ⟨rfl,G3⟩
   have G3:=G2.trans G3
   refine Br.mk (fun hq=>?_) (fun hq=>?_)
   ·have hq:¬ (s.way[j]).t≤s.took:=by
     have hq:(!decide ((s.way[j]).t≤s.took))=true:=hq
     simpa using hq
    rw [if_neg hq] at G3
    have eW:(F++s.way.drop F.length).set F.length s.way[j]=leftW s.took (s.way.take (j+1))++s.way.drop (leftW s.took (s.way.take (j+1))).length:=by
     rw [left_succ hj2,if_neg hq,hF,List.set_append_right _ _ (Nat.le_refl _),Nat.sub_self,List.drop_eq_getElem_cons (show F.length<s.way.length by omega),List.set_cons_zero,List.length_append,List.append_assoc]
     rfl
    refine WIdx.mk ad ha ⟨by omega,by show (F.length:Int)<(s.way.length:Nat);omega⟩ ?_
    conv=>whnf
    refine G3.at'.setWay (q:=F.length) (by show F.length<(F++s.way.drop F.length).length;rw [hWl];omega) ha (w:=s.way[j]) rfl fun m4 G4=>?_
    refine WRng.mk (by apply wrap_i64<;>omega) ?_
    refine WRng.mk (by apply wrap_i64<;>omega) ?_
    conv=>whnf
    refine ⟨j+1,⟨?_,rfl,trivial⟩,⟨hj2,?_,?_⟩,Nat.sub_lt_sub_left hj2 (Nat.lt_succ_self j)⟩
    ·show some (AV.val (i ((F.length:Int)+1)))=some (AV.val (i _))
     rw [left_succ hj2,if_neg hq,hF,List.length_append];rfl
    ·rw [left_succ hj2,if_neg hq,hF,List.length_append];simp;omega
    ·have:=G3.trans G4
     rw [due_succ hj2,if_neg hq,← eW]
     exact this
   ·have hq:(s.way[j]).t≤s.took:=by
     have hq:(!decide ((s.way[j]).t≤s.took))=false:=hq
     simpa using hq
    rw [if_pos hq] at G3
    refine WRng.mk (by apply wrap_i64<;>omega) ?_
    conv=>whnf
    refine ⟨j+1,⟨?_,rfl,trivial⟩,⟨hj2,?_,?_⟩,Nat.sub_lt_sub_left hj2 (Nat.lt_succ_self j)⟩
    ·show some (AV.val (i (F.length:Int)))=some (AV.val (i _))
     rw [left_succ hj2,if_pos hq,hF]
    ·rw [left_succ hj2,if_pos hq,hF];omega
    ·rw [due_succ hj2,if_pos hq,left_succ hj2,if_pos hq,hF,puts_snoc]
     exact G3
  ·have hj2:j=s.way.length:=by
    have:¬ (j:Int)<(s.way.length:Nat):=of_decide_eq_false hb
    omega
   subst hj2
   rw [List.take_length] at hF G2 h2
   have hcap:s.way.length≤(H 4).c:=h.fam.cap 4 (by unfold famN;omega)
   obtain ⟨ad,ha,_⟩:=h.wayCells hj0
   refine WSl.mk ⟨by omega,by show (F.length:Int)≤(s.way.length:Nat);omega,by show ((s.way.length:Nat):Int)≤(H 4).c;omega⟩ ?_
   conv=>whnf
   refine h2.clearWay (q:=F.length) (n:=s.way.length - F.length) (by show F.length<(F++s.way.drop F.length).length;rw [hWl];omega) (by rw [hWl]) ha ?_ fun m3 G3=>?_
   ·rw [if_neg (by omega),ha];rfl
   refine WSl.mk ⟨Int.le_refl _,by omega,by omega⟩ ?_
   refine WRet.same ⟨s.way.length - F.length,?_,?_⟩
   ·rw [if_map (show Int.toNat 0 * 4=0 from rfl),hF]
    rfl
   ·have:=G2.trans G3
    rw [hF]
    simp only [List.take_left'] at this
    exact this
theorem arrive_ok2 (h:SimAt m0 m V C M sv p H s) (hw:∀ w∈s.way,w.rg<s.regs.length) (hl:s.way.length≤1000000000) :
  CallsM Tryz.prog 100 [ptr p] m fun e m'=>e=.returned unitV∧∃ H',Goes m0 V C M sv p m H s m' H' (arriveS s):=by
 refine calls_of mixed Tryz.func100 ok_sim_Sim_arrive rfl ?_
 refine WNew.ab fun bx mx hbx lx cx=>?_
 have hx:=h.mono lx
 have hnf:=h.free hbx
 have hb:∀ {m':Mem},m' bx=some (Cells [ptr p] 61)→CellAt m' ⟨bx,0,none⟩ (ptr p):=fun hh=>⟨_,_,_,hh,rfl,rfl⟩
 have hway:CellAt mx ((⟨p,0,none⟩:Addr).add 27) (hv H s 4):=hx.cell rfl
 have hcall:=delete_ok hx cx hnf hw hl
 -- where the list lies is stored
 have fin:∀ {m2:Mem} {n:Nat} {K:Mem→Prop},Goes m0 V C M sv p mx H s m2 H { s with regs:=putsS s.regs (dueW s.took s.way),way:=leftW s.took s.way++List.replicate n zeroW } →
   (∀ m3 H3,Goes m0 V C M sv p m H s m3 H3 (arriveS s)→K m3)→WSt m2 ((⟨p,0,none⟩:Addr).add 27) [.slice (H 4).a (leftW s.took s.way).length (H 4).c] K:=fun {m2 n K} G k=>by
  have h2:=G.at'
  refine WSt.at _ _ h2.hp (show 27+1≤28 from Nat.le_refl _) ?_
  by_cases hc0:(H 4).c=0
  ·have hcap:=h2.fam.cap 4 (by unfold famN;omega)
   have hlen0:(leftW s.took s.way++List.replicate n zeroW).length=0:=by
    have:(leftW s.took s.way++List.replicate n zeroW).length≤(H 4).c:=hcap
    omega
   have hn0:n=0:=by rw [List.length_append,List.length_replicate] at hlen0;omega
   subst hn0
   rw [List.replicate_zero,List.append_nil] at h2 G
   refine k _ H ((h.goesMono lx).trans (G.trans (h2.hdr (s':=arriveS s) rfl rfl rfl rfl rfl)))
  ·obtain ⟨b,rest,hba,hbm,hbl⟩:=h2.fam.blk 4 (by unfold famN;omega) hc0
   have e4:contS H { s with regs:=putsS s.regs (dueW s.took s.way),way:=leftW s.took s.way++List.replicate n zeroW } 4=flatL WayR.cells (leftW s.took s.way)++flatL WayR.cells (List.replicate n zeroW):=flat_app _ _
   rw [e4] at hbm hbl
   have hcap:(leftW s.took s.way++List.replicate n zeroW).length≤(H 4).c:=h2.fam.cap 4 (by unfold famN;omega)
   rw [List.length_append] at hcap
   have hH:H.upd 4 ⟨some ⟨b,0,none⟩,(H 4).c⟩=H:=by
    funext j
    by_cases e:j=4
    ·subst e;rw [upd_same,← hba]
    ·rw [upd_other H _ e]
   have G2:=h2.relist (s':=arriveS s) (k:=4) (b:=b) (c:=(H 4).c) (rest:=flatL WayR.cells (List.replicate n zeroW)++rest) (m':=m2.set p (Cells (spliceL (simCells V C M sv H { s with regs:=putsS s.regs (dueW s.took s.way),way:=leftW s.took s.way++List.replicate n zeroW }) 27 [.slice (H 4).a (leftW s.took s.way).length (H 4).c]) TSim))
    (by decide) rfl (fun j hj=>⟨(cont_way H { s with regs:=putsS s.regs (dueW s.took s.way) } (leftW s.took s.way) s.begun j hj).1.trans (cont_way H { s with regs:=putsS s.regs (dueW s.took s.way) } (leftW s.took s.way++List.replicate n zeroW) s.begun j hj).1.symm,(cont_way H { s with regs:=putsS s.regs (dueW s.took s.way) } (leftW s.took s.way) s.begun j hj).2.trans (cont_way H { s with regs:=putsS s.regs (dueW s.took s.way) } (leftW s.took s.way++List.replicate n zeroW) s.begun j hj).2.symm⟩) (.inr ⟨hc0,hba⟩)
    (by rw [Mem.set_other _ _ (h2.notp ⟨4,by unfold famN;omega,hc0,hba⟩),hbm,List.append_assoc];rfl) (by rw [Mem.set_same,hH];rfl) (fun x h1 h2'=>Mem.set_other _ _ h2')
    (flat_len wr_len _) (by show (leftW s.took s.way).length≤_;omega) (by rw [← hbl];show (flatL _ _).length+_=_;rw [List.length_append,List.length_append];show (flatL WayR.cells (leftW s.took s.way)).length+_=_;omega) (fun _=>rfl) (fun e=>absurd rfl e)
   exact k _ _ ((h.goesMono lx).trans (G.trans G2))
 conv=>whnf
 refine ⟨?_,?_,trivial⟩
 ·refine WLd.mk _ (hb cx) ?_
  conv=>whnf
  refine ⟨?_,trivial⟩
  refine WLd.mk _ (hb cx) ?_
  refine WLd.mk _ hway ?_
  conv=>whnf
  refine ⟨?_,trivial⟩
  refine WCall.mk hcall ?_
  rintro _ m2 ⟨n,rfl,G⟩
  conv=>whnf
  refine ⟨?_,trivial⟩
  conv=>whnf
  refine fin G fun m3 H3 G3=>?_
  exact WRet.same ⟨rfl,H3,G3⟩
 ·refine WLd.mk _ (hb cx) ?_
  refine WLd.mk _ hway ?_
  conv=>whnf
  refine ⟨?_,?_,trivial⟩
  ·refine WLd.mk _ (hb cx) ?_
   conv=>whnf
   refine ⟨?_,trivial⟩
   refine WCall.mk hcall ?_
   rintro _ m2 ⟨n,rfl,G⟩
   conv=>whnf
   refine ⟨?_,trivial⟩
   conv=>whnf
   refine fin G fun m3 H3 G3=>?_
   exact WRet.same ⟨rfl,H3,G3⟩
  ·refine WCall.mk hcall ?_
   rintro _ m2 ⟨n,rfl,G⟩
   refine WLd.mk _ (hb (G.keep _ _ cx hnf)) ?_
   conv=>whnf
   refine ⟨?_,trivial⟩
   conv=>whnf
   refine fin G fun m3 H3 G3=>?_
   exact WRet.same ⟨rfl,H3,G3⟩
end
end Go.Proofs.YtleofbpepfmfgaaGreatDoor
