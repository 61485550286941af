import Derived.Test.YtleofbpepfmfgaaGreatDoorVxSimBgn
import Derived.Test.YtleofbpepfmfgaaGreatDoorVxWrd4
import Derived.Test.YtleofbpepfmfgaaGreatDoorVxSimY
set_option linter.unusedSimpArgs false
set_option linter.unusedVariables false
set_option maxRecDepth 100000
namespace Go.Proofs.YtleofbpepfmfgaaGreatDoor
open Go Go.Vx
open Go.Vx.IOp Go.Vx.IR Go.Vx.Opd
theorem clone64_ok {m:Mem} {v:Value} {C:List Int} (hv:IAt m v C) (hlen:C.length≤4398046511104) :
  CallsM Tryz.prog 68 [v] m fun e m'=>∃ A c,e=.returned (.slice A C.length c)∧Mem.le m m'∧IAt m' (.slice A C.length c) C:=by
 obtain ⟨a,c,rfl,q0,q1,hcap⟩:=hv
 refine calls_of mixed Tryz.func68 ok_slices_Clone_int64_int64 rfl ?_
 conv=>whnf
 cases a with
 | none =>
  have h0:=q0 rfl
  subst h0
  refine Br.mk (fun hb=>?_) (fun hb=>by cases hb)
  exact WRet.same ⟨none,0,rfl,Mem.le.refl _,⟨none,0,rfl,(fun _=>rfl),(fun ad h=>by cases h),Nat.le_refl _⟩⟩
 | some ad =>
  refine Br.mk (fun hb=>by cases hb) (fun hb=>?_)
  refine WNew.mk fun b1 hb1=>?_
  refine WApp.copyB hb1 (A:=some ad) (n:=C.length) rfl rfl (C.map i) ⟨by simp,fun ad' ha=>q1 ad' ha⟩ (fun ha=>by cases ha) (by omega) fun b cb m1 rest hle1 hcb hbm hcells=>?_
  refine WRet.same ⟨_,cb,rfl,hle1,⟨_,cb,rfl,(fun h=>by cases h),fun ad' ha=>?_,hcb⟩⟩
  cases ha
  exact CellsAt.blk hcells fun q v hq=>by rw [Nat.zero_add,List.getElem?_append_left (List.getElem?_eq_some_iff.1 hq).1];exact hq
def OutAt (m:Mem) (v:Value) (P:List Int) (kd n:Int):Prop:=∃ A c,v=.agg ⟨[.slice A P.length c,i kd,i n]⟩∧IAt m (.slice A P.length c) P
theorem OutAt.mono {m m':Mem} {v:Value} {P:List Int} {kd n:Int} (h:OutAt m v P kd n) (hle:Mem.le m m'):OutAt m' v P kd n:=by
 obtain ⟨A,c,h1,h2⟩:=h;exact ⟨A,c,h1,h2.mono hle⟩
section
variable {m0 m m':Mem} {V:CV} {C:CodeR} {M:Mac} {sv:Value} {p:Nat} {H:HdF} {s s':St} {sh:List Int}
theorem SimAt.printsAt (h:SimAt m0 m V C M sv p H s):IAt m (hv H s 0) s.prints:=by
 refine ⟨(H 0).a,(H 0).c,rfl,h.nil0,fun ad ha=>?_,h.fam.cap 0 (by unfold famN;omega)⟩
 exact h.fam.cellsAt (j:=0) (by unfold famN;omega) ha
theorem outcome_ok (h:SimAt m0 m V C M sv p H s) (hl:s.prints.length≤1000000000) :
  CallsM Tryz.prog 49 [ptr p] m fun e m'=>∃ v,e=.returned v∧Mem.le m m'∧OutAt m' v s.prints s.kind s.value:=by
 refine calls_of mixed Tryz.func49 ok_sim_Sim_outcome rfl ?_
 refine WLd.mk (hv H s 0) (by rw [add_add];exact h.cell rfl) ?_
 refine WLd.mk (i s.kind) (by rw [add_add];exact h.cell rfl) ?_
 refine WLd.mk (i s.value) (by rw [add_add];exact h.cell rfl) ?_
 conv=>whnf
 refine ⟨?_,trivial⟩
 refine WCallG.mk (clone64_ok h.printsAt (by omega)) ?_
 rintro _ m1 ⟨A,c,rfl,l1,hI⟩
 refine ⟨l1,?_⟩
 conv=>whnf
 refine ⟨?_,trivial⟩
 exact WRet.same ⟨_,rfl,l1,A,c,rfl,hI⟩
end
def canS (C:CodeR) (M:Mac) (al:Nat) (n:Int) (sl:Nat):Int :=
 if fitsCode C M≠0 then fitsCode C M else if ((al:Int) != C.pr||decide (n<0)||decide (n>4194304))=true then 2 else if (sl:Int)>1000 then 3 else 0
theorem can_ok {m:Mem} {T:Nat} {fr:Nat×Nat} (hm:m 0=some (.cells ⟨cells0⟩ T fr)) (V:CV) {C:CodeR} (M:Mac) (hV:CodeAt m V C) {aa sa:Option Addr} {al ca sl cs:Nat} (n:Int) :
  CallsM Tryz.prog 46 [V.val C,M.val,.slice aa al ca,i n,.slice sa sl cs] m fun e m'=>e=.returned (i (canS C M al n sl))∧Mem.le m m':=by
 refine calls_of mixed Tryz.func46 ok_sim_Can rfl ?_
 refine WCall.mk (wFits_ok hm V hV M) ?_
 rintro _ m1 ⟨rfl,l1⟩
 refine Br.mk (fun h0=>?_) (fun h0=>?_)
 ·have h0:fitsCode C M≠0:=by simpa using h0
  exact WRet.same ⟨by unfold canS;rw [if_pos h0];rfl,l1⟩
 ·have h0:¬ fitsCode C M≠0:=by simpa using h0
  refine WSc.mk (v:=decide (n<0)) (fun _=>And.intro (Mem.le.refl _) rfl) ?_
  refine WSc.mk (v:=decide (n>4194304)) (fun _=>And.intro (Mem.le.refl _) rfl) ?_
  refine Br.mk (fun h1=>?_) (fun h1=>?_)
  ·have h1:((al:Int) != C.pr||decide (n<0)||decide (n>4194304))=true:=h1
   exact WRet.same ⟨by unfold canS;rw [if_neg h0,if_pos h1];rfl,l1⟩
  ·have h1:¬ ((al:Int) != C.pr||decide (n<0)||decide (n>4194304))=true:=by
    have h1:((al:Int) != C.pr||decide (n<0)||decide (n>4194304))=false:=h1
    rw [h1];decide
   refine Br.mk (fun h2=>?_) (fun h2=>?_)
   ·have h2:(sl:Int)>1000:=of_decide_eq_true h2
    exact WRet.same ⟨by unfold canS;rw [if_neg h0,if_neg h1,if_pos h2];rfl,l1⟩
   ·have h2:¬ (sl:Int)>1000:=of_decide_eq_false h2
    exact WRet.same ⟨by unfold canS;rw [if_neg h0,if_neg h1,if_neg h2];rfl,l1⟩
theorem fits_ok3 {C:CodeR} {M:Mac} (h:fitsCode C M=0):CodeOK C∧M.ok=true:=by
 unfold fitsCode at h
 split at h
 ·rename_i h1;exact absurd h h1
 ·rename_i h1
  split at h
  ·cases h
  ·rename_i h2
   exact ⟨checkCode_ok (by simpa using h1),by simpa using h2⟩
theorem can_zero {C:CodeR} {M:Mac} {al sl:Nat} {n:Int} (h:canS C M al n sl=0):CodeOK C∧M.ok=true∧(al:Int)=C.pr∧0≤n∧n≤4194304∧sl≤1000:=by
 unfold canS at h
 split at h
 ·rename_i h1;exact absurd h h1
 ·rename_i h1
  split at h
  ·cases h
  ·rename_i h2
   split at h
   ·cases h
   ·rename_i h3
    obtain ⟨a,b⟩:=fits_ok3 (Decidable.not_not.1 h1)
    simp only [Bool.or_eq_true,bne_iff_ne,ne_eq,decide_eq_true_eq,not_or,Decidable.not_not] at h2
    exact ⟨a,b,by omega,by omega,by omega,by omega⟩
theorem begin_good {C:CodeR} (hC:CodeOK C) {args:List Int} (hal:args.length≤C.rg.toNat):Good C (beginS C args) 0:=by
 have hwl:=hC.wl
 refine ⟨⟨?_,?_,?_,(fun w hw=>by cases hw),fun v hv=>?_,fun v hv=>?_⟩,by show 0<_;omega,⟨Nat.le_refl _,Nat.le_refl _,Nat.le_refl _,Nat.le_refl _⟩⟩
 ·show (argsS C args).length=_;exact args_len hal
 ·show (List.replicate _ _).length=_;exact List.length_replicate
 ·show (C.sz.map fun n=>List.replicate n.toNat 0).map List.length=_
  rw [List.map_map]
  apply List.map_congr_left
  intro n _
  simp
 ·rcases List.mem_append.1 hv with h | h
  ·obtain ⟨n,_,rfl⟩:=List.mem_map.1 h;exact .inl rfl
  ·rw [(List.mem_replicate.1 h).2];exact VR.zero_ok
 ·rw [(List.mem_replicate.1 hv).2];exact VR.zero_ok
def outZ:Value:=.agg ⟨[ns,i 0,i 0]⟩
def RunPost (m:Mem) (C:CodeR) (M:Mac) (sh args:List Int) (n:Int) (e:Ending) (m':Mem):Prop :=
 Mem.le m m'∧(canS C M args.length n sh.length≠0→e=.returned (.tuple ⟨[outZ,i 0,i (canS C M args.length n sh.length)]⟩)) ∧
  (canS C M args.length n sh.length=0→∃ v,e=.returned (.tuple ⟨[v,i ((runS C M sh n.toNat (beginS C args)).took:Int),i 0]⟩)∧OutAt m' v (runS C M sh n.toNat (beginS C args)).prints (runS C M sh n.toNat (beginS C args)).kind (runS C M sh n.toNat (beginS C args)).value)
theorem simRun_ok {m:Mem} {T:Nat} {fr:Nat×Nat} (hm:m 0=some (.cells ⟨cells0⟩ T fr)) (V:CV) {C:CodeR} (M:Mac) (hV:CodeAt m V C) {aa sa:Option Addr} {ca cs:Nat} {args sh:List Int}
  (hargs:IAt m (.slice aa args.length ca) args) (hsh:IAt m (.slice sa sh.length cs) sh) (n:Int) (hn:n≤100000∨n>4194304) :
  CallsM Tryz.prog 17 [V.val C,M.val,.slice aa args.length ca,i n,.slice sa sh.length cs] m (RunPost m C M sh args n):=by
 refine calls_of mixed Tryz.func17 ok_sim_Run rfl ?_
 refine WCall.mk (can_ok hm V M hV (al:=args.length) (sl:=sh.length) n) ?_
 rintro _ m1 ⟨rfl,l1⟩
 refine Br.mk (fun h0=>?_) (fun h0=>?_)
 ·have h0:canS C M args.length n sh.length≠0:=by
   have h0:(canS C M args.length n sh.length != 0)=true:=h0
   simpa using h0
  exact WRet.same ⟨l1,fun _=>rfl,fun h=>absurd h h0⟩
 ·have h0:canS C M args.length n sh.length=0:=by
   have h0:(canS C M args.length n sh.length != 0)=false:=h0
   simpa using h0
  obtain ⟨hC,hM,hal,hn0,hn1,hsl⟩:=can_zero h0
  have hpr:=hC.pr
  refine WCall.mk (begin_ok V (hV.mono l1) hC hM (l1 _ _ hm) (hargs.mono l1) (by omega) (hsh.mono l1) hsl) ?_
  rintro _ m2 ⟨p,m1',V1,sv,H,rfl,l2,hB,hS⟩
  have L2:Mem.le m m2:=l1.trans (l2.trans hS.le)
  have hcast:((n.toNat:Nat):Int)=n:=by omega
  have hfor:=for_ok hS hB (begin_good hC (args:=args) (by omega)) n.toNat (by omega)
  rw [hcast] at hfor
  have hgood:=Good.run (M:=M) (sh:=sh) hC (n:=n.toNat) (begin_good hC (args:=args) (by omega))
  refine WCall.mk hfor ?_
  rintro _ m3 ⟨rfl,H3,G3⟩
  have L3:Mem.le m m3:=l1.trans (l2.trans G3.at'.le)
  have h3:=G3.at'
  have hlim:=hgood.lim
  have htk:∀ {m':Mem},Mem.le m3 m'→CellAt m' (((⟨p,0,none⟩:Addr).add 0).add 1) (i ((runS C M sh n.toNat (beginS C args)).took:Int)):=fun hle=>by rw [add_add];exact (h3.mono hle).cell rfl
  have hout:=outcome_ok h3 (by have:=hlim.prints;omega)
  have fin:∀ {m4:Mem} {v:Value},Mem.le m3 m4→OutAt m4 v (runS C M sh n.toNat (beginS C args)).prints (runS C M sh n.toNat (beginS C args)).kind (runS C M sh n.toNat (beginS C args)).value →
    RunPost m C M sh args n (.returned (.tuple ⟨[v,i ((runS C M sh n.toNat (beginS C args)).took:Int),i 0]⟩)) m4:=fun hle ho=>⟨L3.trans hle,fun h=>absurd h0 h,fun _=>⟨_,rfl,ho⟩⟩
  conv=>whnf
  refine ⟨?_,?_,trivial⟩
  ·refine WCallG.mk hout ?_
   rintro _ m4 ⟨_,rfl,l4,A,c,rfl,hI⟩
   refine ⟨l4,?_⟩
   conv=>whnf
   refine ⟨?_,?_,trivial⟩
   ·refine WLd.mk _ (htk l4) ?_
    conv=>whnf
    refine ⟨?_,trivial⟩
    exact WRet.same (fin l4 ⟨A,c,rfl,hI⟩)
   ·refine WLd.mk _ (htk l4) ?_
    exact WRet.same (fin l4 ⟨A,c,rfl,hI⟩)
  ·refine WLd.mk _ (htk (Mem.le.refl _)) ?_
   conv=>whnf
   refine ⟨?_,trivial⟩
   refine WCallG.mk hout ?_
   rintro _ m4 ⟨_,rfl,l4,A,c,rfl,hI⟩
   refine ⟨l4,?_⟩
   conv=>whnf
   refine ⟨?_,trivial⟩
   exact WRet.same (fin l4 ⟨A,c,rfl,hI⟩)
def startS (C:CodeR) (M:Mac) (al sl:Nat):Int:=if fitsCode C M≠0 then fitsCode C M else if (al:Int)≠C.pr then 2 else if (sl:Int)>1000 then 3 else 0
def StartPost (m:Mem) (C:CodeR) (M:Mac) (sh args:List Int) (e:Ending) (m':Mem):Prop :=
 Mem.le m m'∧(startS C M args.length sh.length≠0→e=.returned (.tuple ⟨[np,i (startS C M args.length sh.length)]⟩)) ∧
  (startS C M args.length sh.length=0→∃ p m1 V sv H,e=.returned (.tuple ⟨[ptr p,i 0]⟩)∧Mem.le m m1∧SimBase m1 V C M sv sh∧SimAt m1 m' V C M sv p H (beginS C args))
theorem start_zero {C:CodeR} {M:Mac} {al sl:Nat} (h:startS C M al sl=0):CodeOK C∧M.ok=true∧(al:Int)=C.pr∧sl≤1000:=by
 unfold startS at h
 split at h
 ·rename_i h1;exact absurd h h1
 ·rename_i h1
  split at h
  ·cases h
  ·rename_i h2
   split at h
   ·cases h
   ·rename_i h3
    obtain ⟨a,b⟩:=fits_ok3 (Decidable.not_not.1 h1)
    exact ⟨a,b,by omega,by omega⟩
theorem simStart_ok {m:Mem} {T:Nat} {fr:Nat×Nat} (hm:m 0=some (.cells ⟨cells0⟩ T fr)) (V:CV) {C:CodeR} (M:Mac) (hV:CodeAt m V C) {aa sa:Option Addr} {ca cs:Nat} {args sh:List Int}
  (hargs:IAt m (.slice aa args.length ca) args) (hsh:IAt m (.slice sa sh.length cs) sh) :
  CallsM Tryz.prog 29 [V.val C,M.val,.slice aa args.length ca,.slice sa sh.length cs] m (StartPost m C M sh args):=by
 refine calls_of mixed Tryz.func29 ok_sim_Start rfl ?_
 refine WCall.mk (wFits_ok hm V hV M) ?_
 rintro _ m1 ⟨rfl,l1⟩
 refine Br.mk (fun h0=>?_) (fun h0=>?_)
 ·have h0:fitsCode C M≠0:=by simpa using h0
  have e:startS C M args.length sh.length=fitsCode C M:=by unfold startS;rw [if_pos h0]
  refine WRet.same ⟨l1,fun _=>?_,fun h=>absurd (e.symm.trans h) h0⟩
  rw [e];rfl
 ·have h0:¬ fitsCode C M≠0:=by simpa using h0
  refine Br.mk (fun h1=>?_) (fun h1=>?_)
  ·have h1:(args.length:Int)≠C.pr:=by
    have h1:((args.length:Int) != C.pr)=true:=h1
    simpa using h1
   have e:startS C M args.length sh.length=2:=by unfold startS;rw [if_neg h0,if_pos h1]
   refine WRet.same ⟨l1,fun _=>?_,fun h=>absurd (e.symm.trans h) (by decide)⟩
   rw [e];rfl
  ·have h1:¬ (args.length:Int)≠C.pr:=by
    have h1:((args.length:Int) != C.pr)=false:=h1
    simpa using h1
   refine Br.mk (fun h2=>?_) (fun h2=>?_)
   ·have h2:(sh.length:Int)>1000:=of_decide_eq_true h2
    have e:startS C M args.length sh.length=3:=by unfold startS;rw [if_neg h0,if_neg h1,if_pos h2]
    refine WRet.same ⟨l1,fun _=>?_,fun h=>absurd (e.symm.trans h) (by decide)⟩
    rw [e];rfl
   ·have h2:¬ (sh.length:Int)>1000:=of_decide_eq_false h2
    have e:startS C M args.length sh.length=0:=by unfold startS;rw [if_neg h0,if_neg h1,if_neg h2]
    obtain ⟨hC,hM,hal,hsl⟩:=start_zero e
    have hpr:=hC.pr
    refine WCall.mk (begin_ok V (hV.mono l1) hC hM (l1 _ _ hm) (hargs.mono l1) (by omega) (hsh.mono l1) hsl) ?_
    rintro _ m2 ⟨p,m1',V1,sv,H,rfl,l2,hB,hS⟩
    exact WRet.same ⟨l1.trans (l2.trans hS.le),fun h=>absurd e h,fun _=>⟨p,m1',V1,sv,H,rfl,l1.trans l2,hB,hS⟩⟩
section
variable {m0 m m':Mem} {V:CV} {C:CodeR} {M:Mac} {sv:Value} {p:Nat} {H:HdF} {s s':St} {sh:List Int}
theorem sRun_ok (h:SimAt m0 m V C M sv p H s) (hB:SimBase m0 V C M sv sh) {k:Nat} (hG:Good C s k) (n:Nat) (hn:k+401 * n≤900000000) (hn2:n≤100000) (ht:s.took≤4194304) :
  CallsM Tryz.prog 30 [ptr p,i (n:Int)] m fun e m'=>∃ H' v,Goes m0 V C M sv p m H s m' H' (runS C M sh n s)∧e=.returned (.tuple ⟨[v,.bool (runS C M sh n s).ended,i 0]⟩) ∧
   OutAt m' v (runS C M sh n s).prints (runS C M sh n s).kind (runS C M sh n s).value:=by
 refine calls_of mixed Tryz.func30 ok_sim_Sim_Run rfl ?_
 refine WCall.pure (simNone_ok h hB) ?_
 refine Br.mk (fun hh=>by cases hh) (fun _=>?_)
 refine WSc.mk (v:=decide ((n:Int)>4194304)) (fun _=>And.intro (Mem.le.refl _) rfl) ?_
 refine Br.mk (fun hh=>?_) (fun _=>?_)
 ·have hh:(decide ((n:Int)<0)||decide ((n:Int)>4194304))=true:=hh
  simp only [Bool.or_eq_true,decide_eq_true_eq] at hh
  omega
 refine WLd.mk (i (s.took:Int)) (by rw [add_add];exact h.cell rfl) ?_
 refine Br.mk (fun hh=>?_) (fun _=>?_)
 ·have hh:(s.took:Int)>4194304:=of_decide_eq_true hh
  omega
 refine WCall.mk (for_ok h hB hG n hn) ?_
 rintro _ m3 ⟨rfl,H3,G3⟩
 have h3:=G3.at'
 have hgood:=Good.run (M:=M) (sh:=sh) hB.ok (n:=n) hG
 have hlim:=hgood.lim
 have hwd:∀ {m':Mem},Mem.le m3 m'→CellAt m' (((⟨p,0,none⟩:Addr).add 0).add 0) (i (wordV (runS C M sh n s))):=fun hle=>by rw [add_add];exact (h3.mono hle).cell rfl
 have hout:=outcome_ok h3 (by have:=hlim.prints;omega)
 have hend:decide (wordV (runS C M sh n s)<0)=(runS C M sh n s).ended:=by
  unfold wordV
  cases (runS C M sh n s).ended with
  | true=>rfl
  | false=>rw [if_neg (by decide)];exact decide_eq_false (by omega)
 have fin:∀ {m4:Mem} {v:Value},Mem.le m3 m4→OutAt m4 v (runS C M sh n s).prints (runS C M sh n s).kind (runS C M sh n s).value →
   ∃ H' v',Goes m0 V C M sv p m H s m4 H' (runS C M sh n s)∧Ending.returned (.tuple ⟨[v,.bool (decide (wordV (runS C M sh n s)<0)),i 0]⟩)=.returned (.tuple ⟨[v',.bool (runS C M sh n s).ended,i 0]⟩) ∧
   OutAt m4 v' (runS C M sh n s).prints (runS C M sh n s).kind (runS C M sh n s).value:=fun {m4 v} hle ho=>⟨H3,v,G3.trans (h3.goesMono hle),by rw [hend],ho⟩
 conv=>whnf
 refine ⟨?_,?_,trivial⟩
 ·refine WCallG.mk hout ?_
  rintro _ m4 ⟨_,rfl,l4,A,c,rfl,hI⟩
  refine ⟨l4,?_⟩
  conv=>whnf
  refine ⟨?_,?_,trivial⟩
  ·refine WLd.mk _ (hwd l4) ?_
   conv=>whnf
   refine ⟨?_,trivial⟩
   exact WRet.same (fin l4 ⟨A,c,rfl,hI⟩)
  ·refine WLd.mk _ (hwd l4) ?_
   exact WRet.same (fin l4 ⟨A,c,rfl,hI⟩)
 ·refine WLd.mk _ (hwd (Mem.le.refl _)) ?_
  conv=>whnf
  refine ⟨?_,trivial⟩
  refine WCallG.mk hout ?_
  rintro _ m4 ⟨_,rfl,l4,A,c,rfl,hI⟩
  refine ⟨l4,?_⟩
  conv=>whnf
  refine ⟨?_,trivial⟩
  exact WRet.same (fin l4 ⟨A,c,rfl,hI⟩)
theorem sSettle_ok (h:SimAt m0 m V C M sv p H s) (hB:SimBase m0 V C M sv sh) {k:Nat} (hG:Good C s k) (hk:k≤900000000) :
  CallsM Tryz.prog 32 [ptr p] m fun e m'=>e=.returned (i 0)∧∃ H',Goes m0 V C M sv p m H s m' H' (settleS s):=by
 refine calls_of mixed Tryz.func32 ok_sim_Sim_Settle rfl ?_
 refine WCall.pure (simNone_ok h hB) ?_
 refine Br.mk (fun hh=>by cases hh) (fun _=>?_)
 refine WCall.mk (settle_ok2 h (fun w hw=>by rw [hG.ok.regs];exact (hG.ok.way w hw).1) (by have:=hG.lim.way;omega)) ?_
 rintro _ m2 ⟨rfl,G⟩
 exact WRet.same ⟨rfl,_,G⟩
theorem sOnWay_ok (h:SimAt m0 m V C M sv p H s) (hB:SimBase m0 V C M sv sh):PureM Tryz.prog 42 [ptr p] m (i (s.way.length:Int)):=by
 refine calls_of mixed Tryz.func42 ok_sim_Sim_OnWay rfl ?_
 refine WCall.pure (simNone_ok h hB) ?_
 refine Br.mk (fun hh=>by cases hh) (fun _=>?_)
 refine WLd.mk (hv H s 4) (h.cell rfl) ?_
 exact WRet.same ⟨rfl,rfl⟩
theorem sReg_ok (h:SimAt m0 m V C M sv p H s) (hB:SimBase m0 V C M sv sh) (r:Int) :
  PureM Tryz.prog 39 [ptr p,i r] m (if 0≤r∧r<s.regs.length then .tuple ⟨[(s.reg r).val,i 0]⟩ else .tuple ⟨[VR.zero.val,i 2]⟩):=by
 refine calls_of mixed Tryz.func39 ok_sim_Sim_Reg rfl ?_
 refine WCall.pure (simNone_ok h hB) ?_
 refine Br.mk (fun hh=>by cases hh) (fun _=>?_)
 refine WSc.mk (v:=decide (r≥(s.regs.length:Int))) (fun _=>?_) ?_
 ·refine WLd.mk (hv H s 1) (by rw [add_add];exact h.cell rfl) ?_
  conv=>whnf
  exact And.intro (Mem.le.refl _) rfl
 refine Br.mk (fun hh=>?_) (fun hh=>?_)
 ·have hh:(decide (r<0)||decide (r≥(s.regs.length:Int)))=true:=hh
  simp only [Bool.or_eq_true,decide_eq_true_eq] at hh
  rw [if_neg (by omega)]
  exact WRet.same ⟨rfl,rfl⟩
 ·have hh:(decide (r<0)||decide (r≥(s.regs.length:Int)))=false:=hh
  simp only [Bool.or_eq_false_iff,decide_eq_false_iff_not] at hh
  rw [if_pos (by omega)]
  have hr:r.toNat<s.regs.length:=by omega
  obtain ⟨ar,har,hc⟩:=h.regCells hr
  refine WLd.mk (hv H s 1) (by rw [add_add];exact h.cell rfl) ?_
  refine WIdx.mk ar har ⟨by omega,by show r<(s.regs.length:Nat);omega⟩ ?_
  refine WLds.mk _ hc rfl ?_
  exact WRet.same ⟨rfl,rfl⟩
end
variable {m0 m m' m2:Mem} {V:CV} {C:CodeR} {M:Mac} {sv:Value} {lw:Int} {p:Nat} {H H' H2:HdF} {s s' s2:St} {sh:List Int}
theorem bare_atR {br bk:Nat} (hle:Mem.le m0 m) (hp:m0 p=none) (hbr:m0 br=none) (hbk:m0 bk=none) (hne:br≠bk)
  (cp:m p=some (Cells (rfCells V C M sv lw (bareH br C.rg.toNat bk C.sp.toNat) (bareS C)) TRf)) (cr:m br=some (Cells (List.replicate C.rg.toNat [i 0,i 0]).flatten TVal)) (ck:m bk=some (Cells (List.replicate C.sp.toNat [i 0,i 0]).flatten TVal)) :
  RfAt m0 m V C M sv lw p (bareH br C.rg.toNat bk C.sp.toNat) (bareS C):=by
 have hown:∀ {j b},OwnsB (bareH br C.rg.toNat bk C.sp.toNat j) b→(j=1∧b=br)∨(j=2∧b=bk):=fun {j b} h=>by
  match j,h with
  | 0,h=>exact absurd rfl h.1
  | 1,h=>exact .inl ⟨rfl,by have:=h.2;cases this;rfl⟩
  | 2,h=>exact .inr ⟨rfl,by have:=h.2;cases this;rfl⟩
  | j+3,h=>exact absurd rfl h.1
 refine ⟨cp,⟨fun j hj=>?_,fun j hj=>?_,fun j hj hc=>?_,fun j k b hj hk h1 h2=>?_⟩,hle,fun b hb=>?_,fun _=>rfl,fun _=>rfl⟩
 ·match j,hj with
  | 0,_=>rfl
  | 1,_=>exact flat_len vr_len _
  | 2,_=>exact flat_len vr_len _
  | 3,_=>rfl
  | 4,_=>rfl
  | j+5,hj=>exfalso;unfold famN bareS at hj;simp only [List.length_nil] at hj;omega
 ·match j,hj with
  | 0,_=>exact Nat.le_refl _
  | 1,_=>show (List.replicate _ _).length≤_;rw [List.length_replicate];exact Nat.le_refl _
  | 2,_=>show (List.replicate _ _).length≤_;rw [List.length_replicate];exact Nat.le_refl _
  | 3,_=>exact Nat.le_refl _
  | 4,_=>exact Nat.le_refl _
  | j+5,hj=>exfalso;unfold famN bareS at hj;simp only [List.length_nil] at hj;omega
 ·match j,hj,hc with
  | 0,_,hc=>exact absurd rfl hc
  | 1,_,hc =>
   refine ⟨br,[],rfl,?_,?_⟩
   ·rw [List.append_nil];show m br=some (Cells (flatL VR.cells (List.replicate _ _)) _);rw [flat_vzero];exact cr
   ·show (flatL VR.cells (List.replicate _ _)).length+0=_;rw [flat_len vr_len,List.length_replicate];rfl
  | 2,_,hc =>
   refine ⟨bk,[],rfl,?_,?_⟩
   ·rw [List.append_nil];show m bk=some (Cells (flatL VR.cells (List.replicate _ _)) _);rw [flat_vzero];exact ck
   ·show (flatL VR.cells (List.replicate _ _)).length+0=_;rw [flat_len vr_len,List.length_replicate];rfl
  | j+3,_,hc=>exact absurd rfl hc
 ·rcases hown h1 with ⟨e1,e2⟩ | ⟨e1,e2⟩<;>rcases hown h2 with ⟨f1,f2⟩ | ⟨f1,f2⟩
  ·omega
  ·exact absurd (e2.symm.trans f2) hne
  ·exact absurd (f2.symm.trans e2) hne
  ·omega
 ·rcases hb with hb | ⟨j,_,hb⟩
  ·rw [hb];exact hp
  ·rcases hown hb with ⟨_,e⟩ | ⟨_,e⟩<;>rw [e]<;>assumption
theorem RfAt.pushRow (h:RfAt m0 m V C M sv lw p H s) {bn bx n:Nat} {mx:Mem} {K:Value→Mem→Prop} (hbn:m bn=none) (hle:Mem.le m mx) (hcn:mx bn=some (Cells (List.replicate n [i 0]).flatten T64)) (hx:mx bx=some (Cells [.slice (some ⟨bn,0,none⟩) n n] TRow)) (hl:s.arr.length≤1000000)
  (k:∀ b' c' m',(∀ K':Mem→Prop,(∀ m2 H',RfGoes m0 V C M sv lw p m H s m2 H' { s with arr:=s.arr++[List.replicate n 0] }→K' m2)→WSt m' ((⟨p,0,none⟩:Addr).add 19) [.slice (some ⟨b',0,none⟩) (s.arr.length+1) c'] K')→K (.slice (some ⟨b',0,none⟩) (s.arr.length+1) c') m') :
  WApp mx TRow 1 24 [ns] (H 3).a s.arr.length (H 3).c (some ⟨bx,0,none⟩) 1 K:=by
 have hz:(List.replicate n [i 0]).flatten=(List.replicate n (0:Int)).map i:=mkZeros n
 rw [hz] at hcn
 have hbp:bn≠p:=fun e=>by subst e;rw [h.hp] at hbn;cases hbn
 have hN:famN s=5+s.arr.length:=rfl
 -- the family with the new array's block
 have hF:FamAt mx (famN s+1) tyR szS (H.upd (famN s) ⟨some ⟨bn,0,none⟩,n⟩) (fun j=>if j=famN s then n else numS s j) (fun j=>if j=famN s then (List.replicate n (0:Int)).map i else contR H s j):=by
  have h1:=h.fam.mono hle
  have hty:tyR (famN s)=T64:=by rw [hN,Nat.add_comm];rfl
  have hsz:szS (famN s)=1:=by rw [hN,Nat.add_comm];rfl
  refine ⟨fun j hj=>?_,fun j hj=>?_,fun j hj hc=>?_,fun j k b hj hk hoj hok=>?_⟩
  ·by_cases e:j=famN s
   ·rw [if_pos e,if_pos e,e,hsz];simp
   ·rw [if_neg e,if_neg e];exact h1.len j (by omega)
  ·by_cases e:j=famN s
   ·rw [if_pos e,e,upd_same];exact Nat.le_refl _
   ·rw [if_neg e,upd_other H _ e];exact h1.cap j (by omega)
  ·by_cases e:j=famN s
   ·subst e
    rw [upd_same,if_pos rfl,hty,hsz]
    exact ⟨bn,[],rfl,by rw [List.append_nil];exact hcn,by simp⟩
   ·rw [upd_other H _ e] at hc ⊢
    rw [if_neg e]
    exact h1.blk j (by omega) hc
  ·have key:∀ q,q<famN s→OwnsB (H q) b→OwnsB (H.upd (famN s) ⟨some ⟨bn,0,none⟩,n⟩ (famN s)) b→False:=fun q hq h1' h2'=>by
    rw [upd_same] at h2'
    have:=h2'.2
    cases this
    exact h.free hbn (.inr ⟨q,hq,h1'⟩)
   by_cases e1:j=famN s
   ·by_cases e2:k=famN s
    ·rw [e1,e2]
    ·subst e1;rw [upd_other H _ e2] at hok;exact (key k (by omega) hok hoj).elim
   ·by_cases e2:k=famN s
    ·subst e2;rw [upd_other H _ e1] at hoj;exact (key j (by omega) hoj hok).elim
    ·rw [upd_other H _ e1] at hoj;rw [upd_other H _ e2] at hok
     exact h1.inj j k b (by omega) (by omega) hoj hok
 have n3:(3:Nat)≠famN s:=by omega
 have hH3:(H.upd (famN s) ⟨some ⟨bn,0,none⟩,n⟩) 3=H 3:=upd_other H _ n3
 have happ:=hF.app (k:=3) (bx:=bx) (Tx:=TRow) (n:=s.arr.length) (c:=(H 3).c) (bytes:=24) (a:=(H 3).a) (x:=[.slice (some ⟨bn,0,none⟩) n n]) (zero:=[ns]) (K:=K) (by omega) (by rw [hH3]) (by rw [if_neg n3];rfl) (by rw [hH3]) rfl (by decide) hx rfl rfl
  (by rw [if_neg n3];show (s.arr.length+1) * 24≤_;omega) (fun e=>by
   rw [if_neg n3]
   rw [hH3] at e
   cases hh:s.arr.length with
   | zero=>exact hh
   | succ q =>
    obtain ⟨b,_,hb,_⟩:=h.fam.room (j:=3) (by omega) (show s.arr.length≠0 by omega)
    rw [hb.2] at e;cases e)
 refine happ fun b' c' rest m' hm hc hr hb hx'=>?_
 rw [if_neg n3] at hc hm hr
 rw [hH3] at hb
 have h3N:3<famN s:=by omega
 have hpb:p≠b':=by
  rcases hb with hb | hb
  ·exact ne_free (hle _ _ h.hp) hb
  ·exact fun e=>h.notp ⟨3,h3N,hb⟩ e.symm
 have e1:(if 3=famN s then n else numS s 3)+1=s.arr.length+1:=by rw [if_neg n3];rfl
 rw [e1]
 refine k b' c' m' fun K' hK=>?_
 have hp2:m' p=some (Cells (rfCells V C M sv lw H s) TRf):=by rw [hx' p hpb];exact hle _ _ h.hp
 refine WSt.at _ _ hp2 (show 19+1≤29 by decide) ?_
 generalize hs2:({ s with arr:=s.arr++[List.replicate n 0] }:St)=s2 at hK
 have arr2:s2.arr=s.arr++[List.replicate n 0]:=by rw [← hs2]
 have hN2:famN s2=famN s+1:=by unfold famN;rw [arr2,List.length_append];rfl
 have get2:∀ q,q<s.arr.length→s2.arr.getD q []=s.arr.getD q []:=fun q hq=>by rw [arr2,List.getD_eq_getElem?_getD,List.getElem?_append_left hq,List.getD_eq_getElem?_getD]
 have getN:s2.arr.getD s.arr.length []=List.replicate n 0:=by rw [arr2,List.getD_eq_getElem?_getD,List.getElem?_append_right (Nat.le_refl _),Nat.sub_self];rfl
 generalize hH2:(H.upd (famN s) ⟨some ⟨bn,0,none⟩,n⟩).upd 3 ⟨some ⟨b',0,none⟩,c'⟩=H2
 have h2_3:H2 3=⟨some ⟨b',0,none⟩,c'⟩:=by rw [← hH2,upd_same]
 have h2_N:H2 (famN s)=⟨some ⟨bn,0,none⟩,n⟩:=by rw [← hH2,upd_other _ _ (Ne.symm n3),upd_same]
 have h2_o:∀ j,j≠3→j≠famN s→H2 j=H j:=fun j e1 e2=>by rw [← hH2,upd_other _ _ e1,upd_other _ _ e2]
 have hrows:rowsV H2 s2.arr=rowsV H s.arr++[.slice (some ⟨bn,0,none⟩) n n]:=by
  unfold rowsV
  have:s2.arr.length=s.arr.length+1:=by rw [arr2,List.length_append];rfl
  rw [this,List.range_succ,List.map_append]
  congr 1
  ·apply List.map_congr_left
   intro j hj
   have hj:=List.mem_range.1 hj
   rw [h2_o (j+5) (by omega) (by omega),get2 j hj]
  ·show [Value.slice (H2 (s.arr.length+5)).a (s2.arr.getD s.arr.length []).length (H2 (s.arr.length+5)).c]=_
   rw [getN,show s.arr.length+5=famN s by omega,h2_N,List.length_replicate]
 have hnum:∀ j,j<famN s+1→j≠3→H2 j=(H.upd (famN s) ⟨some ⟨bn,0,none⟩,n⟩) j∧numS s2 j=(if j=famN s then n else numS s j)∧contR H2 s2 j=(if j=famN s then (List.replicate n (0:Int)).map i else contR H s j):=fun j hj e=>by
  by_cases eN:j=famN s
  ·subst eN
   rw [h2_N,upd_same,if_pos rfl,if_pos rfl,hN,Nat.add_comm]
   refine ⟨rfl,?_,?_⟩
   ·show (s2.arr.getD s.arr.length []).length=n;rw [getN,List.length_replicate]
   ·show (s2.arr.getD s.arr.length []).map i=_;rw [getN]
  ·rw [h2_o j e eN,upd_other _ _ eN,if_neg eN,if_neg eN]
   refine ⟨rfl,?_⟩
   rw [← hs2]
   match j,e,hj with
   | 0,_,_=>exact ⟨rfl,rfl⟩
   | 1,_,_=>exact ⟨rfl,rfl⟩
   | 2,_,_=>exact ⟨rfl,rfl⟩
   | 4,_,_=>exact ⟨rfl,rfl⟩
   | j+5,_,hj =>
    have g:=get2 j (by omega)
    rw [← hs2] at g
    exact ⟨by show (List.getD _ j []).length=_;rw [g];rfl,by show (List.getD _ j []).map i=_;rw [g];rfl⟩
 have hcells:spliceL (rfCells V C M sv lw H s) 19 [.slice (some ⟨b',0,none⟩) (s.arr.length+1) c']=rfCells V C M sv lw H2 s2:=by
  have e8:hv H2 s2 3=.slice (some ⟨b',0,none⟩) (s.arr.length+1) c':=by unfold hv;rw [h2_3];show Value.slice _ s2.arr.length _=_;rw [arr2,List.length_append];rfl
  have e0:∀ j,j<5→j≠3→hv H2 s2 j=hv H s j:=fun j h1 h2=>by
   have:=hnum j (by omega) h2
   unfold hv
   rw [h2_o j h2 (by omega),this.2.1,if_neg (by omega)]
  unfold rfCells
  rw [e8,e0 0 (by decide) (by decide),e0 1 (by decide) (by decide),e0 2 (by decide) (by decide),e0 4 (by decide) (by decide),← hs2]
  rfl
 show K' (m'.set p (Cells (spliceL (rfCells V C M sv lw H s) 19 [.slice (some ⟨b',0,none⟩) (s.arr.length+1) c']) TRf))
 rw [hcells]
 generalize hm2:m'.set p (Cells (rfCells V C M sv lw H2 s2) TRf)=m2
 have hfoot:∀ x,FootS p H2 s2 x→FootS p H s x∨m x=none:=fun x hf=>by
  rcases hf with hf | ⟨j,hj,hf⟩
  ·exact .inl (.inl hf)
  ·rw [hN2] at hj
   by_cases e3:j=3
   ·subst e3
    rw [h2_3] at hf
    have:=hf.2
    cases this
    rcases hb with hb | hb
    ·exact .inr (none_of_le hle hb)
    ·exact .inl (.inr ⟨3,h3N,hb⟩)
   ·by_cases eN:j=famN s
    ·subst eN
     rw [h2_N] at hf
     have:=hf.2
     cases this
     exact .inr hbn
    ·rw [h2_o j e3 eN] at hf
     exact .inl (.inr ⟨j,by omega,hf⟩)
 have hkeep:Keep (FootS p H s) m m2:=fun x o hxo hn=>by
  have e1:x≠p:=fun e=>hn (.inl e)
  have e2:x≠b':=fun e=>by
   subst e
   rcases hb with hb | hb
   ·rw [hle _ _ hxo] at hb;cases hb
   ·exact hn (.inr ⟨3,h3N,hb⟩)
  rw [← hm2,Mem.set_other _ _ e1,hx' x e2];exact hle _ _ hxo
 refine hK m2 H2 ⟨⟨by rw [← hm2,Mem.set_same],?_,hkeep.le h.le h.nw,fun x hf=>?_,fun e=>?_,fun e=>?_⟩,hkeep,hfoot⟩
 ·rw [hN2]
  refine hF.put (k:=3) (b:=b') (rest:=rest) (by omega) hnum (by rw [h2_3]) (by rw [hH3];exact hb) ?_ ?_ ?_ ?_ fun x o e hf hxo=>?_
  ·rw [← hm2,Mem.set_other _ _ (Ne.symm hpb)]
   show m' b'=some (Cells (rowsV H2 s2.arr++rest) TRow)
   rw [hrows];exact hm
  ·show (rowsV H2 s2.arr).length=s2.arr.length * 1
   unfold rowsV;simp
  ·rw [h2_3];show s2.arr.length≤c';rw [arr2,List.length_append];exact hc
  ·rw [h2_3];show (rowsV H2 s2.arr).length+rest.length=c' * 1;rw [hrows];exact hr
  ·have e1:x≠p:=by
    rcases hf with ⟨j,hj,hf⟩
    by_cases eN:j=famN s
    ·subst eN
     rw [upd_same] at hf
     have:=hf.2
     cases this
     exact hbp
    ·rw [upd_other _ _ eN] at hf;exact h.notp ⟨j,by omega,hf⟩
   rw [← hm2,Mem.set_other _ _ e1,hx' x e];exact hxo
 ·rcases hfoot x hf with g | g
  ·exact h.nw x g
  ·exact none_of_le h.le g
 ·rw [h2_o 0 (by decide) (by omega)] at e;rw [← hs2];exact h.nil0 e
 ·rw [h2_o 4 (by decide) (by omega)] at e;rw [← hs2];exact h.nil4 e
theorem RfAt.setNum (h:RfAt m0 m V C M sv lw p H s) {r:Nat} (hr:r<s.regs.length) {z:Int} {ad:Addr} {vs:List Value} {K:Mem→Prop} (ha:(H 1).a=some ad) (hv:vs=[i z])
  (k:∀ m',RfGoes m0 V C M sv lw p m H s m' H { s with regs:=s.regs.set r ⟨z,(s.regs.getD r VR.zero).b⟩ }→K m'):WSt m (ad.add (r * 2)) vs K:=by
 subst hv
 obtain ⟨b,rest,hb,hm,hl⟩:=h.fam.room (j:=1) (by unfold famN;omega) (show s.regs.length≠0 by omega)
 rw [hb.2] at ha;cases ha
 have hfl:(contR H s 1).length=s.regs.length * 2:=flat_len vr_len _
 refine WSt.at _ _ hm (by rw [List.length_append,hfl];show r * 2+1≤_;omega) ?_
 have hb1:(contR H s 1++rest)[r * 2+1]? = some (i (s.regs.getD r VR.zero).b):=by
  rw [List.getElem?_append_left (by rw [hfl];omega)]
  show (flatL VR.cells s.regs)[_]? = _
  rw [flat_get vr_len hr (by decide),List.getD_eq_getElem?_getD,List.getElem?_eq_getElem hr];rfl
 have e:spliceL (contR H s 1++rest) (r * 2) [i z]=contR H { s with regs:=s.regs.set r ⟨z,(s.regs.getD r VR.zero).b⟩ } 1++rest:=by
  have e2:=flat_set vr_len hr ⟨z,(s.regs.getD r VR.zero).b⟩ rest
  refine Eq.trans ?_ e2
  show (contR H s 1++rest).set (r * 2) (i z)=((contR H s 1++rest).set (r * 2) (i z)).set (r * 2+1) (i (s.regs.getD r VR.zero).b)
  apply List.ext_getElem? 
  intro q
  rw [List.getElem?_set (i:=r * 2+1)]
  split
  ·rename_i e;subst e
   rw [List.getElem?_set_ne (by omega),hb1,if_pos (by rw [List.length_set,List.length_append,hfl];omega)]
  ·rfl
 rw [e]
 refine k _ (h.put (k:=1) (by unfold famN;omega) hb ?_ rfl (fun j hj e=>?_) ?_ ?_ hl rfl rfl)
 ·unfold rfCells Go.Proofs.YtleofbpepfmfgaaGreatDoor.hv;show _=_
  have:numS { s with regs:=s.regs.set r ⟨z,(s.regs.getD r VR.zero).b⟩ } 1=numS s 1:=List.length_set
  rw [this];rfl
 ·match j,e with
  | 0,_=>exact ⟨rfl,rfl⟩
  | 2,_=>exact ⟨rfl,rfl⟩
  | 3,_=>exact ⟨rfl,rfl⟩
  | 4,_=>exact ⟨rfl,rfl⟩
  | j+5,_=>exact ⟨rfl,rfl⟩
 ·exact List.length_set
 ·show (flatL VR.cells (s.regs.set r _)).length=(flatL VR.cells s.regs).length
  rw [flat_len vr_len,flat_len vr_len,List.length_set]
theorem RfAt.printsAt (h:RfAt m0 m V C M sv lw p H s):IAt m (hv H s 0) s.prints:=by
 refine ⟨(H 0).a,(H 0).c,rfl,h.nil0,fun ad ha=>?_,h.fam.cap 0 (by unfold famN;omega)⟩
 exact h.fam.cellsAt (j:=0) (by unfold famN;omega) ha
end Go.Proofs.YtleofbpepfmfgaaGreatDoor
