import Derived.Test.YtleofbpepfmfgaaGreatDoorVxSimBgn
import Derived.Test.YtleofbpepfmfgaaGreatDoorVxWrd4
set_option linter.unusedSimpArgs false
set_option linter.unusedVariables false
set_option maxRecDepth 100000
namespace Go.Proofs.YtleofbpepfmfgaaGreatDoor
open Go Go.Vx
open Go.Vx.IOp Go.Vx.IR Go.Vx.Opd
theorem clone64_ok {m:Mem} {v:Value} {C:List Int} (hv:IAt m v C) (hlen:C.length ≤ 4398046511104) :
  CallsM Tryz.prog 68 [v] m fun e m'=>∃ A c,e = .returned (.slice A C.length c) ∧ Mem.le m m' ∧ IAt m' (.slice A C.length c) C:=by
 obtain ⟨a,c,rfl,q0,q1,hcap⟩:=hv
 refine calls_of mixed Tryz.func68 ok_slices_Clone_int64_int64 rfl ?_
 conv=>whnf
 cases a with
 | none =>
  have h0:=q0 rfl
  subst h0
  conv=>whnf
  refine Br.mk (fun hb=>?_) (fun hb=>by cases hb)
  conv=>whnf
  exact WRet.same ⟨none,0,rfl,Mem.le.refl _,⟨none,0,rfl,(fun _=>rfl),(fun ad h=>by cases h),Nat.le_refl _⟩⟩
 | some ad =>
  conv=>whnf
  refine Br.mk (fun hb=>by cases hb) (fun hb=>?_)
  conv=>whnf
  refine WNew.mk fun b1 hb1=>?_
  conv=>whnf
  refine WApp.copyB hb1 (A:=some ad) (n:=C.length) rfl rfl (C.map i) ⟨by simp,fun ad' ha=>q1 ad' ha⟩ (fun ha=>by cases ha) (by omega) fun b cb m1 rest hle1 hcb hbm hcells=>?_
  conv=>whnf
  refine WRet.same ⟨_,cb,rfl,hle1,⟨_,cb,rfl,(fun h=>by cases h),fun ad' ha=>?_,hcb⟩⟩
  cases ha
  exact CellsAt.blk hcells fun q v hq=>by rw [Nat.zero_add,List.getElem?_append_left (List.getElem?_eq_some_iff.1 hq).1];exact hq
def OutAt (m:Mem) (v:Value) (P:List Int) (kd n:Int):Prop:=∃ A c,v = .agg ⟨[.slice A P.length c,i kd,i n]⟩ ∧ IAt m (.slice A P.length c) P
theorem OutAt.mono {m m':Mem} {v:Value} {P:List Int} {kd n:Int} (h:OutAt m v P kd n) (hle:Mem.le m m'):OutAt m' v P kd n:=by
 obtain ⟨A,c,h1,h2⟩:=h;exact ⟨A,c,h1,h2.mono hle⟩
section
variable {m0 m m':Mem} {V:CV} {C:CodeR} {M:Mac} {sv:Value} {p:Nat} {H:HdF} {s s':St} {sh:List Int}
theorem SimAt.printsAt (h:SimAt m0 m V C M sv p H s):IAt m (hv H s 0) s.prints:=by
 refine ⟨(H 0).a,(H 0).c,rfl,h.nil0,fun ad ha=>?_,h.fam.cap 0 (by unfold famN;omega)⟩
 exact h.fam.cellsAt (j:=0) (by unfold famN;omega) ha
theorem outcome_ok (h:SimAt m0 m V C M sv p H s) (hl:s.prints.length ≤ 1000000000) :
  CallsM Tryz.prog 49 [ptr p] m fun e m'=>∃ v,e = .returned v ∧ Mem.le m m' ∧ OutAt m' v s.prints s.kind s.value:=by
 refine calls_of mixed Tryz.func49 ok_sim_Sim_outcome rfl ?_
 conv=>whnf
 refine WLd.mk (hv H s 0) (by rw [add_add];exact h.cell rfl) ?_
 conv=>whnf
 refine WLd.mk (i s.kind) (by rw [add_add];exact h.cell rfl) ?_
 conv=>whnf
 refine WLd.mk (i s.value) (by rw [add_add];exact h.cell rfl) ?_
 conv=>whnf
 refine ⟨?_,trivial⟩
 conv=>whnf
 refine WCallG.mk (clone64_ok h.printsAt (by omega)) ?_
 rintro _ m1 ⟨A,c,rfl,l1,hI⟩
 refine ⟨l1,?_⟩
 conv=>whnf
 refine ⟨?_,trivial⟩
 conv=>whnf
 exact WRet.same ⟨_,rfl,l1,A,c,rfl,hI⟩
end
def canS (C:CodeR) (M:Mac) (al:Nat) (n:Int) (sl:Nat):Int :=
 if fitsCode C M ≠ 0 then fitsCode C M else if ((al:Int) != C.pr || decide (n < 0) || decide (n > 4194304)) = true then 2 else if (sl:Int) > 1000 then 3 else 0
theorem can_ok {m:Mem} {T:Nat} {fr:Nat × Nat} (hm:m 0 = some (.cells ⟨cells0⟩ T fr)) (V:CV) {C:CodeR} (M:Mac) (hV:CodeAt m V C) {aa sa:Option Addr} {al ca sl cs:Nat} (n:Int) :
  CallsM Tryz.prog 46 [V.val C,M.val,.slice aa al ca,i n,.slice sa sl cs] m fun e m'=>e = .returned (i (canS C M al n sl)) ∧ Mem.le m m':=by
 refine calls_of mixed Tryz.func46 ok_sim_Can rfl ?_
 conv=>whnf
 refine WCall.mk (wFits_ok hm V hV M) ?_
 rintro _ m1 ⟨rfl,l1⟩
 conv=>whnf
 refine Br.mk (fun h0=>?_) (fun h0=>?_)
 ·have h0:fitsCode C M ≠ 0:=by simpa using h0
  conv=>whnf
  exact WRet.same ⟨by unfold canS;rw [if_pos h0];rfl,l1⟩
 ·have h0:¬ fitsCode C M ≠ 0:=by simpa using h0
  conv=>whnf
  refine WSc.mk (v:=decide (n < 0)) (fun _=>And.intro (Mem.le.refl _) rfl) ?_
  conv=>whnf
  refine WSc.mk (v:=decide (n > 4194304)) (fun _=>And.intro (Mem.le.refl _) rfl) ?_
  conv=>whnf
  refine Br.mk (fun h1=>?_) (fun h1=>?_)
  ·have h1:((al:Int) != C.pr || decide (n < 0) || decide (n > 4194304)) = true:=h1
   conv=>whnf
   exact WRet.same ⟨by unfold canS;rw [if_neg h0,if_pos h1];rfl,l1⟩
  ·have h1:¬ ((al:Int) != C.pr || decide (n < 0) || decide (n > 4194304)) = true:=by
    have h1:((al:Int) != C.pr || decide (n < 0) || decide (n > 4194304)) = false:=h1
    rw [h1];decide
   conv=>whnf
   refine Br.mk (fun h2=>?_) (fun h2=>?_)
   ·have h2:(sl:Int) > 1000:=of_decide_eq_true h2
    conv=>whnf
    exact WRet.same ⟨by unfold canS;rw [if_neg h0,if_neg h1,if_pos h2];rfl,l1⟩
   ·have h2:¬ (sl:Int) > 1000:=of_decide_eq_false h2
    conv=>whnf
    exact WRet.same ⟨by unfold canS;rw [if_neg h0,if_neg h1,if_neg h2];rfl,l1⟩
theorem fits_ok3 {C:CodeR} {M:Mac} (h:fitsCode C M = 0):CodeOK C ∧ M.ok = true:=by
 unfold fitsCode at h
 split at h
 ·rename_i h1;exact absurd h h1
 ·rename_i h1
  split at h
  ·cases h
  ·rename_i h2
   exact ⟨checkCode_ok (by simpa using h1),by simpa using h2⟩
theorem can_zero {C:CodeR} {M:Mac} {al sl:Nat} {n:Int} (h:canS C M al n sl = 0):CodeOK C ∧ M.ok = true ∧ (al:Int) = C.pr ∧ 0 ≤ n ∧ n ≤ 4194304 ∧ sl ≤ 1000:=by
 unfold canS at h
 split at h
 ·rename_i h1;exact absurd h h1
 ·rename_i h1
  split at h
  ·cases h
  ·rename_i h2
   split at h
   ·cases h
   ·rename_i h3
    obtain ⟨a,b⟩:=fits_ok3 (Decidable.not_not.1 h1)
    simp only [Bool.or_eq_true,bne_iff_ne,ne_eq,decide_eq_true_eq,not_or,Decidable.not_not] at h2
    exact ⟨a,b,by omega,by omega,by omega,by omega⟩
theorem begin_good {C:CodeR} (hC:CodeOK C) {args:List Int} (hal:args.length ≤ C.rg.toNat):Good C (beginS C args) 0:=by
 have hwl:=hC.wl
 refine ⟨⟨?_,?_,?_,(fun w hw=>by cases hw),fun v hv=>?_,fun v hv=>?_⟩,by show 0 < _;omega,⟨Nat.le_refl _,Nat.le_refl _,Nat.le_refl _,Nat.le_refl _⟩⟩
 ·show (argsS C args).length = _;exact args_len hal
 ·show (List.replicate _ _).length = _;exact List.length_replicate
 ·show (C.sz.map fun n=>List.replicate n.toNat 0).map List.length = _
  rw [List.map_map]
  apply List.map_congr_left
  intro n _
  simp
 ·rcases List.mem_append.1 hv with h | h
  ·obtain ⟨n,_,rfl⟩:=List.mem_map.1 h;exact .inl rfl
  ·rw [(List.mem_replicate.1 h).2];exact VR.zero_ok
 ·rw [(List.mem_replicate.1 hv).2];exact VR.zero_ok
def outZ:Value:=.agg ⟨[ns,i 0,i 0]⟩
def RunPost (m:Mem) (C:CodeR) (M:Mac) (sh args:List Int) (n:Int) (e:Ending) (m':Mem):Prop :=
 Mem.le m m' ∧ (canS C M args.length n sh.length ≠ 0 → e = .returned (.tuple ⟨[outZ,i 0,i (canS C M args.length n sh.length)]⟩)) ∧
  (canS C M args.length n sh.length = 0 → ∃ v,e = .returned (.tuple ⟨[v,i ((runS C M sh n.toNat (beginS C args)).took:Int),i 0]⟩) ∧ OutAt m' v (runS C M sh n.toNat (beginS C args)).prints (runS C M sh n.toNat (beginS C args)).kind (runS C M sh n.toNat (beginS C args)).value)
theorem simRun_ok {m:Mem} {T:Nat} {fr:Nat × Nat} (hm:m 0 = some (.cells ⟨cells0⟩ T fr)) (V:CV) {C:CodeR} (M:Mac) (hV:CodeAt m V C) {aa sa:Option Addr} {ca cs:Nat} {args sh:List Int}
  (hargs:IAt m (.slice aa args.length ca) args) (hsh:IAt m (.slice sa sh.length cs) sh) (n:Int) (hn:n ≤ 100000 ∨ n > 4194304) :
  CallsM Tryz.prog 17 [V.val C,M.val,.slice aa args.length ca,i n,.slice sa sh.length cs] m (RunPost m C M sh args n):=by
 refine calls_of mixed Tryz.func17 ok_sim_Run rfl ?_
 conv=>whnf
 refine WCall.mk (can_ok hm V M hV (al:=args.length) (sl:=sh.length) n) ?_
 rintro _ m1 ⟨rfl,l1⟩
 conv=>whnf
 refine Br.mk (fun h0=>?_) (fun h0=>?_)
 ·have h0:canS C M args.length n sh.length ≠ 0:=by
   have h0:(canS C M args.length n sh.length != 0) = true:=h0
   simpa using h0
  conv=>whnf
  exact WRet.same ⟨l1,fun _=>rfl,fun h=>absurd h h0⟩
 ·have h0:canS C M args.length n sh.length = 0:=by
   have h0:(canS C M args.length n sh.length != 0) = false:=h0
   simpa using h0
  obtain ⟨hC,hM,hal,hn0,hn1,hsl⟩:=can_zero h0
  have hpr:=hC.pr
  conv=>whnf
  refine WCall.mk (begin_ok V (hV.mono l1) hC hM (l1 _ _ hm) (hargs.mono l1) (by omega) (hsh.mono l1) hsl) ?_
  rintro _ m2 ⟨p,m1',V1,sv,H,rfl,l2,hB,hS⟩
  have L2:Mem.le m m2:=l1.trans (l2.trans hS.le)
  have hcast:((n.toNat:Nat):Int) = n:=by omega
  have hfor:=for_ok hS hB (begin_good hC (args:=args) (by omega)) n.toNat (by omega)
  rw [hcast] at hfor
  have hgood:=Good.run (M:=M) (sh:=sh) hC (n:=n.toNat) (begin_good hC (args:=args) (by omega))
  conv=>whnf
  refine WCall.mk hfor ?_
  rintro _ m3 ⟨rfl,H3,G3⟩
  have L3:Mem.le m m3:=l1.trans (l2.trans G3.at'.le)
  have h3:=G3.at'
  have hlim:=hgood.lim
  have htk:∀ {m':Mem},Mem.le m3 m' → CellAt m' (((⟨p,0,none⟩:Addr).add 0).add 1) (i ((runS C M sh n.toNat (beginS C args)).took:Int)):=fun hle=>by rw [add_add];exact (h3.mono hle).cell rfl
  have hout:=outcome_ok h3 (by have:=hlim.prints;omega)
  have fin:∀ {m4:Mem} {v:Value},Mem.le m3 m4 → OutAt m4 v (runS C M sh n.toNat (beginS C args)).prints (runS C M sh n.toNat (beginS C args)).kind (runS C M sh n.toNat (beginS C args)).value →
    RunPost m C M sh args n (.returned (.tuple ⟨[v,i ((runS C M sh n.toNat (beginS C args)).took:Int),i 0]⟩)) m4:=fun hle ho=>⟨L3.trans hle,fun h=>absurd h0 h,fun _=>⟨_,rfl,ho⟩⟩
  conv=>whnf
  refine ⟨?_,?_,trivial⟩
  ·conv=>whnf
   refine WCallG.mk hout ?_
   rintro _ m4 ⟨_,rfl,l4,A,c,rfl,hI⟩
   refine ⟨l4,?_⟩
   conv=>whnf
   refine ⟨?_,?_,trivial⟩
   ·conv=>whnf
    refine WLd.mk _ (htk l4) ?_
    conv=>whnf
    refine ⟨?_,trivial⟩
    conv=>whnf
    exact WRet.same (fin l4 ⟨A,c,rfl,hI⟩)
   ·conv=>whnf
    refine WLd.mk _ (htk l4) ?_
    conv=>whnf
    exact WRet.same (fin l4 ⟨A,c,rfl,hI⟩)
  ·conv=>whnf
   refine WLd.mk _ (htk (Mem.le.refl _)) ?_
   conv=>whnf
   refine ⟨?_,trivial⟩
   conv=>whnf
   refine WCallG.mk hout ?_
   rintro _ m4 ⟨_,rfl,l4,A,c,rfl,hI⟩
   refine ⟨l4,?_⟩
   conv=>whnf
   refine ⟨?_,trivial⟩
   conv=>whnf
   exact WRet.same (fin l4 ⟨A,c,rfl,hI⟩)
def startS (C:CodeR) (M:Mac) (al sl:Nat):Int:=if fitsCode C M ≠ 0 then fitsCode C M else if (al:Int) ≠ C.pr then 2 else if (sl:Int) > 1000 then 3 else 0
def StartPost (m:Mem) (C:CodeR) (M:Mac) (sh args:List Int) (e:Ending) (m':Mem):Prop :=
 Mem.le m m' ∧ (startS C M args.length sh.length ≠ 0 → e = .returned (.tuple ⟨[np,i (startS C M args.length sh.length)]⟩)) ∧
  (startS C M args.length sh.length = 0 → ∃ p m1 V sv H,e = .returned (.tuple ⟨[ptr p,i 0]⟩) ∧ Mem.le m m1 ∧ SimBase m1 V C M sv sh ∧ SimAt m1 m' V C M sv p H (beginS C args))
theorem start_zero {C:CodeR} {M:Mac} {al sl:Nat} (h:startS C M al sl = 0):CodeOK C ∧ M.ok = true ∧ (al:Int) = C.pr ∧ sl ≤ 1000:=by
 unfold startS at h
 split at h
 ·rename_i h1;exact absurd h h1
 ·rename_i h1
  split at h
  ·cases h
  ·rename_i h2
   split at h
   ·cases h
   ·rename_i h3
    obtain ⟨a,b⟩:=fits_ok3 (Decidable.not_not.1 h1)
    exact ⟨a,b,by omega,by omega⟩
theorem simStart_ok {m:Mem} {T:Nat} {fr:Nat × Nat} (hm:m 0 = some (.cells ⟨cells0⟩ T fr)) (V:CV) {C:CodeR} (M:Mac) (hV:CodeAt m V C) {aa sa:Option Addr} {ca cs:Nat} {args sh:List Int}
  (hargs:IAt m (.slice aa args.length ca) args) (hsh:IAt m (.slice sa sh.length cs) sh) :
  CallsM Tryz.prog 29 [V.val C,M.val,.slice aa args.length ca,.slice sa sh.length cs] m (StartPost m C M sh args):=by
 refine calls_of mixed Tryz.func29 ok_sim_Start rfl ?_
 conv=>whnf
 refine WCall.mk (wFits_ok hm V hV M) ?_
 rintro _ m1 ⟨rfl,l1⟩
 conv=>whnf
 refine Br.mk (fun h0=>?_) (fun h0=>?_)
 ·have h0:fitsCode C M ≠ 0:=by simpa using h0
  have e:startS C M args.length sh.length = fitsCode C M:=by unfold startS;rw [if_pos h0]
  conv=>whnf
  refine WRet.same ⟨l1,fun _=>?_,fun h=>absurd (e.symm.trans h) h0⟩
  rw [e];rfl
 ·have h0:¬ fitsCode C M ≠ 0:=by simpa using h0
  conv=>whnf
  refine Br.mk (fun h1=>?_) (fun h1=>?_)
  ·have h1:(args.length:Int) ≠ C.pr:=by
    have h1:((args.length:Int) != C.pr) = true:=h1
    simpa using h1
   have e:startS C M args.length sh.length = 2:=by unfold startS;rw [if_neg h0,if_pos h1]
   conv=>whnf
   refine WRet.same ⟨l1,fun _=>?_,fun h=>absurd (e.symm.trans h) (by decide)⟩
   rw [e];rfl
  ·have h1:¬ (args.length:Int) ≠ C.pr:=by
    have h1:((args.length:Int) != C.pr) = false:=h1
    simpa using h1
   conv=>whnf
   refine Br.mk (fun h2=>?_) (fun h2=>?_)
   ·have h2:(sh.length:Int) > 1000:=of_decide_eq_true h2
    have e:startS C M args.length sh.length = 3:=by unfold startS;rw [if_neg h0,if_neg h1,if_pos h2]
    conv=>whnf
    refine WRet.same ⟨l1,fun _=>?_,fun h=>absurd (e.symm.trans h) (by decide)⟩
    rw [e];rfl
   ·have h2:¬ (sh.length:Int) > 1000:=of_decide_eq_false h2
    have e:startS C M args.length sh.length = 0:=by unfold startS;rw [if_neg h0,if_neg h1,if_neg h2]
    obtain ⟨hC,hM,hal,hsl⟩:=start_zero e
    have hpr:=hC.pr
    conv=>whnf
    refine WCall.mk (begin_ok V (hV.mono l1) hC hM (l1 _ _ hm) (hargs.mono l1) (by omega) (hsh.mono l1) hsl) ?_
    rintro _ m2 ⟨p,m1',V1,sv,H,rfl,l2,hB,hS⟩
    conv=>whnf
    exact WRet.same ⟨l1.trans (l2.trans hS.le),fun h=>absurd e h,fun _=>⟨p,m1',V1,sv,H,rfl,l1.trans l2,hB,hS⟩⟩
section
variable {m0 m m':Mem} {V:CV} {C:CodeR} {M:Mac} {sv:Value} {p:Nat} {H:HdF} {s s':St} {sh:List Int}
theorem sRun_ok (h:SimAt m0 m V C M sv p H s) (hB:SimBase m0 V C M sv sh) {k:Nat} (hG:Good C s k) (n:Nat) (hn:k + 401 * n ≤ 900000000) (hn2:n ≤ 100000) (ht:s.took ≤ 4194304) :
  CallsM Tryz.prog 30 [ptr p,i (n:Int)] m fun e m'=>∃ H' v,Goes m0 V C M sv p m H s m' H' (runS C M sh n s) ∧ e = .returned (.tuple ⟨[v,.bool (runS C M sh n s).ended,i 0]⟩) ∧
   OutAt m' v (runS C M sh n s).prints (runS C M sh n s).kind (runS C M sh n s).value:=by
 refine calls_of mixed Tryz.func30 ok_sim_Sim_Run rfl ?_
 conv=>whnf
 refine WCall.pure (simNone_ok h hB) ?_
 conv=>whnf
 refine Br.mk (fun hh=>by cases hh) (fun _=>?_)
 conv=>whnf
 refine WSc.mk (v:=decide ((n:Int) > 4194304)) (fun _=>And.intro (Mem.le.refl _) rfl) ?_
 conv=>whnf
 refine Br.mk (fun hh=>?_) (fun _=>?_)
 ·have hh:(decide ((n:Int) < 0) || decide ((n:Int) > 4194304)) = true:=hh
  simp only [Bool.or_eq_true,decide_eq_true_eq] at hh
  omega
 conv=>whnf
 refine WLd.mk (i (s.took:Int)) (by rw [add_add];exact h.cell rfl) ?_
 conv=>whnf
 refine Br.mk (fun hh=>?_) (fun _=>?_)
 ·have hh:(s.took:Int) > 4194304:=of_decide_eq_true hh
  omega
 conv=>whnf
 refine WCall.mk (for_ok h hB hG n hn) ?_
 rintro _ m3 ⟨rfl,H3,G3⟩
 have h3:=G3.at'
 have hgood:=Good.run (M:=M) (sh:=sh) hB.ok (n:=n) hG
 have hlim:=hgood.lim
 have hwd:∀ {m':Mem},Mem.le m3 m' → CellAt m' (((⟨p,0,none⟩:Addr).add 0).add 0) (i (wordV (runS C M sh n s))):=fun hle=>by rw [add_add];exact (h3.mono hle).cell rfl
 have hout:=outcome_ok h3 (by have:=hlim.prints;omega)
 have hend:decide (wordV (runS C M sh n s) < 0) = (runS C M sh n s).ended:=by
  unfold wordV
  cases (runS C M sh n s).ended with
  | true=>rfl
  | false=>rw [if_neg (by decide)];exact decide_eq_false (by omega)
 have fin:∀ {m4:Mem} {v:Value},Mem.le m3 m4 → OutAt m4 v (runS C M sh n s).prints (runS C M sh n s).kind (runS C M sh n s).value →
   ∃ H' v',Goes m0 V C M sv p m H s m4 H' (runS C M sh n s) ∧ Ending.returned (.tuple ⟨[v,.bool (decide (wordV (runS C M sh n s) < 0)),i 0]⟩) = .returned (.tuple ⟨[v',.bool (runS C M sh n s).ended,i 0]⟩) ∧
   OutAt m4 v' (runS C M sh n s).prints (runS C M sh n s).kind (runS C M sh n s).value:=fun {m4 v} hle ho=>⟨H3,v,G3.trans (h3.goesMono hle),by rw [hend],ho⟩
 conv=>whnf
 refine ⟨?_,?_,trivial⟩
 ·conv=>whnf
  refine WCallG.mk hout ?_
  rintro _ m4 ⟨_,rfl,l4,A,c,rfl,hI⟩
  refine ⟨l4,?_⟩
  conv=>whnf
  refine ⟨?_,?_,trivial⟩
  ·conv=>whnf
   refine WLd.mk _ (hwd l4) ?_
   conv=>whnf
   refine ⟨?_,trivial⟩
   conv=>whnf
   exact WRet.same (fin l4 ⟨A,c,rfl,hI⟩)
  ·conv=>whnf
   refine WLd.mk _ (hwd l4) ?_
   conv=>whnf
   exact WRet.same (fin l4 ⟨A,c,rfl,hI⟩)
 ·conv=>whnf
  refine WLd.mk _ (hwd (Mem.le.refl _)) ?_
  conv=>whnf
  refine ⟨?_,trivial⟩
  conv=>whnf
  refine WCallG.mk hout ?_
  rintro _ m4 ⟨_,rfl,l4,A,c,rfl,hI⟩
  refine ⟨l4,?_⟩
  conv=>whnf
  refine ⟨?_,trivial⟩
  conv=>whnf
  exact WRet.same (fin l4 ⟨A,c,rfl,hI⟩)
theorem sSettle_ok (h:SimAt m0 m V C M sv p H s) (hB:SimBase m0 V C M sv sh) {k:Nat} (hG:Good C s k) (hk:k ≤ 900000000) :
  CallsM Tryz.prog 32 [ptr p] m fun e m'=>e = .returned (i 0) ∧ ∃ H',Goes m0 V C M sv p m H s m' H' (settleS s):=by
 refine calls_of mixed Tryz.func32 ok_sim_Sim_Settle rfl ?_
 conv=>whnf
 refine WCall.pure (simNone_ok h hB) ?_
 conv=>whnf
 refine Br.mk (fun hh=>by cases hh) (fun _=>?_)
 conv=>whnf
 refine WCall.mk (settle_ok2 h (fun w hw=>by rw [hG.ok.regs];exact (hG.ok.way w hw).1) (by have:=hG.lim.way;omega)) ?_
 rintro _ m2 ⟨rfl,G⟩
 conv=>whnf
 exact WRet.same ⟨rfl,_,G⟩
theorem sOnWay_ok (h:SimAt m0 m V C M sv p H s) (hB:SimBase m0 V C M sv sh):PureM Tryz.prog 42 [ptr p] m (i (s.way.length:Int)):=by
 refine calls_of mixed Tryz.func42 ok_sim_Sim_OnWay rfl ?_
 conv=>whnf
 refine WCall.pure (simNone_ok h hB) ?_
 conv=>whnf
 refine Br.mk (fun hh=>by cases hh) (fun _=>?_)
 conv=>whnf
 refine WLd.mk (hv H s 4) (h.cell rfl) ?_
 conv=>whnf
 exact WRet.same ⟨rfl,rfl⟩
theorem sReg_ok (h:SimAt m0 m V C M sv p H s) (hB:SimBase m0 V C M sv sh) (r:Int) :
  PureM Tryz.prog 39 [ptr p,i r] m (if 0 ≤ r ∧ r < s.regs.length then .tuple ⟨[(s.reg r).val,i 0]⟩ else .tuple ⟨[VR.zero.val,i 2]⟩):=by
 refine calls_of mixed Tryz.func39 ok_sim_Sim_Reg rfl ?_
 conv=>whnf
 refine WCall.pure (simNone_ok h hB) ?_
 conv=>whnf
 refine Br.mk (fun hh=>by cases hh) (fun _=>?_)
 conv=>whnf
 refine WSc.mk (v:=decide (r ≥ (s.regs.length:Int))) (fun _=>?_) ?_
 ·conv=>whnf
  refine WLd.mk (hv H s 1) (by rw [add_add];exact h.cell rfl) ?_
  conv=>whnf
  exact And.intro (Mem.le.refl _) rfl
 conv=>whnf
 refine Br.mk (fun hh=>?_) (fun hh=>?_)
 ·have hh:(decide (r < 0) || decide (r ≥ (s.regs.length:Int))) = true:=hh
  simp only [Bool.or_eq_true,decide_eq_true_eq] at hh
  rw [if_neg (by omega)]
  conv=>whnf
  exact WRet.same ⟨rfl,rfl⟩
 ·have hh:(decide (r < 0) || decide (r ≥ (s.regs.length:Int))) = false:=hh
  simp only [Bool.or_eq_false_iff,decide_eq_false_iff_not] at hh
  rw [if_pos (by omega)]
  have hr:r.toNat < s.regs.length:=by omega
  obtain ⟨ar,har,hc⟩:=h.regCells hr
  conv=>whnf
  refine WLd.mk (hv H s 1) (by rw [add_add];exact h.cell rfl) ?_
  conv=>whnf
  refine WIdx.mk ar har ⟨by omega,by show r < (s.regs.length:Nat);omega⟩ ?_
  conv=>whnf
  refine WLds.mk _ hc rfl ?_
  conv=>whnf
  exact WRet.same ⟨rfl,rfl⟩
end
end Go.Proofs.YtleofbpepfmfgaaGreatDoor
