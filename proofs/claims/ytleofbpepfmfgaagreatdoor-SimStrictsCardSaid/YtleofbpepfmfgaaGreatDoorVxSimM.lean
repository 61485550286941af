import Derived.Test.YtleofbpepfmfgaaGreatDoorVxSimE
set_option linter.unusedSimpArgs false
set_option linter.unusedVariables false
set_option maxRecDepth 100000
namespace Go.Proofs.YtleofbpepfmfgaaGreatDoor
open Go Go.Vx
open Go.Vx.IOp Go.Vx.IR Go.Vx.Opd
structure FB where
 w:Nat
 z:Nat
 zb:Nat
 zc:Nat
 d:Nat
 o:Nat
 a3:Option Addr
 c3:Nat
 n:Nat
 nb:Nat
 nc:Nat
structure FromAt (m0 m:Mem) (V:CV) (C:CodeR) (M:Mac) (B:FB) (n:Nat) (S:Wt) (d:Nat) (now:List Nat):Prop where
 wt:WtAt m V C M S
 bw:m B.w = some (Cells [ptr S.p] 111)
 bz:m B.z = some (Cells [.slice (some ⟨B.zb,0,none⟩) C.rg.toNat B.zc] TR)
 zb:R8 m B.zb (zerosW C)
 bd:m B.d = some (Cells [i d] 3)
 bo:m B.o = some (Cells [.slice B.a3 n B.c3] 101)
 bn:m B.n = some (Cells [.slice (some ⟨B.nb,0,none⟩) C.rg.toNat B.nc] TR)
 nb:R8 m B.nb now
 nf:∀ b,(b = B.w ∨ b = B.z ∨ b = B.zb ∨ b = B.d ∨ b = B.o ∨ b = B.n ∨ b = B.nb) → ¬ S.foot b
 ne:B.nb ≠ B.zb
 le:Mem.le m0 m
 new:(∀ b,S.foot b → m0 b = none) ∧ m0 B.d = none ∧ m0 B.nb = none
theorem cell1 {m:Mem} {b:Nat} {v:Value} {T:TypeId} (h:m b = some (Cells [v] T)):CellAt m ⟨b,0,none⟩ v:=⟨_,_,_,h,rfl,rfl⟩
section
variable {m0 m m':Mem} {V:CV} {C:CodeR} {M:Mac} {B:FB} {n:Nat} {S:Wt} {d:Nat} {now:List Nat}
theorem FromAt.mono (h:FromAt m0 m V C M B n S d now) (hle:Mem.le m m'):FromAt m0 m' V C M B n S d now :=
 ⟨h.wt.mono hle,hle _ _ h.bw,hle _ _ h.bz,h.zb.mono hle,hle _ _ h.bd,hle _ _ h.bo,hle _ _ h.bn,h.nb.mono hle,h.nf,h.ne,h.le.trans hle,h.new⟩
theorem FromAt.setNow (h:FromAt m0 m V C M B n S d now) {now':List Nat} {rest:List Value}:FromAt m0 (m.set B.nb (Cells (now'.map v8 ++ rest) 117)) V C M B n S d now':=by
 obtain ⟨r0,hr0⟩:=h.nb
 have oth:∀ {b:Nat} {l:List Value} {T:TypeId},m b = some (Cells l T) → T ≠ 117 → m.set B.nb (Cells (now'.map v8 ++ rest) 117) b = some (Cells l T):=fun hb hT=>by
  rw [Mem.set_other _ _ (ne_type hb hr0 hT)];exact hb
 refine ⟨h.wt.same fun b o hf hb=>?_,oth h.bw (by decide),oth h.bz (by decide),?_,oth h.bd (by decide),oth h.bo (by decide),oth h.bn (by decide),⟨rest,Mem.set_same _ _ _⟩,h.nf,h.ne,le_setn h.le h.new.2.2,h.new⟩
 ·rw [Mem.set_other _ _ (fun e=>by subst e;exact h.nf B.nb (by simp) hf)];exact hb
 ·obtain ⟨r,hr⟩:=h.zb
  exact ⟨r,by rw [Mem.set_other _ _ (fun e=>h.ne e.symm)];exact hr⟩
theorem FromAt.setD (h:FromAt m0 m V C M B n S d now) {d':Nat}:FromAt m0 (m.set B.d (Cells [i d'] 3)) V C M B n S d' now:=by
 have oth:∀ {b:Nat} {l:List Value} {T:TypeId},m b = some (Cells l T) → T ≠ 3 → m.set B.d (Cells [i d'] 3) b = some (Cells l T):=fun hb hT=>by
  rw [Mem.set_other _ _ (ne_type hb h.bd hT)];exact hb
 refine ⟨h.wt.same fun b o hf hb=>?_,oth h.bw (by decide),oth h.bz (by decide),?_,Mem.set_same _ _ _,oth h.bo (by decide),oth h.bn (by decide),?_,h.nf,h.ne,le_setn h.le h.new.2.1,h.new⟩
 ·rw [Mem.set_other _ _ (fun e=>by subst e;exact h.nf B.d (by simp) hf)];exact hb
 ·obtain ⟨r,hr⟩:=h.zb
  exact ⟨r,oth hr (by decide)⟩
 ·obtain ⟨r,hr⟩:=h.nb
  exact ⟨r,oth hr (by decide)⟩
theorem FromAt.meet (h:FromAt m0 m V C M B n S d now) {S':Wt} (hS:WtAt m' V C M S') (hp:S'.p = S.p) (hk:Keep S.foot m m') (hf:∀ b,S'.foot b → S.foot b ∨ m b = none):FromAt m0 m' V C M B n S' d now:=by
 have k:∀ {b:Nat} {o:Obj},m b = some o → (b = B.w ∨ b = B.z ∨ b = B.zb ∨ b = B.d ∨ b = B.o ∨ b = B.n ∨ b = B.nb) → m' b = some o:=fun hb hh=>hk _ _ hb (h.nf _ hh)
 refine ⟨hS,by rw [hp];exact k h.bw (by simp),k h.bz (by simp),?_,k h.bd (by simp),k h.bo (by simp),k h.bn (by simp),?_,fun b hb hff=>?_,h.ne,hk.le h.le h.new.1,fun b hb=>?_,h.new.2⟩
 ·obtain ⟨r,hr⟩:=h.zb;exact ⟨r,k hr (by simp)⟩
 ·obtain ⟨r,hr⟩:=h.nb;exact ⟨r,k hr (by simp)⟩
 ·rcases hf b hff with h1 | h1
  ·exact h.nf b hb h1
  ·obtain ⟨r1,hr1⟩:=h.zb
   obtain ⟨r2,hr2⟩:=h.nb
   rcases hb with e | e | e | e | e | e | e <;> subst e
   ·rw [h.bw] at h1;cases h1
   ·rw [h.bz] at h1;cases h1
   ·rw [hr1] at h1;cases h1
   ·rw [h.bd] at h1;cases h1
   ·rw [h.bo] at h1;cases h1
   ·rw [h.bn] at h1;cases h1
   ·rw [hr2] at h1;cases h1
 ·rcases hf b hb with h1 | h1
  ·exact h.new.1 b h1
  ·exact none_of_le h.le h1
end
theorem op_at {m0 m:Mem} {ops:List OpR} {a3:Option Addr} {c3:Nat} (hO:OAt m0 (.slice a3 ops.length c3) ops) (hle:Mem.le m0 m) {j:Nat} (hj:j < ops.length) :
  ∃ ad,a3 = some ad ∧ CellsAt m (ad.add (j * 7)) (ops[j]).cells:=by
 obtain ⟨a,c,e,h0,h1,h2⟩:=hO
 injection e with e1 _ e2
 subst e1
 cases a3 with
 | none=>rw [h0 rfl] at hj;simp at hj
 | some ad=>exact ⟨ad,rfl,OAt.cells ((h1 ad rfl).mono hle) hj⟩
theorem wr_get (o:OpR) (h:uD o.kd = true):wrS o = some o.ds.toNat:=by unfold wrS;rw [if_pos h]
theorem wr_none (o:OpR) (h:uD o.kd = false):wrS o = none:=by unfold wrS;rw [if_neg (by rw [h];decide)]
theorem max8 (a b:Nat):(if (b:Int) > (a:Int) then (b:Int) else (a:Int)) = ((max a b:Nat):Int):=by split <;> omega
theorem dec8 {n:Nat} (h:n ≤ 8):(if (0:Int) > IntKind.i8.wrap ((n:Int) - 1) then (0:Int) else IntKind.i8.wrap ((n:Int) - 1)) = ((n - 1:Nat):Int):=by
 have:n = 0 ∨ n = 1 ∨ n = 2 ∨ n = 3 ∨ n = 4 ∨ n = 5 ∨ n = 6 ∨ n = 7 ∨ n = 8:=by omega
 rcases this with rfl | rfl | rfl | rfl | rfl | rfl | rfl | rfl | rfl <;> rfl
set_option maxHeartbeats 4000000 in
theorem from1_ok {m0 m:Mem} {T:Nat} {fr:Nat × Nat} (hm0:m0 0 = some (.cells ⟨cells0⟩ T fr)) {V:CV} {C:CodeR} {M:Mac} {B:FB} {ops:List OpR} {w0:List Nat} {S:Wt} {d:Nat} (hF:FromAt m0 m V C M B ops.length S d (nowAt M ops w0 d))
  (hM:M.ok = true) (hO:OAt m0 (.slice B.a3 ops.length B.c3) ops) (hol:ops.length ≤ 400) (hops:∀ o ∈ ops,OpOK C o) (hrg:1 ≤ C.rg ∧ C.rg ≤ 4096) (hw0l:w0.length = C.rg.toNat) (hw0:∀ x ∈ w0,x ≤ 8) {y:WayY} (hto:0 ≤ y.1 ∧ y.1.toNat < S.A.length)
  (hsame:∀ w,S.A[y.1.toNat]? = some (some w) → w.length = C.rg.toNat) (hy:y.2.1 ≤ 400) (hd:d ≤ y.2.1 + 1) (hdl:d ≤ ops.length) (hL:S.L.length ≤ 1000000000000) (hAl:S.A.length ≤ 1000000000000) :
  CallsM Tryz.prog 107 ([] ++ [i y.1,i y.2.1,.bool y.2.2] ++ [ptr B.w,ptr B.z,ptr B.d,ptr B.o,ptr B.n]) m fun e m'=>e = .returned unitV ∧ ∃ S' d',FromAt m0 m' V C M B ops.length S' d' (nowAt M ops w0 d') ∧ d' ≤ y.2.1 + 1 ∧ d' ≤ ops.length ∧ S'.p = S.p ∧ (S'.A,S'.L) = meetW (S.A,S.L) (wayP C M ops w0 y):=by
 obtain ⟨to,at',caught⟩:=y
 simp only at hto hsame hy hd
 obtain ⟨q,hq⟩:∃ q:Nat,to = q:=⟨to.toNat,by omega⟩
 subst hq
 simp only [Int.toNat_natCast] at hto hsame
 refine calls_of mixed Tryz.func107 ok_sim_waits_from_1 rfl ?_
 conv=>whnf
 refine Br.mk (fun hc=>?_) (fun hc=>?_)
 ·have hc:caught = true:=hc
  subst hc
  conv=>whnf
  refine WLd.mk _ (cell1 hF.bw) ?_
  conv=>whnf
  refine WLd.mk _ (cell1 hF.bz) ?_
  conv=>whnf
  have hzl:(zerosW C).length = C.rg.toNat:=by simp [zerosW]
  rw [← hzl]
  refine WCall.mk (meet_ok hF.wt hto.2 hF.zb (hF.nf _ (by simp)) (fun w hw=>by rw [hzl];exact hsame w hw) (by rw [hzl];omega) hL hAl) ?_
  rintro _ m2 ⟨rfl,S',h1,h2,h3,h4,h5⟩
  conv=>whnf
  refine WRet.same ⟨rfl,S',d,hF.meet h1 h2 h4 h5,hd,hdl,h2,?_⟩
  rw [h3];rfl
 ·have hc:caught = false:=hc
  subst hc
  have hdl8:∀ o,dlS M o ≤ 8:=fun o=>(dl_le hM o).2
  conv=>whnf
  refine WLoop.mk Nat (fun _=>[]) (fun d1 m'=>FromAt m0 m' V C M B ops.length S d1 (nowAt M ops w0 d1) ∧ d1 ≤ at' + 1 ∧ d1 ≤ ops.length) (fun d1=>ops.length - d1) d trivial ⟨hF,hd,hdl⟩ ?_
  rintro d1 m1 ⟨hF1,hd1,hdl1⟩
  conv=>whnf
  refine WLd.mk _ (cell1 hF1.bd) ?_
  conv=>whnf
  refine WLd.mk _ (cell1 hF1.bo) ?_
  conv=>whnf
  refine WSc.mk (v:=decide ((d1:Int) ≤ (at':Int))) (fun _=>?_) ?_
  ·conv=>whnf
   refine WLd.mk _ (cell1 hF1.bd) ?_
   conv=>whnf
   exact And.intro (Mem.le.refl _) rfl
  conv=>whnf
  refine Br.mk (fun hb=>?_) (fun hb=>?_)
  ·have hb':d1 < ops.length ∧ d1 ≤ at':=by
    simp only [scB,Bool.and_eq_true,decide_eq_true_eq] at hb
    omega
   obtain ⟨ad3,had3,hop⟩:=op_at hO hF1.le hb'.1
   have hok:=hops _ (List.getElem_mem hb'.1)
   have hns:=now_succ (M:=M) (w0:=w0) hb'.1
   have hnl:(nowAt M ops w0 d1).length = C.rg.toNat:=by rw [now_len];exact hw0l
   have hm1:=hF1.le _ _ hm0
   generalize ops[d1] = o at *
   conv=>whnf
   refine WLd.mk _ (cell1 hF1.bo) ?_
   conv=>whnf
   refine WLd.mk _ (cell1 hF1.bd) ?_
   conv=>whnf
   refine WIdx.mk ad3 had3 ⟨by omega,by omega⟩ ?_
   conv=>whnf
   refine WLds.mk o.cells (by simpa using hop) rfl ?_
   conv=>whnf
   refine WCall.pure (writes_ok hm1 o hok.kd) ?_
   by_cases hu:uD o.kd = true
   ·rw [if_pos hu]
    conv=>whnf
    refine Br.mk (fun hb2=>?_) (fun hb2=>absurd (of_decide_eq_false hb2) (by have:=hok.ds;omega))
    obtain ⟨e,he,he2⟩:∃ e:Nat,o.ds = e ∧ e < C.rg.toNat:=⟨o.ds.toNat,by have:=hok.ds;omega,by have:=hok.ds;omega⟩
    rw [he]
    have hst:nowAt M ops w0 (d1 + 1) = (nowAt M ops w0 d1).set e (max ((nowAt M ops w0 d1).getD e 0) (dlS M o)):=by
     rw [hns];unfold stepW;rw [wr_get o hu,he];rfl
    conv=>whnf
    refine WLd.mk _ (cell1 hF1.bn) ?_
    conv=>whnf
    refine WLd.mk _ (cell1 hF1.bn) ?_
    conv=>whnf
    refine WIdx.mk _ rfl ⟨by omega,by omega⟩ ?_
    conv=>whnf
    refine WLd.mk (v8 ((nowAt M ops w0 d1).getD e 0)) (by simpa using hF1.nb.cell (by rw [hnl];exact he2)) ?_
    conv=>whnf
    refine WLd.mk _ (cell1 hF1.bw) ?_
    conv=>whnf
    refine WLd.mk _ (cell1 hF1.bo) ?_
    conv=>whnf
    refine WLd.mk _ (cell1 hF1.bd) ?_
    conv=>whnf
    refine WIdx.mk ad3 had3 ⟨by omega,by omega⟩ ?_
    conv=>whnf
    refine WLds.mk o.cells (by simpa using hop) rfl ?_
    conv=>whnf
    refine ⟨?_,trivial⟩
    conv=>whnf
    refine WCallG.pure (delay_ok hm1 hF1.wt.hp hM o) ?_
    conv=>whnf
    refine WIdx.mk _ rfl ⟨by omega,by omega⟩ ?_
    conv=>whnf
    refine ⟨?_,trivial⟩
    conv=>whnf
    have er:Int.toNat ((e:Nat):Int) * 1 = e:=by simp
    rw [er,max8]
    obtain ⟨rest,hnb⟩:=hF1.nb
    refine WSt.at _ _ hnb (show e + 1 ≤ _ by simp [hnl];omega) ?_
    rw [show cellsL (Value.int IntKind.i8 ((max ((nowAt M ops w0 d1).getD e 0) (dlS M o):Nat):Int)) = [v8 (max ((nowAt M ops w0 d1).getD e 0) (dlS M o))] from rfl,set_row8 (by rw [hnl];exact he2),← hst]
    have hF2:=hF1.setNow (now':=nowAt M ops w0 (d1 + 1)) (rest:=rest)
    generalize m1.set B.nb (Cells ((nowAt M ops w0 (d1 + 1)).map v8 ++ rest) 117) = m2 at hF2 ⊢
    conv=>whnf
    refine WLd.mk _ (cell1 hF2.bd) ?_
    conv=>whnf
    refine WRng.mk (by apply wrap_i64 <;> omega) ?_
    conv=>whnf
    refine WSt.mk _ _ hF2.bd rfl (Nat.le_refl _) ?_
    have hF3:=hF2.setD (d':=d1 + 1)
    conv=>whnf
    exact ⟨d1 + 1,trivial,⟨hF3,by omega,hb'.1⟩,Nat.sub_lt_sub_left hb'.1 (Nat.lt_succ_self d1)⟩
   ·have hu:uD o.kd = false:=by simpa using hu
    rw [if_neg (by rw [hu];decide)]
    have hst:nowAt M ops w0 (d1 + 1) = nowAt M ops w0 d1:=by
     rw [hns];unfold stepW;rw [wr_none o hu]
    conv=>whnf
    refine Br.mk (fun hb2=>absurd (of_decide_eq_true hb2) (by decide)) (fun hb2=>?_)
    conv=>whnf
    refine WLd.mk _ (cell1 hF1.bd) ?_
    conv=>whnf
    refine WRng.mk (by apply wrap_i64 <;> omega) ?_
    conv=>whnf
    refine WSt.mk _ _ hF1.bd rfl (Nat.le_refl _) ?_
    have hF3:=hF1.setD (d':=d1 + 1)
    rw [← hst] at hF3
    conv=>whnf
    exact ⟨d1 + 1,trivial,⟨hF3,by omega,hb'.1⟩,Nat.sub_lt_sub_left hb'.1 (Nat.lt_succ_self d1)⟩
  ·have hb':¬ (d1 < ops.length ∧ d1 ≤ at'):=by
    simp only [scB,Bool.and_eq_false_iff,decide_eq_false_iff_not] at hb
    omega
   have hna:nowAt M ops w0 d1 = nowAt M ops w0 (at' + 1):=by
    by_cases e:d1 = at' + 1
    ·rw [e]
    ·have e2:d1 = ops.length:=by omega
     rw [e2,now_big (j:=at' + 1) (by omega)]
   have hnl:(nowAt M ops w0 d1).length = C.rg.toNat:=by rw [now_len];exact hw0l
   have hub:=now_ub hdl8 (ops:=ops) hw0 d1
   have hnew:=hF1.wt
   have hcl:=clone8_ok (c:=B.nc) hF1.nb (by omega)
   rw [hnl] at hcl
   conv=>whnf
   refine WLd.mk _ (cell1 hF1.bn) ?_
   conv=>whnf
   refine WCall.mk hcl ?_
   rintro _ m2 ⟨b',c',rfl,hle2,hR2,hb'n⟩
   conv=>whnf
   refine WLoop.mk Nat (fun r=>[(55,.val (i r))]) (fun r m'=>r ≤ C.rg.toNat ∧ Mem.le m1 m' ∧ R8 m' b' (preD (nowAt M ops w0 d1) r)) (fun r=>C.rg.toNat - r) 0 ⟨rfl,trivial⟩ ⟨Nat.zero_le _,hle2,hR2⟩ ?_
   rintro r m3 ⟨hr,hle3,hR3⟩
   have hpl:(preD (nowAt M ops w0 d1) r).length = C.rg.toNat:=by rw [preD_len];exact hnl
   conv=>whnf
   refine Br.mk (fun hb3=>?_) (fun hb3=>?_)
   ·have hr2:r < C.rg.toNat:=by
     have:(r:Int) < C.rg.toNat:=of_decide_eq_true hb3
     omega
    have hv8:(preD (nowAt M ops w0 d1) r).getD r 0 ≤ 8:=by
     rw [preD_get,if_neg (by omega),List.getD_eq_getElem?_getD,List.getElem?_eq_getElem (by omega)]
     exact hub _ (List.getElem_mem _)
    conv=>whnf
    refine WIdx.mk _ rfl ⟨by omega,by omega⟩ ?_
    conv=>whnf
    refine WLd.mk (v8 ((preD (nowAt M ops w0 d1) r).getD r 0)) (by simpa using hR3.cell (by rw [hpl];exact hr2)) ?_
    conv=>whnf
    refine WIdx.mk _ rfl ⟨by omega,by omega⟩ ?_
    conv=>whnf
    have er:Int.toNat ((r:Nat):Int) * 1 = r:=by simp
    rw [er,dec8 hv8]
    obtain ⟨rest,hnb⟩:=hR3
    refine WSt.at _ _ hnb (show r + 1 ≤ _ by simp [hpl];omega) ?_
    rw [show cellsL (Value.int IntKind.i8 (((preD (nowAt M ops w0 d1) r).getD r 0 - 1:Nat):Int)) = [v8 ((preD (nowAt M ops w0 d1) r).getD r 0 - 1)] from rfl,set_row8 (by rw [hpl];exact hr2)]
    conv=>whnf
    refine WRng.mk (by apply wrap_i64 <;> omega) ?_
    conv=>whnf
    exact ⟨r + 1,⟨rfl,trivial⟩,⟨hr2,le_setn hle3 hb'n,rest,Mem.set_same _ _ _⟩,Nat.sub_lt_sub_left hr2 (Nat.lt_succ_self r)⟩
   ·have hr2:r = C.rg.toNat:=by
     have:¬ (r:Int) < C.rg.toNat:=of_decide_eq_false hb3
     omega
    subst hr2
    rw [← hnl,preD_all] at hR3
    have hF3:=hF1.mono hle3
    have hdwl:(decW (nowAt M ops w0 d1)).length = C.rg.toNat:=by rw [dec_len];exact hnl
    have hnf:¬ S.foot b':=hF1.wt.notfree hb'n
    conv=>whnf
    refine WLd.mk _ (cell1 hF3.bw) ?_
    conv=>whnf
    have hme:=meet_ok hF3.wt (cl:=c') hto.2 hR3 hnf (fun w hw=>by rw [hdwl];exact hsame w hw) (by rw [hdwl];omega) hL hAl
    rw [hdwl] at hme
    refine WCall.mk hme ?_
    rintro _ m4 ⟨rfl,S',h1,h2,h3,h4,h5⟩
    conv=>whnf
    refine WRet.same ⟨rfl,S',d1,hF3.meet h1 h2 h4 h5,hd1,hdl1,h2,?_⟩
    rw [h3,hna];rfl
end Go.Proofs.YtleofbpepfmfgaaGreatDoor
set_option linter.unusedSimpArgs false
set_option linter.unusedVariables false
set_option maxRecDepth 100000
namespace Go.Proofs.YtleofbpepfmfgaaGreatDoor
open Go Go.Vx
open Go.Vx.IOp Go.Vx.IR Go.Vx.Opd
theorem word_cells {m:Mem} {V:CV} {C:CodeR} (hV:CodeAt m V C) {k:Nat} (hk:k < C.ws.length):∃ ad a3 c3,V.a2 = some ad ∧ CellsAt m (ad.add (k * 2)) [.slice a3 (wordAt C k).ops.length c3,i (wordAt C k).ct] ∧ OAt m (.slice a3 (wordAt C k).ops.length c3) (wordAt C k).ops:=by
 obtain ⟨a2',c2',e2,hw0,hw1,hw2⟩:=hV.ws
 have ea2:V.a2 = a2':=by injection e2
 subst ea2
 obtain ⟨ad,had⟩:∃ ad,V.a2 = some ad:=by
  cases hh:V.a2 with
  | none=>rw [hw0 hh] at hk;simp at hk
  | some ad=>exact ⟨ad,rfl⟩
 have hwk:C.ws[k] = wordAt C k:=by
  unfold wordAt
  rw [List.getD_eq_getElem?_getD,List.getElem?_eq_getElem hk];rfl
 obtain ⟨a3,n3,c3,hcells,hops⟩:=hw1 ad had k hk
 rw [hwk] at hcells hops
 obtain ⟨a3',c3',e3,_⟩:=id hops
 injection e3 with e31 e32 e33
 subst e32
 exact ⟨ad,a3,c3,had,hcells,hops⟩
theorem CallsM.mono {P:Program} {f:Nat} {vs:List Value} {m:Mem} {R R':Ending → Mem → Prop} (h:CallsM P f vs m R) (hr:∀ e m',R e m' → R' e m'):CallsM P f vs m R' :=
 ⟨h.1,fun w hw=>(h.2 w hw).mono fun e w' hh=>by obtain ⟨m',a,b⟩:=hh;exact ⟨m',a,hr _ _ b⟩⟩
structure Hd1 where
 a:Option Addr
 c:Nat
abbrev HdF:=Nat → Hd1
def HdF.upd (H:HdF) (k:Nat) (h:Hd1):HdF:=fun j=>if j = k then h else H j
theorem upd_same (H:HdF) (k:Nat) (h:Hd1):H.upd k h k = h:=if_pos rfl
theorem upd_other (H:HdF) {k j:Nat} (h:Hd1) (e:j ≠ k):H.upd k h j = H j:=if_neg e
def OwnsB (h:Hd1) (b:Nat):Prop:=h.c ≠ 0 ∧ h.a = some ⟨b,0,none⟩
structure FamAt (m:Mem) (N:Nat) (ty sz:Nat → Nat) (H:HdF) (num:Nat → Nat) (cont:Nat → List Value):Prop where
 len:∀ j,j < N → (cont j).length = num j * sz j
 cap:∀ j,j < N → num j ≤ (H j).c
 blk:∀ j,j < N → (H j).c ≠ 0 → ∃ b rest,(H j).a = some ⟨b,0,none⟩ ∧ m b = some (Cells (cont j ++ rest) (ty j)) ∧ (cont j).length + rest.length = (H j).c * sz j
 inj:∀ j k b,j < N → k < N → OwnsB (H j) b → OwnsB (H k) b → j = k
def FootF (N:Nat) (H:HdF) (b:Nat):Prop:=∃ j,j < N ∧ OwnsB (H j) b
section
variable {m m':Mem} {N:Nat} {ty sz:Nat → Nat} {H:HdF} {num:Nat → Nat} {cont:Nat → List Value}
theorem FamAt.own (h:FamAt m N ty sz H num cont) {j b:Nat} (hj:j < N) (hb:OwnsB (H j) b):∃ rest,m b = some (Cells (cont j ++ rest) (ty j)) ∧ (cont j).length + rest.length = (H j).c * sz j:=by
 obtain ⟨b',rest,h1,h2,h3⟩:=h.blk j hj hb.1
 rw [hb.2] at h1;cases h1
 exact ⟨rest,h2,h3⟩
theorem FamAt.live (h:FamAt m N ty sz H num cont) {b:Nat} (hb:FootF N H b):∃ L j,j < N ∧ m b = some (Cells L (ty j)):=by
 obtain ⟨j,hj,hb⟩:=hb
 obtain ⟨rest,h1,_⟩:=h.own hj hb
 exact ⟨_,j,hj,h1⟩
theorem FamAt.free (h:FamAt m N ty sz H num cont) {b:Nat} (hb:m b = none):¬ FootF N H b:=fun hf=>by
 obtain ⟨L,j,_,h1⟩:=h.live hf
 rw [hb] at h1;cases h1
theorem FamAt.room (h:FamAt m N ty sz H num cont) {j:Nat} (hj:j < N) (hn:num j ≠ 0):∃ b rest,OwnsB (H j) b ∧ m b = some (Cells (cont j ++ rest) (ty j)) ∧ (cont j).length + rest.length = (H j).c * sz j:=by
 have hc:(H j).c ≠ 0:=by have:=h.cap j hj;omega
 obtain ⟨b,rest,h1,h2,h3⟩:=h.blk j hj hc
 exact ⟨b,rest,⟨hc,h1⟩,h2,h3⟩
theorem FamAt.same (h:FamAt m N ty sz H num cont) (hk:∀ b o,FootF N H b → m b = some o → m' b = some o):FamAt m' N ty sz H num cont where
 len:=h.len
 cap:=h.cap
 blk:=fun j hj hc=>by
  obtain ⟨b,rest,h1,h2,h3⟩:=h.blk j hj hc
  exact ⟨b,rest,h1,hk _ _ ⟨j,hj,hc,h1⟩ h2,h3⟩
 inj:=h.inj
theorem FamAt.mono (h:FamAt m N ty sz H num cont) (hle:Mem.le m m'):FamAt m' N ty sz H num cont:=h.same fun b o _ hb=>hle b o hb
theorem FamAt.put (h:FamAt m N ty sz H num cont) {k b:Nat} {H':HdF} {num':Nat → Nat} {cont':Nat → List Value} {rest:List Value} (hk:k < N)
  (hH:∀ j,j < N → j ≠ k → H' j = H j ∧ num' j = num j ∧ cont' j = cont j) (ha:(H' k).a = some ⟨b,0,none⟩) (hb:m b = none ∨ OwnsB (H k) b)
  (hm:m' b = some (Cells (cont' k ++ rest) (ty k))) (hl:(cont' k).length = num' k * sz k) (hcap:num' k ≤ (H' k).c) (hr:(cont' k).length + rest.length = (H' k).c * sz k)
  (hx:∀ x o,x ≠ b → FootF N H x → m x = some o → m' x = some o):FamAt m' N ty sz H' num' cont' where
 len:=fun j hj=>by
  by_cases e:j = k
  ·subst e;exact hl
  ·obtain ⟨_,h2,h3⟩:=hH j hj e;rw [h2,h3];exact h.len j hj
 cap:=fun j hj=>by
  by_cases e:j = k
  ·subst e;exact hcap
  ·obtain ⟨h1,h2,_⟩:=hH j hj e;rw [h1,h2];exact h.cap j hj
 blk:=fun j hj hc=>by
  by_cases e:j = k
  ·subst e;exact ⟨b,rest,ha,hm,hr⟩
  ·obtain ⟨h1,h2,h3⟩:=hH j hj e
   rw [h1] at hc ⊢
   rw [h3]
   obtain ⟨b2,r2,g1,g2,g3⟩:=h.blk j hj hc
   refine ⟨b2,r2,g1,hx _ _ (fun e2=>?_) ⟨j,hj,hc,g1⟩ g2,g3⟩
   subst e2
   rcases hb with hb | hb
   ·rw [hb] at g2;cases g2
   ·exact e (h.inj j k _ hj hk ⟨hc,g1⟩ hb)
 inj:=fun i j x hi hj hxi hxj=>by
  have key:∀ q,q < N → q ≠ k → OwnsB (H' q) x → OwnsB (H' k) x → False:=fun q hq e h1 h2=>by
   obtain ⟨g1,_,_⟩:=hH q hq e
   rw [g1] at h1
   have e3:=h2.2
   rw [ha] at e3
   cases e3
   rcases hb with hb | hb
   ·exact h.free hb ⟨q,hq,h1⟩
   ·exact e (h.inj q k _ hq hk h1 hb)
  by_cases e1:i = k
  ·by_cases e2:j = k
   ·rw [e1,e2]
   ·subst e1;exact (key j hj e2 hxj hxi).elim
  ·by_cases e2:j = k
   ·subst e2;exact (key i hi e1 hxi hxj).elim
   ·obtain ⟨g1,_,_⟩:=hH i hi e1
    obtain ⟨g2,_,_⟩:=hH j hj e2
    rw [g1] at hxi;rw [g2] at hxj
    exact h.inj i j x hi hj hxi hxj
theorem FamAt.drop (h:FamAt m N ty sz H num cont) {k:Nat} {H':HdF} {num':Nat → Nat} {cont':Nat → List Value} (hk:k < N)
  (hH:∀ j,j < N → j ≠ k → H' j = H j ∧ num' j = num j ∧ cont' j = cont j) (hc:(H' k).c = 0) (hn:num' k = 0) (hl:cont' k = []):FamAt m N ty sz H' num' cont' where
 len:=fun j hj=>by
  by_cases e:j = k
  ·subst e;rw [hl,hn];simp
  ·obtain ⟨_,h2,h3⟩:=hH j hj e;rw [h2,h3];exact h.len j hj
 cap:=fun j hj=>by
  by_cases e:j = k
  ·subst e;rw [hn];exact Nat.zero_le _
  ·obtain ⟨h1,h2,_⟩:=hH j hj e;rw [h1,h2];exact h.cap j hj
 blk:=fun j hj hc2=>by
  by_cases e:j = k
  ·subst e;exact absurd hc hc2
  ·obtain ⟨h1,h2,h3⟩:=hH j hj e
   rw [h1] at hc2 ⊢;rw [h3];exact h.blk j hj hc2
 inj:=fun i j x hi hj hxi hxj=>by
  by_cases e1:i = k
  ·subst e1;exact absurd hc hxi.1
  ·by_cases e2:j = k
   ·subst e2;exact absurd hc hxj.1
   ·obtain ⟨g1,_,_⟩:=hH i hi e1
    obtain ⟨g2,_,_⟩:=hH j hj e2
    rw [g1] at hxi;rw [g2] at hxj
    exact h.inj i j x hi hj hxi hxj
theorem FamAt.cellsAt (h:FamAt m N ty sz H num cont) {j:Nat} (hj:j < N) {ad:Addr} (ha:(H j).a = some ad):CellsAt m ad (cont j):=fun q v hq=>by
 have hlt:=(List.getElem?_eq_some_iff.1 hq).1
 have hn:num j ≠ 0:=fun e=>by have:=h.len j hj;rw [e,Nat.zero_mul] at this;omega
 obtain ⟨b,rest,hb,hm,_⟩:=h.room hj hn
 rw [hb.2] at ha;cases ha
 exact CellsAt.blk hm (fun q v hq=>by rw [Nat.zero_add,List.getElem?_append_left (List.getElem?_eq_some_iff.1 hq).1];exact hq) q v hq
theorem FamAt.app (h:FamAt m N ty sz H num cont) {k bx Tx n c bytes:Nat} {a:Option Addr} {x zero:List Value} {K:Value → Mem → Prop} (hk:k < N) (ha:a = (H k).a) (hn:n = num k) (hcc:c = (H k).c) (hz:zero.length = sz k) (hs:0 < sz k)
  (hx:m bx = some (Cells x Tx)) (hxl:x.length = sz k) (ho:oneL x = true) (hlen:(num k + 1) * bytes ≤ 35184372088832) (hnil:(H k).a = none → num k = 0)
  (kk:∀ b' c' rest m',m' b' = some (Cells (cont k ++ x ++ rest) (ty k)) → num k + 1 ≤ c' → (cont k ++ x).length + rest.length = c' * sz k → (m b' = none ∨ OwnsB (H k) b') → (∀ b,b ≠ b' → m' b = m b) → K (.slice (some ⟨b',0,none⟩) (num k + 1) c') m') :
  WApp m (ty k) (sz k) bytes zero a n c (some ⟨bx,0,none⟩) 1 K:=by
 subst ha;subst hn;subst hcc
 have hnew:FirstCells m (some ⟨bx,0,none⟩) (1 * sz k) x:=⟨by rw [hxl,Nat.one_mul],fun ad had=>by cases had;exact CellsAt.blk hx fun j v hj=>by rw [Nat.zero_add];exact hj⟩
 have hL:=h.len k hk
 by_cases hcc:num k + 1 ≤ (H k).c
 ·obtain ⟨b,rest,g1,g2,g3⟩:=h.blk k hk (by omega)
  obtain ⟨q,hq⟩:∃ q,(H k).c = num k + 1 + q:=⟨(H k).c - (num k + 1),by omega⟩
  have hrl:rest.length = sz k + q * sz k:=by
   rw [hL,hq,Nat.add_mul,Nat.add_mul,Nat.one_mul] at g3;omega
  rw [g1]
  refine WApp.in (ad:=⟨b,0,none⟩) _ hnew (fun h=>by cases h) _ (ty k) hcc g2 rfl (by rw [List.length_append,hL,hrl];simp only;omega) ho ?_
  have e:spliceL (cont k ++ rest) (0 + num k * sz k) x = cont k ++ x ++ rest.drop (sz k):=by
   rw [spliceL_eq _ _ _ (by rw [List.length_append,hL,hrl,hxl];omega),Nat.zero_add,← hL,List.take_left' rfl,hxl,List.drop_append]
   rw [List.drop_eq_nil_of_le (by omega),List.nil_append,show (cont k).length + sz k - (cont k).length = sz k by omega]
  refine kk b (H k).c (rest.drop (sz k)) _ (by rw [Mem.set_same,e]) hcc ?_ (.inr ⟨by omega,g1⟩) fun b3 hb3=>Mem.set_other _ _ hb3
  rw [List.length_append,List.length_drop,hrl,hxl,hL,hq,Nat.add_mul,Nat.add_mul,Nat.one_mul];omega
 ·refine WApp.grow _ hnew (fun h=>by cases h) (by omega) hlen (cont k) ⟨hL,fun ad had=>h.cellsAt hk had⟩ hnil fun b2 c2 hb2 hc2=>?_
  refine kk b2 c2 ((List.replicate (c2 - (num k + 1)) zero).flatten) _ (Mem.set_same _ _ _) hc2 ?_ (.inl hb2) fun b hb=>Mem.set_other _ _ hb
  obtain ⟨q,hq⟩:∃ q,c2 = num k + 1 + q:=⟨c2 - (num k + 1),by omega⟩
  rw [List.length_append,repl_len,hz,hxl,hL,hq,show num k + 1 + q - (num k + 1) = q by omega,Nat.add_mul,Nat.add_mul,Nat.one_mul]
end
end Go.Proofs.YtleofbpepfmfgaaGreatDoor
