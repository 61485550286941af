import Derived.Test.YtleofbpepfmfgaaGreatDoorVxSimClo
import Derived.Test.YtleofbpepfmfgaaGreatDoorVxSimRun
import Derived.KernelRfl
set_option linter.unusedSimpArgs false
set_option linter.unusedVariables false
set_option maxRecDepth 100000
namespace Go.Proofs.YtleofbpepfmfgaaGreatDoor
open Go Go.Vx
open Go.Vx.IOp Go.Vx.IR Go.Vx.Opd
def WaitsPost (m:Mem) (C:CodeR) (M:Mac) (word:Int) (e:Ending) (m':Mem):Prop :=
 Mem.le m m' ∧ (fitsCode C M ≠ 0 → e = .returned (.tuple ⟨[ns,i (fitsCode C M)]⟩)) ∧ (fitsCode C M = 0 → (word < 0 ∨ word ≥ C.ws.length) → e = .returned (.tuple ⟨[ns,i 2]⟩)) ∧
  (fitsCode C M = 0 → 0 ≤ word ∧ word < C.ws.length → ∃ A,Least C M A ∧ OkW C A ∧ (A[word.toNat]? = some none → e = .returned (.tuple ⟨[ns,i 5]⟩)) ∧
   ∀ w,A[word.toNat]? = some (some w) → ∃ a c,e = .returned (.tuple ⟨[.slice a w.length c,i 0]⟩) ∧ IAt m' (.slice a w.length c) (w.map fun n:Nat=>(n:Int)))
theorem simWaits_ok {m:Mem} {T:Nat} {fr:Nat × Nat} (hm:m 0 = some (.cells ⟨cells0⟩ T fr)) (V:CV) {C:CodeR} (M:Mac) (hV:CodeAt m V C) (word:Int) :
  CallsM Tryz.prog 23 [V.val C,M.val,i word] m (WaitsPost m C M word):=by
 refine calls_of mixed Tryz.func23 ok_sim_Waits rfl ?_
 have hn2:=hV.n2
 conv=>whnf
 refine WCall.mk (wFits_ok hm V hV M) ?_
 rintro _ m1 ⟨rfl,l1⟩
 conv=>whnf
 refine Br.mk (fun h0=>?_) (fun h0=>?_)
 ·have h0:fitsCode C M ≠ 0:=by simpa using h0
  conv=>whnf
  exact WRet.same ⟨l1,fun _=>rfl,fun h=>absurd h h0,fun h=>absurd h h0⟩
 have h0:fitsCode C M = 0:=by simpa using h0
 obtain ⟨hC,hM⟩:=fits_ok3 h0
 have hrg:=hC.rg
 conv=>whnf
 refine WSc.mk (v:=decide (word ≥ (V.n2:Int))) (fun _=>And.intro (Mem.le.refl _) rfl) ?_
 conv=>whnf
 refine Br.mk (fun h1=>?_) (fun h1=>?_)
 ·have h1:(decide (word < 0) || decide (word ≥ (V.n2:Int))) = true:=h1
  simp only [Bool.or_eq_true,decide_eq_true_eq] at h1
  conv=>whnf
  exact WRet.same ⟨l1,fun h=>absurd h0 h,fun _ _=>rfl,fun _ h=>by omega⟩
 have h1:(decide (word < 0) || decide (word ≥ (V.n2:Int))) = false:=h1
 simp only [Bool.or_eq_false_iff,decide_eq_false_iff_not] at h1
 obtain ⟨k,rfl⟩:∃ k:Nat,word = k:=⟨word.toNat,by omega⟩
 have hk:k < C.ws.length:=by omega
 conv=>whnf
 refine WCall.mk (simFind_ok (l1 _ _ hm) V M (hV.mono l1) hC hM) ?_
 rintro _ m2 ⟨S,rfl,hS,l2,hf,hLe,hOk⟩
 have hAl:=hLe.is.len
 have L2:=l1.trans l2
 obtain ⟨x,hx⟩:∃ x,S.A[k]? = some x:=⟨_,List.getElem?_eq_getElem (by rw [hAl];exact hk)⟩
 have hrow:=hS.atRow hx
 conv=>whnf
 refine WLd.mk _ hS.at17 ?_
 conv=>whnf
 refine WIdx.mk _ rfl ⟨by omega,by omega⟩ ?_
 cases x with
 | none =>
  conv=>whnf
  refine WLd.mk ns (by simpa [Wt.rowV] using hrow) ?_
  conv=>whnf
  refine Br.mk (fun _=>?_) (fun hh=>by cases hh)
  conv=>whnf
  refine WRet.same ⟨L2,fun h=>absurd h0 h,fun _ h=>by omega,fun _ _=>⟨S.A,hLe,hOk,fun _=>rfl,fun w hw=>?_⟩⟩
  rw [Int.toNat_natCast,hx] at hw;cases hw
 | some w =>
  have hub:=hOk.ub k w hx
  have hwl:=hOk.wl k w hx
  have hR:=hS.row k w hx
  conv=>whnf
  refine WLd.mk (.slice (some ⟨S.rb k,0,none⟩) w.length (S.rc k)) (by simpa [Wt.rowV] using hrow) ?_
  conv=>whnf
  refine Br.mk (fun hh=>by cases hh) (fun _=>?_)
  conv=>whnf
  refine WLd.mk _ hS.at17 ?_
  conv=>whnf
  refine WIdx.mk _ rfl ⟨by omega,by omega⟩ ?_
  conv=>whnf
  refine WLd.mk (.slice (some ⟨S.rb k,0,none⟩) w.length (S.rc k)) (by simpa [Wt.rowV] using hrow) ?_
  conv=>whnf
  refine WLoop.mk (Nat × Option Addr × Nat) (fun x=>[(10,.val (.slice x.2.1 x.1 x.2.2)),(47,.val (i x.1))]) (fun x m'=>x.1 ≤ w.length ∧ Mem.le m2 m' ∧ PushI m2 m' x.2.1 x.2.2 ((w.take x.1).map fun n:Nat=>(n:Int))) (fun x=>w.length - x.1) (0,none,0)
   ⟨rfl,rfl,trivial⟩ ⟨Nat.zero_le _,Mem.le.refl _,.inl ⟨rfl,rfl,rfl⟩⟩ ?_
  rintro ⟨j,a,c⟩ m3 ⟨hj,l3,hP⟩
  simp only at hj hP
  conv=>whnf
  refine Br.mk (fun hb=>?_) (fun hb=>?_)
  ·have hj2:j < w.length:=by
    have:(j:Int) < (w.length:Nat):=of_decide_eq_true hb
    omega
   have h8:=hub _ (List.getElem_mem hj2)
   have hcell:=(hR.mono l3).cell hj2
   rw [List.getD_eq_getElem?_getD,List.getElem?_eq_getElem hj2,Option.getD_some] at hcell
   conv=>whnf
   refine WIdx.mk _ rfl ⟨by omega,by omega⟩ ?_
   conv=>whnf
   refine WLd.mk (v8 w[j]) (by simpa using hcell) ?_
   conv=>whnf
   refine WRng.mk (by apply wrap_i64 <;> omega) ?_
   conv=>whnf
   refine WNew.ab fun bx m4 hbx l4 cx=>?_
   conv=>whnf
   refine push_ok (l3.trans l4) (hP.mono l4) cx (by simp;omega) (by simp;omega) fun a' c' m5 l5 hP5=>?_
   have e1:((w.take j).map fun n:Nat=>(n:Int)).length = j:=by simp;omega
   have e2:(w.take (j + 1)).map (fun n:Nat=>(n:Int)) = (w.take j).map (fun n:Nat=>(n:Int)) ++ [(w[j]:Int)]:=by rw [List.take_succ_eq_append_getElem hj2,List.map_append];rfl
   conv=>whnf
   refine WRng.mk (by apply wrap_i64 <;> omega) ?_
   conv=>whnf
   refine ⟨(j + 1,a',c'),⟨?_,rfl,trivial⟩,⟨hj2,l5,?_⟩,Nat.sub_lt_sub_left hj2 (Nat.lt_succ_self j)⟩
   ·show some (AV.val (.slice a' (((w.take j).map fun n:Nat=>(n:Int)).length + 1) c')) = _
    rw [e1]
   ·show PushI m2 m5 a' c' ((w.take (j + 1)).map fun n:Nat=>(n:Int))
    rw [e2];exact hP5
  ·have hj2:j = w.length:=by
    have:¬ (j:Int) < (w.length:Nat):=of_decide_eq_false hb
    omega
   subst hj2
   rw [List.take_length] at hP
   conv=>whnf
   refine WRet.same ⟨L2.trans l3,fun h=>absurd h0 h,fun _ h=>by omega,fun _ _=>⟨S.A,hLe,hOk,fun h=>?_,fun w' hw=>?_⟩⟩
   ·rw [Int.toNat_natCast,hx] at h;cases h
   ·rw [Int.toNat_natCast,hx] at hw
    cases hw
    have hI:=hP.iat
    rw [List.length_map] at hI
    exact ⟨a,c,rfl,hI⟩
end Go.Proofs.YtleofbpepfmfgaaGreatDoor
set_option linter.unusedSimpArgs false
set_option linter.unusedVariables false
set_option maxRecDepth 100000
namespace Go.Proofs.YtleofbpepfmfgaaGreatDoor
open Go Go.Vx
open Go.Vx.IOp Go.Vx.IR Go.Vx.Opd
def exO1:OpR:=⟨13,1,0,0,0,0,-1⟩
def exO2:OpR:=⟨27,0,1,0,0,0,-1⟩
def exC:CodeR:=⟨[],1,2,0,0,[⟨[exO1],-1⟩,⟨[exO2],-1⟩]⟩
def exM:Mac:=⟨1,1,1,1,1,3,2,1,32,2,4⟩
theorem example_ok (m:Mem):CallsM Tryz.prog 45 [] m fun e m'=>∃ V,e = .returned (.tuple ⟨[V.val exC,exM.val]⟩) ∧ Mem.le m m' ∧ CodeAt m' V exC:=by
 refine calls_of mixed Tryz.func45 ok_biremelaw27_example rfl ?_
 conv=>whnf
 refine WNew.ab fun b1 m1 hb1 l1 c1=>?_
 conv=>whnf
 refine WNew.ab fun b2 m2 hb2 l2 c2=>?_
 conv=>whnf
 refine WNew.ab fun b3 m3 hb3 l3 c3=>?_
 conv=>whnf
 have c1:=l3 _ _ (l2 _ _ c1)
 have c2:=l3 _ _ c2
 have ho:∀ {b:Nat} {o:OpR},m3 b = some (Cells o.cells 110) → OAt m3 (.slice (some ⟨b,0,none⟩) [o].length 1) [o]:=fun {b o} h=>by
  refine ⟨_,1,rfl,(fun h=>by cases h),fun ad ha=>?_,Nat.le_refl _⟩
  cases ha
  exact CellsAt.blk h fun q v hq=>by rw [Nat.zero_add];simpa [ocs] using hq
 refine WRet.same ⟨⟨none,0,0,some ⟨b3,0,none⟩,2,2⟩,rfl,(l1.trans l2).trans l3,⟨none,0,rfl,fun _=>rfl,(fun ad h=>by cases h),Nat.le_refl _⟩,?_,by decide,by decide⟩
 have hL:WCells m3 [.slice (some ⟨b1,0,none⟩) 1 1,i (-1),.slice (some ⟨b2,0,none⟩) 1 1,i (-1)] exC.ws:=by
  refine ⟨rfl,fun k hk=>?_⟩
  match k,hk with
  | 0,_=>exact ⟨_,_,rfl,rfl,ho (o:=exO1) c1⟩
  | 1,_=>exact ⟨_,_,rfl,rfl,ho (o:=exO2) c2⟩
 have hc3:m3 b3 = some (Cells ([.slice (some ⟨b1,0,none⟩) 1 1,i (-1),.slice (some ⟨b2,0,none⟩) 1 1,i (-1)] ++ []) TWord):=c3
 exact wat_of (c:=2) hL hc3 (Nat.le_refl _)
theorem ex_fits:fitsCode exC exM = 0:=by kernel_rfl
theorem ex_run1:runS exC exM [] 10 (beginS exC [7]) = { beginS exC [7] with word:=0,took:=2,begun:=1,ended:=true,kind:=1,value:=0 }:=by kernel_rfl
theorem ex_run2:runS exC exM [1] 10 (beginS exC [7]) = { beginS exC [7] with word:=0,took:=2,begun:=1,ended:=true,kind:=1,value:=49,regs:=[⟨7,0⟩,⟨49,0⟩] }:=by kernel_rfl
theorem ex_run3:runS exC exM [] 1 (beginS exC [7]) = { beginS exC [7] with word:=1,took:=1,begun:=1,way:=[⟨1,⟨49,0⟩,3⟩] }:=by kernel_rfl
def exA:WS:=[some [0,0],some [0,2]]
theorem ex_is:IsW exC exM exA:=by
 refine ⟨rfl,fun k w hk=>?_,⟨_,rfl⟩,fun k w hk p hp=>?_⟩
 ·match k,hk with
  | 0,hk=>cases hk;rfl
  | 1,hk=>cases hk;rfl
 ·match k,hk with
  | 0,hk =>
   cases hk
   have hp:p ∈ [((1:Nat),[0,2])]:=hp
   rw [List.mem_singleton] at hp
   subst hp
   exact ⟨[0,2],rfl,leW.refl _⟩
  | 1,hk =>
   cases hk
   have hp:p ∈ ([]:List (Nat × List Nat)):=hp
   cases hp
theorem ex_two {A:WS} (h:IsW exC exM A):∃ w,A[1]? = some (some w) ∧ 2 ≤ w.getD 1 0:=by
 obtain ⟨w0,h0⟩:=h.zero
 have hl:=h.wl 0 w0 h0
 have hl:w0.length = 2:=hl
 match w0,hl with
 | [a,b],_ =>
  obtain ⟨w',h1,h2⟩:=h.go 0 _ h0 (1,decW (stepW exM [a,b] exO1)) (by
   show _ ∈ outsW exC exM 0 (-1) [exO1] [a,b]
   have:outsW exC exM 0 (-1) [exO1] [a,b] = [(1,decW (stepW exM [a,b] exO1))]:=rfl
   rw [this];exact List.mem_singleton.2 rfl)
  refine ⟨w',h1,?_⟩
  have h3:=h2 1
  have h4:(decW (stepW exM [a,b] exO1)).getD 1 0 = max b 3 - 1:=rfl
  have h3:(decW (stepW exM [a,b] exO1)).getD 1 0 ≤ w'.getD 1 0:=h3
  rw [h4] at h3
  omega
theorem ex_strict {A:WS} (h:Least exC exM A):¬ strictA exC exM A:=fun hs=>by
 obtain ⟨w,h1,h2⟩:=ex_two h.is
 have h3:=hs 1 w h1
 have h4:strictO exM w [exO2] w = true:=h3
 unfold strictO at h4
 rw [Bool.and_eq_true] at h4
 have h5:(readsS exO2).all (fun r=>w.getD r.toNat 0 == 0) = (w.getD 1 0 == 0 && true):=rfl
 rw [h5] at h4
 simp only [Bool.and_true,beq_iff_eq] at h4
 omega
theorem ex_waits {A:WS} (h:Least exC exM A):∃ w,A[1]? = some (some w) ∧ w.length = 2 ∧ w.getD 1 0 = 2:=by
 obtain ⟨w,h1,h2⟩:=ex_two h.is
 obtain ⟨w',h3,h4⟩:=h.le exA ex_is 1 w h1
 have h3:some (some [0,2]) = some (some w'):=h3
 cases h3
 have h5:w.getD 1 0 ≤ 2:=h4 1
 exact ⟨w,h1,h.is.wl 1 w h1,by omega⟩
end Go.Proofs.YtleofbpepfmfgaaGreatDoor
set_option linter.unusedSimpArgs false
set_option linter.unusedVariables false
set_option maxRecDepth 100000
namespace Go.Proofs.YtleofbpepfmfgaaGreatDoor
open Go Go.Vx
open Go.Vx.IOp Go.Vx.IR Go.Vx.Opd
theorem same_ok {m:Mem} {v u:Value} {P:List Int} {kd n:Int} (hv:OutAt m v P kd n) (hu:OutAt m u P kd n) (hl:P.length ≤ 1000000000):PureM Tryz.prog 19 [v,u] m (.bool true):=by
 obtain ⟨A,c,rfl,hI⟩:=hv
 obtain ⟨B,d,rfl,hJ⟩:=hu
 obtain ⟨A',c',e1,q0,q1,_⟩:=hI
 injection e1 with e11 _ e13
 subst e11;subst e13
 obtain ⟨B',d',e2,r0,r1,_⟩:=hJ
 injection e2 with e21 _ e23
 subst e21;subst e23
 refine calls_of mixed Tryz.func19 ok_biremeref09_Outcomes rfl ?_
 conv=>whnf
 refine WSc.mk (v:=n != n) (fun _=>And.intro (Mem.le.refl _) rfl) ?_
 conv=>whnf
 refine WSc.mk (v:=(P.length:Int) != P.length) (fun _=>And.intro (Mem.le.refl _) rfl) ?_
 conv=>whnf
 refine Br.mk (fun hh=>?_) (fun _=>?_)
 ·have hh:((kd != kd || n != n) || (P.length:Int) != P.length) = true:=hh
  simp at hh
 conv=>whnf
 refine WLoop.mk Nat (fun k=>[(5,.val (i k))]) (fun k m'=>m = m' ∧ k ≤ P.length) (fun k=>P.length - k) 0 ⟨rfl,trivial⟩ ⟨rfl,Nat.zero_le _⟩ ?_
 rintro k m' ⟨rfl,hk⟩
 conv=>whnf
 refine Br.mk (fun hb=>?_) (fun hb=>?_)
 ·have hk2:k < P.length:=by
   have:(k:Int) < (P.length:Nat):=of_decide_eq_true hb
   omega
  obtain ⟨ad,rfl⟩:∃ ad,A = some ad:=by
   cases A with
   | none=>rw [q0 rfl] at hk2;simp at hk2
   | some ad=>exact ⟨ad,rfl⟩
  obtain ⟨bd,rfl⟩:∃ bd,B = some bd:=by
   cases B with
   | none=>rw [r0 rfl] at hk2;simp at hk2
   | some bd=>exact ⟨bd,rfl⟩
  conv=>whnf
  refine WIdx.mk ad rfl ⟨by omega,by omega⟩ ?_
  conv=>whnf
  refine WLd.mk (i P[k]) (by simpa using IAt.cell (q1 ad rfl) hk2) ?_
  conv=>whnf
  refine WIdx.mk bd rfl ⟨by omega,by omega⟩ ?_
  conv=>whnf
  refine WLd.mk (i P[k]) (by simpa using IAt.cell (r1 bd rfl) hk2) ?_
  conv=>whnf
  refine Br.mk (fun hh=>?_) (fun _=>?_)
  ·have hh:(P[k] != P[k]) = true:=hh
   simp at hh
  conv=>whnf
  refine WRng.mk (by apply wrap_i64 <;> omega) ?_
  conv=>whnf
  exact ⟨k + 1,⟨rfl,trivial⟩,⟨rfl,hk2⟩,Nat.sub_lt_sub_left hk2 (Nat.lt_succ_self k)⟩
 ·conv=>whnf
  exact WRet.same ⟨rfl,rfl⟩
def StrictIs (C:CodeR) (M:Mac) (al:Nat):Prop:=okC C = true ∧ fitsCode (cut27 C) M = 0 ∧ (al:Int) = C.pr ∧ ∃ A,Least (cut27 C) M A ∧ strictA (cut27 C) M A
theorem lawStrict_ok {m:Mem} {T:Nat} {fr:Nat × Nat} (hm:m 0 = some (.cells ⟨cells0⟩ T fr)) (V:CV) {C:CodeR} (M:Mac) (hV:CodeAt m V C) {aa:Option Addr} {al ca:Nat} :
  CallsM Tryz.prog 27 [V.val C,M.val,.slice aa al ca] m fun e m'=>∃ b,e = .returned (.bool b) ∧ Mem.le m m' ∧ (b = true ↔ StrictIs C M al):=by
 refine calls_of mixed Tryz.func27 ok_biremelaw27_strict rfl ?_
 conv=>whnf
 refine WCall.mk (lawCut_ok V hV) ?_
 rintro _ m1 ⟨V1,rfl,l1,hV1⟩
 conv=>whnf
 refine WSc.mk (v:=decide (fitsCode (cut27 C) M ≠ 0)) (fun _=>?_) ?_
 ·conv=>whnf
  refine WCall.mk (refFits_ok V1 hV1 M) ?_
  rintro _ m2 ⟨rfl,l2⟩
  conv=>whnf
  refine And.intro l2 ?_
  show some (Value.bool (fitsCode (cut27 C) M != 0)) = some (Value.bool (decide (fitsCode (cut27 C) M ≠ 0)))
  by_cases h:fitsCode (cut27 C) M = 0 <;> simp [h]
 conv=>whnf
 refine WSc.mk (v:=(al:Int) != C.pr) (fun _=>And.intro (Mem.le.refl _) rfl) ?_
 conv=>whnf
 refine Br.mk (fun hh=>?_) (fun hh=>?_)
 ·have hh:((!okC C || decide (fitsCode (cut27 C) M ≠ 0)) || (al:Int) != C.pr) = true:=hh
  conv=>whnf
  refine WRet.same ⟨false,rfl,l1,(fun h=>by cases h),fun h=>?_⟩
  obtain ⟨h1,h2,h3,_⟩:=h
  rw [h1,h2,h3] at hh
  simp at hh
 ·have hh:((!okC C || decide (fitsCode (cut27 C) M ≠ 0)) || (al:Int) != C.pr) = false:=hh
  simp only [Bool.or_eq_false_iff,Bool.not_eq_false',decide_eq_false_iff_not,ne_eq,Decidable.not_not,bne_eq_false_iff_eq] at hh
  conv=>whnf
  refine ⟨?_,trivial⟩
  conv=>whnf
  refine WCall.mk (lawOwn_ok V (hV.mono l1)) ?_
  rintro _ m2 ⟨V2,rfl,l2,hV2⟩
  conv=>whnf
  refine ⟨?_,trivial⟩
  conv=>whnf
  refine WCall.mk (strict_ok ((l1.trans l2) _ _ hm) V2 M hV2) ?_
  rintro _ m3 ⟨b,A,rfl,l3,_,hst⟩
  obtain ⟨hLe,hiff⟩:=hst hh.1.2
  rw [hh.1.2]
  conv=>whnf
  refine WSc.mk (v:=true) (fun _=>And.intro (Mem.le.refl _) rfl) ?_
  conv=>whnf
  refine WRet.same ⟨b,?_,(l1.trans l2).trans l3,fun h=>⟨hh.1.1,hh.1.2,hh.2,A,hLe,hiff.1 h⟩,fun h=>?_⟩
  ·show Ending.returned (.bool (b && true)) = _;rw [Bool.and_true]
  ·obtain ⟨_,_,_,A',hA',hs⟩:=h
   exact hiff.2 (by rw [hLe.uniq hA'];exact hs)
end Go.Proofs.YtleofbpepfmfgaaGreatDoor
set_option linter.unusedSimpArgs false
set_option linter.unusedVariables false
set_option maxRecDepth 100000
namespace Go.Proofs.YtleofbpepfmfgaaGreatDoor
open Go Go.Vx
open Go.Vx.IOp Go.Vx.IR Go.Vx.Opd
theorem can_ex {C:CodeR} {M:Mac} {al:Nat} (h:fitsCode C M = 0) (ha:(al:Int) = C.pr) {n:Int} (hn:0 ≤ n ∧ n ≤ 4194304) {sl:Nat} (hs:sl ≤ 1000):canS C M al n sl = 0:=by
 unfold canS
 rw [if_neg (by simp [h]),if_neg ?_,if_neg (by omega)]
 simp only [Bool.or_eq_true,bne_iff_ne,ne_eq,decide_eq_true_eq,not_or,Decidable.not_not]
 omega
theorem iat_one {m:Mem} {b z':Nat} {z:Int} (h:m b = some (Cells [i z] z')):IAt m (.slice (some ⟨b,0,none⟩) [z].length 1) [z]:=by
 refine ⟨_,1,rfl,(fun h=>by cases h),fun ad ha=>?_,Nat.le_refl _⟩
 cases ha
 exact CellsAt.blk h fun q v hq=>by rw [Nat.zero_add];exact hq
theorem iat_nil (m:Mem):IAt m (.slice none ([]:List Int).length 0) []:=⟨none,0,rfl,fun _=>rfl,(fun ad h=>by cases h),Nat.le_refl _⟩
theorem ex_start:startS exC exM [(7:Int)].length ([]:List Int).length = 0:=by
 unfold startS;rw [ex_fits];rfl
set_option maxHeartbeats 400000 in
theorem alive_ok {m:Mem} {T:Nat} {fr:Nat × Nat} (hm:m 0 = some (.cells ⟨cells0⟩ T fr)) :
  CallsM Tryz.prog 14 [] m fun e m'=>e = .returned (.bool true) ∧ m' = m:=by
 refine calls_of mixed Tryz.func14 ok_biremelaw27_alive rfl ?_
 have hC:=(fits_ok3 ex_fits).1
 conv=>whnf
 refine WCall.mk (example_ok m) ?_
 rintro _ m1 ⟨V,rfl,l1,hV⟩
 conv=>whnf
 refine WNew.ab fun b1 m2 hb1 l2 c2=>?_
 have L2:=l1.trans l2
 conv=>whnf
 refine WCall.mk (simRun_ok (L2 _ _ hm) V exM (hV.mono l2) (iat_one c2) (iat_nil m2) 10 (.inl (by decide))) ?_
 rintro _ m3 ⟨l3,_,hr⟩
 obtain ⟨v,rfl,A1,c1,rfl,_⟩:=hr (can_ex ex_fits rfl (by decide) (by decide))
 rw [show Int.toNat 10 = 10 from rfl,ex_run1]
 have L3:=L2.trans l3
 conv=>whnf
 refine WNew.ab fun b2 m4 hb2 l4 c4=>?_
 conv=>whnf
 refine WNew.ab fun b3 m5 hb3 l5 c5=>?_
 have L5:=(L3.trans l4).trans l5
 have hV5:=hV.mono (((l2.trans l3).trans l4).trans l5)
 conv=>whnf
 refine WCall.mk (simRun_ok (L5 _ _ hm) V exM hV5 (iat_one (l5 _ _ c4)) (iat_one c5) 10 (.inl (by decide))) ?_
 rintro _ m6 ⟨l6,_,hr⟩
 obtain ⟨v,rfl,A2,c2',rfl,_⟩:=hr (can_ex ex_fits rfl (by decide) (by decide))
 rw [show Int.toNat 10 = 10 from rfl,ex_run2]
 have L6:=L5.trans l6
 have hV6:=hV5.mono l6
 conv=>whnf
 refine WCall.mk (strict_ok (L6 _ _ hm) V exM hV6) ?_
 rintro _ m7 ⟨b,A,rfl,l7,_,hst⟩
 obtain ⟨hLe,hiff⟩:=hst ex_fits
 have hb:b = false:=by
  cases b with
  | false=>rfl
  | true=>exact absurd (hiff.1 rfl) (ex_strict hLe)
 subst hb
 rw [ex_fits]
 have L7:=L6.trans l7
 have hV7:=hV6.mono l7
 conv=>whnf
 refine WCall.mk (simWaits_ok (L7 _ _ hm) V exM hV7 1) ?_
 rintro _ m8 ⟨l8,_,_,hw⟩
 obtain ⟨A',hLe',_,_,hw2⟩:=hw ex_fits ⟨by decide,by decide⟩
 obtain ⟨w,hw1,hwl,hw3⟩:=ex_waits hLe'
 obtain ⟨wa,wc,rfl,hI⟩:=hw2 w hw1
 have L8:=L7.trans l8
 have hV8:=hV7.mono l8
 obtain ⟨x,y,rfl⟩:∃ x y,w = [x,y]:=by
  match w,hwl with
  | [x,y],_=>exact ⟨x,y,rfl⟩
 obtain rfl:y = 2:=hw3
 conv=>whnf
 refine WNew.ab fun b4 m9 hb4 l9 c9=>?_
 have L9:=L8.trans l9
 conv=>whnf
 have hst:=simStart_ok (C:=exC) (args:=[7]) (sh:=[]) (L9 _ _ hm) V exM (hV8.mono l9) (iat_one c9) (iat_nil m9)
 refine WCall.mk hst ?_
 rintro _ m10 ⟨l10,_,hs⟩
 obtain ⟨p,mb,V',sv,H,rfl,lb,hB,hS⟩:=hs ex_start
 have L10:=L9.trans l10
 conv=>whnf
 refine WSc.mk (v:=false) (fun _=>And.intro (Mem.le.refl _) rfl) ?_
 conv=>whnf
 refine Br.mk (fun hh=>by cases hh) (fun _=>?_)
 have hG:=begin_good hC (args:=[7]) (by decide)
 conv=>whnf
 refine WCall.mk (sRun_ok hS hB hG 1 (by decide) (by decide) (Nat.zero_le _)) ?_
 rintro _ m11 ⟨H2,v,G2,rfl,A3,c3,rfl,_⟩
 have hG2:=Good.run (M:=exM) (sh:=[]) hC (n:=1) hG
 rw [ex_run3] at G2 hG2
 rw [ex_run3]
 have h2:=G2.at'
 conv=>whnf
 refine WCall.pure (sOnWay_ok h2 hB) ?_
 conv=>whnf
 refine WCall.mk (sSettle_ok h2 hB hG2 (by decide)) ?_
 rintro _ m12 ⟨rfl,H3,G3⟩
 have h3:=G3.at'
 conv=>whnf
 refine WCall.pure (sReg_ok h3 hB 1) ?_
 rw [if_pos (by decide)]
 have hfin:Mem.le m m12:=(L9.trans lb).trans h3.le
 obtain ⟨wa',wc',ew,w0,w1,_⟩:=hI
 injection ew with ew1 ew2 ew3
 subst ew1;subst ew3
 obtain ⟨ad,rfl⟩:∃ ad,wa = some ad:=by
  cases wa with
  | none=>have:=w0 rfl;cases this
  | some ad=>exact ⟨ad,rfl⟩
 have hI12:CellAt m12 (ad.add 1) (i 2):=(w1 ad rfl 1 _ rfl).mono ((l9.trans lb).trans h3.le)
 conv=>whnf
 refine WSc.mk (v:=true) (fun _=>And.intro (Mem.le.refl _) rfl) ?_
 conv=>whnf
 refine WSc.mk (v:=true) (fun _=>And.intro (Mem.le.refl _) rfl) ?_
 conv=>whnf
 refine WSc.mk (v:=true) (fun _=>And.intro (Mem.le.refl _) rfl) ?_
 conv=>whnf
 refine WSc.mk (v:=true) (fun _=>And.intro (Mem.le.refl _) rfl) ?_
 conv=>whnf
 refine WSc.mk (v:=true) (fun _=>And.intro (Mem.le.refl _) rfl) ?_
 conv=>whnf
 refine WSc.mk (v:=true) (fun _=>And.intro (Mem.le.refl _) rfl) ?_
 conv=>whnf
 refine WSc.mk (v:=true) (fun _=>And.intro (Mem.le.refl _) rfl) ?_
 conv=>whnf
 refine WSc.mk (v:=true) (fun _=>And.intro (Mem.le.refl _) rfl) ?_
 conv=>whnf
 refine WSc.mk (v:=true) (fun _=>And.intro (Mem.le.refl _) rfl) ?_
 conv=>whnf
 refine WSc.mk (v:=true) (fun _=>?_) ?_
 ·conv=>whnf
  refine WIdx.mk ad rfl ⟨by decide,show (1:Int) < (2:Nat) by decide⟩ ?_
  conv=>whnf
  refine WLd.mk (i 2) hI12 ?_
  conv=>whnf
  exact And.intro (Mem.le.refl _) rfl
 conv=>whnf
 refine WSc.mk (v:=true) (fun _=>And.intro (Mem.le.refl _) rfl) ?_
 conv=>whnf
 refine WSc.mk (v:=true) (fun _=>And.intro (Mem.le.refl _) rfl) ?_
 conv=>whnf
 refine WSc.mk (v:=true) (fun _=>And.intro (Mem.le.refl _) rfl) ?_
 conv=>whnf
 refine WSc.mk (v:=true) (fun _=>And.intro (Mem.le.refl _) rfl) ?_
 conv=>whnf
 refine WSc.mk (v:=true) (fun _=>And.intro (Mem.le.refl _) rfl) ?_
 conv=>whnf
 refine WSc.mk (v:=true) (fun _=>And.intro (Mem.le.refl _) rfl) ?_
 conv=>whnf
 refine WSc.mk (v:=true) (fun _=>And.intro (Mem.le.refl _) rfl) ?_
 conv=>whnf
 exact WRet.mk hfin ⟨rfl,rfl⟩
end Go.Proofs.YtleofbpepfmfgaaGreatDoor
set_option linter.unusedSimpArgs false
set_option linter.unusedVariables false
set_option maxRecDepth 100000
namespace Go.Proofs.YtleofbpepfmfgaaGreatDoor
open Go Go.Vx
open Go.Vx.IOp Go.Vx.IR Go.Vx.Opd
theorem can_strict {C:CodeR} {M:Mac} {al:Nat} (h:fitsCode C M = 0) (ha:(al:Int) = C.pr) {n:Int} (hn:0 ≤ n ∧ n ≤ 4194304) {sl:Nat} (hs:sl ≤ 1000):canS C M al n sl = 0:=by
 unfold canS
 rw [if_neg (by simp [h]),if_neg ?_,if_neg (by omega)]
 simp only [Bool.or_eq_true,bne_iff_ne,ne_eq,decide_eq_true_eq,not_or,Decidable.not_not]
 omega
theorem lat_all {M:Mac} (h:M.ok = true) (j:Nat):1 ≤ M.lat j:=by
 match j with
 | 0=>exact (lat_in h (q:=0) (by decide)).1
 | 1=>exact (lat_in h (q:=1) (by decide)).1
 | 2=>exact (lat_in h (q:=2) (by decide)).1
 | j + 3=>exact (lat_in h (q:=3) (by decide)).1
section
variable {m0 m:Mem} {P:List Int} {kd nn:Int} {k:Int} {A B:Option Addr} {c d:Nat}

end
section
variable {m0 m:Mem} {T:Nat} {fr:Nat × Nat} {V:CV} {C:CodeR} {M:Mac} {aa:Option Addr} {ca:Nat} {args:List Int}
theorem lim400 {C:CodeR} {M:Mac} {sh:List Int} (hC:CodeOK C) {args:List Int} (hal:args.length ≤ C.rg.toNat) {n:Nat} (hn:n ≤ 1000):(runS C M sh n (beginS C args)).prints.length ≤ 1000000000:=by
 have:=(Good.run (M:=M) (sh:=sh) hC (n:=n) (begin_good hC hal)).lim.prints
 omega
theorem StrictIs.fit (hs:StrictIs C M args.length):CodeOK (cut27 C) ∧ M.ok = true ∧ args.length ≤ (cut27 C).rg.toNat:=by
 obtain ⟨a,b⟩:=fits_ok3 hs.2.1
 have:=a.pr
 have h3:(args.length:Int) = (cut27 C).pr:=hs.2.2.1
 exact ⟨a,b,by omega⟩

end
end Go.Proofs.YtleofbpepfmfgaaGreatDoor
