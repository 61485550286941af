import Derived.Test.YtleofbpepfmfgaaGreatDoorVxChk
import Derived.Below
set_option maxRecDepth 100000
namespace Go.Proofs.YtleofbpepfmfgaaGreatDoor
open Go Go.Vx
open Go.Vx.IOp Go.Vx.IR Go.Vx.Opd
def endJ:Value:=.agg ⟨[i 1,i 0,i 0,i 0]⟩
theorem k3d {m:Mem} {pb:Nat} {a1 a2:Option Addr} {n1 c1 c2:Nat} {pr rg cd sp:Int} (h:q6a m pb (.slice a1 n1 c1) pr rg cd sp (.slice a2 1 c2)) :
  q0f Tryz.prog 167 [ptr pb,endJ] m (ChkE 0 m):=by
 refine q0e q0d Tryz.func167 w2w rfl ?_
 have hbl:q0q m (((⟨pb,0,none⟩:Addr).add 0).add 5) (.slice a2 1 c2):=by rw [add0,addo,Nat.zero_add];exact h.cell rfl
 refine WSc.mk (fun _=>And.intro (Mem.le.refl _) rfl) ?_
 refine WChk.mk (q3w h _ _) (fun _=>?_) (fun hb u v=>absurd hb (by decide))
 refine z0f ?_
 refine v5n ?_
 refine v7a ?_
 refine z7e ?_
 refine q6m ?_
 refine q9k ?_
 refine ws_n (.ref 3 0) rfl rfl rfl rfl (fun F h=>h) ?_
 refine ws_n (.val (i 1)) rfl rfl rfl rfl (fun F h=>h) ?_
 refine ws_n (.val (.bool true)) rfl rfl rfl rfl (fun F h=>h) ?_
 refine z8f (b:=true) rfl rfl rfl rfl (fun F h=>h) (fun _=>?_) (fun h=>by cases h)
 refine q6l rfl rfl rfl rfl ?_
 refine q6l rfl rfl rfl rfl ?_
 refine q6l rfl rfl rfl rfl ?_
 refine ws_n (.val (.bool true)) rfl rfl rfl rfl (fun F h=>pk_t h) ?_
 refine ws_n (.ref 3 0) rfl rfl rfl rfl (fun F h=>h) ?_
 refine ws_n (.val (i 1)) rfl rfl rfl rfl (fun F h=>h) ?_
 refine ws_n (.val (.bool false)) rfl rfl rfl rfl (fun F h=>h) ?_
 refine ws_n (.val (.bool true)) rfl rfl rfl rfl (fun F h=>h) ?_
 refine ws_n (.val (.bool false)) rfl rfl rfl rfl (fun F h=>h) ?_
 refine z6g ?_
 refine WChk.mk (z1g h _ _) (fun _=>?_) (fun hb u v=>absurd hb (by simp [regB]))
 refine z0f ?_
 refine v5n ?_
 refine v7a ?_
 refine z7e ?_
 refine q6m ?_
 refine q9k ?_
 refine ws_n (.val (ptr pb)) rfl rfl rfl rfl (fun F h=>h) ?_
 refine ws_n (.val (.bool true)) rfl rfl rfl rfl (fun F h=>h) ?_
 refine ws_n (.val (.bool false)) rfl rfl rfl rfl (fun F h=>h) ?_
 refine z8f (b:=false) rfl rfl rfl rfl (fun F h=>h) (fun h=>by cases h) (fun _=>?_)
 refine ws_g (.ref 3 2) rfl rfl rfl rfl rfl (fun F h=>h) ?_
 refine ws_g (.val (i 0)) rfl rfl rfl rfl rfl (fun F h=>h) ?_
 refine ws_g (.val (ptr pb)) rfl rfl rfl rfl rfl (fun F h=>h) ?_
 refine ws_g (.val (ptr pb)) rfl rfl rfl rfl rfl (fun F h=>h) ?_
 refine ws_g (.val (.pointer (some ((⟨pb,0,none⟩:Addr).add 0)))) rfl rfl rfl rfl rfl (fun F h=>h) ?_
 refine ws_g (.val (.pointer (some (((⟨pb,0,none⟩:Addr).add 0).add 5)))) rfl rfl rfl rfl rfl (fun F h=>h) ?_
 refine v0m rfl rfl rfl ?_
 refine WLd.mk (.slice a2 1 c2) hbl ?_
 refine z0f ?_
 refine ws_g (.val (i 1)) rfl rfl rfl rfl rfl (fun F h=>h) ?_
 refine v0m rfl rfl rfl ?_
 conv=>whnf
 refine q0a.pure (z7q _ _ _) ?_
 refine z0f ?_
 refine ws_n (.val (.bool true)) rfl rfl rfl rfl (fun F h=>pk_f h) ?_
 refine ws_a rfl ?_
 refine WChk.mk (q3w h _ _) (fun _=>?_) (fun hb u v=>absurd hb (by decide))
 refine z0f ?_
 refine z6g ?_
 refine z7e ?_
 refine q6m ?_
 refine q9k ?_
 refine ws_n (.val (ptr pb)) rfl rfl rfl rfl (fun F h=>h) ?_
 refine ws_n (.val (.bool false)) rfl rfl rfl rfl (fun F h=>h) ?_
 refine ws_n (.val (.bool true)) rfl rfl rfl rfl (fun F h=>h) ?_
 refine z8f (b:=true) rfl rfl rfl rfl (fun F h=>h) (fun _=>?_) (fun h=>by cases h)
 refine q6l rfl rfl rfl rfl ?_
 refine q6l rfl rfl rfl rfl ?_
 refine q6l rfl rfl rfl rfl ?_
 refine q6l rfl rfl rfl rfl ?_
 refine q6l rfl rfl rfl rfl ?_
 refine q6l rfl rfl rfl rfl ?_
 refine v1u rfl rfl rfl rfl ?_
 refine q6l rfl rfl rfl rfl ?_
 refine v1u rfl rfl rfl rfl ?_
 refine ws_n (.val (.bool true)) rfl rfl rfl rfl (fun F h=>pk_t h) ?_
 refine ws_a rfl ?_
 refine WChk.mk (q3w h _ _) (fun _=>?_) (fun hb u v=>absurd hb (by decide))
 refine z0f ?_
 refine z6g ?_
 refine WSc.mk (fun _=>And.intro (Mem.le.refl _) rfl) ?_
 refine WSc.mk (v:=true) (fun _=>?_) ?_
 ·refine WSc.mk (v:=true) (fun h=>by cases h) ?_
  conv=>whnf
  exact And.intro (Mem.le.refl _) rfl
 refine WSc.mk (v:=true) (fun _=>?_) ?_
 ·refine WSc.mk (v:=true) (fun h=>?_) ?_
  ·conv=>whnf
   exact And.intro (Mem.le.refl _) rfl
  conv=>whnf
  exact And.intro (Mem.le.refl _) rfl
 refine WChk.mk (q3w h _ _) (fun _=>?_) (fun hb u v=>absurd hb (by decide))
 exact WRet.same ⟨rfl,(fun _=>rfl),fun h=>absurd rfl h⟩
theorem q6a.st {m0 m:Mem} {pb:Nat} {sv bv:Value} {pr rg cd sp:Int} (h:q6a m pb sv pr rg cd sp bv) (hle:Mem.le m0 m) (hpb:m0 pb=none) {a:Addr} {z:Int} {K:Mem→Prop} (ha:a=⟨pb,6,none⟩∨a=⟨pb,7,none⟩)
  (k:∀ m',Mem.le m0 m'→q6a m' pb sv pr rg cd sp bv→K m'):WSt m a [i z] K:=by
 obtain ⟨x,y,h⟩:=h
 rcases ha with rfl | rfl
 ·refine WSt.mk _ _ h rfl (by simp) (k _ (q2n hle hpb) ⟨z,y,?_⟩)
  rw [Mem.set_same];rfl
 ·refine WSt.mk _ _ h rfl (by simp) (k _ (q2n hle hpb) ⟨x,z,?_⟩)
  rw [Mem.set_same];rfl
def z1j (n:Int):Bool:=decide (n<1)||decide (n>65536)
theorem k6f (m:Mem) (n:Int):q0m Tryz.prog 164 [i n] m (.bool (z1j n)):=by
 refine q0e q0d Tryz.func164 k9a rfl ?_
 refine WSc.mk (fun _=>And.intro (Mem.le.refl _) rfl) ?_
 exact WRet.same ⟨rfl,rfl⟩
theorem z0w:∀ {L:List Int} {k:Nat} (hk:k<L.length),(∀ j (hj:j<L.length),j<k→L[j]=0)→L[k]≠0→q3d L=L[k]
 | x :: L,0,hk,_,h=>by unfold q3d;rw [if_neg (by simpa using h)];rfl
 | x :: L,k+1,hk,hq,h=>by
  have h0:x=0:=hq 0 (by simp) (by omega)
  unfold q3d
  rw [if_pos h0]
  exact z0w (L:=L) (k:=k) (by simpa using hk) (fun j hj hjk=>hq (j+1) (by simpa using hj) (by omega)) (by simpa using h)
def q4u (C:q0c) (O:List OpR):Int:=if q3c C≠0 then q3c C else q3d (O.map (opE C.rg C.sz.length C.sp 1))
def ChkU (m0:Mem) (e:Int) (en:Ending) (m':Mem):Prop:=Mem.le m0 m'∧(e=0→en=.returned q2r)∧(e≠0→∃ x y,en=.panicked (panE x y e))
theorem k8n {m0 m:Mem} {T:Nat} {fr:Nat×Nat} (hm:m0 0=some (.cells ⟨q2f⟩ T fr)) {pb:Nat} (hpb:m0 pb=none) (hle:Mem.le m0 m) (C:q0c) {a1:Option Addr} {n1 c1:Nat} (hsz:IAt m0 (.slice a1 n1 c1) C.sz) (hszl:C.sz.length<2 ^ 63)
  {ad2:Addr} {c2:Nat} {a3:Option Addr} {n3 c3:Nat} {O:List OpR} (hb:q0g m0 ad2 [.slice a3 n3 c3,i 1,i 0,i 0,i 0,i (-1)]) (hO:OAt m0 (.slice a3 n3 c3) O) (hOl:O.length≤400)
  (h:q6a m pb (.slice a1 n1 c1) C.pr C.rg C.cd C.sp (.slice (some ad2) 1 c2)) :
  q0f Tryz.prog 148 [ptr pb] m (ChkU m0 (q4u C O)):=by
 have hn1:n1=C.sz.length:=by obtain ⟨_,_,e,_⟩:=hsz;cases e;rfl
 have hn3:n3=O.length:=by obtain ⟨_,_,e,_⟩:=hO;cases e;rfl
 subst hn1;subst hn3
 refine q0e q0d Tryz.func148 k6l rfl ?_
 have stop:∀ {m':Mem} {e:Int} {u v:Int},Mem.le m0 m'→q4u C O=e→e≠0→ChkU m0 (q4u C O) (.panicked (panE u v e)) m':=fun {m' e u v} hl h1 h2=>⟨hl,(fun h=>absurd (h1.symm.trans h) h2),fun _=>⟨u,v,by rw [h1]⟩⟩
 refine WLds.mk [.slice a1 C.sz.length c1,i C.pr,i C.rg,i C.cd,i C.sp,.slice (some ad2) 1 c2] (fun j v hj=>by rw [add0];rw [addo,Nat.zero_add];exact h.cell hj) rfl ?_
 refine WSc.mk (fun _=>And.intro (Mem.le.refl _) rfl) ?_
 refine WSc.mk (fun _=>And.intro (Mem.le.refl _) rfl) ?_
 refine WSc.mk (fun _=>And.intro (Mem.le.refl _) rfl) ?_
 refine WSc.mk (fun _=>And.intro (Mem.le.refl _) rfl) ?_
 refine WChk.mk (q3w h _ _) (fun g1=>?_) (fun hb u v=>?_)
 rotate_left
 ·have hb:((((decide ((C.sz.length:Int)≤16)&&decide ((1:Int)≥1))&&decide ((1:Int)≤2000))&&decide (C.rg≤4096))&&decide (C.sp≤4096))=false:=hb
  have hc:q3c C=3:=by
   unfold q3c
   rw [if_pos]
   simp only [Bool.and_eq_false_iff,decide_eq_false_iff_not] at hb
   omega
  exact WRet.same (stop hle (by unfold q4u;rw [if_pos (by rw [hc];decide),hc]) (by decide))
 have g1:((((decide ((C.sz.length:Int)≤16)&&decide ((1:Int)≥1))&&decide ((1:Int)≤2000))&&decide (C.rg≤4096))&&decide (C.sp≤4096))=true:=g1
 have hc1:¬ (C.sz.length>16∨C.rg>4096∨C.sp>4096):=by
  simp only [Bool.and_eq_true,decide_eq_true_eq] at g1
  omega
 conv=>whnf
 refine q0a.pure (z1q (first:=[]) (caps:=[]) (hsz.mono hle) hszl z1j (fun x _=>k6f _ x)) ?_
 refine WChk.mk (q3w h _ _) (fun g2=>?_) (fun hb u v=>?_)
 rotate_left
 ·have hb:C.sz.any z1j=true:=q7s hb
  have hc:q3c C=2:=by
   unfold q3c
   rw [if_neg hc1,if_pos (show (C.sz.any fun n=>decide (n<1)||decide (n>65536))=true from hb)]
  exact WRet.same (stop hle (by unfold q4u;rw [if_pos (by rw [hc];decide),hc]) (by decide))
 have g2:C.sz.any z1j=false:=q9g g2
 refine WSc.mk (fun _=>And.intro (Mem.le.refl _) rfl) ?_
 refine WSc.mk (fun _=>And.intro (Mem.le.refl _) rfl) ?_
 refine WSc.mk (fun _=>And.intro (Mem.le.refl _) rfl) ?_
 refine WSc.mk (fun _=>And.intro (Mem.le.refl _) rfl) ?_
 refine WSc.mk (v:=inB C.cd C.rg) (fun _=>?_) ?_
 ·conv=>whnf
  refine q0a.pure (z7q _ _ _) ?_
  exact And.intro (Mem.le.refl _) rfl
 refine WChk.mk (q3w h _ _) (fun g3=>?_) (fun hb u v=>?_)
 rotate_left
 ·have hb:(((((decide (C.rg≥1)&&decide (C.sp≥0))&&decide (C.pr≥0))&&decide (C.pr≤8))&&decide (C.pr≤C.rg))&&inB C.cd C.rg)=false:=hb
  have hc:q3c C=2:=by
   unfold q3c
   rw [if_neg hc1,if_neg (by rw [show (C.sz.any fun n=>decide (n<1)||decide (n>65536))=false from g2];decide),if_pos]
   unfold inB at hb
   simp only [Bool.and_eq_false_iff,decide_eq_false_iff_not] at hb
   omega
  exact WRet.same (stop hle (by unfold q4u;rw [if_pos (by rw [hc];decide),hc]) (by decide))
 have g3:(((((decide (C.rg≥1)&&decide (C.sp≥0))&&decide (C.pr≥0))&&decide (C.pr≤8))&&decide (C.pr≤C.rg))&&inB C.cd C.rg)=true:=g3
 have hc:q3c C=0:=by
  unfold q3c
  rw [if_neg hc1,if_neg (by rw [show (C.sz.any fun n=>decide (n<1)||decide (n>65536))=false from g2];decide),if_neg]
  unfold inB at g3
  simp only [Bool.and_eq_true,decide_eq_true_eq] at g3
  omega
 have hcode:q4u C O=q3d (O.map (opE C.rg C.sz.length C.sp 1)):=by unfold q4u;rw [if_neg (by rw [hc];decide)]
 conv=>whnf
 refine q0v.mk Nat (fun k=>[(3,.val (i ((if k=0 then 0 else O.length:Nat):Int))),(83,.val (i k))]) (fun k m'=>Mem.le m0 m'∧q6a m' pb (.slice a1 C.sz.length c1) C.pr C.rg C.cd C.sp (.slice (some ad2) 1 c2)∧k≤1∧(k=1→q4u C O=0)) (fun k=>1 - k) 0
  ⟨rfl,rfl,trivial⟩ ⟨hle,h,Nat.zero_le _,fun e=>by cases e⟩ ?_
 rintro k m1 ⟨hle1,h1,hk,hz⟩
 refine Br.mk (fun hb1=>?_) (fun hb1=>?_)
 ·have hk0:k=0:=by
   have:(k:Int)<1:=of_decide_eq_true hb1
   omega
  subst hk0
  refine WIdx.mk ad2 rfl ⟨by omega,by omega⟩ ?_
  refine WLds.mk [.slice a3 O.length c3,i 1,i 0,i 0,i 0,i (-1)] (fun z v hz=>by rw [q0o];simpa using hb.mono hle1 z v hz) rfl ?_
  conv=>whnf
  refine ⟨?_,trivial⟩
  conv=>whnf
  refine h1.st hle1 hpb (.inl (by rw [add0])) fun m2 hle2 h2=>?_
  conv=>whnf
  refine ⟨?_,trivial⟩
  conv=>whnf
  refine h2.st hle2 hpb (.inr (by rw [add0])) fun m3 hle3 h3=>?_
  refine WSc.mk (v:=true) (fun hh=>by cases hh) ?_
  refine WChk.mk (q3w h3 _ _) (fun _=>?_) (fun hb u v=>by cases hb)
  refine WChk.mk (q3w h3 _ _) (fun _=>?_) (fun hb u v=>absurd (of_decide_eq_false hb) (by omega))
  conv=>whnf
  refine q0v.mk Nat (fun j=>[(120,.val (i j))]) (fun j m'=>Mem.le m0 m'∧q6a m' pb (.slice a1 C.sz.length c1) C.pr C.rg C.cd C.sp (.slice (some ad2) 1 c2)∧j≤O.length∧∀ q (hq:q<O.length),q<j→opE C.rg C.sz.length C.sp 1 O[q]=0) (fun j=>O.length - j) 0
   ⟨rfl,trivial⟩ ⟨hle3,h3,Nat.zero_le _,fun q hq hh=>by omega⟩ ?_
  rintro j m4 ⟨hle4,h4,hj,hq4⟩
  refine Br.mk (fun hb2=>?_) (fun hb2=>?_)
  ·have hj2:j<O.length:=by
    have:(j:Int)<O.length:=of_decide_eq_true hb2
    omega
   obtain ⟨a3',c3',e3,hx0,hx1,_⟩:=hO
   cases e3
   obtain ⟨ad3,rfl⟩:∃ ad,a3=some ad:=by
    cases a3 with
    | none=>rw [hx0 rfl] at hj2;simp at hj2
    | some ad=>exact ⟨ad,rfl⟩
   have hcells:=(OAt.cells (hx1 ad3 rfl) hj2).mono hle4
   refine WIdx.mk ad3 rfl ⟨by omega,by simpa using hj2⟩ ?_
   refine WLds.mk (O[j]).cells (by simpa using hcells) rfl ?_
   conv=>whnf
   refine h4.st hle4 hpb (.inr (by rw [add0])) fun m5 hle5 h5=>?_
   conv=>whnf
   refine v2k.mk (k4c (hle5 _ _ hm) h5 O[j]) (fun hz=>?_) (fun hz u v=>?_)
   ·refine WRng.mk (by apply wrap_i64<;>omega) ?_
    conv=>whnf
    refine ⟨j+1,⟨rfl,trivial⟩,⟨hle5,h5,hj2,fun q hq hh=>?_⟩,by omega⟩
    by_cases e:q=j
    ·subst e;exact hz
    ·exact hq4 q hq (by omega)
   ·refine WRet.same (stop hle5 ?_ hz)
    rw [hcode]
    exact z0w (L:=O.map (opE C.rg C.sz.length C.sp 1)) (k:=j) (by simpa using hj2) (fun q hq hqj=>by simpa using hq4 q (by simpa using hq) hqj) (by simpa using hz) |>.trans (by simp)
  ·have hj2:j=O.length:=by
    have:¬ (j:Int)<O.length:=of_decide_eq_false hb2
    omega
   subst hj2
   have hall:q3d (O.map (opE C.rg C.sz.length C.sp 1))=0:=q8x.2 fun x hx=>by
    obtain ⟨o,ho,rfl⟩:=List.mem_map.1 hx
    obtain ⟨q,hq,rfl⟩:=List.getElem_of_mem ho
    exact hq4 q hq hq
   conv=>whnf
   refine h4.st hle4 hpb (.inr (by rw [add0])) fun m5 hle5 h5=>?_
   conv=>whnf
   refine v2k.mk (k3d h5) (fun _=>?_) (fun hz u v=>absurd rfl hz)
   refine WRng.mk (by rw [if_pos rfl];apply wrap_i64<;>omega) ?_
   refine WRng.mk (by apply wrap_i64<;>omega) ?_
   conv=>whnf
   exact ⟨1,⟨by simp;rfl,rfl,trivial⟩,⟨hle5,h5,Nat.le_refl _,fun _=>by rw [hcode];exact hall⟩,by decide⟩
 ·have hk1:k=1:=by
   have:¬ (k:Int)<1:=of_decide_eq_false hb1
   omega
  subst hk1
  have h0:=hz rfl
  conv=>whnf
  refine h1.st hle1 hpb (.inl (by rw [add0])) fun m2 hle2 h2=>?_
  conv=>whnf
  refine h2.st hle2 hpb (.inr (by rw [add0])) fun m3 hle3 h3=>?_
  refine WChk.mk (q3w h3 _ _) (fun _=>?_) (fun hb u v=>absurd (of_decide_eq_false hb) (by simp;omega))
  exact WRet.same ⟨hle3,(fun _=>rfl),fun hh=>absurd h0 hh⟩
end Go.Proofs.YtleofbpepfmfgaaGreatDoor
set_option maxRecDepth 100000
namespace Go.Proofs.YtleofbpepfmfgaaGreatDoor
open Go Go.Vx
def z3m (x y e:Int):Value:=.agg #[.int .i64 x,.int .i64 y,.int .i64 e]
theorem k1a (v:Value) (W:World):(Instr.typeAssert (.iface 186 v) 20 186 true).run Tryz.prog W=.ok (.tuple #[v,.bool true]) W:=by kernel_rfl
theorem j7k (b:Bool) (W:World):(Op.unary UnOp.not (.bool b)).run Tryz.prog W=.ok (.bool (!b)) W:=rfl
theorem z0v {w:World} {b off T:Nat} {c:Array Value} {v:Value} (h:w.heap[b]? = some (.cells c T (0,0))):(w.setCell ⟨b,off,none⟩ v).heap[b]? = some (.cells (c.setIfInBounds off v) T (0,0)):=by
 unfold World.setCell
 rw [Array.getElem?_modify,if_pos rfl,h]
 simp only [Option.map_some,Option.isSome_none,Bool.false_eq_true,if_false]
theorem j8s (w:World) (a:Addr) (v:Value) {k:Nat} (h:k≠a.block):(w.setCell a v).heap[k]? = w.heap[k]?:=by
 unfold World.setCell
 rw [Array.getElem?_modify,if_neg (fun hh=>h hh.symm)]
structure q6g (p:Nat) (w w':World):Prop where
 size:w.heap.size≤w'.heap.size
 keep:∀ k,k<w.heap.size→k≠p→w'.heap[k]? = w.heap[k]?
 tape:w'.tape=w.tape
 os:w'.os=w.os
 out:w'.output=w.output
theorem q6g.set {p:Nat} {w w':World} (h:q6g p w w') {b off:Nat} (v:Value) (hb:b=p∨w.heap.size≤b):q6g p w (w'.setCell ⟨b,off,none⟩ v) :=
 ⟨by show _≤(Array.modify _ _ _).size;rw [Array.size_modify];exact h.size,fun k h1 h2=>by rw [j8s _ _ _ (show k≠b by rcases hb with e | e<;>omega)];exact h.keep k h1 h2,h.tape,h.os,h.out⟩
def newF (w:World) (x y e:Int):World:=(((w.alloc (.cells #[.int .i64 0,.int .i64 0,.int .i64 0] 186)).setCell ⟨w.heap.size,0,none⟩ (.int .i64 x)).setCell ⟨w.heap.size,1,none⟩ (.int .i64 y)).setCell ⟨w.heap.size,2,none⟩ (.int .i64 e)
theorem v4p (p:Nat) (w:World) (x y e:Int):q6g p w (newF w x y e):=by
 have h0:q6g p w (w.alloc (.cells #[.int .i64 0,.int .i64 0,.int .i64 0] 186)):=⟨by show _≤(w.heap.push _).size;rw [Array.size_push];omega,fun k h1 h2=>by show (w.heap.push _)[k]? = _;rw [Array.getElem?_push,if_neg (by omega)],rfl,rfl,rfl⟩
 have h1:=q6g.set (b:=w.heap.size) (off:=0) h0 (.int .i64 x) (.inr (Nat.le_refl _))
 have h2:=q6g.set (b:=w.heap.size) (off:=1) h1 (.int .i64 y) (.inr (Nat.le_refl _))
 exact q6g.set (b:=w.heap.size) (off:=2) h2 (.int .i64 e) (.inr (Nat.le_refl _))
set_option maxHeartbeats 1000000 in
theorem w4x {p:Nat} {x y e:Int} {w:World} (hc:w.heap[p]? = some (.cells #[.int .i64 0,.int .i64 0,.int .i64 0] 186 (0,0))) :
  CallsD Tryz.prog 147 #[.pointer (some ⟨p,0,none⟩)] (.panicking [{ v:=.iface 186 (z3m x y e),recovered:=false }]) w fun en u' w'=>en=.returned (.tuple #[])∧u'=.panicking [{ v:=.iface 186 (z3m x y e),recovered:=true }] ∧
   w'.heap[p]? = some (.cells #[.int .i64 x,.int .i64 y,.int .i64 e] 186 (0,0))∧q6g p w w':=by
 refine callsD_of_wpS Tryz.func147 rfl fun c₀ cs hu=>?_
 apply wpS_seq
 apply wpS_region
 simp [wpOpsS,go_sem,recoverD,hu,Tryz.ntmps147,Exit.thenS,z3m]
 apply wpS_seq
 apply wpS_region
 simp [wpOpsS,go_sem,Exit.thenS,Tryz.underlying20]
 refine wpS_cond (t:=true) (by simp [Act.eval,Array.replicate]) ?_
 simp only [if_true]
 apply wpS_seq
 apply wpS_region
 simp [wpOpsS,go_sem,Exit.thenS,Array.replicate,k1a]
 have hps:p<w.heap.size:=(Array.getElem?_eq_some_iff.1 hc).1
 generalize hw1:((((w.alloc (.cells #[.int .i64 0,.int .i64 0,.int .i64 0] 186)).setCell ⟨w.heap.size,0,none⟩ (.int .i64 x)).setCell ⟨w.heap.size,1,none⟩ (.int .i64 y)).setCell ⟨w.heap.size,2,none⟩ (.int .i64 e))=w1
 have hw1:newF w x y e=w1:=hw1
 have hn:w1.heap[w.heap.size]? = some (.cells #[.int .i64 x,.int .i64 y,.int .i64 e] 186 (0,0)):=by
  rw [← hw1];exact z0v (z0v (z0v (c:=#[.int .i64 0,.int .i64 0,.int .i64 0]) (show (w.heap.push (.cells #[.int .i64 0,.int .i64 0,.int .i64 0] 186))[w.heap.size]? = _ by rw [Array.getElem?_push,if_pos rfl])))
 have hp:w1.heap[p]? = some (.cells #[.int .i64 0,.int .i64 0,.int .i64 0] 186 (0,0)):=by
  rw [← hw1,(v4p w.heap.size w x y e).keep p hps (by omega)];exact hc
 have hbs:q6g p w w1:=by rw [← hw1];exact v4p p w x y e
 clear hw1 hc
 apply wpS_seq
 apply wpS_seq
 apply wpS_region
 simp [wpOpsS,go_sem,Exit.thenS,j7k]
 refine wpS_cond (t:=false) (by simp [Act.eval]) ?_
 simp only [Bool.false_eq_true,if_false]
 refine wpS_of_wp (wp_skip ?_)
 show Code.wpS _ _ _ _ _ _
 apply wpS_region
 have q0:w1.cell? ⟨w.heap.size,0,none⟩=some (.int .i64 x):=by simp [World.cell?,hn]
 have q1:w1.cell? ⟨w.heap.size,1,none⟩=some (.int .i64 y):=by simp [World.cell?,hn]
 have q2:w1.cell? ⟨w.heap.size,2,none⟩=some (.int .i64 e):=by simp [World.cell?,hn]
 have z0:w1.cell? ⟨p,0,none⟩=some (.int .i64 0):=by simp [World.cell?,hp]
 have z1:w1.cell? ⟨p,1,none⟩=some (.int .i64 0):=by simp [World.cell?,hp]
 have z2:w1.cell? ⟨p,2,none⟩=some (.int .i64 0):=by simp [World.cell?,hp]
 have f0:w1.frozen? ⟨p,0,none⟩=false:=by simp [World.frozen?,hp]
 have f1:w1.frozen? ⟨p,1,none⟩=false:=by simp [World.frozen?,hp]
 have f2:w1.frozen? ⟨p,2,none⟩=false:=by simp [World.frozen?,hp]
 simp [wpOpsS,go_sem,q0,q1,q2,z0,z1,z2,f0,f1,f2]
 have fin:(((w1.setCell ⟨p,0,none⟩ (.int .i64 x)).setCell ⟨p,1,none⟩ (.int .i64 y)).setCell ⟨p,2,none⟩ (.int .i64 e)).heap[p]? = some (.cells #[.int .i64 x,.int .i64 y,.int .i64 e] 186 (0,0)):=z0v (z0v (z0v hp))
 have fin2:q6g p w (((w1.setCell ⟨p,0,none⟩ (.int .i64 x)).setCell ⟨p,1,none⟩ (.int .i64 y)).setCell ⟨p,2,none⟩ (.int .i64 e)):=((hbs.set _ (.inl rfl)).set _ (.inl rfl)).set _ (.inl rfl)
 cases c₀
 simp_all [bodyPostS,results,Tryz.results147]
set_option maxHeartbeats 1000000 in
theorem k9o (a b c d e f:Value) (w:World) (R:Ending→World→Prop)
  (H:Calls Tryz.prog 148 #[.pointer (some ⟨w.heap.size+2,0,none⟩)] (((w.alloc (.cells #[a,b,c,d,e,f] 156)).alloc (.cells #[.int .i64 0,.int .i64 0,.int .i64 0] 186)).alloc (.cells #[a,b,c,d,e,f,.int .i64 0,.int .i64 0] 219)) fun en w4=>w4.heap[w.heap.size+1]? = some (.cells #[.int .i64 0,.int .i64 0,.int .i64 0] 186) ∧
   (((∃ v,en=.returned v)∧R (.returned (.agg #[.int .i64 0,.int .i64 0,.int .i64 0])) w4)∨∃ x y e:Int,en=.panicked [{ v:=.iface 186 (z3m x y e),recovered:=false }]∧∀ w5,q6g (w.heap.size+1) w4 w5→R (.returned (.agg #[.int .i64 x,.int .i64 y,.int .i64 e])) w5)) :
  Calls Tryz.prog 123 #[.agg #[a,b,c,d,e,f]] w R:=by
 have hmf:∀ (fn:Go.Fn) (first cap:Array Value) (w:World),(Instr.makeFunc fn first cap).run Tryz.prog w=.ok (.func fn first cap) w:=fun _ _ _ _=>rfl
 have hbd:∀ w,(Instr.build 219 #[(0,.agg #[a,b,c,d,e,f])]).run Tryz.prog w=.ok (.agg #[a,b,c,d,e,f,.int .i64 0,.int .i64 0]) w:=fun w =>
  (by have h:=Go.Vx.run_build (P:=Tryz.prog) (cs:=[a,b,c,d,e,f,.int .i64 0,.int .i64 0]) (rel1 (.agg #[a,b,c,d,e,f]) w) (t:=219) (zeros:=[ns,i 0,i 0,i 0,i 0,ns,i 0,i 0]) (ps:=[(0,6,.t 0)]) (qs:=#[(0,.tmp 0)]) (by kernel_rfl) (by kernel_rfl) (by kernel_rfl) rfl rfl
      simpa [Act.eval] using h)
 have hbz:∀ w,(Instr.build 186 #[]).run Tryz.prog w=.ok (.agg #[.int .i64 0,.int .i64 0,.int .i64 0]) w:=fun w =>
  (by have h:=Go.Vx.run_build (P:=Tryz.prog) (rel1 (.int .i64 0) w) (t:=186) (zeros:=[i 0,i 0,i 0]) (ps:=[]) (qs:=#[]) (by kernel_rfl) (by kernel_rfl) (by kernel_rfl) rfl rfl
      simpa [Act.eval] using h)
 go_enter_defers Tryz.func123,Tryz.ntmps123
 go_wp2_with (go_at_call 148;refine H.mono ?_;rintro en w4 ⟨hc,hR⟩;rcases hR with ⟨⟨v,rfl⟩,hR⟩ | ⟨x,y,ee,rfl,hR⟩;have h0:w4.cell? ⟨w.heap.size+1,0,none⟩=some (.int .i64 0):=(by simp [World.cell?,hc]);have h1:w4.cell? ⟨w.heap.size+1,1,none⟩=some (.int .i64 0):=(by simp [World.cell?,hc]);have h2:w4.cell? ⟨w.heap.size+1,2,none⟩=some (.int .i64 0):=(by simp [World.cell?,hc]);have z0:w4.frozen? ⟨w.heap.size+1,0,none⟩=false:=(by simp [World.frozen?,hc]);have z1:w4.frozen? ⟨w.heap.size+1,1,none⟩=false:=(by simp [World.frozen?,hc]);have z2:w4.frozen? ⟨w.heap.size+1,2,none⟩=false:=(by simp [World.frozen?,hc]))
 ·refine leaves_cons (f:=147) (args:=#[.pointer (some ⟨w.heap.size+1,0,none⟩)]) (by simp) (by simp [go_sem]) ?_
  refine (j5g ⟨w.heap.size+1,0,none⟩ _).mono ?_
  rintro e u' w'' ⟨rfl,rfl,rfl⟩
  rw [z9h hc (v:=.int .i64 0) rfl,z9h hc (v:=.int .i64 0) rfl,z9h hc (v:=.int .i64 0) rfl]
  refine ⟨.agg #[.int .i64 0,.int .i64 0,.int .i64 0],?_,hR⟩
  simp [results,Tryz.results123,go_sem,hc,World.cell?]
 ·refine leaves_cons (f:=147) (args:=#[.pointer (some ⟨w.heap.size+1,0,none⟩)]) (by simp) (by simp [go_sem]) ?_
  refine (w4x hc).mono ?_
  rintro en u' w'' ⟨rfl,rfl,hcx,hbs⟩
  refine ⟨.agg #[.int .i64 x,.int .i64 y,.int .i64 ee],?_,hR w'' hbs⟩
  simp [results,Tryz.results123,go_sem,hcx,World.cell?]
open Go.Vx.IOp Go.Vx.IR Go.Vx.Opd
theorem j7h {m:Mem} {T:Nat} {fr:Nat×Nat} (hm:m 0=some (.cells ⟨q2f⟩ T fr)) (C:q0c) {a1:Option Addr} {n1 c1:Nat} (hsz:IAt m (.slice a1 n1 c1) C.sz) (hszl:C.sz.length<2 ^ 63)
  {ad2:Addr} {c2:Nat} {a3:Option Addr} {n3 c3:Nat} {O:List OpR} (hb:q0g m ad2 [.slice a3 n3 c3,i 1,i 0,i 0,i 0,i (-1)]) (hO:OAt m (.slice a3 n3 c3) O) (hOl:O.length≤400) :
  q0f Tryz.prog 123 [.agg ⟨[.slice a1 n1 c1,i C.pr,i C.rg,i C.cd,i C.sp,.slice (some ad2) 1 c2]⟩] m fun en m'=>m'=m∧∃ x y:Int,en=.returned (.agg ⟨[i x,i y,i (q4u C O)]⟩):=by
 refine ⟨by kernel_rfl,fun w hs=>k9o _ _ _ _ _ _ w _ ?_⟩
 let w1:World:=w.alloc (.cells #[.slice a1 n1 c1,i C.pr,i C.rg,i C.cd,i C.sp,.slice (some ad2) 1 c2] 156)
 let w2:World:=w1.alloc (.cells #[.int .i64 0,.int .i64 0,.int .i64 0] 186)
 let w3:World:=w2.alloc (.cells #[.slice a1 n1 c1,i C.pr,i C.rg,i C.cd,i C.sp,.slice (some ad2) 1 c2,.int .i64 0,.int .i64 0] 219)
 have s1:Step m w m w1:=Step.hide hs _
 have s2:Step m w1 m w2:=Step.hide s1.sub _
 have hz1:w1.heap.size=w.heap.size+1:=by show (w.heap.push _).size=_;simp
 have hz2:w2.heap.size=w.heap.size+2:=by show (w1.heap.push _).size=_;simp [hz1]
 have hz3:w3.heap.size=w.heap.size+3:=by show (w2.heap.push _).size=_;simp [hz2]
 have hn1:m (w.heap.size+1)=none:=Sub.none hs (by omega)
 have hn2:m (w.heap.size+2)=none:=Sub.none hs (by omega)
 let m3:Mem:=m.set (w.heap.size+2) (Cells [.slice a1 n1 c1,i C.pr,i C.rg,i C.cd,i C.sp,.slice (some ad2) 1 c2,.int .i64 0,.int .i64 0] 219)
 have s3:Step m w2 m3 w3:=by
  have:=Step.new s2.sub (Cells [.slice a1 n1 c1,i C.pr,i C.rg,i C.cd,i C.sp,.slice (some ad2) 1 c2,.int .i64 0,.int .i64 0] 219)
  rw [hz2] at this
  exact this
 have s4:=(s1.trans s2).trans s3
 have hcall:=k8n (m:=m3) hm hn2 (Mem.le_set hn2) C hsz hszl hb hO hOl (c2:=c2) ⟨0,0,Mem.set_same _ _ _⟩
 refine (hcall.2 w3 s4.sub).mono fun en w4 hen=>?_
 obtain ⟨m4,g1,hle,hz,hnz⟩:=hen
 have hk:=(g1.keep (w.heap.size+1) (by rw [hz3];omega) (by show (m.set _ _) _=_;rw [Mem.set_other _ _ (by omega)];exact hn1))
 have hk1:w4.heap[w.heap.size+1]? = some (.cells #[.int .i64 0,.int .i64 0,.int .i64 0] 186 (0,0)):=by
  rw [hk.2]
  show (w2.heap.push _)[w.heap.size+1]? = _
  rw [Array.getElem?_push,if_neg (by rw [hz2];omega)]
  show (w1.heap.push _)[w.heap.size+1]? = _
  rw [Array.getElem?_push,if_pos (by rw [hz1])]
 have s5:Step m w m w4:=z7x (s4.trans g1) hle
 refine ⟨hk1,?_⟩
 by_cases he:q4u C O=0
 ·exact .inl ⟨⟨_,hz he⟩,m,s5,rfl,0,0,by rw [he]⟩
 ·obtain ⟨x,y,e⟩:=hnz he
  refine .inr ⟨x,y,q4u C O,e,fun w5 hb5=>⟨m,⟨fun b o hbo=>?_,Nat.le_trans s5.size hb5.size,fun b hbs hbm=>⟨hbm,?_⟩,hb5.tape.trans s5.tape,hb5.os.trans s5.os,hb5.out.trans s5.out⟩,rfl,x,y,rfl⟩⟩
  ·have hne:b≠w.heap.size+1:=fun hh=>by subst hh;rw [hn1] at hbo;cases hbo
   have h4:=s5.sub b o hbo
   rw [hb5.keep b (Array.getElem?_eq_some_iff.1 h4).1 hne];exact h4
  ·have hs5:=s5.size
   rw [hb5.keep b (by omega) (by omega)];exact (s5.keep b hbs hbm).2
theorem z4c {m:Mem} {T:Nat} {fr:Nat×Nat} (hm:m 0=some (.cells ⟨q2f⟩ T fr)) (C:q0c) {a1:Option Addr} {n1 c1:Nat} (hsz:IAt m (.slice a1 n1 c1) C.sz) (hszl:C.sz.length<2 ^ 63)
  {ad2:Addr} {c2:Nat} {a3:Option Addr} {n3 c3:Nat} {O:List OpR} (hb:q0g m ad2 [.slice a3 n3 c3,i 1,i 0,i 0,i 0,i (-1)]) (hO:OAt m (.slice a3 n3 c3) O) (hOl:O.length≤400) :
  q0m Tryz.prog 92 [.agg ⟨[.slice a1 n1 c1,i C.pr,i C.rg,i C.cd,i C.sp,.slice (some ad2) 1 c2]⟩] m (i (q4u C O)):=by
 refine q0e q0d Tryz.func92 k7m rfl ?_
 conv=>whnf
 refine q0a.mk (j7h hm C hsz hszl hb hO hOl) ?_
 rintro _ _ ⟨rfl,x,y,rfl⟩
 exact WRet.same ⟨rfl,rfl⟩
end Go.Proofs.YtleofbpepfmfgaaGreatDoor
