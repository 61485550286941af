import Derived.Test.YtleofbpepfmfgaaGreatDoorVxMach
set_option linter.unusedSimpArgs false
set_option linter.unusedVariables false
set_option maxRecDepth 100000
namespace Go.Proofs.YtleofbpepfmfgaaGreatDoor
open Go Go.Vx
open Go.Vx.IOp Go.Vx.IR Go.Vx.Opd
structure OpR where
 kd:Int
 ds:Int
 a:Int
 b:Int
 c:Int
 n:Int
 gd:Int
def OpR.cells (o:OpR):List Value:=[i o.kd,i o.ds,i o.a,i o.b,i o.c,i o.n,i o.gd]
def OpR.val (o:OpR):Value:=.agg ⟨o.cells⟩
def OpR.arg (o:OpR):Nat→Int | 0=>o.a | 1=>o.b | _=>o.c
def GivesI (P:Program) (f:Nat) (vs:List Value) (m:Mem) (L:List Int):Prop:=CallsM P f vs m fun e m'=>∃ a c,e=.returned (.slice a L.length c)∧Mem.le m m'∧PushI m m' a c L
theorem pushL_ok {m0 m:Mem} {a x:Option Addr} {c n n':Nat} {L N:List Int} {K:Value→Mem→Prop} (hle:Mem.le m0 m) (hp:PushI m0 m a c L) (hx0:x=none→N=[]) (hx:∀ ad,x=some ad→CellsAt m ad (N.map i)) (hn:n=L.length) (hn':n'=N.length) (hlen:L.length+N.length<1099511627776)
  (k:∀ a' c' m',Mem.le m0 m'→PushI m0 m' a' c' (L++N)→K (.slice a' (L.length+N.length) c') m'):WApp m 3 1 8 [i 0] a n c x n' K:=by
 subst hn;subst hn'
 have hnew:FirstCells m x (N.length * 1) (N.map i):=⟨by simp,fun ad had=>hx ad had⟩
 have hnone:∀ b2,m b2=none→m0 b2=none:=fun b2 h=>by
  cases hh:m0 b2 with
  | none=>rfl
  | some o=>rw [hle b2 o hh] at h;cases h
 have hzero:N=[]∨N≠[]:=by cases N<;>simp
 rcases hp with ⟨rfl,rfl,rfl⟩ | ⟨b,rfl,h1,h2,h3⟩
 ·rcases hzero with rfl | hN
  ·unfold WApp
   exact ⟨_,hnew,fun _=>rfl,fun _=>.inl ⟨rfl,rfl,k none 0 m hle (.inl ⟨rfl,rfl,rfl⟩)⟩,fun h=>absurd h (by simp)⟩
  ·have hpos:0<N.length:=List.length_pos_iff.2 hN
   refine WApp.grow _ hnew (fun h=>by rw [hx0 h];rfl) (by simp only [List.length_nil];omega) (by simp only [List.length_nil] at hlen ⊢;omega) [] ⟨rfl,fun ad h=>by cases h⟩ (fun _=>rfl) fun b2 c2 hb2 hc2=>?_
   refine k _ _ _ (le_setn hle (hnone _ hb2)) (.inr ⟨b2,rfl,by simpa using hc2,hnone _ hb2,?_⟩)
   rw [Mem.set_same,repl_flat];simp
 ·by_cases hcc:L.length+N.length≤c
  ·have e:spliceL (L.map i++List.replicate (c - L.length) (i 0)) (0+L.length * 1) (N.map i)=(L++N).map i++List.replicate (c - (L++N).length) (i 0):=by
    rw [spliceL_eq _ _ _ (by simp;omega),Nat.zero_add,Nat.mul_one]
    have e1:(L.map i++List.replicate (c - L.length) (i 0)).take L.length=L.map i:=by rw [List.take_left' (by simp)]
    have e2:(L.map i++List.replicate (c - L.length) (i 0)).drop (L.length+(N.map i).length)=List.replicate (c - (L++N).length) (i 0):=by
     rw [← List.drop_drop,List.drop_left' (by simp),List.drop_replicate]
     congr 1;simp;omega
    rw [e1,e2,List.map_append]
   refine WApp.in (ad:=⟨b,0,none⟩) _ hnew (fun h=>by rw [hx0 h];rfl) _ 3 hcc h3 rfl ?_ ?_ ?_
   ·rw [List.length_append,List.length_map,List.length_replicate];simp only;omega
   ·clear e hnew hx hcc hlen k hx0 hzero
    induction N with
    | nil=>rfl
    | cons y ys ih=>simpa [oneL] using ih
   ·refine k _ _ _ (le_setn hle h2) (.inr ⟨b,rfl,by rw [List.length_append];exact hcc,h2,?_⟩)
    rw [Mem.set_same,e]
  ·refine WApp.grow _ hnew (fun h=>by rw [hx0 h];rfl) (by omega) (by omega) (L.map i) ⟨by simp,fun ad had=>by cases had;exact CellsAt.blk h3 fun j v hj=>by rw [Nat.zero_add,List.getElem?_append_left (List.getElem?_eq_some_iff.1 hj).1];exact hj⟩ (fun h=>by cases h) fun b2 c2 hb2 hc2=>?_
   refine k _ _ _ (le_setn hle (hnone _ hb2)) (.inr ⟨b2,rfl,by simpa using hc2,hnone _ hb2,?_⟩)
   rw [Mem.set_same,repl_flat]
   simp
def bitU (u:Int) (j:Nat):Bool:=IntKind.i64.wrap ((BitVec.ofInt IntKind.i64.bits u &&& BitVec.ofInt IntKind.i64.bits (IntKind.i64.wrap (2 * 2 ^ min ((j:Int)).toNat IntKind.i64.bits))).toNat) != 0
def argsUp (o:OpR) (k:Nat):List Int:=((List.range k).filter (bitU (useT o.kd))).map o.arg
theorem argsUp_succ {o:OpR} {k:Nat}:argsUp o (k+1)=if bitU (useT o.kd) k=true then argsUp o k++[o.arg k] else argsUp o k:=by
 unfold argsUp
 rw [List.range_succ,List.filter_append,List.map_append]
 by_cases h:bitU (useT o.kd) k=true
 ·rw [if_pos h];simp [h]
 ·rw [if_neg h];simp [h]
theorem argsUp_len {o:OpR} {k:Nat}:(argsUp o k).length≤k:=by
 unfold argsUp
 rw [List.length_map]
 exact Nat.le_trans (List.length_filter_le _ _) (by simp)
theorem read_ok {m:Mem} {T:Nat} {fr:Nat×Nat} (hm:m 0=some (.cells ⟨cells0⟩ T fr)) (o:OpR) (hk:1≤o.kd∧o.kd≤25) :
  GivesI Tryz.prog 140 [o.val] m (argsUp o 3):=by
 refine calls_of mixed Tryz.func140 ok_code_Read rfl ?_
 refine WCall.pure (of_ok hm o.kd) ?_
 rw [if_pos hk,decide_eq_true hk]
 refine WLoop.mk (Nat×Option Addr×Nat) (fun s=>[(21,.val (i s.1)),(5,.val (.slice s.2.1 (argsUp o s.1).length s.2.2))]) (fun s m'=>Mem.le m m'∧PushI m m' s.2.1 s.2.2 (argsUp o s.1)∧s.1≤3) (fun s=>3 - s.1) (0,none,0) ⟨rfl,rfl,trivial⟩ ⟨Mem.le.refl _,.inl ⟨rfl,rfl,rfl⟩,Nat.zero_le _⟩ ?_
 rintro ⟨k,A,cA⟩ m6 ⟨g1,g2,g3⟩
 simp only at g2 g3
 refine Br.mk (fun hb3=>?_) (fun hb3=>?_)
 ·have hk3:k<3:=by
   have:(k:Int)<3:=of_decide_eq_true hb3
   omega
  refine WBnd.mk ⟨by omega,by omega⟩ ?_
  refine WGet.mk (i (o.arg k)) (by
   have:k=0∨k=1∨k=2:=by omega
   rcases this with rfl | rfl | rfl<;>rfl) ?_
  refine WBnd.mk ⟨by omega,by omega⟩ ?_
  refine Br.mk (fun hb4=>?_) (fun hb4=>?_)
  ·have hbit:bitU (useT o.kd) k=true:=hb4
   have hsucc:argsUp o (k+1)=argsUp o k++[o.arg k]:=by rw [argsUp_succ,if_pos hbit]
   have hl:=argsUp_len (o:=o) (k:=k)
   refine WNew.mk fun bx hbx=>?_
   conv=>whnf
   refine push_ok (L:=argsUp o k) (z:=o.arg k) (g1.trans (Mem.le_set hbx)) (g2.mono (Mem.le_set hbx)) (Mem.set_same _ _ _) rfl (by omega) fun a' c' m' hle8 hp8=>?_
   have hl2:(argsUp o k).length+1=(argsUp o (k+1)).length:=by rw [hsucc];simp
   rw [← hsucc] at hp8
   rw [hl2]
   refine WRng.mk (by apply wrap_i64<;>omega) ?_
   conv=>whnf
   exact ⟨(k+1,a',c'),⟨rfl,rfl,trivial⟩,⟨hle8,hp8,hk3⟩,by simp only;omega⟩
  ·have hbit:¬ bitU (useT o.kd) k=true:=fun h=>by rw [show bitU (useT o.kd) k=false from hb4] at h;cases h
   have hsucc:argsUp o (k+1)=argsUp o k:=by rw [argsUp_succ,if_neg hbit]
   refine WRng.mk (by apply wrap_i64<;>omega) ?_
   conv=>whnf
   exact ⟨(k+1,A,cA),⟨rfl,by rw [hsucc];rfl,trivial⟩,⟨g1,by rw [hsucc];exact g2,hk3⟩,by simp only;omega⟩
 ·have hk3:k=3:=by
   have:¬ (k:Int)<3:=of_decide_eq_false hb3
   omega
  subst hk3
  exact WRet.same ⟨A,cA,rfl,g1,g2⟩
def guardL (o:OpR):List Int:=if o.gd=-1 then [] else [o.gd]
theorem pushI_new {m m1:Mem} {b:Nat} {z:Int} (hb:m b=none) (h:m1 b=some (Cells [i z] 3)):PushI m m1 (some ⟨b,0,none⟩) 1 [z]:=.inr ⟨b,rfl,Nat.le_refl _,hb,by simpa using h⟩
theorem PushI.cells {m0 m:Mem} {a:Option Addr} {c:Nat} {L:List Int} (h:PushI m0 m a c L):(a=none→L=[])∧∀ ad,a=some ad→CellsAt m ad (L.map i):=by
 obtain ⟨a2,c2,e,h0,h1,_⟩:=h.iat
 cases e
 exact ⟨h0,h1⟩
theorem codeReads_ok {m:Mem} {T:Nat} {fr:Nat×Nat} (hm:m 0=some (.cells ⟨cells0⟩ T fr)) (o:OpR) :
  CallsM Tryz.prog 108 [o.val] m fun e m'=>∃ a c,e=.returned (.tuple ⟨[.slice a (if 1≤o.kd∧o.kd≤25 then guardL o++argsUp o 3 else []).length c,i (if 1≤o.kd∧o.kd≤25 then 0 else 4)]⟩)∧Mem.le m m' ∧
   PushI m m' a c (if 1≤o.kd∧o.kd≤25 then guardL o++argsUp o 3 else []):=by
 refine calls_of mixed Tryz.func108 ok_code_Reads rfl ?_
 refine WCall.pure (of_ok hm o.kd) ?_
 by_cases hk:1≤o.kd∧o.kd≤25
 ·rw [if_pos hk,decide_eq_true hk]
  simp only [if_pos hk]
  have hl:=argsUp_len (o:=o) (k:=3)
  refine Br.mk (fun h=>by cases h) (fun _=>?_)
  refine Br.mk (fun hg=>?_) (fun hg=>?_)
  ·have hgd:o.gd≠-1:=by simpa using hg
   have hgl:guardL o=[o.gd]:=by unfold guardL;rw [if_neg hgd]
   rw [hgl]
   conv=>whnf
   refine ⟨?_,?_,trivial⟩
   ·refine WNew.mk fun bx hbx=>?_
    conv=>whnf
    refine ⟨?_,trivial⟩
    refine WCallG.mk (read_ok (Mem.le_set hbx _ _ hm) o hk) ?_
    rintro _ m2 ⟨A,cA,rfl,hle2,hp2⟩
    refine ⟨hle2,?_⟩
    conv=>whnf
    refine ⟨?_,trivial⟩
    conv=>whnf
    have hle:=(Mem.le_set (o:=Cells [i o.gd] 3) hbx).trans hle2
    refine pushL_ok (L:=[o.gd]) (N:=argsUp o 3) hle (pushI_new hbx (hle2 _ _ (Mem.set_same _ _ _))) hp2.cells.1 hp2.cells.2 rfl rfl (by simp only [List.length_singleton];omega) fun a' c' m' hle8 hp8=>?_
    exact WRet.same ⟨a',c',by rw [List.length_append];rfl,hle8,hp8⟩
   ·refine WCallG.mk (read_ok hm o hk) ?_
    rintro _ m2 ⟨A,cA,rfl,hle2,hp2⟩
    refine ⟨hle2,?_⟩
    conv=>whnf
    refine ⟨?_,trivial⟩
    refine WNew.mk fun bx hbx=>?_
    conv=>whnf
    refine ⟨?_,trivial⟩
    conv=>whnf
    have hle:=hle2.trans (Mem.le_set (o:=Cells [i o.gd] 3) hbx)
    have hbm:m bx=none:=by
     cases hh:m bx with
     | none=>rfl
     | some o=>rw [hle2 bx o hh] at hbx;cases hbx
    have hp3:=hp2.mono (Mem.le_set (o:=Cells [i o.gd] 3) hbx)
    refine pushL_ok (L:=[o.gd]) (N:=argsUp o 3) hle (pushI_new hbm (Mem.set_same _ _ _)) hp3.cells.1 hp3.cells.2 rfl rfl (by simp only [List.length_singleton];omega) fun a' c' m' hle8 hp8=>?_
    exact WRet.same ⟨a',c',by rw [List.length_append];rfl,hle8,hp8⟩
  ·have hgd:o.gd=-1:=by simpa using hg
   have hgl:guardL o=[]:=by unfold guardL;rw [if_pos hgd]
   rw [hgl]
   refine WCall.mk (read_ok hm o hk) ?_
   rintro _ m2 ⟨A,cA,rfl,hle2,hp2⟩
   exact WRet.same ⟨A,cA,rfl,hle2,hp2⟩
 ·rw [if_neg hk,decide_eq_false hk]
  simp only [if_neg hk]
  refine Br.mk (fun _=>?_) (fun h=>by cases h)
  exact WRet.same ⟨none,0,rfl,Mem.le.refl _,.inl ⟨rfl,rfl,rfl⟩⟩
theorem index_ok {m:Mem} {v:Value} {C:List Int} (hv:IAt m v C) (hlen:C.length<2 ^ 63) (z:Int):PureM Tryz.prog 141 [v,i z] m (i (idxFrom (fun y=>z==y) C)):=by
 obtain ⟨a,c,rfl,h0,h1,hcap⟩:=hv
 refine calls_of mixed Tryz.func141 ok_slices_Index_int_int rfl ?_
 refine WLoop.mk Nat (fun k=>[(8,.val (i k))]) (fun k m'=>m=m'∧k≤C.length∧∀ j (hj:j<C.length),j<k→(z==C[j])=false) (fun k=>C.length - k) 0 ⟨rfl,trivial⟩ ⟨rfl,Nat.zero_le _,fun j hj h=>by omega⟩ ?_
 rintro k m' ⟨rfl,hk,hq⟩
 refine Br.mk (fun hb=>?_) (fun hb=>?_)
 ·have hk2:k<C.length:=by simpa using hb
  conv=>whnf
  cases a with
  | none=>rw [h0 rfl] at hk2;simp at hk2
  | some ad =>
   refine WIdx.mk ad rfl ⟨by omega,by simpa using hk2⟩ ?_
   refine WLd.mk (i C[k]) (by simpa using IAt.cell (h1 ad rfl) hk2) ?_
   refine Br.mk (fun hb2=>?_) (fun hb2=>?_)
   ·refine WRet.same ⟨?_,rfl⟩
    unfold idxFrom
    rw [findIdx_at hk2 (fun j hj=>hq j (by omega) hj) hb2]
    rfl
   ·refine WRng.mk (by apply wrap_i64<;>omega) ?_
    conv=>whnf
    refine ⟨k+1,⟨rfl,trivial⟩,⟨rfl,hk2,fun j hj h=>?_⟩,by omega⟩
    by_cases e:j=k
    ·subst e;exact hb2
    ·exact hq j hj (by omega)
 ·have hk2:¬ k<C.length:=by simpa using hb
  refine WRet.same ⟨?_,rfl⟩
  unfold idxFrom
  rw [findIdx_none fun j hj=>hq j hj (by omega)]
  rfl
theorem has_ok {m:Mem} {v:Value} {C:List Int} (hv:IAt m v C) (hlen:C.length<2 ^ 63) (z:Int):PureM Tryz.prog 109 [v,i z] m (.bool (C.any fun y=>z==y)):=by
 refine calls_of mixed Tryz.func109 ok_slices_Contains_int_int rfl ?_
 refine WCall.pure (index_ok hv hlen z) ?_
 refine WRet.same ⟨?_,rfl⟩
 rw [show resVal [Value.bool (decide (idxFrom (fun y=>z==y) C≥0))]=.bool (decide (idxFrom (fun y=>z==y) C≥0)) from rfl,idxFrom_any]
def putS (acc:List Int) (r:Int):List Int:=if (acc.any fun y=>r==y)=true then acc else acc++[r]
def onceS (L:List Int):List Int:=L.foldl putS []
def rawS (o:OpR):List Int :=
 if o.kd=26 then guardL o else if o.kd=27∨o.kd=28 then guardL o++[o.a] else if 1≤o.kd∧o.kd≤25 then guardL o++argsUp o 3 else []
def readsS (o:OpR):List Int:=onceS (rawS o)
theorem guardL_len (o:OpR):(guardL o).length≤1:=by unfold guardL;split<;>simp
theorem rawS_len (o:OpR):(rawS o).length≤4:=by
 have h1:=guardL_len o
 have h2:=argsUp_len (o:=o) (k:=3)
 unfold rawS
 split
 ·omega
 ·split
  ·simp only [List.length_append,List.length_singleton];omega
  ·split
   ·simp only [List.length_append];omega
   ·simp
theorem putS_len {acc:List Int} {r:Int}:(putS acc r).length≤acc.length+1:=by unfold putS;split<;>simp
theorem foldPut_len:∀ (L acc:List Int),(L.foldl putS acc).length≤acc.length+L.length
 | [],acc=>by simp
 | r :: L,acc=>by
  have h1:=foldPut_len L (putS acc r)
  have h2:=putS_len (acc:=acc) (r:=r)
  simp only [List.foldl_cons,List.length_cons];omega
theorem PushI.base {m0 m1 m:Mem} {a:Option Addr} {c:Nat} {L:List Int} (h:PushI m1 m a c L) (hle:Mem.le m0 m1):PushI m0 m a c L:=by
 rcases h with h | ⟨b,h0,h1,h2,h3⟩
 ·exact .inl h
 ·refine .inr ⟨b,h0,h1,?_,h3⟩
  cases hh:m0 b with
  | none=>rfl
  | some o=>rw [hle b o hh] at h2;cases h2
theorem reads_ok {m:Mem} {T:Nat} {fr:Nat×Nat} (hm:m 0=some (.cells ⟨cells0⟩ T fr)) (o:OpR) :
  GivesI Tryz.prog 76 [o.val] m (readsS o):=by
 refine calls_of mixed Tryz.func76 ok_machine_Reads rfl ?_
 have hgy:o.gd≠-1→guardL o=[o.gd]:=fun h=>by unfold guardL;rw [if_neg h]
 have hgn:o.gd=-1→guardL o=[]:=fun h=>by unfold guardL;rw [if_pos h]
 have r26:o.kd=26→rawS o=guardL o:=fun h=>by unfold rawS;rw [if_pos h]
 have r27:o.kd=27∨o.kd=28→rawS o=guardL o++[o.a]:=fun h=>by unfold rawS;rw [if_neg (by omega),if_pos h]
 refine Br.mk (fun h=>?_) (fun n1=>?_)
 ·have h:o.kd=26:=by simpa using h
  refine Br.mk (fun _=>?_) (fun h2=>by cases h2)
  refine Br.mk (fun hg=>?_) (fun hg=>?_)
  ·have hgd:o.gd≠-1:=by simpa using hg
   refine WNew.mk fun bx hbx=>?_
   conv=>whnf
   refine push_ok (L:=[]) (z:=o.gd) (Mem.le_set hbx) (.inl ⟨rfl,rfl,rfl⟩) (Mem.set_same _ _ _) rfl (by decide) fun A c m1 hle hp=>?_
   refine Br.mk (fun h2=>?_) (fun h2=>?_)
   ·exfalso;rw [h] at h2;simp at h2
   conv=>whnf
   generalize hL:([]++[o.gd]:List Int)=L at hp
   have hll:([]:List Int).length+1=L.length:=by rw [← hL];rfl
   rw [hll]
   -- the tail: each once
   have hraw:rawS o=L:=(by rw [r26 h,hgy hgd,← hL];rfl)
   have hL4:L.length≤4:=by rw [← hraw];exact rawS_len o
   have hres:readsS o=onceS L:=by unfold readsS;rw [hraw]
   rw [hres]
   obtain ⟨hx0,hx1⟩:=hp.cells
   refine WLoop.mk (Nat×Option Addr×Nat) (fun s=>[(36,.val (i s.1)),(4,.val (.slice s.2.1 (onceS (L.take s.1)).length s.2.2))]) (fun s m''=>Mem.le m1 m''∧PushI m1 m'' s.2.1 s.2.2 (onceS (L.take s.1))∧s.1≤L.length) (fun s=>L.length - s.1) (0,none,0) ⟨rfl,rfl,trivial⟩ ⟨Mem.le.refl _,.inl ⟨rfl,rfl,rfl⟩,Nat.zero_le _⟩ ?_
   rintro ⟨k,B,cB⟩ m6 ⟨g1,g2,g3⟩
   simp only at g2 g3
   refine Br.mk (fun hb3=>?_) (fun hb3=>?_)
   ·have hk:k<L.length:=by
     have:(k:Int)<L.length:=of_decide_eq_true hb3
     omega
    have hsucc:onceS (L.take (k+1))=putS (onceS (L.take k)) L[k]:=by unfold onceS;exact fold_succ hk
    have hlen:(onceS (L.take k)).length≤4:=by
     have:=foldPut_len (L.take k) []
     rw [List.length_take] at this
     unfold onceS;simp only [List.length_nil] at this;omega
    obtain ⟨ad,rfl⟩:∃ ad,A=some ad:=by
     cases A with
     | none=>rw [hx0 rfl] at hk;simp at hk
     | some ad=>exact ⟨ad,rfl⟩
    have hcell:CellAt m6 (ad.add k) (i L[k]):=(IAt.cell (hx1 ad rfl) hk).mono g1
    refine WIdx.mk ad rfl ⟨by omega,by simpa using hk⟩ ?_
    refine WLd.mk (i L[k]) (by simpa using hcell) ?_
    refine WCall.pure (has_ok g2.iat (by omega) L[k]) ?_
    refine Br.mk (fun hb4=>?_) (fun hb4=>?_)
    ·have hno:¬ ((onceS (L.take k)).any fun y=>L[k]==y)=true:=fun hh=>by rw [hh] at hb4;cases hb4
     have hput:onceS (L.take (k+1))=onceS (L.take k)++[L[k]]:=by rw [hsucc];unfold putS;rw [if_neg hno]
     refine WNew.mk fun by1 hby1=>?_
     conv=>whnf
     refine push_ok (L:=onceS (L.take k)) (z:=L[k]) (g1.trans (Mem.le_set hby1)) (g2.mono (Mem.le_set hby1)) (Mem.set_same _ _ _) rfl (by omega) fun a9 c9 m9 hle9 hp9=>?_
     have hl2:(onceS (L.take k)).length+1=(onceS (L.take (k+1))).length:=by rw [hput];simp
     rw [← hput] at hp9
     rw [hl2]
     refine WRng.mk (by apply wrap_i64<;>omega) ?_
     conv=>whnf
     exact ⟨(k+1,a9,c9),⟨rfl,rfl,trivial⟩,⟨hle9,hp9,hk⟩,by simp only;omega⟩
    ·have hyes:((onceS (L.take k)).any fun y=>L[k]==y)=true:=by
      cases hh:(onceS (L.take k)).any fun y=>L[k]==y with
      | true=>rfl
      | false=>rw [hh] at hb4;cases hb4
     have hput:onceS (L.take (k+1))=onceS (L.take k):=by rw [hsucc];unfold putS;rw [if_pos hyes]
     refine WRng.mk (by apply wrap_i64<;>omega) ?_
     conv=>whnf
     exact ⟨(k+1,B,cB),⟨rfl,by rw [hput];rfl,trivial⟩,⟨g1,by rw [hput];exact g2,hk⟩,by simp only;omega⟩
   ·have hk:k=L.length:=by
     have:¬ (k:Int)<L.length:=of_decide_eq_false hb3
     omega
    subst hk
    rw [List.take_length] at g2
    exact WRet.same ⟨B,cB,by rw [List.take_length];rfl,hle.trans g1,g2.base hle⟩
  ·have hgd:o.gd=-1:=by simpa using hg
   refine Br.mk (fun h2=>?_) (fun h2=>?_)
   ·exfalso;rw [h] at h2;simp at h2
   conv=>whnf
   have hres:readsS o=[]:=by unfold readsS;rw [r26 h,hgn hgd];rfl
   rw [hres]
   refine WLoop.mk Unit (fun _=>[(36,.val (i 0)),(4,.val ns)]) (fun _ m''=>m=m'') (fun _=>0) () ⟨rfl,rfl,trivial⟩ rfl ?_
   rintro _ m6 rfl
   refine Br.mk (fun h2=>?_) (fun h2=>?_)
   ·exfalso;simp at h2
   exact WRet.same ⟨none,0,rfl,Mem.le.refl _,.inl ⟨rfl,rfl,rfl⟩⟩
 refine Br.mk (fun h=>?_) (fun n2=>?_)
 ·have h:o.kd=27:=by simpa using h
  refine Br.mk (fun _=>?_) (fun h2=>by cases h2)
  refine Br.mk (fun hg=>?_) (fun hg=>?_)
  ·have hgd:o.gd≠-1:=by simpa using hg
   refine WNew.mk fun bx hbx=>?_
   conv=>whnf
   refine push_ok (L:=[]) (z:=o.gd) (Mem.le_set hbx) (.inl ⟨rfl,rfl,rfl⟩) (Mem.set_same _ _ _) rfl (by decide) fun A c m1 hle hp=>?_
   refine Br.mk (fun h2=>?_) (fun h2=>?_)
   rotate_left
   ·exfalso;rw [h] at h2;simp at h2
   refine WNew.mk fun by0 hby0=>?_
   conv=>whnf
   refine push_ok (L:=[]++[o.gd]) (z:=o.a) (hle.trans (Mem.le_set hby0)) (hp.mono (Mem.le_set hby0)) (Mem.set_same _ _ _) rfl (by simp) fun A c m1 hle hp=>?_
   conv=>whnf
   generalize hL:(([]++[o.gd])++[o.a]:List Int)=L at hp
   have hll:([]++[o.gd]:List Int).length+1=L.length:=by rw [← hL];rfl
   rw [hll]
   -- the tail: each once
   have hraw:rawS o=L:=(by rw [r27 (.inl h),hgy hgd,← hL];rfl)
   have hL4:L.length≤4:=by rw [← hraw];exact rawS_len o
   have hres:readsS o=onceS L:=by unfold readsS;rw [hraw]
   rw [hres]
   obtain ⟨hx0,hx1⟩:=hp.cells
   refine WLoop.mk (Nat×Option Addr×Nat) (fun s=>[(36,.val (i s.1)),(4,.val (.slice s.2.1 (onceS (L.take s.1)).length s.2.2))]) (fun s m''=>Mem.le m1 m''∧PushI m1 m'' s.2.1 s.2.2 (onceS (L.take s.1))∧s.1≤L.length) (fun s=>L.length - s.1) (0,none,0) ⟨rfl,rfl,trivial⟩ ⟨Mem.le.refl _,.inl ⟨rfl,rfl,rfl⟩,Nat.zero_le _⟩ ?_
   rintro ⟨k,B,cB⟩ m6 ⟨g1,g2,g3⟩
   simp only at g2 g3
   refine Br.mk (fun hb3=>?_) (fun hb3=>?_)
   ·have hk:k<L.length:=by
     have:(k:Int)<L.length:=of_decide_eq_true hb3
     omega
    have hsucc:onceS (L.take (k+1))=putS (onceS (L.take k)) L[k]:=by unfold onceS;exact fold_succ hk
    have hlen:(onceS (L.take k)).length≤4:=by
     have:=foldPut_len (L.take k) []
     rw [List.length_take] at this
     unfold onceS;simp only [List.length_nil] at this;omega
    obtain ⟨ad,rfl⟩:∃ ad,A=some ad:=by
     cases A with
     | none=>rw [hx0 rfl] at hk;simp at hk
     | some ad=>exact ⟨ad,rfl⟩
    have hcell:CellAt m6 (ad.add k) (i L[k]):=(IAt.cell (hx1 ad rfl) hk).mono g1
    refine WIdx.mk ad rfl ⟨by omega,by simpa using hk⟩ ?_
    refine WLd.mk (i L[k]) (by simpa using hcell) ?_
    refine WCall.pure (has_ok g2.iat (by omega) L[k]) ?_
    refine Br.mk (fun hb4=>?_) (fun hb4=>?_)
    ·have hno:¬ ((onceS (L.take k)).any fun y=>L[k]==y)=true:=fun hh=>by rw [hh] at hb4;cases hb4
     have hput:onceS (L.take (k+1))=onceS (L.take k)++[L[k]]:=by rw [hsucc];unfold putS;rw [if_neg hno]
     refine WNew.mk fun by1 hby1=>?_
     conv=>whnf
     refine push_ok (L:=onceS (L.take k)) (z:=L[k]) (g1.trans (Mem.le_set hby1)) (g2.mono (Mem.le_set hby1)) (Mem.set_same _ _ _) rfl (by omega) fun a9 c9 m9 hle9 hp9=>?_
     have hl2:(onceS (L.take k)).length+1=(onceS (L.take (k+1))).length:=by rw [hput];simp
     rw [← hput] at hp9
     rw [hl2]
     refine WRng.mk (by apply wrap_i64<;>omega) ?_
     conv=>whnf
     exact ⟨(k+1,a9,c9),⟨rfl,rfl,trivial⟩,⟨hle9,hp9,hk⟩,by simp only;omega⟩
    ·have hyes:((onceS (L.take k)).any fun y=>L[k]==y)=true:=by
      cases hh:(onceS (L.take k)).any fun y=>L[k]==y with
      | true=>rfl
      | false=>rw [hh] at hb4;cases hb4
     have hput:onceS (L.take (k+1))=onceS (L.take k):=by rw [hsucc];unfold putS;rw [if_pos hyes]
     refine WRng.mk (by apply wrap_i64<;>omega) ?_
     conv=>whnf
     exact ⟨(k+1,B,cB),⟨rfl,by rw [hput];rfl,trivial⟩,⟨g1,by rw [hput];exact g2,hk⟩,by simp only;omega⟩
   ·have hk:k=L.length:=by
     have:¬ (k:Int)<L.length:=of_decide_eq_false hb3
     omega
    subst hk
    rw [List.take_length] at g2
    exact WRet.same ⟨B,cB,by rw [List.take_length];rfl,hle.trans g1,g2.base hle⟩
  ·have hgd:o.gd=-1:=by simpa using hg
   refine Br.mk (fun h2=>?_) (fun h2=>?_)
   rotate_left
   ·exfalso;rw [h] at h2;simp at h2
   refine WNew.mk fun bx hbx=>?_
   conv=>whnf
   refine push_ok (L:=[]) (z:=o.a) (Mem.le_set hbx) (.inl ⟨rfl,rfl,rfl⟩) (Mem.set_same _ _ _) rfl (by decide) fun A c m1 hle hp=>?_
   conv=>whnf
   generalize hL:([]++[o.a]:List Int)=L at hp
   have hll:([]:List Int).length+1=L.length:=by rw [← hL];rfl
   rw [hll]
   -- the tail: each once
   have hraw:rawS o=L:=(by rw [r27 (.inl h),hgn hgd,← hL])
   have hL4:L.length≤4:=by rw [← hraw];exact rawS_len o
   have hres:readsS o=onceS L:=by unfold readsS;rw [hraw]
   rw [hres]
   obtain ⟨hx0,hx1⟩:=hp.cells
   refine WLoop.mk (Nat×Option Addr×Nat) (fun s=>[(36,.val (i s.1)),(4,.val (.slice s.2.1 (onceS (L.take s.1)).length s.2.2))]) (fun s m''=>Mem.le m1 m''∧PushI m1 m'' s.2.1 s.2.2 (onceS (L.take s.1))∧s.1≤L.length) (fun s=>L.length - s.1) (0,none,0) ⟨rfl,rfl,trivial⟩ ⟨Mem.le.refl _,.inl ⟨rfl,rfl,rfl⟩,Nat.zero_le _⟩ ?_
   rintro ⟨k,B,cB⟩ m6 ⟨g1,g2,g3⟩
   simp only at g2 g3
   refine Br.mk (fun hb3=>?_) (fun hb3=>?_)
   ·have hk:k<L.length:=by
     have:(k:Int)<L.length:=of_decide_eq_true hb3
     omega
    have hsucc:onceS (L.take (k+1))=putS (onceS (L.take k)) L[k]:=by unfold onceS;exact fold_succ hk
    have hlen:(onceS (L.take k)).length≤4:=by
     have:=foldPut_len (L.take k) []
     rw [List.length_take] at this
     unfold onceS;simp only [List.length_nil] at this;omega
    obtain ⟨ad,rfl⟩:∃ ad,A=some ad:=by
     cases A with
     | none=>rw [hx0 rfl] at hk;simp at hk
     | some ad=>exact ⟨ad,rfl⟩
    have hcell:CellAt m6 (ad.add k) (i L[k]):=(IAt.cell (hx1 ad rfl) hk).mono g1
    refine WIdx.mk ad rfl ⟨by omega,by simpa using hk⟩ ?_
    refine WLd.mk (i L[k]) (by simpa using hcell) ?_
    refine WCall.pure (has_ok g2.iat (by omega) L[k]) ?_
    refine Br.mk (fun hb4=>?_) (fun hb4=>?_)
    ·have hno:¬ ((onceS (L.take k)).any fun y=>L[k]==y)=true:=fun hh=>by rw [hh] at hb4;cases hb4
     have hput:onceS (L.take (k+1))=onceS (L.take k)++[L[k]]:=by rw [hsucc];unfold putS;rw [if_neg hno]
     refine WNew.mk fun by1 hby1=>?_
     conv=>whnf
     refine push_ok (L:=onceS (L.take k)) (z:=L[k]) (g1.trans (Mem.le_set hby1)) (g2.mono (Mem.le_set hby1)) (Mem.set_same _ _ _) rfl (by omega) fun a9 c9 m9 hle9 hp9=>?_
     have hl2:(onceS (L.take k)).length+1=(onceS (L.take (k+1))).length:=by rw [hput];simp
     rw [← hput] at hp9
     rw [hl2]
     refine WRng.mk (by apply wrap_i64<;>omega) ?_
     conv=>whnf
     exact ⟨(k+1,a9,c9),⟨rfl,rfl,trivial⟩,⟨hle9,hp9,hk⟩,by simp only;omega⟩
    ·have hyes:((onceS (L.take k)).any fun y=>L[k]==y)=true:=by
      cases hh:(onceS (L.take k)).any fun y=>L[k]==y with
      | true=>rfl
      | false=>rw [hh] at hb4;cases hb4
     have hput:onceS (L.take (k+1))=onceS (L.take k):=by rw [hsucc];unfold putS;rw [if_pos hyes]
     refine WRng.mk (by apply wrap_i64<;>omega) ?_
     conv=>whnf
     exact ⟨(k+1,B,cB),⟨rfl,by rw [hput];rfl,trivial⟩,⟨g1,by rw [hput];exact g2,hk⟩,by simp only;omega⟩
   ·have hk:k=L.length:=by
     have:¬ (k:Int)<L.length:=of_decide_eq_false hb3
     omega
    subst hk
    rw [List.take_length] at g2
    exact WRet.same ⟨B,cB,by rw [List.take_length];rfl,hle.trans g1,g2.base hle⟩
 refine Br.mk (fun h=>?_) (fun n3=>?_)
 ·have h:o.kd=28:=by simpa using h
  refine Br.mk (fun hg=>?_) (fun hg=>?_)
  ·have hgd:o.gd≠-1:=by simpa using hg
   refine WNew.mk fun bx hbx=>?_
   conv=>whnf
   refine push_ok (L:=[]) (z:=o.gd) (Mem.le_set hbx) (.inl ⟨rfl,rfl,rfl⟩) (Mem.set_same _ _ _) rfl (by decide) fun A c m1 hle hp=>?_
   refine Br.mk (fun h2=>?_) (fun h2=>?_)
   rotate_left
   ·exfalso;rw [h] at h2;simp at h2
   refine WNew.mk fun by0 hby0=>?_
   conv=>whnf
   refine push_ok (L:=[]++[o.gd]) (z:=o.a) (hle.trans (Mem.le_set hby0)) (hp.mono (Mem.le_set hby0)) (Mem.set_same _ _ _) rfl (by simp) fun A c m1 hle hp=>?_
   conv=>whnf
   generalize hL:(([]++[o.gd])++[o.a]:List Int)=L at hp
   have hll:([]++[o.gd]:List Int).length+1=L.length:=by rw [← hL];rfl
   rw [hll]
   -- the tail: each once
   have hraw:rawS o=L:=(by rw [r27 (.inr h),hgy hgd,← hL];rfl)
   have hL4:L.length≤4:=by rw [← hraw];exact rawS_len o
   have hres:readsS o=onceS L:=by unfold readsS;rw [hraw]
   rw [hres]
   obtain ⟨hx0,hx1⟩:=hp.cells
   refine WLoop.mk (Nat×Option Addr×Nat) (fun s=>[(36,.val (i s.1)),(4,.val (.slice s.2.1 (onceS (L.take s.1)).length s.2.2))]) (fun s m''=>Mem.le m1 m''∧PushI m1 m'' s.2.1 s.2.2 (onceS (L.take s.1))∧s.1≤L.length) (fun s=>L.length - s.1) (0,none,0) ⟨rfl,rfl,trivial⟩ ⟨Mem.le.refl _,.inl ⟨rfl,rfl,rfl⟩,Nat.zero_le _⟩ ?_
   rintro ⟨k,B,cB⟩ m6 ⟨g1,g2,g3⟩
   simp only at g2 g3
   refine Br.mk (fun hb3=>?_) (fun hb3=>?_)
   ·have hk:k<L.length:=by
     have:(k:Int)<L.length:=of_decide_eq_true hb3
     omega
    have hsucc:onceS (L.take (k+1))=putS (onceS (L.take k)) L[k]:=by unfold onceS;exact fold_succ hk
    have hlen:(onceS (L.take k)).length≤4:=by
     have:=foldPut_len (L.take k) []
     rw [List.length_take] at this
     unfold onceS;simp only [List.length_nil] at this;omega
    obtain ⟨ad,rfl⟩:∃ ad,A=some ad:=by
     cases A with
     | none=>rw [hx0 rfl] at hk;simp at hk
     | some ad=>exact ⟨ad,rfl⟩
    have hcell:CellAt m6 (ad.add k) (i L[k]):=(IAt.cell (hx1 ad rfl) hk).mono g1
    refine WIdx.mk ad rfl ⟨by omega,by simpa using hk⟩ ?_
    refine WLd.mk (i L[k]) (by simpa using hcell) ?_
    refine WCall.pure (has_ok g2.iat (by omega) L[k]) ?_
    refine Br.mk (fun hb4=>?_) (fun hb4=>?_)
    ·have hno:¬ ((onceS (L.take k)).any fun y=>L[k]==y)=true:=fun hh=>by rw [hh] at hb4;cases hb4
     have hput:onceS (L.take (k+1))=onceS (L.take k)++[L[k]]:=by rw [hsucc];unfold putS;rw [if_neg hno]
     refine WNew.mk fun by1 hby1=>?_
     conv=>whnf
     refine push_ok (L:=onceS (L.take k)) (z:=L[k]) (g1.trans (Mem.le_set hby1)) (g2.mono (Mem.le_set hby1)) (Mem.set_same _ _ _) rfl (by omega) fun a9 c9 m9 hle9 hp9=>?_
     have hl2:(onceS (L.take k)).length+1=(onceS (L.take (k+1))).length:=by rw [hput];simp
     rw [← hput] at hp9
     rw [hl2]
     refine WRng.mk (by apply wrap_i64<;>omega) ?_
     conv=>whnf
     exact ⟨(k+1,a9,c9),⟨rfl,rfl,trivial⟩,⟨hle9,hp9,hk⟩,by simp only;omega⟩
    ·have hyes:((onceS (L.take k)).any fun y=>L[k]==y)=true:=by
      cases hh:(onceS (L.take k)).any fun y=>L[k]==y with
      | true=>rfl
      | false=>rw [hh] at hb4;cases hb4
     have hput:onceS (L.take (k+1))=onceS (L.take k):=by rw [hsucc];unfold putS;rw [if_pos hyes]
     refine WRng.mk (by apply wrap_i64<;>omega) ?_
     conv=>whnf
     exact ⟨(k+1,B,cB),⟨rfl,by rw [hput];rfl,trivial⟩,⟨g1,by rw [hput];exact g2,hk⟩,by simp only;omega⟩
   ·have hk:k=L.length:=by
     have:¬ (k:Int)<L.length:=of_decide_eq_false hb3
     omega
    subst hk
    rw [List.take_length] at g2
    exact WRet.same ⟨B,cB,by rw [List.take_length];rfl,hle.trans g1,g2.base hle⟩
  ·have hgd:o.gd=-1:=by simpa using hg
   refine Br.mk (fun h2=>?_) (fun h2=>?_)
   rotate_left
   ·exfalso;rw [h] at h2;simp at h2
   refine WNew.mk fun bx hbx=>?_
   conv=>whnf
   refine push_ok (L:=[]) (z:=o.a) (Mem.le_set hbx) (.inl ⟨rfl,rfl,rfl⟩) (Mem.set_same _ _ _) rfl (by decide) fun A c m1 hle hp=>?_
   conv=>whnf
   generalize hL:([]++[o.a]:List Int)=L at hp
   have hll:([]:List Int).length+1=L.length:=by rw [← hL];rfl
   rw [hll]
   -- the tail: each once
   have hraw:rawS o=L:=(by rw [r27 (.inr h),hgn hgd,← hL])
   have hL4:L.length≤4:=by rw [← hraw];exact rawS_len o
   have hres:readsS o=onceS L:=by unfold readsS;rw [hraw]
   rw [hres]
   obtain ⟨hx0,hx1⟩:=hp.cells
   refine WLoop.mk (Nat×Option Addr×Nat) (fun s=>[(36,.val (i s.1)),(4,.val (.slice s.2.1 (onceS (L.take s.1)).length s.2.2))]) (fun s m''=>Mem.le m1 m''∧PushI m1 m'' s.2.1 s.2.2 (onceS (L.take s.1))∧s.1≤L.length) (fun s=>L.length - s.1) (0,none,0) ⟨rfl,rfl,trivial⟩ ⟨Mem.le.refl _,.inl ⟨rfl,rfl,rfl⟩,Nat.zero_le _⟩ ?_
   rintro ⟨k,B,cB⟩ m6 ⟨g1,g2,g3⟩
   simp only at g2 g3
   refine Br.mk (fun hb3=>?_) (fun hb3=>?_)
   ·have hk:k<L.length:=by
     have:(k:Int)<L.length:=of_decide_eq_true hb3
     omega
    have hsucc:onceS (L.take (k+1))=putS (onceS (L.take k)) L[k]:=by unfold onceS;exact fold_succ hk
    have hlen:(onceS (L.take k)).length≤4:=by
     have:=foldPut_len (L.take k) []
     rw [List.length_take] at this
     unfold onceS;simp only [List.length_nil] at this;omega
    obtain ⟨ad,rfl⟩:∃ ad,A=some ad:=by
     cases A with
     | none=>rw [hx0 rfl] at hk;simp at hk
     | some ad=>exact ⟨ad,rfl⟩
    have hcell:CellAt m6 (ad.add k) (i L[k]):=(IAt.cell (hx1 ad rfl) hk).mono g1
    refine WIdx.mk ad rfl ⟨by omega,by simpa using hk⟩ ?_
    refine WLd.mk (i L[k]) (by simpa using hcell) ?_
    refine WCall.pure (has_ok g2.iat (by omega) L[k]) ?_
    refine Br.mk (fun hb4=>?_) (fun hb4=>?_)
    ·have hno:¬ ((onceS (L.take k)).any fun y=>L[k]==y)=true:=fun hh=>by rw [hh] at hb4;cases hb4
     have hput:onceS (L.take (k+1))=onceS (L.take k)++[L[k]]:=by rw [hsucc];unfold putS;rw [if_neg hno]
     refine WNew.mk fun by1 hby1=>?_
     conv=>whnf
     refine push_ok (L:=onceS (L.take k)) (z:=L[k]) (g1.trans (Mem.le_set hby1)) (g2.mono (Mem.le_set hby1)) (Mem.set_same _ _ _) rfl (by omega) fun a9 c9 m9 hle9 hp9=>?_
     have hl2:(onceS (L.take k)).length+1=(onceS (L.take (k+1))).length:=by rw [hput];simp
     rw [← hput] at hp9
     rw [hl2]
     refine WRng.mk (by apply wrap_i64<;>omega) ?_
     conv=>whnf
     exact ⟨(k+1,a9,c9),⟨rfl,rfl,trivial⟩,⟨hle9,hp9,hk⟩,by simp only;omega⟩
    ·have hyes:((onceS (L.take k)).any fun y=>L[k]==y)=true:=by
      cases hh:(onceS (L.take k)).any fun y=>L[k]==y with
      | true=>rfl
      | false=>rw [hh] at hb4;cases hb4
     have hput:onceS (L.take (k+1))=onceS (L.take k):=by rw [hsucc];unfold putS;rw [if_pos hyes]
     refine WRng.mk (by apply wrap_i64<;>omega) ?_
     conv=>whnf
     exact ⟨(k+1,B,cB),⟨rfl,by rw [hput];rfl,trivial⟩,⟨g1,by rw [hput];exact g2,hk⟩,by simp only;omega⟩
   ·have hk:k=L.length:=by
     have:¬ (k:Int)<L.length:=of_decide_eq_false hb3
     omega
    subst hk
    rw [List.take_length] at g2
    exact WRet.same ⟨B,cB,by rw [List.take_length];rfl,hle.trans g1,g2.base hle⟩
 have n1:o.kd≠26:=by simpa using n1
 have n2:o.kd≠27:=by simpa using n2
 have n3:o.kd≠28:=by simpa using n3
 refine WCall.mk (codeReads_ok hm o) ?_
 rintro _ m1 ⟨A,c,rfl,hle,hp⟩
 have hrw:rawS o=(if 1≤o.kd∧o.kd≤25 then guardL o++argsUp o 3 else []):=by unfold rawS;rw [if_neg n1,if_neg (by omega)]
 generalize (if 1≤o.kd∧o.kd≤25 then guardL o++argsUp o 3 else [])=L at *
 conv=>whnf
 -- the tail: each once
 have hraw:rawS o=L:=hrw
 have hL4:L.length≤4:=by rw [← hraw];exact rawS_len o
 have hres:readsS o=onceS L:=by unfold readsS;rw [hraw]
 rw [hres]
 obtain ⟨hx0,hx1⟩:=hp.cells
 refine WLoop.mk (Nat×Option Addr×Nat) (fun s=>[(36,.val (i s.1)),(4,.val (.slice s.2.1 (onceS (L.take s.1)).length s.2.2))]) (fun s m''=>Mem.le m1 m''∧PushI m1 m'' s.2.1 s.2.2 (onceS (L.take s.1))∧s.1≤L.length) (fun s=>L.length - s.1) (0,none,0) ⟨rfl,rfl,trivial⟩ ⟨Mem.le.refl _,.inl ⟨rfl,rfl,rfl⟩,Nat.zero_le _⟩ ?_
 rintro ⟨k,B,cB⟩ m6 ⟨g1,g2,g3⟩
 simp only at g2 g3
 refine Br.mk (fun hb3=>?_) (fun hb3=>?_)
 ·have hk:k<L.length:=by
   have:(k:Int)<L.length:=of_decide_eq_true hb3
   omega
  have hsucc:onceS (L.take (k+1))=putS (onceS (L.take k)) L[k]:=by unfold onceS;exact fold_succ hk
  have hlen:(onceS (L.take k)).length≤4:=by
   have:=foldPut_len (L.take k) []
   rw [List.length_take] at this
   unfold onceS;simp only [List.length_nil] at this;omega
  obtain ⟨ad,rfl⟩:∃ ad,A=some ad:=by
   cases A with
   | none=>rw [hx0 rfl] at hk;simp at hk
   | some ad=>exact ⟨ad,rfl⟩
  have hcell:CellAt m6 (ad.add k) (i L[k]):=(IAt.cell (hx1 ad rfl) hk).mono g1
  refine WIdx.mk ad rfl ⟨by omega,by simpa using hk⟩ ?_
  refine WLd.mk (i L[k]) (by simpa using hcell) ?_
  refine WCall.pure (has_ok g2.iat (by omega) L[k]) ?_
  refine Br.mk (fun hb4=>?_) (fun hb4=>?_)
  ·have hno:¬ ((onceS (L.take k)).any fun y=>L[k]==y)=true:=fun hh=>by rw [hh] at hb4;cases hb4
   have hput:onceS (L.take (k+1))=onceS (L.take k)++[L[k]]:=by rw [hsucc];unfold putS;rw [if_neg hno]
   refine WNew.mk fun by1 hby1=>?_
   conv=>whnf
   refine push_ok (L:=onceS (L.take k)) (z:=L[k]) (g1.trans (Mem.le_set hby1)) (g2.mono (Mem.le_set hby1)) (Mem.set_same _ _ _) rfl (by omega) fun a9 c9 m9 hle9 hp9=>?_
   have hl2:(onceS (L.take k)).length+1=(onceS (L.take (k+1))).length:=by rw [hput];simp
   rw [← hput] at hp9
   rw [hl2]
   refine WRng.mk (by apply wrap_i64<;>omega) ?_
   conv=>whnf
   exact ⟨(k+1,a9,c9),⟨rfl,rfl,trivial⟩,⟨hle9,hp9,hk⟩,by simp only;omega⟩
  ·have hyes:((onceS (L.take k)).any fun y=>L[k]==y)=true:=by
    cases hh:(onceS (L.take k)).any fun y=>L[k]==y with
    | true=>rfl
    | false=>rw [hh] at hb4;cases hb4
   have hput:onceS (L.take (k+1))=onceS (L.take k):=by rw [hsucc];unfold putS;rw [if_pos hyes]
   refine WRng.mk (by apply wrap_i64<;>omega) ?_
   conv=>whnf
   exact ⟨(k+1,B,cB),⟨rfl,by rw [hput];rfl,trivial⟩,⟨g1,by rw [hput];exact g2,hk⟩,by simp only;omega⟩
 ·have hk:k=L.length:=by
   have:¬ (k:Int)<L.length:=of_decide_eq_false hb3
   omega
  subst hk
  rw [List.take_length] at g2
  exact WRet.same ⟨B,cB,by rw [List.take_length];rfl,hle.trans g1,g2.base hle⟩
end Go.Proofs.YtleofbpepfmfgaaGreatDoor
