import Derived.Test.YtleofbpepfmfgaaGreatDoorVxOpen64
import Derived.Test.YtleofbpepfmfgaaGreatDoorVxSimF
set_option linter.unusedSimpArgs false
set_option linter.unusedVariables false
set_option maxRecDepth 100000
namespace Go.Proofs.YtleofbpepfmfgaaGreatDoor
open Go Go.Vx
open Go.Vx.IOp Go.Vx.IR Go.Vx.Opd
theorem useBit {k:Int} (h1:1≤k) (h2:k≤25):(IntKind.i64.wrap (BitVec.ofInt IntKind.i64.bits (useT k) &&& BitVec.ofInt IntKind.i64.bits 1).toNat != 0)=uD k:=by
 rcases kinds h1 h2 with rfl|rfl|rfl|rfl|rfl|rfl|rfl|rfl|rfl|rfl|rfl|rfl|rfl|rfl|rfl|rfl|rfl|rfl|rfl|rfl|rfl|rfl|rfl|rfl|rfl<;>rfl
theorem write_ok {m:Mem} {T:Nat} {fr:Nat×Nat} (hm:m 0=some (.cells ⟨cells0⟩ T fr)) (o:OpR) (hk:1≤o.kd∧o.kd≤25) :
  PureM Tryz.prog 110 [o.val] m (i (if uD o.kd=true then o.ds else -1)):=by
 refine calls_of mixed Tryz.func110 ok_code_Write rfl ?_
 refine WCall.pure (of_ok hm o.kd) ?_
 rw [if_pos hk,decide_eq_true hk]
 conv=>whnf
 rw [useBit hk.1 hk.2]
 refine Br.mk (fun hb=>?_) (fun hb=>?_)
 ·rw [if_pos hb]
  exact WRet.same ⟨rfl,rfl⟩
 ·rw [if_neg (by rw [hb];decide)]
  exact WRet.same ⟨rfl,rfl⟩
theorem writes_ok {m:Mem} {T:Nat} {fr:Nat×Nat} (hm:m 0=some (.cells ⟨cells0⟩ T fr)) (o:OpR) (hk:1≤o.kd∧o.kd≤28) :
  PureM Tryz.prog 77 [o.val] m (i (if uD o.kd=true then o.ds else -1)):=by
 refine calls_of mixed Tryz.func77 ok_sim_writes rfl ?_
 refine Br.mk (fun hb=>?_) (fun hb=>?_)
 ·have hb':o.kd≥26:=of_decide_eq_true hb
  have h:o.kd=26∨o.kd=27∨o.kd=28:=by omega
  have hu:uD o.kd=false:=by rcases h with h | h | h<;>rw [h]<;>rfl
  rw [if_neg (by rw [hu];decide)]
  exact WRet.same ⟨rfl,rfl⟩
 ·have hb':¬ o.kd≥26:=of_decide_eq_false hb
  refine WCall.pure (write_ok hm o ⟨hk.1,by omega⟩) ?_
  exact WRet.same ⟨rfl,rfl⟩
theorem mayTrap_ok (m:Mem) (o:OpR):PureM Tryz.prog 138 [o.val] m (.bool (mayTrapS o)):=by
 refine calls_of mixed Tryz.func138 ok_words_MayTrap rfl ?_
 have key:∀ z:Bool,(o.kd==14||o.kd==15||o.kd==16||o.kd==17||o.kd==20||o.kd==21||o.kd==22||o.kd==27||o.kd==28)=z→mayTrapS o=(z||o.gd != -1):=fun z h=>by unfold mayTrapS;rw [h]
 repeat' (conv=>whnf
          first
          | (refine Br.mk (fun hh=>?_) (fun hh=>?_)<;>try (cases hh;done))
          | (exact WRet.same ⟨by first | (rw [key true (by simp_all)];rfl) | (rw [key false (by simp_all)];rfl),rfl⟩))
abbrev v8 (n:Nat):Value:=.int .i8 n
def R8 (m:Mem) (b:Nat) (w:List Nat):Prop:=∃ rest,m b=some (Cells (w.map v8++rest) 117)
theorem R8.mono {m m':Mem} {b:Nat} {w:List Nat} (h:R8 m b w) (hle:Mem.le m m'):R8 m' b w:=by obtain ⟨r,h⟩:=h;exact ⟨r,hle _ _ h⟩
theorem R8.cells {m:Mem} {b:Nat} {w:List Nat} (h:R8 m b w):CellsAt m ⟨b,0,none⟩ (w.map v8):=by
 obtain ⟨r,h⟩:=h
 exact CellsAt.blk h fun j v hj=>by rw [Nat.zero_add,List.getElem?_append_left (List.getElem?_eq_some_iff.1 hj).1];exact hj
theorem R8.cell {m:Mem} {b:Nat} {w:List Nat} (h:R8 m b w) {k:Nat} (hk:k<w.length):CellAt m ((⟨b,0,none⟩:Addr).add k) (v8 (w.getD k 0)) :=
 h.cells k _ (by rw [List.getElem?_map,List.getD_eq_getElem?_getD,List.getElem?_eq_getElem hk];rfl)
theorem clone8_ok {m:Mem} {b c:Nat} {w:List Nat} (hv:R8 m b w) (hlen:w.length≤4398046511104) :
  CallsM Tryz.prog 75 [.slice (some ⟨b,0,none⟩) w.length c] m fun e m'=>∃ b' c',e=.returned (.slice (some ⟨b',0,none⟩) w.length c')∧Mem.le m m'∧R8 m' b' w∧m b'=none:=by
 refine calls_of mixed Tryz.func75 ok_slices_Clone_int8_int8 rfl ?_
 refine Br.mk (fun hb=>by cases hb) (fun hb=>?_)
 refine WNew.mk fun b1 hb1=>?_
 refine WApp.copyB hb1 (A:=some ⟨b,0,none⟩) (n:=w.length) rfl rfl (w.map v8) ⟨by simp,fun ad' ha=>by cases ha;exact hv.cells⟩ (fun ha=>by cases ha) (by omega) fun b' cb m1 rest hle1 hcb hbm hcells=>?_
 exact WRet.same ⟨b',cb,rfl,hle1,⟨rest,hcells⟩,hbm⟩
theorem class_in (k:Int):0≤(classS k).1∧(classS k).1<4:=by
 unfold classS
 split
 ·exact ⟨by decide,by decide⟩
 split
 ·exact ⟨by decide,by decide⟩
 split
 ·exact ⟨by decide,by decide⟩
 split<;>exact ⟨by decide,by decide⟩
theorem lat_in {M:Mac} (h:M.ok=true) {q:Nat} (hq:q<4):1≤M.lat q∧M.lat q≤8:=by
 have key:M.row q=true→1≤M.lat q∧M.lat q≤8:=fun h=>by
  unfold Mac.row inR at h
  simp only [Bool.and_eq_true,decide_eq_true_eq] at h
  omega
 unfold Mac.ok at h
 simp only [Bool.and_eq_true] at h
 have hq5:q=0∨q=1∨q=2∨q=3:=by omega
 rcases hq5 with rfl | rfl | rfl | rfl
 ·exact key h.1.1.1.1
 ·exact key h.1.1.1.2
 ·exact key h.1.1.2
 ·exact key h.1.2
theorem dl_le {M:Mac} (h:M.ok=true) (o:OpR):1≤dlS M o∧dlS M o≤8:=by
 have hc:=class_in o.kd
 have:=lat_in h (q:=(classS o.kd).1.toNat) (by omega)
 unfold dlS;omega
theorem delay_ok {m:Mem} {T:Nat} {fr:Nat×Nat} (hm:m 0=some (.cells ⟨cells0⟩ T fr)) {p U:Nat} {V:CV} {C:CodeR} {M:Mac} {tl:List Value} (hp:m p=some (Cells (V.cells C++M.cells++tl) U)) (hM:M.ok=true) (o:OpR) :
  PureM Tryz.prog 78 [ptr p,o.val] m (v8 (dlS M o)):=by
 refine calls_of mixed Tryz.func78 ok_sim_waits_delay rfl ?_
 have hc:=class_in o.kd
 obtain ⟨q,hq,hq4⟩:∃ q:Nat,(classS o.kd).1=q∧q<4:=⟨(classS o.kd).1.toNat,by omega,by omega⟩
 refine WCall.pure (class_ok hm o.kd) ?_
 unfold pairV
 rw [hq]
 refine WBnd.mk ⟨by omega,by omega⟩ ?_
 refine WLd.mk (i (M.lat q)) ?_ ?_
 ·rw [add0,addo,addo]
  refine ⟨_,_,_,hp,rfl,?_⟩
  have hq5:q=0∨q=1∨q=2∨q=3:=by omega
  rcases hq5 with rfl | rfl | rfl | rfl<;>rfl
 conv=>whnf
 have hl:1≤M.lat q∧M.lat q≤8:=lat_in hM hq4
 have hd:(dlS M o:Int)=M.lat q:=by unfold dlS;rw [hq,Int.toNat_natCast];omega
 refine WRet.same ⟨?_,rfl⟩
 show Ending.returned (.int .i8 (IntKind.i8.wrap (M.lat q)))=.returned (.int .i8 (dlS M o))
 rw [hd]
 have:∀ z:Int,1≤z→z≤8→IntKind.i8.wrap z=z:=fun z h1 h2=>by
  have:z=1∨z=2∨z=3∨z=4∨z=5∨z=6∨z=7∨z=8:=by omega
  rcases this with rfl | rfl | rfl | rfl | rfl | rfl | rfl | rfl<;>rfl
 rw [this _ hl.1 hl.2]
abbrev TW:Nat:=116
abbrev TR:Nat:=113
def Keep (F:Nat→Prop) (m m':Mem):Prop:=∀ b o,m b=some o→¬ F b→m' b=some o
theorem Keep.refl (F:Nat→Prop) (m:Mem):Keep F m m:=fun _ _ h _=>h
theorem Keep.of_le {F:Nat→Prop} {m m':Mem} (h:Mem.le m m'):Keep F m m':=fun b o hb _=>h b o hb
theorem Keep.trans' {F G:Nat→Prop} {m m1 m2:Mem} (h:Keep F m m1) (k:Keep G m1 m2) (hG:∀ b,G b→F b∨m b=none):Keep F m m2:=fun b o hb hn=>k b o (h b o hb hn) fun hg=>by
 rcases hG b hg with h1 | h1
 ·exact hn h1
 ·rw [h1] at hb;cases hb
theorem Keep.set {F:Nat→Prop} {m m':Mem} {b:Nat} {o:Obj} (h:Keep F m m') (hb:F b∨m b=none):Keep F m (m'.set b o):=fun x p hx hn=>by
 by_cases e:x=b
 ·subst e
  rcases hb with hb | hb
  ·exact absurd hb hn
  ·rw [hb] at hx;cases hx
 ·rw [Mem.set_other _ _ e];exact h x p hx hn
theorem Keep.le {F:Nat→Prop} {m0 m m':Mem} (h:Keep F m m') (hle:Mem.le m0 m) (hF:∀ b,F b→m0 b=none):Mem.le m0 m':=fun b o hb=>h b o (hle b o hb) fun hf=>by rw [hF b hf] at hb;cases hb
theorem ne_type {m:Mem} {a b:Nat} {x y:List Value} {T U:TypeId} (ha:m a=some (Cells x T)) (hb:m b=some (Cells y U)) (hT:T≠U):a≠b:=fun e=>by
 subst e;rw [ha] at hb;injection hb with hb;injection hb with _ h2;exact hT h2
theorem ne_free {m:Mem} {a b:Nat} {o:Obj} (ha:m a=some o) (hb:m b=none):a≠b:=fun e=>by subst e;rw [ha] at hb;cases hb
structure Wt where
 p:Nat
 ba:Nat
 rb:Nat→Nat
 rc:Nat→Nat
 aw:Option Addr
 cw:Nat
 A:WS
 L:List Nat
def Wt.rowV (S:Wt) (k:Nat):Option (List Nat)→Value
 | none=>ns
 | some w=>.slice (some ⟨S.rb k,0,none⟩) w.length (S.rc k)
def Wt.foot (S:Wt) (b:Nat):Prop:=b=S.p∨b=S.ba∨(∃ (k:Nat) (w:List Nat),S.A[k]? = some (some w)∧b=S.rb k)∨S.aw=some ⟨b,0,none⟩
def Wt.cells (S:Wt) (V:CV) (C:CodeR) (M:Mac):List Value:=V.cells C++M.cells++[.slice (some ⟨S.ba,0,none⟩) S.A.length S.A.length,.slice S.aw S.L.length S.cw]
abbrev numL (L:List Nat):List Value:=L.map fun n:Nat=>i n
structure WtAt (m:Mem) (V:CV) (C:CodeR) (M:Mac) (S:Wt):Prop where
 hp:m S.p=some (Cells (S.cells V C M) TW)
 ha:∃ rows,m S.ba=some (Cells rows TR)∧rows.length=S.A.length∧∀ (k:Nat) (x:Option (List Nat)),S.A[k]? = some x→rows[k]? = some (S.rowV k x)
 row:∀ (k:Nat) (w:List Nat),S.A[k]? = some (some w)→R8 m (S.rb k) w
 inj:∀ (j k:Nat) (v w:List Nat),S.A[j]? = some (some v)→S.A[k]? = some (some w)→S.rb j=S.rb k→j=k
 wk:(S.aw=none∧S.L=[]∧S.cw=0)∨∃ b rest,S.aw=some ⟨b,0,none⟩∧m b=some (Cells (numL S.L++rest) 3)∧S.L.length+rest.length=S.cw
section
variable {m m':Mem} {V:CV} {C:CodeR} {M:Mac} {S:Wt}
theorem WtAt.live (h:WtAt m V C M S) {b:Nat} (hb:S.foot b):∃ o,m b=some o:=by
 rcases hb with hb | hb | ⟨k,w,hk,hb⟩ | hb
 ·subst hb;exact ⟨_,h.hp⟩
 ·subst hb;obtain ⟨rows,hr,_⟩:=h.ha;exact ⟨_,hr⟩
 ·subst hb;obtain ⟨r,hr⟩:=h.row k w hk;exact ⟨_,hr⟩
 ·rcases h.wk with ⟨e,_⟩ | ⟨b',rest,e,hm,_⟩
  ·rw [e] at hb;cases hb
  ·rw [e] at hb;cases hb;exact ⟨_,hm⟩
theorem WtAt.notfree (h:WtAt m V C M S) {b:Nat} (hb:m b=none):¬ S.foot b:=fun hf=>by
 obtain ⟨o,ho⟩:=h.live hf
 rw [hb] at ho;cases ho
theorem WtAt.same (h:WtAt m V C M S) (hk:∀ b o,S.foot b→m b=some o→m' b=some o):WtAt m' V C M S where
 hp:=hk _ _ (.inl rfl) h.hp
 ha:=by
  obtain ⟨rows,h1,h2⟩:=h.ha
  exact ⟨rows,hk _ _ (.inr (.inl rfl)) h1,h2⟩
 row:=fun k w hkw=>by
  obtain ⟨r,hr⟩:=h.row k w hkw
  exact ⟨r,hk _ _ (.inr (.inr (.inl ⟨k,w,hkw,rfl⟩))) hr⟩
 inj:=h.inj
 wk:=by
  rcases h.wk with e | ⟨b,rest,e,hm,hl⟩
  ·exact .inl e
  ·exact .inr ⟨b,rest,e,hk _ _ (.inr (.inr (.inr e))) hm,hl⟩
theorem WtAt.mono (h:WtAt m V C M S) (hle:Mem.le m m'):WtAt m' V C M S:=h.same fun b o _ hb=>hle b o hb
theorem WtAt.setRow (h:WtAt m V C M S) {k:Nat} {w w':List Nat} {rest:List Value} (hk:S.A[k]? = some (some w)) (hl:w'.length=w.length) :
  WtAt (m.set (S.rb k) (Cells (w'.map v8++rest) 117)) V C M { S with A:=S.A.set k (some w') }:=by
 have hkl:k<S.A.length:=(List.getElem?_eq_some_iff.1 hk).1
 obtain ⟨r0,hr0⟩:=h.row k w hk
 have get:∀ (j:Nat) (x:Option (List Nat)),(S.A.set k (some w'))[j]? = some x→(j=k∧x=some w')∨(j≠k∧S.A[j]? = some x):=fun j x hj=>by
  rw [set_get hkl] at hj
  split at hj
  ·rename_i e;cases hj;exact .inl ⟨e.symm,rfl⟩
  ·rename_i e;exact .inr ⟨fun h=>e h.symm,hj⟩
 have back:∀ (j:Nat) (v:List Nat),(S.A.set k (some w'))[j]? = some (some v)→∃ v':List Nat,S.A[j]? = some (some v'):=fun j v hj=>by
  rcases get j _ hj with ⟨rfl,_⟩ | ⟨_,hj⟩
  ·exact ⟨w,hk⟩
  ·exact ⟨v,hj⟩
 refine ⟨?_,?_,?_,?_,?_⟩
 ·rw [Mem.set_other _ _ (ne_type h.hp hr0 (by decide))]
  have:=h.hp
  unfold Wt.cells at this ⊢
  simp only [List.length_set]
  exact this
 ·obtain ⟨rows,h1,h2,h3⟩:=h.ha
  refine ⟨rows,?_,by simpa using h2,fun j x hj=>?_⟩
  ·rw [Mem.set_other _ _ (ne_type h1 hr0 (by decide))];exact h1
  ·rcases get j _ hj with ⟨rfl,rfl⟩ | ⟨_,hj⟩
   ·rw [h3 j _ hk];show some (Value.slice _ w.length _)=some (Value.slice _ w'.length _);rw [hl]
   ·exact h3 j x hj
 ·intro j v hj
  rcases get j _ hj with ⟨rfl,e⟩ | ⟨hne,hj⟩
  ·cases e;exact ⟨rest,Mem.set_same _ _ _⟩
  ·obtain ⟨r,hr⟩:=h.row j v hj
   refine ⟨r,?_⟩
   rw [Mem.set_other _ _ (fun e=>hne (h.inj j k v w hj hk e))];exact hr
 ·intro j1 j2 v1 v2 h1 h2 e
  obtain ⟨u1,g1⟩:=back j1 v1 h1
  obtain ⟨u2,g2⟩:=back j2 v2 h2
  exact h.inj j1 j2 u1 u2 g1 g2 e
 ·rcases h.wk with e | ⟨b,rest,e,hm,hl⟩
  ·exact .inl e
  ·refine .inr ⟨b,rest,e,?_,hl⟩
   rw [Mem.set_other _ _ (ne_type hm hr0 (by decide))];exact hm
theorem Wt.foot_setRow {k:Nat} {w w':List Nat} (hk:S.A[k]? = some (some w)) {b:Nat} (hb:({ S with A:=S.A.set k (some w') }:Wt).foot b):S.foot b:=by
 have hkl:k<S.A.length:=(List.getElem?_eq_some_iff.1 hk).1
 rcases hb with hb | hb | ⟨j,v,hj,hb⟩ | hb
 ·exact .inl hb
 ·exact .inr (.inl hb)
 ·refine .inr (.inr (.inl ?_))
  have hj:(S.A.set k (some w'))[j]? = some (some v):=hj
  rw [set_get hkl] at hj
  split at hj
  ·rename_i e;subst e;exact ⟨k,w,hk,hb⟩
  ·exact ⟨j,v,hj,hb⟩
 ·exact .inr (.inr (.inr hb))
def Wt.withRow (S:Wt) (k b c:Nat) (w:List Nat):Wt:={ S with A:=S.A.set k (some w),rb:=fun j=>if j=k then b else S.rb j,rc:=fun j=>if j=k then c else S.rc j }
theorem WtAt.newRow (h:WtAt m V C M S) {k b c:Nat} {w:List Nat} {rest:List Value} (hk:S.A[k]? = some none) (hb:m b=none) {rows:List Value} (hrows:m S.ba=some (Cells rows TR)) :
  WtAt ((m.set b (Cells (w.map v8++rest) 117)).set S.ba (Cells (rows.set k (.slice (some ⟨b,0,none⟩) w.length c)) TR)) V C M (S.withRow k b c w):=by
 have hkl:k<S.A.length:=(List.getElem?_eq_some_iff.1 hk).1
 have nb:∀ {x:Nat} {o:Obj},m x=some o→x≠b:=fun hx=>ne_free hx hb
 have get:∀ (j:Nat) (x:Option (List Nat)),(S.A.set k (some w))[j]? = some x→(j=k∧x=some w)∨(j≠k∧S.A[j]? = some x):=fun j x hj=>by
  rw [set_get hkl] at hj
  split at hj
  ·rename_i e;cases hj;exact .inl ⟨e.symm,rfl⟩
  ·rename_i e;exact .inr ⟨fun h=>e h.symm,hj⟩
 have hbb:b≠S.ba:=fun e=>by rw [e,hrows] at hb;cases hb
 refine ⟨?_,?_,?_,?_,?_⟩
 ·show _=_
  rw [show (S.withRow k b c w).p=S.p from rfl,Mem.set_other _ _ (ne_type h.hp hrows (by decide)),Mem.set_other _ _ (nb h.hp)]
  have:=h.hp
  unfold Wt.cells at this ⊢
  show _=some (Cells (V.cells C++M.cells++[.slice (some ⟨S.ba,0,none⟩) (S.A.set k (some w)).length (S.A.set k (some w)).length,.slice S.aw S.L.length S.cw]) TW)
  rw [List.length_set]
  exact this
 ·obtain ⟨rows',h1,h2,h3⟩:=h.ha
  rw [hrows] at h1
  injection h1 with h1;injection h1 with h1 _;injection h1 with h1
  subst h1
  refine ⟨_,Mem.set_same _ _ _,?_,fun j x hj=>?_⟩
  ·show _=(S.A.set k (some w)).length
   simp [h2]
  ·rcases get j _ hj with ⟨rfl,rfl⟩ | ⟨hne,hj⟩
   ·rw [List.getElem?_set,if_pos rfl,if_pos (by rw [h2];exact hkl)]
    show _=some (Value.slice (some ⟨if j=j then b else S.rb j,0,none⟩) w.length (if j=j then c else S.rc j))
    rw [if_pos rfl,if_pos rfl]
   ·rw [List.getElem?_set,if_neg (fun e=>hne e.symm),h3 j x hj]
    cases x with
    | none=>rfl
    | some v =>
     show some (Value.slice (some ⟨S.rb j,0,none⟩) v.length (S.rc j))=some (Value.slice (some ⟨if j=k then b else S.rb j,0,none⟩) v.length (if j=k then c else S.rc j))
     rw [if_neg hne,if_neg hne]
 ·intro j v hj
  show R8 _ (if j=k then b else S.rb j) v
  rcases get j _ hj with ⟨rfl,e⟩ | ⟨hne,hj⟩
  ·cases e
   rw [if_pos rfl]
   exact ⟨rest,by rw [Mem.set_other _ _ hbb,Mem.set_same]⟩
  ·rw [if_neg hne]
   obtain ⟨r,hr⟩:=h.row j v hj
   exact ⟨r,by rw [Mem.set_other _ _ (ne_type hr hrows (by decide)),Mem.set_other _ _ (nb hr)];exact hr⟩
 ·intro j1 j2 v1 v2 h1 h2 e
  have e:(if j1=k then b else S.rb j1)=(if j2=k then b else S.rb j2):=e
  rcases get j1 _ h1 with ⟨e1,_⟩ | ⟨n1,g1⟩<;>rcases get j2 _ h2 with ⟨e2,_⟩ | ⟨n2,g2⟩
  ·rw [e1,e2]
  ·rw [if_pos e1,if_neg n2] at e
   obtain ⟨r,hr⟩:=h.row j2 v2 g2
   rw [← e,hb] at hr;cases hr
  ·rw [if_neg n1,if_pos e2] at e
   obtain ⟨r,hr⟩:=h.row j1 v1 g1
   rw [e,hb] at hr;cases hr
  ·rw [if_neg n1,if_neg n2] at e
   exact h.inj j1 j2 v1 v2 g1 g2 e
 ·rcases h.wk with e | ⟨b3,rest3,e,hm,hl⟩
  ·exact .inl e
  ·refine .inr ⟨b3,rest3,e,?_,hl⟩
   rw [Mem.set_other _ _ (ne_type hm hrows (by decide)),Mem.set_other _ _ (nb hm)];exact hm
theorem Wt.foot_withRow {k b0 c:Nat} {w:List Nat} (hk:S.A[k]? = some none) {b:Nat} (hb:(S.withRow k b0 c w).foot b):S.foot b∨b=b0:=by
 have hkl:k<S.A.length:=(List.getElem?_eq_some_iff.1 hk).1
 rcases hb with hb | hb | ⟨j,v,hj,hb⟩ | hb
 ·exact .inl (.inl hb)
 ·exact .inl (.inr (.inl hb))
 ·have hj:(S.A.set k (some w))[j]? = some (some v):=hj
  have hb:b=if j=k then b0 else S.rb j:=hb
  rw [set_get hkl] at hj
  split at hj
  ·rename_i e;rw [if_pos e.symm] at hb;exact .inr hb
  ·rename_i e;rw [if_neg (fun h=>e h.symm)] at hb;exact .inl (.inr (.inr (.inl ⟨j,v,hj,hb⟩)))
 ·exact .inl (.inr (.inr (.inr hb)))
theorem WtAt.setWork (h:WtAt m V C M S) {L':List Nat} {aw':Option Addr} {cw':Nat} (hp:m' S.p=some (Cells (({ S with L:=L',aw:=aw',cw:=cw' }:Wt).cells V C M) TW))
  (hk:∀ b o,m b=some o→b≠S.p→S.aw≠some ⟨b,0,none⟩→m' b=some o) (hw:(aw'=none∧L'=[]∧cw'=0)∨∃ b rest,aw'=some ⟨b,0,none⟩∧m' b=some (Cells (numL L'++rest) 3)∧L'.length+rest.length=cw') :
  WtAt m' V C M { S with L:=L',aw:=aw',cw:=cw' } where
 hp:=hp
 ha:=by
  obtain ⟨rows,h1,h2⟩:=h.ha
  refine ⟨rows,hk _ _ h1 (ne_type h1 h.hp (by decide)) (fun e=>?_),h2⟩
  rcases h.wk with ⟨e1,_⟩ | ⟨b,rest,e1,hm,_⟩
  ·rw [e1] at e;cases e
  ·rw [e1] at e;cases e;exact ne_type h1 hm (by decide) rfl
 row:=fun k w hkw=>by
  obtain ⟨r,hr⟩:=h.row k w hkw
  refine ⟨r,hk _ _ hr (ne_type hr h.hp (by decide)) (fun e=>?_)⟩
  rcases h.wk with ⟨e1,_⟩ | ⟨b,rest,e1,hm,_⟩
  ·rw [e1] at e;cases e
  ·rw [e1] at e;injection e with e;injection e with e;exact ne_type hr hm (by decide) e.symm
 inj:=h.inj
 wk:=hw
theorem pushW (h:WtAt m V C M S) {bx x:Nat} {K:Value→Mem→Prop} (hx:m bx=some (Cells [i x] 3)) (hlen:(S.L.length+1) * 8≤35184372088832)
  (k:∀ b' c' rest m',m' b'=some (Cells (numL (S.L++[x])++rest) 3)→(S.L++[x]).length+rest.length=c'→(m b'=none∨S.aw=some ⟨b',0,none⟩)→(∀ b,b≠b'→m' b=m b)→K (.slice (some ⟨b',0,none⟩) (S.L.length+1) c') m') :
  WApp m 3 1 8 [i 0] S.aw S.L.length S.cw (some ⟨bx,0,none⟩) 1 K:=by
 have hnew:FirstCells m (some ⟨bx,0,none⟩) (1 * 1) [i (x:Int)]:=⟨rfl,fun ad had=>by cases had;exact CellsAt.blk hx fun j v hj=>by rw [Nat.zero_add];exact hj⟩
 have grow:(∀ ad,S.aw=some ad→CellsAt m ad (numL S.L))→(S.aw=none→S.L.length=0)→S.cw<S.L.length+1→WApp m 3 1 8 [i 0] S.aw S.L.length S.cw (some ⟨bx,0,none⟩) 1 K:=by
  intro h1 h2 hc
  refine WApp.grow _ hnew (fun h=>by cases h) hc hlen (numL S.L) ⟨by simp,h1⟩ h2 fun b2 c2 hb2 hc2=>?_
  refine k b2 c2 ((List.replicate (c2 - (S.L.length+1)) [i 0]).flatten) _ ?_ (by rw [repl_len];simp;omega) (.inl hb2) fun b hb=>Mem.set_other _ _ hb
  rw [Mem.set_same]
  simp [numL]
 rcases h.wk with ⟨e1,e2,e3⟩ | ⟨b,rest,e1,hm,hl⟩
 ·exact grow (fun ad ha=>by rw [e1] at ha;cases ha) (fun _=>by rw [e2];rfl) (by rw [e3];omega)
 ·by_cases hcc:S.L.length+1≤S.cw
  ·rw [e1]
   obtain ⟨r0,rest',hr⟩:∃ r0 rest',rest=r0 :: rest':=by
    cases rest with
    | nil=>simp at hl;omega
    | cons a b=>exact ⟨a,b,rfl⟩
   subst hr
   refine WApp.in (ad:=⟨b,0,none⟩) _ hnew (fun h=>by cases h) _ _ hcc hm rfl (by simp) rfl ?_
   refine k b S.cw rest' _ ?_ (by simp at hl ⊢;omega) (.inr e1) fun b3 hb3=>Mem.set_other _ _ hb3
   rw [Mem.set_same]
   have e:spliceL (numL S.L++r0 :: rest') (0+S.L.length * 1) [i (x:Int)]=numL (S.L++[x])++rest':=by
    rw [spliceL_eq _ _ _ (by simp),Nat.zero_add,Nat.mul_one]
    have:(numL S.L).length=S.L.length:=by simp
    rw [List.take_left' this,List.drop_append,this]
    simp [numL]
   rw [e]
  ·exact grow (fun ad ha=>by rw [e1] at ha;cases ha;exact CellsAt.blk hm fun j v hj=>by rw [Nat.zero_add,List.getElem?_append_left (List.getElem?_eq_some_iff.1 hj).1];exact hj) (fun h=>by rw [e1] at h;cases h) (by omega)
theorem set_row8 {w:List Nat} {rest:List Value} {r x:Nat} (h:r<w.length):spliceL (w.map v8++rest) r [v8 x]=(w.set r x).map v8++rest:=by
 show (w.map v8++rest).set r _=_
 rw [List.set_append_left _ _ (by simpa using h),List.map_set]
end
def preW (w l:List Nat):Nat→List Nat
 | 0=>w
 | r+1=>(preW w l r).set r (max ((preW w l r).getD r 0) (l.getD r 0))
theorem pre_len (w l:List Nat) (r:Nat):(preW w l r).length=w.length:=by induction r with | zero=>rfl | succ r ih=>rw [preW,List.length_set,ih]
theorem pre_get (w l:List Nat):∀ (r j:Nat),(preW w l r).getD j 0=if j<r∧j<w.length then max (w.getD j 0) (l.getD j 0) else w.getD j 0
 | 0,j=>by rw [preW,if_neg (by omega)]
 | r+1,j=>by
  rw [preW,getD_setN,pre_len]
  by_cases e:r=j∧r<w.length
  ·rw [if_pos e,pre_get w l r r,if_neg (by omega),← e.1,if_pos (by omega)]
  ·rw [if_neg e,pre_get w l r j]
   by_cases e2:j<r∧j<w.length
   ·rw [if_pos e2,if_pos (by omega)]
   ·rw [if_neg e2,if_neg (by omega)]
theorem pre_all {w l:List Nat} (hl:w.length=l.length):preW w l l.length=maxW w l:=by
 apply List.ext_getElem (by rw [pre_len,max_len hl])
 intro j h1 h2
 have e1:=pre_get w l l.length j
 rw [pre_len] at h1
 rw [if_pos (by omega),← max_get hl j,List.getD_eq_getElem?_getD,List.getD_eq_getElem?_getD,List.getElem?_eq_getElem (by rw [pre_len];exact h1),List.getElem?_eq_getElem h2] at e1
 exact e1
theorem pre_keep {w l:List Nat} {r:Nat} (h:¬ l.getD r 0>(preW w l r).getD r 0):preW w l (r+1)=preW w l r:=by
 rw [preW,Nat.max_eq_left (by omega)]
 apply List.ext_getElem (by simp)
 intro j h1 h2
 rw [List.getElem_set]
 split
 ·rename_i e;subst e;rw [List.getD_eq_getElem?_getD,List.getElem?_eq_getElem h2];rfl
 ·rfl
theorem pre_new {w l:List Nat} {r:Nat} (hr:r<w.length) (h:l.getD r 0>(preW w l r).getD r 0):preW w l (r+1)=(preW w l r).set r (l.getD r 0)∧preW w l (r+1)≠w:=by
 refine ⟨by rw [preW,Nat.max_eq_right (by omega)],fun e=>?_⟩
 have e1:=pre_get w l (r+1) r
 have e2:=pre_get w l r r
 rw [if_neg (by omega)] at e2
 rw [e,if_pos (by omega)] at e1
 omega
def meetTail:IR:=(match ir_sim_waits_meet.body with | .seq _ (.seq _ r)=>r | r=>r)
def meetA:IR:=(match ir_sim_waits_meet.body with | .seq a (.seq _ r)=>a | r=>r)
def meetB:IR:=(match ir_sim_waits_meet.body with | .seq _ (.seq b r)=>b | r=>r)
theorem meet_body:ir_sim_waits_meet.body=.seq meetA (.seq meetB meetTail):=rfl
section
variable {m:Mem} {V:CV} {C:CodeR} {M:Mac} {S:Wt}
theorem WtAt.at17 (h:WtAt m V C M S):CellAt m ((⟨S.p,0,none⟩:Addr).add 17) (.slice (some ⟨S.ba,0,none⟩) S.A.length S.A.length):=by
 rw [add0];exact ⟨_,_,_,h.hp,rfl,rfl⟩
theorem WtAt.at18 (h:WtAt m V C M S):CellAt m ((⟨S.p,0,none⟩:Addr).add 18) (.slice S.aw S.L.length S.cw):=by
 rw [add0];exact ⟨_,_,_,h.hp,rfl,rfl⟩
theorem WtAt.atRow (h:WtAt m V C M S) {k:Nat} {x:Option (List Nat)} (hk:S.A[k]? = some x):CellAt m ((⟨S.ba,0,none⟩:Addr).add k) (S.rowV k x):=by
 obtain ⟨rows,h1,h2,h3⟩:=h.ha
 rw [add0];exact ⟨_,_,_,h1,rfl,by simpa using h3 k x hk⟩
theorem WSt.at {m:Mem} {b z:Nat} {vs:List Value} {K:Mem→Prop} (l:List Value) (T:TypeId) (h:m b=some (Cells l T)) (hb:z+vs.length≤l.length) (k:K (m.set b (Cells (spliceL l z vs) T))):WSt m ((⟨b,0,none⟩:Addr).add z) vs K:=by
 rw [add0];exact WSt.mk l T h rfl hb k
theorem w8gt (a b:Nat):(decide ((a:Int)>(b:Int)))=decide (a>b):=by
 by_cases h:a>b
 ·rw [decide_eq_true h,decide_eq_true (by omega)]
 ·rw [decide_eq_false h,decide_eq_false (by omega)]
theorem meetTail_ok {word bl cl:Nat} {l w0:List Nat} (h:WtAt m V C M S) (hw:S.A[word]? = some (some w0)) (hwl:w0.length=l.length) (hl:R8 m bl l) (hbl:¬ S.foot bl)
  (hlen:l.length≤1000000) (hL:S.L.length≤1000000000000) (hAl:S.A.length≤1000000000000) (g:Bool) {R:Ending→Mem→Prop}
  (k:∀ S' m',WtAt m' V C M S'→S'.p=S.p→S'.A=S.A.set word (some (maxW w0 l))→S'.L=(if (g||decide (maxW w0 l≠w0))=true then S.L++[word] else S.L)→Keep S.foot m m'→(∀ b,S'.foot b→S.foot b∨m b=none)→R (.returned unitV) m') :
  wpI Tryz.prog meetTail (retPost [] R) (envL [(0,.val (ptr S.p)),(1,.val (i word)),(2,.val (.slice (some ⟨bl,0,none⟩) l.length cl)),(6,.val (.bool g))]) m:=by
 have hwA:word<S.A.length:=(List.getElem?_eq_some_iff.1 hw).1
 have hset0:S.A.set word (some w0)=S.A:=by
  apply List.ext_getElem (by simp)
  intro j h1 h2
  rw [List.getElem_set]
  split
  ·rename_i e;subst e
   rw [List.getElem?_eq_getElem hwA] at hw
   exact (Option.some.inj hw).symm
  ·rfl
 refine WLoop.mk (Nat×Bool) (fun s=>[(6,.val (.bool s.2)),(29,.val (i s.1))])
  (fun s m'=>s.1≤l.length∧s.2=(g||decide (preW w0 l s.1≠w0))∧WtAt m' V C M { S with A:=S.A.set word (some (preW w0 l s.1)) }∧Keep S.foot m m') (fun s=>l.length - s.1) (0,g)
  ⟨rfl,rfl,trivial⟩ ⟨Nat.zero_le _,by simp [preW],by rw [preW,hset0];exact h,Keep.refl _ _⟩ ?_
 rintro ⟨r,g'⟩ m' ⟨hr,hg,hS,hkp⟩
 simp only at hr hg hS
 have hwr:({ S with A:=S.A.set word (some (preW w0 l r)) }:Wt).A[word]? = some (some (preW w0 l r)):=by
  show (S.A.set word _)[word]? = _
  rw [set_get hwA,if_pos rfl]
 have h17:=hS.at17
 have hrow:=hS.atRow hwr
 have hR:=hS.row word _ hwr
 have hlr:R8 m' bl l:=by
  obtain ⟨rest,hm⟩:=hl
  exact ⟨rest,hkp _ _ hm hbl⟩
 have hal:(S.A.set word (some (preW w0 l r))).length=S.A.length:=by simp
 refine Br.mk (fun hb=>?_) (fun hb=>?_)
 ·have hr2:r<l.length:=by
   have:(r:Int)<l.length:=of_decide_eq_true hb
   omega
  refine WIdx.mk _ rfl ⟨by omega,by omega⟩ ?_
  refine WLd.mk (v8 (l.getD r 0)) (by simpa using hlr.cell hr2) ?_
  refine WLd.mk _ h17 ?_
  refine WIdx.mk _ rfl ⟨by omega,by simp only;omega⟩ ?_
  refine WLd.mk _ (by simpa using hrow) ?_
  refine WIdx.mk _ rfl ⟨by omega,by rw [pre_len];omega⟩ ?_
  refine WLd.mk (v8 ((preW w0 l r).getD r 0)) (by simpa using hR.cell (by rw [pre_len];omega)) ?_
  refine Br.mk (fun hb2=>?_) (fun hb2=>?_)
  ·have hgt:l.getD r 0>(preW w0 l r).getD r 0:=by rw [w8gt] at hb2;exact of_decide_eq_true hb2
   obtain ⟨n1,n2⟩:=pre_new (by omega) hgt
   refine WLd.mk _ h17 ?_
   refine WIdx.mk _ rfl ⟨by omega,by simp only;omega⟩ ?_
   refine WLd.mk _ (by simpa using hrow) ?_
   refine WIdx.mk _ rfl ⟨by omega,by rw [pre_len];omega⟩ ?_
   conv=>whnf
   obtain ⟨rest,hR2⟩:=hR
   have er:Int.toNat ((r:Nat):Int) * 1=r:=by simp
   rw [er]
   refine WSt.at _ _ hR2 (show r+1≤_ by simp [pre_len];omega) ?_
   rw [show cellsL (Value.int IntKind.i8 ((l.getD r 0:Nat):Int))=[v8 (l.getD r 0)] from rfl,set_row8 (by rw [pre_len];omega),← n1]
   have hS2:=hS.setRow (w':=preW w0 l (r+1)) (rest:=rest) hwr (by rw [pre_len,pre_len])
   have hk2:Keep S.foot m (m'.set (S.rb word) (Cells ((preW w0 l (r+1)).map v8++rest) 117)):=hkp.set (.inl (.inr (.inr (.inl ⟨word,_,hw,rfl⟩))))
   refine WRng.mk (by apply wrap_i64<;>omega) ?_
   conv=>whnf
   refine ⟨(r+1,true),⟨rfl,rfl,trivial⟩,⟨hr2,?_,?_,hk2⟩,Nat.sub_lt_sub_left hr2 (Nat.lt_succ_self r)⟩
   ·show true=(g||decide (preW w0 l (r+1)≠w0))
    rw [decide_eq_true n2,Bool.or_true]
   ·have:S.A.set word (some (preW w0 l (r+1)))=(S.A.set word (some (preW w0 l r))).set word (some (preW w0 l (r+1))):=by rw [List.set_set]
    show WtAt _ V C M { S with A:=S.A.set word (some (preW w0 l (r+1))) }
    rw [this];exact hS2
  ·have hgt:¬ l.getD r 0>(preW w0 l r).getD r 0:=by rw [w8gt] at hb2;exact of_decide_eq_false hb2
   have hpk:=pre_keep hgt
   refine WRng.mk (by apply wrap_i64<;>omega) ?_
   conv=>whnf
   refine ⟨(r+1,g'),⟨rfl,rfl,trivial⟩,⟨hr2,?_,?_,hkp⟩,Nat.sub_lt_sub_left hr2 (Nat.lt_succ_self r)⟩
   ·show g'=(g||decide (preW w0 l (r+1)≠w0))
    rw [hpk];exact hg
   ·show WtAt _ V C M { S with A:=S.A.set word (some (preW w0 l (r+1))) }
    rw [hpk];exact hS
 ·have hr2:r=l.length:=by
   have:¬ (r:Int)<l.length:=of_decide_eq_false hb
   omega
  subst hr2
  rw [pre_all hwl] at hS hg hwr
  have hfoot:∀ b,({ S with A:=S.A.set word (some (maxW w0 l)) }:Wt).foot b→S.foot b:=fun b hb=>Wt.foot_setRow hw hb
  refine Br.mk (fun hb2=>?_) (fun hb2=>?_)
  ·refine WLd.mk _ hS.at18 ?_
   refine WNew.ab fun bx mx hbx lx cx=>?_
   have hSx:=hS.mono lx
   conv=>whnf
   refine pushW hSx (x:=word) cx (by simp only;omega) fun b' c' rest m2 e1 e2 e3 e4=>?_
   have hfr:mx b'=none→m b'=none:=fun h1=>by
    cases hh:m b' with
    | none=>rfl
    | some o =>
     by_cases hf:S.foot b'
     ·obtain ⟨o',ho'⟩:=hS.live (S:={ S with A:=S.A.set word (some (maxW w0 l)) }) (b:=b') (by
       rcases hf with hf | hf | ⟨j,v,hj,hf⟩ | hf
       ·exact .inl hf
       ·exact .inr (.inl hf)
       ·refine .inr (.inr (.inl ?_))
        by_cases e:word=j
        ·subst e;exact ⟨word,_,hwr,hf⟩
        ·exact ⟨j,v,by show (S.A.set word _)[j]? = _;rw [set_get hwA,if_neg e];exact hj,hf⟩
       ·exact .inr (.inr (.inr hf)))
      rw [lx _ _ ho'] at h1;cases h1
     ·rw [lx _ _ (hkp _ _ hh hf)] at h1;cases h1
   have hpb:S.p≠b':=fun e=>by
    have:=hSx.hp
    rcases e3 with e3 | e3
    ·rw [show ({ S with A:=S.A.set word (some (maxW w0 l)) }:Wt).p=S.p from rfl,e,e3] at this;cases this
    ·rcases hSx.wk with ⟨f1,_⟩ | ⟨b3,r3,f1,hm3,_⟩
     ·rw [f1] at e3;cases e3
     ·have f2:some (⟨b3,0,none⟩:Addr)=some ⟨b',0,none⟩:=f1.symm.trans e3
      cases f2
      exact ne_type this hm3 (by decide) e
   have hp2:m2 S.p=some (Cells (({ S with A:=S.A.set word (some (maxW w0 l)) }:Wt).cells V C M) TW):=by rw [e4 _ hpb];exact hSx.hp
   refine WSt.at _ _ hp2 (show 18+1≤19 from Nat.le_refl _) ?_
   have hset:spliceL (({ S with A:=S.A.set word (some (maxW w0 l)) }:Wt).cells V C M) 18 (cellsL (.slice (some ⟨b',0,none⟩) (S.L.length+1) c'))=({ S with A:=S.A.set word (some (maxW w0 l)),L:=S.L++[word],aw:=some ⟨b',0,none⟩,cw:=c' }:Wt).cells V C M:=by
    unfold Wt.cells
    rw [List.length_append]
    rfl
   rw [hset]
   have hS3:WtAt (m2.set S.p (Cells (({ S with A:=S.A.set word (some (maxW w0 l)),L:=S.L++[word],aw:=some ⟨b',0,none⟩,cw:=c' }:Wt).cells V C M) TW)) V C M { S with A:=S.A.set word (some (maxW w0 l)),L:=S.L++[word],aw:=some ⟨b',0,none⟩,cw:=c' } :=
    hSx.setWork (Mem.set_same _ _ _) (fun b o hb hn1 hn2=>by
     rw [Mem.set_other _ _ hn1,e4 b (fun e=>?_)]
     ·exact hb
     ·subst e
      rcases e3 with e3 | e3
      ·rw [hb] at e3;cases e3
      ·exact hn2 e3) (.inr ⟨b',rest,rfl,by rw [Mem.set_other _ _ (fun e=>hpb e.symm)];exact e1,e2⟩)
   have hk3:Keep S.foot m (m2.set S.p (Cells (({ S with A:=S.A.set word (some (maxW w0 l)),L:=S.L++[word],aw:=some ⟨b',0,none⟩,cw:=c' }:Wt).cells V C M) TW)):=fun b o hb hnf=>by
    have hm1:=lx _ _ (hkp b o hb hnf)
    rw [Mem.set_other _ _ (fun e=>hnf (.inl e)),e4 b (fun e=>?_)]
    ·exact hm1
    ·subst e
     rcases e3 with e3 | e3
     ·rw [hm1] at e3;cases e3
     ·exact hnf (.inr (.inr (.inr e3)))
   refine WRet.same (k _ _ hS3 rfl rfl ?_ hk3 fun b hb=>?_)
   ·have hb3:g'=true:=hb2
    rw [if_pos (by rw [← hg,hb3])]
   ·rcases hb with hb | hb | hb | hb
    ·exact .inl (.inl hb)
    ·exact .inl (.inr (.inl hb))
    ·exact .inl (hfoot b (.inr (.inr (.inl hb))))
    ·have hb:some (⟨b',0,none⟩:Addr)=some ⟨b,0,none⟩:=hb
     cases hb
     rcases e3 with e3 | e3
     ·exact .inr (hfr e3)
     ·exact .inl (.inr (.inr (.inr e3)))
  ·refine WRet.same (k _ _ hS rfl rfl ?_ hkp fun b hb=>.inl (hfoot b hb))
   have hb3:g'=false:=hb2
   rw [if_neg (by rw [← hg,hb3];decide)]
attribute [irreducible] meetTail
theorem max_zero {l:List Nat}:maxW (List.replicate l.length 0) l=l:=by
 apply List.ext_getElem (by rw [max_len (by simp)];simp)
 intro j h1 h2
 have:=max_get (a:=List.replicate l.length 0) (b:=l) (by simp) j
 rw [List.getD_eq_getElem?_getD,List.getElem?_eq_getElem h1,Option.getD_some] at this
 rw [this,List.getD_eq_getElem?_getD,List.getD_eq_getElem?_getD,List.getElem?_eq_getElem h2,List.getElem?_replicate,if_pos h2]
 simp
theorem meet_ok {word bl cl:Nat} {l:List Nat} (h:WtAt m V C M S) (hw:word<S.A.length) (hl:R8 m bl l) (hbl:¬ S.foot bl) (hsame:∀ w,S.A[word]? = some (some w)→w.length=l.length)
  (hlen:l.length≤1000000) (hL:S.L.length≤1000000000000) (hAl:S.A.length≤1000000000000) :
  CallsM Tryz.prog 73 [ptr S.p,i word,.slice (some ⟨bl,0,none⟩) l.length cl] m fun e m'=>e=.returned unitV∧∃ S',WtAt m' V C M S'∧S'.p=S.p∧(S'.A,S'.L)=meetW (S.A,S.L) (word,l)∧Keep S.foot m m'∧∀ b,S'.foot b→S.foot b∨m b=none:=by
 refine calls_of mixed Tryz.func73 ok_sim_waits_meet rfl ?_
 unfold Fn.asks
 rw [meet_body]
 refine WLd.mk _ h.at17 ?_
 refine WIdx.mk _ rfl ⟨by omega,by omega⟩ ?_
 obtain ⟨x,hx⟩:∃ x,S.A[word]? = some x:=⟨_,List.getElem?_eq_getElem hw⟩
 cases x with
 | some w0 =>
  have hwl:=hsame w0 hx
  refine WLd.mk (.slice (some ⟨S.rb word,0,none⟩) w0.length (S.rc word)) (by have:=h.atRow hx;simpa [Wt.rowV] using this) ?_
  refine Br.mk (fun hb=>by cases hb) (fun _=>?_)
  conv=>whnf
  refine rest_envL (meetTail_ok h hx hwl hl hbl hlen hL hAl false (cl:=cl) ?_) ⟨rfl,rfl,rfl,rfl,trivial⟩
  intro S' m' h1 h2 h3 h4 h5 h6
  refine ⟨rfl,S',h1,h2,?_,h5,h6⟩
  unfold meetW
  rw [hx,h3,h4]
  simp only
  by_cases e:maxW w0 l=w0
  ·rw [if_pos e,if_neg (by simp [e]),e]
   congr 1
   apply List.ext_getElem (by simp)
   intro j g1 g2
   rw [List.getElem_set]
   split
   ·rename_i e2;subst e2
    rw [List.getElem?_eq_getElem hw] at hx
    exact (Option.some.inj hx).symm
   ·rfl
  ·rw [if_neg e,if_pos (by simp [e])]
 | none =>
  obtain ⟨rows,hr1,hr2,hr3⟩:=h.ha
  refine WLd.mk ns (by have:=h.atRow hx;simpa [Wt.rowV] using this) ?_
  refine Br.mk (fun _=>?_) (fun hb=>by cases hb)
  refine WLd.mk _ h.at17 ?_
  conv=>whnf
  refine ⟨?_,trivial⟩
  refine WMake.mk ⟨by omega,Int.le_refl _,by omega⟩ fun b hb=>?_
  simp only [Int.toNat_natCast]
  have hz:(List.replicate l.length [Value.int IntKind.i8 0]).flatten=(List.replicate l.length 0).map v8++[]:=by simp [v8]
  rw [hz]
  refine WIdx.mk _ rfl ⟨by omega,by omega⟩ ?_
  conv=>whnf
  refine ⟨?_,trivial⟩
  conv=>whnf
  have er:Int.toNat ((word:Nat):Int) * 1=word:=by simp
  rw [er]
  have hbne:S.ba≠b:=ne_free hr1 hb
  refine WSt.at rows TR (by rw [Mem.set_other _ _ hbne];exact hr1) (show word+1≤_ by rw [hr2];exact hw) ?_
  have hn:=h.newRow (w:=List.replicate l.length 0) (rest:=[]) (c:=l.length) hx hb hr1
  have hsp:spliceL rows word (cellsL (Value.slice (some ⟨b,0,none⟩) l.length l.length))=rows.set word (.slice (some ⟨b,0,none⟩) (List.replicate l.length 0).length l.length):=by
   rw [List.length_replicate];rfl
  rw [hsp]
  generalize hm2:(m.set b (Cells ((List.replicate l.length 0).map v8++[]) 117)).set S.ba (Cells (rows.set word (.slice (some ⟨b,0,none⟩) (List.replicate l.length 0).length l.length)) TR)=m2 at hn ⊢
  have hk2:Keep S.foot m m2:=by
   rw [← hm2]
   exact ((Keep.refl _ _).set (.inr hb)).set (.inl (.inr (.inl rfl)))
  conv=>whnf
  have hbl2:¬ (S.withRow word b l.length (List.replicate l.length 0)).foot bl:=fun hf=>by
   rcases Wt.foot_withRow hx hf with hf | hf
   ·exact hbl hf
   ·obtain ⟨r0,hr0⟩:=hl
    rw [hf,hb] at hr0;cases hr0
  have hl2:R8 m2 bl l:=by
   obtain ⟨r0,hr0⟩:=hl
   exact ⟨r0,hk2 _ _ hr0 hbl⟩
  have hw2:(S.withRow word b l.length (List.replicate l.length 0)).A[word]? = some (some (List.replicate l.length 0)):=by
   show (S.A.set word _)[word]? = _
   rw [set_get hw,if_pos rfl]
  refine rest_envL (meetTail_ok hn hw2 (by simp) hl2 hbl2 hlen hL (by show (S.A.set word _).length≤_;simpa using hAl) true (cl:=cl) ?_) ⟨rfl,rfl,rfl,rfl,trivial⟩
  intro S' m' h1 h2 h3 h4 h5 h6
  have hfr:∀ x,(S.withRow word b l.length (List.replicate l.length 0)).foot x→S.foot x∨m x=none:=fun x hxf=>by
   rcases Wt.foot_withRow hx hxf with hf | hf
   ·exact .inl hf
   ·exact .inr (by rw [hf];exact hb)
  refine ⟨rfl,S',h1,h2,?_,hk2.trans' h5 hfr,fun x hxf=>?_⟩
  ·unfold meetW
   rw [hx,h3,h4]
   simp only [Bool.true_or,if_true]
   show (((S.A.set word _).set word _),S.L++[word])=_
   rw [List.set_set,max_zero]
  ·rcases h6 x hxf with h7 | h7
   ·exact hfr x h7
   ·refine .inr ?_
    cases hh:m x with
    | none=>rfl
    | some o =>
     by_cases hf:S.foot x
     ·have:=hn.notfree h7
      exfalso
      apply this
      rcases hf with hf | hf | ⟨j,v,hj,hf⟩ | hf
      ·exact .inl hf
      ·exact .inr (.inl hf)
      ·refine .inr (.inr (.inl ⟨j,v,?_,?_⟩))
       ·show (S.A.set word _)[j]? = _
        rw [set_get hw,if_neg (fun e=>by subst e;rw [hx] at hj;cases hj)];exact hj
       ·show x=if j=word then b else S.rb j
        rw [if_neg (fun e=>by subst e;rw [hx] at hj;cases hj)];exact hf
      ·exact .inr (.inr (.inr hf))
     ·rw [hk2 x o hh hf] at h7;cases h7
end
end Go.Proofs.YtleofbpepfmfgaaGreatDoor
