import Derived.Test.YtleofbpepfmfgaaGreatDoorVxSimRd
import Derived.Test.YtleofbpepfmfgaaGreatDoorVxSimRa
import Derived.Test.YtleofbpepfmfgaaGreatDoorVxSimRun
import Derived.Test.YtleofbpepfmfgaaGreatDoorVxSimClo
set_option linter.unusedSimpArgs false
set_option linter.unusedVariables false
set_option maxRecDepth 100000
namespace Go.Proofs.YtleofbpepfmfgaaGreatDoor
open Go Go.Vx
open Go.Vx.IOp Go.Vx.IR Go.Vx.Opd
def findL (d:Nat):List (Nat × Bool) → Nat → Option (Nat × Bool)
 | [],_=>none
 | x :: L,j=>if x.1 = d then some (j,x.2) else findL d L (j + 1)
def MapL (es:List MapEntry) (L:List (Nat × Bool)):Prop:=es.map (fun e=>(e.key,e.val)) = L.map fun x=>(i (x.1:Int),Value.bool x.2)
theorem findK_is (d:Nat):∀ {es:List MapEntry} {L:List (Nat × Bool)} (j:Nat),MapL es L → findK (i (d:Int)) es j = some ((findL d L j).map fun y=>(y.1,Value.bool y.2))
 | [],[],j,_=>rfl
 | [],_ :: _,j,h=>by cases h
 | _ :: _,[],j,h=>by cases h
 | e :: es,x :: L,j,h=>by
  have h:(e.key,e.val) :: es.map (fun e=>(e.key,e.val)) = (i (x.1:Int),Value.bool x.2) :: L.map fun x=>(i (x.1:Int),Value.bool x.2):=h
  injection h with h1 h2
  injection h1 with h3 h4
  unfold findK findL
  rw [h3,h4]
  have hk:keq (i (d:Int)) (i (x.1:Int)) = some ((d:Int) == (x.1:Int)):=rfl
  rw [hk]
  by_cases hd:x.1 = d
  ·rw [if_pos hd,hd]
   simp
  ·rw [if_neg hd]
   have:((d:Int) == (x.1:Int)) = false:=by
    rw [beq_eq_false_iff_ne];omega
   rw [this]
   exact findK_is d (j + 1) h2
theorem findL_app (d x:Nat) (b:Bool):∀ (L:List (Nat × Bool)) (j:Nat),findL d L j = none → findL x (L ++ [(d,b)]) j = if x = d then some (j + L.length,b) else findL x L j
 | [],j,_=>by
  unfold findL
  by_cases h:x = d
  ·rw [if_pos h,h];simp
  ·rw [if_neg h];simp [findL,Ne.symm h]
 | y :: L,j,h=>by
  unfold findL at h
  by_cases hy:y.1 = d
  ·rw [if_pos hy] at h;cases h
  ·rw [if_neg hy] at h
   have ih:=findL_app d x b L (j + 1) h
   show findL x (y :: (L ++ [(d,b)])) j = _
   unfold findL
   by_cases hx:y.1 = x
   ·rw [if_pos hx,if_neg (by omega),if_pos hx]
   ·rw [if_neg hx,ih,if_neg hx]
    split
    ·rw [List.length_cons,show j + 1 + L.length = j + (L.length + 1) by omega]
    ·rfl
theorem findL_set (d x:Nat) (b v:Bool):∀ (L:List (Nat × Bool)) (j q:Nat),findL d L j = some (j + q,v) → findL x (L.set q (d,b)) j = if x = d then some (j + q,b) else findL x L j
 | [],j,q,h=>by cases h
 | y :: L,j,q,h=>by
  unfold findL at h
  by_cases hy:y.1 = d
  ·rw [if_pos hy] at h
   have ht:q = 0:=by
    have:=(Prod.mk.inj (Option.some.inj h)).1;omega
   subst ht
   rw [List.set_cons_zero]
   unfold findL
   by_cases hx:x = d
   ·rw [if_pos hx,if_pos (by show d = x;omega)];simp
   ·rw [if_neg hx,if_neg (by show ¬ d = x;omega),if_neg (by omega)]
  ·rw [if_neg hy] at h
   obtain ⟨t',rfl⟩:∃ t',q = t' + 1:=by
    cases q with
    | zero =>
     exfalso
     have key:∀ (L:List (Nat × Bool)) (j:Nat) (a:Nat) (v:Bool),findL d L j = some (a,v) → j ≤ a:=by
      intro L
      induction L with
      | nil=>intro j a v h;cases h
      | cons z L ih =>
       intro j a v h
       unfold findL at h
       split at h
       ·have:=(Prod.mk.inj (Option.some.inj h)).1;omega
       ·have:=ih _ _ _ h;omega
     have:=key L (j + 1) (j + 0) v h
     omega
    | succ t'=>exact ⟨t',rfl⟩
   rw [List.set_cons_succ]
   unfold findL
   by_cases hx:y.1 = x
   ·rw [if_pos hx,if_neg (by omega),if_pos hx]
   ·rw [if_neg hx,if_neg hx]
    have ih:=findL_set d x b v L (j + 1) t' (by rw [h,show j + 1 + t' = j + (t' + 1) by omega])
    rw [ih,show j + 1 + t' = j + (t' + 1) by omega]
def MapB (m:Mem) (r:Nat) (f:Nat → Bool):Prop:=∃ (es:Array MapEntry) (cl:Nat) (L:List (Nat × Bool)),m r = some (.map es cl) ∧ MapL es.toList L ∧ ∀ d,((findL d L 0).map (·.2)).getD false = f d
theorem MapB.mono {m m':Mem} {r:Nat} {f:Nat → Bool} (h:MapB m r f) (hle:Mem.le m m'):MapB m' r f:=by
 obtain ⟨es,cl,L,h1,h2,h3⟩:=h
 exact ⟨es,cl,L,hle _ _ h1,h2,h3⟩
theorem WMp.mkB {m:Mem} {K:Value → Mem → Prop} (k:∀ b m',m b = none → Mem.le m m' → MapB m' b (fun _=>false) → K (.map (some b)) m'):WMp .mk [] m K:=by
 unfold WMp
 exact fun b hb=>k b _ hb (Mem.le_set hb) ⟨#[],0,[],Mem.set_same _ _ _,rfl,fun d=>rfl⟩
theorem WMp.lkB {m:Mem} {r:Nat} {f:Nat → Bool} {d:Nat} {K:Value → Mem → Prop} (h:MapB m r f) (k:K (.bool (f d)) m):WMp (.lk 0 false (.bool false)) [.map (some r),i (d:Int)] m K:=by
 obtain ⟨es,cl,L,h1,h2,h3⟩:=h
 unfold WMp
 refine ⟨rfl,es,cl,_,h1,findK_is d 0 h2,?_⟩
 have:lkRes false (.bool false) ((findL d L 0).map fun y=>(y.1,Value.bool y.2)) = .bool (f d):=by
  rw [← h3 d]
  cases findL d L 0 with
  | none=>rfl
  | some y=>rfl
 rw [this];exact k
theorem WMp.upB {m:Mem} {r:Nat} {f:Nat → Bool} {d:Nat} {b:Bool} {K:Value → Mem → Prop} (h:MapB m r f) (k:∀ o,MapB (m.set r o) r (fun x=>if x = d then b else f x) → K undef (m.set r o)):WMp (.up 0) [.map (some r),i (d:Int),.bool b] m K:=by
 obtain ⟨es,cl,L,h1,h2,h3⟩:=h
 unfold WMp
 refine ⟨rfl,es,cl,_,h1,findK_is d 0 h2,k _ ?_⟩
 cases hf:findL d L 0 with
 | none =>
  refine ⟨es.push { key:=i (d:Int),val:=.bool b,born:=cl },cl + 1,L ++ [(d,b)],by rw [Mem.set_same];rfl,?_,fun x=>?_⟩
  ·unfold MapL at h2 ⊢
   rw [Array.toList_push,List.map_append,h2,List.map_append];rfl
  ·rw [findL_app d x b L 0 hf]
   show _ = if x = d then b else f x
   split
   ·rfl
   ·exact h3 x
 | some y =>
  obtain ⟨j,v⟩:=y
  refine ⟨es.modify j fun e=>{ e with key:=i (d:Int),val:=.bool b },cl,L.set j (d,b),by rw [Mem.set_same];rfl,?_,fun x=>?_⟩
  ·unfold MapL at h2 ⊢
   rw [List.map_set,← h2,Array.toList_modify]
   apply List.ext_getElem?
   intro q
   rw [List.getElem?_map,List.getElem?_modify,List.getElem?_set,List.getElem?_map]
   by_cases e:j = q
   ·subst e
    simp only [if_pos]
    by_cases hl:j < es.toList.length
    ·have hl2:j < es.size:=by simpa using hl
     rw [List.getElem?_eq_getElem hl];simp [hl2]
    ·have hl2:¬ j < es.size:=by simpa using hl
     rw [List.getElem?_eq_none (by omega)];simp;omega
   ·rw [if_neg e];simp [e]
  ·have hf2:findL d L 0 = some (0 + j,v):=by rw [Nat.zero_add];exact hf
   rw [findL_set d x b v L 0 j hf2]
   show _ = if x = d then b else f x
   split
   ·rfl
   ·exact h3 x
theorem rStrictWord_ok {m:Mem} (M:Mac) (hM:M.ok = true) {C:CodeR} (hrg:1 ≤ C.rg ∧ C.rg ≤ 4096) {ops:List OpR} {a3:Option Addr} {c3:Nat} (hO:OAt m (.slice a3 ops.length c3) ops) (hol:ops.length ≤ 400) (hop:∀ o ∈ ops,OpOK C o) {ct:Int} {w:List Nat} (hwl:w.length = C.rg.toNat) {rb rc:Nat} {rr:List Value} (hw:m rb = some (Cells (numL w ++ rr) 3)) :
  CallsM Tryz.prog 55 [.agg ⟨[.slice a3 ops.length c3,i ct]⟩,M.val,.slice (some ⟨rb,0,none⟩) w.length rc] m fun e m'=>e = .returned (.bool (strictO M w ops w)) ∧ Mem.le m m':=by
 refine calls_of mixed Tryz.func55 ok_biremeref27_strict rfl ?_
 conv=>whnf
 refine WMp.mkB fun mr m1 hmr l1 hmap1=>?_
 conv=>whnf
 refine WLoop.mk Nat (fun j=>[(8,.val (i j))]) (fun j m'=>j ≤ ops.length ∧ Mem.le m m' ∧ (∃ f,MapB m' mr f ∧ ∀ d,1 < (nowAt M ops w j).getD d 0 ↔ (1 < w.getD d 0 ∨ (f d = true ∧ d < w.length))) ∧ strictO M w ops w = strictO M w (ops.drop j) (nowAt M ops w j)) (fun j=>ops.length - j) 0 ⟨rfl,trivial⟩ ⟨Nat.zero_le _,l1,⟨_,hmap1,fun d=>by simp [nowAt]⟩,rfl⟩ ?_
 rintro j m3 ⟨hj,l3,⟨f,hmap,hf⟩,hst⟩
 conv=>whnf
 refine Br.mk (fun hb=>?_) (fun hb=>?_)
 ·have hj2:j < ops.length:=by
   have:(j:Int) < ops.length:=of_decide_eq_true hb
   omega
  obtain ⟨ad3,had3,hopc⟩:=op_at hO l3 hj2
  have hok:=hop _ (List.getElem_mem hj2)
  have hns:=now_succ (M:=M) (w0:=w) hj2
  have hnl:(nowAt M ops w j).length = w.length:=now_len _ _ _ _
  rw [drop_cons hj2,strictO_cons] at hst
  have hri:=reads_in hok
  generalize ops[j] = o at *
  conv=>whnf
  refine WIdx.mk ad3 had3 ⟨by omega,by omega⟩ ?_
  conv=>whnf
  refine WLds.mk o.cells (by simpa using hopc) rfl ?_
  conv=>whnf
  refine WCall.mk (refReads_ok m3 o) ?_
  rintro _ m4 ⟨ra,rc2,rfl,l4,hp4⟩
  have hI4:IAt m4 (.slice ra (readsS o).length rc2) (readsS o):=hp4.iat
  obtain ⟨ra',rc',er,hr0,hr1,hr2⟩:=hI4
  injection er with er1 _ er2
  subst er1
  have hrl:(readsS o).length ≤ 4:=Nat.le_trans (once_len _) (rawS_len o)
  have l4':=l3.trans l4
  have hmap4:=hmap.mono l4
  have hw4:=l4' _ _ hw
  conv=>whnf
  refine WLoop.mk Nat (fun q=>[(11,.val (i q))]) (fun q m'=>m' = m4 ∧ q ≤ (readsS o).length ∧ ∀ x (hx:x < (readsS o).length),x < q → w.getD ((readsS o)[x]).toNat 0 = 0) (fun q=>(readsS o).length - q) 0 ⟨rfl,trivial⟩ ⟨rfl,Nat.zero_le _,fun x hx hx0=>by omega⟩ ?_
  rintro q m' ⟨rfl,hq,hz⟩
  conv=>whnf
  refine Br.mk (fun hb2=>?_) (fun hb2=>?_)
  ·have hq2:q < (readsS o).length:=by
    have:(q:Int) < (readsS o).length:=of_decide_eq_true hb2
    omega
   obtain ⟨adr,hadr⟩:∃ adr,ra = some adr:=by
    cases hh:ra with
    | none=>rw [hr0 hh] at hq2;simp at hq2
    | some adr=>exact ⟨adr,rfl⟩
   have hrc:=IAt.cell (hr1 adr hadr) hq2
   have hrb:=hri _ (List.getElem_mem hq2)
   have hzq:∀ (e:Nat),(readsS o)[q] = (e:Int) → w.getD ((readsS o)[q]).toNat 0 = w.getD e 0:=fun e he=>by rw [he,Int.toNat_natCast]
   obtain ⟨e,he,he2⟩:∃ e:Nat,(readsS o)[q] = e ∧ e < C.rg.toNat:=⟨((readsS o)[q]).toNat,by omega,by omega⟩
   rw [he] at hrc
   conv=>whnf
   refine WIdx.mk adr hadr ⟨by omega,by omega⟩ ?_
   conv=>whnf
   refine WLd.mk (i e) (by simpa using hrc) ?_
   conv=>whnf
   refine WIdx.mk _ rfl ⟨by omega,by omega⟩ ?_
   conv=>whnf
   refine WLd.mk (i ((w.getD e 0:Nat):Int)) (by simpa using numL_cell hw4 (by rw [hwl];exact he2)) ?_
   conv=>whnf
   refine Br.mk (fun hb3=>?_) (fun hb3=>?_)
   ·have hb3:((w.getD e 0:Nat):Int) > 0:=of_decide_eq_true hb3
    have hall:(readsS o).all (fun r=>w.getD r.toNat 0 == 0) = false:=by
     rw [List.all_eq_false]
     refine ⟨_,List.getElem_mem hq2,?_⟩
     rw [hzq e he,beq_iff_eq];omega
    conv=>whnf
    refine WRet.same ⟨?_,l4'⟩
    rw [hst,hall];rfl
   ·have hb3:¬ ((w.getD e 0:Nat):Int) > 0:=of_decide_eq_false hb3
    conv=>whnf
    refine WRng.mk (by apply wrap_i64 <;> omega) ?_
    conv=>whnf
    refine ⟨q + 1,⟨rfl,trivial⟩,⟨rfl,hq2,fun x hx hxq=>?_⟩,Nat.sub_lt_sub_left hq2 (Nat.lt_succ_self q)⟩
    by_cases ex:x = q
    ·subst ex;rw [hzq e he];omega
    ·exact hz x hx (by omega)
  ·have hq2:q = (readsS o).length:=by
    have:¬ (q:Int) < (readsS o).length:=of_decide_eq_false hb2
    omega
   have hall:(readsS o).all (fun r=>w.getD r.toNat 0 == 0) = true:=by
    rw [List.all_eq_true]
    intro r hr
    obtain ⟨x,hx,rfl⟩:=List.getElem_of_mem hr
    rw [hz x hx (by omega)];rfl
   rw [hall,Bool.true_and] at hst
   conv=>whnf
   refine WCall.pure (refWrites_ok m' o hok.kd) ?_
   by_cases hu:uD o.kd = true
   ·rw [if_pos hu,hu]
    obtain ⟨e,he,he2⟩:∃ e:Nat,o.ds = e ∧ e < C.rg.toNat:=⟨o.ds.toNat,by have:=hok.ds;omega,by have:=hok.ds;omega⟩
    have hwr:wrS o = some e:=by rw [wr_get o hu,he,Int.toNat_natCast]
    rw [hwr] at hst
    simp only at hst
    have hstp:stepW M (nowAt M ops w j) o = (nowAt M ops w j).set e (max ((nowAt M ops w j).getD e 0) (dlS M o)):=by
     unfold stepW;rw [hwr]
    rw [he]
    conv=>whnf
    refine Br.mk (fun _=>?_) (fun h=>by cases h)
    conv=>whnf
    refine WIdx.mk _ rfl ⟨by omega,by omega⟩ ?_
    conv=>whnf
    refine WLd.mk (i ((w.getD e 0:Nat):Int)) (by simpa using numL_cell hw4 (by rw [hwl];exact he2)) ?_
    conv=>whnf
    have hfe:=hf e
    have hew:e < w.length:=by omega
    refine WSc.mk (v:=f e) (fun _=>?_) ?_
    ·conv=>whnf
     refine WMp.lkB hmap4 ?_
     conv=>whnf
     exact And.intro (Mem.le.refl _) rfl
    conv=>whnf
    refine Br.mk (fun hb4=>?_) (fun hb4=>?_)
    ·have hb4:(decide (((w.getD e 0:Nat):Int) > 1) || f e) = true:=hb4
     rw [Bool.or_eq_true,decide_eq_true_eq] at hb4
     have hn1:1 < (nowAt M ops w j).getD e 0:=hfe.2 (hb4.imp (fun h=>by omega) fun h=>⟨h,hew⟩)
     conv=>whnf
     refine WRet.same ⟨?_,l4'⟩
     rw [hst,decide_eq_false (by omega)];rfl
    ·have hb4:(decide (((w.getD e 0:Nat):Int) > 1) || f e) = false:=hb4
     rw [Bool.or_eq_false_iff,decide_eq_false_iff_not] at hb4
     have hn1:¬ 1 < (nowAt M ops w j).getD e 0:=fun h=>by
      rcases hfe.1 h with h | h
      ·omega
      ·rw [hb4.2] at h;cases h.1
     rw [decide_eq_true (by omega),Bool.true_and] at hst
     rw [hstp,← hstp,← hns] at hst
     conv=>whnf
     refine WMp.lkB hmap4 ?_
     rw [hb4.2]
     conv=>whnf
     refine WSc.mk (v:=decide (M.lat (classS o.kd).1.toNat > 1)) (fun _=>?_) ?_
     ·conv=>whnf
      refine WCall.pure (refLat_ok m' M o.kd) ?_
      conv=>whnf
      exact And.intro (Mem.le.refl _) rfl
     conv=>whnf
     refine WMp.upB (b:=decide (M.lat (classS o.kd).1.toNat > 1)) hmap4 fun ob hmap6=>?_
     have hdl:=dl_le hM o
     have hlat:M.lat (classS o.kd).1.toNat = ((dlS M o:Nat):Int):=by
      have:=hdl.1;unfold dlS at this ⊢;omega
     have LE:Mem.le m (m'.set mr ob):=le_setF l4' hmr
     generalize m'.set mr ob = m6 at LE hmap6 ⊢
     have hf6:∃ f,MapB m6 mr f ∧ ∀ d,1 < (nowAt M ops w (j + 1)).getD d 0 ↔ (1 < w.getD d 0 ∨ (f d = true ∧ d < w.length)):=by
      refine ⟨_,hmap6,fun d=>?_⟩
      rw [hns,hstp,getD_setN,hnl]
      by_cases ed:d = e
      ·subst ed
       rw [if_pos ⟨rfl,hew⟩,if_pos rfl,hlat,decide_eq_true_eq]
       rw [hb4.2] at hfe
       have:¬ 1 < w.getD d 0:=fun h=>hn1 (hfe.2 (.inl h))
       omega
      ·rw [if_neg (fun h=>ed h.1.symm),if_neg ed];exact hf d
     conv=>whnf
     refine WCall.pure (rLeaves_ok _ o) ?_
     conv=>whnf
     refine Br.mk (fun hl=>?_) (fun hl=>?_)
     ·rw [hl,Bool.true_or] at hst
      conv=>whnf
      refine WRet.same ⟨?_,LE⟩
      rw [hst];rfl
     ·rw [hl,Bool.false_or] at hst
      conv=>whnf
      refine WRng.mk (by apply wrap_i64 <;> omega) ?_
      conv=>whnf
      exact ⟨j + 1,⟨rfl,trivial⟩,⟨hj2,LE,hf6,hst⟩,Nat.sub_lt_sub_left hj2 (Nat.lt_succ_self j)⟩
   ·have hu:uD o.kd = false:=by simpa using hu
    rw [if_neg (by rw [hu];decide),hu]
    have hwr:=wr_none o hu
    rw [hwr] at hst
    simp only [Bool.true_and] at hst
    have hstp:stepW M (nowAt M ops w j) o = nowAt M ops w j:=by unfold stepW;rw [hwr]
    rw [← hns] at hst
    conv=>whnf
    refine Br.mk (fun h=>by cases h) (fun _=>?_)
    conv=>whnf
    refine WCall.pure (rLeaves_ok _ o) ?_
    conv=>whnf
    refine Br.mk (fun hl=>?_) (fun hl=>?_)
    ·rw [hl,Bool.true_or] at hst
     conv=>whnf
     refine WRet.same ⟨?_,l4'⟩
     rw [hst];rfl
    ·rw [hl,Bool.false_or] at hst
     conv=>whnf
     refine WRng.mk (by apply wrap_i64 <;> omega) ?_
     conv=>whnf
     exact ⟨j + 1,⟨rfl,trivial⟩,⟨hj2,l4',⟨f,hmap4,by rw [hns,hstp];exact hf⟩,hst⟩,Nat.sub_lt_sub_left hj2 (Nat.lt_succ_self j)⟩
 ·have hj2:j = ops.length:=by
   have:¬ (j:Int) < ops.length:=of_decide_eq_false hb
   omega
  rw [hj2,List.drop_length] at hst
  conv=>whnf
  refine WRet.same ⟨?_,l3⟩
  rw [hst];rfl
end Go.Proofs.YtleofbpepfmfgaaGreatDoor
set_option linter.unusedSimpArgs false
set_option linter.unusedVariables false
set_option maxRecDepth 100000
namespace Go.Proofs.YtleofbpepfmfgaaGreatDoor
open Go Go.Vx
open Go.Vx.IOp Go.Vx.IR Go.Vx.Opd
theorem OutsAt.cellRow {m:Mem} {ob:Nat} {rb:Nat → Nat} {A:WS} (h:OutsAt m ob rb A) {k:Nat} {x:Option (List Nat)} (hk:A[k]? = some x):CellAt m ((⟨ob,0,none⟩:Addr).add k) (rowR rb k x):=by
 obtain ⟨L,h1,h2,h3⟩:=h.out
 exact CellsAt.blk h1 (off:=0) (vs:=L) (fun j v hj=>by rw [Nat.zero_add];exact hj) k _ (h3 k x hk)
theorem OutsAt.mono {m m':Mem} {ob:Nat} {rb:Nat → Nat} {A:WS} (h:OutsAt m ob rb A) (hle:Mem.le m m'):OutsAt m' ob rb A :=
 ⟨by obtain ⟨L,h1,h2⟩:=h.out;exact ⟨L,hle _ _ h1,h2⟩,fun k w hk=>hle _ _ (h.row k w hk),h.inj⟩
set_option maxHeartbeats 4000000 in
theorem rStrict_ok {m0:Mem} (V:CV) {C:CodeR} (M:Mac) (hV:CodeAt m0 V C) (hC:CodeOK C) (hM:M.ok = true) :
  CallsM Tryz.prog 25 [V.val C,M.val] m0 fun e m'=>∃ b A,e = .returned (.bool b) ∧ Mem.le m0 m' ∧ Least C M A ∧ (b = true ↔ strictA C M A):=by
 have hrg:=hC.rg
 have hwl:=hC.wl
 have hn2:=hV.n2
 refine calls_of mixed Tryz.func25 ok_biremeref27_Strict rfl ?_
 conv=>whnf
 refine WCall.mk (rWaits_ok V M hV hC hM) ?_
 rintro _ m1 ⟨ob,rb,A,rfl,l1,hO,hA,hok⟩
 have hAl:=hok.len
 conv=>whnf
 refine WLoop.mk Nat (fun j=>[(6,.val (i j))]) (fun j m'=>j ≤ C.ws.length ∧ Mem.le m1 m' ∧ ∀ (k:Nat) (w:List Nat),k < j → A[k]? = some (some w) → strictO M w (wordAt C k).ops w = true) (fun j=>C.ws.length - j) 0 ⟨rfl,trivial⟩ ⟨Nat.zero_le _,Mem.le.refl _,fun k w h=>by omega⟩ ?_
 rintro j m2 ⟨hj,l2,hs⟩
 have L2:=l1.trans l2
 conv=>whnf
 rw [hn2]
 refine Br.mk (fun hb=>?_) (fun hb=>?_)
 ·have hj2:j < C.ws.length:=by
   have:(j:Int) < (C.ws.length:Nat):=of_decide_eq_true hb
   omega
  obtain ⟨ox,hox⟩:∃ x,A[j]? = some x:=⟨_,List.getElem?_eq_getElem (by omega)⟩
  have hcr:=(hO.mono l2).cellRow hox
  conv=>whnf
  refine WIdx.mk _ rfl ⟨by omega,by omega⟩ ?_
  conv=>whnf
  refine ⟨?_,trivial⟩
  conv=>whnf
  refine WLd.mk (rowR rb j ox) (by simpa using hcr) ?_
  cases ox with
  | none =>
   conv=>whnf
   refine Br.mk (fun h=>by cases h) (fun _=>?_)
   repeat' (conv=>whnf
            first
            | exact trivial
            | (refine Br.mk (fun h=>by cases h) (fun _=>?_))
            | (refine WRng.mk (by apply wrap_i64 <;> omega) ?_)
            | (refine ⟨j + 1,⟨rfl,trivial⟩,⟨hj2,l2,fun k w hk hkw=>?_⟩,Nat.sub_lt_sub_left hj2 (Nat.lt_succ_self j)⟩
               by_cases e:k = j
               ·subst e;rw [hox] at hkw;cases hkw
               ·exact hs k w (by omega) hkw)
            | (refine And.intro ?_ ?_))
  | some w =>
   obtain ⟨ad,a3,c3,had,hcells,hops⟩:=word_cells (hV.mono L2) hj2
   have hmem:=wordAt_mem hj2
   conv=>whnf
   refine Br.mk (fun _=>?_) (fun h=>by cases h)
   conv=>whnf
   rw [hn2]
   refine WIdx.mk ad had ⟨by omega,by omega⟩ ?_
   conv=>whnf
   refine WLds.mk [.slice a3 (wordAt C j).ops.length c3,i (wordAt C j).ct] (by simpa using hcells) rfl ?_
   conv=>whnf
   refine WIdx.mk _ rfl ⟨by omega,by omega⟩ ?_
   conv=>whnf
   refine WLd.mk (rowR rb j (some w)) (by simpa using hcr) ?_
   conv=>whnf
   refine ⟨?_,trivial⟩
   conv=>whnf
   refine WCall.mk (rStrictWord_ok M hM hrg hops (hC.ol _ hmem) (hC.op _ hmem) (hok.wl j w hox) (rb:=rb j) (rc:=w.length) (rr:=[]) (by rw [List.append_nil];exact l2 _ _ (hO.row j w hox))) ?_
   rintro _ m3 ⟨rfl,l3⟩
   conv=>whnf
   refine Br.mk (fun _=>?_) (fun h=>by cases h)
   conv=>whnf
   refine Br.mk (fun hx=>?_) (fun hx=>?_)
   ·have hx:strictO M w (wordAt C j).ops w = false:=by simpa using hx
    conv=>whnf
    refine WRet.same ⟨false,A,rfl,L2.trans l3,hA,fun h=>by (cases h),fun h=>?_⟩
    rw [h j w hox] at hx;cases hx
   ·have hx:strictO M w (wordAt C j).ops w = true:=by simpa using hx
    conv=>whnf
    refine WRng.mk (by apply wrap_i64 <;> omega) ?_
    conv=>whnf
    refine ⟨j + 1,⟨rfl,trivial⟩,⟨hj2,l2.trans l3,fun k v hk hkw=>?_⟩,Nat.sub_lt_sub_left hj2 (Nat.lt_succ_self j)⟩
    by_cases e:k = j
    ·subst e;rw [hox] at hkw;cases hkw;exact hx
    ·exact hs k v (by omega) hkw
 ·have hj2:j = C.ws.length:=by
   have:¬ (j:Int) < (C.ws.length:Nat):=of_decide_eq_false hb
   omega
  conv=>whnf
  exact WRet.same ⟨true,A,rfl,L2,hA,fun _ k w hk=>hs k w (by rw [hj2,← hAl];exact (List.getElem?_eq_some_iff.1 hk).1) hk,fun _=>rfl⟩
end Go.Proofs.YtleofbpepfmfgaaGreatDoor
set_option linter.unusedSimpArgs false
set_option linter.unusedVariables false
set_option maxRecDepth 100000
namespace Go.Proofs.YtleofbpepfmfgaaGreatDoor
open Go Go.Vx
open Go.Vx.IOp Go.Vx.IR Go.Vx.Opd
def WaitsIs (m':Mem) (C:CodeR) (M:Mac) (word:Int) (lv:Value) (fc:Int):Prop :=
 (fitsCode C M ≠ 0 → lv = ns ∧ fc = fitsCode C M) ∧ (fitsCode C M = 0 → (word < 0 ∨ word ≥ C.ws.length) → lv = ns ∧ fc = 2) ∧
  (fitsCode C M = 0 → 0 ≤ word ∧ word < C.ws.length → ∃ A,Least C M A ∧ OkW C A ∧ (A[word.toNat]? = some none → lv = ns ∧ fc = 5) ∧
   ∀ w,A[word.toNat]? = some (some w) → fc = 0 ∧ ∃ a c,lv = .slice a w.length c ∧ IAt m' (.slice a w.length c) (w.map fun n:Nat=>(n:Int)))
theorem waits_form {m m':Mem} {C:CodeR} {M:Mac} {word:Int} {e:Ending} (h:WaitsPost m C M word e m'):∃ lv fc,e = .returned (.tuple ⟨[lv,i fc]⟩) ∧ Mem.le m m' ∧ WaitsIs m' C M word lv fc:=by
 obtain ⟨hle,h1,h2,h3⟩:=h
 by_cases hf:fitsCode C M = 0
 ·by_cases hw:0 ≤ word ∧ word < C.ws.length
  ·obtain ⟨A,hA,hok,h4,h5⟩:=h3 hf hw
   have hlt:word.toNat < A.length:=by rw [hok.len];omega
   cases hx:A[word.toNat]? with
   | none=>rw [List.getElem?_eq_getElem hlt] at hx;cases hx
   | some x =>
    cases x with
    | none=>exact ⟨ns,5,h4 hx,hle,fun h=>absurd hf h,fun _ h=>by omega,fun _ _=>⟨A,hA,hok,fun _=>⟨rfl,rfl⟩,fun w hw2=>by rw [hx] at hw2;cases hw2⟩⟩
    | some w =>
     obtain ⟨a,c,e1,hI⟩:=h5 w hx
     exact ⟨_,0,e1,hle,fun h=>absurd hf h,fun _ h=>by omega,fun _ _=>⟨A,hA,hok,(fun hn=>by rw [hx] at hn;cases hn),(fun v hv=>by rw [hx] at hv;cases hv;exact ⟨rfl,a,c,rfl,hI⟩)⟩⟩
  ·exact ⟨ns,2,h2 hf (by omega),hle,fun h=>absurd hf h,fun _ _=>⟨rfl,rfl⟩,fun _ h=>absurd h hw⟩
 ·exact ⟨ns,fitsCode C M,h1 hf,hle,fun _=>⟨rfl,rfl⟩,fun h=>absurd h hf,fun h=>absurd h hf⟩
def sxPart:Nat → IR:=fun k=>match k,ir_biremelaw27_SimStricts.body with
 | 0,.seq a _=>a
 | 1,.seq _ (.seq a _)=>a
 | 2,.seq _ (.seq _ (.seq a _))=>a
 | 3,.seq _ (.seq _ (.seq _ (.seq a _)))=>a
 | 4,.seq _ (.seq _ (.seq _ (.seq _ (.seq a _))))=>a
 | 5,.seq _ (.seq _ (.seq _ (.seq _ (.seq _ (.seq a _)))))=>a
 | _,.seq _ (.seq _ (.seq _ (.seq _ (.seq _ (.seq _ r)))))=>r
 | _,r=>r
def sxTail:IR:=sxPart 6
theorem sx_body:ir_biremelaw27_SimStricts.body = .seq (sxPart 0) (.seq (sxPart 1) (.seq (sxPart 2) (.seq (sxPart 3) (.seq (sxPart 4) (.seq (sxPart 5) sxTail))))):=rfl
section
variable {m0 m:Mem} {V:CV} {C:CodeR} {M:Mac}
theorem sxTail_ok (hle:Mem.le m0 m) (hV:CodeAt m V C) (hfit:fitsCode C M = 0) {b:Bool} {A:WS} (hA:Least C M A) (hb:b = true ↔ strictA C M A) {word:Int} {lv:Value} {fc:Int} (hw:WaitsIs m C M word lv fc)
  (hal:∀ m',Mem.le m0 m' → CallsM Tryz.prog 14 [] m' fun e m''=>e = .returned (.bool true) ∧ m'' = m') :
  wpI Tryz.prog sxTail (retPost [.t 6] fun e m'=>e = .returned (.bool true) ∧ Mem.le m0 m')
   (envL [(2,.val (i word)),(4,.var M.cells),(7,.var (V.cells C)),(9,.val (.bool b)),(10,.val (i 0)),(11,.val lv),(12,.val (i fc))]) m:=by
 obtain ⟨hC,hM⟩:=fits_ok3 hfit
 have hn2:=hV.n2
 have hwl:=hC.wl
 conv=>whnf
 refine WSc.mk (v:=false) (fun _=>?_) ?_
 ·conv=>whnf
  refine WCall.mk (rStrict_ok V M hV hC hM) ?_
  rintro _ m2 ⟨b2,A2,rfl,l2,hA2,hb2⟩
  have e:b2 = b:=by
   rw [hA.uniq hA2] at hb
   rw [Bool.eq_iff_iff,hb2,hb]
  subst e
  conv=>whnf
  refine And.intro l2 ?_
  show some (Value.bool (b2 != b2)) = some (Value.bool false)
  simp
 conv=>whnf
 refine Br.mk (fun h=>by cases h) (fun _=>?_)
 conv=>whnf
 refine WSc.mk (v:=decide (word ≥ (V.n2:Int))) (fun _=>And.intro (Mem.le.refl _) rfl) ?_
 conv=>whnf
 refine Br.mk (fun h1=>?_) (fun h1=>?_)
 ·have h1:(decide (word < 0) || decide (word ≥ (V.n2:Int))) = true:=h1
  simp only [Bool.or_eq_true,decide_eq_true_eq] at h1
  obtain ⟨rfl,rfl⟩:=hw.2.1 hfit (by omega)
  conv=>whnf
  refine WSc.mk (v:=true) (fun _=>And.intro (Mem.le.refl _) rfl) ?_
  conv=>whnf
  refine WSc.mk (v:=true) (fun _=>?_) ?_
  ·conv=>whnf
   refine WCall.mk (hal _ hle) ?_
   rintro _ _ ⟨rfl,rfl⟩
   conv=>whnf
   exact And.intro (Mem.le.refl _) rfl
  conv=>whnf
  exact WRet.same ⟨rfl,hle⟩
 have h1:(decide (word < 0) || decide (word ≥ (V.n2:Int))) = false:=h1
 simp only [Bool.or_eq_false_iff,decide_eq_false_iff_not] at h1
 obtain ⟨k,rfl⟩:∃ k:Nat,word = k:=⟨word.toNat,by omega⟩
 obtain ⟨A3,hA3,hok3,h3,h4⟩:=hw.2.2 hfit (by omega)
 rw [Int.toNat_natCast] at h3 h4
 conv=>whnf
 refine WCall.mk (rWaits_ok V M hV hC hM) ?_
 rintro _ m2 ⟨ob,rb,A2,rfl,l2,hO,hA2,hok2⟩
 have eA:=hA2.uniq hA3
 subst eA
 obtain ⟨ox,hox⟩:∃ x,A2[k]? = some x:=⟨_,List.getElem?_eq_getElem (by rw [hok2.len];omega)⟩
 have L2:=hle.trans l2
 conv=>whnf
 refine WIdx.mk _ rfl ⟨by omega,by omega⟩ ?_
 conv=>whnf
 refine WLd.mk (rowR rb k ox) (by simpa using hO.cellRow hox) ?_
 cases ox with
 | none =>
  obtain ⟨rfl,rfl⟩:=h3 hox
  conv=>whnf
  refine Br.mk (fun _=>?_) (fun h=>by cases h)
  conv=>whnf
  refine WSc.mk (v:=true) (fun _=>And.intro (Mem.le.refl _) rfl) ?_
  conv=>whnf
  refine WSc.mk (v:=true) (fun _=>?_) ?_
  ·conv=>whnf
   refine WCall.mk (hal _ L2) ?_
   rintro _ _ ⟨rfl,rfl⟩
   conv=>whnf
   exact And.intro (Mem.le.refl _) rfl
  conv=>whnf
  exact WRet.same ⟨rfl,L2⟩
 | some w =>
  obtain ⟨rfl,a,c,rfl,hI⟩:=h4 w hox
  have hrow:=hO.row k w hox
  have hI2:=hI.mono l2
  have hwl2:=hok2.wl k w hox
  have hrg2:=hC.rg
  obtain ⟨a',c',e1,q0,q1,_⟩:=hI2
  injection e1 with e11 _ e13
  subst e11;subst e13
  conv=>whnf
  refine Br.mk (fun h=>by cases h) (fun _=>?_)
  conv=>whnf
  refine WSc.mk (v:=false) (fun _=>And.intro (Mem.le.refl _) (by show some (Value.bool ((w.length:Int) != (w.length:Int))) = _;simp)) ?_
  conv=>whnf
  refine Br.mk (fun h=>by cases h) (fun _=>?_)
  conv=>whnf
  refine WLoop.mk Nat (fun j=>[(15,.val (i j))]) (fun j m'=>m2 = m' ∧ j ≤ w.length) (fun j=>w.length - j) 0 ⟨rfl,trivial⟩ ⟨rfl,Nat.zero_le _⟩ ?_
  rintro j m' ⟨rfl,hj⟩
  conv=>whnf
  refine Br.mk (fun hb=>?_) (fun hb=>?_)
  ·have hj2:j < w.length:=by
    have:(j:Int) < (w.length:Nat):=of_decide_eq_true hb
    omega
   obtain ⟨ad,rfl⟩:∃ ad,a = some ad:=by
    cases a with
    | none=>have:=q0 rfl;simp at this;rw [this] at hj2;simp at hj2
    | some ad=>exact ⟨ad,rfl⟩
   have hc1:CellAt m2 (ad.add j) (i ((w.getD j 0:Nat):Int)):=by
    have:=IAt.cell (q1 ad rfl) (k:=j) (by simpa using hj2)
    simpa [List.getD_eq_getElem?_getD,List.getElem?_eq_getElem hj2] using this
   have hc2:CellAt m2 ((⟨rb k,0,none⟩:Addr).add j) (i ((w.getD j 0:Nat):Int)):=numL_cell (rest:=[]) (by rw [List.append_nil];exact hrow) hj2
   conv=>whnf
   refine WIdx.mk ad rfl ⟨by omega,by omega⟩ ?_
   conv=>whnf
   refine WLd.mk (i ((w.getD j 0:Nat):Int)) (by simpa using hc1) ?_
   conv=>whnf
   refine WIdx.mk _ rfl ⟨by omega,by omega⟩ ?_
   conv=>whnf
   refine WLd.mk (i ((w.getD j 0:Nat):Int)) (by simpa using hc2) ?_
   conv=>whnf
   refine Br.mk (fun hh=>?_) (fun _=>?_)
   ·have hh:(((w.getD j 0:Nat):Int) != ((w.getD j 0:Nat):Int)) = true:=hh
    simp at hh
   conv=>whnf
   refine WRng.mk (by apply wrap_i64 <;> omega) ?_
   conv=>whnf
   exact ⟨j + 1,⟨rfl,trivial⟩,⟨rfl,hj2⟩,Nat.sub_lt_sub_left hj2 (Nat.lt_succ_self j)⟩
  ·conv=>whnf
   refine WCall.mk (hal _ L2) ?_
   rintro _ _ ⟨rfl,rfl⟩
   conv=>whnf
   exact WRet.same ⟨rfl,L2⟩
attribute [irreducible] sxTail
theorem simStricts_law {m:Mem} {T:Nat} {fr:Nat × Nat} (hm:m 0 = some (.cells ⟨cells0⟩ T fr)) (hV:CodeAt m V C) {word:Int}
  (hal:∀ m',Mem.le m m' → CallsM Tryz.prog 14 [] m' fun e m''=>e = .returned (.bool true) ∧ m'' = m') :
  CallsM Tryz.prog 4 [V.val C,M.val,i word] m fun e m'=>e = .returned (.bool true) ∧ Mem.le m m':=by
 refine calls_of mixed Tryz.func4 ok_biremelaw27_SimStricts rfl ?_
 unfold Fn.asks
 rw [sx_body]
 conv=>whnf
 refine WCall.mk (lawCut_ok V hV) ?_
 rintro _ m1 ⟨V1,rfl,l1,hV1⟩
 conv=>whnf
 refine Br.mk (fun hh=>?_) (fun hh=>?_)
 ·conv=>whnf
  refine WCall.mk (hal _ l1) ?_
  rintro _ _ ⟨rfl,rfl⟩
  conv=>whnf
  exact WRet.same ⟨rfl,l1⟩
 conv=>whnf
 refine ⟨?_,trivial⟩
 conv=>whnf
 refine WCall.mk (lawOwn_ok V (hV.mono l1)) ?_
 rintro _ m2 ⟨V2,rfl,l2,hV2⟩
 conv=>whnf
 refine ⟨?_,trivial⟩
 conv=>whnf
 refine WCall.mk (strict_ok ((l1.trans l2) _ _ hm) V2 M hV2) ?_
 rintro _ m3 ⟨b,A,rfl,l3,hst0,hst⟩
 have L3:=(l1.trans l2).trans l3
 conv=>whnf
 refine ⟨?_,trivial⟩
 conv=>whnf
 refine WCall.mk (lawOwn_ok V (hV.mono L3)) ?_
 rintro _ m4 ⟨V4,rfl,l4,hV4⟩
 conv=>whnf
 refine ⟨?_,trivial⟩
 conv=>whnf
 refine WCall.mk (simWaits_ok ((L3.trans l4) _ _ hm) V4 M hV4 word) ?_
 rintro e5 m5 hp
 obtain ⟨lv,fc,rfl,l5,hw⟩:=waits_form hp
 have L5:=(L3.trans l4).trans l5
 have hV5:CodeAt m5 V1 (cut27 C):=hV1.mono (((l2.trans l3).trans l4).trans l5)
 conv=>whnf
 refine WCall.mk (refFits_ok V1 hV5 M) ?_
 rintro _ m6 ⟨rfl,l6⟩
 have L6:=L5.trans l6
 conv=>whnf
 refine Br.mk (fun h0=>?_) (fun h0=>?_)
 ·have h0:fitsCode (cut27 C) M ≠ 0:=by simpa using h0
  obtain ⟨rfl,rfl⟩:=hw.1 h0
  have hb:=hst0 h0
  subst hb
  have ef:(fitsCode (cut27 C) M == fitsCode (cut27 C) M) = true:=by simp
  conv=>whnf
  refine WSc.mk (v:=fitsCode (cut27 C) M == fitsCode (cut27 C) M) (fun _=>And.intro (Mem.le.refl _) rfl) ?_
  rw [ef]
  conv=>whnf
  refine WSc.mk (v:=fitsCode (cut27 C) M == fitsCode (cut27 C) M) (fun _=>And.intro (Mem.le.refl _) rfl) ?_
  rw [ef]
  conv=>whnf
  refine WSc.mk (v:=true) (fun _=>And.intro (Mem.le.refl _) rfl) ?_
  conv=>whnf
  refine WSc.mk (v:=true) (fun _=>?_) ?_
  ·conv=>whnf
   refine WCall.mk (hal _ L6) ?_
   rintro _ _ ⟨rfl,rfl⟩
   conv=>whnf
   exact And.intro (Mem.le.refl _) rfl
  conv=>whnf
  exact WRet.same ⟨rfl,L6⟩
 ·have h0:fitsCode (cut27 C) M = 0:=by simpa using h0
  obtain ⟨hA,hiff⟩:=hst h0
  rw [h0]
  have hw6:WaitsIs m6 (cut27 C) M word lv fc:=⟨hw.1,hw.2.1,fun a b=>by
   obtain ⟨A2,g1,g2,g3,g4⟩:=hw.2.2 a b
   exact ⟨A2,g1,g2,g3,fun w hw=>by
    obtain ⟨x1,x2,x3,x4,x5⟩:=g4 w hw
    exact ⟨x1,x2,x3,x4,x5.mono l6⟩⟩⟩
  refine rest_envL (sxTail_ok L6 (hV5.mono l6) h0 hA hiff hw6 hal) ⟨rfl,rfl,rfl,rfl,rfl,rfl,rfl,trivial⟩
end
end Go.Proofs.YtleofbpepfmfgaaGreatDoor
set_option maxRecDepth 100000
namespace Go.Proofs.YtleofbpepfmfgaaGreatDoor
open Go Go.Vx
theorem simStricts_ok {m:Mem} {V:CV} {C:CodeR} {M:Mac} {word:Int} (hV:CodeAt m V C) {T:Nat} {fr:Nat × Nat} (hm:m 0 = some (.cells ⟨cells0⟩ T fr)) :
  CallsM Tryz.prog 4 [V.val C,M.val,i word] m fun e m'=>e = .returned (.bool true) ∧ Mem.le m m' :=
 simStricts_law hm hV fun m' hle=>alive_ok (hle _ _ hm)
end Go.Proofs.YtleofbpepfmfgaaGreatDoor
