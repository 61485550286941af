import Derived.Test.YtleofbpepfmfgaaGreatDoorVxSimO
import Derived.Test.YtleofbpepfmfgaaGreatDoorVxSimS
import Derived.Test.YtleofbpepfmfgaaGreatDoorVxOpenK
set_option linter.unusedSimpArgs false
set_option linter.unusedVariables false
set_option maxRecDepth 100000
namespace Go.Proofs.YtleofbpepfmfgaaGreatDoor
open Go Go.Vx
open Go.Vx.IOp Go.Vx.IR Go.Vx.Opd
theorem putsS_take {R:List VR} {W:List WayR} {j:Nat} (hj:j < W.length):putsS R (W.take (j + 1)) = (putsS R (W.take j)).set (W[j]).rg (W[j]).v:=by
 unfold putsS
 rw [List.take_succ_eq_append_getElem hj,List.foldl_append];rfl
section
variable {m0 m m':Mem} {V:CV} {C:CodeR} {M:Mac} {sv:Value} {p:Nat} {H:HdF} {s s':St} {sh:List Int}
theorem settle_ok2 (h:SimAt m0 m V C M sv p H s) (hw:∀ w ∈ s.way,w.rg < s.regs.length) (hl:s.way.length ≤ 1000000000000) :
  CallsM Tryz.prog 58 [ptr p] m fun e m'=>e = .returned unitV ∧ Goes m0 V C M sv p m H s m' (H.upd 4 ⟨none,0⟩) (settleS s):=by
 refine calls_of mixed Tryz.func58 ok_sim_Sim_settle rfl ?_
 conv=>whnf
 refine WLd.mk (hv H s 4) (h.cell rfl) ?_
 conv=>whnf
 refine WLoop.mk Nat (fun k=>[(9,.val (i k))]) (fun k m'=>k ≤ s.way.length ∧ Goes m0 V C M sv p m H s m' H { s with regs:=putsS s.regs (s.way.take k) }) (fun k=>s.way.length - k) 0 ⟨rfl,trivial⟩ ⟨Nat.zero_le _,Goes.refl h⟩ ?_
 rintro k m1 ⟨hk,G⟩
 have h1:=G.at'
 conv=>whnf
 refine Br.mk (fun hb=>?_) (fun hb=>?_)
 ·have hk2:k < s.way.length:=by
   have:(k:Int) < (s.way.length:Nat):=of_decide_eq_true hb
   omega
  obtain ⟨ad,ha,hc⟩:=h1.wayCells (r:=k) hk2
  have hr:(s.way[k]).rg < ({ s with regs:=putsS s.regs (s.way.take k) }:St).regs.length:=by show _ < (putsS _ _).length;rw [puts_len];exact hw _ (List.getElem_mem hk2)
  obtain ⟨ar,har,_⟩:=h1.regCells hr
  conv=>whnf
  refine WIdx.mk ad ha ⟨by omega,by show (k:Int) < (s.way.length:Nat);omega⟩ ?_
  conv=>whnf
  refine WLds.mk _ (by simpa using hc) rfl ?_
  conv=>whnf
  refine WLd.mk (hv H { s with regs:=putsS s.regs (s.way.take k) } 1) (by rw [add_add];exact h1.cell rfl) ?_
  conv=>whnf
  refine WIdx.mk ar har ⟨by omega,by show ((s.way[k]).rg:Int) < (numS { s with regs:=putsS s.regs (s.way.take k) } 1:Nat);exact Int.ofNat_lt.2 hr⟩ ?_
  conv=>whnf
  refine ⟨?_,trivial⟩
  conv=>whnf
  refine h1.setReg hr har rfl fun m2 G2=>?_
  conv=>whnf
  refine WRng.mk (by apply wrap_i64 <;> omega) ?_
  conv=>whnf
  refine ⟨k + 1,⟨rfl,trivial⟩,⟨hk2,?_⟩,Nat.sub_lt_sub_left hk2 (Nat.lt_succ_self k)⟩
  have:=G.trans G2
  rw [putsS_take hk2]
  exact this
 ·have hk2:k = s.way.length:=by
   have:¬ (k:Int) < (s.way.length:Nat):=of_decide_eq_false hb
   omega
  subst hk2
  rw [List.take_length] at h1 G
  conv=>whnf
  refine WSt.at _ _ h1.hp (show 27 + 1 ≤ 28 from Nat.le_refl _) ?_
  have G2:=h1.dropWay (s':=settleS s) (o:=Cells (spliceL (simCells V C M sv H { s with regs:=putsS s.regs s.way }) 27 (cellsL ns)) TSim) rfl (fun j hj=>by
   match j,hj with
   | 0,_=>exact ⟨rfl,rfl⟩
   | 1,_=>exact ⟨rfl,rfl⟩
   | 2,_=>exact ⟨rfl,rfl⟩
   | 3,_=>exact ⟨rfl,rfl⟩
   | j + 5,_=>exact ⟨rfl,rfl⟩) rfl rfl rfl
  conv=>whnf
  exact WRet.same ⟨rfl,G.trans G2⟩
theorem end_ok2 (h:SimAt m0 m V C M sv p H s) (kind n:Int) :
  CallsM Tryz.prog 136 [ptr p,i kind,i n] m fun e m'=>e = .returned unitV ∧ Goes m0 V C M sv p m H s m' (H.upd 4 ⟨none,0⟩) (endS s kind n):=by
 refine calls_of mixed Tryz.func136 ok_sim_Sim_end rfl ?_
 conv=>whnf
 rw [add_add]
 refine WSt.at _ _ h.hp (show 3 + 1 ≤ 28 by decide) ?_
 conv=>whnf
 rw [add_add]
 refine WSt.at _ _ (Mem.set_same _ _ _) (show 4 + 1 ≤ 28 by decide) ?_
 rw [Mem.set2]
 conv=>whnf
 rw [add_add]
 refine WSt.at _ _ (Mem.set_same _ _ _) (show 0 + 1 ≤ 28 by decide) ?_
 rw [Mem.set2]
 conv=>whnf
 refine WSt.at _ _ (Mem.set_same _ _ _) (show 27 + 1 ≤ 28 by decide) ?_
 rw [Mem.set2]
 have G2:=h.dropWay (s':=endS s kind n) (o:=Cells (simCells V C M sv (H.upd 4 ⟨none,0⟩) (endS s kind n)) TSim) rfl (fun j hj=>by
  match j,hj with
  | 0,_=>exact ⟨rfl,rfl⟩
  | 1,_=>exact ⟨rfl,rfl⟩
  | 2,_=>exact ⟨rfl,rfl⟩
  | 3,_=>exact ⟨rfl,rfl⟩
  | j + 5,_=>exact ⟨rfl,rfl⟩) rfl rfl rfl
 conv=>whnf
 exact WRet.same ⟨rfl,G2⟩
theorem latency_ok (h:SimAt m0 m V C M sv p H s) (hB:SimBase m0 V C M sv sh) (kd:Int) :
  PureM Tryz.prog 160 [ptr p,i kd] m (i (latS M sh s.begun kd)):=by
 refine calls_of mixed Tryz.func160 ok_sim_Sim_latency rfl ?_
 have hc:=class_in kd
 obtain ⟨q,hq,hq4⟩:∃ q:Nat,(classS kd).1 = q ∧ q < 4:=⟨(classS kd).1.toNat,by omega,by omega⟩
 obtain ⟨T,fr,hm0⟩:=hB.laid
 obtain ⟨a,c,hsv,hs0,hs1,hs2⟩:=hB.shown.mono h.le
 conv=>whnf
 refine WCall.pure (class_ok (h.le _ _ hm0) kd) ?_
 unfold pairV
 rw [hq]
 conv=>whnf
 refine WBnd.mk ⟨by omega,by omega⟩ ?_
 conv=>whnf
 refine WLd.mk (i (M.lat q)) ?_ ?_
 ·rw [add_add,add_add]
  have hq5:q = 0 ∨ q = 1 ∨ q = 2 ∨ q = 3:=by omega
  rcases hq5 with rfl | rfl | rfl | rfl <;> exact h.cell rfl
 conv=>whnf
 refine WLd.mk sv (h.cell rfl) ?_
 rw [hsv]
 conv=>whnf
 refine Br.mk (fun hb=>?_) (fun hb=>?_)
 ·have h0:sh = []:=by
   have:((sh.length:Nat):Int) = 0:=by simpa using hb
   exact List.length_eq_zero_iff.1 (by omega)
  conv=>whnf
  refine WRet.same ⟨?_,rfl⟩
  unfold latS
  rw [if_pos h0,hq,Int.toNat_natCast]
  rfl
 ·have h0:sh ≠ []:=fun e=>by subst e;simp at hb
  have hlen:0 < sh.length:=List.length_pos_iff.2 h0
  obtain ⟨ad,rfl⟩:∃ ad,a = some ad:=by
   cases a with
   | none=>exact absurd (hs0 rfl) h0
   | some ad=>exact ⟨ad,rfl⟩
  have hmod:s.begun % sh.length < sh.length:=Nat.mod_lt _ hlen
  have e1:((s.begun:Nat):Int).tmod ((sh.length:Nat):Int) = ((s.begun % sh.length:Nat):Int):=rfl
  conv=>whnf
  refine WLd.mk sv (h.cell rfl) ?_
  rw [hsv]
  conv=>whnf
  refine WLd.mk (i (s.begun:Int)) (by rw [add_add];exact h.cell rfl) ?_
  conv=>whnf
  refine WLd.mk sv (h.cell rfl) ?_
  rw [hsv]
  conv=>whnf
  refine WNe.mk (by omega) ?_
  rw [e1]
  conv=>whnf
  refine WIdx.mk ad rfl ⟨by omega,by omega⟩ ?_
  conv=>whnf
  refine WLd.mk (i (sh.getD (s.begun % sh.length) 0)) ?_ ?_
  ·have:=IAt.cell (hs1 ad rfl) hmod
   rw [List.getD_eq_getElem?_getD,List.getElem?_eq_getElem hmod]
   rw [Int.toNat_natCast,Nat.mul_one]
   exact this
  conv=>whnf
  refine WRet.same ⟨?_,rfl⟩
  show Ending.returned (i _) = .returned (i _)
  unfold latS
  rw [if_neg h0,hq,Int.toNat_natCast]
  congr 2
  generalize sh.getD (s.begun % sh.length) 0 = z
  generalize M.lat q = y
  show (if y < (if (1:Int) > z then 1 else z) then y else (if (1:Int) > z then 1 else z)) = _
  split <;> split <;> omega
theorem cont_way (H:HdF) (s:St) (W:List WayR) (nb:Nat) (j:Nat) (hj:j ≠ 4):numS { s with way:=W,begun:=nb } j = numS s j ∧ contS H { s with way:=W,begun:=nb } j = contS H s j:=by
 match j,hj with
 | 0,_=>exact ⟨rfl,rfl⟩
 | 1,_=>exact ⟨rfl,rfl⟩
 | 2,_=>exact ⟨rfl,rfl⟩
 | 3,_=>exact ⟨rfl,rfl⟩
 | j + 5,_=>exact ⟨rfl,rfl⟩
theorem lat_le (hM:M.ok = true) (n:Nat) (kd:Int):1 ≤ latS M sh n kd ∧ latS M sh n kd ≤ 8:=by
 have hc:=class_in kd
 have:=lat_in hM (q:=(classS kd).1.toNat) (by omega)
 unfold latS
 split
 ·exact this
 ·omega
theorem SimAt.setInt (h:SimAt m0 m V C M sv p H s) {q:Nat} {vs:List Value} {K:Mem → Prop} (s':St) (hq:spliceL (simCells V C M sv H s) q vs = simCells V C M sv H s') (hq2:q + vs.length ≤ 28) (hN:famN s' = famN s) (hn:numS s' = numS s) (hc:contS H s' = contS H s) (hp0:s'.prints = s.prints) (hw:s'.way = s.way)
  (k:∀ m',Goes m0 V C M sv p m H s m' H s' → K m'):WSt m ((⟨p,0,none⟩:Addr).add q) vs K:=by
 refine WSt.at _ _ h.hp hq2 ?_
 rw [hq]
 exact k _ (h.hdr hN hn hc hp0 hw)
theorem SimAt.pushWay (h:SimAt m0 m V C M sv p H s) {bx:Nat} {w:WayR} {K:Value → Mem → Prop} (hx:m bx = some (Cells w.cells TRes)) (hl:s.way.length ≤ 1000000000)
  (k:∀ b' c' m',(∀ K':Mem → Prop,(∀ m2 H',Goes m0 V C M sv p m H s m2 H' { s with way:=s.way ++ [w] } → K' m2) → WSt m' ((⟨p,0,none⟩:Addr).add 27) [.slice (some ⟨b',0,none⟩) (s.way.length + 1) c'] K') → K (.slice (some ⟨b',0,none⟩) (s.way.length + 1) c') m') :
  WApp m TRes 4 32 [i 0,i 0,i 0,i 0] (H 4).a s.way.length (H 4).c (some ⟨bx,0,none⟩) 1 K:=by
 refine h.fam.app (k:=4) (by unfold famN;omega) rfl rfl rfl rfl (by decide) hx rfl rfl (by show (s.way.length + 1) * 32 ≤ _;omega) (fun e=>by show s.way.length = 0;rw [h.nil4 e];rfl) ?_
 intro b' c' rest m' hm hc hr hb hx'
 have hpb:p ≠ b':=by
  rcases hb with hb | hb
  ·exact ne_free h.hp hb
  ·exact fun e=>h.notp ⟨4,by unfold famN;omega,hb⟩ e.symm
 refine k b' c' m' fun K' hK=>?_
 have hp2:m' p = some (Cells (simCells V C M sv H s) TSim):=by rw [hx' p hpb];exact h.hp
 refine WSt.at _ _ hp2 (show 27 + 1 ≤ 28 from Nat.le_refl _) ?_
 have e1:numS { s with way:=s.way ++ [w] } 4 = s.way.length + 1:=by show (s.way ++ [w]).length = _;rw [List.length_append];rfl
 have e2:contS H { s with way:=s.way ++ [w] } 4 = contS H s 4 ++ w.cells:=by show flatL _ (s.way ++ [w]) = _;rw [flat_app,flat_one];rfl
 have e3:spliceL (simCells V C M sv H s) 27 [.slice (some ⟨b',0,none⟩) (s.way.length + 1) c'] = simCells V C M sv (H.upd 4 ⟨some ⟨b',0,none⟩,c'⟩) { s with way:=s.way ++ [w] }:=by
  unfold simCells hv;rw [e1];rfl
 rw [e3]
 have hc:s.way.length + 1 ≤ c':=hc
 have hL:(contS H s 4).length = s.way.length * 4:=flat_len wr_len _
 have hr:(contS H s 4 ++ w.cells).length + rest.length = c' * 4:=hr
 refine hK _ _ (h.relist (k:=4) (b:=b') (c:=c') (rest:=rest) (by decide) rfl (fun j hj=>cont_way H s _ _ j hj) hb ?_ (Mem.set_same _ _ _) (fun x h1 h2=>?_) ?_ ?_ ?_ (fun _=>rfl) (fun e=>absurd rfl e))
 ·rw [Mem.set_other _ _ (Ne.symm hpb),e2];exact hm
 ·rw [Mem.set_other _ _ h2];exact hx' x h1
 ·rw [e1,e2,List.length_append,hL];show _ + 4 = (s.way.length + 1) * 4;omega
 ·rw [e1];exact hc
 ·rw [e2];exact hr
theorem give_ok2 (h:SimAt m0 m V C M sv p H s) (hB:SimBase m0 V C M sv sh) {k:Nat} (hl:LimS s k) (hk:k ≤ 1000000000) (o:OpR) (hds:0 ≤ o.ds) (v:VR) :
  CallsM Tryz.prog 135 [ptr p,o.val,v.val] m fun e m'=>e = .returned unitV ∧ ∃ H',Goes m0 V C M sv p m H s m' H' (giveS M sh s o v):=by
 refine calls_of mixed Tryz.func135 ok_sim_Sim_give rfl ?_
 obtain ⟨q1,q2⟩:=lat_le (sh:=sh) hB.mac s.begun o.kd
 obtain ⟨l1,l2,l3,l4⟩:=hl
 have hlat:=latency_ok h hB o.kd
 have ht:CellAt m (((⟨p,0,none⟩:Addr).add 0).add 1) (i (s.took:Int)):=by rw [add_add];exact h.cell rfl
 conv=>whnf
 refine WLd.mk (hv H s 4) (h.cell rfl) ?_
 conv=>whnf
 refine ⟨?_,?_⟩
 ·conv=>whnf
  refine WLd.mk _ ht ?_
  conv=>whnf
  refine ⟨?_,trivial⟩
  conv=>whnf
  refine WCallG.pure hlat ?_
  conv=>whnf
  refine WRng.mk (by apply wrap_i64 <;> omega) ?_
  conv=>whnf
  refine ⟨?_,trivial⟩
  conv=>whnf
  refine WNew.ab fun bx mx hbx lx cx=>?_
  have hw:[i o.ds,i v.n,i v.b,i ((s.took:Int) + latS M sh s.begun o.kd)] = WayR.cells ⟨o.ds.toNat,v,s.took + (latS M sh s.begun o.kd).toNat⟩:=by
   unfold WayR.cells
   rw [Int.toNat_of_nonneg hds,show ((s.took + (latS M sh s.begun o.kd).toNat:Nat):Int) = (s.took:Int) + latS M sh s.begun o.kd by omega]
  have cx:mx bx = some (Cells [i o.ds,i v.n,i v.b,i ((s.took:Int) + latS M sh s.begun o.kd)] TRes):=cx
  rw [hw] at cx
  conv=>whnf
  refine ⟨?_,trivial⟩
  conv=>whnf
  refine (h.mono lx).pushWay cx (by omega) fun b' c' m2 hst=>?_
  conv=>whnf
  refine ⟨?_,trivial⟩
  conv=>whnf
  refine hst _ fun m3 H3 G3=>?_
  conv=>whnf
  refine WLd.mk (i (s.begun:Int)) (by rw [add_add];exact G3.at'.cell rfl) ?_
  conv=>whnf
  refine WRng.mk (by apply wrap_i64 <;> omega) ?_
  conv=>whnf
  rw [add_add]
  refine G3.at'.setInt (giveS M sh s o v) rfl (show 0 + 2 + 1 ≤ 28 by decide) rfl rfl rfl rfl rfl fun m4 G4=>?_
  conv=>whnf
  exact WRet.same ⟨rfl,H3,(h.goesMono lx).trans (G3.trans G4)⟩
 ·refine ⟨?_,trivial⟩
  conv=>whnf
  refine WCallG.pure hlat ?_
  conv=>whnf
  refine ⟨?_,trivial⟩
  conv=>whnf
  refine WLd.mk _ ht ?_
  conv=>whnf
  refine WRng.mk (by apply wrap_i64 <;> omega) ?_
  conv=>whnf
  refine ⟨?_,trivial⟩
  conv=>whnf
  refine WNew.ab fun bx mx hbx lx cx=>?_
  have hw:[i o.ds,i v.n,i v.b,i ((s.took:Int) + latS M sh s.begun o.kd)] = WayR.cells ⟨o.ds.toNat,v,s.took + (latS M sh s.begun o.kd).toNat⟩:=by
   unfold WayR.cells
   rw [Int.toNat_of_nonneg hds,show ((s.took + (latS M sh s.begun o.kd).toNat:Nat):Int) = (s.took:Int) + latS M sh s.begun o.kd by omega]
  have cx:mx bx = some (Cells [i o.ds,i v.n,i v.b,i ((s.took:Int) + latS M sh s.begun o.kd)] TRes):=cx
  rw [hw] at cx
  conv=>whnf
  refine ⟨?_,trivial⟩
  conv=>whnf
  refine (h.mono lx).pushWay cx (by omega) fun b' c' m2 hst=>?_
  conv=>whnf
  refine ⟨?_,trivial⟩
  conv=>whnf
  refine hst _ fun m3 H3 G3=>?_
  conv=>whnf
  refine WLd.mk (i (s.begun:Int)) (by rw [add_add];exact G3.at'.cell rfl) ?_
  conv=>whnf
  refine WRng.mk (by apply wrap_i64 <;> omega) ?_
  conv=>whnf
  rw [add_add]
  refine G3.at'.setInt (giveS M sh s o v) rfl (show 0 + 2 + 1 ≤ 28 by decide) rfl rfl rfl rfl rfl fun m4 G4=>?_
  conv=>whnf
  exact WRet.same ⟨rfl,H3,(h.goesMono lx).trans (G3.trans G4)⟩
end
end Go.Proofs.YtleofbpepfmfgaaGreatDoor
set_option linter.unusedSimpArgs false
set_option linter.unusedVariables false
set_option maxRecDepth 100000
namespace Go.Proofs.YtleofbpepfmfgaaGreatDoor
open Go Go.Vx
open Go.Vx.IOp Go.Vx.IR Go.Vx.Opd
def MakesF (fv:Value) (F:Int → Int → Int) (D:Int → Prop):Prop:=∃ g,fv = .func (.func g) #[] #[] ∧ ∀ (m:Mem) (a b:Int),D b → PureM Tryz.prog g [i a,i b] m (i (F a b))
abbrev anyI (_:Int):Prop:=True
theorem sh63_in (b:Int):0 ≤ sh63 b ∧ sh63 b < 64:=by
 unfold sh63 bin64
 show 0 ≤ IntKind.i64.wrap _ ∧ IntKind.i64.wrap _ < 64
 have h:(BitVec.ofInt IntKind.i64.bits b &&& BitVec.ofInt IntKind.i64.bits 63).toNat ≤ 63:=by
  rw [BitVec.toNat_and]
  exact Nat.le_trans Nat.and_le_right (by decide)
 rw [wrap_i64 (by omega) (by omega)]
 omega
theorem bit_ok (m:Mem) (b:Bool):PureM Tryz.prog 191 [.bool b] m (i (bitI b)):=by
 refine calls_of mixed Tryz.func191 ok_word_bit rfl ?_
 conv=>whnf
 refine Br.mk (fun hb=>?_) (fun hb=>?_)
 ·subst hb
  conv=>whnf
  exact WRet.same ⟨rfl,rfl⟩
 ·subst hb
  conv=>whnf
  exact WRet.same ⟨rfl,rfl⟩
theorem mk1:MakesF (.func (.func 183) #[] #[]) (bin64 .add) anyI:=⟨_,rfl,fun m a b _=>by
 refine calls_of mixed Tryz.func183 ok_word_table_1 rfl ?_
 conv=>whnf
 exact WRet.same ⟨rfl,rfl⟩⟩
theorem mk2:MakesF (.func (.func 184) #[] #[]) (bin64 .sub) anyI:=⟨_,rfl,fun m a b _=>by
 refine calls_of mixed Tryz.func184 ok_word_table_2 rfl ?_
 conv=>whnf
 exact WRet.same ⟨rfl,rfl⟩⟩
theorem mk3:MakesF (.func (.func 185) #[] #[]) (bin64 .and) anyI:=⟨_,rfl,fun m a b _=>by
 refine calls_of mixed Tryz.func185 ok_word_table_3 rfl ?_
 conv=>whnf
 exact WRet.same ⟨rfl,rfl⟩⟩
theorem mk4:MakesF (.func (.func 186) #[] #[]) (bin64 .or) anyI:=⟨_,rfl,fun m a b _=>by
 refine calls_of mixed Tryz.func186 ok_word_table_4 rfl ?_
 conv=>whnf
 exact WRet.same ⟨rfl,rfl⟩⟩
theorem mk5:MakesF (.func (.func 187) #[] #[]) (bin64 .xor) anyI:=⟨_,rfl,fun m a b _=>by
 refine calls_of mixed Tryz.func187 ok_word_table_5 rfl ?_
 conv=>whnf
 exact WRet.same ⟨rfl,rfl⟩⟩
theorem mk6:MakesF (.func (.func 188) #[] #[]) (fun a b=>IntKind.i64.wrap (a * 2 ^ min (sh63 b).toNat 64)) anyI:=⟨_,rfl,fun m a b _=>by
 refine calls_of mixed Tryz.func188 ok_word_table_6 rfl ?_
 conv=>whnf
 refine WBnd.mk (sh63_in b) ?_
 conv=>whnf
 exact WRet.same ⟨rfl,rfl⟩⟩
theorem mk7:MakesF (.func (.func 189) #[] #[]) (fun a b=>a.fdiv (2 ^ min (sh63 b).toNat 64)) anyI:=⟨_,rfl,fun m a b _=>by
 refine calls_of mixed Tryz.func189 ok_word_table_7 rfl ?_
 conv=>whnf
 refine WBnd.mk (sh63_in b) ?_
 conv=>whnf
 exact WRet.same ⟨rfl,rfl⟩⟩
theorem mk8:MakesF (.func (.func 190) #[] #[]) (fun a b=>bitI (decide (a < b))) anyI:=⟨_,rfl,fun m a b _=>by
 refine calls_of mixed Tryz.func190 ok_word_table_8 rfl ?_
 conv=>whnf
 refine WCall.pure (bit_ok m _) ?_
 conv=>whnf
 exact WRet.same ⟨rfl,rfl⟩⟩
theorem mk9:MakesF (.func (.func 192) #[] #[]) (fun a b=>bitI (a == b)) anyI:=⟨_,rfl,fun m a b _=>by
 refine calls_of mixed Tryz.func192 ok_word_table_9 rfl ?_
 conv=>whnf
 refine WCall.pure (bit_ok m _) ?_
 conv=>whnf
 exact WRet.same ⟨rfl,rfl⟩⟩
theorem mk10:MakesF (.func (.func 193) #[] #[]) (bin64 .mul) anyI:=⟨_,rfl,fun m a b _=>by
 refine calls_of mixed Tryz.func193 ok_word_table_10 rfl ?_
 conv=>whnf
 exact WRet.same ⟨rfl,rfl⟩⟩
theorem mk11:MakesF (.func (.func 195) #[] #[]) (fun a b=>IntKind.i64.wrap (a.tdiv b)) (fun b=>b ≠ 0):=⟨_,rfl,fun m a b hb=>by
 refine calls_of mixed Tryz.func195 ok_word_table_11 rfl ?_
 conv=>whnf
 refine WNe.mk hb ?_
 conv=>whnf
 exact WRet.same ⟨rfl,rfl⟩⟩
theorem mk12:MakesF (.func (.func 196) #[] #[]) (fun a b=>a.tmod b) (fun b=>b ≠ 0):=⟨_,rfl,fun m a b hb=>by
 refine calls_of mixed Tryz.func196 ok_word_table_12 rfl ?_
 conv=>whnf
 refine WNe.mk hb ?_
 conv=>whnf
 exact WRet.same ⟨rfl,rfl⟩⟩
def MakesT (m:Mem) (v:Value) (k:Int):Prop:=∃ g bx,v = .func (.func g) #[] #[ptr bx] ∧ ∀ m',Mem.le m m' → ∀ a b:Int,PureM Tryz.prog g [i a,i b,ptr bx] m' (.tuple ⟨[i (mathS k a b).1,i (mathS k a b).2]⟩)
theorem plain_ok {m:Mem} {fv:Value} {F:Int → Int → Int} (hf:MakesF fv F anyI) {k:Int} (hk:∀ a b,mathS k a b = (F a b,0)) :
  CallsM Tryz.prog 182 [fv] m fun e m'=>∃ v,e = .returned v ∧ Mem.le m m' ∧ MakesT m' v k:=by
 refine calls_of mixed Tryz.func182 ok_word_plain rfl ?_
 obtain ⟨g0,rfl,hg⟩:=hf
 conv=>whnf
 refine WNew.ab fun bx mx hbx lx cx=>?_
 conv=>whnf
 refine WRet.same ⟨_,rfl,lx,204,bx,rfl,fun m' hle a b=>?_⟩
 refine calls_of mixed Tryz.func204 ok_word_plain_1 rfl ?_
 conv=>whnf
 refine WLd.mk (.func (.func g0) #[] #[]) ?_ ?_
 ·exact ⟨_,_,_,hle _ _ cx,rfl,rfl⟩
 conv=>whnf
 refine WCall.pure (hg _ a b trivial) ?_
 conv=>whnf
 refine WRet.same ⟨?_,rfl⟩
 rw [hk]
 rfl
theorem divided_ok {m:Mem} {fv:Value} {F:Int → Int → Int} (hf:MakesF fv F (fun b=>b ≠ 0)) {k:Int} (hk:∀ a b,b ≠ 0 → mathS k a b = (F a b,0)) (hk0:∀ a,mathS k a 0 = (0,-2))
  (hk1:∀ a,IntKind.i64.wrap (F a 1 * F (-1) 1) = F a (-1)) :
  CallsM Tryz.prog 194 [fv] m fun e m'=>∃ v,e = .returned v ∧ Mem.le m m' ∧ MakesT m' v k:=by
 refine calls_of mixed Tryz.func194 ok_word_divided rfl ?_
 obtain ⟨g0,rfl,hg⟩:=hf
 conv=>whnf
 refine WNew.ab fun bx mx hbx lx cx=>?_
 conv=>whnf
 refine WRet.same ⟨_,rfl,lx,205,bx,rfl,fun m' hle a b=>?_⟩
 have hc:CellAt m' ⟨bx,0,none⟩ (.func (.func g0) #[] #[]):=⟨_,_,_,hle _ _ cx,rfl,rfl⟩
 have hone:PureM Tryz.prog 206 [.func (.func g0) #[] #[]] m' (i (F (-1) 1)):=by
  refine calls_of mixed Tryz.func206 ok_word_one rfl ?_
  conv=>whnf
  refine WCall.pure (hg _ (-1) 1 (by decide)) ?_
  conv=>whnf
  exact WRet.same ⟨rfl,rfl⟩
 refine calls_of mixed Tryz.func205 ok_word_divided_1 rfl ?_
 conv=>whnf
 refine Br.mk (fun hb=>?_) (fun hb=>?_)
 ·have hb:b = 0:=by simpa using hb
  subst hb
  conv=>whnf
  refine WRet.same ⟨?_,rfl⟩
  rw [hk0];rfl
 ·have hb:b ≠ 0:=by simpa using hb
  conv=>whnf
  refine Br.mk (fun hb1=>?_) (fun hb1=>?_)
  ·have hb1:b = -1:=by simpa using hb1
   subst hb1
   conv=>whnf
   refine WLd.mk _ hc ?_
   conv=>whnf
   refine WLd.mk _ hc ?_
   conv=>whnf
   refine ⟨?_,trivial⟩
   conv=>whnf
   refine WCallG.pure (hg _ a 1 (by decide)) ?_
   conv=>whnf
   refine ⟨?_,trivial⟩
   conv=>whnf
   refine WCallG.pure hone ?_
   conv=>whnf
   refine WRet.same ⟨?_,rfl⟩
   rw [hk a (-1) (by decide),← hk1]
   rfl
  ·conv=>whnf
   refine WLd.mk _ hc ?_
   conv=>whnf
   refine WCall.pure (hg _ a b hb) ?_
   conv=>whnf
   refine WRet.same ⟨?_,rfl⟩
   rw [hk a b hb];rfl
theorem div_one (a:Int):IntKind.i64.wrap (IntKind.i64.wrap (a.tdiv 1) * IntKind.i64.wrap (Int.tdiv (-1) 1)) = IntKind.i64.wrap (a.tdiv (-1)):=by
 rw [show Int.tdiv (-1) 1 = -1 by decide,Int.tdiv_one,Int.tdiv_neg,Int.tdiv_one]
 rw [IntKind.wrap_i64,IntKind.wrap_i64,IntKind.wrap_i64,IntKind.wrap_i64]
 omega
theorem rem_one (a:Int):IntKind.i64.wrap (a.tmod 1 * Int.tmod (-1) 1) = a.tmod (-1):=by
 rw [show Int.tmod (-1) 1 = 0 by decide,Int.tmod_neg,Int.tmod_one,Int.mul_zero]
 decide
def inTab (k:Int):Bool:=(decide (3 ≤ k) && decide (k ≤ 11)) || k == 13 || k == 14 || k == 15
theorem table_ok (m:Mem) {k:Int} (hk:inTab k = true):CallsM Tryz.prog 157 [i k] m fun e m'=>∃ v,e = .returned v ∧ Mem.le m m' ∧ MakesT m' v k:=by
 refine calls_of mixed Tryz.func157 ok_word_table rfl ?_
 have h:k = 3 ∨ k = 4 ∨ k = 5 ∨ k = 6 ∨ k = 7 ∨ k = 8 ∨ k = 9 ∨ k = 10 ∨ k = 11 ∨ k = 13 ∨ k = 14 ∨ k = 15:=by
  unfold inTab at hk
  simp only [Bool.or_eq_true,Bool.and_eq_true,decide_eq_true_eq,beq_iff_eq] at hk
  omega
 have p1:CallsM Tryz.prog 182 [_] m _:=plain_ok (m:=m) mk1 (k:=3) fun a b=>rfl
 have p2:CallsM Tryz.prog 182 [_] m _:=plain_ok (m:=m) mk2 (k:=4) fun a b=>rfl
 have p3:CallsM Tryz.prog 182 [_] m _:=plain_ok (m:=m) mk3 (k:=5) fun a b=>rfl
 have p4:CallsM Tryz.prog 182 [_] m _:=plain_ok (m:=m) mk4 (k:=6) fun a b=>rfl
 have p5:CallsM Tryz.prog 182 [_] m _:=plain_ok (m:=m) mk5 (k:=7) fun a b=>rfl
 have p6:CallsM Tryz.prog 182 [_] m _:=plain_ok (m:=m) mk6 (k:=8) fun a b=>rfl
 have p7:CallsM Tryz.prog 182 [_] m _:=plain_ok (m:=m) mk7 (k:=9) fun a b=>rfl
 have p8:CallsM Tryz.prog 182 [_] m _:=plain_ok (m:=m) mk8 (k:=10) fun a b=>rfl
 have p9:CallsM Tryz.prog 182 [_] m _:=plain_ok (m:=m) mk9 (k:=11) fun a b=>rfl
 have p10:CallsM Tryz.prog 182 [_] m _:=plain_ok (m:=m) mk10 (k:=13) fun a b=>rfl
 have p11:CallsM Tryz.prog 194 [_] m _:=divided_ok (m:=m) mk11 (k:=14) (fun a b hb=>by rw [math_14,if_neg hb]) (fun a=>rfl) div_one
 have p12:CallsM Tryz.prog 194 [_] m _:=divided_ok (m:=m) mk12 (k:=15) (fun a b hb=>by rw [math_15,if_neg hb]) (fun a=>rfl) rem_one
 rcases h with rfl | rfl | rfl | rfl | rfl | rfl | rfl | rfl | rfl | rfl | rfl | rfl
 all_goals
  repeat' (conv=>whnf
           first
           | (refine Br.mk (fun hh=>?_) (fun hh=>?_) <;> try (cases hh;done))
           | (exact WRet.same ⟨_,rfl,by assumption,by assumption⟩)
           | (refine WCall.mk (by assumption) ?_;rintro _ m' ⟨v,rfl,hle,hv⟩))
end Go.Proofs.YtleofbpepfmfgaaGreatDoor
