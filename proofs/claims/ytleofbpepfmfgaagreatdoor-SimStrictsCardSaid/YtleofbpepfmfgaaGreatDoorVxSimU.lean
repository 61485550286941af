import Derived.Test.YtleofbpepfmfgaaGreatDoorVxSimQ
set_option linter.unusedSimpArgs false
set_option linter.unusedVariables false
set_option maxRecDepth 100000
namespace Go.Proofs.YtleofbpepfmfgaaGreatDoor
open Go Go.Vx
open Go.Vx.IOp Go.Vx.IR Go.Vx.Opd
theorem late_ok (m:Mem) (k:Int):PureM Tryz.prog 156 [i k] m (.tuple ⟨[i (lateS k),.bool (waitsS k)]⟩):=by
 refine calls_of mixed Tryz.func156 ok_word_late rfl ?_
 conv=>whnf
 refine Br.mk (fun h=>?_) (fun h1=>?_)
 ·have h:k = 23:=by simpa using h
  subst h
  conv=>whnf
  exact WRet.same ⟨rfl,rfl⟩
 ·have h1:k ≠ 23:=by simpa using h1
  conv=>whnf
  refine Br.mk (fun h=>?_) (fun h2=>?_)
  ·have h:k = 24:=by simpa using h
   subst h
   conv=>whnf
   exact WRet.same ⟨rfl,rfl⟩
  ·have h2:k ≠ 24:=by simpa using h2
   conv=>whnf
   refine WRet.same ⟨?_,rfl⟩
   have e1:lateS k = k:=by unfold lateS;rw [if_neg h1,if_neg h2]
   have e2:waitsS k = false:=by unfold waitsS;simp [h1,h2]
   rw [e1,e2];rfl
theorem formed_ok (m:Mem) (v:VR) (hv:v.ok):PureM Tryz.prog 158 [v.val] m (.bool true):=by
 refine calls_of mixed Tryz.func158 ok_word_Formed rfl ?_
 conv=>whnf
 refine WSc.mk (v:=v.n == 0) (fun _=>And.intro (Mem.le.refl _) rfl) ?_
 conv=>whnf
 refine WRet.same ⟨?_,rfl⟩
 show Ending.returned (.bool (v.b == 0 || v.n == 0)) = .returned (.bool true)
 have:(v.b == 0 || v.n == 0) = true:=by rcases hv with e | e <;> simp [e]
 rw [this]
theorem both_ok2 (m:Mem) {k:Int} (hk:inTab (lateS k) = true) (a b:VR) :
  CallsM Tryz.prog 159 [i k,a.val,b.val] m fun e m'=>e = .returned (.tuple ⟨[(bothS k a b).1.val,i (bothS k a b).2]⟩) ∧ Mem.le m m':=by
 refine calls_of mixed Tryz.func159 ok_word_both rfl ?_
 have key:∀ {n bad:Int} {m':Mem},(if (if a.b = 0 then b.b else a.b) = 0 then mathS (lateS k) a.n b.n else (0,if a.b = 0 then b.b else a.b)) = (n,bad) → Mem.le m m' →
   Br (scB (scB (bad != 0) true ((lateS k == 14) || (lateS k == 15))) true (!waitsS k))
    (WRet m' (fun e m''=>e = .returned (.tuple ⟨[(bothS k a b).1.val,i (bothS k a b).2]⟩) ∧ Mem.le m m'') (.returned (.tuple ⟨[.agg ⟨[i 0,i 0]⟩,i bad]⟩)))
    (WRet m' (fun e m''=>e = .returned (.tuple ⟨[(bothS k a b).1.val,i (bothS k a b).2]⟩) ∧ Mem.le m m'') (.returned (.tuple ⟨[.agg ⟨[i n,i bad]⟩,i 0]⟩))):=fun {n bad m'} hr hle=>by
  refine Br.mk (fun hb=>?_) (fun hb=>?_)
  ·have h:bad ≠ 0 ∧ (lateS k = 14 ∨ lateS k = 15) ∧ waitsS k = false:=by
    simp only [scB,Bool.and_eq_true,bne_iff_ne,ne_eq,Bool.or_eq_true,beq_iff_eq,Bool.not_eq_true'] at hb
    exact ⟨hb.1.1,hb.1.2,hb.2⟩
   refine WRet.same ⟨?_,hle⟩
   have:bothS k a b = (⟨0,0⟩,bad):=by unfold bothS;simp only;rw [hr,if_pos h]
   rw [this];rfl
  ·have h:¬ (bad ≠ 0 ∧ (lateS k = 14 ∨ lateS k = 15) ∧ waitsS k = false):=fun h=>by
    simp only [scB] at hb
    have:((bad != 0 && ((lateS k == 14) || (lateS k == 15))) && !waitsS k) = true:=by
     simp only [Bool.and_eq_true,bne_iff_ne,ne_eq,Bool.or_eq_true,beq_iff_eq,Bool.not_eq_true']
     exact ⟨⟨h.1,h.2.1⟩,h.2.2⟩
    rw [this] at hb;cases hb
   refine WRet.same ⟨?_,hle⟩
   have:bothS k a b = (⟨n,bad⟩,0):=by unfold bothS;simp only;rw [hr,if_neg h]
   rw [this];rfl
 have tail:∀ {z:Bool},z = ((lateS k == 14) || (lateS k == 15)) → True:=fun _=>trivial
 conv=>whnf
 refine WCall.pure (late_ok m k) ?_
 conv=>whnf
 refine Br.mk (fun hb=>?_) (fun hb=>?_)
 all_goals
  conv=>whnf
  refine WSc.mk (v:=lateS k == 15) (fun _=>And.intro (Mem.le.refl _) rfl) ?_
  conv=>whnf
  refine Br.mk (fun hb2=>?_) (fun hb2=>?_)
 ·have e1:a.b = 0:=by simpa using hb
  have e2:b.b = 0:=by simpa using hb2
  conv=>whnf
  refine ⟨?_,trivial⟩
  conv=>whnf
  refine WCall.mk (table_ok m hk) ?_
  rintro _ m' ⟨_,rfl,hle,g,bx,rfl,hg⟩
  conv=>whnf
  refine ⟨?_,trivial⟩
  conv=>whnf
  refine WCall.pure (hg m' (Mem.le.refl _) _ _) ?_
  conv=>whnf
  refine WSc.mk (v:=((lateS k == 14) || (lateS k == 15))) (fun _=>And.intro (Mem.le.refl _) rfl) ?_
  conv=>whnf
  refine WSc.mk (v:=!waitsS k) (fun _=>And.intro (Mem.le.refl _) rfl) ?_
  exact key (by rw [if_pos (by rw [if_pos e1];exact e2)]) hle
 ·have e1:a.b = 0:=by simpa using hb
  have e2:b.b ≠ 0:=by simpa using hb2
  conv=>whnf
  refine WSc.mk (v:=((lateS k == 14) || (lateS k == 15))) (fun _=>And.intro (Mem.le.refl _) rfl) ?_
  conv=>whnf
  refine WSc.mk (v:=!waitsS k) (fun _=>And.intro (Mem.le.refl _) rfl) ?_
  exact key (by rw [if_pos e1,if_neg e2]) (Mem.le.refl _)
 ·have e1:a.b ≠ 0:=by simpa using hb
  exact absurd (by simpa using hb2) e1
 ·have e1:a.b ≠ 0:=by simpa using hb
  conv=>whnf
  refine WSc.mk (v:=((lateS k == 14) || (lateS k == 15))) (fun _=>And.intro (Mem.le.refl _) rfl) ?_
  conv=>whnf
  refine WSc.mk (v:=!waitsS k) (fun _=>And.intro (Mem.le.refl _) rfl) ?_
  exact key (by rw [if_neg e1,if_neg e1]) (Mem.le.refl _)
def isMath (k:Int):Bool:=k == 1 || k == 2 || k == 12 || inTab (lateS k)
theorem wordDo_ok (m:Mem) (o:OpR) (hk:isMath o.kd = true) (a b c:VR) (ha:a.ok) (hb:b.ok) (hc:c.ok) :
  CallsM Tryz.prog 134 [o.val,a.val,b.val,c.val] m fun e m'=>e = .returned (.tuple ⟨[(doVal o a b c).1.val,i (doVal o a b c).2,i 0]⟩) ∧ Mem.le m m':=by
 refine calls_of mixed Tryz.func134 ok_word_Do rfl ?_
 have fin:∀ {m':Mem} {v:VR} {z:Int},doVal o a b c = (v,z) → Mem.le m m' → WRet m' (fun e m''=>e = .returned (.tuple ⟨[(doVal o a b c).1.val,i (doVal o a b c).2,i 0]⟩) ∧ Mem.le m m'') (.returned (.tuple ⟨[v.val,i z,i 0]⟩)) :=
  fun {m' v z} h hle=>WRet.same ⟨by rw [h],hle⟩
 have nt:∀ {m':Mem},o.kd ≠ 1 → o.kd ≠ 2 → o.kd ≠ 12 → CallsM Tryz.prog 157 [i (lateS o.kd)] m' fun e m''=>∃ v,e = .returned v ∧ Mem.le m' m'' ∧ MakesT m'' v (lateS o.kd):=fun {m'} h1 h2 h3=>by
  unfold isMath at hk
  simp only [Bool.or_eq_true,beq_iff_eq] at hk
  exact table_ok m' (by rcases hk with ((h | h) | h) | h
                        ·exact absurd h h1
                        ·exact absurd h h2
                        ·exact absurd h h3
                        ·exact h)
 conv=>whnf
 refine WCall.pure (late_ok m o.kd) ?_
 conv=>whnf
 refine WSc.mk (v:=o.kd != 2) (fun _=>And.intro (Mem.le.refl _) rfl) ?_
 conv=>whnf
 refine WSc.mk (v:=o.kd != 12) (fun _=>And.intro (Mem.le.refl _) rfl) ?_
 conv=>whnf
 refine WSc.mk (v:=false) (fun hq=>?_) ?_
 ·have h3:(o.kd ≠ 1 ∧ o.kd ≠ 2) ∧ o.kd ≠ 12:=by
   have hq:((o.kd != 1 && o.kd != 2) && o.kd != 12) = true:=hq
   simpa using hq
  conv=>whnf
  refine WCall.mk (nt h3.1.1 h3.1.2 h3.2) ?_
  rintro _ m' ⟨_,rfl,hle,g,bx,rfl,_⟩
  conv=>whnf
  exact And.intro hle rfl
 conv=>whnf
 refine Br.mk (fun hq=>?_) (fun _=>?_)
 ·have hq:(((o.kd != 1 && o.kd != 2) && o.kd != 12) && false) = true:=hq
  rw [Bool.and_false] at hq;cases hq
 conv=>whnf
 refine WCall.pure (formed_ok m a ha) ?_
 conv=>whnf
 refine WSc.mk (v:=false) (fun _=>?_) ?_
 ·conv=>whnf
  refine WCall.pure (formed_ok m b hb) ?_
  conv=>whnf
  exact And.intro (Mem.le.refl _) rfl
 conv=>whnf
 refine WSc.mk (v:=false) (fun _=>?_) ?_
 ·conv=>whnf
  refine WCall.pure (formed_ok m c hc) ?_
  conv=>whnf
  exact And.intro (Mem.le.refl _) rfl
 conv=>whnf
 refine Br.mk (fun h=>by cases h) (fun _=>?_)
 conv=>whnf
 refine Br.mk (fun h=>?_) (fun h1=>?_)
 ·have h:o.kd = 1:=by simpa using h
  conv=>whnf
  exact fin (v:=⟨o.n,0⟩) (z:=0) (by unfold doVal;rw [if_pos h]) (Mem.le.refl _)
 have h1:o.kd ≠ 1:=by simpa using h1
 conv=>whnf
 refine Br.mk (fun h=>?_) (fun h2=>?_)
 ·have h:o.kd = 2:=by simpa using h
  conv=>whnf
  exact fin (v:=a) (z:=0) (by unfold doVal;rw [if_neg h1,if_pos h]) (Mem.le.refl _)
 have h2:o.kd ≠ 2:=by simpa using h2
 conv=>whnf
 refine Br.mk (fun h=>?_) (fun h3=>?_)
 ·have h:o.kd = 12:=by simpa using h
  have hd:∀ v,(if a.b ≠ 0 then a else if a.n ≠ 0 then b else c) = v → doVal o a b c = (v,0):=fun v e=>by unfold doVal;rw [if_neg h1,if_neg h2,if_pos h,e]
  conv=>whnf
  refine Br.mk (fun h4=>?_) (fun h4=>?_)
  ·have h4:a.b ≠ 0:=by simpa using h4
   conv=>whnf
   exact fin (v:=a) (z:=0) (hd _ (if_pos h4)) (Mem.le.refl _)
  ·have h4:¬ a.b ≠ 0:=by simpa using h4
   conv=>whnf
   refine Br.mk (fun h5=>?_) (fun h5=>?_)
   ·have h5:a.n ≠ 0:=by simpa using h5
    conv=>whnf
    exact fin (v:=b) (z:=0) (hd _ (by rw [if_neg h4,if_pos h5])) (Mem.le.refl _)
   ·have h5:¬ a.n ≠ 0:=by simpa using h5
    conv=>whnf
    exact fin (v:=c) (z:=0) (hd _ (by rw [if_neg h4,if_neg h5])) (Mem.le.refl _)
 have h3:o.kd ≠ 12:=by simpa using h3
 conv=>whnf
 refine WCall.mk (both_ok2 m (k:=o.kd) (by
  unfold isMath at hk
  simp only [Bool.or_eq_true,beq_iff_eq] at hk
  rcases hk with ((h | h) | h) | h
  ·exact absurd h h1
  ·exact absurd h h2
  ·exact absurd h h3
  ·exact h) a b) ?_
 rintro _ m' ⟨rfl,hle⟩
 conv=>whnf
 exact fin (v:=(bothS o.kd a b).1) (z:=(bothS o.kd a b).2) (by unfold doVal;rw [if_neg h1,if_neg h2,if_neg h3]) hle
end Go.Proofs.YtleofbpepfmfgaaGreatDoor
set_option linter.unusedSimpArgs false
set_option linter.unusedVariables false
set_option maxRecDepth 100000
namespace Go.Proofs.YtleofbpepfmfgaaGreatDoor
open Go Go.Vx
open Go.Vx.IOp Go.Vx.IR Go.Vx.Opd
section
variable {m0 m m':Mem} {V:CV} {C:CodeR} {M:Mac} {sv:Value} {p:Nat} {H:HdF} {s s':St} {sh:List Int}
theorem rows_get (H:HdF) {A:List (List Int)} {k:Nat} (hk:k < A.length):(rowsV H A)[k]? = some (.slice (H (k + 5)).a (A.getD k []).length (H (k + 5)).c):=by
 unfold rowsV
 rw [List.getElem?_map,List.getElem?_range hk];rfl
theorem SimAt.rowCell (h:SimAt m0 m V C M sv p H s) {k:Nat} (hk:k < s.arr.length):∃ ad,(H 3).a = some ad ∧ CellAt m (ad.add k) (.slice (H (k + 5)).a (s.arr.getD k []).length (H (k + 5)).c):=by
 obtain ⟨b,rest,hb,hm,_⟩:=h.fam.room (j:=3) (by unfold famN;omega) (show s.arr.length ≠ 0 by omega)
 exact ⟨_,hb.2,h.fam.cellsAt (j:=3) (by unfold famN;omega) hb.2 k _ (rows_get H hk)⟩
theorem SimAt.elemCell (h:SimAt m0 m V C M sv p H s) {k q:Nat} (hk:k < s.arr.length) (hq:q < (s.arr.getD k []).length):∃ ad,(H (k + 5)).a = some ad ∧ CellAt m (ad.add q) (i ((s.arr.getD k []).getD q 0)):=by
 obtain ⟨b,rest,hb,hm,_⟩:=h.fam.room (j:=k + 5) (by unfold famN;omega) (show (s.arr.getD k []).length ≠ 0 by omega)
 refine ⟨_,hb.2,h.fam.cellsAt (j:=k + 5) (by unfold famN;omega) hb.2 q _ ?_⟩
 show ((s.arr.getD k []).map i)[q]? = _
 rw [List.getElem?_map,List.getElem?_eq_getElem hq,List.getD_eq_getElem?_getD (l:=s.arr.getD k []),List.getElem?_eq_getElem hq];rfl
theorem arr_get {A:List (List Int)} {k j:Nat} {r:List Int} (hk:k < A.length):(A.set k r).getD j [] = if k = j then r else A.getD j []:=by
 rw [List.getD_eq_getElem?_getD,List.getElem?_set,List.getD_eq_getElem?_getD]
 by_cases e:k = j
 ·subst e;simp [hk]
 ·rw [if_neg e,if_neg e]
theorem rows_set (H:HdF) {A:List (List Int)} {k:Nat} {r:List Int} (hk:k < A.length) (hl:r.length = (A.getD k []).length):rowsV H (A.set k r) = rowsV H A:=by
 unfold rowsV
 rw [List.length_set]
 apply List.map_congr_left
 intro j _
 rw [arr_get hk]
 split
 ·rename_i e;subst e;rw [hl]
 ·rfl
theorem SimAt.setElem (h:SimAt m0 m V C M sv p H s) {k q:Nat} (hk:k < s.arr.length) (hq:q < (s.arr.getD k []).length) {z:Int} {ad:Addr} {vs:List Value} {K:Mem → Prop} (ha:(H (k + 5)).a = some ad) (hv:vs = [i z])
  (kk:∀ m',Goes m0 V C M sv p m H s m' H { s with arr:=s.arr.set k ((s.arr.getD k []).set q z) } → K m'):WSt m (ad.add q) vs K:=by
 subst hv
 obtain ⟨b,rest,hb,hm,hl⟩:=h.fam.room (j:=k + 5) (by unfold famN;omega) (show (s.arr.getD k []).length ≠ 0 by omega)
 rw [hb.2] at ha;cases ha
 have hfl:(contS H s (k + 5)).length = (s.arr.getD k []).length:=List.length_map _
 have hnew:(s.arr.set k ((s.arr.getD k []).set q z)).getD k [] = (s.arr.getD k []).set q z:=by rw [arr_get hk,if_pos rfl]
 have hrow:rowsV H (s.arr.set k ((s.arr.getD k []).set q z)) = rowsV H s.arr:=rows_set H hk (by simp)
 refine WSt.at _ _ hm (by rw [List.length_append,hfl];show q + 1 ≤ _;omega) ?_
 have e:spliceL (contS H s (k + 5) ++ rest) q [i z] = contS H { s with arr:=s.arr.set k ((s.arr.getD k []).set q z) } (k + 5) ++ rest:=by
  show spliceL ((s.arr.getD k []).map i ++ rest) q (cellsL (i z)) = ((s.arr.set k ((s.arr.getD k []).set q z)).getD k []).map i ++ rest
  rw [hnew];exact set_r rfl hq
 rw [e]
 refine kk _ (h.put (k:=k + 5) (by unfold famN;omega) hb ?_ ?_ (fun j hj e=>?_) ?_ ?_ hl rfl rfl)
 ·unfold simCells hv
  have:numS { s with arr:=s.arr.set k ((s.arr.getD k []).set q z) } 3 = numS s 3:=List.length_set
  rw [this];rfl
 ·show 5 + (s.arr.set k _).length = _;rw [List.length_set]
 ·match j,e with
  | 0,_=>exact ⟨rfl,rfl⟩
  | 1,_=>exact ⟨rfl,rfl⟩
  | 2,_=>exact ⟨rfl,rfl⟩
  | 3,_=>exact ⟨List.length_set,hrow⟩
  | 4,_=>exact ⟨rfl,rfl⟩
  | j + 5,e =>
   have e2:(s.arr.set k ((s.arr.getD k []).set q z)).getD j [] = s.arr.getD j []:=by rw [arr_get hk,if_neg (by omega)]
   exact ⟨by show (List.getD _ j []).length = _;rw [e2];rfl,by show (List.getD _ j []).map i = _;rw [e2];rfl⟩
 ·show (List.getD _ k []).length = _;rw [hnew,List.length_set];rfl
 ·show ((List.getD _ k []).map i).length = _;rw [hnew,List.length_map,List.length_set];exact hfl.symm
theorem wordV_live (he:s.ended = false):wordV s = s.word:=by unfold wordV;rw [if_neg (by rw [he];decide)]
theorem SimAt.setWord (h:SimAt m0 m V C M sv p H s) (he:s.ended = false) {w:Nat} {z:Int} (hz:z = (w:Int)) {K:Mem → Prop} {vs:List Value} (hvs:vs = [i z])
  (k:∀ m',Goes m0 V C M sv p m H s m' H { s with word:=w } → K m'):WSt m ((⟨p,0,none⟩:Addr).add 0) vs K:=by
 subst hvs;subst hz
 refine h.setInt { s with word:=w } ?_ (show 0 + 1 ≤ 28 by decide) rfl rfl rfl rfl rfl k
 have:wordV { s with word:=w } = (w:Int):=wordV_live (s:={ s with word:=w }) he
 unfold simCells
 rw [this];rfl
theorem trap_ok2 (h:SimAt m0 m V C M sv p H s) (hB:SimBase m0 V C M sv sh) (hS:StOK C s) (he:s.ended = false) (hl:s.way.length ≤ 1000000000) (ct n:Int) :
  CallsM Tryz.prog 102 [ptr p,i ct,i n] m fun e m'=>e = .returned unitV ∧ ∃ H',Goes m0 V C M sv p m H s m' H' (trapS C s ct n):=by
 refine calls_of mixed Tryz.func102 ok_sim_Sim_trap rfl ?_
 conv=>whnf
 refine Br.mk (fun hb=>?_) (fun hb=>?_)
 ·have hb:ct < 0:=of_decide_eq_true hb
  conv=>whnf
  refine WCall.mk (end_ok2 h 2 n) ?_
  rintro _ m1 ⟨rfl,G⟩
  conv=>whnf
  refine WRet.same ⟨rfl,H.upd 4 ⟨none,0⟩,?_⟩
  unfold trapS;rw [if_pos hb];exact G
 ·have hb:¬ ct < 0:=of_decide_eq_false hb
  have hcd:=hB.ok.cd
  have hr:C.cd.toNat < (settleS s).regs.length:=by show _ < (putsS _ _).length;rw [puts_len,hS.regs];omega
  conv=>whnf
  refine WCall.mk (settle_ok2 h (fun w hw=>by rw [hS.regs];exact (hS.way w hw).1) (by omega)) ?_
  rintro _ m1 ⟨rfl,G⟩
  have h1:=G.at'
  obtain ⟨ad,ha,hc⟩:=h1.regCells hr
  conv=>whnf
  refine WLd.mk (hv (H.upd 4 ⟨none,0⟩) (settleS s) 1) (by rw [add_add];exact h1.cell rfl) ?_
  conv=>whnf
  refine WLd.mk (i C.cd) (by rw [add_add];exact h1.cell rfl) ?_
  conv=>whnf
  refine WIdx.mk ad ha ⟨by omega,by show C.cd < ((settleS s).regs.length:Nat);omega⟩ ?_
  conv=>whnf
  refine ⟨?_,trivial⟩
  conv=>whnf
  refine h1.setReg hr ha (v:=⟨n,0⟩) rfl fun m2 G2=>?_
  conv=>whnf
  rw [add_add]
  refine G2.at'.setWord (w:=ct.toNat) he (by omega) rfl fun m3 G3=>?_
  conv=>whnf
  refine WRet.same ⟨rfl,H.upd 4 ⟨none,0⟩,?_⟩
  unfold trapS;rw [if_neg hb]
  exact G.trans (G2.trans G3)
def badOf (s:St):List Int → Int
 | []=>0
 | r :: L=>if (s.reg r).b ≠ 0 then (s.reg r).b else badOf s L
theorem bad_ok (h:SimAt m0 m V C M sv p H s) {a:Option Addr} {c:Nat} {L:List Int} (hL:IAt m (.slice a L.length c) L) (hr:∀ r ∈ L,0 ≤ r ∧ r.toNat < s.regs.length) (hlen:L.length < 1000000) :
  PureM Tryz.prog 155 [ptr p,.slice a L.length c] m (i (badOf s L)):=by
 obtain ⟨a',c',e,q0,q1,hcap⟩:=hL
 injection e with e1 e2 e3
 subst e1;subst e3
 refine calls_of mixed Tryz.func155 ok_sim_Sim_bad rfl ?_
 conv=>whnf
 refine WLoop.mk Nat (fun k=>[(10,.val (i k))]) (fun k m'=>m = m' ∧ k ≤ L.length ∧ badOf s L = badOf s (L.drop k)) (fun k=>L.length - k) 0 ⟨rfl,trivial⟩ ⟨rfl,Nat.zero_le _,rfl⟩ ?_
 rintro k m' ⟨rfl,hk,hbd⟩
 conv=>whnf
 refine Br.mk (fun hb=>?_) (fun hb=>?_)
 ·have hk2:k < L.length:=by
   have:(k:Int) < (L.length:Nat):=of_decide_eq_true hb
   omega
  have hr2:=hr _ (List.getElem_mem hk2)
  obtain ⟨ad,rfl⟩:∃ ad,a = some ad:=by
   cases a with
   | none=>rw [q0 rfl] at hk2;simp at hk2
   | some ad=>exact ⟨ad,rfl⟩
  obtain ⟨ar,har,hc⟩:=h.regCells hr2.2
  rw [List.drop_eq_getElem_cons hk2] at hbd
  conv=>whnf
  refine WIdx.mk ad rfl ⟨by omega,by omega⟩ ?_
  conv=>whnf
  refine WLd.mk (i L[k]) (by simpa using IAt.cell (q1 ad rfl) hk2) ?_
  conv=>whnf
  refine WLd.mk (hv H s 1) (by rw [add_add];exact h.cell rfl) ?_
  conv=>whnf
  refine WIdx.mk ar har ⟨hr2.1,by show L[k] < (s.regs.length:Nat);omega⟩ ?_
  conv=>whnf
  refine WLd.mk (i (s.reg L[k]).b) (hc 1 _ rfl) ?_
  conv=>whnf
  refine Br.mk (fun hb=>?_) (fun hb=>?_)
  ·have hb:(s.reg L[k]).b ≠ 0:=by simpa using hb
   conv=>whnf
   refine WRet.same ⟨?_,rfl⟩
   rw [hbd,badOf,if_pos hb];rfl
  ·have hb:¬ (s.reg L[k]).b ≠ 0:=by simpa using hb
   rw [badOf,if_neg hb] at hbd
   conv=>whnf
   refine WRng.mk (by apply wrap_i64 <;> omega) ?_
   conv=>whnf
   exact ⟨k + 1,⟨rfl,trivial⟩,⟨rfl,hk2,hbd⟩,Nat.sub_lt_sub_left hk2 (Nat.lt_succ_self k)⟩
 ·have hk2:k = L.length:=by
   have:¬ (k:Int) < (L.length:Nat):=of_decide_eq_false hb
   omega
  subst hk2
  conv=>whnf
  refine WRet.same ⟨?_,rfl⟩
  rw [hbd,List.drop_length];rfl
end
end Go.Proofs.YtleofbpepfmfgaaGreatDoor
set_option linter.unusedSimpArgs false
set_option linter.unusedVariables false
set_option maxRecDepth 100000
namespace Go.Proofs.YtleofbpepfmfgaaGreatDoor
open Go Go.Vx
open Go.Vx.IOp Go.Vx.IR Go.Vx.Opd
def memTail:IR:=(match ir_sim_Sim_memory.body with | .seq _ (.seq _ (.seq _ (.seq _ (.seq _ r))))=>r | r=>r)
def memA:IR:=(match ir_sim_Sim_memory.body with | .seq a _=>a | r=>r)
def memB:IR:=(match ir_sim_Sim_memory.body with | .seq _ (.seq b _)=>b | r=>r)
def memC:IR:=(match ir_sim_Sim_memory.body with | .seq _ (.seq _ (.seq b _))=>b | r=>r)
def memD:IR:=(match ir_sim_Sim_memory.body with | .seq _ (.seq _ (.seq _ (.seq b _)))=>b | r=>r)
def memE:IR:=(match ir_sim_Sim_memory.body with | .seq _ (.seq _ (.seq _ (.seq _ (.seq b _))))=>b | r=>r)
theorem mem_body:ir_sim_Sim_memory.body = .seq memA (.seq memB (.seq memC (.seq memD (.seq memE memTail)))):=rfl
section
variable {m0 m m':Mem} {V:CV} {C:CodeR} {M:Mac} {sv:Value} {p:Nat} {H:HdF} {s s':St} {sh:List Int}
def MemPost (m0:Mem) (V:CV) (C:CodeR) (M:Mac) (sv:Value) (p:Nat) (m:Mem) (H:HdF) (s r:St) (v:Value) (e:Ending) (m':Mem):Prop:=e = .returned v ∧ ∃ H',Goes m0 V C M sv p m H s m' H' r
theorem memTail_ok {m1:Mem} (h0:Goes m0 V C M sv p m1 H s m H s) (hB:SimBase m0 V C M sv sh) (hS:StOK C s) {k:Nat} (hl:LimS s k) (hk:k ≤ 1000000000) {o:OpR} (ho:OpOK C o)
  (hkd:o.kd = 16 ∨ o.kd = 17 ∨ o.kd = 25) :
  wpI Tryz.prog memTail (retPost [.t 4] (MemPost m0 V C M sv p m1 H s (memS M sh s o).1 (i (memS M sh s o).2)))
   (envL [(0,.val (ptr p)),(3,.var (cellsL o.val)),(4,.val (i 0)),(5,.val (i (nMem s o))),(6,.val (.slice (H (o.n.toNat + 5)).a (arrAt s o).length (H (o.n.toNat + 5)).c)),(7,.val (i (s.reg o.a).n))]) m:=by
 have h:=h0.at'
 have hds:=ho.ds
 have hb:=ho.b
 have n18:¬ o.kd = 18:=by omega
 have n19:¬ o.kd = 19:=by omega
 have hn:=ho.n.1 (by omega)
 have hal:s.arr.length = C.sz.length:=by have:=congrArg List.length hS.arr;simpa using this
 have hkA:o.n.toNat < s.arr.length:=by omega
 have hz:nMem s o = 0 → 0 ≤ (s.reg o.a).n ∧ (s.reg o.a).n < (arrAt s o).length:=fun e=>by
  unfold nMem at e
  split at e
  ·exact absurd e (by decide)
  ·rename_i hh
   have:badN s o = 0:=e
   simp only [this,true_and,not_or,ge_iff_le] at hh
   omega
 conv=>whnf
 refine WSc.mk (v:=o.kd == 25) (fun _=>And.intro (Mem.le.refl _) rfl) ?_
 conv=>whnf
 refine Br.mk (fun hb1=>?_) (fun hb1=>?_)
 ·have hb1:nMem s o ≠ 0 ∧ o.kd = 25:=by
   have hb1:(nMem s o != 0 && o.kd == 25) = true:=hb1
   simpa using hb1
  have e:memS M sh s o = (giveS M sh s o ⟨0,nMem s o⟩,0):=by unfold memS;rw [if_neg n18,if_neg n19,if_pos hb1]
  conv=>whnf
  refine WCall.mk (give_ok2 h hB hl hk o hds.1 ⟨0,nMem s o⟩) ?_
  rintro _ m2 ⟨rfl,H2,G2⟩
  conv=>whnf
  refine WRet.same ⟨?_,H2,?_⟩
  ·rw [e];rfl
  ·rw [e];exact h0.trans G2
 ·have hb1:¬ (nMem s o ≠ 0 ∧ o.kd = 25):=fun hh=>by
   have hb1:(nMem s o != 0 && o.kd == 25) = false:=hb1
   rw [show (nMem s o != 0 && o.kd == 25) = true by simpa using hh] at hb1;cases hb1
  conv=>whnf
  refine Br.mk (fun hb2=>?_) (fun hb2=>?_)
  ·have hb2:nMem s o ≠ 0:=by simpa using hb2
   have e:memS M sh s o = (s,nMem s o):=by unfold memS;rw [if_neg n18,if_neg n19,if_neg hb1,if_pos hb2]
   conv=>whnf
   refine WRet.same ⟨?_,H,?_⟩
   ·rw [e];rfl
   ·rw [e];exact h0
  ·have hb2:¬ nMem s o ≠ 0:=by simpa using hb2
   have hz:=hz (Decidable.not_not.1 hb2)
   have hzl:(s.reg o.a).n.toNat < (s.arr.getD o.n.toNat []).length:=by have:(s.reg o.a).n < (s.arr.getD o.n.toNat []).length:=hz.2;omega
   obtain ⟨ae,hae,hce⟩:=h.elemCell hkA hzl
   conv=>whnf
   refine Br.mk (fun hb3=>?_) (fun hb3=>?_)
   ·have hb3:o.kd = 17:=by simpa using hb3
    have e:memS M sh s o = ({ s with arr:=s.arr.set o.n.toNat ((arrAt s o).set (s.reg o.a).n.toNat (s.reg o.b).n) },0):=by unfold memS;rw [if_neg n18,if_neg n19,if_neg hb1,if_neg hb2,if_pos hb3]
    have hrb:o.b.toNat < s.regs.length:=by rw [hS.regs];omega
    obtain ⟨ar,har,hcr⟩:=h.regCells hrb
    conv=>whnf
    refine WLd.mk (hv H s 1) (by rw [add_add];exact h.cell rfl) ?_
    conv=>whnf
    refine WIdx.mk ar har ⟨hb.1,by show o.b < (s.regs.length:Nat);omega⟩ ?_
    conv=>whnf
    refine WLd.mk (i (s.reg o.b).n) (hcr 0 _ rfl) ?_
    conv=>whnf
    refine WIdx.mk ae hae hz ?_
    conv=>whnf
    refine ⟨?_,trivial⟩
    conv=>whnf
    rw [Nat.mul_one]
    refine h.setElem hkA hzl hae rfl fun m2 G2=>?_
    conv=>whnf
    refine WRet.same ⟨?_,H,?_⟩
    ·rw [e];rfl
    ·rw [e];exact h0.trans G2
   ·have hb3:¬ o.kd = 17:=by simpa using hb3
    have e:memS M sh s o = (giveS M sh s o ⟨(arrAt s o).getD (s.reg o.a).n.toNat 0,0⟩,0):=by unfold memS;rw [if_neg n18,if_neg n19,if_neg hb1,if_neg hb2,if_neg hb3]
    conv=>whnf
    refine WIdx.mk ae hae hz ?_
    conv=>whnf
    refine ⟨?_,trivial⟩
    conv=>whnf
    refine WLd.mk _ (by rw [Nat.mul_one];exact hce) ?_
    conv=>whnf
    refine ⟨?_,trivial⟩
    conv=>whnf
    refine WCall.mk (give_ok2 h hB hl hk o hds.1 ⟨(arrAt s o).getD (s.reg o.a).n.toNat 0,0⟩) ?_
    rintro _ m2 ⟨rfl,H2,G2⟩
    conv=>whnf
    refine WRet.same ⟨?_,H2,?_⟩
    ·rw [e];rfl
    ·rw [e];exact h0.trans G2
attribute [irreducible] memTail
theorem badN_eq {o:OpR} (hkd:o.kd = 16 ∨ o.kd = 17 ∨ o.kd = 25):badOf s (argsUp o 3) = badN s o ∧ (∀ r ∈ argsUp o 3,r = o.a ∨ r = o.b):=by
 rcases hkd with e | e | e
 all_goals
  have e3:argsUp o 3 = (if o.kd = 17 then [o.a,o.b] else [o.a]):=by unfold argsUp;rw [e];rfl
  rw [e3];unfold badN
  rw [e]
 ·rw [if_neg (by decide),if_neg (show ¬ (16:Int) = 17 by decide)]
  exact ⟨rfl,fun r hr=>.inl (List.mem_singleton.1 hr)⟩
 ·rw [if_pos rfl,if_pos rfl]
  refine ⟨?_,fun r hr=>by simpa using hr⟩
  show (if _ then _ else if _ then _ else _) = _
  by_cases h:(s.reg o.a).b ≠ 0
  ·rw [if_pos h,if_pos h]
  ·rw [if_neg h,if_neg h]
   by_cases h2:(s.reg o.b).b ≠ 0
   ·rw [if_pos h2]
   ·rw [if_neg h2];exact (Decidable.not_not.1 h2).symm
 ·rw [if_neg (by decide),if_neg (show ¬ (25:Int) = 17 by decide)]
  exact ⟨rfl,fun r hr=>.inl (List.mem_singleton.1 hr)⟩
theorem memory_ok (h:SimAt m0 m V C M sv p H s) (hB:SimBase m0 V C M sv sh) (hS:StOK C s) {k:Nat} (hl:LimS s k) (hk:k ≤ 1000000000) {o:OpR} (ho:OpOK C o) (hm:isMem o.kd = true) :
  CallsM Tryz.prog 132 [ptr p,o.val] m (MemPost m0 V C M sv p m H s (memS M sh s o).1 (i (memS M sh s o).2)):=by
 refine calls_of mixed Tryz.func132 ok_sim_Sim_memory rfl ?_
 obtain ⟨T,fr,hm0⟩:=hB.laid
 have hds:=ho.ds
 have ha:=ho.a
 have hb:=ho.b
 have hra:o.a.toNat < s.regs.length:=by rw [hS.regs];omega
 have hrb:o.b.toNat < s.regs.length:=by rw [hS.regs];omega
 obtain ⟨ar,har,hcr⟩:=h.regCells hra
 unfold Fn.asks
 rw [mem_body]
 conv=>whnf
 refine Br.mk (fun h18=>?_) (fun h18=>?_)
 ·have h18:o.kd = 18:=by simpa using h18
  have e:memS M sh s o = (giveS M sh s o (s.kept.getD o.n.toNat VR.zero),0):=by unfold memS;rw [if_pos h18]
  have hn:=ho.n.2.1 (.inl h18)
  have hkn:o.n.toNat < s.kept.length:=by rw [hS.kept];omega
  obtain ⟨ak,hak,hck⟩:=h.keptCells hkn
  conv=>whnf
  refine ⟨?_,trivial⟩
  conv=>whnf
  refine WLd.mk (hv H s 2) (by rw [add_add];exact h.cell rfl) ?_
  conv=>whnf
  refine WIdx.mk ak hak ⟨hn.1,by show o.n < (s.kept.length:Nat);omega⟩ ?_
  conv=>whnf
  refine WLds.mk _ hck rfl ?_
  conv=>whnf
  refine ⟨?_,trivial⟩
  conv=>whnf
  refine WCall.mk (give_ok2 h hB hl hk o hds.1 (s.kept.getD o.n.toNat VR.zero)) ?_
  rintro _ m2 ⟨rfl,H2,G2⟩
  conv=>whnf
  refine WRet.same ⟨?_,H2,?_⟩
  ·rw [e];rfl
  ·rw [e];exact G2
 have n18:¬ o.kd = 18:=by simpa using h18
 conv=>whnf
 refine Br.mk (fun h19=>?_) (fun h19=>?_)
 ·have h19:o.kd = 19:=by simpa using h19
  have e:memS M sh s o = ({ s with kept:=s.kept.set o.n.toNat (s.reg o.a) },0):=by unfold memS;rw [if_neg n18,if_pos h19]
  have hn:=ho.n.2.1 (.inr h19)
  have hkn:o.n.toNat < s.kept.length:=by rw [hS.kept];omega
  obtain ⟨ak,hak,hck⟩:=h.keptCells hkn
  conv=>whnf
  refine WLd.mk (hv H s 2) (by rw [add_add];exact h.cell rfl) ?_
  conv=>whnf
  refine WLd.mk (hv H s 1) (by rw [add_add];exact h.cell rfl) ?_
  conv=>whnf
  refine WIdx.mk ar har ⟨ha.1,by show o.a < (s.regs.length:Nat);omega⟩ ?_
  conv=>whnf
  refine WLds.mk _ hcr rfl ?_
  conv=>whnf
  refine WIdx.mk ak hak ⟨hn.1,by show o.n < (s.kept.length:Nat);omega⟩ ?_
  conv=>whnf
  refine ⟨?_,trivial⟩
  conv=>whnf
  refine h.setKept hkn hak (v:=s.reg o.a) rfl fun m2 G2=>?_
  conv=>whnf
  refine WRet.same ⟨?_,H,?_⟩
  ·rw [e];rfl
  ·rw [e];exact G2
 have n19:¬ o.kd = 19:=by simpa using h19
 have hkd:o.kd = 16 ∨ o.kd = 17 ∨ o.kd = 25:=by
  unfold isMem at hm
  simp only [Bool.or_eq_true,beq_iff_eq] at hm
  omega
 obtain ⟨eb,er⟩:=badN_eq (s:=s) hkd
 have hn:=ho.n.1 (by omega)
 have hal:s.arr.length = C.sz.length:=by have:=congrArg List.length hS.arr;simpa using this
 have hkA:o.n.toNat < s.arr.length:=by omega
 conv=>whnf
 refine WCall.mk (read_ok (h.le _ _ hm0) o (by omega)) ?_
 rintro _ m1 ⟨a,c,rfl,l1,hP⟩
 have h1:=h.mono l1
 have hlen3:=argsUp_len (o:=o) (k:=3)
 conv=>whnf
 refine WCall.pure (bad_ok h1 hP.iat (fun r hr=>by rcases er r hr with e | e <;> rw [e] <;> omega) (by omega)) ?_
 rw [eb]
 obtain ⟨ak,hak,hck⟩:=h1.rowCell hkA
 conv=>whnf
 refine WLd.mk (hv H s 3) (by rw [add_add];exact h1.cell rfl) ?_
 conv=>whnf
 refine WIdx.mk ak hak ⟨hn.1,by show o.n < (s.arr.length:Nat);omega⟩ ?_
 conv=>whnf
 refine WLd.mk _ (by rw [Nat.mul_one];exact hck) ?_
 conv=>whnf
 refine WLd.mk (hv H s 1) (by rw [add_add];exact h1.cell rfl) ?_
 conv=>whnf
 refine WIdx.mk ar har ⟨ha.1,by show o.a < (s.regs.length:Nat);omega⟩ ?_
 conv=>whnf
 refine WLd.mk (i (s.reg o.a).n) ((hcr.mono l1) 0 _ rfl) ?_
 conv=>whnf
 refine WSc.mk (v:=decide ((s.reg o.a).n < 0) || decide ((s.reg o.a).n ≥ (arrAt s o).length)) (fun _=>?_) ?_
 ·conv=>whnf
  refine WSc.mk (v:=decide ((s.reg o.a).n ≥ (arrAt s o).length)) (fun _=>And.intro (Mem.le.refl _) rfl) ?_
  conv=>whnf
  exact And.intro (Mem.le.refl _) rfl
 conv=>whnf
 have tail:=memTail_ok (h.goesMono l1) hB hS hl hk ho hkd
 refine Br.mk (fun hq=>?_) (fun hq=>?_)
 ·have hq:badN s o = 0 ∧ ((s.reg o.a).n < 0 ∨ (s.reg o.a).n ≥ (arrAt s o).length):=by
   have hq:(badN s o == 0 && (decide ((s.reg o.a).n < 0) || decide ((s.reg o.a).n ≥ (arrAt s o).length))) = true:=hq
   simpa only [Bool.and_eq_true,beq_iff_eq,Bool.or_eq_true,decide_eq_true_eq] using hq
  have e:nMem s o = -1:=by unfold nMem;rw [if_pos hq]
  rw [e] at tail
  conv=>whnf
  exact rest_envL tail ⟨rfl,rfl,rfl,rfl,rfl,rfl,trivial⟩
 ·have hq:¬ (badN s o = 0 ∧ ((s.reg o.a).n < 0 ∨ (s.reg o.a).n ≥ (arrAt s o).length)):=fun hh=>by
   have hq:(badN s o == 0 && (decide ((s.reg o.a).n < 0) || decide ((s.reg o.a).n ≥ (arrAt s o).length))) = false:=hq
   rw [show (badN s o == 0 && (decide ((s.reg o.a).n < 0) || decide ((s.reg o.a).n ≥ (arrAt s o).length))) = true by simpa only [Bool.and_eq_true,beq_iff_eq,Bool.or_eq_true,decide_eq_true_eq] using hh] at hq
   cases hq
  have e:nMem s o = badN s o:=by unfold nMem;rw [if_neg hq]
  rw [e] at tail
  conv=>whnf
  exact rest_envL tail ⟨rfl,rfl,rfl,rfl,rfl,rfl,trivial⟩
end
end Go.Proofs.YtleofbpepfmfgaaGreatDoor
