import Derived.Test.YtleofbpepfmfgaaGreatDoorVxSimW
set_option linter.unusedSimpArgs false
set_option linter.unusedVariables false
set_option maxRecDepth 100000
namespace Go.Proofs.YtleofbpepfmfgaaGreatDoor
open Go Go.Vx
open Go.Vx.IOp Go.Vx.IR Go.Vx.Opd
theorem mem_putS {acc:List Int} {r x:Int}:x ∈ putS acc r ↔ x ∈ acc ∨ x = r:=by
 unfold putS
 split
 ·rename_i h
  obtain ⟨y,hy,e⟩:=List.any_eq_true.1 h
  have e:r = y:=by simpa using e
  subst e
  exact ⟨.inl,fun h=>by rcases h with h | h
                        ·exact h
                        ·rw [h];exact hy⟩
 ·simp
theorem mem_foldPut:∀ {L acc:List Int} {x:Int},x ∈ L.foldl putS acc ↔ x ∈ acc ∨ x ∈ L
 | [],acc,x=>by simp
 | r :: L,acc,x=>by rw [List.foldl_cons,mem_foldPut,mem_putS,List.mem_cons];exact or_assoc
theorem mem_once {L:List Int} {x:Int}:x ∈ onceS L ↔ x ∈ L:=by unfold onceS;rw [mem_foldPut];simp
theorem raw_mem {o:OpR} (hk:1 ≤ o.kd ∧ o.kd ≤ 28):(uA o.kd = true → o.a ∈ readsS o) ∧ (uB o.kd = true → o.b ∈ readsS o) ∧ (uC o.kd = true → o.c ∈ readsS o) ∧ (o.gd ≠ -1 → o.gd ∈ readsS o):=by
 unfold readsS
 simp only [mem_once]
 have hg:o.gd ≠ -1 → o.gd ∈ guardL o:=fun h=>by unfold guardL;rw [if_neg h];exact List.mem_singleton.2 rfl
 by_cases h25:o.kd ≤ 25
 ·have hr:rawS o = guardL o ++ argsR o:=by unfold rawS;rw [if_neg (by omega),if_neg (by omega),if_pos ⟨hk.1,h25⟩,argsUp_R ⟨hk.1,h25⟩]
  have ha:useA o.kd = uA o.kd:=by rcases kinds hk.1 h25 with e|e|e|e|e|e|e|e|e|e|e|e|e|e|e|e|e|e|e|e|e|e|e|e|e <;> rw [e] <;> rfl
  have hb:useB o.kd = uB o.kd:=by rcases kinds hk.1 h25 with e|e|e|e|e|e|e|e|e|e|e|e|e|e|e|e|e|e|e|e|e|e|e|e|e <;> rw [e] <;> rfl
  have hc:useC o.kd = uC o.kd:=by rcases kinds hk.1 h25 with e|e|e|e|e|e|e|e|e|e|e|e|e|e|e|e|e|e|e|e|e|e|e|e|e <;> rw [e] <;> rfl
  rw [hr]
  unfold argsR
  rw [ha,hb,hc]
  simp only [List.mem_append]
  exact ⟨fun h=>by rw [if_pos h];right;left;left;exact List.mem_singleton.2 rfl,fun h=>by rw [if_pos h];right;left;right;exact List.mem_singleton.2 rfl,fun h=>by rw [if_pos h];right;right;exact List.mem_singleton.2 rfl,fun h=>.inl (hg h)⟩
 ·have h3:o.kd = 26 ∨ o.kd = 27 ∨ o.kd = 28:=by omega
  have hb:uB o.kd = false:=by rcases h3 with e | e | e <;> rw [e] <;> rfl
  have hc:uC o.kd = false:=by rcases h3 with e | e | e <;> rw [e] <;> rfl
  rw [hb,hc]
  by_cases h26:o.kd = 26
  ·have hr:rawS o = guardL o:=by unfold rawS;rw [if_pos h26]
   rw [hr,h26]
   exact ⟨(fun h=>by cases h),(fun h=>by cases h),(fun h=>by cases h),hg⟩
  ·have hr:rawS o = guardL o ++ [o.a]:=by unfold rawS;rw [if_neg h26,if_pos (by omega)]
   rw [hr]
   exact ⟨fun _=>List.mem_append.2 (.inr (List.mem_singleton.2 rfl)),(fun h=>by cases h),(fun h=>by cases h),fun h=>List.mem_append.2 (.inl (hg h))⟩
theorem puts_get:∀ {W:List WayR} {R:List VR} {r:Nat},(∀ x ∈ W,x.rg ≠ r) → (putsS R W).getD r VR.zero = R.getD r VR.zero
 | [],R,r,_=>rfl
 | x :: W,R,r,h=>by
  show (putsS (R.set x.rg x.v) W).getD r VR.zero = _
  rw [puts_get fun y hy=>h y (List.mem_cons_of_mem _ hy),List.getD_eq_getElem?_getD,List.getElem?_set_ne (h x (by simp)),List.getD_eq_getElem?_getD]
theorem puts_comm:∀ {E:List WayR} {R:List VR} {d:Nat} {v:VR},(∀ y ∈ E,y.rg ≠ d) → (putsS R E).set d v = putsS (R.set d v) E
 | [],R,d,v,_=>rfl
 | y :: E,R,d,v,h=>by
  show (putsS (R.set y.rg y.v) E).set d v = putsS ((R.set d v).set y.rg y.v) E
  rw [puts_comm fun z hz=>h z (List.mem_cons_of_mem _ hz),List.set_comm _ _ (h y (by simp))]
theorem puts_app (R:List VR) (A B:List WayR):putsS R (A ++ B) = putsS (putsS R A) B:=List.foldl_append
abbrev SoW (W:List WayR):Prop:=W.Pairwise fun a b=>a.rg = b.rg → a.t ≤ b.t
theorem puts_split (k:Nat):∀ {W:List WayR} {R:List VR},SoW W → putsS (putsS R (W.filter fun w=>decide (w.t ≤ k))) (W.filter fun w=>!decide (w.t ≤ k)) = putsS R W
 | [],R,_=>rfl
 | x :: W,R,h=>by
  have h:=List.pairwise_cons.1 h
  by_cases hx:x.t ≤ k
  ·rw [List.filter_cons_of_pos (by simpa using hx),List.filter_cons_of_neg (by simpa using hx)]
   exact puts_split k (R:=R.set x.rg x.v) h.2
  ·rw [List.filter_cons_of_neg (by simpa using hx),List.filter_cons_of_pos (by simpa using hx)]
   show putsS ((putsS R (W.filter fun w=>decide (w.t ≤ k))).set x.rg x.v) (W.filter fun w=>!decide (w.t ≤ k)) = putsS (R.set x.rg x.v) W
   rw [puts_comm fun y hy e=>?_]
   ·exact puts_split k (R:=R.set x.rg x.v) h.2
   ·rw [List.mem_filter] at hy
    have h1:=h.1 y hy.1 e.symm
    have h2:y.t ≤ k:=by simpa using hy.2
    omega
structure Same (s t:St):Prop where
 word:s.word = t.word
 took:s.took = t.took
 ended:s.ended = t.ended
 kind:s.kind = t.kind
 value:s.value = t.value
 prints:s.prints = t.prints
 kept:s.kept = t.kept
 arr:s.arr = t.arr
structure Mid (w now:List Nat) (z0 z:List VR) (s:St):Prop where
 zz:putsS s.regs s.way = z
 it:∀ x ∈ s.way,s.took < x.t ∧ x.t ≤ s.took + now.getD x.rg 0
 so:SoW s.way
 rd:∀ r,w.getD r 0 = 0 → s.regs.getD r VR.zero = z0.getD r VR.zero
theorem Mid.up {w now now':List Nat} {z0 z:List VR} {s s':St} (h:Mid w now z0 z s) (hn:leW now now') (e1:s'.regs = s.regs) (e2:s'.way = s.way) (e3:s'.took = s.took):Mid w now' z0 z s' :=
 ⟨by rw [e1,e2];exact h.zz,fun x hx=>by rw [e2] at hx;rw [e3];have g1:=h.it x hx;have g2:=hn x.rg;omega,by rw [e2];exact h.so,fun r hr=>by rw [e1];exact h.rd r hr⟩
def LatOK (M0 M:Mac) (sh:List Int):Prop:=∀ n kd,1 ≤ latS M sh n kd ∧ latS M sh n kd ≤ M0.lat (classS kd).1.toNat
theorem Mid.give {M0 M:Mac} {sh:List Int} {w now:List Nat} {z0 z:List VR} {s:St} {o:OpR} {v:VR} (h:Mid w now z0 z s) (hl:LatOK M0 M sh) (hd:wrS o = some o.ds.toNat) (h1:now.getD o.ds.toNat 0 ≤ 1) (hlt:o.ds.toNat < now.length) :
  Mid w (stepW M0 now o) z0 (z.set o.ds.toNat v) (giveS M sh s o v):=by
 obtain ⟨l1,l2⟩:=hl s.begun o.kd
 have hdl:(latS M sh s.begun o.kd).toNat ≤ dlS M0 o:=by unfold dlS;omega
 refine ⟨?_,fun x hx=>?_,?_,h.rd⟩
 ·show putsS s.regs (s.way ++ [_]) = _
  rw [puts_app,h.zz];rfl
 ·show s.took < x.t ∧ x.t ≤ s.took + _
  have hx:x ∈ s.way ++ [_]:=hx
  rcases List.mem_append.1 hx with hx | hx
  ·have g1:=h.it x hx
   have g2:=step_up M0 now o x.rg
   omega
  ·rw [List.mem_singleton] at hx;subst hx
   have:(stepW M0 now o).getD o.ds.toNat 0 = max (now.getD o.ds.toNat 0) (dlS M0 o):=by
    unfold stepW;rw [hd];simp only;rw [getD_setN,if_pos ⟨rfl,hlt⟩]
   show s.took < s.took + _ ∧ s.took + _ ≤ s.took + (stepW M0 now o).getD o.ds.toNat 0
   rw [this];omega
 ·show SoW (s.way ++ [_])
  rw [SoW,List.pairwise_append]
  refine ⟨h.so,List.pairwise_singleton _ _,fun a ha b hb e=>?_⟩
  rw [List.mem_singleton] at hb;subst hb
  have g1:=h.it a ha
  have e:a.rg = o.ds.toNat:=e
  rw [e] at g1
  show a.t ≤ s.took + _
  omega
theorem doVal_congr {o:OpR} {a b c a' b' c':VR} (ha:uA o.kd = true → a = a') (hb:uB o.kd = true → b = b') (hc:uC o.kd = true → c = c') (hk:isMem o.kd = false) (hk2:isOut o.kd = false) (hk3:1 ≤ o.kd ∧ o.kd ≤ 28):doVal o a b c = doVal o a' b' c':=by
 unfold doVal
 by_cases h1:o.kd = 1
 ·rw [if_pos h1,if_pos h1]
 ·rw [if_neg h1,if_neg h1]
  by_cases h2:o.kd = 2
  ·rw [if_pos h2,if_pos h2,ha (by rw [h2];rfl)]
  ·rw [if_neg h2,if_neg h2]
   by_cases h3:o.kd = 12
   ·rw [if_pos h3,if_pos h3,ha (by rw [h3];rfl),hb (by rw [h3];rfl),hc (by rw [h3];rfl)]
   ·rw [if_neg h3,if_neg h3]
    have hA:uA o.kd = true:=by
     unfold uA isMem at *
     simp only [Bool.or_eq_false_iff,beq_eq_false_iff_ne,Bool.not_eq_true',ne_eq] at *
     unfold isOut at hk2
     simp only [Bool.or_eq_false_iff,beq_eq_false_iff_ne,ne_eq] at hk2
     omega
    have hB:uB o.kd = true:=by
     unfold uB isMem isOut at *
     simp only [Bool.or_eq_false_iff,beq_eq_false_iff_ne,ne_eq,Bool.or_eq_true,Bool.and_eq_true,decide_eq_true_eq,beq_iff_eq] at *
     omega
    rw [ha hA,hb hB]
theorem regs_same {w now:List Nat} {z0 z:List VR} {s t:St} (h:Mid w now z0 z s) (k:Mid w now z0 z t) {r:Int} (hr:w.getD r.toNat 0 = 0):s.reg r = t.reg r:=by
 unfold St.reg;rw [h.rd _ hr,k.rd _ hr]
structure DoSame (M0:Mac) (w now:List Nat) (z0:List VR) (d e:DoR):Prop where
 n:d.n = e.n
 trap:d.trap = e.trap
 left:d.left = e.left
 same:Same d.s e.s
 mid:d.s.ended = false → ∃ z,Mid w now z0 z d.s ∧ Mid w now z0 z e.s
theorem do_same {C:CodeR} {M0 M1 M2:Mac} {sh1 sh2:List Int} (l1:LatOK M0 M1 sh1) (l2:LatOK M0 M2 sh2) {w now:List Nat} {z0 z:List VR} {s t:St} (h:Mid w now z0 z s) (k:Mid w now z0 z t) (hs:Same s t) {o:OpR} (ho:OpOK C o)
  (hrd:∀ r ∈ readsS o,w.getD r.toNat 0 = 0) (hwr:∀ d,wrS o = some d → now.getD d 0 ≤ 1) (hlen:now.length = C.rg.toNat) :
  DoSame M0 w (stepW M0 now o) z0 (doS M1 sh1 s o) (doS M2 sh2 t o):=by
 obtain ⟨rA,rB,rC,rG⟩:=raw_mem ho.kd
 have eq:∀ {r:Int},r ∈ readsS o → s.reg r = t.reg r:=fun hr=>regs_same h k (hrd _ hr)
 have up:=step_up M0 now o
 have hds:o.ds.toNat < now.length:=by have:=ho.ds;omega
 have stay:∀ (s' t':St),Same s' t' → s'.regs = s.regs → s'.way = s.way → s'.took = s.took → t'.regs = t.regs → t'.way = t.way → t'.took = t.took → ∀ {n:Int} {tr lf:Bool},DoSame M0 w (stepW M0 now o) z0 ⟨s',n,tr,lf⟩ ⟨t',n,tr,lf⟩ :=
  fun s' t' hs' a1 a2 a3 b1 b2 b3 {n tr lf}=>⟨rfl,rfl,rfl,hs',fun _=>⟨z,h.up up a1 a2 a3,k.up up b1 b2 b3⟩⟩
 have same:∀ {n:Int} {tr lf:Bool},DoSame M0 w (stepW M0 now o) z0 ⟨s,n,tr,lf⟩ ⟨t,n,tr,lf⟩:=fun {n tr lf}=>stay s t hs rfl rfl rfl rfl rfl rfl
 have give:∀ (v:VR),uD o.kd = true → ∀ {n:Int} {tr lf:Bool},DoSame M0 w (stepW M0 now o) z0 ⟨giveS M1 sh1 s o v,n,tr,lf⟩ ⟨giveS M2 sh2 t o v,n,tr,lf⟩:=fun v hD {n tr lf}=>by
  have hw:wrS o = some o.ds.toNat:=by unfold wrS;rw [if_pos hD]
  exact ⟨rfl,rfl,rfl,⟨hs.word,hs.took,hs.ended,hs.kind,hs.value,hs.prints,hs.kept,hs.arr⟩,fun _=>⟨_,h.give l1 hw (hwr _ hw) hds,k.give l2 hw (hwr _ hw) hds⟩⟩
 unfold doS
 by_cases g1:o.gd ≠ -1 ∧ (s.reg o.gd).b ≠ 0
 ·have e:=eq (rG g1.1)
  rw [if_pos g1,if_pos (by rw [← e];exact g1),e]
  exact same
 ·have g1':¬ (o.gd ≠ -1 ∧ (t.reg o.gd).b ≠ 0):=fun hh=>g1 ⟨hh.1,by rw [eq (rG hh.1)];exact hh.2⟩
  rw [if_neg g1,if_neg g1']
  by_cases g2:o.gd ≠ -1 ∧ (s.reg o.gd).n = 0
  ·have e:=eq (rG g2.1)
   rw [if_pos g2,if_pos (by rw [← e];exact g2)]
   exact same
  ·have g2':¬ (o.gd ≠ -1 ∧ (t.reg o.gd).n = 0):=fun hh=>g2 ⟨hh.1,by rw [eq (rG hh.1)];exact hh.2⟩
   rw [if_neg g2,if_neg g2']
   unfold bodyS
   by_cases hm:isMem o.kd = true
   ·rw [if_pos hm,if_pos hm]
    unfold memS
    by_cases h18:o.kd = 18
    ·rw [if_pos h18,if_pos h18,hs.kept]
     exact give _ (by rw [h18];rfl)
    ·rw [if_neg h18,if_neg h18]
     by_cases h19:o.kd = 19
     ·rw [if_pos h19,if_pos h19,eq (rA (by rw [h19];rfl))]
      exact stay { s with kept:=s.kept.set o.n.toNat (t.reg o.a) } { t with kept:=t.kept.set o.n.toNat (t.reg o.a) } ⟨hs.word,hs.took,hs.ended,hs.kind,hs.value,hs.prints,by show List.set _ _ _ = List.set _ _ _;rw [hs.kept],hs.arr⟩ rfl rfl rfl rfl rfl rfl
     ·rw [if_neg h19,if_neg h19]
      have hk:o.kd = 16 ∨ o.kd = 25 ∨ o.kd = 17:=by
       unfold isMem at hm
       simp only [Bool.or_eq_true,beq_iff_eq] at hm
       omega
      have eA:s.reg o.a = t.reg o.a:=eq (rA (by rcases hk with e | e | e <;> rw [e] <;> rfl))
      have eB:(if o.kd = 17 then (s.reg o.b).b else 0) = (if o.kd = 17 then (t.reg o.b).b else 0):=by
       by_cases h17:o.kd = 17
       ·rw [if_pos h17,if_pos h17,eq (rB (by rw [h17];rfl))]
       ·rw [if_neg h17,if_neg h17]
      have eN:nMem s o = nMem t o:=by unfold nMem badN arrAt;rw [eA,eB,hs.arr]
      have eR:arrAt s o = arrAt t o:=by unfold arrAt;rw [hs.arr]
      rw [eA,eN,eR,hs.arr]
      generalize nMem t o = nn
      by_cases c1:nn ≠ 0 ∧ o.kd = 25
      ·rw [if_pos c1,if_pos c1]
       exact give _ (by rw [c1.2];rfl)
      ·rw [if_neg c1,if_neg c1]
       by_cases c2:nn ≠ 0
       ·rw [if_pos c2,if_pos c2]
        exact same
       ·rw [if_neg c2,if_neg c2]
        by_cases h17:o.kd = 17
        ·rw [if_pos h17,if_pos h17,eq (rB (by rw [h17];rfl))]
         exact stay { s with arr:=t.arr.set o.n.toNat ((arrAt t o).set (t.reg o.a).n.toNat (t.reg o.b).n) } { t with arr:=t.arr.set o.n.toNat ((arrAt t o).set (t.reg o.a).n.toNat (t.reg o.b).n) } ⟨hs.word,hs.took,hs.ended,hs.kind,hs.value,hs.prints,hs.kept,rfl⟩ rfl rfl rfl rfl rfl rfl
        ·rw [if_neg h17,if_neg h17]
         exact give _ (by rcases hk with e | e | e
                          ·rw [e];rfl
                          ·rw [e];rfl
                          ·exact absurd e h17)
   ·rw [if_neg hm,if_neg hm]
    by_cases hO:isOut o.kd = true
    ·rw [if_pos hO,if_pos hO]
     unfold outS
     by_cases h26:o.kd = 26
     ·rw [if_pos h26,if_pos h26]
      exact stay { s with word:=o.n.toNat } { t with word:=o.n.toNat } ⟨rfl,hs.took,hs.ended,hs.kind,hs.value,hs.prints,hs.kept,hs.arr⟩ rfl rfl rfl rfl rfl rfl
     ·have hk:o.kd = 20 ∨ o.kd = 21 ∨ o.kd = 22 ∨ o.kd = 27 ∨ o.kd = 28:=by
       unfold isOut at hO
       simp only [Bool.or_eq_true,beq_iff_eq] at hO
       omega
      have eA:s.reg o.a = t.reg o.a:=eq (rA (by rcases hk with e | e | e | e | e <;> rw [e] <;> rfl))
      rw [if_neg h26,if_neg h26,eA]
      by_cases c1:(t.reg o.a).b ≠ 0
      ·rw [if_pos c1,if_pos c1];exact same
      ·rw [if_neg c1,if_neg c1]
       by_cases c2:o.kd = 20
       ·rw [if_pos c2,if_pos c2]
        exact stay { s with prints:=s.prints ++ [(t.reg o.a).n] } { t with prints:=t.prints ++ [(t.reg o.a).n] } ⟨hs.word,hs.took,hs.ended,hs.kind,hs.value,by show _ ++ _ = _ ++ _;rw [hs.prints],hs.kept,hs.arr⟩ rfl rfl rfl rfl rfl rfl
       ·rw [if_neg c2,if_neg c2]
        by_cases c3:o.kd = 21
        ·rw [if_pos c3,if_pos c3]
         by_cases c4:(t.reg o.a).n ≠ 0
         ·rw [if_pos c4,if_pos c4]
          exact stay { s with word:=o.n.toNat } { t with word:=o.n.toNat } ⟨rfl,hs.took,hs.ended,hs.kind,hs.value,hs.prints,hs.kept,hs.arr⟩ rfl rfl rfl rfl rfl rfl
         ·rw [if_neg c4,if_neg c4];exact same
        ·rw [if_neg c3,if_neg c3]
         by_cases c5:o.kd = 27
         ·rw [if_pos c5,if_pos c5]
          exact ⟨rfl,rfl,rfl,⟨rfl,hs.took,rfl,rfl,rfl,hs.prints,hs.kept,hs.arr⟩,fun hh=>by cases hh⟩
         ·rw [if_neg c5,if_neg c5]
          by_cases c6:o.kd = 28
          ·rw [if_pos c6,if_pos c6];exact same
          ·rw [if_neg c6,if_neg c6];exact same
    ·rw [if_neg hO,if_neg hO]
     have hm2:isMem o.kd = false:=by simpa using hm
     have hO2:isOut o.kd = false:=by simpa using hO
     have hv:doVal o (s.reg o.a) (s.reg o.b) (s.reg o.c) = doVal o (t.reg o.a) (t.reg o.b) (t.reg o.c):=doVal_congr (fun u=>eq (rA u)) (fun u=>eq (rB u)) (fun u=>eq (rC u)) hm2 hO2 ho.kd
     rw [hv]
     have hD:uD o.kd = true:=by
      unfold uD isMem isOut at *
      simp only [Bool.or_eq_false_iff,beq_eq_false_iff_ne,ne_eq,Bool.not_eq_true'] at *
      omega
     split
     ·exact same
     ·exact give _ hD
end Go.Proofs.YtleofbpepfmfgaaGreatDoor
set_option linter.unusedSimpArgs false
set_option linter.unusedVariables false
set_option maxRecDepth 100000
namespace Go.Proofs.YtleofbpepfmfgaaGreatDoor
open Go Go.Vx
open Go.Vx.IOp Go.Vx.IR Go.Vx.Opd
theorem arg_in {C:CodeR} {o:OpR} (h:OpOK C o) (k:Nat):0 ≤ o.arg k ∧ o.arg k < C.rg:=by
 rcases k with _ | _ | k
 ·exact h.a
 ·exact h.b
 ·exact h.c
theorem reads_in {C:CodeR} {o:OpR} (h:OpOK C o):∀ r ∈ readsS o,0 ≤ r ∧ r < C.rg:=by
 intro r hr
 unfold readsS at hr
 rw [mem_once] at hr
 have hg:r ∈ guardL o → 0 ≤ r ∧ r < C.rg:=fun hh=>by
  unfold guardL at hh
  split at hh
  ·cases hh
  ·rename_i hne
   rw [List.mem_singleton] at hh
   rcases h.gd with e | e
   ·exact absurd e hne
   ·rw [hh];exact e
 unfold rawS at hr
 split at hr
 ·exact hg hr
 ·split at hr
  ·rcases List.mem_append.1 hr with hh | hh
   ·exact hg hh
   ·rw [List.mem_singleton] at hh;rw [hh];exact h.a
  ·split at hr
   ·rcases List.mem_append.1 hr with hh | hh
    ·exact hg hh
    ·obtain ⟨k,_,rfl⟩:=List.mem_map.1 hh
     exact arg_in h k
   ·cases hr
theorem good_op {C:CodeR} {M:Mac} {o:OpR} (h:OpOK C o) (hrg:C.rg ≤ M.rg):badOp M o = false:=by
 unfold badOp
 have hcl:(classS o.kd).2 = true:=by
  have:=h.kd
  unfold classS
  split
  ·rfl
  ·split
   ·rfl
   ·split
    ·rfl
    ·split
     ·rfl
     ·omega
 rw [hcl,Bool.not_true,Bool.false_or,List.any_eq_false]
 intro r hr
 have:=reads_in h r hr
 unfold badRead inR
 rw [decide_eq_true (show r ≥ 0 by omega),decide_eq_true (show r ≤ M.rg - 1 by omega)]
 decide
attribute [local irreducible] spliceL in
theorem wFits_ok {m:Mem} {T:Nat} {fr:Nat × Nat} (hm:m 0 = some (.cells ⟨cells0⟩ T fr)) (V:CV) {C:CodeR} (hV:CodeAt m V C) (M:Mac) :
  CallsM Tryz.prog 50 [V.val C,M.val] m fun e m'=>e = .returned (i (fitsCode C M)) ∧ Mem.le m m':=by
 refine calls_of mixed Tryz.func50 ok_words_Fits rfl ?_
 conv=>whnf
 refine WCall.mk (wCheck_ok hm V hV) ?_
 rintro _ m1 ⟨rfl,l1⟩
 conv=>whnf
 refine Br.mk (fun h0=>?_) (fun h0=>?_)
 ·have h0:checkCode C ≠ 0:=by simpa using h0
  conv=>whnf
  exact WRet.same ⟨by unfold fitsCode;rw [if_pos h0];rfl,l1⟩
 have h0:checkCode C = 0:=by simpa using h0
 have hC:=checkCode_ok h0
 conv=>whnf
 refine WCall.pure (check_ok m1 M) ?_
 cases hM:M.ok with
 | false =>
  rw [if_neg (by decide)]
  conv=>whnf
  refine Br.mk (fun _=>?_) (fun h=>absurd h (by decide))
  conv=>whnf
  exact WRet.same ⟨by unfold fitsCode;rw [if_neg (by rw [h0];decide),if_pos hM];rfl,l1⟩
 | true =>
 rw [if_pos rfl]
 conv=>whnf
 refine Br.mk (fun h=>absurd h (by decide)) (fun _=>?_)
 conv=>whnf
 refine Br.mk (fun hr=>?_) (fun hr=>?_)
 ·have hr:C.rg > M.rg:=of_decide_eq_true hr
  conv=>whnf
  exact WRet.same ⟨by unfold fitsCode;rw [if_neg (by rw [h0];decide),if_neg (by rw [hM];decide),if_pos hr];rfl,l1⟩
 have hr:¬ C.rg > M.rg:=of_decide_eq_false hr
 have hcode:fitsCode C M = if C.ws.any (fun w=>!fitsS (usesAll M w.ops)) = true then 7 else 0:=by unfold fitsCode;rw [if_neg (by rw [h0];decide),if_neg (by rw [hM];decide),if_neg hr]
 obtain ⟨_,hbk,_⟩:=ok_range hM
 have hn2:=hV.n2
 obtain ⟨a2,c2,e2,hw0,hw1,hw2⟩:=hV.ws
 have ea:V.a2 = a2:=by injection e2
 have ec:V.c2 = c2:=by injection e2
 subst ea;subst ec
 have hl:=hV.wsl
 conv=>whnf
 refine WLoop.mk Nat (fun k=>[(30,.val (i k))]) (fun k m'=>Mem.le m m' ∧ k ≤ C.ws.length ∧ ∀ j (hj:j < C.ws.length),j < k → fitsS (usesAll M (C.ws[j]).ops) = true) (fun k=>C.ws.length - k) 0
  ⟨rfl,trivial⟩ ⟨l1,Nat.zero_le _,fun j hj h=>by omega⟩ ?_
 rintro k m2 ⟨l2,hk,hq⟩
 rw [hn2]
 conv=>whnf
 refine Br.mk (fun hb2=>?_) (fun hb2=>?_)
 ·have hk2:k < C.ws.length:=by
   have:(k:Int) < C.ws.length:=of_decide_eq_true hb2
   omega
  obtain ⟨ad,had⟩:∃ ad,V.a2 = some ad:=by
   cases hh:V.a2 with
   | none=>rw [hw0 hh] at hk2;simp at hk2
   | some ad=>exact ⟨ad,rfl⟩
  obtain ⟨a3,n3,c3,g1,g2⟩:=hw1 ad had k hk2
  have hn3:n3 = (C.ws[k]).ops.length:=by obtain ⟨_,_,e,_⟩:=g2;injection e
  have hol:=hC.ol _ (List.getElem_mem hk2)
  have hop:=hC.op _ (List.getElem_mem hk2)
  conv=>whnf
  refine WIdx.mk ad had ⟨by omega,by simpa using hk2⟩ ?_
  conv=>whnf
  refine WLds.mk [.slice a3 n3 c3,i (C.ws[k]).ct] (by simpa using g1.mono l2) rfl ?_
  generalize hwk:C.ws[k] = w at *
  subst hn3
  conv=>whnf
  rw [spliceL_all (l:=[ns,i 0]) (vs:=cellsL (.agg ⟨[.slice a3 w.ops.length c3,i w.ct]⟩)) rfl]
  conv=>whnf
  refine WCall.pure (newUse_ok m2 M) ?_
  conv=>whnf
  refine WLoop.mk Nat (fun j=>[(39,.val (i j)),(9,.var (usesAll M (w.ops.take j)).cells)]) (fun j m'=>Mem.le m m' ∧ j ≤ w.ops.length) (fun j=>w.ops.length - j) 0
   ⟨rfl,congrArg (fun l=>some (AV.var l)) (spAll (newU M)),trivial⟩ ⟨l2,Nat.zero_le _⟩ ?_
  rintro j m3 ⟨l3,hj⟩
  have hXM:(usesAll M (w.ops.take j)).M = M:=by unfold usesAll;rw [fold_M];rfl
  have hXs:(usesAll M (w.ops.take j)).small 2000:=by
   unfold usesAll
   refine small_mono (fold_small _ (newU_small M)) ?_
   rw [List.length_take];omega
  conv=>whnf
  refine Br.mk (fun hb5=>?_) (fun hb5=>?_)
  ·have hj2:j < w.ops.length:=by
    have:(j:Int) < w.ops.length:=of_decide_eq_true hb5
    omega
   obtain ⟨a3',c3',e3,hx0,hx1,_⟩:=g2
   have e3a:a3 = a3':=by injection e3
   subst e3a
   obtain ⟨ad3,rfl⟩:∃ ad,a3 = some ad:=by
    cases a3 with
    | none=>rw [hx0 rfl] at hj2;simp at hj2
    | some ad=>exact ⟨ad,rfl⟩
   have hcells:=(OAt.cells (hx1 ad3 rfl) hj2).mono l3
   have hsucc:usesAll M (w.ops.take (j + 1)) = withS (usesAll M (w.ops.take j)) w.ops[j]:=by unfold usesAll;exact fold_succ hj2
   have hpos:∀ r ∈ readsS w.ops[j],0 ≤ r:=fun r hr=>(reads_in (hop _ (List.getElem_mem hj2)) r hr).1
   conv=>whnf
   refine WIdx.mk ad3 rfl ⟨by omega,by simpa using hj2⟩ ?_
   conv=>whnf
   refine WLds.mk (w.ops[j]).cells (by simpa using hcells) rfl ?_
   generalize w.ops[j] = o at *
   conv=>whnf
   rw [sp7 o]
   conv=>whnf
   refine WCall.mk (with_ok (l3 _ _ hm) (usesAll M (w.ops.take j)) o (small_mono hXs (by omega)) (by rw [hXM];exact hbk) hpos) ?_
   rintro _ m4 ⟨rfl,l4⟩
   conv=>whnf
   refine WRng.mk (by apply wrap_i64 <;> omega) ?_
   conv=>whnf
   refine ⟨j + 1,⟨rfl,?_,trivial⟩,⟨l3.trans l4,hj2⟩,by omega⟩
   rw [hsucc]
   exact congrArg (fun l=>some (AV.var l)) (spAll2 (usesAll M (w.ops.take j)) (withS (usesAll M (w.ops.take j)) o))
  ·have hj2:j = w.ops.length:=by
    have:¬ (j:Int) < w.ops.length:=of_decide_eq_false hb5
    omega
   subst hj2
   rw [List.take_length]
   conv=>whnf
   refine WCall.mk (fits_ok m3 (usesAll M w.ops)) ?_
   rintro _ m4 ⟨rfl,l4⟩
   conv=>whnf
   refine Br.mk (fun hb6=>?_) (fun hb6=>?_)
   ·conv=>whnf
    refine WRet.same ⟨?_,l3.trans l4⟩
    rw [hcode,if_pos (List.any_eq_true.2 ⟨w,by rw [← hwk];exact List.getElem_mem hk2,hb6⟩)];rfl
   ·conv=>whnf
    refine WRng.mk (by apply wrap_i64 <;> omega) ?_
    conv=>whnf
    refine ⟨k + 1,⟨rfl,trivial⟩,⟨l3.trans l4,hk2,fun q hq2 h=>?_⟩,by omega⟩
    by_cases e:q = k
    ·subst e;rw [hwk];exact not_f hb6
    ·exact hq q hq2 (by omega)
 ·have hk2:k = C.ws.length:=by
   have:¬ (k:Int) < C.ws.length:=of_decide_eq_false hb2
   omega
  subst hk2
  have hany:C.ws.any (fun w=>!fitsS (usesAll M w.ops)) = false:=by
   rw [List.any_eq_false]
   intro w hw h
   obtain ⟨q,hq2,rfl⟩:=List.getElem_of_mem hw
   rw [hq q hq2 hq2] at h;cases h
  conv=>whnf
  exact WRet.same ⟨by rw [hcode,hany];rfl,l2⟩
end Go.Proofs.YtleofbpepfmfgaaGreatDoor
