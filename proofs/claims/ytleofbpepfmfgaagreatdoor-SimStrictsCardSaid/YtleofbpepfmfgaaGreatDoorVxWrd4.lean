import Derived.Test.YtleofbpepfmfgaaGreatDoorVxSimS
import Derived.Test.YtleofbpepfmfgaaGreatDoorVxWrd3
set_option linter.unusedSimpArgs false
set_option linter.unusedVariables false
set_option maxRecDepth 100000
namespace Go.Proofs.YtleofbpepfmfgaaGreatDoor
open Go Go.Vx
open Go.Vx.IOp Go.Vx.IR Go.Vx.Opd
def wrS (o:OpR):Option Nat:=if uD o.kd = true then some o.ds.toNat else none
def dlS (M:Mac) (o:OpR):Nat:=(M.lat (classS o.kd).1.toNat).toNat
def stepW (M:Mac) (w:List Nat) (o:OpR):List Nat:=match wrS o with | some d=>w.set d (max (w.getD d 0) (dlS M o)) | none=>w
def decW (w:List Nat):List Nat:=w.map (· - 1)
def mayTrapS (o:OpR):Bool:=(o.kd == 14 || o.kd == 15 || o.kd == 16 || o.kd == 17 || o.kd == 20 || o.kd == 21 || o.kd == 22 || o.kd == 27 || o.kd == 28) || o.gd != -1
def zerosW (C:CodeR):List Nat:=List.replicate C.rg.toNat 0
def outsW (C:CodeR) (M:Mac) (k:Nat) (ct:Int):List OpR → List Nat → List (Nat × List Nat)
 | [],w=>[(k + 1,decW w)]
 | o :: os,w =>
  (if o.kd = 21 ∨ o.kd = 26 then [(o.n.toNat,decW (stepW M w o))] else []) ++ ((if mayTrapS o = true ∧ 0 ≤ ct then [(ct.toNat,zerosW C)] else []) ++ (if leavesS o = true then [] else outsW C M k ct os (stepW M w o)))
def leW (w w':List Nat):Prop:=∀ r,w.getD r 0 ≤ w'.getD r 0
abbrev WS:=List (Option (List Nat))
structure IsW (C:CodeR) (M:Mac) (A:WS):Prop where
 len:A.length = C.ws.length
 wl:∀ (k:Nat) (w:List Nat),A[k]? = some (some w) → w.length = C.rg.toNat
 zero:∃ w:List Nat,A[0]? = some (some w)
 go:∀ (k:Nat) (w:List Nat),A[k]? = some (some w) → ∀ p ∈ outsW C M k (wordAt C k).ct (wordAt C k).ops w,∃ w':List Nat,A[p.1]? = some (some w') ∧ leW p.2 w'
structure Least (C:CodeR) (M:Mac) (A:WS):Prop where
 is:IsW C M A
 le:∀ B:WS,IsW C M B → ∀ (k:Nat) (w:List Nat),A[k]? = some (some w) → ∃ w':List Nat,B[k]? = some (some w') ∧ leW w w'
def strictO (M:Mac) (w:List Nat):List OpR → List Nat → Bool
 | [],_=>true
 | o :: os,now=>(readsS o).all (fun r=>w.getD r.toNat 0 == 0) && ((match wrS o with | some d=>decide (now.getD d 0 ≤ 1) | none=>true) && (leavesS o || strictO M w os (stepW M now o)))
def strictA (C:CodeR) (M:Mac) (A:WS):Prop:=∀ (k:Nat) (w:List Nat),A[k]? = some (some w) → strictO M w (wordAt C k).ops w = true
theorem leW.refl (w:List Nat):leW w w:=fun _=>Nat.le_refl _
theorem leW.trans {a b c:List Nat} (h:leW a b) (k:leW b c):leW a c:=fun r=>Nat.le_trans (h r) (k r)
theorem leW.antisymm {a b:List Nat} (h:leW a b) (k:leW b a) (hl:a.length = b.length):a = b:=by
 apply List.ext_getElem hl
 intro r h1 h2
 have g1:=h r;have g2:=k r
 rw [List.getD_eq_getElem?_getD,List.getD_eq_getElem?_getD,List.getElem?_eq_getElem h1,List.getElem?_eq_getElem h2] at g1 g2
 simp only [Option.getD_some] at g1 g2
 omega
theorem Least.uniq {C:CodeR} {M:Mac} {A B:WS} (h:Least C M A) (k:Least C M B):A = B:=by
 apply List.ext_getElem (h.is.len.trans k.is.len.symm)
 intro j h1 h2
 cases ha:A[j] with
 | none =>
  cases hb:B[j] with
  | none=>rfl
  | some w =>
   obtain ⟨w',g,_⟩:=k.le A h.is j w (by rw [List.getElem?_eq_getElem h2,hb])
   rw [List.getElem?_eq_getElem h1,ha] at g;cases g
 | some w =>
  have hw:A[j]? = some (some w):=by rw [List.getElem?_eq_getElem h1,ha]
  obtain ⟨w',g,g1⟩:=h.le B k.is j w hw
  obtain ⟨w2,g2,g3⟩:=k.le A h.is j w' g
  rw [hw] at g2;cases g2
  rw [List.getElem?_eq_getElem h2] at g
  have:w = w':=g1.antisymm g3 (by rw [h.is.wl j w hw,k.is.wl j w' (by rw [List.getElem?_eq_getElem h2];exact g)])
  rw [this];exact (Option.some.inj g).symm
theorem getD_setN {w:List Nat} {d r x:Nat}:(w.set d x).getD r 0 = if d = r ∧ d < w.length then x else w.getD r 0:=by
 rw [List.getD_eq_getElem?_getD,List.getElem?_set]
 by_cases h:d = r
 ·subst h
  by_cases h2:d < w.length
  ·rw [if_pos rfl,if_pos h2,if_pos ⟨rfl,h2⟩];rfl
  ·rw [if_pos rfl,if_neg h2,if_neg (fun h=>h2 h.2),List.getD_eq_getElem?_getD,List.getElem?_eq_none (by omega)]
 ·rw [if_neg h,if_neg (fun hh=>h hh.1),List.getD_eq_getElem?_getD]
theorem step_len (M:Mac) (w:List Nat) (o:OpR):(stepW M w o).length = w.length:=by unfold stepW;split <;> simp
theorem dec_get (w:List Nat) (r:Nat):(decW w).getD r 0 = w.getD r 0 - 1:=by
 unfold decW
 rw [List.getD_eq_getElem?_getD,List.getD_eq_getElem?_getD,List.getElem?_map]
 cases w[r]? with
 | none=>rfl
 | some x=>rfl
theorem step_mono {M M':Mac} {w w':List Nat} {o:OpR} (hl:w.length = w'.length) (h:leW w w') (hd:dlS M o ≤ dlS M' o):leW (stepW M w o) (stepW M' w' o):=by
 intro r
 unfold stepW
 split
 ·rename_i d hd'
  rw [getD_setN,getD_setN,← hl]
  have h1:=h d;have h2:=h r
  split
  ·omega
  ·exact h2
 ·exact h r
theorem dec_mono {w w':List Nat} (h:leW w w'):leW (decW w) (decW w'):=fun r=>by rw [dec_get,dec_get];have:=h r;omega
theorem dec_len (w:List Nat):(decW w).length = w.length:=by simp [decW]
theorem outs_mono {C:CodeR} {M M':Mac} {k:Nat} {ct:Int} (hd:∀ o,dlS M o ≤ dlS M' o):∀ {L:List OpR} {w w':List Nat},w.length = w'.length → leW w w' →
  ∀ p ∈ outsW C M k ct L w,∃ p' ∈ outsW C M' k ct L w',p'.1 = p.1 ∧ leW p.2 p'.2
 | [],w,w',hl,h,p,hp=>by
  rw [outsW,List.mem_singleton] at hp
  subst hp
  exact ⟨_,List.mem_singleton.2 rfl,rfl,dec_mono h⟩
 | o :: L,w,w',hl,h,p,hp=>by
  have hs:=step_mono (o:=o) hl h (hd o)
  rw [outsW,List.mem_append,List.mem_append] at hp
  rcases hp with hp | hp | hp
  ·split at hp
   ·rename_i hk
    rw [List.mem_singleton] at hp;subst hp
    exact ⟨(o.n.toNat,decW (stepW M' w' o)),by rw [outsW,List.mem_append];left;rw [if_pos hk];exact List.mem_singleton.2 rfl,rfl,dec_mono hs⟩
   ·cases hp
  ·split at hp
   ·rename_i hk
    rw [List.mem_singleton] at hp;subst hp
    exact ⟨(ct.toNat,zerosW C),by rw [outsW,List.mem_append,List.mem_append];right;left;rw [if_pos hk];exact List.mem_singleton.2 rfl,rfl,leW.refl _⟩
   ·cases hp
  ·split at hp
   ·cases hp
   ·rename_i hk
    obtain ⟨p',g1,g2,g3⟩:=outs_mono hd (by rw [step_len,step_len];exact hl) hs p hp
    exact ⟨p',by rw [outsW,List.mem_append,List.mem_append];right;right;rw [if_neg hk];exact g1,g2,g3⟩
theorem zeros_get (C:CodeR) (r:Nat):(zerosW C).getD r 0 = 0:=by
 unfold zerosW
 rw [List.getD_eq_getElem?_getD,List.getElem?_replicate]
 split <;> rfl
theorem outs_in {C:CodeR} {M:Mac} {k:Nat} {ct:Int} (hct:ct < C.ws.length):∀ {L:List OpR} {w:List Nat},(∀ o ∈ L,OpOK C o) → ∀ p ∈ outsW C M k ct L w,p.1 < C.ws.length ∨ (p.1 = k + 1 ∧ ∀ o ∈ L,leavesS o = false)
 | [],w,_,p,hp=>by
  rw [outsW,List.mem_singleton] at hp
  subst hp
  exact .inr ⟨rfl,fun o h=>by cases h⟩
 | o :: L,w,ho,p,hp=>by
  rw [outsW,List.mem_append,List.mem_append] at hp
  rcases hp with hp | hp | hp
  ·split at hp
   ·rename_i hk
    rw [List.mem_singleton] at hp;subst hp
    have:=(ho o (by simp)).n.2.2 hk
    exact .inl (by show o.n.toNat < _;omega)
   ·cases hp
  ·split at hp
   ·rename_i hk
    rw [List.mem_singleton] at hp;subst hp
    exact .inl (by show ct.toNat < _;omega)
   ·cases hp
  ·split at hp
   ·cases hp
   ·rename_i hk
    rcases outs_in hct (fun q hq=>ho q (List.mem_cons_of_mem _ hq)) p hp with h | ⟨h1,h2⟩
    ·exact .inl h
    ·refine .inr ⟨h1,fun q hq=>?_⟩
     rcases List.mem_cons.1 hq with e | e
     ·subst e;simpa using hk
     ·exact h2 q e
theorem outs_lt {C:CodeR} {M:Mac} (hC:CodeOK C) {k:Nat} (hk:k < C.ws.length) {w:List Nat} {p:Nat × List Nat} (hp:p ∈ outsW C M k (wordAt C k).ct (wordAt C k).ops w):p.1 < C.ws.length:=by
 have hm:=wordAt_mem hk
 rcases outs_in (hC.ct _ hm).2 (hC.op _ hm) p hp with h | ⟨h1,h2⟩
 ·exact h
 ·rw [h1]
  by_cases e:k + 1 < C.ws.length
  ·exact e
  ·exfalso
   have hlast:C.ws.getLast? = some (wordAt C k):=by
    rw [List.getLast?_eq_getElem?]
    unfold wordAt
    rw [List.getD_eq_getElem?_getD,show C.ws.length - 1 = k by omega,List.getElem?_eq_getElem hk]
    rfl
   obtain ⟨o,ho,hl⟩:=hC.last _ hlast
   rw [h2 o ho] at hl;cases hl
end Go.Proofs.YtleofbpepfmfgaaGreatDoor
set_option linter.unusedSimpArgs false
set_option linter.unusedVariables false
set_option maxRecDepth 100000
namespace Go.Proofs.YtleofbpepfmfgaaGreatDoor
open Go Go.Vx
open Go.Vx.IOp Go.Vx.IR Go.Vx.Opd
theorem mem_putS {acc:List Int} {r x:Int}:x ∈ putS acc r ↔ x ∈ acc ∨ x = r:=by
 unfold putS
 split
 ·rename_i h
  obtain ⟨y,hy,e⟩:=List.any_eq_true.1 h
  have e:r = y:=by simpa using e
  subst e
  exact ⟨.inl,fun h=>by rcases h with h | h
                        ·exact h
                        ·rw [h];exact hy⟩
 ·simp
theorem mem_foldPut:∀ {L acc:List Int} {x:Int},x ∈ L.foldl putS acc ↔ x ∈ acc ∨ x ∈ L
 | [],acc,x=>by simp
 | r :: L,acc,x=>by rw [List.foldl_cons,mem_foldPut,mem_putS,List.mem_cons];exact or_assoc
theorem mem_once {L:List Int} {x:Int}:x ∈ onceS L ↔ x ∈ L:=by unfold onceS;rw [mem_foldPut];simp
abbrev SoW (W:List WayR):Prop:=W.Pairwise fun a b=>a.rg = b.rg → a.t ≤ b.t
structure Same (s t:St):Prop where
 word:s.word = t.word
 took:s.took = t.took
 ended:s.ended = t.ended
 kind:s.kind = t.kind
 value:s.value = t.value
 prints:s.prints = t.prints
 kept:s.kept = t.kept
 arr:s.arr = t.arr
structure Mid (w now:List Nat) (z0 z:List VR) (s:St):Prop where
 zz:putsS s.regs s.way = z
 it:∀ x ∈ s.way,s.took < x.t ∧ x.t ≤ s.took + now.getD x.rg 0
 so:SoW s.way
 rd:∀ r,w.getD r 0 = 0 → s.regs.getD r VR.zero = z0.getD r VR.zero
structure DoSame (M0:Mac) (w now:List Nat) (z0:List VR) (d e:DoR):Prop where
 n:d.n = e.n
 trap:d.trap = e.trap
 left:d.left = e.left
 same:Same d.s e.s
 mid:d.s.ended = false → ∃ z,Mid w now z0 z d.s ∧ Mid w now z0 z e.s
end Go.Proofs.YtleofbpepfmfgaaGreatDoor
set_option linter.unusedSimpArgs false
set_option linter.unusedVariables false
set_option maxRecDepth 100000
namespace Go.Proofs.YtleofbpepfmfgaaGreatDoor
open Go Go.Vx
open Go.Vx.IOp Go.Vx.IR Go.Vx.Opd
theorem arg_in {C:CodeR} {o:OpR} (h:OpOK C o) (k:Nat):0 ≤ o.arg k ∧ o.arg k < C.rg:=by
 rcases k with _ | _ | k
 ·exact h.a
 ·exact h.b
 ·exact h.c
theorem reads_in {C:CodeR} {o:OpR} (h:OpOK C o):∀ r ∈ readsS o,0 ≤ r ∧ r < C.rg:=by
 intro r hr
 unfold readsS at hr
 rw [mem_once] at hr
 have hg:r ∈ guardL o → 0 ≤ r ∧ r < C.rg:=fun hh=>by
  unfold guardL at hh
  split at hh
  ·cases hh
  ·rename_i hne
   rw [List.mem_singleton] at hh
   rcases h.gd with e | e
   ·exact absurd e hne
   ·rw [hh];exact e
 unfold rawS at hr
 split at hr
 ·exact hg hr
 ·split at hr
  ·rcases List.mem_append.1 hr with hh | hh
   ·exact hg hh
   ·rw [List.mem_singleton] at hh;rw [hh];exact h.a
  ·split at hr
   ·rcases List.mem_append.1 hr with hh | hh
    ·exact hg hh
    ·obtain ⟨k,_,rfl⟩:=List.mem_map.1 hh
     exact arg_in h k
   ·cases hr
theorem good_op {C:CodeR} {M:Mac} {o:OpR} (h:OpOK C o) (hrg:C.rg ≤ M.rg):badOp M o = false:=by
 unfold badOp
 have hcl:(classS o.kd).2 = true:=by
  have:=h.kd
  unfold classS
  split
  ·rfl
  ·split
   ·rfl
   ·split
    ·rfl
    ·split
     ·rfl
     ·omega
 rw [hcl,Bool.not_true,Bool.false_or,List.any_eq_false]
 intro r hr
 have:=reads_in h r hr
 unfold badRead inR
 rw [decide_eq_true (show r ≥ 0 by omega),decide_eq_true (show r ≤ M.rg - 1 by omega)]
 decide
attribute [local irreducible] spliceL in
theorem wFits_ok {m:Mem} {T:Nat} {fr:Nat × Nat} (hm:m 0 = some (.cells ⟨cells0⟩ T fr)) (V:CV) {C:CodeR} (hV:CodeAt m V C) (M:Mac) :
  CallsM Tryz.prog 50 [V.val C,M.val] m fun e m'=>e = .returned (i (fitsCode C M)) ∧ Mem.le m m':=by
 refine calls_of mixed Tryz.func50 ok_words_Fits rfl ?_
 conv=>whnf
 refine WCall.mk (wCheck_ok hm V hV) ?_
 rintro _ m1 ⟨rfl,l1⟩
 conv=>whnf
 refine Br.mk (fun h0=>?_) (fun h0=>?_)
 ·have h0:checkCode C ≠ 0:=by simpa using h0
  conv=>whnf
  exact WRet.same ⟨by unfold fitsCode;rw [if_pos h0];rfl,l1⟩
 have h0:checkCode C = 0:=by simpa using h0
 have hC:=checkCode_ok h0
 conv=>whnf
 refine WCall.pure (check_ok m1 M) ?_
 cases hM:M.ok with
 | false =>
  rw [if_neg (by decide)]
  conv=>whnf
  refine Br.mk (fun _=>?_) (fun h=>absurd h (by decide))
  conv=>whnf
  exact WRet.same ⟨by unfold fitsCode;rw [if_neg (by rw [h0];decide),if_pos hM];rfl,l1⟩
 | true =>
 rw [if_pos rfl]
 conv=>whnf
 refine Br.mk (fun h=>absurd h (by decide)) (fun _=>?_)
 conv=>whnf
 refine Br.mk (fun hr=>?_) (fun hr=>?_)
 ·have hr:C.rg > M.rg:=of_decide_eq_true hr
  conv=>whnf
  exact WRet.same ⟨by unfold fitsCode;rw [if_neg (by rw [h0];decide),if_neg (by rw [hM];decide),if_pos hr];rfl,l1⟩
 have hr:¬ C.rg > M.rg:=of_decide_eq_false hr
 have hcode:fitsCode C M = if C.ws.any (fun w=>!fitsS (usesAll M w.ops)) = true then 7 else 0:=by unfold fitsCode;rw [if_neg (by rw [h0];decide),if_neg (by rw [hM];decide),if_neg hr]
 obtain ⟨_,hbk,_⟩:=ok_range hM
 have hn2:=hV.n2
 obtain ⟨a2,c2,e2,hw0,hw1,hw2⟩:=hV.ws
 have ea:V.a2 = a2:=by injection e2
 have ec:V.c2 = c2:=by injection e2
 subst ea;subst ec
 have hl:=hV.wsl
 conv=>whnf
 refine WLoop.mk Nat (fun k=>[(30,.val (i k))]) (fun k m'=>Mem.le m m' ∧ k ≤ C.ws.length ∧ ∀ j (hj:j < C.ws.length),j < k → fitsS (usesAll M (C.ws[j]).ops) = true) (fun k=>C.ws.length - k) 0
  ⟨rfl,trivial⟩ ⟨l1,Nat.zero_le _,fun j hj h=>by omega⟩ ?_
 rintro k m2 ⟨l2,hk,hq⟩
 rw [hn2]
 conv=>whnf
 refine Br.mk (fun hb2=>?_) (fun hb2=>?_)
 ·have hk2:k < C.ws.length:=by
   have:(k:Int) < C.ws.length:=of_decide_eq_true hb2
   omega
  obtain ⟨ad,had⟩:∃ ad,V.a2 = some ad:=by
   cases hh:V.a2 with
   | none=>rw [hw0 hh] at hk2;simp at hk2
   | some ad=>exact ⟨ad,rfl⟩
  obtain ⟨a3,n3,c3,g1,g2⟩:=hw1 ad had k hk2
  have hn3:n3 = (C.ws[k]).ops.length:=by obtain ⟨_,_,e,_⟩:=g2;injection e
  have hol:=hC.ol _ (List.getElem_mem hk2)
  have hop:=hC.op _ (List.getElem_mem hk2)
  conv=>whnf
  refine WIdx.mk ad had ⟨by omega,by simpa using hk2⟩ ?_
  conv=>whnf
  refine WLds.mk [.slice a3 n3 c3,i (C.ws[k]).ct] (by simpa using g1.mono l2) rfl ?_
  generalize hwk:C.ws[k] = w at *
  subst hn3
  conv=>whnf
  rw [spliceL_all (l:=[ns,i 0]) (vs:=cellsL (.agg ⟨[.slice a3 w.ops.length c3,i w.ct]⟩)) rfl]
  conv=>whnf
  refine WCall.pure (newUse_ok m2 M) ?_
  conv=>whnf
  refine WLoop.mk Nat (fun j=>[(39,.val (i j)),(9,.var (usesAll M (w.ops.take j)).cells)]) (fun j m'=>Mem.le m m' ∧ j ≤ w.ops.length) (fun j=>w.ops.length - j) 0
   ⟨rfl,congrArg (fun l=>some (AV.var l)) (spAll (newU M)),trivial⟩ ⟨l2,Nat.zero_le _⟩ ?_
  rintro j m3 ⟨l3,hj⟩
  have hXM:(usesAll M (w.ops.take j)).M = M:=by unfold usesAll;rw [fold_M];rfl
  have hXs:(usesAll M (w.ops.take j)).small 2000:=by
   unfold usesAll
   refine small_mono (fold_small _ (newU_small M)) ?_
   rw [List.length_take];omega
  conv=>whnf
  refine Br.mk (fun hb5=>?_) (fun hb5=>?_)
  ·have hj2:j < w.ops.length:=by
    have:(j:Int) < w.ops.length:=of_decide_eq_true hb5
    omega
   obtain ⟨a3',c3',e3,hx0,hx1,_⟩:=g2
   have e3a:a3 = a3':=by injection e3
   subst e3a
   obtain ⟨ad3,rfl⟩:∃ ad,a3 = some ad:=by
    cases a3 with
    | none=>rw [hx0 rfl] at hj2;simp at hj2
    | some ad=>exact ⟨ad,rfl⟩
   have hcells:=(OAt.cells (hx1 ad3 rfl) hj2).mono l3
   have hsucc:usesAll M (w.ops.take (j + 1)) = withS (usesAll M (w.ops.take j)) w.ops[j]:=by unfold usesAll;exact fold_succ hj2
   have hpos:∀ r ∈ readsS w.ops[j],0 ≤ r:=fun r hr=>(reads_in (hop _ (List.getElem_mem hj2)) r hr).1
   conv=>whnf
   refine WIdx.mk ad3 rfl ⟨by omega,by simpa using hj2⟩ ?_
   conv=>whnf
   refine WLds.mk (w.ops[j]).cells (by simpa using hcells) rfl ?_
   generalize w.ops[j] = o at *
   conv=>whnf
   rw [sp7 o]
   conv=>whnf
   refine WCall.mk (with_ok (l3 _ _ hm) (usesAll M (w.ops.take j)) o (small_mono hXs (by omega)) (by rw [hXM];exact hbk) hpos) ?_
   rintro _ m4 ⟨rfl,l4⟩
   conv=>whnf
   refine WRng.mk (by apply wrap_i64 <;> omega) ?_
   conv=>whnf
   refine ⟨j + 1,⟨rfl,?_,trivial⟩,⟨l3.trans l4,hj2⟩,by omega⟩
   rw [hsucc]
   exact congrArg (fun l=>some (AV.var l)) (spAll2 (usesAll M (w.ops.take j)) (withS (usesAll M (w.ops.take j)) o))
  ·have hj2:j = w.ops.length:=by
    have:¬ (j:Int) < w.ops.length:=of_decide_eq_false hb5
    omega
   subst hj2
   rw [List.take_length]
   conv=>whnf
   refine WCall.mk (fits_ok m3 (usesAll M w.ops)) ?_
   rintro _ m4 ⟨rfl,l4⟩
   conv=>whnf
   refine Br.mk (fun hb6=>?_) (fun hb6=>?_)
   ·conv=>whnf
    refine WRet.same ⟨?_,l3.trans l4⟩
    rw [hcode,if_pos (List.any_eq_true.2 ⟨w,by rw [← hwk];exact List.getElem_mem hk2,hb6⟩)];rfl
   ·conv=>whnf
    refine WRng.mk (by apply wrap_i64 <;> omega) ?_
    conv=>whnf
    refine ⟨k + 1,⟨rfl,trivial⟩,⟨l3.trans l4,hk2,fun q hq2 h=>?_⟩,by omega⟩
    by_cases e:q = k
    ·subst e;rw [hwk];exact not_f hb6
    ·exact hq q hq2 (by omega)
 ·have hk2:k = C.ws.length:=by
   have:¬ (k:Int) < C.ws.length:=of_decide_eq_false hb2
   omega
  subst hk2
  have hany:C.ws.any (fun w=>!fitsS (usesAll M w.ops)) = false:=by
   rw [List.any_eq_false]
   intro w hw h
   obtain ⟨q,hq2,rfl⟩:=List.getElem_of_mem hw
   rw [hq q hq2 hq2] at h;cases h
  conv=>whnf
  exact WRet.same ⟨by rw [hcode,hany];rfl,l2⟩
end Go.Proofs.YtleofbpepfmfgaaGreatDoor
