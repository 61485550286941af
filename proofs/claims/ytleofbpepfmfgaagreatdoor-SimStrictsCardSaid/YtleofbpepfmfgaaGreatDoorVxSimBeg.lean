import Derived.Test.YtleofbpepfmfgaaGreatDoorVxWrd4
import Derived.Test.YtleofbpepfmfgaaGreatDoorVxSimDo
import Derived.Test.YtleofbpepfmfgaaGreatDoorVxSimClo
import Derived.KernelRfl
set_option linter.unusedSimpArgs false
set_option linter.unusedVariables false
set_option maxRecDepth 100000
namespace Go.Proofs.YtleofbpepfmfgaaGreatDoor
open Go Go.Vx
theorem mem_end {M:Mac} {sh:List Int} {s:St} {o:OpR}:(memS M sh s o).1.ended = s.ended:=by
 unfold memS
 split
 ·rfl
 ·split
  ·rfl
  ·generalize nMem s o = n
   split
   ·rfl
   ·split
    ·rfl
    ·split <;> rfl
theorem do_end {M:Mac} {sh:List Int} {s:St} {o:OpR} (h:(doS M sh s o).left = false):(doS M sh s o).s.ended = s.ended:=by
 unfold doS at h ⊢
 split
 ·rfl
 ·rename_i g1
  rw [if_neg g1] at h
  split
  ·rfl
  ·rename_i g2
   rw [if_neg g2] at h
   unfold bodyS at h ⊢
   split
   ·exact mem_end
   ·rename_i g3
    rw [if_neg g3] at h
    split
    ·rename_i g4
     rw [if_pos g4] at h
     unfold outS at h ⊢
     split
     ·rfl
     ·rename_i g5;rw [if_neg g5] at h
      split
      ·rfl
      ·rename_i g6;rw [if_neg g6] at h
       split
       ·rfl
       ·rename_i g7;rw [if_neg g7] at h
        split
        ·split <;> rfl
        ·rename_i g8;rw [if_neg g8] at h
         split
         ·rename_i g9;rw [if_pos g9] at h;cases h
         ·split <;> rfl
    ·split <;> rfl
theorem trap_left {M:Mac} {sh:List Int} {s:St} {o:OpR} (h:(doS M sh s o).trap = true):(doS M sh s o).left = false:=by
 unfold doS at h ⊢
 split
 ·rfl
 ·rename_i g1
  rw [if_neg g1] at h
  split
  ·rfl
  ·rename_i g2
   rw [if_neg g2] at h
   unfold bodyS at h ⊢
   split
   ·rfl
   ·rename_i g3
    rw [if_neg g3] at h
    split
    ·rename_i g4
     rw [if_pos g4] at h
     unfold outS at h ⊢
     split
     ·rename_i g5;rw [if_pos g5] at h;cases h
     ·rename_i g5;rw [if_neg g5] at h
      split
      ·rfl
      ·rename_i g6;rw [if_neg g6] at h
       split
       ·rfl
       ·rename_i g7;rw [if_neg g7] at h
        split
        ·rename_i g8;rw [if_pos g8] at h
         split
         ·rename_i g9;rw [if_pos g9] at h;cases h
         ·rfl
        ·rename_i g8;rw [if_neg g8] at h
         split
         ·rename_i g9;rw [if_pos g9] at h;cases h
         ·split <;> rfl
    ·split <;> rfl
structure After (l:List Nat) (z:List VR) (s:St):Prop where
 zz:putsS s.regs s.way = z
 it:∀ x ∈ s.way,x.t ≤ s.took + 1 + l.getD x.rg 0
 so:SoW s.way
structure Hd (w:List Nat) (z:List VR) (s:St):Prop where
 zz:putsS s.regs s.way = z
 it:∀ x ∈ s.way,x.t ≤ s.took + w.getD x.rg 0
 so:SoW s.way
end Go.Proofs.YtleofbpepfmfgaaGreatDoor
set_option linter.unusedSimpArgs false
set_option linter.unusedVariables false
set_option maxRecDepth 100000
namespace Go.Proofs.YtleofbpepfmfgaaGreatDoor
open Go Go.Vx
open Go.Vx.IOp Go.Vx.IR Go.Vx.Opd
section
variable {C:CodeR} {M:Mac} {sh:List Int} {s:St} {k:Nat}
theorem LimS.give (h:LimS s k) {o:OpR} {v:VR}:LimS (giveS M sh s o v) (k + 1) :=
 ⟨by show s.took ≤ _;have:=h.took;omega,by show s.begun + 1 ≤ _;have:=h.begun;omega,by show (s.way ++ [_]).length ≤ _;have:=h.way;simp;omega,by show s.prints.length ≤ _;have:=h.prints;omega⟩
theorem LimS.same (h:LimS s k) {t:St} (h1:t.took = s.took) (h2:t.begun = s.begun) (h3:t.way = s.way ∨ t.way = []) (h4:t.prints = s.prints):LimS t k :=
 ⟨by rw [h1];exact h.took,by rw [h2];exact h.begun,by
  rcases h3 with e | e
  ·rw [e];exact h.way
  ·rw [e];exact Nat.zero_le _,by rw [h4];exact h.prints⟩
theorem LimS.mem (h:LimS s k) {o:OpR}:LimS (memS M sh s o).1 (k + 1):=by
 have up:=h.up (Nat.le_succ k)
 unfold memS
 split
 ·exact h.give
 ·split
  ·exact up.same rfl rfl (.inl rfl) rfl
  ·generalize nMem s o = n
   split
   ·exact h.give
   ·split
    ·exact up
    ·split
     ·exact up.same rfl rfl (.inl rfl) rfl
     ·exact h.give
theorem LimS.out (h:LimS s k) {o:OpR}:LimS (outS s o).s (k + 1):=by
 have up:=h.up (Nat.le_succ k)
 unfold outS
 split
 ·exact up.same rfl rfl (.inl rfl) rfl
 ·split
  ·exact up
  ·split
   ·exact ⟨up.took,up.begun,up.way,by show (s.prints ++ [_]).length ≤ _;have:=h.prints;simp;omega⟩
   ·split
    ·split
     ·exact up.same rfl rfl (.inl rfl) rfl
     ·exact up
    ·split
     ·exact up.same rfl rfl (.inr rfl) rfl
     ·split <;> exact up
theorem LimS.do (h:LimS s k) {o:OpR}:LimS (doS M sh s o).s (k + 1):=by
 have up:=h.up (Nat.le_succ k)
 unfold doS
 split
 ·exact up
 ·split
  ·exact up
  ·unfold bodyS
   split
   ·exact h.mem
   ·split
    ·exact h.out
    ·split
     ·exact up
     ·exact h.give
theorem LimS.trap (h:LimS s k) {ct n:Int}:LimS (trapS C s ct n) k:=by
 unfold trapS
 split
 ·exact h.same rfl rfl (.inr rfl) rfl
 ·exact h.same rfl rfl (.inr rfl) rfl
theorem LimS.arrive (h:LimS s k):LimS (arriveS s) k :=
 ⟨h.took,h.begun,Nat.le_trans (List.length_filter_le _ _) h.way,h.prints⟩
theorem LimS.ops {ct:Int}:∀ {L:List OpR} {s:St} {k:Nat},LimS s k → LimS (opsS C M sh ct L s) (k + L.length)
 | [],s,k,h=>h
 | o :: L,s,k,h=>by
  unfold opsS
  split
  ·exact (h.do.trap).up (by simp)
  ·split
   ·exact h.do.up (by simp)
   ·have:=LimS.ops (ct:=ct) (L:=L) (h.do (M:=M) (sh:=sh) (o:=o))
    exact this.up (by simp;omega)
theorem wordAt_len (hC:CodeOK C) {w:Nat}:(wordAt C w).ops.length ≤ 400:=by
 by_cases h:w < C.ws.length
 ·exact hC.ol _ (wordAt_mem h)
 ·unfold wordAt;rw [List.getD_eq_getElem?_getD,List.getElem?_eq_none (by omega)];exact Nat.zero_le _
theorem LimS.cyc (hC:CodeOK C) (h:LimS s k):LimS (cycS C M sh s) (k + 401):=by
 have h1:LimS (goS s) k:=(h.arrive).same rfl rfl (.inl rfl) rfl
 have h2:=LimS.ops (C:=C) (M:=M) (sh:=sh) (ct:=(wordAt C s.word).ct) (L:=(wordAt C s.word).ops) h1
 have hl:=wordAt_len hC (w:=s.word)
 exact ⟨by show _ + 1 ≤ _;have:=h2.took;omega,by show (opsS _ _ _ _ _ _).begun ≤ _;have:=h2.begun;omega,by show (opsS _ _ _ _ _ _).way.length ≤ _;have:=h2.way;omega,by show (opsS _ _ _ _ _ _).prints.length ≤ _;have:=h2.prints;omega⟩
end
section
variable {m0 m m':Mem} {V:CV} {C:CodeR} {M:Mac} {sv:Value} {p:Nat} {H:HdF} {s s':St} {sh:List Int}
def cycTail:IR:=(match ir_sim_Sim_cycle.body with | .seq _ (.seq _ (.seq _ (.seq _ r)))=>r | r=>r)
def cycA:IR:=(match ir_sim_Sim_cycle.body with | .seq a _=>a | r=>r)
def cycB:IR:=(match ir_sim_Sim_cycle.body with | .seq _ (.seq b _)=>b | r=>r)
def cycC:IR:=(match ir_sim_Sim_cycle.body with | .seq _ (.seq _ (.seq b _))=>b | r=>r)
def cycD:IR:=(match ir_sim_Sim_cycle.body with | .seq _ (.seq _ (.seq _ (.seq b _)))=>b | r=>r)
theorem cyc_body:ir_sim_Sim_cycle.body = .seq cycA (.seq cycB (.seq cycC (.seq cycD cycTail))):=rfl
theorem cycTail_ok {m1:Mem} {H1:HdF} {s1:St} (h0:Goes m0 V C M sv p m H s m1 H1 s1) {k:Nat} (hl:LimS s1 k) (hk:k ≤ 1000000000000) :
  wpI Tryz.prog cycTail (retPost [] fun e m'=>e = .returned unitV ∧ ∃ H',Goes m0 V C M sv p m H s m' H' { s1 with took:=s1.took + 1 }) (envL [(0,.val (ptr p))]) m1:=by
 have h:=h0.at'
 have ht:=hl.took
 conv=>whnf
 refine WLd.mk (i (s1.took:Int)) (by rw [add_add];exact h.cell rfl) ?_
 conv=>whnf
 refine WRng.mk (by apply wrap_i64 <;> omega) ?_
 conv=>whnf
 rw [add_add]
 refine h.setInt { s1 with took:=s1.took + 1 } rfl (show 0 + 1 + 1 ≤ 28 by decide) rfl rfl rfl rfl rfl fun m2 G2=>?_
 conv=>whnf
 exact WRet.same ⟨rfl,H1,h0.trans G2⟩
attribute [irreducible] cycTail
theorem cyc_ok2 (h:SimAt m0 m V C M sv p H s) (hB:SimBase m0 V C M sv sh) (hS:StOK C s) (he:s.ended = false) (hw:s.word < C.ws.length) {k:Nat} (hl:LimS s k) (hk:k ≤ 900000000) :
  CallsM Tryz.prog 67 [ptr p] m fun e m'=>e = .returned unitV ∧ ∃ H',Goes m0 V C M sv p m H s m' H' (cycS C M sh s):=by
 refine calls_of mixed Tryz.func67 ok_sim_Sim_cycle rfl ?_
 have hwl:=hB.ok.wl
 have hol:=wordAt_len hB.ok (w:=s.word)
 have hO:=hB.ok.op _ (wordAt_mem hw)
 have hct:=hB.ok.ct _ (wordAt_mem hw)
 generalize hW:wordAt C s.word = W at hol hO hct
 unfold Fn.asks
 rw [cyc_body]
 conv=>whnf
 refine WCall.mk (arrive_ok2 h (fun w hw'=>by rw [hS.regs];exact (hS.way w hw').1) (by have:=hl.way;omega)) ?_
 rintro _ m1 ⟨rfl,H1,G1⟩
 have h1:=G1.at'
 obtain ⟨ad,a3,c3,had,hcells,hops⟩:=word_cells hB.code hw
 rw [hW] at hcells hops
 conv=>whnf
 refine WLd.mk (.slice V.a2 V.n2 V.c2) (by rw [add_add];exact h1.cell rfl) ?_
 conv=>whnf
 refine WLd.mk (i (s.word:Int)) ?_ ?_
 ·rw [add_add]
  refine h1.cell ?_
  show some (i (wordV (arriveS s))) = _
  rw [wordV_live (s:=arriveS s) he];rfl
 conv=>whnf
 refine WIdx.mk ad had ⟨by omega,by rw [hB.code.n2];omega⟩ ?_
 conv=>whnf
 refine WLds.mk _ (hcells.mono h1.le) rfl ?_
 conv=>whnf
 refine ⟨?_,trivial⟩
 conv=>whnf
 refine ⟨?_,trivial⟩
 conv=>whnf
 refine WLd.mk (i (s.word:Int)) ?_ ?_
 ·rw [add_add]
  refine h1.cell ?_
  show some (i (wordV (arriveS s))) = _
  rw [wordV_live (s:=arriveS s) he];rfl
 conv=>whnf
 refine WRng.mk (by apply wrap_i64 <;> omega) ?_
 conv=>whnf
 rw [add_add]
 refine h1.setWord (w:=s.word + 1) he (by omega) rfl fun m2 G2=>?_
 have G2:Goes m0 V C M sv p m H s m2 H1 (goS s):=G1.trans G2
 have hS2:StOK C (goS s):=by
  have:=arrive_ok hS
  exact ⟨this.regs,this.kept,this.arr,this.way,this.rok,this.kok⟩
 have hl2:LimS (goS s) k:=(hl.arrive).same rfl rfl (.inl rfl) rfl
 obtain ⟨ao,co,eo,ho0,ho1,ho2⟩:=hops
 injection eo with eo1 eo2 eo3
 subst eo1;subst eo3
 have tail:∀ {m3:Mem} {H3:HdF} {s3:St},Goes m0 V C M sv p m H s m3 H3 s3 → s3 = opsS C M sh W.ct W.ops (goS s) → LimS s3 (k + 400) →
   wpI Tryz.prog cycTail (retPost [] fun e m'=>e = .returned unitV ∧ ∃ H',Goes m0 V C M sv p m H s m' H' (cycS C M sh s)) (envL [(0,.val (ptr p))]) m3:=fun {m3 H3 s3} G e hl3=>by
  have e2:cycS C M sh s = { s3 with took:=s3.took + 1 }:=by unfold cycS;rw [hW,e]
  rw [e2]
  exact cycTail_ok G hl3 (by omega)
 conv=>whnf
 refine WLoop.mk (Nat × St × HdF) (fun x=>[(34,.val (i x.1))]) (fun x m'=>x.1 ≤ W.ops.length ∧ Goes m0 V C M sv p m H s m' x.2.2 x.2.1 ∧ StOK C x.2.1 ∧ x.2.1.ended = false ∧ LimS x.2.1 (k + x.1) ∧
  opsS C M sh W.ct (W.ops.drop x.1) x.2.1 = opsS C M sh W.ct W.ops (goS s)) (fun x=>W.ops.length - x.1) (0,goS s,H1) ⟨rfl,trivial⟩ ⟨Nat.zero_le _,G2,hS2,he,hl2,rfl⟩ ?_
 rintro ⟨j,sj,Hj⟩ m3 ⟨hj,G3,hSj,hej,hlj,hopj⟩
 simp only at hj G3 hSj hej hlj hopj
 have h3:=G3.at'
 conv=>whnf
 refine Br.mk (fun hb=>?_) (fun hb=>?_)
 ·have hj2:j < W.ops.length:=by
   have:(j:Int) < (W.ops.length:Nat):=of_decide_eq_true hb
   omega
  obtain ⟨aa,haa⟩:∃ aa,a3 = some aa:=by
   cases a3 with
   | none=>rw [ho0 rfl] at hj2;simp at hj2
   | some aa=>exact ⟨aa,rfl⟩
  have hcj:=(OAt.cells (ho1 aa haa) hj2).mono h3.le
  have hOj:=hO _ (List.getElem_mem hj2)
  rw [List.drop_eq_getElem_cons hj2,opsS] at hopj
  have hdo:=do_ok2 h3 hB hSj hej hlj (by omega) hOj
  generalize hd:doS M sh sj W.ops[j] = d at hdo hopj
  have hSd:StOK C d.s:=by rw [← hd];exact do_ok hSj hOj
  have hld:LimS d.s (k + j + 1):=by rw [← hd];exact hlj.do
  have hed:d.left = false → d.s.ended = false:=fun e=>by rw [← hd] at e ⊢;rw [do_end e];exact hej
  have htl:d.trap = true → d.left = false:=fun e=>by rw [← hd] at e ⊢;exact trap_left e
  conv=>whnf
  refine WIdx.mk aa haa ⟨by omega,by omega⟩ ?_
  conv=>whnf
  refine WLds.mk _ (by simpa using hcj) rfl ?_
  conv=>whnf
  refine WCall.mk hdo ?_
  rintro _ m4 ⟨rfl,H4,G4⟩
  have G4:=G3.trans G4
  conv=>whnf
  refine Br.mk (fun ht=>?_) (fun ht=>?_)
  ·have ht:d.trap = true:=ht
   rw [if_pos ht] at hopj
   conv=>whnf
   refine WCall.mk (trap_ok2 G4.at' hB hSd (hed (htl ht)) (by have:=hld.way;omega) W.ct d.n) ?_
   rintro _ m5 ⟨rfl,H5,G5⟩
   have G5:=G4.trans G5
   conv=>whnf
   refine WSc.mk (v:=d.left) (fun _=>And.intro (Mem.le.refl _) rfl) ?_
   conv=>whnf
   refine Br.mk (fun _=>?_) (fun hh=>?_)
   ·conv=>whnf
    exact rest_envL (tail G5 hopj (hld.trap.up (by omega))) ⟨rfl,trivial⟩
   ·have hh:(d.trap || d.left) = false:=hh
    rw [ht] at hh;cases hh
  ·have ht:d.trap = false:=ht
   rw [if_neg (by rw [ht];decide)] at hopj
   conv=>whnf
   refine WSc.mk (v:=d.left) (fun _=>And.intro (Mem.le.refl _) rfl) ?_
   conv=>whnf
   refine Br.mk (fun hh=>?_) (fun hh=>?_)
   ·have hh:(d.trap || d.left) = true:=hh
    have hlf:d.left = true:=by rw [ht] at hh;exact hh
    rw [if_pos hlf] at hopj
    conv=>whnf
    exact rest_envL (tail G4 hopj (hld.up (by omega))) ⟨rfl,trivial⟩
   ·have hh:(d.trap || d.left) = false:=hh
    have hlf:d.left = false:=by rw [ht] at hh;exact hh
    rw [if_neg (by rw [hlf];decide)] at hopj
    conv=>whnf
    refine WRng.mk (by apply wrap_i64 <;> omega) ?_
    conv=>whnf
    exact ⟨(j + 1,d.s,H4),⟨rfl,trivial⟩,⟨hj2,G4,hSd,hed hlf,hld.up (by omega),hopj⟩,Nat.sub_lt_sub_left hj2 (Nat.lt_succ_self j)⟩
 ·have hj2:j = W.ops.length:=by
   have:¬ (j:Int) < (W.ops.length:Nat):=of_decide_eq_false hb
   omega
  subst hj2
  rw [List.drop_length] at hopj
  conv=>whnf
  exact rest_envL (tail G3 hopj (hlj.up (by omega))) ⟨rfl,trivial⟩
structure Good (C:CodeR) (s:St) (k:Nat):Prop where
 ok:StOK C s
 word:s.word < C.ws.length
 lim:LimS s k
theorem Good.cyc {k:Nat} (hC:CodeOK C) (h:Good C s k):Good C (cycS C M sh s) (k + 401):=⟨cyc_ok hC h.ok h.word,cyc_word hC h.word,h.lim.cyc hC⟩
theorem Good.up {j k:Nat} (h:Good C s j) (e:j ≤ k):Good C s k:=⟨h.ok,h.word,h.lim.up e⟩
theorem Good.run (hC:CodeOK C):∀ {n:Nat} {s:St} {k:Nat},Good C s k → Good C (runS C M sh n s) (k + 401 * n)
 | 0,s,k,h=>h
 | n + 1,s,k,h=>by
  rw [runS_succ]
  split
  ·exact h.up (by omega)
  ·exact (Good.run hC (h.cyc hC)).up (by omega)
theorem for_ok (h:SimAt m0 m V C M sv p H s) (hB:SimBase m0 V C M sv sh) {k:Nat} (hG:Good C s k) (n:Nat) (hn:k + 401 * n ≤ 900000000) :
  CallsM Tryz.prog 48 [ptr p,i (n:Int)] m fun e m'=>e = .returned unitV ∧ ∃ H',Goes m0 V C M sv p m H s m' H' (runS C M sh n s):=by
 refine calls_of mixed Tryz.func48 ok_sim_Sim_For rfl ?_
 conv=>whnf
 refine WLoop.mk (Nat × St × HdF × Nat) (fun x=>[(1,.val (i x.1))]) (fun x m'=>Goes m0 V C M sv p m H s m' x.2.2.1 x.2.1 ∧ Good C x.2.1 x.2.2.2 ∧ x.2.2.2 + 401 * x.1 ≤ 900000000 ∧
  runS C M sh x.1 x.2.1 = runS C M sh n s) (fun x=>x.1) (n,s,H,k) ⟨rfl,trivial⟩ ⟨Goes.refl h,hG,hn,rfl⟩ ?_
 rintro ⟨j,sj,Hj,kj⟩ m1 ⟨G,hGj,hkj,hrj⟩
 simp only at G hGj hkj hrj
 have h1:=G.at'
 conv=>whnf
 refine WSc.mk (v:=decide (wordV sj ≥ 0)) (fun _=>?_) ?_
 ·conv=>whnf
  refine WLd.mk (i (wordV sj)) (by rw [add_add];exact h1.cell rfl) ?_
  conv=>whnf
  exact And.intro (Mem.le.refl _) rfl
 have hwv:decide (wordV sj ≥ 0) = !sj.ended:=by
  unfold wordV
  cases sj.ended with
  | true=>rfl
  | false=>rw [if_neg (by decide)];exact decide_eq_true (by omega)
 conv=>whnf
 refine Br.mk (fun hb=>?_) (fun hb=>?_)
 ·have hb:(decide ((j:Int) > 0) && decide (wordV sj ≥ 0)) = true:=hb
  rw [hwv,Bool.and_eq_true,decide_eq_true_eq,Bool.not_eq_true'] at hb
  obtain ⟨j',rfl⟩:∃ j',j = j' + 1:=⟨j - 1,by omega⟩
  rw [runS_succ,if_neg (by rw [hb.2];decide)] at hrj
  conv=>whnf
  refine WCall.mk (cyc_ok2 h1 hB hGj.ok hb.2 hGj.word hGj.lim (by omega)) ?_
  rintro _ m2 ⟨rfl,H2,G2⟩
  conv=>whnf
  refine WRng.mk (by apply wrap_i64 <;> omega) ?_
  conv=>whnf
  refine ⟨(j',cycS C M sh sj,H2,kj + 401),⟨?_,trivial⟩,⟨G.trans G2,hGj.cyc hB.ok,by simp only;omega,hrj⟩,Nat.lt_succ_self j'⟩
  show some (AV.val (i (((j' + 1:Nat):Int) - 1))) = some (AV.val (i (j':Int)))
  rw [show ((j' + 1:Nat):Int) - 1 = (j':Int) by omega]
 ·have hb:(decide ((j:Int) > 0) && decide (wordV sj ≥ 0)) = false:=hb
  rw [hwv,Bool.and_eq_false_iff,decide_eq_false_iff_not,Bool.not_eq_false'] at hb
  have e:runS C M sh n s = sj:=by
   rw [← hrj]
   rcases hb with hb | hb
   ·obtain rfl:j = 0:=by omega
    rfl
   ·exact runS_ended hb j
  conv=>whnf
  exact WRet.same ⟨rfl,Hj,by rw [e];exact G⟩
end
end Go.Proofs.YtleofbpepfmfgaaGreatDoor
set_option linter.unusedSimpArgs false
set_option linter.unusedVariables false
set_option maxRecDepth 100000
namespace Go.Proofs.YtleofbpepfmfgaaGreatDoor
open Go Go.Vx
open Go.Vx.IOp Go.Vx.IR Go.Vx.Opd
theorem fillSim (V:CV) (C:CodeR) (M:Mac) (a:Option Addr) (n c:Nat):fillL [i 0,i 0,i 0,i 0,i 0,ns,ns,ns,ns,ns,i 0,i 0,i 0,i 0,ns,i 0,i 0,i 0,i 0,i 0,i 0,i 0,i 0,i 0,i 0,i 0,ns,ns]
  [(9,6,V.val C),(15,11,.agg ⟨List.take 11 (cellsL M.val)⟩),(26,1,.slice a n c)] = some ([i 0,i 0,i 0,i 0,i 0,ns,ns,ns,ns] ++ V.cells C ++ M.cells ++ [.slice a n c,ns]):=by kernel_rfl
def bareS (C:CodeR):St:=⟨0,0,0,false,3,0,[],List.replicate C.rg.toNat VR.zero,List.replicate C.sp.toNat VR.zero,[],[]⟩
def bareH (br rc bk kc:Nat):HdF:=fun j=>match j with | 1=>⟨some ⟨br,0,none⟩,rc⟩ | 2=>⟨some ⟨bk,0,none⟩,kc⟩ | _=>⟨none,0⟩
theorem flat_vzero (n:Nat):flatL VR.cells (List.replicate n VR.zero) = (List.replicate n [i 0,i 0]).flatten:=by unfold flatL;rw [List.map_replicate];rfl
section
variable {m0 m m':Mem} {V:CV} {C:CodeR} {M:Mac} {sv:Value} {p:Nat} {H:HdF} {s s':St} {sh:List Int}
theorem bare_at {br bk:Nat} (hle:Mem.le m0 m) (hp:m0 p = none) (hbr:m0 br = none) (hbk:m0 bk = none) (hne:br ≠ bk)
  (cp:m p = some (Cells (simCells V C M sv (bareH br C.rg.toNat bk C.sp.toNat) (bareS C)) TSim)) (cr:m br = some (Cells (List.replicate C.rg.toNat [i 0,i 0]).flatten TVal)) (ck:m bk = some (Cells (List.replicate C.sp.toNat [i 0,i 0]).flatten TVal)) :
  SimAt m0 m V C M sv p (bareH br C.rg.toNat bk C.sp.toNat) (bareS C):=by
 have hown:∀ {j b},OwnsB (bareH br C.rg.toNat bk C.sp.toNat j) b → (j = 1 ∧ b = br) ∨ (j = 2 ∧ b = bk):=fun {j b} h=>by
  match j,h with
  | 0,h=>exact absurd rfl h.1
  | 1,h=>exact .inl ⟨rfl,by have:=h.2;cases this;rfl⟩
  | 2,h=>exact .inr ⟨rfl,by have:=h.2;cases this;rfl⟩
  | j + 3,h=>exact absurd rfl h.1
 refine ⟨cp,⟨fun j hj=>?_,fun j hj=>?_,fun j hj hc=>?_,fun j k b hj hk h1 h2=>?_⟩,hle,fun b hb=>?_,fun _=>rfl,fun _=>rfl⟩
 ·match j,hj with
  | 0,_=>rfl
  | 1,_=>exact flat_len vr_len _
  | 2,_=>exact flat_len vr_len _
  | 3,_=>rfl
  | 4,_=>rfl
  | j + 5,hj=>exfalso;unfold famN bareS at hj;simp only [List.length_nil] at hj;omega
 ·match j,hj with
  | 0,_=>exact Nat.le_refl _
  | 1,_=>show (List.replicate _ _).length ≤ _;rw [List.length_replicate];exact Nat.le_refl _
  | 2,_=>show (List.replicate _ _).length ≤ _;rw [List.length_replicate];exact Nat.le_refl _
  | 3,_=>exact Nat.le_refl _
  | 4,_=>exact Nat.le_refl _
  | j + 5,hj=>exfalso;unfold famN bareS at hj;simp only [List.length_nil] at hj;omega
 ·match j,hj,hc with
  | 0,_,hc=>exact absurd rfl hc
  | 1,_,hc =>
   refine ⟨br,[],rfl,?_,?_⟩
   ·rw [List.append_nil];show m br = some (Cells (flatL VR.cells (List.replicate _ _)) _);rw [flat_vzero];exact cr
   ·show (flatL VR.cells (List.replicate _ _)).length + 0 = _;rw [flat_len vr_len,List.length_replicate];rfl
  | 2,_,hc =>
   refine ⟨bk,[],rfl,?_,?_⟩
   ·rw [List.append_nil];show m bk = some (Cells (flatL VR.cells (List.replicate _ _)) _);rw [flat_vzero];exact ck
   ·show (flatL VR.cells (List.replicate _ _)).length + 0 = _;rw [flat_len vr_len,List.length_replicate];rfl
  | j + 3,_,hc=>exact absurd rfl hc
 ·rcases hown h1 with ⟨e1,e2⟩ | ⟨e1,e2⟩ <;> rcases hown h2 with ⟨f1,f2⟩ | ⟨f1,f2⟩
  ·omega
  ·exact absurd (e2.symm.trans f2) hne
  ·exact absurd (f2.symm.trans e2) hne
  ·omega
 ·rcases hb with hb | ⟨j,_,hb⟩
  ·rw [hb];exact hp
  ·rcases hown hb with ⟨_,e⟩ | ⟨_,e⟩ <;> rw [e] <;> assumption
theorem SimAt.pushRow (h:SimAt m0 m V C M sv p H s) {bn bx n:Nat} {mx:Mem} {K:Value → Mem → Prop} (hbn:m bn = none) (hle:Mem.le m mx) (hcn:mx bn = some (Cells (List.replicate n [i 0]).flatten T64)) (hx:mx bx = some (Cells [.slice (some ⟨bn,0,none⟩) n n] TRow)) (hl:s.arr.length ≤ 1000000)
  (k:∀ b' c' m',(∀ K':Mem → Prop,(∀ m2 H',Goes m0 V C M sv p m H s m2 H' { s with arr:=s.arr ++ [List.replicate n 0] } → K' m2) → WSt m' ((⟨p,0,none⟩:Addr).add 8) [.slice (some ⟨b',0,none⟩) (s.arr.length + 1) c'] K') → K (.slice (some ⟨b',0,none⟩) (s.arr.length + 1) c') m') :
  WApp mx TRow 1 24 [ns] (H 3).a s.arr.length (H 3).c (some ⟨bx,0,none⟩) 1 K:=by
 have hz:(List.replicate n [i 0]).flatten = (List.replicate n (0:Int)).map i:=mkZeros n
 rw [hz] at hcn
 have hbp:bn ≠ p:=fun e=>by subst e;rw [h.hp] at hbn;cases hbn
 have hN:famN s = 5 + s.arr.length:=rfl
 -- the family with the new array's block
 have hF:FamAt mx (famN s + 1) tyS szS (H.upd (famN s) ⟨some ⟨bn,0,none⟩,n⟩) (fun j=>if j = famN s then n else numS s j) (fun j=>if j = famN s then (List.replicate n (0:Int)).map i else contS H s j):=by
  have h1:=h.fam.mono hle
  have hty:tyS (famN s) = T64:=by rw [hN,Nat.add_comm];rfl
  have hsz:szS (famN s) = 1:=by rw [hN,Nat.add_comm];rfl
  refine ⟨fun j hj=>?_,fun j hj=>?_,fun j hj hc=>?_,fun j k b hj hk hoj hok=>?_⟩
  ·by_cases e:j = famN s
   ·rw [if_pos e,if_pos e,e,hsz];simp
   ·rw [if_neg e,if_neg e];exact h1.len j (by omega)
  ·by_cases e:j = famN s
   ·rw [if_pos e,e,upd_same];exact Nat.le_refl _
   ·rw [if_neg e,upd_other H _ e];exact h1.cap j (by omega)
  ·by_cases e:j = famN s
   ·subst e
    rw [upd_same,if_pos rfl,hty,hsz]
    exact ⟨bn,[],rfl,by rw [List.append_nil];exact hcn,by simp⟩
   ·rw [upd_other H _ e] at hc ⊢
    rw [if_neg e]
    exact h1.blk j (by omega) hc
  ·have key:∀ q,q < famN s → OwnsB (H q) b → OwnsB (H.upd (famN s) ⟨some ⟨bn,0,none⟩,n⟩ (famN s)) b → False:=fun q hq h1' h2'=>by
    rw [upd_same] at h2'
    have:=h2'.2
    cases this
    exact h.free hbn (.inr ⟨q,hq,h1'⟩)
   by_cases e1:j = famN s
   ·by_cases e2:k = famN s
    ·rw [e1,e2]
    ·subst e1;rw [upd_other H _ e2] at hok;exact (key k (by omega) hok hoj).elim
   ·by_cases e2:k = famN s
    ·subst e2;rw [upd_other H _ e1] at hoj;exact (key j (by omega) hoj hok).elim
    ·rw [upd_other H _ e1] at hoj;rw [upd_other H _ e2] at hok
     exact h1.inj j k b (by omega) (by omega) hoj hok
 have n3:(3:Nat) ≠ famN s:=by omega
 have hH3:(H.upd (famN s) ⟨some ⟨bn,0,none⟩,n⟩) 3 = H 3:=upd_other H _ n3
 have happ:=hF.app (k:=3) (bx:=bx) (Tx:=TRow) (n:=s.arr.length) (c:=(H 3).c) (bytes:=24) (a:=(H 3).a) (x:=[.slice (some ⟨bn,0,none⟩) n n]) (zero:=[ns]) (K:=K) (by omega) (by rw [hH3]) (by rw [if_neg n3];rfl) (by rw [hH3]) rfl (by decide) hx rfl rfl
  (by rw [if_neg n3];show (s.arr.length + 1) * 24 ≤ _;omega) (fun e=>by
   rw [if_neg n3]
   rw [hH3] at e
   cases hh:s.arr.length with
   | zero=>exact hh
   | succ q =>
    obtain ⟨b,_,hb,_⟩:=h.fam.room (j:=3) (by omega) (show s.arr.length ≠ 0 by omega)
    rw [hb.2] at e;cases e)
 refine happ fun b' c' rest m' hm hc hr hb hx'=>?_
 rw [if_neg n3] at hc hm hr
 rw [hH3] at hb
 have h3N:3 < famN s:=by omega
 have hpb:p ≠ b':=by
  rcases hb with hb | hb
  ·exact ne_free (hle _ _ h.hp) hb
  ·exact fun e=>h.notp ⟨3,h3N,hb⟩ e.symm
 have e1:(if 3 = famN s then n else numS s 3) + 1 = s.arr.length + 1:=by rw [if_neg n3];rfl
 rw [e1]
 refine k b' c' m' fun K' hK=>?_
 have hp2:m' p = some (Cells (simCells V C M sv H s) TSim):=by rw [hx' p hpb];exact hle _ _ h.hp
 refine WSt.at _ _ hp2 (show 8 + 1 ≤ 28 by decide) ?_
 generalize hs2:({ s with arr:=s.arr ++ [List.replicate n 0] }:St) = s2 at hK
 have arr2:s2.arr = s.arr ++ [List.replicate n 0]:=by rw [← hs2]
 have hN2:famN s2 = famN s + 1:=by unfold famN;rw [arr2,List.length_append];rfl
 have get2:∀ q,q < s.arr.length → s2.arr.getD q [] = s.arr.getD q []:=fun q hq=>by rw [arr2,List.getD_eq_getElem?_getD,List.getElem?_append_left hq,List.getD_eq_getElem?_getD]
 have getN:s2.arr.getD s.arr.length [] = List.replicate n 0:=by rw [arr2,List.getD_eq_getElem?_getD,List.getElem?_append_right (Nat.le_refl _),Nat.sub_self];rfl
 generalize hH2:(H.upd (famN s) ⟨some ⟨bn,0,none⟩,n⟩).upd 3 ⟨some ⟨b',0,none⟩,c'⟩ = H2
 have h2_3:H2 3 = ⟨some ⟨b',0,none⟩,c'⟩:=by rw [← hH2,upd_same]
 have h2_N:H2 (famN s) = ⟨some ⟨bn,0,none⟩,n⟩:=by rw [← hH2,upd_other _ _ (Ne.symm n3),upd_same]
 have h2_o:∀ j,j ≠ 3 → j ≠ famN s → H2 j = H j:=fun j e1 e2=>by rw [← hH2,upd_other _ _ e1,upd_other _ _ e2]
 have hrows:rowsV H2 s2.arr = rowsV H s.arr ++ [.slice (some ⟨bn,0,none⟩) n n]:=by
  unfold rowsV
  have:s2.arr.length = s.arr.length + 1:=by rw [arr2,List.length_append];rfl
  rw [this,List.range_succ,List.map_append]
  congr 1
  ·apply List.map_congr_left
   intro j hj
   have hj:=List.mem_range.1 hj
   rw [h2_o (j + 5) (by omega) (by omega),get2 j hj]
  ·show [Value.slice (H2 (s.arr.length + 5)).a (s2.arr.getD s.arr.length []).length (H2 (s.arr.length + 5)).c] = _
   rw [getN,show s.arr.length + 5 = famN s by omega,h2_N,List.length_replicate]
 have hnum:∀ j,j < famN s + 1 → j ≠ 3 → H2 j = (H.upd (famN s) ⟨some ⟨bn,0,none⟩,n⟩) j ∧ numS s2 j = (if j = famN s then n else numS s j) ∧ contS H2 s2 j = (if j = famN s then (List.replicate n (0:Int)).map i else contS H s j):=fun j hj e=>by
  by_cases eN:j = famN s
  ·subst eN
   rw [h2_N,upd_same,if_pos rfl,if_pos rfl,hN,Nat.add_comm]
   refine ⟨rfl,?_,?_⟩
   ·show (s2.arr.getD s.arr.length []).length = n;rw [getN,List.length_replicate]
   ·show (s2.arr.getD s.arr.length []).map i = _;rw [getN]
  ·rw [h2_o j e eN,upd_other _ _ eN,if_neg eN,if_neg eN]
   refine ⟨rfl,?_⟩
   rw [← hs2]
   match j,e,hj with
   | 0,_,_=>exact ⟨rfl,rfl⟩
   | 1,_,_=>exact ⟨rfl,rfl⟩
   | 2,_,_=>exact ⟨rfl,rfl⟩
   | 4,_,_=>exact ⟨rfl,rfl⟩
   | j + 5,_,hj =>
    have g:=get2 j (by omega)
    rw [← hs2] at g
    exact ⟨by show (List.getD _ j []).length = _;rw [g];rfl,by show (List.getD _ j []).map i = _;rw [g];rfl⟩
 have hcells:spliceL (simCells V C M sv H s) 8 [.slice (some ⟨b',0,none⟩) (s.arr.length + 1) c'] = simCells V C M sv H2 s2:=by
  have e8:hv H2 s2 3 = .slice (some ⟨b',0,none⟩) (s.arr.length + 1) c':=by unfold hv;rw [h2_3];show Value.slice _ s2.arr.length _ = _;rw [arr2,List.length_append];rfl
  have e0:∀ j,j < 5 → j ≠ 3 → hv H2 s2 j = hv H s j:=fun j h1 h2=>by
   have:=hnum j (by omega) h2
   unfold hv
   rw [h2_o j h2 (by omega),this.2.1,if_neg (by omega)]
  unfold simCells
  rw [e8,e0 0 (by decide) (by decide),e0 1 (by decide) (by decide),e0 2 (by decide) (by decide),e0 4 (by decide) (by decide),← hs2]
  rfl
 have cell2:CellAt m ((⟨p,0,none⟩:Addr).add 0) (i (wordV s)):=h.cell rfl
 show K' (m'.set p (Cells (spliceL (simCells V C M sv H s) 8 [.slice (some ⟨b',0,none⟩) (s.arr.length + 1) c']) TSim))
 rw [hcells]
 generalize hm2:m'.set p (Cells (simCells V C M sv H2 s2) TSim) = m2
 have hfoot:∀ x,FootS p H2 s2 x → FootS p H s x ∨ m x = none:=fun x hf=>by
  rcases hf with hf | ⟨j,hj,hf⟩
  ·exact .inl (.inl hf)
  ·rw [hN2] at hj
   by_cases e3:j = 3
   ·subst e3
    rw [h2_3] at hf
    have:=hf.2
    cases this
    rcases hb with hb | hb
    ·exact .inr (none_of_le hle hb)
    ·exact .inl (.inr ⟨3,h3N,hb⟩)
   ·by_cases eN:j = famN s
    ·subst eN
     rw [h2_N] at hf
     have:=hf.2
     cases this
     exact .inr hbn
    ·rw [h2_o j e3 eN] at hf
     exact .inl (.inr ⟨j,by omega,hf⟩)
 have hkeep:Keep (FootS p H s) m m2:=fun x o hxo hn=>by
  have e1:x ≠ p:=fun e=>hn (.inl e)
  have e2:x ≠ b':=fun e=>by
   subst e
   rcases hb with hb | hb
   ·rw [hle _ _ hxo] at hb;cases hb
   ·exact hn (.inr ⟨3,h3N,hb⟩)
  rw [← hm2,Mem.set_other _ _ e1,hx' x e2];exact hle _ _ hxo
 refine hK m2 H2 ⟨⟨by rw [← hm2,Mem.set_same],?_,hkeep.le h.le h.nw,fun x hf=>?_,fun e=>?_,fun e=>?_⟩,hkeep,hfoot⟩
 ·rw [hN2]
  refine hF.put (k:=3) (b:=b') (rest:=rest) (by omega) hnum (by rw [h2_3]) (by rw [hH3];exact hb) ?_ ?_ ?_ ?_ fun x o e hf hxo=>?_
  ·rw [← hm2,Mem.set_other _ _ (Ne.symm hpb)]
   show m' b' = some (Cells (rowsV H2 s2.arr ++ rest) TRow)
   rw [hrows];exact hm
  ·show (rowsV H2 s2.arr).length = s2.arr.length * 1
   unfold rowsV;simp
  ·rw [h2_3];show s2.arr.length ≤ c';rw [arr2,List.length_append];exact hc
  ·rw [h2_3];show (rowsV H2 s2.arr).length + rest.length = c' * 1;rw [hrows];exact hr
  ·have e1:x ≠ p:=by
    rcases hf with ⟨j,hj,hf⟩
    by_cases eN:j = famN s
    ·subst eN
     rw [upd_same] at hf
     have:=hf.2
     cases this
     exact hbp
    ·rw [upd_other _ _ eN] at hf;exact h.notp ⟨j,by omega,hf⟩
   rw [← hm2,Mem.set_other _ _ e1,hx' x e];exact hxo
 ·rcases hfoot x hf with g | g
  ·exact h.nw x g
  ·exact none_of_le h.le g
 ·rw [h2_o 0 (by decide) (by omega)] at e;rw [← hs2];exact h.nil0 e
 ·rw [h2_o 4 (by decide) (by omega)] at e;rw [← hs2];exact h.nil4 e
end
end Go.Proofs.YtleofbpepfmfgaaGreatDoor
