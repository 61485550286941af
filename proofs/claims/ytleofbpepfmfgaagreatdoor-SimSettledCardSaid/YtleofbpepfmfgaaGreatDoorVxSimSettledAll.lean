import Derived.Test.YtleofbpepfmfgaaGreatDoorVxSimPtLaw
set_option linter.unusedSimpArgs false
set_option linter.unusedVariables false
set_option maxRecDepth 100000
namespace Go.Proofs.YtleofbpepfmfgaaGreatDoor
open Go Go.Vx
open Go.Vx.IOp Go.Vx.IR Go.Vx.Opd
def irr_biremelaw27_SimSettled:Vx.Fn:={ nt:=111,res:=[.t 10],body:=seq (ops (.run [x 5 (vb (t 0)),x 6 (vb (t 1)),x 10 (mv (c (.bool false)))] <| .nil)) (seq (seq (ops (.run [x 20 (vlds 5 5 6),x 21 (vlds 6 6 11),x 22 (mv (t 2)),x 23 (call 27 [t 20,t 21,t 22]),x 24 (un .not (t 23)),x 25 (mv (t 24))] <| .sc 25 false [(26,28)] (.run [x 26 (mv (t 3)),x 27 (len (t 26)),x 28 (bin .gtr (t 27) (c (i 1000)))] <| .nil) 29 (t 28) <| .nil)) (cond (t 29) (seq (ops (.run [x 30 (call 14 []),x 10 (mv (t 30))] <| .nil)) (ret)) (skip))) (seq (tree [x 32 (vlds 5 5 6),x 33 (callG 15 [t 32]),x 34 (vlds 6 6 11),x 35 (mv (t 2)),x 36 (mv (t 3)),x 37 (callG 16 [t 36]),x 38 (callG 17 [t 33,t 34,t 35,c (i 400),t 37]),x 31 (mv (t 38)),x 39 (ext (t 31) 0),x 40 (ext (t 31) 1),x 41 (ext (t 31) 2),x 11 (va [ns,i 0,i 0]),x 11 (vst 11 11 (t 39) 3),x 12 (mv (t 40)),x 13 (mv (t 41))] (.pure 0 (.pure 2 (.pure 3 (.pure 4 (.alt 1 (.alt 5 (.alt 6 (.pure 7 (.pure 8 (.pure 9 (.pure 10 (.alt 11 (.alt 12 (.pure 13 (.pure 14 (RT.nil))) (.done)) (.done)))))) (.alt 11 (.alt 6 (.pure 7 (.pure 8 (.pure 9 (.pure 10 (.alt 12 (.pure 13 (.pure 14 (RT.nil))) (.done)))))) (.done)) (.done))) (.alt 11 (.alt 5 (.alt 6 (.pure 7 (.pure 8 (.pure 9 (.pure 10 (.alt 12 (.pure 13 (.pure 14 (RT.nil))) (.done)))))) (.done)) (.done)) (.done))) (.alt 11 (.alt 1 (.alt 5 (.alt 6 (.pure 7 (.pure 8 (.pure 9 (.pure 10 (.alt 12 (.pure 13 (.pure 14 (RT.nil))) (.done)))))) (.done)) (.done)) (.done)) (.done)))))))) (seq (tree [x 43 (vlds 5 5 6),x 44 (call 15 [t 43]),x 45 (vlds 6 6 11),x 46 (mv (t 2)),x 47 (mv (t 3)),x 48 (call 16 [t 47]),x 49 (call 29 [t 44,t 45,t 46,t 48]),x 42 (mv (t 49)),x 50 (ext (t 42) 0),x 51 (ext (t 42) 1),x 14 (mv (t 50)),x 15 (mv (t 51))] (.pure 0 (.pure 2 (.pure 3 (.pure 4 (.alt 1 (.alt 5 (.alt 6 (.pure 7 (.pure 8 (.pure 9 (.pure 10 (.pure 11 (RT.nil)))))) (.done)) (.done)) (.done))))))) (seq (seq (ops (.run [x 52 (mv (t 13)),x 53 (bin .neq (t 52) (c (i 0))),x 54 (mv (t 53))] <| .sc 54 false [(55,56)] (.run [x 55 (mv (t 15)),x 56 (bin .neq (t 55) (c (i 0)))] <| .nil) 57 (t 56) <| .run [x 58 (mv (t 57))] <| .sc 58 false [(59,60)] (.run [x 59 (mv (t 14)),x 60 (eq .p false (t 59) (c (np)))] <| .nil) 61 (t 60) <| .nil)) (cond (t 61) (seq (ops (.run [x 10 (mv (c (.bool false)))] <| .nil)) (ret)) (skip))) (seq (seq (ops (.run [x 16 (mv (c (i 0)))] <| .nil)) (block 0 (loop [(16,16),(62,85)] (seq (seq (ops (.run [x 62 (mv (t 16)),x 63 (mv (t 4)),x 64 (len (t 63)),x 65 (bin .lss (t 62) (t 64)),x 66 (mv (t 65))] <| .sc 66 true [(67,68)] (.run [x 67 (mv (t 16)),x 68 (bin .lss (t 67) (c (i 20)))] <| .nil) 69 (t 68) <| .nil)) (cond (t 69) (skip) (exit 0))) (seq (block 1 (seq (tree [x 72 (mv (t 14)),x 73 (mv (t 4)),x 74 (mv (t 16)),x 75 (ia (t 73) (t 74) 1),x 76 (ld (t 75)),x 77 (div .rem (t 76) (c (.int .u8 16))),x 78 (cvN .i64 (t 77)),x 79 (mv (t 14)),x 80 (callG 31 [t 79]),x 81 (binN .sub (c (i 400)) (t 80)),x 82 (mm false [t 78,t 81]),x 83 (call 30 [t 72,t 82])] (.pure 0 (.pure 1 (.pure 2 (.pure 3 (.pure 7 (.alt 4 (.pure 5 (.pure 6 (.alt 8 (.pure 9 (.pure 10 (.alt 11 (RT.nil) (.done)))) (.done)))) (.alt 8 (.pure 9 (.alt 4 (.pure 5 (.pure 6 (.pure 10 (.alt 11 (RT.nil) (.done))))) (.done))) (.done))))))))) (ops (.run [x 84 (mv (t 14)),x 85 (call 32 [t 84])] <| .nil)))) (ops (.run [x 70 (mv (t 16)),x 71 (binN .add (t 70) (c (i 1))),x 16 (mv (t 71))] <| .nil))))))) (seq (ops (.run [x 87 (mv (t 14)),x 88 (mv (t 14)),x 89 (call 31 [t 88]),x 90 (binN .sub (c (i 400)) (t 89)),x 91 (call 30 [t 87,t 90]),x 86 (mv (t 91)),x 92 (ext (t 86) 0),x 93 (ext (t 86) 1),x 94 (ext (t 86) 2),x 17 (va [ns,i 0,i 0]),x 17 (vst 17 17 (t 92) 3),x 18 (mv (t 93)),x 19 (mv (t 94))] <| .nil)) (seq (ops (.run [x 95 (mv (t 19)),x 96 (bin .eql (t 95) (c (i 0))),x 97 (mv (t 96))] <| .sc 97 true [(98,101)] (.run [x 98 (mv (t 14)),x 99 (call 31 [t 98]),x 100 (mv (t 12)),x 101 (bin .eql (t 99) (t 100))] <| .nil) 102 (t 101) <| .run [x 103 (mv (t 102))] <| .sc 103 true [(104,106)] (.run [x 104 (vlds 11 11 3),x 105 (vlds 17 17 3),x 106 (call 19 [t 104,t 105])] <| .nil) 107 (t 106) <| .run [x 108 (mv (t 107))] <| .sc 108 true [(109,109)] (.run [x 109 (call 14 [])] <| .nil) 110 (t 109) <| .run [x 10 (mv (t 110))] <| .nil)) (ret)))))))) }
theorem okr_biremelaw27_SimSettled:okFn Tryz.prog Tryz.f8 irr_biremelaw27_SimSettled = true:=by kernel_rfl
section
variable {C:CodeR} {M:Mac} {sh:List Int} {s:St}
theorem mem_took {o:OpR}:(memS M sh s o).1.took = s.took:=by
 unfold memS
 split
 ·rfl
 ·split
  ·rfl
  ·generalize nMem s o = n
   split
   ·rfl
   ·split
    ·rfl
    ·split <;> rfl
theorem out_took {o:OpR}:(outS s o).s.took = s.took:=by
 unfold outS
 split
 ·rfl
 ·split
  ·rfl
  ·split
   ·rfl
   ·split
    ·split <;> rfl
    ·split
     ·rfl
     ·split <;> rfl
theorem do_took {o:OpR}:(doS M sh s o).s.took = s.took:=by
 unfold doS
 split
 ·rfl
 ·split
  ·rfl
  ·unfold bodyS
   split
   ·exact mem_took
   ·split
    ·exact out_took
    ·split <;> rfl
theorem trap_took {ct n:Int}:(trapS C s ct n).took = s.took:=by unfold trapS;split <;> rfl
theorem ops_took {ct:Int}:∀ {L:List OpR} {s:St},(opsS C M sh ct L s).took = s.took
 | [],s=>rfl
 | o :: L,s=>by
  unfold opsS
  split
  ·rw [trap_took,do_took]
  ·split
   ·exact do_took
   ·rw [ops_took,do_took]
theorem cyc_took:(cycS C M sh s).took = s.took + 1:=by
 show (opsS _ _ _ _ _ (goS s)).took + 1 = _
 rw [ops_took];rfl
theorem run_took:∀ {n:Nat} {s:St},((runS C M sh n s).ended = false → (runS C M sh n s).took = s.took + n) ∧ (runS C M sh n s).took ≤ s.took + n
 | 0,s=>⟨fun _=>rfl,Nat.le_refl _⟩
 | n + 1,s=>by
  rw [runS_succ]
  split
  ·rename_i h
   exact ⟨(fun e=>by rw [h] at e;cases e),by omega⟩
  ·have:=run_took (n:=n) (s:=cycS C M sh s)
   rw [cyc_took] at this
   exact ⟨fun e=>by rw [this.1 e];omega,by omega⟩
end
structure SetInv (C:CodeR) (M:Mac) (sh args:List Int) (A:WS) (q:Nat) (t:St):Prop where
 rel:Rel2 A (runS C M sh q (beginS C args)) t
 tk:t.ended = false → t.took = q
 le:t.took ≤ q
 q400:q ≤ 400
 good:Good C t (401 * q)
section
variable {C:CodeR} {M:Mac} {sh args:List Int} {A:WS} {q:Nat} {t:St}
theorem SetInv.run (h:SetInv C M sh args A q t) (hC:CodeOK C) (hM:M.ok = true) (hA:Least C M A) (hS:strictA C M A) {n:Nat} (hn:n ≤ 400 - t.took):∃ q',SetInv C M sh args A q' (runS C M sh n t):=by
 by_cases he:t.ended = true
 ·rw [runS_ended he];exact ⟨q,h⟩
 ·have he:t.ended = false:=by simpa using he
  have htk:=h.tk he
  refine ⟨q + n,?_,fun e=>?_,?_,?_,?_⟩
  ·rw [runS_add]
   exact run_same hC hA.is hS (latOK sh (lat_all hM) fun _=>Int.le_refl _) (latOK sh (lat_all hM) fun _=>Int.le_refl _) h.rel
  ·rw [(run_took).1 e,htk]
  ·have:=(run_took (C:=C) (M:=M) (sh:=sh) (n:=n) (s:=t)).2;omega
  ·have:=h.le;have:=h.q400;omega
  ·exact (Good.run hC h.good).up (by omega)
theorem SetInv.settle (h:SetInv C M sh args A q t):SetInv C M sh args A q (settleS t) :=
 ⟨h.rel.settle,h.tk,h.le,h.q400,⟨settle_ok h.good.ok,h.good.word,h.good.lim.same rfl rfl (.inr rfl) rfl⟩⟩
theorem SetInv.last (h:SetInv C M sh args A q t) (hC:CodeOK C) (hM:M.ok = true) (hA:Least C M A) (hS:strictA C M A):Same (runS C M sh 400 (beginS C args)) (runS C M sh (400 - t.took) t):=by
 have hq:=h.q400
 by_cases he:t.ended = true
 ·rw [runS_ended he]
  have h2:(runS C M sh q (beginS C args)).ended = true:=by rw [h.rel.1.ended];exact he
  have e:runS C M sh 400 (beginS C args) = runS C M sh q (beginS C args):=by
   rw [show 400 = q + (400 - q) by omega,runS_add,runS_ended h2]
  rw [e];exact h.rel.1
 ·have he:t.ended = false:=by simpa using he
  rw [h.tk he]
  have e:runS C M sh 400 (beginS C args) = runS C M sh (400 - q) (runS C M sh q (beginS C args)):=by rw [← runS_add,show q + (400 - q) = 400 by omega]
  rw [e]
  exact (run_same hC hA.is hS (latOK sh (lat_all hM) fun _=>Int.le_refl _) (latOK sh (lat_all hM) fun _=>Int.le_refl _) h.rel).1
theorem SetInv.begin (hC:CodeOK C) (hA:Least C M A) (hal:args.length ≤ C.rg.toNat):SetInv C M sh args A 0 (beginS C args) :=
 ⟨Rel2.begin hA.is args,fun _=>rfl,Nat.le_refl _,by decide,begin_good hC hal⟩
end
def stTail:IR:=(match irr_biremelaw27_SimSettled.body with | .seq _ (.seq _ (.seq _ r))=>r | r=>r)
def stA:IR:=(match irr_biremelaw27_SimSettled.body with | .seq a _=>a | r=>r)
def stB:IR:=(match irr_biremelaw27_SimSettled.body with | .seq _ (.seq b _)=>b | r=>r)
def stT:IR:=(match irr_biremelaw27_SimSettled.body with | .seq _ (.seq _ (.seq b _))=>b | r=>r)
theorem st_body:irr_biremelaw27_SimSettled.body = .seq stA (.seq stB (.seq stT stTail)):=rfl
section
variable {m0 m:Mem} {T:Nat} {fr:Nat × Nat} {V:CV} {C:CodeR} {M:Mac} {aa:Option Addr} {ca:Nat} {args:List Int}
theorem stTail_ok (hm:m0 0 = some (.cells ⟨cells0⟩ T fr)) (hle:Mem.le m0 m) (hV:CodeAt m0 V C) (hs:StrictIs C M args.length) (hargs:IAt m0 (.slice aa args.length ca) args) {sh:List Int} {sa:Option Addr} {sc:Nat} (hsh:IAt m0 (.slice sa sh.length sc) sh) (hl:sh.length ≤ 1000)
  {after:List Int} {pa:Option Addr} {pc:Nat} (hafter:BAt m0 (.slice pa after.length pc) after)
  {A1:Option Addr} {c1:Nat} {P:List Int} {kd nn k:Int} (hP:(runS (cut27 C) M sh 400 (beginS (cut27 C) args)).prints = P) (hkd:(runS (cut27 C) M sh 400 (beginS (cut27 C) args)).kind = kd) (hnn:(runS (cut27 C) M sh 400 (beginS (cut27 C) args)).value = nn)
  (hk:((runS (cut27 C) M sh 400 (beginS (cut27 C) args)).took:Int) = k) (h1:OutAt m (.agg ⟨[.slice A1 P.length c1,i kd,i nn]⟩) P kd nn)
  (hal:∀ m',Mem.le m0 m' → CallsM Tryz.prog 14 [] m' fun e m''=>e = .returned (.bool true) ∧ m'' = m') :
  wpI Tryz.prog stTail (retPost [.t 10] fun e m'=>e = .returned (.bool true) ∧ Mem.le m0 m')
   (envL [(2,.val (.slice aa args.length ca)),(3,.val (.slice sa sh.length sc)),(4,.val (.slice pa after.length pc)),(5,.var (V.cells C)),(6,.var M.cells),(11,.var [.slice A1 P.length c1,i kd,i nn]),(12,.val (i k)),(13,.val (i 0))]) m:=by
 obtain ⟨hC,hM,hal2⟩:=hs.fit
 obtain ⟨A0,hA,hS0⟩:=hs.2.2.2
 obtain ⟨pa',pc',epe,b0,b1,_,b3⟩:=hafter
 injection epe with ep1 _ ep3
 subst ep1;subst ep3
 have hPl:P.length ≤ 1000000000:=by rw [← hP];exact lim400 hC hal2 (by decide)
 conv=>whnf
 refine ⟨?_,trivial⟩
 conv=>whnf
 refine WCall.mk (lawOwn_ok V (hV.mono hle)) ?_
 rintro _ m2 ⟨V2,rfl,l2,hV2⟩
 conv=>whnf
 refine ⟨?_,trivial⟩
 conv=>whnf
 refine WCall.mk (few_all (hsh.mono (hle.trans l2)) hl) ?_
 rintro _ m3 ⟨A3,c3,rfl,l3,hI3⟩
 have L3:=(hle.trans l2).trans l3
 conv=>whnf
 refine ⟨?_,trivial⟩
 conv=>whnf
 refine WCall.mk (simStart_ok (L3 _ _ hm) V2 M (hV2.mono l3) (hargs.mono L3) hI3) ?_
 rintro _ m4 ⟨l4,_,hs4⟩
 obtain ⟨p,mb,V4,sv,H,rfl,lb,hB,hS⟩:=hs4 (start_of hs.2.1 hs.2.2.1 hl)
 have Lb:=L3.trans lb
 have h1b:=h1.mono ((l2.trans l3).trans lb)
 conv=>whnf
 refine WSc.mk (v:=false) (fun _=>And.intro (Mem.le.refl _) rfl) ?_
 conv=>whnf
 refine WSc.mk (v:=false) (fun _=>And.intro (Mem.le.refl _) rfl) ?_
 conv=>whnf
 refine Br.mk (fun h=>by cases h) (fun _=>?_)
 conv=>whnf
 refine WLoop.mk (Nat × Nat × St × HdF) (fun x=>[(16,.val (i x.1))]) (fun x m'=>x.1 ≤ 20 ∧ x.1 ≤ after.length ∧ SetInv (cut27 C) M sh args A0 x.2.1 x.2.2.1 ∧ SimAt mb m' V4 (cut27 C) M sv p x.2.2.2 x.2.2.1) (fun x=>after.length - x.1)
  (0,0,beginS (cut27 C) args,H) ⟨rfl,trivial⟩ ⟨Nat.zero_le _,Nat.zero_le _,SetInv.begin hC hA hal2,hS⟩ ?_
 rintro ⟨j,q,t,Hj⟩ m6 ⟨hj1,hj2,hI,hSj⟩
 simp only at hj1 hj2 hI hSj
 have L6:Mem.le m0 m6:=Lb.trans hSj.le
 have hq4:=hI.q400
 have htq:=hI.le
 have hrun:=fun (n:Nat) (hn:n ≤ 400) (z:Int) (hz:z = (n:Int))=>show CallsM Tryz.prog 30 [ptr p,i z] m6 _ from hz ▸ sRun_ok hSj hB hI.good n (by omega) (by omega) (by omega)
 conv=>whnf
 refine WSc.mk (v:=decide ((j:Int) < 20)) (fun _=>And.intro (Mem.le.refl _) rfl) ?_
 conv=>whnf
 refine Br.mk (fun hb=>?_) (fun hb=>?_)
 ·have hb:(decide ((j:Int) < (after.length:Nat)) && decide ((j:Int) < 20)) = true:=hb
  rw [Bool.and_eq_true,decide_eq_true_eq,decide_eq_true_eq] at hb
  have hj3:j < after.length:=by omega
  obtain ⟨ad,rfl⟩:∃ ad,pa = some ad:=by
   cases pa with
   | none=>rw [b0 rfl] at hj3;simp at hj3
   | some ad=>exact ⟨ad,rfl⟩
  have hcell:CellAt m6 (ad.add j) (.int .u8 after[j]):=(BAt.cell (b1 ad rfl) hj3).mono L6
  have h16:=mod16 (b3 _ (List.getElem_mem hj3))
  have hmin:∃ n:Nat,n ≤ 400 - t.took ∧ (if (400:Int) - (t.took:Int) < after[j].tmod 16 then (400:Int) - (t.took:Int) else after[j].tmod 16) = (n:Int):=by
   by_cases e:(400:Int) - (t.took:Int) < after[j].tmod 16
   ·rw [if_pos e];exact ⟨400 - t.took,Nat.le_refl _,by omega⟩
   ·rw [if_neg e];exact ⟨(after[j].tmod 16).toNat,by omega,by omega⟩
  obtain ⟨n,hn,hmn⟩:=hmin
  have fin:∀ {m7:Mem} {H7:HdF},SimAt mb m7 V4 (cut27 C) M sv p H7 (runS (cut27 C) M sh n t) → CallsM Tryz.prog 32 [ptr p] m7 fun e m'=>e = .returned (i 0) ∧ ∃ q' H',SetInv (cut27 C) M sh args A0 q' (settleS (runS (cut27 C) M sh n t)) ∧ SimAt mb m' V4 (cut27 C) M sv p H' (settleS (runS (cut27 C) M sh n t)):=fun h7=>by
   obtain ⟨q',hI'⟩:=hI.run hC hM hA hS0 hn
   refine CallsM.mono (sSettle_ok h7 hB hI'.good (by have:=hI'.q400;omega)) ?_
   rintro e m' ⟨rfl,H',G⟩
   exact ⟨rfl,q',H',hI'.settle,G.at'⟩
  conv=>whnf
  refine WIdx.mk ad rfl ⟨by omega,by omega⟩ ?_
  conv=>whnf
  refine ⟨?_,?_,trivial⟩
  ·conv=>whnf
   refine WLd.mk (.int .u8 after[j]) (by simpa using hcell) ?_
   conv=>whnf
   refine WNe.mk (by decide) ?_
   conv=>whnf
   refine WRng.mk (by apply wrap_i64 <;> omega) ?_
   conv=>whnf
   refine ⟨?_,trivial⟩
   conv=>whnf
   refine WCallG.pure (sCycles_ok hSj hB) ?_
   conv=>whnf
   refine WRng.mk (by apply wrap_i64 <;> omega) ?_
   conv=>whnf
   refine ⟨?_,trivial⟩
   conv=>whnf
   refine WCall.mk (hrun n (by omega) _ hmn) ?_
   rintro _ m7 ⟨H7,_,G7,rfl,A7,c7,rfl,_⟩
   conv=>whnf
   refine WCall.mk (fin G7.at') ?_
   rintro _ m8 ⟨rfl,q',H8,hI8,hS8⟩
   conv=>whnf
   refine WRng.mk (by apply wrap_i64 <;> omega) ?_
   conv=>whnf
   exact ⟨(j + 1,q',settleS (runS (cut27 C) M sh n t),H8),⟨rfl,trivial⟩,⟨by show j + 1 ≤ 20;omega,hj3,hI8,hS8⟩,Nat.sub_lt_sub_left hj3 (Nat.lt_succ_self j)⟩
  ·conv=>whnf
   refine WCallG.pure (sCycles_ok hSj hB) ?_
   conv=>whnf
   refine WRng.mk (by apply wrap_i64 <;> omega) ?_
   conv=>whnf
   refine ⟨?_,trivial⟩
   conv=>whnf
   refine WLd.mk (.int .u8 after[j]) (by simpa using hcell) ?_
   conv=>whnf
   refine WNe.mk (by decide) ?_
   conv=>whnf
   refine WRng.mk (by apply wrap_i64 <;> omega) ?_
   conv=>whnf
   refine ⟨?_,trivial⟩
   conv=>whnf
   refine WCall.mk (hrun n (by omega) _ hmn) ?_
   rintro _ m7 ⟨H7,_,G7,rfl,A7,c7,rfl,_⟩
   conv=>whnf
   refine WCall.mk (fin G7.at') ?_
   rintro _ m8 ⟨rfl,q',H8,hI8,hS8⟩
   conv=>whnf
   refine WRng.mk (by apply wrap_i64 <;> omega) ?_
   conv=>whnf
   exact ⟨(j + 1,q',settleS (runS (cut27 C) M sh n t),H8),⟨rfl,trivial⟩,⟨by show j + 1 ≤ 20;omega,hj3,hI8,hS8⟩,Nat.sub_lt_sub_left hj3 (Nat.lt_succ_self j)⟩
 ·have hlast:=hI.last hC hM hA hS0
  have hn400:((400 - t.took:Nat):Int) = 400 - (t.took:Int):=by omega
  have hfin:=hrun (400 - t.took) (by omega) (400 - (t.took:Int)) hn400.symm
  have g1:=hlast.prints
  have g2:=hlast.kind
  have g3:=hlast.value
  have g4:=hlast.took
  rw [hP] at g1
  rw [hkd] at g2
  rw [hnn] at g3
  conv=>whnf
  refine WCall.pure (sCycles_ok hSj hB) ?_
  conv=>whnf
  refine WRng.mk (by apply wrap_i64 <;> omega) ?_
  conv=>whnf
  refine WCall.mk hfin ?_
  rintro _ m7 ⟨H7,_,G7,rfl,A7,c7,rfl,hI7⟩
  have h7:=G7.at'
  rw [← g1,← g2,← g3]
  rw [← g1] at hI7
  have L7:Mem.le m0 m7:=Lb.trans h7.le
  have h17:=h1b.mono h7.le
  have ek:(((runS (cut27 C) M sh (400 - t.took) t).took:Int) == k) = true:=by
   rw [← hk,g4];simp
  conv=>whnf
  refine WSc.mk (v:=((runS (cut27 C) M sh (400 - t.took) t).took:Int) == k) (fun _=>?_) ?_
  ·conv=>whnf
   refine WCall.pure (sCycles_ok h7 hB) ?_
   conv=>whnf
   exact And.intro (Mem.le.refl _) rfl
  conv=>whnf
  refine WSc.mk (v:=true) (fun _=>?_) ?_
  ·conv=>whnf
   refine WCall.mk (same_ok h17 ⟨A7,c7,rfl,hI7⟩ hPl) ?_
   rintro _ _ ⟨rfl,rfl⟩
   conv=>whnf
   exact And.intro (Mem.le.refl _) rfl
  conv=>whnf
  refine WSc.mk (v:=true) (fun _=>?_) ?_
  ·conv=>whnf
   refine WCall.mk (hal _ L7) ?_
   rintro _ _ ⟨rfl,rfl⟩
   conv=>whnf
   exact And.intro (Mem.le.refl _) rfl
  conv=>whnf
  refine WRet.same ⟨?_,L7⟩
  show Ending.returned (.bool (((true && (((runS (cut27 C) M sh (400 - t.took) t).took:Int) == k)) && true) && true)) = _
  rw [ek];rfl
attribute [irreducible] stTail
theorem simSettled_law {m:Mem} (hm:m 0 = some (.cells ⟨cells0⟩ T fr)) (hV:CodeAt m V C) (hargs:IAt m (.slice aa args.length ca) args) {sh:List Int} {sa:Option Addr} {sc:Nat} (hsh:IAt m (.slice sa sh.length sc) sh) {after:List Int} {pa:Option Addr} {pc:Nat} (hafter:BAt m (.slice pa after.length pc) after)
  (hal:∀ m',Mem.le m m' → CallsM Tryz.prog 14 [] m' fun e m''=>e = .returned (.bool true) ∧ m'' = m') :
  CallsM Tryz.prog 8 [V.val C,M.val,.slice aa args.length ca,.slice sa sh.length sc,.slice pa after.length pc] m fun e m'=>e = .returned (.bool true) ∧ Mem.le m m':=by
 refine calls_of mixed Tryz.func8 okr_biremelaw27_SimSettled rfl ?_
 unfold Fn.asks
 rw [st_body]
 conv=>whnf
 refine WCall.mk (lawStrict_ok hm V M hV (al:=args.length)) ?_
 rintro _ m1 ⟨b,rfl,l1,hb⟩
 conv=>whnf
 refine WSc.mk (v:=decide ((sh.length:Int) > 1000)) (fun _=>And.intro (Mem.le.refl _) rfl) ?_
 conv=>whnf
 refine Br.mk (fun hh=>?_) (fun hh=>?_)
 ·conv=>whnf
  refine WCall.mk (hal _ l1) ?_
  rintro _ _ ⟨rfl,rfl⟩
  conv=>whnf
  exact WRet.same ⟨rfl,l1⟩
 ·have hh:(!b || decide ((sh.length:Int) > 1000)) = false:=hh
  simp only [Bool.or_eq_false_iff,Bool.not_eq_false',decide_eq_false_iff_not] at hh
  have hs:StrictIs C M args.length:=hb.1 hh.1
  have hl1:sh.length ≤ 1000:=by omega
  have hrun:=fun (m':Mem) (hm':Mem.le m m') (V':CV) (hV':CodeAt m' V' (cut27 C)) (sa:Option Addr) (cs:Nat) (hsh:IAt m' (.slice sa sh.length cs) sh)=>lawRun_ok (hm' _ _ hm) hV' hs (hargs.mono hm') hsh hl1
  generalize hP:(runS (cut27 C) M sh 400 (beginS (cut27 C) args)).prints = P at hrun
  generalize hkd:(runS (cut27 C) M sh 400 (beginS (cut27 C) args)).kind = kd at hrun
  generalize hnn:(runS (cut27 C) M sh 400 (beginS (cut27 C) args)).value = nn at hrun
  generalize hk:((runS (cut27 C) M sh 400 (beginS (cut27 C) args)).took:Int) = k at hrun
  repeat' (conv=>whnf
           first
           | exact trivial
           | (refine WCallG.mk (lawOwn_ok V (hV.mono l1)) ?_;rintro _ m2 ⟨V2,rfl,l2,hV2⟩;refine ⟨l2,?_⟩)
           | (refine WCallG.mk (few_all (hsh.mono (l1.trans l2)) hl1) ?_;rintro _ m3 ⟨A2,c2,rfl,l3,hI2⟩;refine ⟨l3,?_⟩)
           | (refine WCallG.mk (hrun m3 ((l1.trans l2).trans l3) V2 (hV2.mono l3) A2 c2 hI2) ?_;rintro _ m4 ⟨B,d,rfl,l4,hJ⟩;refine ⟨l4,?_⟩)
           | (exact rest_envL (stTail_ok hm (((l1.trans l2).trans l3).trans l4) hV hs hargs hsh hl1 hafter hP hkd hnn hk hJ hal) ⟨rfl,rfl,rfl,rfl,rfl,rfl,rfl,rfl,trivial⟩)
           | (refine And.intro ?_ ?_))
end
end Go.Proofs.YtleofbpepfmfgaaGreatDoor
set_option maxRecDepth 100000
namespace Go.Proofs.YtleofbpepfmfgaaGreatDoor
open Go Go.Vx
theorem simSettled_ok {m:Mem} {V:CV} {C:CodeR} {M:Mac} {v2 v3 v4:Value} {args sh after:List Int} (hV:CodeAt m V C) (h2:IAt m v2 args) (h3:IAt m v3 sh) (h4:BAt m v4 after) {T:Nat} {fr:Nat × Nat} (hm:m 0 = some (.cells ⟨cells0⟩ T fr)) :
  CallsM Tryz.prog 8 [V.val C,M.val,v2,v3,v4] m fun e m'=>e = .returned (.bool true) ∧ Mem.le m m':=by
 have g2:=h2
 have g3:=h3
 have g4:=h4
 obtain ⟨a2,c2,rfl,_⟩:=h2
 obtain ⟨a3,c3,rfl,_⟩:=h3
 obtain ⟨a4,c4,rfl,_⟩:=h4
 exact simSettled_law hm hV g2 g3 g4 fun m' hle=>alive_ok (hle _ _ hm)
end Go.Proofs.YtleofbpepfmfgaaGreatDoor
