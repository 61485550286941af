import Derived.Test.YtleofbpepfmfgaaGreatDoorVxWrd4
set_option maxRecDepth 100000
namespace Go.Proofs.YtleofbpepfmfgaaGreatDoor
open Go Go.Vx
open Go.Vx.IOp Go.Vx.IR Go.Vx.Opd
def q2s (k:Int):Value:=.agg ⟨[.bool (uD k),.bool (uA k),.bool (uB k),.bool (uC k),.bool (uN k)]⟩
theorem w1q {k:Int} (h1:1≤k) (h2:k≤28):k=1∨k=2∨k=3∨k=4∨k=5∨k=6∨k=7∨k=8∨k=9∨k=10∨k=11∨k=12∨k=13∨k=14∨k=15∨k=16∨k=17∨k=18∨k=19∨k=20∨k=21∨k=22∨k=23∨k=24∨k=25∨k=26∨k=27∨k=28:=by omega
theorem k0h {k:Int} (e:k=1) (m:Mem):q0m Tryz.prog 112 [i k] m (q2s k):=by
 refine q0e q0d Tryz.func112 q2w rfl ?_
 conv=>whnf
 repeat (first
  | (refine Br.mk (fun _=>?_) (fun h=>absurd h (by first | rw [e];decide | decide));conv=>whnf)
  | (refine Br.mk (fun h=>absurd h (by first | rw [e];decide | decide)) (fun _=>?_);conv=>whnf)
  | (refine WSc.mk (fun _=>And.intro (Mem.le.refl _) rfl) ?_;conv=>whnf))
 exact WRet.same ⟨by subst e;rfl,rfl⟩
theorem j2b {k:Int} (e:k=2) (m:Mem):q0m Tryz.prog 112 [i k] m (q2s k):=by
 refine q0e q0d Tryz.func112 q2w rfl ?_
 conv=>whnf
 repeat (first
  | (refine Br.mk (fun _=>?_) (fun h=>absurd h (by first | rw [e];decide | decide));conv=>whnf)
  | (refine Br.mk (fun h=>absurd h (by first | rw [e];decide | decide)) (fun _=>?_);conv=>whnf)
  | (refine WSc.mk (fun _=>And.intro (Mem.le.refl _) rfl) ?_;conv=>whnf))
 exact WRet.same ⟨by subst e;rfl,rfl⟩
theorem k0k {k:Int} (e:k=3) (m:Mem):q0m Tryz.prog 112 [i k] m (q2s k):=by
 refine q0e q0d Tryz.func112 q2w rfl ?_
 conv=>whnf
 repeat (first
  | (refine Br.mk (fun _=>?_) (fun h=>absurd h (by first | rw [e];decide | decide));conv=>whnf)
  | (refine Br.mk (fun h=>absurd h (by first | rw [e];decide | decide)) (fun _=>?_);conv=>whnf)
  | (refine WSc.mk (fun _=>And.intro (Mem.le.refl _) rfl) ?_;conv=>whnf))
 exact WRet.same ⟨by subst e;rfl,rfl⟩
theorem k0b {k:Int} (e:k=4) (m:Mem):q0m Tryz.prog 112 [i k] m (q2s k):=by
 refine q0e q0d Tryz.func112 q2w rfl ?_
 conv=>whnf
 repeat (first
  | (refine Br.mk (fun _=>?_) (fun h=>absurd h (by first | rw [e];decide | decide));conv=>whnf)
  | (refine Br.mk (fun h=>absurd h (by first | rw [e];decide | decide)) (fun _=>?_);conv=>whnf)
  | (refine WSc.mk (fun _=>And.intro (Mem.le.refl _) rfl) ?_;conv=>whnf))
 exact WRet.same ⟨by subst e;rfl,rfl⟩
theorem k8p {k:Int} (e:k=5) (m:Mem):q0m Tryz.prog 112 [i k] m (q2s k):=by
 refine q0e q0d Tryz.func112 q2w rfl ?_
 conv=>whnf
 repeat (first
  | (refine Br.mk (fun _=>?_) (fun h=>absurd h (by first | rw [e];decide | decide));conv=>whnf)
  | (refine Br.mk (fun h=>absurd h (by first | rw [e];decide | decide)) (fun _=>?_);conv=>whnf)
  | (refine WSc.mk (fun _=>And.intro (Mem.le.refl _) rfl) ?_;conv=>whnf))
 exact WRet.same ⟨by subst e;rfl,rfl⟩
theorem k4a {k:Int} (e:k=6) (m:Mem):q0m Tryz.prog 112 [i k] m (q2s k):=by
 refine q0e q0d Tryz.func112 q2w rfl ?_
 conv=>whnf
 repeat (first
  | (refine Br.mk (fun _=>?_) (fun h=>absurd h (by first | rw [e];decide | decide));conv=>whnf)
  | (refine Br.mk (fun h=>absurd h (by first | rw [e];decide | decide)) (fun _=>?_);conv=>whnf)
  | (refine WSc.mk (fun _=>And.intro (Mem.le.refl _) rfl) ?_;conv=>whnf))
 exact WRet.same ⟨by subst e;rfl,rfl⟩
theorem w5i {k:Int} (e:k=7) (m:Mem):q0m Tryz.prog 112 [i k] m (q2s k):=by
 refine q0e q0d Tryz.func112 q2w rfl ?_
 conv=>whnf
 repeat (first
  | (refine Br.mk (fun _=>?_) (fun h=>absurd h (by first | rw [e];decide | decide));conv=>whnf)
  | (refine Br.mk (fun h=>absurd h (by first | rw [e];decide | decide)) (fun _=>?_);conv=>whnf)
  | (refine WSc.mk (fun _=>And.intro (Mem.le.refl _) rfl) ?_;conv=>whnf))
 exact WRet.same ⟨by subst e;rfl,rfl⟩
theorem w4i {k:Int} (e:k=8) (m:Mem):q0m Tryz.prog 112 [i k] m (q2s k):=by
 refine q0e q0d Tryz.func112 q2w rfl ?_
 conv=>whnf
 repeat (first
  | (refine Br.mk (fun _=>?_) (fun h=>absurd h (by first | rw [e];decide | decide));conv=>whnf)
  | (refine Br.mk (fun h=>absurd h (by first | rw [e];decide | decide)) (fun _=>?_);conv=>whnf)
  | (refine WSc.mk (fun _=>And.intro (Mem.le.refl _) rfl) ?_;conv=>whnf))
 exact WRet.same ⟨by subst e;rfl,rfl⟩
theorem j3q {k:Int} (e:k=9) (m:Mem):q0m Tryz.prog 112 [i k] m (q2s k):=by
 refine q0e q0d Tryz.func112 q2w rfl ?_
 conv=>whnf
 repeat (first
  | (refine Br.mk (fun _=>?_) (fun h=>absurd h (by first | rw [e];decide | decide));conv=>whnf)
  | (refine Br.mk (fun h=>absurd h (by first | rw [e];decide | decide)) (fun _=>?_);conv=>whnf)
  | (refine WSc.mk (fun _=>And.intro (Mem.le.refl _) rfl) ?_;conv=>whnf))
 exact WRet.same ⟨by subst e;rfl,rfl⟩
theorem k7d {k:Int} (e:k=10) (m:Mem):q0m Tryz.prog 112 [i k] m (q2s k):=by
 refine q0e q0d Tryz.func112 q2w rfl ?_
 conv=>whnf
 repeat (first
  | (refine Br.mk (fun _=>?_) (fun h=>absurd h (by first | rw [e];decide | decide));conv=>whnf)
  | (refine Br.mk (fun h=>absurd h (by first | rw [e];decide | decide)) (fun _=>?_);conv=>whnf)
  | (refine WSc.mk (fun _=>And.intro (Mem.le.refl _) rfl) ?_;conv=>whnf))
 exact WRet.same ⟨by subst e;rfl,rfl⟩
theorem j8r {k:Int} (e:k=11) (m:Mem):q0m Tryz.prog 112 [i k] m (q2s k):=by
 refine q0e q0d Tryz.func112 q2w rfl ?_
 conv=>whnf
 repeat (first
  | (refine Br.mk (fun _=>?_) (fun h=>absurd h (by first | rw [e];decide | decide));conv=>whnf)
  | (refine Br.mk (fun h=>absurd h (by first | rw [e];decide | decide)) (fun _=>?_);conv=>whnf)
  | (refine WSc.mk (fun _=>And.intro (Mem.le.refl _) rfl) ?_;conv=>whnf))
 exact WRet.same ⟨by subst e;rfl,rfl⟩
theorem v8f {k:Int} (e:k=12) (m:Mem):q0m Tryz.prog 112 [i k] m (q2s k):=by
 refine q0e q0d Tryz.func112 q2w rfl ?_
 conv=>whnf
 repeat (first
  | (refine Br.mk (fun _=>?_) (fun h=>absurd h (by first | rw [e];decide | decide));conv=>whnf)
  | (refine Br.mk (fun h=>absurd h (by first | rw [e];decide | decide)) (fun _=>?_);conv=>whnf)
  | (refine WSc.mk (fun _=>And.intro (Mem.le.refl _) rfl) ?_;conv=>whnf))
 exact WRet.same ⟨by subst e;rfl,rfl⟩
theorem j8g {k:Int} (e:k=13) (m:Mem):q0m Tryz.prog 112 [i k] m (q2s k):=by
 refine q0e q0d Tryz.func112 q2w rfl ?_
 conv=>whnf
 repeat (first
  | (refine Br.mk (fun _=>?_) (fun h=>absurd h (by first | rw [e];decide | decide));conv=>whnf)
  | (refine Br.mk (fun h=>absurd h (by first | rw [e];decide | decide)) (fun _=>?_);conv=>whnf)
  | (refine WSc.mk (fun _=>And.intro (Mem.le.refl _) rfl) ?_;conv=>whnf))
 exact WRet.same ⟨by subst e;rfl,rfl⟩
theorem v8e {k:Int} (e:k=14) (m:Mem):q0m Tryz.prog 112 [i k] m (q2s k):=by
 refine q0e q0d Tryz.func112 q2w rfl ?_
 conv=>whnf
 repeat (first
  | (refine Br.mk (fun _=>?_) (fun h=>absurd h (by first | rw [e];decide | decide));conv=>whnf)
  | (refine Br.mk (fun h=>absurd h (by first | rw [e];decide | decide)) (fun _=>?_);conv=>whnf)
  | (refine WSc.mk (fun _=>And.intro (Mem.le.refl _) rfl) ?_;conv=>whnf))
 exact WRet.same ⟨by subst e;rfl,rfl⟩
theorem k3j {k:Int} (e:k=15) (m:Mem):q0m Tryz.prog 112 [i k] m (q2s k):=by
 refine q0e q0d Tryz.func112 q2w rfl ?_
 conv=>whnf
 repeat (first
  | (refine Br.mk (fun _=>?_) (fun h=>absurd h (by first | rw [e];decide | decide));conv=>whnf)
  | (refine Br.mk (fun h=>absurd h (by first | rw [e];decide | decide)) (fun _=>?_);conv=>whnf)
  | (refine WSc.mk (fun _=>And.intro (Mem.le.refl _) rfl) ?_;conv=>whnf))
 exact WRet.same ⟨by subst e;rfl,rfl⟩
theorem k8a {k:Int} (e:k=16) (m:Mem):q0m Tryz.prog 112 [i k] m (q2s k):=by
 refine q0e q0d Tryz.func112 q2w rfl ?_
 conv=>whnf
 repeat (first
  | (refine Br.mk (fun _=>?_) (fun h=>absurd h (by first | rw [e];decide | decide));conv=>whnf)
  | (refine Br.mk (fun h=>absurd h (by first | rw [e];decide | decide)) (fun _=>?_);conv=>whnf)
  | (refine WSc.mk (fun _=>And.intro (Mem.le.refl _) rfl) ?_;conv=>whnf))
 exact WRet.same ⟨by subst e;rfl,rfl⟩
theorem j2z {k:Int} (e:k=17) (m:Mem):q0m Tryz.prog 112 [i k] m (q2s k):=by
 refine q0e q0d Tryz.func112 q2w rfl ?_
 conv=>whnf
 repeat (first
  | (refine Br.mk (fun _=>?_) (fun h=>absurd h (by first | rw [e];decide | decide));conv=>whnf)
  | (refine Br.mk (fun h=>absurd h (by first | rw [e];decide | decide)) (fun _=>?_);conv=>whnf)
  | (refine WSc.mk (fun _=>And.intro (Mem.le.refl _) rfl) ?_;conv=>whnf))
 exact WRet.same ⟨by subst e;rfl,rfl⟩
theorem w0u {k:Int} (e:k=18) (m:Mem):q0m Tryz.prog 112 [i k] m (q2s k):=by
 refine q0e q0d Tryz.func112 q2w rfl ?_
 conv=>whnf
 repeat (first
  | (refine Br.mk (fun _=>?_) (fun h=>absurd h (by first | rw [e];decide | decide));conv=>whnf)
  | (refine Br.mk (fun h=>absurd h (by first | rw [e];decide | decide)) (fun _=>?_);conv=>whnf)
  | (refine WSc.mk (fun _=>And.intro (Mem.le.refl _) rfl) ?_;conv=>whnf))
 exact WRet.same ⟨by subst e;rfl,rfl⟩
theorem k2k {k:Int} (e:k=19) (m:Mem):q0m Tryz.prog 112 [i k] m (q2s k):=by
 refine q0e q0d Tryz.func112 q2w rfl ?_
 conv=>whnf
 repeat (first
  | (refine Br.mk (fun _=>?_) (fun h=>absurd h (by first | rw [e];decide | decide));conv=>whnf)
  | (refine Br.mk (fun h=>absurd h (by first | rw [e];decide | decide)) (fun _=>?_);conv=>whnf)
  | (refine WSc.mk (fun _=>And.intro (Mem.le.refl _) rfl) ?_;conv=>whnf))
 exact WRet.same ⟨by subst e;rfl,rfl⟩
theorem k4k {k:Int} (e:k=20) (m:Mem):q0m Tryz.prog 112 [i k] m (q2s k):=by
 refine q0e q0d Tryz.func112 q2w rfl ?_
 conv=>whnf
 repeat (first
  | (refine Br.mk (fun _=>?_) (fun h=>absurd h (by first | rw [e];decide | decide));conv=>whnf)
  | (refine Br.mk (fun h=>absurd h (by first | rw [e];decide | decide)) (fun _=>?_);conv=>whnf)
  | (refine WSc.mk (fun _=>And.intro (Mem.le.refl _) rfl) ?_;conv=>whnf))
 exact WRet.same ⟨by subst e;rfl,rfl⟩
theorem j5x {k:Int} (e:k=21) (m:Mem):q0m Tryz.prog 112 [i k] m (q2s k):=by
 refine q0e q0d Tryz.func112 q2w rfl ?_
 conv=>whnf
 repeat (first
  | (refine Br.mk (fun _=>?_) (fun h=>absurd h (by first | rw [e];decide | decide));conv=>whnf)
  | (refine Br.mk (fun h=>absurd h (by first | rw [e];decide | decide)) (fun _=>?_);conv=>whnf)
  | (refine WSc.mk (fun _=>And.intro (Mem.le.refl _) rfl) ?_;conv=>whnf))
 exact WRet.same ⟨by subst e;rfl,rfl⟩
theorem w5s {k:Int} (e:k=22) (m:Mem):q0m Tryz.prog 112 [i k] m (q2s k):=by
 refine q0e q0d Tryz.func112 q2w rfl ?_
 conv=>whnf
 repeat (first
  | (refine Br.mk (fun _=>?_) (fun h=>absurd h (by first | rw [e];decide | decide));conv=>whnf)
  | (refine Br.mk (fun h=>absurd h (by first | rw [e];decide | decide)) (fun _=>?_);conv=>whnf)
  | (refine WSc.mk (fun _=>And.intro (Mem.le.refl _) rfl) ?_;conv=>whnf))
 exact WRet.same ⟨by subst e;rfl,rfl⟩
theorem v9h {k:Int} (e:k=23) (m:Mem):q0m Tryz.prog 112 [i k] m (q2s k):=by
 refine q0e q0d Tryz.func112 q2w rfl ?_
 conv=>whnf
 repeat (first
  | (refine Br.mk (fun _=>?_) (fun h=>absurd h (by first | rw [e];decide | decide));conv=>whnf)
  | (refine Br.mk (fun h=>absurd h (by first | rw [e];decide | decide)) (fun _=>?_);conv=>whnf)
  | (refine WSc.mk (fun _=>And.intro (Mem.le.refl _) rfl) ?_;conv=>whnf))
 exact WRet.same ⟨by subst e;rfl,rfl⟩
theorem k1y {k:Int} (e:k=24) (m:Mem):q0m Tryz.prog 112 [i k] m (q2s k):=by
 refine q0e q0d Tryz.func112 q2w rfl ?_
 conv=>whnf
 repeat (first
  | (refine Br.mk (fun _=>?_) (fun h=>absurd h (by first | rw [e];decide | decide));conv=>whnf)
  | (refine Br.mk (fun h=>absurd h (by first | rw [e];decide | decide)) (fun _=>?_);conv=>whnf)
  | (refine WSc.mk (fun _=>And.intro (Mem.le.refl _) rfl) ?_;conv=>whnf))
 exact WRet.same ⟨by subst e;rfl,rfl⟩
theorem j9j {k:Int} (e:k=25) (m:Mem):q0m Tryz.prog 112 [i k] m (q2s k):=by
 refine q0e q0d Tryz.func112 q2w rfl ?_
 conv=>whnf
 repeat (first
  | (refine Br.mk (fun _=>?_) (fun h=>absurd h (by first | rw [e];decide | decide));conv=>whnf)
  | (refine Br.mk (fun h=>absurd h (by first | rw [e];decide | decide)) (fun _=>?_);conv=>whnf)
  | (refine WSc.mk (fun _=>And.intro (Mem.le.refl _) rfl) ?_;conv=>whnf))
 exact WRet.same ⟨by subst e;rfl,rfl⟩
theorem k9x {k:Int} (e:k=26) (m:Mem):q0m Tryz.prog 112 [i k] m (q2s k):=by
 refine q0e q0d Tryz.func112 q2w rfl ?_
 conv=>whnf
 repeat (first
  | (refine Br.mk (fun _=>?_) (fun h=>absurd h (by first | rw [e];decide | decide));conv=>whnf)
  | (refine Br.mk (fun h=>absurd h (by first | rw [e];decide | decide)) (fun _=>?_);conv=>whnf)
  | (refine WSc.mk (fun _=>And.intro (Mem.le.refl _) rfl) ?_;conv=>whnf))
 exact WRet.same ⟨by subst e;rfl,rfl⟩
theorem j4c {k:Int} (e:k=27) (m:Mem):q0m Tryz.prog 112 [i k] m (q2s k):=by
 refine q0e q0d Tryz.func112 q2w rfl ?_
 conv=>whnf
 repeat (first
  | (refine Br.mk (fun _=>?_) (fun h=>absurd h (by first | rw [e];decide | decide));conv=>whnf)
  | (refine Br.mk (fun h=>absurd h (by first | rw [e];decide | decide)) (fun _=>?_);conv=>whnf)
  | (refine WSc.mk (fun _=>And.intro (Mem.le.refl _) rfl) ?_;conv=>whnf))
 exact WRet.same ⟨by subst e;rfl,rfl⟩
theorem w1o {k:Int} (e:k=28) (m:Mem):q0m Tryz.prog 112 [i k] m (q2s k):=by
 refine q0e q0d Tryz.func112 q2w rfl ?_
 conv=>whnf
 repeat (first
  | (refine Br.mk (fun _=>?_) (fun h=>absurd h (by first | rw [e];decide | decide));conv=>whnf)
  | (refine Br.mk (fun h=>absurd h (by first | rw [e];decide | decide)) (fun _=>?_);conv=>whnf)
  | (refine WSc.mk (fun _=>And.intro (Mem.le.refl _) rfl) ?_;conv=>whnf))
 exact WRet.same ⟨by subst e;rfl,rfl⟩
theorem v6v (m:Mem) (k:Int):q0m Tryz.prog 112 [i k] m (q2s k):=by
 by_cases hk:1≤k∧k≤28
 ·rcases w1q hk.1 hk.2 with e|e|e|e|e|e|e|e|e|e|e|e|e|e|e|e|e|e|e|e|e|e|e|e|e|e|e|e
  ·exact k0h e m
  ·exact j2b e m
  ·exact k0k e m
  ·exact k0b e m
  ·exact k8p e m
  ·exact k4a e m
  ·exact w5i e m
  ·exact w4i e m
  ·exact j3q e m
  ·exact k7d e m
  ·exact j8r e m
  ·exact v8f e m
  ·exact j8g e m
  ·exact v8e e m
  ·exact k3j e m
  ·exact k8a e m
  ·exact j2z e m
  ·exact w0u e m
  ·exact k2k e m
  ·exact k4k e m
  ·exact j5x e m
  ·exact w5s e m
  ·exact v9h e m
  ·exact k1y e m
  ·exact j9j e m
  ·exact k9x e m
  ·exact j4c e m
  ·exact w1o e m
 have hv:q2s k=.agg ⟨[.bool true,.bool true,.bool (((decide (k≥3)&&decide (k≤15))||k==17)||k==23||k==24),.bool (k==12),.bool false]⟩:=by
  have e1:uD k=true:=by unfold uD;simp only [Bool.not_eq_true',Bool.or_eq_false_iff,beq_eq_false_iff_ne,ne_eq];omega
  have e2:uA k=true:=by unfold uA;simp only [Bool.not_eq_true',Bool.or_eq_false_iff,beq_eq_false_iff_ne,ne_eq];omega
  have e3:uN k=false:=by unfold uN;simp only [Bool.or_eq_false_iff,beq_eq_false_iff_ne,ne_eq];omega
  unfold q2s;rw [e1,e2,e3];rfl
 rw [hv]
 refine q0e q0d Tryz.func112 q2w rfl ?_
 refine Br.mk (fun h=>absurd (show k=17 by simpa using h) (by omega)) (fun _=>?_)
 refine Br.mk (fun h=>absurd (show k=19 by simpa using h) (by omega)) (fun _=>?_)
 refine Br.mk (fun h=>absurd (show k=20 by simpa using h) (by omega)) (fun _=>?_)
 refine Br.mk (fun h=>absurd (show k=21 by simpa using h) (by omega)) (fun _=>?_)
 refine Br.mk (fun h=>absurd (show k=22 by simpa using h) (by omega)) (fun _=>?_)
 refine Br.mk (fun h=>absurd (show k=26 by simpa using h) (by omega)) (fun _=>?_)
 refine Br.mk (fun h=>absurd (show k=27 by simpa using h) (by omega)) (fun _=>?_)
 refine Br.mk (fun h=>absurd (show k=28 by simpa using h) (by omega)) (fun _=>?_)
 refine Br.mk (fun h=>absurd (show k=1 by simpa using h) (by omega)) (fun _=>?_)
 refine Br.mk (fun h=>absurd (show k=18 by simpa using h) (by omega)) (fun _=>?_)
 refine Br.mk (fun h=>absurd (show k=26 by simpa using h) (by omega)) (fun _=>?_)
 refine WSc.mk (fun _=>And.intro (Mem.le.refl _) rfl) ?_
 refine WSc.mk (fun _=>And.intro (Mem.le.refl _) rfl) ?_
 refine WSc.mk (fun _=>And.intro (Mem.le.refl _) rfl) ?_
 refine WSc.mk (fun _=>And.intro (Mem.le.refl _) rfl) ?_
 refine Br.mk (fun h=>absurd (show k=1 by simpa using h) (by omega)) (fun _=>?_)
 refine Br.mk (fun h=>absurd (show k=16 by simpa using h) (by omega)) (fun _=>?_)
 refine Br.mk (fun h=>absurd (show k=17 by simpa using h) (by omega)) (fun _=>?_)
 refine Br.mk (fun h=>absurd (show k=18 by simpa using h) (by omega)) (fun _=>?_)
 refine Br.mk (fun h=>absurd (show k=19 by simpa using h) (by omega)) (fun _=>?_)
 refine Br.mk (fun h=>absurd (show k=21 by simpa using h) (by omega)) (fun _=>?_)
 refine Br.mk (fun h=>absurd (show k=25 by simpa using h) (by omega)) (fun _=>?_)
 refine Br.mk (fun h=>absurd (show k=26 by simpa using h) (by omega)) (fun _=>?_)
 exact WRet.same ⟨rfl,rfl⟩
theorem z2q (m:Mem) (V:CV) (C:q0c) (r:Int):q0m Tryz.prog 113 [V.val C,i r] m (.bool (q1i C.rg r)):=by
 refine q0e q0d Tryz.func113 w1e rfl ?_
 refine WSc.mk (fun _=>And.intro (Mem.le.refl _) rfl) ?_
 exact WRet.same ⟨rfl,rfl⟩
theorem w4c (m:Mem) (o:OpR):q0m Tryz.prog 81 [o.val] m (.bool (q2e o)):=by
 refine q0e q0d Tryz.func81 j2g rfl ?_
 refine WSc.mk (v:=(o.kd==26||o.kd==27||o.kd==28)) (fun _=>?_) ?_
 ·refine WSc.mk (fun _=>And.intro (Mem.le.refl _) rfl) ?_
  refine WSc.mk (fun _=>And.intro (Mem.le.refl _) rfl) ?_
  conv=>whnf
  exact And.intro (Mem.le.refl _) rfl
 exact WRet.same ⟨rfl,rfl⟩
theorem w4o {m:Mem} (V:CV) {C:q0c} (hV:q1q m V C) (o:OpR):q0m Tryz.prog 80 [V.val C,o.val] m (i (q1t C o)):=by
 refine q0e q0d Tryz.func80 j6u rfl ?_
 have hn1:=hV.n1
 have hn2:=hV.n2
 obtain ⟨a1,n1,c1,a2,n2,c2⟩:=V
 simp only at hn1 hn2
 subst hn1;subst hn2
 conv=>whnf
 refine q0a.pure (v6v m o.kd) ?_
 refine WSc.mk (fun _=>And.intro (Mem.le.refl _) rfl) ?_
 refine Br.mk (fun hb=>?_) (fun hb=>?_)
 ·have hkd:o.kd<1∨o.kd>28:=by
   simp only [scB,Bool.or_eq_true,decide_eq_true_eq] at hb;omega
  exact WRet.same ⟨by unfold q1t;rw [if_pos hkd];rfl,rfl⟩
 have hkd:¬ (o.kd<1∨o.kd>28):=by
  simp only [scB,Bool.or_eq_false_iff,decide_eq_false_iff_not] at hb;omega
 refine WSc.mk (v:=q1i C.rg o.ds) (fun _=>?_) ?_
 ·conv=>whnf
  refine q0a.pure (z2q _ ⟨a1,_,c1,a2,_,c2⟩ C _) ?_
  exact And.intro (Mem.le.refl _) rfl
 refine WSc.mk (v:=uA o.kd&&q1i C.rg o.a) (fun _=>?_) ?_
 ·refine WSc.mk (v:=q1i C.rg o.a) (fun _=>?_) ?_
  ·conv=>whnf
   refine q0a.pure (z2q _ ⟨a1,_,c1,a2,_,c2⟩ C _) ?_
   exact And.intro (Mem.le.refl _) rfl
  conv=>whnf
  exact And.intro (Mem.le.refl _) rfl
 refine WSc.mk (v:=uB o.kd&&q1i C.rg o.b) (fun _=>?_) ?_
 ·refine WSc.mk (v:=q1i C.rg o.b) (fun _=>?_) ?_
  ·conv=>whnf
   refine q0a.pure (z2q _ ⟨a1,_,c1,a2,_,c2⟩ C _) ?_
   exact And.intro (Mem.le.refl _) rfl
  conv=>whnf
  exact And.intro (Mem.le.refl _) rfl
 refine WSc.mk (v:=uC o.kd&&q1i C.rg o.c) (fun _=>?_) ?_
 ·refine WSc.mk (v:=q1i C.rg o.c) (fun _=>?_) ?_
  ·conv=>whnf
   refine q0a.pure (z2q _ ⟨a1,_,c1,a2,_,c2⟩ C _) ?_
   exact And.intro (Mem.le.refl _) rfl
  conv=>whnf
  exact And.intro (Mem.le.refl _) rfl
 refine WSc.mk (v:=o.gd != -1&&q1i C.rg o.gd) (fun _=>?_) ?_
 ·refine WSc.mk (v:=q1i C.rg o.gd) (fun _=>?_) ?_
  ·conv=>whnf
   refine q0a.pure (z2q _ ⟨a1,_,c1,a2,_,c2⟩ C _) ?_
   exact And.intro (Mem.le.refl _) rfl
  conv=>whnf
  exact And.intro (Mem.le.refl _) rfl
 refine Br.mk (fun hb=>?_) (fun g1=>?_)
 ·exact WRet.same ⟨by unfold q1t;rw [if_neg hkd,if_pos (show ((uD o.kd&&q1i C.rg o.ds)||(uA o.kd&&q1i C.rg o.a)||(uB o.kd&&q1i C.rg o.b)||(uC o.kd&&q1i C.rg o.c)||(o.gd != -1&&q1i C.rg o.gd))=true from hb)];rfl,rfl⟩
 have g1:((uD o.kd&&q1i C.rg o.ds)||(uA o.kd&&q1i C.rg o.a)||(uB o.kd&&q1i C.rg o.b)||(uC o.kd&&q1i C.rg o.c)||(o.gd != -1&&q1i C.rg o.gd))=false:=g1
 refine Br.mk (fun k16=>?_) (fun k16=>?_)
 ·have k16:o.kd=16:=by simpa using k16
  refine Br.mk (fun _=>?_) (fun h=>by cases h)
  have hmany:q2m C o.kd=(C.sz.length:Int):=by unfold q2m;rw [if_pos (by omega)]
  refine WSc.mk (fun _=>And.intro (Mem.le.refl _) rfl) ?_
  refine WSc.mk (v:=decide (o.n<0)||decide (o.n≥(C.sz.length:Int))) (fun _=>?_) ?_
  ·refine WSc.mk (fun _=>And.intro (Mem.le.refl _) rfl) ?_
   conv=>whnf
   exact And.intro (Mem.le.refl _) rfl
  refine Br.mk (fun hb=>?_) (fun g2=>?_)
  ·exact WRet.same ⟨by unfold q1t;rw [if_neg hkd,if_neg (by rw [g1];decide),hmany,if_pos (show (uN o.kd&&o.kd != 1&&(decide (o.n<0)||decide (o.n≥(C.sz.length:Int))))=true from hb)];rfl,rfl⟩
  have g2:(uN o.kd&&o.kd != 1&&(decide (o.n<0)||decide (o.n≥(C.sz.length:Int))))=false:=g2
  refine WSc.mk (fun _=>And.intro (Mem.le.refl _) rfl) ?_
  refine WSc.mk (v:=!uA o.kd&&o.a != 0) (fun _=>?_) ?_
  ·refine WSc.mk (fun _=>And.intro (Mem.le.refl _) rfl) ?_
   conv=>whnf
   exact And.intro (Mem.le.refl _) rfl
  refine WSc.mk (v:=!uB o.kd&&o.b != 0) (fun _=>?_) ?_
  ·refine WSc.mk (fun _=>And.intro (Mem.le.refl _) rfl) ?_
   conv=>whnf
   exact And.intro (Mem.le.refl _) rfl
  refine WSc.mk (v:=!uC o.kd&&o.c != 0) (fun _=>?_) ?_
  ·refine WSc.mk (fun _=>And.intro (Mem.le.refl _) rfl) ?_
   conv=>whnf
   exact And.intro (Mem.le.refl _) rfl
  refine WSc.mk (v:=!uN o.kd&&o.n != 0) (fun _=>?_) ?_
  ·refine WSc.mk (fun _=>And.intro (Mem.le.refl _) rfl) ?_
   conv=>whnf
   exact And.intro (Mem.le.refl _) rfl
  refine Br.mk (fun hb=>?_) (fun g3=>?_)
  ·exact WRet.same ⟨by unfold q1t;rw [if_neg hkd,if_neg (by rw [g1];decide),hmany,if_neg (by rw [g2];decide),if_pos (show ((!uD o.kd&&o.ds != 0)||(!uA o.kd&&o.a != 0)||(!uB o.kd&&o.b != 0)||(!uC o.kd&&o.c != 0)||(!uN o.kd&&o.n != 0))=true from hb)];rfl,rfl⟩
  have g3:((!uD o.kd&&o.ds != 0)||(!uA o.kd&&o.a != 0)||(!uB o.kd&&o.b != 0)||(!uC o.kd&&o.c != 0)||(!uN o.kd&&o.n != 0))=false:=g3
  exact WRet.same ⟨by unfold q1t;rw [if_neg hkd,if_neg (by rw [g1];decide),hmany,if_neg (by rw [g2];decide),if_neg (by rw [g3];decide)];rfl,rfl⟩
 have k16:o.kd≠16:=by simpa using k16
 refine Br.mk (fun k17=>?_) (fun k17=>?_)
 ·have k17:o.kd=17:=by simpa using k17
  refine Br.mk (fun _=>?_) (fun h=>by cases h)
  have hmany:q2m C o.kd=(C.sz.length:Int):=by unfold q2m;rw [if_pos (by omega)]
  refine WSc.mk (fun _=>And.intro (Mem.le.refl _) rfl) ?_
  refine WSc.mk (v:=decide (o.n<0)||decide (o.n≥(C.sz.length:Int))) (fun _=>?_) ?_
  ·refine WSc.mk (fun _=>And.intro (Mem.le.refl _) rfl) ?_
   conv=>whnf
   exact And.intro (Mem.le.refl _) rfl
  refine Br.mk (fun hb=>?_) (fun g2=>?_)
  ·exact WRet.same ⟨by unfold q1t;rw [if_neg hkd,if_neg (by rw [g1];decide),hmany,if_pos (show (uN o.kd&&o.kd != 1&&(decide (o.n<0)||decide (o.n≥(C.sz.length:Int))))=true from hb)];rfl,rfl⟩
  have g2:(uN o.kd&&o.kd != 1&&(decide (o.n<0)||decide (o.n≥(C.sz.length:Int))))=false:=g2
  refine WSc.mk (fun _=>And.intro (Mem.le.refl _) rfl) ?_
  refine WSc.mk (v:=!uA o.kd&&o.a != 0) (fun _=>?_) ?_
  ·refine WSc.mk (fun _=>And.intro (Mem.le.refl _) rfl) ?_
   conv=>whnf
   exact And.intro (Mem.le.refl _) rfl
  refine WSc.mk (v:=!uB o.kd&&o.b != 0) (fun _=>?_) ?_
  ·refine WSc.mk (fun _=>And.intro (Mem.le.refl _) rfl) ?_
   conv=>whnf
   exact And.intro (Mem.le.refl _) rfl
  refine WSc.mk (v:=!uC o.kd&&o.c != 0) (fun _=>?_) ?_
  ·refine WSc.mk (fun _=>And.intro (Mem.le.refl _) rfl) ?_
   conv=>whnf
   exact And.intro (Mem.le.refl _) rfl
  refine WSc.mk (v:=!uN o.kd&&o.n != 0) (fun _=>?_) ?_
  ·refine WSc.mk (fun _=>And.intro (Mem.le.refl _) rfl) ?_
   conv=>whnf
   exact And.intro (Mem.le.refl _) rfl
  refine Br.mk (fun hb=>?_) (fun g3=>?_)
  ·exact WRet.same ⟨by unfold q1t;rw [if_neg hkd,if_neg (by rw [g1];decide),hmany,if_neg (by rw [g2];decide),if_pos (show ((!uD o.kd&&o.ds != 0)||(!uA o.kd&&o.a != 0)||(!uB o.kd&&o.b != 0)||(!uC o.kd&&o.c != 0)||(!uN o.kd&&o.n != 0))=true from hb)];rfl,rfl⟩
  have g3:((!uD o.kd&&o.ds != 0)||(!uA o.kd&&o.a != 0)||(!uB o.kd&&o.b != 0)||(!uC o.kd&&o.c != 0)||(!uN o.kd&&o.n != 0))=false:=g3
  exact WRet.same ⟨by unfold q1t;rw [if_neg hkd,if_neg (by rw [g1];decide),hmany,if_neg (by rw [g2];decide),if_neg (by rw [g3];decide)];rfl,rfl⟩
 have k17:o.kd≠17:=by simpa using k17
 refine Br.mk (fun k25=>?_) (fun k25=>?_)
 ·have k25:o.kd=25:=by simpa using k25
  have hmany:q2m C o.kd=(C.sz.length:Int):=by unfold q2m;rw [if_pos (by omega)]
  refine WSc.mk (fun _=>And.intro (Mem.le.refl _) rfl) ?_
  refine WSc.mk (v:=decide (o.n<0)||decide (o.n≥(C.sz.length:Int))) (fun _=>?_) ?_
  ·refine WSc.mk (fun _=>And.intro (Mem.le.refl _) rfl) ?_
   conv=>whnf
   exact And.intro (Mem.le.refl _) rfl
  refine Br.mk (fun hb=>?_) (fun g2=>?_)
  ·exact WRet.same ⟨by unfold q1t;rw [if_neg hkd,if_neg (by rw [g1];decide),hmany,if_pos (show (uN o.kd&&o.kd != 1&&(decide (o.n<0)||decide (o.n≥(C.sz.length:Int))))=true from hb)];rfl,rfl⟩
  have g2:(uN o.kd&&o.kd != 1&&(decide (o.n<0)||decide (o.n≥(C.sz.length:Int))))=false:=g2
  refine WSc.mk (fun _=>And.intro (Mem.le.refl _) rfl) ?_
  refine WSc.mk (v:=!uA o.kd&&o.a != 0) (fun _=>?_) ?_
  ·refine WSc.mk (fun _=>And.intro (Mem.le.refl _) rfl) ?_
   conv=>whnf
   exact And.intro (Mem.le.refl _) rfl
  refine WSc.mk (v:=!uB o.kd&&o.b != 0) (fun _=>?_) ?_
  ·refine WSc.mk (fun _=>And.intro (Mem.le.refl _) rfl) ?_
   conv=>whnf
   exact And.intro (Mem.le.refl _) rfl
  refine WSc.mk (v:=!uC o.kd&&o.c != 0) (fun _=>?_) ?_
  ·refine WSc.mk (fun _=>And.intro (Mem.le.refl _) rfl) ?_
   conv=>whnf
   exact And.intro (Mem.le.refl _) rfl
  refine WSc.mk (v:=!uN o.kd&&o.n != 0) (fun _=>?_) ?_
  ·refine WSc.mk (fun _=>And.intro (Mem.le.refl _) rfl) ?_
   conv=>whnf
   exact And.intro (Mem.le.refl _) rfl
  refine Br.mk (fun hb=>?_) (fun g3=>?_)
  ·exact WRet.same ⟨by unfold q1t;rw [if_neg hkd,if_neg (by rw [g1];decide),hmany,if_neg (by rw [g2];decide),if_pos (show ((!uD o.kd&&o.ds != 0)||(!uA o.kd&&o.a != 0)||(!uB o.kd&&o.b != 0)||(!uC o.kd&&o.c != 0)||(!uN o.kd&&o.n != 0))=true from hb)];rfl,rfl⟩
  have g3:((!uD o.kd&&o.ds != 0)||(!uA o.kd&&o.a != 0)||(!uB o.kd&&o.b != 0)||(!uC o.kd&&o.c != 0)||(!uN o.kd&&o.n != 0))=false:=g3
  exact WRet.same ⟨by unfold q1t;rw [if_neg hkd,if_neg (by rw [g1];decide),hmany,if_neg (by rw [g2];decide),if_neg (by rw [g3];decide)];rfl,rfl⟩
 have k25:o.kd≠25:=by simpa using k25
 refine Br.mk (fun k18=>?_) (fun k18=>?_)
 ·have k18:o.kd=18:=by simpa using k18
  refine Br.mk (fun _=>?_) (fun h=>by cases h)
  have hmany:q2m C o.kd=C.sp:=by unfold q2m;rw [if_neg (by omega),if_pos (by omega)]
  refine WSc.mk (fun _=>And.intro (Mem.le.refl _) rfl) ?_
  refine WSc.mk (v:=decide (o.n<0)||decide (o.n≥C.sp)) (fun _=>?_) ?_
  ·refine WSc.mk (fun _=>And.intro (Mem.le.refl _) rfl) ?_
   conv=>whnf
   exact And.intro (Mem.le.refl _) rfl
  refine Br.mk (fun hb=>?_) (fun g2=>?_)
  ·exact WRet.same ⟨by unfold q1t;rw [if_neg hkd,if_neg (by rw [g1];decide),hmany,if_pos (show (uN o.kd&&o.kd != 1&&(decide (o.n<0)||decide (o.n≥C.sp)))=true from hb)];rfl,rfl⟩
  have g2:(uN o.kd&&o.kd != 1&&(decide (o.n<0)||decide (o.n≥C.sp)))=false:=g2
  refine WSc.mk (fun _=>And.intro (Mem.le.refl _) rfl) ?_
  refine WSc.mk (v:=!uA o.kd&&o.a != 0) (fun _=>?_) ?_
  ·refine WSc.mk (fun _=>And.intro (Mem.le.refl _) rfl) ?_
   conv=>whnf
   exact And.intro (Mem.le.refl _) rfl
  refine WSc.mk (v:=!uB o.kd&&o.b != 0) (fun _=>?_) ?_
  ·refine WSc.mk (fun _=>And.intro (Mem.le.refl _) rfl) ?_
   conv=>whnf
   exact And.intro (Mem.le.refl _) rfl
  refine WSc.mk (v:=!uC o.kd&&o.c != 0) (fun _=>?_) ?_
  ·refine WSc.mk (fun _=>And.intro (Mem.le.refl _) rfl) ?_
   conv=>whnf
   exact And.intro (Mem.le.refl _) rfl
  refine WSc.mk (v:=!uN o.kd&&o.n != 0) (fun _=>?_) ?_
  ·refine WSc.mk (fun _=>And.intro (Mem.le.refl _) rfl) ?_
   conv=>whnf
   exact And.intro (Mem.le.refl _) rfl
  refine Br.mk (fun hb=>?_) (fun g3=>?_)
  ·exact WRet.same ⟨by unfold q1t;rw [if_neg hkd,if_neg (by rw [g1];decide),hmany,if_neg (by rw [g2];decide),if_pos (show ((!uD o.kd&&o.ds != 0)||(!uA o.kd&&o.a != 0)||(!uB o.kd&&o.b != 0)||(!uC o.kd&&o.c != 0)||(!uN o.kd&&o.n != 0))=true from hb)];rfl,rfl⟩
  have g3:((!uD o.kd&&o.ds != 0)||(!uA o.kd&&o.a != 0)||(!uB o.kd&&o.b != 0)||(!uC o.kd&&o.c != 0)||(!uN o.kd&&o.n != 0))=false:=g3
  exact WRet.same ⟨by unfold q1t;rw [if_neg hkd,if_neg (by rw [g1];decide),hmany,if_neg (by rw [g2];decide),if_neg (by rw [g3];decide)];rfl,rfl⟩
 have k18:o.kd≠18:=by simpa using k18
 refine Br.mk (fun k19=>?_) (fun k19=>?_)
 ·have k19:o.kd=19:=by simpa using k19
  have hmany:q2m C o.kd=C.sp:=by unfold q2m;rw [if_neg (by omega),if_pos (by omega)]
  refine WSc.mk (fun _=>And.intro (Mem.le.refl _) rfl) ?_
  refine WSc.mk (v:=decide (o.n<0)||decide (o.n≥C.sp)) (fun _=>?_) ?_
  ·refine WSc.mk (fun _=>And.intro (Mem.le.refl _) rfl) ?_
   conv=>whnf
   exact And.intro (Mem.le.refl _) rfl
  refine Br.mk (fun hb=>?_) (fun g2=>?_)
  ·exact WRet.same ⟨by unfold q1t;rw [if_neg hkd,if_neg (by rw [g1];decide),hmany,if_pos (show (uN o.kd&&o.kd != 1&&(decide (o.n<0)||decide (o.n≥C.sp)))=true from hb)];rfl,rfl⟩
  have g2:(uN o.kd&&o.kd != 1&&(decide (o.n<0)||decide (o.n≥C.sp)))=false:=g2
  refine WSc.mk (fun _=>And.intro (Mem.le.refl _) rfl) ?_
  refine WSc.mk (v:=!uA o.kd&&o.a != 0) (fun _=>?_) ?_
  ·refine WSc.mk (fun _=>And.intro (Mem.le.refl _) rfl) ?_
   conv=>whnf
   exact And.intro (Mem.le.refl _) rfl
  refine WSc.mk (v:=!uB o.kd&&o.b != 0) (fun _=>?_) ?_
  ·refine WSc.mk (fun _=>And.intro (Mem.le.refl _) rfl) ?_
   conv=>whnf
   exact And.intro (Mem.le.refl _) rfl
  refine WSc.mk (v:=!uC o.kd&&o.c != 0) (fun _=>?_) ?_
  ·refine WSc.mk (fun _=>And.intro (Mem.le.refl _) rfl) ?_
   conv=>whnf
   exact And.intro (Mem.le.refl _) rfl
  refine WSc.mk (v:=!uN o.kd&&o.n != 0) (fun _=>?_) ?_
  ·refine WSc.mk (fun _=>And.intro (Mem.le.refl _) rfl) ?_
   conv=>whnf
   exact And.intro (Mem.le.refl _) rfl
  refine Br.mk (fun hb=>?_) (fun g3=>?_)
  ·exact WRet.same ⟨by unfold q1t;rw [if_neg hkd,if_neg (by rw [g1];decide),hmany,if_neg (by rw [g2];decide),if_pos (show ((!uD o.kd&&o.ds != 0)||(!uA o.kd&&o.a != 0)||(!uB o.kd&&o.b != 0)||(!uC o.kd&&o.c != 0)||(!uN o.kd&&o.n != 0))=true from hb)];rfl,rfl⟩
  have g3:((!uD o.kd&&o.ds != 0)||(!uA o.kd&&o.a != 0)||(!uB o.kd&&o.b != 0)||(!uC o.kd&&o.c != 0)||(!uN o.kd&&o.n != 0))=false:=g3
  exact WRet.same ⟨by unfold q1t;rw [if_neg hkd,if_neg (by rw [g1];decide),hmany,if_neg (by rw [g2];decide),if_neg (by rw [g3];decide)];rfl,rfl⟩
 have k19:o.kd≠19:=by simpa using k19
 refine Br.mk (fun k21=>?_) (fun k21=>?_)
 ·have k21:o.kd=21:=by simpa using k21
  refine Br.mk (fun _=>?_) (fun h=>by cases h)
  have hmany:q2m C o.kd=(C.ws.length:Int):=by unfold q2m;rw [if_neg (by omega),if_neg (by omega),if_pos (by omega)]
  refine WSc.mk (fun _=>And.intro (Mem.le.refl _) rfl) ?_
  refine WSc.mk (v:=decide (o.n<0)||decide (o.n≥(C.ws.length:Int))) (fun _=>?_) ?_
  ·refine WSc.mk (fun _=>And.intro (Mem.le.refl _) rfl) ?_
   conv=>whnf
   exact And.intro (Mem.le.refl _) rfl
  refine Br.mk (fun hb=>?_) (fun g2=>?_)
  ·exact WRet.same ⟨by unfold q1t;rw [if_neg hkd,if_neg (by rw [g1];decide),hmany,if_pos (show (uN o.kd&&o.kd != 1&&(decide (o.n<0)||decide (o.n≥(C.ws.length:Int))))=true from hb)];rfl,rfl⟩
  have g2:(uN o.kd&&o.kd != 1&&(decide (o.n<0)||decide (o.n≥(C.ws.length:Int))))=false:=g2
  refine WSc.mk (fun _=>And.intro (Mem.le.refl _) rfl) ?_
  refine WSc.mk (v:=!uA o.kd&&o.a != 0) (fun _=>?_) ?_
  ·refine WSc.mk (fun _=>And.intro (Mem.le.refl _) rfl) ?_
   conv=>whnf
   exact And.intro (Mem.le.refl _) rfl
  refine WSc.mk (v:=!uB o.kd&&o.b != 0) (fun _=>?_) ?_
  ·refine WSc.mk (fun _=>And.intro (Mem.le.refl _) rfl) ?_
   conv=>whnf
   exact And.intro (Mem.le.refl _) rfl
  refine WSc.mk (v:=!uC o.kd&&o.c != 0) (fun _=>?_) ?_
  ·refine WSc.mk (fun _=>And.intro (Mem.le.refl _) rfl) ?_
   conv=>whnf
   exact And.intro (Mem.le.refl _) rfl
  refine WSc.mk (v:=!uN o.kd&&o.n != 0) (fun _=>?_) ?_
  ·refine WSc.mk (fun _=>And.intro (Mem.le.refl _) rfl) ?_
   conv=>whnf
   exact And.intro (Mem.le.refl _) rfl
  refine Br.mk (fun hb=>?_) (fun g3=>?_)
  ·exact WRet.same ⟨by unfold q1t;rw [if_neg hkd,if_neg (by rw [g1];decide),hmany,if_neg (by rw [g2];decide),if_pos (show ((!uD o.kd&&o.ds != 0)||(!uA o.kd&&o.a != 0)||(!uB o.kd&&o.b != 0)||(!uC o.kd&&o.c != 0)||(!uN o.kd&&o.n != 0))=true from hb)];rfl,rfl⟩
  have g3:((!uD o.kd&&o.ds != 0)||(!uA o.kd&&o.a != 0)||(!uB o.kd&&o.b != 0)||(!uC o.kd&&o.c != 0)||(!uN o.kd&&o.n != 0))=false:=g3
  exact WRet.same ⟨by unfold q1t;rw [if_neg hkd,if_neg (by rw [g1];decide),hmany,if_neg (by rw [g2];decide),if_neg (by rw [g3];decide)];rfl,rfl⟩
 have k21:o.kd≠21:=by simpa using k21
 refine Br.mk (fun k26=>?_) (fun k26=>?_)
 ·have k26:o.kd=26:=by simpa using k26
  have hmany:q2m C o.kd=(C.ws.length:Int):=by unfold q2m;rw [if_neg (by omega),if_neg (by omega),if_pos (by omega)]
  refine WSc.mk (fun _=>And.intro (Mem.le.refl _) rfl) ?_
  refine WSc.mk (v:=decide (o.n<0)||decide (o.n≥(C.ws.length:Int))) (fun _=>?_) ?_
  ·refine WSc.mk (fun _=>And.intro (Mem.le.refl _) rfl) ?_
   conv=>whnf
   exact And.intro (Mem.le.refl _) rfl
  refine Br.mk (fun hb=>?_) (fun g2=>?_)
  ·exact WRet.same ⟨by unfold q1t;rw [if_neg hkd,if_neg (by rw [g1];decide),hmany,if_pos (show (uN o.kd&&o.kd != 1&&(decide (o.n<0)||decide (o.n≥(C.ws.length:Int))))=true from hb)];rfl,rfl⟩
  have g2:(uN o.kd&&o.kd != 1&&(decide (o.n<0)||decide (o.n≥(C.ws.length:Int))))=false:=g2
  refine WSc.mk (fun _=>And.intro (Mem.le.refl _) rfl) ?_
  refine WSc.mk (v:=!uA o.kd&&o.a != 0) (fun _=>?_) ?_
  ·refine WSc.mk (fun _=>And.intro (Mem.le.refl _) rfl) ?_
   conv=>whnf
   exact And.intro (Mem.le.refl _) rfl
  refine WSc.mk (v:=!uB o.kd&&o.b != 0) (fun _=>?_) ?_
  ·refine WSc.mk (fun _=>And.intro (Mem.le.refl _) rfl) ?_
   conv=>whnf
   exact And.intro (Mem.le.refl _) rfl
  refine WSc.mk (v:=!uC o.kd&&o.c != 0) (fun _=>?_) ?_
  ·refine WSc.mk (fun _=>And.intro (Mem.le.refl _) rfl) ?_
   conv=>whnf
   exact And.intro (Mem.le.refl _) rfl
  refine WSc.mk (v:=!uN o.kd&&o.n != 0) (fun _=>?_) ?_
  ·refine WSc.mk (fun _=>And.intro (Mem.le.refl _) rfl) ?_
   conv=>whnf
   exact And.intro (Mem.le.refl _) rfl
  refine Br.mk (fun hb=>?_) (fun g3=>?_)
  ·exact WRet.same ⟨by unfold q1t;rw [if_neg hkd,if_neg (by rw [g1];decide),hmany,if_neg (by rw [g2];decide),if_pos (show ((!uD o.kd&&o.ds != 0)||(!uA o.kd&&o.a != 0)||(!uB o.kd&&o.b != 0)||(!uC o.kd&&o.c != 0)||(!uN o.kd&&o.n != 0))=true from hb)];rfl,rfl⟩
  have g3:((!uD o.kd&&o.ds != 0)||(!uA o.kd&&o.a != 0)||(!uB o.kd&&o.b != 0)||(!uC o.kd&&o.c != 0)||(!uN o.kd&&o.n != 0))=false:=g3
  exact WRet.same ⟨by unfold q1t;rw [if_neg hkd,if_neg (by rw [g1];decide),hmany,if_neg (by rw [g2];decide),if_neg (by rw [g3];decide)];rfl,rfl⟩
 have k26:o.kd≠26:=by simpa using k26
 have hmany:q2m C o.kd=(0:Int):=by unfold q2m;rw [if_neg (by omega),if_neg (by omega),if_neg (by omega)]
 refine WSc.mk (fun _=>And.intro (Mem.le.refl _) rfl) ?_
 refine WSc.mk (v:=decide (o.n<0)||decide (o.n≥(0:Int))) (fun _=>?_) ?_
 ·refine WSc.mk (fun _=>And.intro (Mem.le.refl _) rfl) ?_
  conv=>whnf
  exact And.intro (Mem.le.refl _) rfl
 refine Br.mk (fun hb=>?_) (fun g2=>?_)
 ·exact WRet.same ⟨by unfold q1t;rw [if_neg hkd,if_neg (by rw [g1];decide),hmany,if_pos (show (uN o.kd&&o.kd != 1&&(decide (o.n<0)||decide (o.n≥(0:Int))))=true from hb)];rfl,rfl⟩
 have g2:(uN o.kd&&o.kd != 1&&(decide (o.n<0)||decide (o.n≥(0:Int))))=false:=g2
 refine WSc.mk (fun _=>And.intro (Mem.le.refl _) rfl) ?_
 refine WSc.mk (v:=!uA o.kd&&o.a != 0) (fun _=>?_) ?_
 ·refine WSc.mk (fun _=>And.intro (Mem.le.refl _) rfl) ?_
  conv=>whnf
  exact And.intro (Mem.le.refl _) rfl
 refine WSc.mk (v:=!uB o.kd&&o.b != 0) (fun _=>?_) ?_
 ·refine WSc.mk (fun _=>And.intro (Mem.le.refl _) rfl) ?_
  conv=>whnf
  exact And.intro (Mem.le.refl _) rfl
 refine WSc.mk (v:=!uC o.kd&&o.c != 0) (fun _=>?_) ?_
 ·refine WSc.mk (fun _=>And.intro (Mem.le.refl _) rfl) ?_
  conv=>whnf
  exact And.intro (Mem.le.refl _) rfl
 refine WSc.mk (v:=!uN o.kd&&o.n != 0) (fun _=>?_) ?_
 ·refine WSc.mk (fun _=>And.intro (Mem.le.refl _) rfl) ?_
  conv=>whnf
  exact And.intro (Mem.le.refl _) rfl
 refine Br.mk (fun hb=>?_) (fun g3=>?_)
 ·exact WRet.same ⟨by unfold q1t;rw [if_neg hkd,if_neg (by rw [g1];decide),hmany,if_neg (by rw [g2];decide),if_pos (show ((!uD o.kd&&o.ds != 0)||(!uA o.kd&&o.a != 0)||(!uB o.kd&&o.b != 0)||(!uC o.kd&&o.c != 0)||(!uN o.kd&&o.n != 0))=true from hb)];rfl,rfl⟩
 have g3:((!uD o.kd&&o.ds != 0)||(!uA o.kd&&o.a != 0)||(!uB o.kd&&o.b != 0)||(!uC o.kd&&o.c != 0)||(!uN o.kd&&o.n != 0))=false:=g3
 exact WRet.same ⟨by unfold q1t;rw [if_neg hkd,if_neg (by rw [g1];decide),hmany,if_neg (by rw [g2];decide),if_neg (by rw [g3];decide)];rfl,rfl⟩

end Go.Proofs.YtleofbpepfmfgaaGreatDoor
