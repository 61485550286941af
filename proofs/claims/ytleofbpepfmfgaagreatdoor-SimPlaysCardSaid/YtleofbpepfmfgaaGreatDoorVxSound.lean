import Derived.Test.YtleofbpepfmfgaaGreatDoorVxOps
set_option linter.unusedSimpArgs false
set_option linter.unusedVariables false
namespace Go.Vx
open Go
variable {P:Program} {D0:q3k} {ro:Option Nat} {m0:Mem} {w0:World} {N:Nat} {e:Env} {m:Mem} {a:Act} {w:World} {next:Act→World→Prop} {Q:Exit→Act→World→Prop}

def q7e (N:Nat) (d t:Option Nat):Bool:=match d,t with | some d,some t=>Nat.beq d t&&Nat.ble (d+1) N | none,none=>true | _,_=>false
def q9x (N:Nat) (o:Oper) (d:Option Nat) (x:IOp):Bool :=
 match x with
 | .vst k _ _ _=>(match d,o.dst with | some d,none=>Nat.beq d k | _,_=>false)
 | .va _=>(match d,o.dst with | some d,some t=>Nat.beq d t&&Nat.ble (d+1) N | _,_=>false)
 | .vb _=>(match d,o.dst with | some d,some t=>Nat.beq d t&&Nat.ble (d+1) N | _,_=>false)
 | _=>q7e N d o.dst

variable {o:Oper} {d:Option Nat} {F:AV→Mem→Prop} {X:List PanicEntry→Mem→Prop}
theorem q5y (hd:q7e N d o.dst=true) (h:Rel D0 m0 w0 N e m a w) {v:Value} {m':Mem} {w':World} (hrun:(execOp a.eval o).run P w=.ok (.value v) w') (hs:Step m w m' w') (hk:F (.val v) m')
  (hF:∀ u m' a' w',F u m'→Rel D0 m0 w0 N (e.put d u) m' a' w'→next a' w'):o.wpIn (FR ro) 0 P a w next Q :=
 q8k hrun (hF _ _ _ _ hk ((h.mem hs).putVal hd v))
theorem v3f (hd:q7e N d o.dst=true) (h:Rel D0 m0 w0 N e m a w) {m':Mem} {w':World} (hrun:(execOp a.eval o).run P w=.ok .skip w') (hs:Step m w m' w') (hk:F (.val undef) m')
  (hF:∀ u m' a' w',F u m'→Rel D0 m0 w0 N (e.put d u) m' a' w'→next a' w'):o.wpIn (FR ro) 0 P a w next Q :=
 v5k hrun (hF _ _ _ _ hk ((h.mem hs).putVal hd undef))
theorem q2k (hd:q7e N d o.dst=true) (h:Rel D0 m0 w0 N e m a w) {v:Value} (hrun:(execOp a.eval o).run P w=.ok (.value v) w) (hk:F (.val v) m)
  (hF:∀ u m' a' w',F u m'→Rel D0 m0 w0 N (e.put d u) m' a' w'→next a' w'):o.wpIn (FR ro) 0 P a w next Q:=q5y hd h hrun (Step.refl h.sub) hk hF
theorem z3u (hd:q7e N d o.dst=true) (h:Rel D0 m0 w0 N e m a w) {f:Nat} {vs:List Value} {R:Ending→Mem→Prop} (hc:q0f P f vs m R)
  (hrun:(execOp a.eval o).run P w=(callFunc f ⟨vs⟩).run P w)
  (hk:∀ e' m',R e' m'→(match e' with | .returned v=>F (.val v) m' | .panicked ch=>X ch m' | .outgrown=>False))
  (hF:∀ u m' a' w',F u m'→Rel D0 m0 w0 N (e.put d u) m' a' w'→next a' w') (hX:∀ ch m' w',X ch m'→Step m0 w0 m' w'→q3m D0 m' w0 a.defers w'→Q (.panic ch) a w'):o.wpIn (FR ro) 0 P a w next Q:=by
 refine k9y (hrun.trans (v1y hc.1 _)) (Calls.mono (hc.2 w h.sub) ?_)
 rintro e' w' ⟨m',hs,hr⟩
 have:=hk e' m' hr
 cases e' with
 | returned v=>exact hF _ _ _ _ this ((h.mem hs).putVal hd v)
 | panicked ch=>exact hX ch m' w' this (h.step.trans hs) (h.defers.step hs)
 | outgrown=>exact this.elim

theorem Rel.fa (h:Rel D0 m0 w0 N e m a w) (hd:q7e N d o.dst=true) {t k off:Nat} {u v:Value} (hk:∀ cs,e k=some (.var cs)→∃ b,a.tmps.getD k undef=.pointer (some ⟨b,0,none⟩)∧v=.pointer (some ⟨b,off,none⟩)) :
  Rel D0 m0 w0 N (e.put d (.ref k off)) m (a.put o.dst v) w:=by
 unfold q7e at hd
 cases hdd:d with
 | none=>rw [hdd] at hd;cases ho:o.dst with
  | none=>exact h
  | some t=>rw [ho] at hd;cases hd
 | some t=>rw [hdd] at hd;cases ho:o.dst with
  | none=>rw [ho] at hd;cases hd
  | some t' =>
   rw [ho,Bool.and_eq_true] at hd
   obtain rfl:=q0n hd.1
   refine h.upd (Nat.le_of_ble_eq_true hd.2) (fun _ hh=>by cases hh) (fun _ hh=>by cases hh) (fun k' off' cs hh hne hkk=>?_) (fun _ _ _ _ hh=>by cases hh)
   cases hh;exact hk cs hkk
theorem Rel.fai (h:Rel D0 m0 w0 N e m a w) (hd:q7e N d o.dst=true) {k off:Nat} {i:Int} {v:Value} (h0:0≤i) (hk:∀ cs,e k=some (.var cs)→∃ b,a.tmps.getD k undef=.pointer (some ⟨b,0,none⟩)∧v=.pointer (some ⟨b,off+i.toNat,none⟩)) :
  Rel D0 m0 w0 N (e.put d (.refi k off i)) m (a.put o.dst v) w:=by
 unfold q7e at hd
 cases hdd:d with
 | none=>rw [hdd] at hd;cases ho:o.dst with
  | none=>exact h
  | some t=>rw [ho] at hd;cases hd
 | some t=>rw [hdd] at hd;cases ho:o.dst with
  | none=>rw [ho] at hd;cases hd
  | some t' =>
   rw [ho,Bool.and_eq_true] at hd
   obtain rfl:=q0n hd.1
   refine h.upd (Nat.le_of_ble_eq_true hd.2) (fun _ hh=>by cases hh) (fun _ hh=>by cases hh) (fun _ _ _ hh=>by cases hh) (fun k' off' i' cs hh hne hkk=>?_)
   cases hh;exact ⟨h0,hk cs hkk⟩
theorem q8l {n:Nat} {y:Operand} (h:okX (.t n) y=true):a.eval y=a.tmps.getD n undef:=by
 cases y with
 | tmp k=>simp only [okX] at h;rw [q0n h];rfl
 | const v=>simp [okX] at h
 | global g=>simp [okX] at h
 | func f=>simp [okX] at h

theorem z7a {b off:Nat} {l vs:List Value} {T:TypeId} (hb:w.heap[b]? = some (Cells l T)) (hl:off+vs.length≤l.length) (h1:oneL vs=true) :
  (storeCells ⟨b,off,none⟩ vs).run P w=.ok () (w.setRow b ⟨q0j l off vs⟩):=by
 have hrun:=run_storeCells_at (P:=P) b off T vs 0 ⟨l⟩ w hb (by simpa using hl) (v0k h1)
 simp only [Nat.add_zero] at hrun
 rw [q5x _ _ _ hl]
 exact hrun
theorem j5d (b off k:Nat):(⟨b,off,none⟩:Addr).add k=⟨b,off+k,none⟩:=by unfold Addr.add;split<;>simp_all
theorem v2j {x:IOp} (ok:okOp P o x=true) (od:q9x N o d x=true) (h:Rel D0 m0 w0 N e m a w) (hv:vop P x e m F X)
  (hF:∀ u m' a' w',F u m'→Rel D0 m0 w0 N (e.put d u) m' a' w'→next a' w') (hX:∀ ch m' w',X ch m'→Step m0 w0 m' w'→q3m D0 m' w0 a.defers w'→Q (.panic ch) a w'):o.wpIn (FR ro) 0 P a w next Q:=by
 have E:∀ {x:Opd} {y:Operand} {v:Value},okX x y=true→x.at e=some v→a.eval y=v:=fun hx hv=>q6f h hx hv
 unfold okOp at ok
 split at ok
 ·-- mv, move
  rename_i x y hop
  simp only [vop] at hv
  split at hv<;>first | exact hv.elim | skip
  rename_i v hx
  exact q2k od h (by simp only [execOp,hop,E ok hx];rfl) hv hF
 ·rename_i x y hop
  simp only [vop] at hv
  split at hv<;>first | exact hv.elim | skip
  rename_i v hx
  exact q2k od h (by simp only [execOp,hop,E ok hx];rfl) hv hF
 ·-- pick
  rename_i c x y c' x' y' hop
  simp only [Bool.and_eq_true] at ok
  simp only [vop] at hv
  split at hv<;>first | exact hv.elim | skip
  rename_i b hc
  split at hv<;>first | exact hv.elim | skip
  rename_i vx vy hx hy
  unfold Br at hv
  have hrun:(execOp a.eval o).run P w=.ok (.value (if b then vx else vy)) w:=by simp only [execOp,hop,E ok.1.1 hc,E ok.1.2 hx,E ok.2 hy];rfl
  cases b with
  | true=>exact q2k od h hrun hv hF
  | false=>exact q2k od h hrun hv hF
 ·-- bin
  rename_i op x y op' t x' y' t2 hop
  simp only [Bool.and_eq_true,beq_iff_eq] at ok
  obtain ⟨⟨rfl,ok1⟩,ok2⟩:=ok
  simp only [vop] at hv
  split at hv<;>first | exact hv.elim | skip
  rename_i k n k' l hx hy
  cases hk:kbeq k k' with
  | false=>rw [hk] at hv;exact hv.elim
  | true =>
   rw [hk] at hv;simp only [cond_true] at hv
   obtain rfl:=q6n hk
   split at hv<;>first | exact hv.elim | skip
   rename_i v hb
   refine q2k od h ?_ hv hF
   simp only [execOp,hop,E ok1 hx,E ok2 hy]
   rw [Sem.run_bind,v1v hb];rfl
 ·-- binN
  rename_i op x y op' t x' y' t2 hop
  simp only [Bool.and_eq_true,beq_iff_eq] at ok
  obtain ⟨⟨rfl,ok1⟩,ok2⟩:=ok
  simp only [vop] at hv
  split at hv<;>first | exact hv.elim | skip
  rename_i k n k' l hx hy
  cases hk:kbeq k k' with
  | false=>rw [hk] at hv;exact hv.elim
  | true =>
   rw [hk] at hv;simp only [cond_true] at hv
   obtain rfl:=q6n hk
   split at hv<;>first | exact hv.elim | skip
   rename_i z hb
   unfold WRng at hv
   refine q2k od h ?_ hv.2 hF
   have hb2:z0c op k n l=some (.int k z):=by
    cases op<;>simp only [v6t,Option.some.injEq] at hb<;>first | (cases hb;done) | (subst hb;simp only [z0c,hv.1])
   simp only [execOp,hop,E ok1 hx,E ok2 hy]
   rw [Sem.run_bind,v1v hb2];rfl
 ·-- div
  rename_i op x y op' t x' y' t2 hop
  simp only [Bool.and_eq_true,beq_iff_eq] at ok
  obtain ⟨⟨rfl,ok1⟩,ok2⟩:=ok
  simp only [vop] at hv
  split at hv<;>first | exact hv.elim | skip
  rename_i k n k' l hx hy
  cases hk:kbeq k k' with
  | false=>rw [hk] at hv;exact hv.elim
  | true =>
   rw [hk] at hv;simp only [cond_true] at hv
   obtain rfl:=q6n hk
   unfold WNe at hv
   split at hv<;>first | exact hv.elim | skip
   all_goals
    refine q2k od h ?_ hv.2 hF
    simp only [execOp,hop,E ok1 hx,E ok2 hy]
    simp [eqGuard,binOp,Op.intDiv,hv.1]
 ·-- shf
  rename_i op x y op' t x' y' t2 hop
  simp only [Bool.and_eq_true,beq_iff_eq] at ok
  obtain ⟨⟨rfl,ok1⟩,ok2⟩:=ok
  simp only [vop] at hv
  split at hv<;>first | exact hv.elim | skip
  rename_i k n k' l hx hy
  unfold WBnd at hv
  obtain ⟨⟨h0,_⟩,hv⟩:=hv
  have hn:¬ l<0:=by omega
  split at hv<;>first | exact hv.elim | skip
  all_goals
   refine q2k od h ?_ hv hF
   simp only [execOp,hop,E ok1 hx,E ok2 hy]
   simp [eqGuard,binOp,Op.shift,hn]
 ·-- eq
  rename_i k neg x y op t x' y' t2 hop
  simp only [Bool.and_eq_true,beq_iff_eq] at ok
  obtain ⟨⟨⟨rfl,ok0⟩,ok1⟩,ok2⟩:=ok
  simp only [vop] at hv
  split at hv<;>first | exact hv.elim | skip
  rename_i va vb hx hy
  split at hv<;>first | exact hv.elim | skip
  rename_i r hr
  refine q2k od h ?_ hv hF
  simp only [execOp,hop,E ok1 hx,E ok2 hy]
  rw [Sem.run_bind,k0u ok0 hr];rfl
 ·-- eqA
  rename_i neg n x y op t x' y' t2 hop
  simp only [Bool.and_eq_true,beq_iff_eq] at ok
  obtain ⟨⟨⟨rfl,ok0⟩,ok1⟩,ok2⟩:=ok
  simp only [vop] at hv
  split at hv<;>first | exact hv.elim | skip
  rename_i va vb hx hy
  split at hv<;>first | exact hv.elim | skip
  rename_i r hr
  cases hn:Nat.beq va.toList.length n with
  | false=>rw [hn] at hr;cases hr
  | true =>
   rw [hn] at hr;simp only [cond_true] at hr
   refine q2k od h ?_ hv hF
   simp only [execOp,hop,E ok1 hx,E ok2 hy]
   rw [Sem.run_bind,v9e ok0 hn hr];rfl
 ·-- un
  rename_i op x op' t x' hop
  simp only [Bool.and_eq_true,beq_iff_eq] at ok
  obtain ⟨rfl,ok1⟩:=ok
  simp only [vop] at hv
  split at hv<;>first | exact hv.elim | skip
  all_goals
   rename_i hx
   refine q2k od h ?_ hv hF
   simp only [execOp,hop,E ok1 hx]
   simp [Op.unary,Op.intArith,Op.intBits]
 ·-- cv
  rename_i k x s t x' hop
  simp only [Bool.and_eq_true] at ok
  obtain ⟨⟨ok0,ok1⟩,ok2⟩:=ok
  simp only [vop] at hv
  split at hv<;>first | exact hv.elim | skip
  rename_i k' n hx
  obtain ⟨ds,hs⟩:=Option.isSome_iff_exists.1 ok0
  unfold z5h at ok1
  split at ok1<;>first | (cases ok1;done) | skip
  rename_i j hj
  obtain rfl:=q6n ok1
  refine q2k od h ?_ hv hF
  simp only [execOp,hop,E ok2 hx,convert,Sem.run_bind,run_underlying hs,run_underlying hj,Result.andThen_ok,Conv.intToInt,Sem.run_pure]
 ·-- cvN
  rename_i k x s t x' hop
  simp only [Bool.and_eq_true] at ok
  obtain ⟨⟨ok0,ok1⟩,ok2⟩:=ok
  simp only [vop] at hv
  split at hv<;>first | exact hv.elim | skip
  rename_i k' n hx
  obtain ⟨ds,hs⟩:=Option.isSome_iff_exists.1 ok0
  unfold z5h at ok1
  split at ok1<;>first | (cases ok1;done) | skip
  rename_i j hj
  obtain rfl:=q6n ok1
  unfold WRng at hv
  refine q2k od h ?_ hv.2 hF
  simp only [execOp,hop,E ok2 hx,convert,Sem.run_bind,run_underlying hs,run_underlying hj,Result.andThen_ok,Conv.intToInt,Sem.run_pure,hv.1]
 ·-- len
  rename_i x c hop
  split at ok<;>first | (cases ok;done) | skip
  rename_i hcal
  split at ok<;>first | (cases ok;done) | skip
  rename_i y t ts hargs htys
  simp only [Bool.and_eq_true] at ok
  obtain ⟨ok1,ok2⟩:=ok
  split at ok2<;>first | (cases ok2;done) | skip
  rename_i el hu
  have ha:c.args.map a.eval=#[a.eval y]:=by apply Array.ext';simp [hargs]
  have ht:c.argTypes[0]? = some t:=by rw [← Array.getElem?_toList,htys];rfl
  simp only [vop] at hv
  split at hv<;>first | exact hv.elim | skip
  rename_i b n cap hx
  refine q2k od h ?_ hv hF
  simp only [execOp,hop,resolve,hcal,Sem.run_bind,Sem.run_pure,Result.andThen_ok,invoke,builtin,ha,E ok1 hx]
  simp [Builtin.len_,ht,run_underlying hu,goInt]
 ·-- mm
  rename_i mx xs c hop
  simp only [vop] at hv
  split at hv<;>first | exact hv.elim | skip
  rename_i k x vs hx
  split at hv<;>first | exact hv.elim | skip
  rename_i v hmm
  have hrun:=k8c (P:=P) (w:=w) vs hmm
  split at ok<;>first | (cases ok;done) | skip
  ·rename_i hcal
   rw [Bool.and_eq_true] at ok
   obtain ⟨rfl,ok1⟩:=ok
   have ha:(c.args.map a.eval).toList=.int k x :: vs:=by rw [Array.toList_map];exact q7x h ok1 hx
   refine q2k od h ?_ hv hF
   simp only [execOp,hop,resolve,hcal,Sem.run_bind,Sem.run_pure,Result.andThen_ok,invoke,builtin,Builtin.max_,ha]
   simp only [if_true] at hrun
   rw [hrun,Result.andThen_ok]
  ·rename_i hcal
   rw [Bool.and_eq_true,Bool.not_eq_true'] at ok
   obtain ⟨rfl,ok1⟩:=ok
   have ha:(c.args.map a.eval).toList=.int k x :: vs:=by rw [Array.toList_map];exact q7x h ok1 hx
   refine q2k od h ?_ hv hF
   simp only [execOp,hop,resolve,hcal,Sem.run_bind,Sem.run_pure,Result.andThen_ok,invoke,builtin,Builtin.min_,ha]
   simp only [Bool.false_eq_true,if_false] at hrun
   rw [hrun,Result.andThen_ok]
 ·-- fld
  rename_i off n agg x t x' f hop
  simp only [Bool.and_eq_true] at ok
  simp only [vop] at hv
  split at hv<;>first | exact hv.elim | skip
  rename_i cs hx
  have key:∀ v,z8l agg cs off n v→F (.val v) m→o.wpIn (FR ro) 0 P a w next Q:=fun v h1 h2=>by
   refine q2k od h ?_ h2 hF
   simp only [execOp,hop,E ok.2 hx,Sem.run_bind,j3b ok.1 h1,Result.andThen_ok,Sem.run_pure]
  cases agg with
  | true=>exact key _ rfl hv
  | false =>
   simp only at hv
   split at hv<;>first | exact hv.elim | skip
   rename_i v r hd
   exact key v ⟨r,hd⟩ hv
 ·-- idx
  rename_i esz len x i t x' i' hop
  simp only [Bool.and_eq_true] at ok
  simp only [vop] at hv
  split at hv<;>first | exact hv.elim | skip
  rename_i cs k i hx hi
  cases hb:Nat.beq esz 1 with
  | false=>rw [hb] at hv;exact hv.elim
  | true =>
   rw [hb] at hv;simp only [cond_true] at hv
   obtain rfl:=q0n hb
   unfold WBnd WGet at hv
   obtain ⟨hb1,v,hv1,hv⟩:=hv
   rw [Nat.zero_add] at hv1
   refine q2k od h ?_ hv hF
   simp only [execOp,hop,E ok.1.2 hx,E ok.2 hi,Sem.run_bind,v8i ok.1.1 hb1 hv1,Result.andThen_ok,Sem.run_pure]
 ·-- sx
  rename_i x i t x' i' hop
  simp only [Bool.and_eq_true] at ok
  simp only [vop] at hv
  split at hv<;>first | exact hv.elim | skip
  rename_i s k i hx hi
  unfold q6d at hv
  obtain ⟨b,hb1,hv⟩:=hv
  obtain ⟨⟨ok0,ok1⟩,ok2⟩:=ok
  split at ok0<;>first | (cases ok0;done) | skip
  rename_i hu
  refine q2k od h ?_ hv hF
  simp only [execOp,hop,E ok1 hx,E ok2 hi,Sem.run_bind,j0b hu hb1.1 hb1.2,Result.andThen_ok,Sem.run_pure]
 ·-- ext
  rename_i x i x' i' hop
  simp only [Bool.and_eq_true] at ok
  obtain rfl:=q0n ok.1
  simp only [vop] at hv
  split at hv<;>first | exact hv.elim | skip
  rename_i vs hx
  split at hv<;>first | exact hv.elim | skip
  rename_i v r hd
  have h0:vs[i]? = some v:=by
   have:(vs.toList.drop i)[0]? = some v:=by rw [hd];rfl
   rw [List.getElem?_drop] at this
   simpa using this
  refine q2k od h ?_ hv hF
  simp only [execOp,hop,E ok.2 hx,Instr.extract,h0];rfl
 ·-- bd
  rename_i zeros parts t ps hop
  simp only [Bool.and_eq_true] at ok
  simp only [vop] at hv
  split at hv<;>first | exact hv.elim | skip
  rename_i vs hp
  split at hv<;>first | exact hv.elim | skip
  rename_i cs hc
  refine q2k od h ?_ hv hF
  have:=run_build h ok.1.1 ok.1.2 ok.2 hp hc
  simp only [execOp,hop,Sem.run_bind]
  rw [this];rfl
 ·-- fa
  rename_i x off t x' f hop
  simp only [Bool.and_eq_true] at ok
  simp only [vop] at hv
  split at hv<;>first | exact hv.elim | skip
  ·rename_i ad hx
   have hx':x.at e=some (.pointer (some ad)):=by cases x<;>simp_all [Opd.av,Opd.at]
   refine q2k od h ?_ hv hF
   simp only [execOp,hop,E ok.2 hx',Sem.run_bind,z8j ok.1,Result.andThen_ok,Sem.run_pure]
  ·rename_i cs hx
   split at hv<;>first | exact hv.elim | skip
   rename_i k
   simp only [Opd.av] at hx
   obtain ⟨b,T,g1,g2,g3,g4⟩:=h.var k cs hx
   have hev:a.eval x'=.pointer (some ⟨b,0,none⟩):=(q8l ok.2).trans g1
   have hrun:(execOp a.eval o).run P w=.ok (.value (.pointer (some ((⟨b,0,none⟩:Addr).add off)))) w:=by
    simp only [execOp,hop,hev,Sem.run_bind,z8j ok.1,Result.andThen_ok,Sem.run_pure]
   refine q8k hrun (hF _ _ _ _ hv (h.fa od (t:=k) (u:=undef) fun cs' hcs=>⟨b,g1,?_⟩))
   unfold Addr.add;split
   ·rename_i h0;rw [h0]
   ·simp
 ·-- fr
  rename_i k x off t x' f hop
  simp only [Bool.and_eq_true] at ok
  simp only [vop] at hv
  split at hv<;>first | exact hv.elim | skip
  rename_i cs j o' hk hx
  cases hb:Nat.beq j k with
  | false=>rw [hb] at hv;exact hv.elim
  | true =>
   rw [hb] at hv;simp only [cond_true] at hv
   obtain rfl:=q0n hb
   obtain ⟨b,g1,g2⟩:=h.ref x j o' cs hx hk
   have hev:a.eval x'=.pointer (some ⟨b,o',none⟩):=(q8l ok.2).trans g2
   have hrun:(execOp a.eval o).run P w=.ok (.value (.pointer (some ((⟨b,o',none⟩:Addr).add off)))) w:=by
    simp only [execOp,hop,hev,Sem.run_bind,z8j ok.1,Result.andThen_ok,Sem.run_pure]
   refine q8k hrun (hF _ _ _ _ hv (h.fa od (t:=x) (u:=undef) fun cs' hcs'=>⟨b,g1,?_⟩))
   unfold Addr.add;split
   ·rename_i h0;rw [h0];rfl
   ·simp
 ·-- ia
  rename_i x i esz t x' i' hop
  simp only [Bool.and_eq_true] at ok
  simp only [vop] at hv
  split at hv<;>first | exact hv.elim | skip
  rename_i b len cap k i hx hi
  unfold WIdx at hv
  obtain ⟨ad,rfl,hb,hv⟩:=hv
  refine q2k od h ?_ hv hF
  simp only [execOp,hop,E ok.1.2 hx,E ok.2 hi,Sem.run_bind,w3a ok.1.1 ad len cap k i hb,Result.andThen_ok,Sem.run_pure]
 ·-- iap
  rename_i x i esz len t x' i' hop
  simp only [Bool.and_eq_true] at ok
  simp only [vop] at hv
  split at hv<;>first | exact hv.elim | skip
  ·rename_i ad k i hx hi
   have hx':x.at e=some (.pointer (some ad)):=by cases x<;>simp_all [Opd.av,Opd.at]
   unfold WBnd at hv
   refine q2k od h ?_ hv.2 hF
   simp only [execOp,hop,E ok.1.2 hx',E ok.2 hi,Sem.run_bind,z8r ok.1.1 ad k i hv.1,Result.andThen_ok,Sem.run_pure]
  ·rename_i cs k i hx hi
   split at hv<;>first | exact hv.elim | skip
   rename_i s
   cases hb:Nat.beq esz 1 with
   | false=>rw [hb] at hv;exact hv.elim
   | true =>
    rw [hb] at hv;simp only [cond_true] at hv
    obtain rfl:=q0n hb
    unfold WBnd at hv
    simp only [Opd.av] at hx
    obtain ⟨b,T,g1,g2,g3,g4⟩:=h.var s cs hx
    have hev:a.eval x'=.pointer (some ⟨b,0,none⟩):=(q8l ok.1.2).trans g1
    have hrun:(execOp a.eval o).run P w=.ok (.value (.pointer (some ((⟨b,0,none⟩:Addr).add (i.toNat * 1))))) w:=by
     simp only [execOp,hop,hev,E ok.2 hi,Sem.run_bind,z8r ok.1.1 ⟨b,0,none⟩ k i hv.1,Result.andThen_ok,Sem.run_pure]
    refine q8k hrun (hF _ _ _ _ hv.2 (h.fai od hv.1.1 fun cs' hcs=>⟨b,g1,?_⟩))
    unfold Addr.add;split
    ·rename_i h0;rw [Nat.mul_one] at h0;rw [h0]
    ·simp
 ·-- ir
  rename_i k x i len t x' i' hop
  simp only [Bool.and_eq_true] at ok
  simp only [vop] at hv
  split at hv<;>first | exact hv.elim | skip
  rename_i cs j o' ki i hk hx hi
  cases hb:Nat.beq j k with
  | false=>rw [hb] at hv;exact hv.elim
  | true =>
   rw [hb] at hv;simp only [cond_true] at hv
   obtain rfl:=q0n hb
   unfold WBnd at hv
   obtain ⟨b,g1,g2⟩:=h.ref x j o' cs hx hk
   have hev:a.eval x'=.pointer (some ⟨b,o',none⟩):=(q8l ok.1.2).trans g2
   have hrun:(execOp a.eval o).run P w=.ok (.value (.pointer (some ((⟨b,o',none⟩:Addr).add (i.toNat * 1))))) w:=by
    simp only [execOp,hop,hev,E ok.2 hi,Sem.run_bind,z8r ok.1.1 ⟨b,o',none⟩ ki i hv.1,Result.andThen_ok,Sem.run_pure]
   refine q8k hrun (hF _ _ _ _ hv.2 (h.fai od hv.1.1 fun cs' hcs=>⟨b,g1,?_⟩))
   unfold Addr.add;split
   ·rename_i h0;rw [Nat.mul_one] at h0;rw [h0];rfl
   ·simp
 ·-- nc
  rename_i x x' hop
  simp only [vop] at hv
  split at hv<;>first | exact hv.elim | skip
  ·rename_i ad hx
   exact q2k od h (by simp only [execOp,hop,E ok hx];rfl) hv hF
  ·rename_i f fs cs hx
   exact q2k od h (by simp only [execOp,hop,E ok hx];rfl) hv hF
  ·rename_i f fs cs hx
   exact q2k od h (by simp only [execOp,hop,E ok hx];rfl) hv hF
 ·-- ld
  rename_i x t x' hop
  simp only [Bool.and_eq_true] at ok
  simp only [vop] at hv
  split at hv<;>first | exact hv.elim | skip
  rename_i ad hx
  unfold WLd at hv
  obtain ⟨v,hc,hv⟩:=hv
  refine q2k od h ?_ hv hF
  simp only [execOp,hop,E ok.2 hx,Sem.run_bind,v5c ok.1 (cell?_of h.sub hc),Result.andThen_ok,Sem.run_pure]
 ·-- lds
  rename_i x n t x' hop
  simp only [Bool.and_eq_true] at ok
  simp only [vop] at hv
  split at hv<;>first | exact hv.elim | skip
  rename_i ad hx
  unfold WLds at hv
  obtain ⟨vs,rfl,hc,hv⟩:=hv
  refine q2k od h ?_ hv hF
  simp only [execOp,hop,E ok.2 hx,Sem.run_bind,v0a ok.1 (fun j v hj=>cell?_of h.sub (hc j v hj)),Result.andThen_ok,Sem.run_pure]
 ·-- st
  rename_i x v n t x' v' hop
  simp only [Bool.and_eq_true] at ok
  simp only [vop] at hv
  split at hv<;>first | exact hv.elim | skip
  rename_i ad v hx hvv
  cases hb:(Nat.beq (q0k v).length n&&oneL (q0k v)) with
  | false=>rw [hb] at hv;exact hv.elim
  | true =>
   rw [hb] at hv;simp only [cond_true] at hv
   rw [Bool.and_eq_true] at hb
   obtain rfl:=q0n hb.1
   unfold WSt at hv
   obtain ⟨l,T,hm,hs,hl,hv⟩:=hv
   obtain ⟨b,off,sp⟩:=ad
   simp only at hs;subst hs
   have hagg:∃ agg,q4h P t agg (q0k v).length=true:=by
    rcases (Bool.or_eq_true _ _).mp ok.1.1 with h | h
    ·exact ⟨_,h⟩
    ·exact ⟨_,h⟩
   obtain ⟨agg,hagg⟩:=hagg
   refine v3f od h ?_ (Step.put h.sub hm) hv hF
   simp only [execOp,hop,E ok.1.2 hx,E ok.2 hvv,Sem.run_bind,v3p hagg hb.2 (h.sub _ _ hm) hl,Result.andThen_ok,Sem.run_pure]
 ·-- va
  rename_i zeros t hop
  obtain ⟨i,z,hi,hz,hc,hsz⟩:=z2k ok
  simp only [vop] at hv
  simp only [q9x] at od
  split at od<;>first | (cases od;done) | skip
  rename_i s t' hdst
  rw [Bool.and_eq_true] at od
  obtain rfl:=q0n od.1
  have hrun:(execOp a.eval o).run P w=.ok (.value (.pointer (some ⟨w.heap.size,0,none⟩))) { w with heap:=w.heap.push (Cells zeros t) }:=by
   simp only [execOp,hop,Instr.alloc,Sem.run_bind,q7h hi hz,Result.andThen_ok,newVar,newRow,run_newObj,Sem.run_pure,q6r,hc]
  refine q8k hrun ?_
  rw [hdst]
  exact hF _ _ _ _ hv (h.fresh (Nat.le_of_ble_eq_true od.2) zeros t)
 ·-- vb
  rename_i x t x' hop
  simp only [vop] at hv
  split at hv<;>first | exact hv.elim | skip
  rename_i v hx
  simp only [q9x] at od
  split at od<;>first | (cases od;done) | skip
  rename_i s t' hdst
  rw [Bool.and_eq_true] at od
  obtain rfl:=q0n od.1
  have hrun:(execOp a.eval o).run P w=.ok (.value (.pointer (some ⟨w.heap.size,0,none⟩))) { w with heap:=w.heap.push (Cells (q0k v) t) }:=by
   simp only [execOp,hop,E ok hx,Instr.box,Sem.run_bind,Result.andThen_ok,newVar,newRow,run_newObj,Sem.run_pure,q6r]
  refine q8k hrun ?_
  rw [hdst]
  exact hF _ _ _ _ hv (h.fresh (Nat.le_of_ble_eq_true od.2) (q0k v) t)
 ·-- vld
  rename_i k x t x' hop
  simp only [Bool.and_eq_true] at ok
  simp only [vop] at hv
  split at hv<;>first | exact hv.elim | skip
  rename_i cs hk
  obtain ⟨b,T,g1,g2,g3,g4⟩:=h.var k cs hk
  have key:∀ off v,a.tmps.getD x undef=.pointer (some ⟨b,off,none⟩)→cs[off]? = some v→F (.val v) m→o.wpIn (FR ro) 0 P a w next Q:=fun off v h1 h2 h3=>by
   refine q2k od h ?_ h3 hF
   have hc:w.cell? ⟨b,off,none⟩=some v:=by simp [World.cell?,g2,h2]
   simp only [execOp,hop,q8l ok.2,h1,Sem.run_bind,v5c ok.1 hc,Result.andThen_ok,Sem.run_pure]
  split at hv<;>first | exact hv.elim | skip
  ·rename_i cs' hx
   cases hb:Nat.beq x k with
   | false=>rw [hb] at hv;exact hv.elim
   | true =>
    rw [hb] at hv;simp only [cond_true] at hv
    obtain rfl:=q0n hb
    split at hv<;>first | exact hv.elim | skip
    exact key 0 _ g1 rfl hv
  ·rename_i j off hx
   cases hb:Nat.beq j k with
   | false=>rw [hb] at hv;exact hv.elim
   | true =>
    rw [hb] at hv;simp only [cond_true] at hv
    obtain rfl:=q0n hb
    split at hv<;>first | exact hv.elim | skip
    rename_i v r hd
    obtain ⟨b',g5,g6⟩:=h.ref x j off cs hx hk
    rw [g1] at g5;cases g5
    refine key off v g6 ?_ hv
    have:(cs.drop off)[0]? = some v:=by rw [hd];rfl
    rw [List.getElem?_drop] at this
    simpa using this
  ·rename_i j off i hx
   cases hb:Nat.beq j k with
   | false=>rw [hb] at hv;exact hv.elim
   | true =>
    rw [hb] at hv;simp only [cond_true] at hv
    obtain rfl:=q0n hb
    unfold WGet at hv
    obtain ⟨v,hv1,hv⟩:=hv
    obtain ⟨_,b',g5,g6⟩:=h.refi x j off i cs hx hk
    rw [g1] at g5;cases g5
    exact key _ v g6 hv1 hv
 ·-- vlds
  rename_i k x n t x' hop
  simp only [Bool.and_eq_true] at ok
  simp only [vop] at hv
  split at hv<;>first | exact hv.elim | skip
  rename_i cs hk
  obtain ⟨b,T,g1,g2,g3,g4⟩:=h.var k cs hk
  have key:∀ off,a.tmps.getD x undef=.pointer (some ⟨b,off,none⟩)→off+n≤cs.length→F (.val (.agg ⟨(cs.drop off).take n⟩)) m→o.wpIn (FR ro) 0 P a w next Q:=fun off h1 h2 h3=>by
   refine q2k od h ?_ h3 hF
   have hl:((cs.drop off).take n).length=n:=by simp;omega
   have hc:∀ j v,((cs.drop off).take n)[j]? = some v→w.cell? ((⟨b,off,none⟩:Addr).add j)=some v:=fun j v hj=>by
    have hjn:j<n:=by have:=(List.getElem?_eq_some_iff.1 hj).1;omega
    rw [List.getElem?_take,if_pos hjn,List.getElem?_drop] at hj
    have:(⟨b,off,none⟩:Addr).add j=⟨b,off+j,none⟩:=by unfold Addr.add;split<;>simp_all
    rw [this]
    simp [World.cell?,g2,hj]
   have ok1:=ok.1
   rw [← hl] at ok1
   simp only [execOp,hop,q8l ok.2,h1,Sem.run_bind,v0a ok1 hc,Result.andThen_ok,Sem.run_pure]
  split at hv<;>first | exact hv.elim | skip
  ·rename_i cs' hx
   cases hb:(Nat.beq x k&&Nat.ble n cs.length) with
   | false=>rw [hb] at hv;exact hv.elim
   | true =>
    rw [hb] at hv;simp only [cond_true] at hv
    rw [Bool.and_eq_true] at hb
    obtain rfl:=q0n hb.1
    exact key 0 g1 (by have:=Nat.le_of_ble_eq_true hb.2;omega) hv
  ·rename_i j off hx
   cases hb:(Nat.beq j k&&Nat.ble (off+n) cs.length) with
   | false=>rw [hb] at hv;exact hv.elim
   | true =>
    rw [hb] at hv;simp only [cond_true] at hv
    rw [Bool.and_eq_true] at hb
    obtain rfl:=q0n hb.1
    obtain ⟨b',g5,g6⟩:=h.ref x j off cs hx hk
    rw [g1] at g5;cases g5
    exact key off g6 (Nat.le_of_ble_eq_true hb.2) hv
 ·-- vst
  rename_i k x v n t x' v' hop
  simp only [Bool.and_eq_true] at ok
  simp only [vop] at hv
  simp only [q9x] at od
  split at od<;>first | (cases od;done) | skip
  rename_i dd hdst
  obtain rfl:=q0n od
  split at hv<;>first | exact hv.elim | skip
  rename_i cs v hk hvv
  obtain ⟨b,T,g1,g2,g3,g4⟩:=h.var dd cs hk
  cases hb0:(Nat.beq (q0k v).length n&&oneL (q0k v)) with
  | false=>rw [hb0] at hv;exact hv.elim
  | true =>
   rw [hb0] at hv;simp only [cond_true] at hv
   rw [Bool.and_eq_true] at hb0
   obtain rfl:=q0n hb0.1
   have hagg:∃ agg,q4h P t agg (q0k v).length=true:=by
    rcases (Bool.or_eq_true _ _).mp ok.1.1 with h | h
    ·exact ⟨_,h⟩
    ·exact ⟨_,h⟩
   obtain ⟨agg,hagg⟩:=hagg
   have key:∀ off,a.tmps.getD x undef=.pointer (some ⟨b,off,none⟩)→off+(q0k v).length≤cs.length→F (.var (q0j cs off (q0k v))) m→o.wpIn (FR ro) 0 P a w next Q:=fun off h1 h2 h3=>by
    have hrun:(execOp a.eval o).run P w=.ok .skip (w.setRow b ⟨q0j cs off (q0k v)⟩):=by
     simp only [execOp,hop,q8l ok.1.2,h1,E ok.2 hvv,Sem.run_bind,v3p hagg hb0.2 g2 h2,Result.andThen_ok,Sem.run_pure]
    refine v5k hrun ?_
    rw [hdst]
    exact hF _ _ _ _ h3 (h.setVar hk g1)
   split at hv<;>first | exact hv.elim | skip
   ·rename_i cs' hx
    cases hb:(Nat.beq x dd&&Nat.ble (q0k v).length cs.length) with
    | false=>rw [hb] at hv;exact hv.elim
    | true =>
     rw [hb] at hv;simp only [cond_true] at hv
     rw [Bool.and_eq_true] at hb
     obtain rfl:=q0n hb.1
     exact key 0 g1 (by have:=Nat.le_of_ble_eq_true hb.2;omega) hv
   ·rename_i j off hx
    cases hb:(Nat.beq j dd&&Nat.ble (off+(q0k v).length) cs.length) with
    | false=>rw [hb] at hv;exact hv.elim
    | true =>
     rw [hb] at hv;simp only [cond_true] at hv
     rw [Bool.and_eq_true] at hb
     obtain rfl:=q0n hb.1
     obtain ⟨b',g5,g6⟩:=h.ref x j off cs hx hk
     rw [g1] at g5;cases g5
     exact key off g6 (Nat.le_of_ble_eq_true hb.2) hv
   ·rename_i j off i hx
    cases hb:(Nat.beq j dd&&Nat.beq (q0k v).length 1) with
    | false=>rw [hb] at hv;exact hv.elim
    | true =>
     rw [hb] at hv;simp only [cond_true] at hv
     rw [Bool.and_eq_true] at hb
     obtain rfl:=q0n hb.1
     unfold WBnd at hv
     obtain ⟨_,b',g5,g6⟩:=h.refi x j off i cs hx hk
     rw [g1] at g5;cases g5
     exact key _ g6 (by rw [q0n hb.2];have:=hv.1.2;omega) hv.2
 ·-- al
  rename_i t zeros t' hop
  simp only [Bool.and_eq_true] at ok
  obtain rfl:=q0n ok.1
  obtain ⟨i,z,hi,hz,hc,hsz⟩:=z2k ok.2
  simp only [vop] at hv
  unfold WNew at hv
  have hrun:(execOp a.eval o).run P w=.ok (.value (.pointer (some ⟨w.heap.size,0,none⟩))) { w with heap:=w.heap.push (Cells zeros t) }:=by
   simp only [execOp,hop,Instr.alloc,Sem.run_bind,q7h hi hz,Result.andThen_ok,newVar,newRow,run_newObj,Sem.run_pure,q6r,hc]
  exact q5y od h hrun (Step.new h.sub _) (hv _ (h.sub.none (Nat.le_refl _))) hF
 ·-- bx
  rename_i t x t' x' hop
  simp only [Bool.and_eq_true] at ok
  obtain rfl:=q0n ok.1
  simp only [vop] at hv
  split at hv<;>first | exact hv.elim | skip
  rename_i v hx
  unfold WNew at hv
  have hrun:(execOp a.eval o).run P w=.ok (.value (.pointer (some ⟨w.heap.size,0,none⟩))) { w with heap:=w.heap.push (Cells (q0k v) t) }:=by
   simp only [execOp,hop,E ok.2 hx,Instr.box,Sem.run_bind,Result.andThen_ok,newVar,newRow,run_newObj,Sem.run_pure,q6r]
  exact q5y od h hrun (Step.new h.sub _) (hv _ (h.sub.none (Nat.le_refl _))) hF
 ·-- bs
  rename_i el len zeros parts t n ps hop
  simp only [Bool.and_eq_true] at ok
  obtain ⟨ok0,ok⟩:=ok
  obtain rfl:=q0n ok0
  split at ok<;>first | (cases ok;done) | skip
  rename_i u hu
  rw [Bool.and_eq_true] at ok
  obtain ⟨ok1,ok⟩:=ok
  obtain rfl:=q0n ok1
  split at ok<;>first | (cases ok;done) | skip
  rename_i i hi
  simp only [Bool.and_eq_true,Bool.not_eq_true'] at ok
  obtain ⟨⟨⟨ok2,ok3⟩,ok4⟩,ok5⟩:=ok
  split at ok4<;>first | (cases ok4;done) | skip
  rename_i z hz
  rw [Bool.and_eq_true] at ok4
  simp only [vop] at hv
  split at hv<;>first | exact hv.elim | skip
  rename_i vs hp
  split at hv<;>first | exact hv.elim | skip
  rename_i cs hc
  unfold WNew at hv
  have hrun:=v9b h hu hi hz (fun e0=>by rw [e0] at ok2;simp at ok2) (q0n ok4.2) (z2v _ _ ok4.1) (Nat.le_of_ble_eq_true ok3) ok5 hp hc
  refine q5y od h ?_ (Step.new h.sub _) (hv _ (h.sub.none (Nat.le_refl _))) hF
  simp only [execOp,hop,Sem.run_bind]
  rw [hrun];rfl
 ·-- mk
  rename_i el bytes zero l c t l' c' hop
  simp only [Bool.and_eq_true] at ok
  simp only [vop] at hv
  split at hv<;>first | exact hv.elim | skip
  rename_i l c hl hc
  unfold q2z at hv
  refine q5y od h ?_ (Step.new h.sub _) (hv.2 _ (h.sub.none (Nat.le_refl _))) hF
  simp only [execOp,hop,E ok.1.2 hl,E ok.2 hc,Sem.run_bind,v9f ok.1.1 hv.1,Result.andThen_ok,Sem.run_pure]
 ·-- ap
  rename_i el sz bytes zero x y c hop
  split at ok<;>first | (cases ok;done) | skip
  rename_i hcal
  split at ok<;>first | (cases ok;done) | skip
  rename_i x' y' t u ts hargs htys
  simp only [Bool.and_eq_true] at ok
  obtain ⟨⟨⟨⟨ok1,ok2⟩,ok3⟩,ok4⟩,ok5⟩:=ok
  split at ok3<;>first | (cases ok3;done) | skip
  rename_i el2 hu2
  have ha:c.args.map a.eval=#[a.eval x',a.eval y']:=by apply Array.ext';simp [hargs]
  have ht:c.argTypes=⟨t :: u :: ts⟩:=by apply Array.ext';rw [htys]
  simp only [vop] at hv
  split at hv<;>first | exact hv.elim | skip
  rename_i b len cap xb n xcap hx hy
  unfold WApp at hv
  obtain ⟨new,hnew,h0,hfit,hgrow⟩:=hv
  have hexec:∀ (r:Result Value),(Builtin.append_ ⟨t :: u :: ts⟩ o.type #[.slice b len cap,.slice xb n xcap]).run P w=r→(execOp a.eval o).run P w=r.andThen fun v w'=>.ok (.value v) w':=fun r hr=>by
   simp only [execOp,hop,resolve,hcal,Sem.run_bind,Sem.run_pure,Result.andThen_ok,invoke,builtin,ha,E ok4 hx,E ok5 hy,ht]
   rw [hr]
  rcases Nat.lt_or_ge cap (len+n) with hlt | hge
  ·obtain ⟨hsm,old,hold,h1,hk⟩:=hgrow hlt
   obtain ⟨c',hc',hrun⟩:=k0q ok1 hu2 rfl (ts:=ts) o.type (xcap:=xcap) h.sub hnew h0 hold h1 hlt hsm
   have hs:Step m w (m.set w.heap.size (Cells (old++new++(List.replicate (c' - (len+n)) zero).flatten) el)) { w with heap:=w.heap.push (Cells (old++new++(List.replicate (c' - (len+n)) zero).flatten) el),drawn:=w.drawn+1 } :=
    (Step.new h.sub _).trans (Step.drew (Step.new h.sub _).sub _)
   exact q5y od h ((hexec _ hrun).trans rfl) hs (hk _ c' (h.sub.none (Nat.le_refl _)) hc') hF
  ·have hrun:=j2c ok1 hu2 rfl (ts:=ts) o.type (b:=b) (xcap:=xcap) h.sub hnew h0 hge
   rcases hfit hge with ⟨rfl,hn0,hk⟩ | ⟨ad,rfl,l,U,hm,hs,hl,hone,hk⟩
   ·exact q5y od h ((hexec _ hrun).trans rfl) (Step.refl h.sub) hk hF
   ·obtain ⟨bb,off,sp⟩:=ad
    simp only at hs;subst hs
    have hst:=z7a (P:=P) (off:=off+len * sz) (vs:=new) (h.sub _ _ hm) (by rw [hnew.1];exact hl) hone
    simp only [j5d] at hrun
    rw [hst] at hrun
    exact q5y od h ((hexec _ hrun).trans rfl) (Step.put h.sub hm) hk hF
 ·-- cp
  rename_i sz x y c hop
  split at ok<;>first | (cases ok;done) | skip
  rename_i hcal
  split at ok<;>first | (cases ok;done) | skip
  rename_i x' y' t ts hargs htys
  simp only [Bool.and_eq_true] at ok
  obtain ⟨⟨ok1,ok4⟩,ok5⟩:=ok
  obtain ⟨el,inf,hu,hinf,hsz⟩:=z9c ok1
  have ha:c.args.map a.eval=#[a.eval x',a.eval y']:=by apply Array.ext';simp [hargs]
  have ht:c.argTypes=⟨t :: ts⟩:=by apply Array.ext';rw [htys]
  simp only [vop] at hv
  split at hv<;>first | exact hv.elim | skip
  rename_i b len cap xb n xcap hx hy
  unfold q6c at hv
  obtain ⟨new,hnew,h0,hk⟩:=hv
  have hfc:=z4f (P:=P) (len:=n) (cap:=xcap) h.sub hnew h0
  have hrun:(Builtin.copy_ ⟨t :: ts⟩ o.type #[.slice b len cap,.slice xb n xcap]).run P w =
    ((match b with | some ad=>storeCells ad new | none=>pure ():Sem Unit).run P w).andThen fun _ w'=>.ok (.int .i64 (min n len:Nat)) w':=by
   unfold Builtin.copy_
   simp only [List.getElem?_toArray,List.getElem?_cons_zero,List.getElem?_cons_succ]
   show Sem.run P (underlying t >>= _) w=_
   rw [Sem.run_bind,run_underlying hu,Result.andThen_ok]
   have hmin:Nat.min n len=min n len:=rfl
   simp only [Sem.run_bind,Builtin.lenOf,Sem.run_pure,Result.andThen_ok,q3u hinf,hsz,hmin,hfc]
   cases b with
   | none=>rfl
   | some ad=>simp only [Sem.run_bind,Sem.run_pure,goInt]
  have hexec:∀ (r:Result Value),(Builtin.copy_ ⟨t :: ts⟩ o.type #[.slice b len cap,.slice xb n xcap]).run P w=r→(execOp a.eval o).run P w=r.andThen fun v w'=>.ok (.value v) w':=fun r hr=>by
   simp only [execOp,hop,resolve,hcal,Sem.run_bind,Sem.run_pure,Result.andThen_ok,invoke,builtin,ha,E ok4 hx,E ok5 hy,ht]
   rw [hr]
  rcases hk with ⟨rfl,hk⟩ | ⟨ad,rfl,l,U,hm,hs,hl,hone,hk⟩
  ·exact q5y od h ((hexec _ hrun).trans rfl) (Step.refl h.sub) hk hF
  ·obtain ⟨bb,off,sp⟩:=ad
   simp only at hs;subst hs
   have hst:=z7a (P:=P) (off:=off) (vs:=new) (h.sub _ _ hm) (by rw [hnew.1];exact hl) hone
   simp only at hrun
   rw [hst] at hrun
   exact q5y od h ((hexec _ hrun).trans rfl) (Step.put h.sub hm) hk hF
 ·-- clr
  rename_i sz zero x c hop
  split at ok<;>first | (cases ok;done) | skip
  rename_i hcal
  split at ok<;>first | (cases ok;done) | skip
  rename_i x' t ts hargs htys
  simp only [Bool.and_eq_true] at ok
  obtain ⟨ok1,ok4⟩:=ok
  split at ok1<;>first | (cases ok1;done) | skip
  rename_i el hu
  rw [Bool.and_eq_true] at ok1
  obtain ⟨inf,z,hinf,hz,hcz,hsz⟩:=z2k ok1.1
  obtain rfl:=q0n ok1.2
  have ha:c.args.map a.eval=#[a.eval x']:=by apply Array.ext';simp [hargs]
  have ht:c.argTypes=⟨t :: ts⟩:=by apply Array.ext';rw [htys]
  simp only [vop] at hv
  split at hv<;>first | exact hv.elim | skip
  rename_i b n cap hx
  have hexec:∀ (r:Result Value),(Builtin.clear_ ⟨t :: ts⟩ o.type #[.slice b n cap]).run P w=r→(execOp a.eval o).run P w=r.andThen fun v w'=>.ok (.value v) w':=fun r hr=>by
   simp only [execOp,hop,resolve,hcal,Sem.run_bind,Sem.run_pure,Result.andThen_ok,invoke,builtin,ha,E ok4 hx,ht]
   rw [hr]
  unfold WClr at hv
  rcases hv with ⟨hbn,hk⟩ | ⟨ad,rfl,l,U,hm,hs,hl,hz0,hone,hk⟩
  ·have hrun:(Builtin.clear_ ⟨t :: ts⟩ o.type #[.slice b n cap]).run P w=.ok (.tuple #[]) w:=by
    unfold Builtin.clear_
    simp only [List.getElem?_toArray,List.getElem?_cons_zero]
    show Sem.run P (underlying t >>= _) w=_
    rw [Sem.run_bind,run_underlying hu,Result.andThen_ok]
    rcases hbn with rfl | rfl
    ·rfl
    ·cases b<;>rfl
   exact q5y od h ((hexec _ hrun).trans rfl) (Step.refl h.sub) hk hF
  ·obtain ⟨bb,off,sp⟩:=ad
   simp only at hs;subst hs
   have hlen:((List.replicate n zero).flatten).length=n * zero.length:=by simp [List.length_flatten]
   have hst:=z7a (P:=P) (off:=off) (vs:=(List.replicate n zero).flatten) (h.sub _ _ hm) (by rw [hlen];exact hl) hone
   have hrun:(Builtin.clear_ ⟨t :: ts⟩ o.type #[.slice (some ⟨bb,off,none⟩) n cap]).run P w=.ok (.tuple #[]) (w.setRow bb ⟨q0j l off (List.replicate n zero).flatten⟩):=by
    unfold Builtin.clear_
    simp only [List.getElem?_toArray,List.getElem?_cons_zero]
    show Sem.run P (underlying t >>= _) w=_
    rw [Sem.run_bind,run_underlying hu,Result.andThen_ok]
    cases n with
    | zero =>
     exact absurd rfl hz0
    | succ n =>
     show Sem.run P (zeroValue el >>= _) w=_
     rw [Sem.run_bind,q7h hinf hz,Result.andThen_ok,q6r,hcz]
     by_cases hzl:zero.length=0
     ·have:zero=[]:=List.length_eq_zero_iff.1 hzl
      subst this
      simp only [Sem.run_bind]
      have e1:(Builtin.zeroCells ⟨[]⟩ (n+1)).toList=(List.replicate (n+1) ([]:List Value)).flatten:=by simp [Builtin.zeroCells]
      rw [e1,hst];rfl
     ·simp only [Sem.run_bind,z6b zero hzl]
      rw [hst];rfl
   exact q5y od h ((hexec _ hrun).trans rfl) (Step.put h.sub hm) hk hF
 ·-- sl
  rename_i x lo hi esz t x' lo' hi' hop
  simp only [Bool.and_eq_true] at ok
  simp only [vop] at hv
  split at hv<;>first | exact hv.elim | skip
  rename_i b len cap hx
  split at hv<;>first | exact hv.elim | skip
  rename_i l r hl hr
  unfold WSl at hv
  have key:∀ {dflt:Int} {y:Option Opd} {y':Option Operand} {z:Int},okO y y'=true→q5e e dflt y=some z→(y'.map a.eval=none∧z=dflt∨∃ k,y'.map a.eval=some (.int k z)):=fun {dflt y y' z} hy hz=>by
   cases y with
   | none=>cases y' with
    | none=>simp only [q5e,Option.some.injEq] at hz;exact .inl ⟨rfl,hz.symm⟩
    | some _=>cases hy
   | some y=>cases y' with
    | none=>cases hy
    | some y' =>
     simp only [q5e] at hz
     split at hz<;>first | (cases hz;done) | skip
     rename_i k n hyv
     cases hz
     exact .inr ⟨k,by rw [Option.map_some,E hy hyv]⟩
  have hrun:=w1z (P:=P) (w:=w) ok.1.1.1 (b:=b) (len:=len) (cap:=cap) (key ok.1.2 hl) (key ok.2 hr) hv.1
  refine q2k od h ?_ hv.2 hF
  simp only [execOp,hop,E ok.1.1.2 hx,Sem.run_bind]
  show ((Instr.sliceAt t (.slice b len cap) (lo'.map a.eval) (hi'.map a.eval) none).run P w).andThen _=_
  rw [hrun];rfl
 ·-- sla
  rename_i x len t x' hop
  rw [Bool.and_eq_true] at ok
  obtain ⟨ok0,ok1⟩:=ok
  split at ok0<;>first | (cases ok0;done) | skip
  rename_i l el hu
  simp only [Bool.and_eq_true,Bool.not_eq_true'] at ok0
  obtain ⟨⟨o1,o2⟩,o3⟩:=ok0
  obtain rfl:=q0n o1
  obtain ⟨inf,hinf⟩:=Option.isSome_iff_exists.1 o3
  have hl:l≠0:=fun hh=>by rw [hh] at o2;cases o2
  simp only [vop] at hv
  split at hv<;>first | exact hv.elim | skip
  rename_i a hx
  refine q2k od h ?_ hv hF
  simp only [execOp,hop,E ok1 hx,Sem.run_bind]
  show ((Instr.sliceAt t (.pointer (some a)) none none none).run P w).andThen _=_
  rw [w5b hu hinf hl];rfl
 ·-- mp
  rename_i k xs op hop
  simp only [vop] at hv
  split at hv<;>first | exact hv.elim | skip
  rename_i vs hvs
  obtain ⟨v,m',w',h1,h2,h3⟩:=k7f (o:=o) ok h hvs hv
  rcases h3 with h3 | ⟨rfl,h3⟩
  ·exact q5y od h h3 h2 h1 hF
  ·exact v3f od h h3 h2 h1 hF
 ·-- call
  rename_i f args c hop
  split at ok<;>first | (cases ok;done) | skip
  rename_i g hcal
  simp only [Bool.and_eq_true] at ok
  obtain rfl:=q0n ok.1
  simp only [vop] at hv
  split at hv<;>first | exact hv.elim | skip
  rename_i vs hvs
  unfold q0a at hv
  obtain ⟨R,hc,hk⟩:=hv
  have ha:c.args.map a.eval=⟨vs⟩:=by apply Array.ext';rw [Array.toList_map,q7x h ok.2 hvs]
  refine z3u od h hc ?_ hk hF hX
  simp only [execOp,hop,resolve,hcal,Act.eval,Deferred.ofValue,Sem.run_bind,Sem.run_pure,Result.andThen_ok,invoke,ha]
  simp
 ·-- callG
  rename_i f args c hop
  split at ok<;>first | (cases ok;done) | skip
  rename_i g hcal
  simp only [Bool.and_eq_true] at ok
  obtain rfl:=q0n ok.1
  simp only [vop] at hv
  split at hv<;>first | exact hv.elim | skip
  rename_i vs hvs
  unfold q1r at hv
  obtain ⟨R,hc,hk⟩:=hv
  have ha:c.args.map a.eval=⟨vs⟩:=by apply Array.ext';rw [Array.toList_map,q7x h ok.2 hvs]
  refine z3u od h hc ?_ (fun e' m' hr=>?_) hF hX
  ·simp only [execOp,hop,resolve,hcal,Act.eval,Deferred.ofValue,Sem.run_bind,Sem.run_pure,Result.andThen_ok,invoke,ha]
   simp
  ·have:=hk e' m' hr
   cases e' with
   | returned v=>exact this.2
   | panicked ch=>exact this
   | outgrown=>exact this
 ·-- callV
  rename_i f args c hop
  split at ok<;>first | (cases ok;done) | skip
  rename_i g hcal
  simp only [Bool.and_eq_true] at ok
  simp only [vop] at hv
  split at hv<;>first | exact hv.elim | skip
  ·rename_i f' fs cs vs hf hvs
   unfold q0a at hv
   obtain ⟨R,hc,hk⟩:=hv
   have ha:c.args.map a.eval=⟨vs⟩:=by apply Array.ext';rw [Array.toList_map,q7x h ok.2 hvs]
   refine z3u od h hc ?_ hk hF hX
   simp only [execOp,hop,resolve,hcal,E ok.1 hf,Deferred.ofValue,Sem.run_bind,Sem.run_pure,Result.andThen_ok,invoke,ha]
   congr 2
   apply Array.ext';simp
  ·rename_i b vs hf hvs
   unfold q7j at hv
   obtain ⟨R,⟨r,hr,hn,hc⟩,hk⟩:=hv
   have ha:c.args.map a.eval=⟨vs⟩:=by apply Array.ext';rw [Array.toList_map,q7x h ok.2 hvs]
   have hg:(Instr.getLoop b).run P w=.ok r w:=by simp [Instr.getLoop,getObj,Sem.run,h.sub _ _ hr]
   have hne:¬ (⟨vs⟩:Array Value).size≠r.params.size:=by simp [hn]
   have hrun:(execOp a.eval o).run P w=.ok (.round b r.fn ((r.params.zip ⟨vs⟩).foldl (fun tmps (t,a)=>tmps.setIfInBounds t a) r.tmps) r.assign r.body) w:=by
    simp only [execOp,hop,resolve,hcal,E ok.1 hf,Deferred.ofValue,Sem.run_bind,Sem.run_pure,Result.andThen_ok,invoke,ha]
    simp [Instr.yield,hg,hn]
   refine k1i hrun ((hc w h.sub).mono fun e' w' he=>?_)
   obtain ⟨m',hs,hr'⟩:=he
   have:=hk e' m' hr'
   cases e' with
   | returned v=>exact hF _ _ _ _ this ((h.mem hs).putVal od v)
   | panicked ch=>exact hX ch m' w' this (h.step.trans hs) (h.defers.step hs)
   | outgrown=>exact this.elim
 ·-- callVG
  rename_i f args c hop
  split at ok<;>first | (cases ok;done) | skip
  rename_i g hcal
  simp only [Bool.and_eq_true] at ok
  simp only [vop] at hv
  split at hv<;>first | exact hv.elim | skip
  rename_i f' fs cs vs hf hvs
  unfold q1r at hv
  obtain ⟨R,hc,hk⟩:=hv
  have ha:c.args.map a.eval=⟨vs⟩:=by apply Array.ext';rw [Array.toList_map,q7x h ok.2 hvs]
  refine z3u od h hc ?_ (fun e' m' hr=>?_) hF hX
  ·simp only [execOp,hop,resolve,hcal,E ok.1 hf,Deferred.ofValue,Sem.run_bind,Sem.run_pure,Result.andThen_ok,invoke,ha]
   congr 2
   apply Array.ext';simp
  ·have:=hk e' m' hr
   cases e' with
   | returned v=>exact this.2
   | panicked ch=>exact this
   | outgrown=>exact this
 ·-- mf
  rename_i fn first caps g fs cs hop
  simp only [Bool.and_eq_true] at ok
  obtain ⟨⟨ok1,ok2⟩,ok3⟩:=ok
  obtain rfl:=q0n ok1
  simp only [vop] at hv
  split at hv<;>first | exact hv.elim | skip
  rename_i us vs hus hvs
  have ha:cs.map a.eval=⟨vs⟩:=by apply Array.ext';rw [Array.toList_map,q7x h ok3 hvs]
  have hf:fs.map a.eval=⟨us⟩:=by apply Array.ext';rw [Array.toList_map,q7x h ok2 hus]
  refine q2k od h ?_ hv hF
  simp only [execOp,hop,Instr.makeFunc,Sem.run_bind,Sem.run_pure,Result.andThen_ok,ha,hf]
 ·-- mi
  rename_i t x t' x' hop
  simp only [Bool.and_eq_true] at ok
  obtain ⟨⟨ok1,ok2⟩,ok3⟩:=ok
  obtain rfl:=q0n ok1
  simp only [vop] at hv
  split at hv<;>first | exact hv.elim | skip
  rename_i v hx
  unfold v7e at ok2
  split at ok2<;>first | (cases ok2;done) | skip
  rename_i dd hni hdd
  refine q2k od h ?_ hv hF
  simp only [execOp,hop,E ok3 hx,Instr.makeInterface,Sem.run_bind,run_underlying hdd,Result.andThen_ok]
  cases dd<;>first | rfl | exact absurd hdd (hni _)
 ·-- pn
  rename_i x x' hop
  simp only [vop] at hv
  split at hv<;>first | exact hv.elim | skip
  rename_i t v hx
  refine k3h (fun c hc=>by rw [hc] at hop;cases hop) (v:=.iface t v) ?_ (hX _ m w hv h.step h.defers)
  simp only [execOp,hop,E ok hx,Instr.panic,Sem.run_bind,run_goPanic];rfl
 ·cases ok
end Go.Vx
