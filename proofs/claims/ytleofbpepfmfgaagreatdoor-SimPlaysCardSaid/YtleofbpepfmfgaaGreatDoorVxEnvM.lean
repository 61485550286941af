import Derived.Test.YtleofbpepfmfgaaGreatDoorVxCalls
set_option linter.unusedSimpArgs false
set_option linter.unusedVariables false
namespace Go.Vx
open Go
variable {P:Program}
def Env.sub (e' e:Env):Prop:=∀ t v,e' t=some v→e t=some v
theorem Env.sub.refl (e:Env):Env.sub e e:=fun _ _ h=>h
theorem q1g {e' e:Env} (h:Env.sub e' e) {x:Opd} {v:Value} (hx:Opd.at x e'=some v):Opd.at x e=some v:=by
 cases x with
 | c u=>exact hx
 | t n =>
  simp only [Opd.at] at hx ⊢
  cases hn:e' n with
  | none=>rw [hn] at hx;cases hx
  | some u=>rw [hn] at hx;rw [h _ _ hn];exact hx
theorem v1h {e' e:Env} (h:Env.sub e' e) {x:Opd} {v:AV} (hx:Opd.av x e'=some v):Opd.av x e=some v:=by
 cases x with
 | c u=>exact hx
 | t n=>exact h _ _ hx
theorem q7u {e' e:Env} (h:Env.sub e' e):∀ {xs:List Opd} {vs:List Value},Opd.ats e' xs=some vs→Opd.ats e xs=some vs
 | [],vs,hx=>hx
 | x :: xs,vs,hx=>by
  simp only [Opd.ats] at hx ⊢
  cases h1:Opd.at x e' with
  | none=>rw [h1] at hx;cases hx
  | some v =>
   rw [h1] at hx;rw [q1g h h1]
   cases h2:Opd.ats e' xs with
   | none=>rw [h2] at hx;cases hx
   | some us=>rw [h2] at hx;rw [q7u h h2];exact hx
theorem z9n {e' e:Env} (h:Env.sub e' e):∀ {xs:List (Nat×Nat×Opd)} {vs:List (Nat×Nat×Value)},q3v e' xs=some vs→q3v e xs=some vs
 | [],vs,hx=>hx
 | (i,n,x) :: xs,vs,hx=>by
  simp only [q3v] at hx ⊢
  cases h1:Opd.at x e' with
  | none=>rw [h1] at hx;cases hx
  | some v =>
   rw [h1] at hx;rw [q1g h h1]
   cases h2:q3v e' xs with
   | none=>rw [h2] at hx;cases hx
   | some us=>rw [h2] at hx;rw [z9n h h2];exact hx
theorem v7q {e' e:Env} (h:Env.sub e' e) {d z:Int} {x:Option Opd} (hx:q5e e' d x=some z):q5e e d x=some z:=by
 cases x with
 | none=>exact hx
 | some x =>
  simp only [q5e] at hx ⊢
  cases h1:Opd.at x e' with
  | none=>rw [h1] at hx;cases hx
  | some v=>rw [h1] at hx;rw [q1g h h1];exact hx
theorem z2m {e' e:Env} (h:Env.sub e' e) (t:Nat) (v:AV):Env.sub (e'.upd t v) (e.upd t v):=by
 intro s u hs
 unfold Env.upd at hs ⊢
 cases hh:Nat.beq s t with
 | true=>rw [hh] at hs;exact hs
 | false=>rw [hh] at hs;exact h s u hs
theorem k9r {k:Nat} {x y:Option AV} (h:∀ v,x=some v→y=some v) {v:AV} (hx:q5c k x=some v):q5c k y=some v:=by
 cases x with
 | none=>simp [q5c] at hx
 | some u=>rw [h u rfl];exact hx
theorem z3j {e' e:Env} (h:Env.sub e' e) (d:Option Nat) (v:AV):Env.sub (e'.put d v) (e.put d v):=by
 cases d with
 | none=>exact h
 | some t =>
  cases v<;>first | exact z2m h t _ | skip
  rename_i cs
  intro s u hs
  simp only [Env.put] at hs ⊢
  cases hh:Nat.beq s t with
  | true=>rw [hh] at hs;exact hs
  | false=>rw [hh] at hs;exact k9r (h s) hs
theorem v4l {mods:List (Nat×Nat)} {x y:Option AV} (h:∀ v,x=some v→y=some v) {v:AV} (hx:q9v mods x=some v):q9v mods y=some v:=by
 cases x with
 | none=>simp [q9v] at hx
 | some u=>rw [h u rfl];exact hx
theorem k8t {e' e:Env} (h:Env.sub e' e) (mods:List (Nat×Nat)):Env.sub (q5d e' mods) (q5d e mods):=by
 intro s u hs
 unfold q5d at hs ⊢
 cases hh:inM s mods with
 | true=>rw [hh] at hs;cases hs
 | false=>rw [hh] at hs;exact v4l (h s) hs
theorem v3w {e' e:Env} (h:Env.sub e' e) (mods:List (Nat×Nat)) (l:List (Nat×AV)):Env.sub (over e' mods l) (over e mods l):=by
 intro s u hs
 unfold over at hs ⊢
 cases hh:inM s mods with
 | true=>rw [hh] at hs;exact hs
 | false=>rw [hh] at hs;exact v4l (h s) hs
theorem q7v {e' e:Env} (h:Env.sub e' e):∀ {l:List (Nat×AV)},q3i e' l→q3i e l
 | [],_=>trivial
 | (t,v) :: l,⟨h1,h2⟩=>⟨h _ _ h1,q7v h h2⟩
theorem k0j {e' e:Env} (h:Env.sub e' e):Env.sub (q9p e') (q9p e):=by
 intro s u hs
 unfold q9p at hs ⊢
 cases hn:e' s with
 | none=>rw [hn] at hs;cases hs
 | some v=>rw [hn] at hs;rw [h _ _ hn];exact hs
theorem v3q:∀ {e' e:Env} (h:Env.sub e' e) (ps:List Nat) (vs:List Value),Env.sub (q8b e' ps vs) (q8b e ps vs)
 | e',e,h,[],vs=>h
 | e',e,h,p :: ps,[]=>h
 | e',e,h,p :: ps,v :: vs=>v3q (z2m h p (.val v)) ps vs
theorem v9x {o:IOp} {e' e:Env} {m:Mem} {F:AV→Mem→Prop} {X:List PanicEntry→Mem→Prop} (h:Env.sub e' e) (hv:vop P o e' m F X):vop P o e m F X:=by
 cases o with
 | mv x =>
  simp only [vop] at hv ⊢
  cases hx:Opd.at x e' with
  | none=>rw [hx] at hv;exact False.elim hv
  | some v=>rw [hx] at hv;rw [q1g h hx];exact hv
 | un op x =>
  simp only [vop] at hv ⊢
  cases hx:Opd.at x e' with
  | none=>rw [hx] at hv;cases op<;>exact False.elim hv
  | some v=>rw [hx] at hv;rw [q1g h hx];exact hv
 | cv k x =>
  simp only [vop] at hv ⊢
  cases hx:Opd.at x e' with
  | none=>rw [hx] at hv;exact False.elim hv
  | some v=>rw [hx] at hv;rw [q1g h hx];exact hv
 | cvN k x =>
  simp only [vop] at hv ⊢
  cases hx:Opd.at x e' with
  | none=>rw [hx] at hv;exact False.elim hv
  | some v=>rw [hx] at hv;rw [q1g h hx];exact hv
 | len x =>
  simp only [vop] at hv ⊢
  cases hx:Opd.at x e' with
  | none=>rw [hx] at hv;exact False.elim hv
  | some v=>rw [hx] at hv;rw [q1g h hx];exact hv
 | fld off n agg x =>
  simp only [vop] at hv ⊢
  cases hx:Opd.at x e' with
  | none=>rw [hx] at hv;exact False.elim hv
  | some v=>rw [hx] at hv;rw [q1g h hx];exact hv
 | ext x i =>
  simp only [vop] at hv ⊢
  cases hx:Opd.at x e' with
  | none=>rw [hx] at hv;exact False.elim hv
  | some v=>rw [hx] at hv;rw [q1g h hx];exact hv
 | nc x =>
  simp only [vop] at hv ⊢
  cases hx:Opd.at x e' with
  | none=>rw [hx] at hv;exact False.elim hv
  | some v=>rw [hx] at hv;rw [q1g h hx];exact hv
 | ld x =>
  simp only [vop] at hv ⊢
  cases hx:Opd.at x e' with
  | none=>rw [hx] at hv;exact False.elim hv
  | some v=>rw [hx] at hv;rw [q1g h hx];exact hv
 | lds x n =>
  simp only [vop] at hv ⊢
  cases hx:Opd.at x e' with
  | none=>rw [hx] at hv;exact False.elim hv
  | some v=>rw [hx] at hv;rw [q1g h hx];exact hv
 | vb x =>
  simp only [vop] at hv ⊢
  cases hx:Opd.at x e' with
  | none=>rw [hx] at hv;exact False.elim hv
  | some v=>rw [hx] at hv;rw [q1g h hx];exact hv
 | bx T x =>
  simp only [vop] at hv ⊢
  cases hx:Opd.at x e' with
  | none=>rw [hx] at hv;exact False.elim hv
  | some v=>rw [hx] at hv;rw [q1g h hx];exact hv
 | clr sz zero x =>
  simp only [vop] at hv ⊢
  cases hx:Opd.at x e' with
  | none=>rw [hx] at hv;exact False.elim hv
  | some v=>rw [hx] at hv;rw [q1g h hx];exact hv
 | sla x len =>
  simp only [vop] at hv ⊢
  cases hx:Opd.at x e' with
  | none=>rw [hx] at hv;exact False.elim hv
  | some v=>rw [hx] at hv;rw [q1g h hx];exact hv
 | mi T x =>
  simp only [vop] at hv ⊢
  cases hx:Opd.at x e' with
  | none=>rw [hx] at hv;exact False.elim hv
  | some v=>rw [hx] at hv;rw [q1g h hx];exact hv
 | pn x =>
  simp only [vop] at hv ⊢
  cases hx:Opd.at x e' with
  | none=>rw [hx] at hv;exact False.elim hv
  | some v=>rw [hx] at hv;rw [q1g h hx];exact hv
 | bin op x y =>
  simp only [vop] at hv ⊢
  cases hx:Opd.at x e' with
  | none=>rw [hx] at hv;exact False.elim hv
  | some v =>
   cases hy:Opd.at y e' with
   | none =>
    rw [hx,hy] at hv
    first
     | exact False.elim hv
     | (cases v<;>exact False.elim hv)
     | (split at hv<;>first | exact False.elim hv | (rename_i hh;cases hh))
     | (cases v<;>first | exact False.elim hv | (split at hv<;>first | exact False.elim hv | (rename_i hh;cases hh)))
   | some u=>rw [hx,hy] at hv;rw [q1g h hx,q1g h hy];exact hv
 | binN op x y =>
  simp only [vop] at hv ⊢
  cases hx:Opd.at x e' with
  | none=>rw [hx] at hv;exact False.elim hv
  | some v =>
   cases hy:Opd.at y e' with
   | none =>
    rw [hx,hy] at hv
    first
     | exact False.elim hv
     | (cases v<;>exact False.elim hv)
     | (split at hv<;>first | exact False.elim hv | (rename_i hh;cases hh))
     | (cases v<;>first | exact False.elim hv | (split at hv<;>first | exact False.elim hv | (rename_i hh;cases hh)))
   | some u=>rw [hx,hy] at hv;rw [q1g h hx,q1g h hy];exact hv
 | div op x y =>
  simp only [vop] at hv ⊢
  cases hx:Opd.at x e' with
  | none=>rw [hx] at hv;exact False.elim hv
  | some v =>
   cases hy:Opd.at y e' with
   | none =>
    rw [hx,hy] at hv
    first
     | exact False.elim hv
     | (cases v<;>exact False.elim hv)
     | (split at hv<;>first | exact False.elim hv | (rename_i hh;cases hh))
     | (cases v<;>first | exact False.elim hv | (split at hv<;>first | exact False.elim hv | (rename_i hh;cases hh)))
   | some u=>rw [hx,hy] at hv;rw [q1g h hx,q1g h hy];exact hv
 | shf op x y =>
  simp only [vop] at hv ⊢
  cases hx:Opd.at x e' with
  | none=>rw [hx] at hv;exact False.elim hv
  | some v =>
   cases hy:Opd.at y e' with
   | none =>
    rw [hx,hy] at hv
    first
     | exact False.elim hv
     | (cases v<;>exact False.elim hv)
     | (split at hv<;>first | exact False.elim hv | (rename_i hh;cases hh))
     | (cases v<;>first | exact False.elim hv | (split at hv<;>first | exact False.elim hv | (rename_i hh;cases hh)))
   | some u=>rw [hx,hy] at hv;rw [q1g h hx,q1g h hy];exact hv
 | eq k neg x y =>
  simp only [vop] at hv ⊢
  cases hx:Opd.at x e' with
  | none=>rw [hx] at hv;exact False.elim hv
  | some v =>
   cases hy:Opd.at y e' with
   | none =>
    rw [hx,hy] at hv
    first
     | exact False.elim hv
     | (cases v<;>exact False.elim hv)
     | (split at hv<;>first | exact False.elim hv | (rename_i hh;cases hh))
     | (cases v<;>first | exact False.elim hv | (split at hv<;>first | exact False.elim hv | (rename_i hh;cases hh)))
   | some u=>rw [hx,hy] at hv;rw [q1g h hx,q1g h hy];exact hv
 | eqA neg n x y =>
  simp only [vop] at hv ⊢
  cases hx:Opd.at x e' with
  | none=>rw [hx] at hv;exact False.elim hv
  | some v =>
   cases hy:Opd.at y e' with
   | none =>
    rw [hx,hy] at hv
    first
     | exact False.elim hv
     | (cases v<;>exact False.elim hv)
     | (split at hv<;>first | exact False.elim hv | (rename_i hh;cases hh))
     | (cases v<;>first | exact False.elim hv | (split at hv<;>first | exact False.elim hv | (rename_i hh;cases hh)))
   | some u=>rw [hx,hy] at hv;rw [q1g h hx,q1g h hy];exact hv
 | idx esz len x y =>
  simp only [vop] at hv ⊢
  cases hx:Opd.at x e' with
  | none=>rw [hx] at hv;exact False.elim hv
  | some v =>
   cases hy:Opd.at y e' with
   | none =>
    rw [hx,hy] at hv
    first
     | exact False.elim hv
     | (cases v<;>exact False.elim hv)
     | (split at hv<;>first | exact False.elim hv | (rename_i hh;cases hh))
     | (cases v<;>first | exact False.elim hv | (split at hv<;>first | exact False.elim hv | (rename_i hh;cases hh)))
   | some u=>rw [hx,hy] at hv;rw [q1g h hx,q1g h hy];exact hv
 | ia x y esz =>
  simp only [vop] at hv ⊢
  cases hx:Opd.at x e' with
  | none=>rw [hx] at hv;exact False.elim hv
  | some v =>
   cases hy:Opd.at y e' with
   | none =>
    rw [hx,hy] at hv
    first
     | exact False.elim hv
     | (cases v<;>exact False.elim hv)
     | (split at hv<;>first | exact False.elim hv | (rename_i hh;cases hh))
     | (cases v<;>first | exact False.elim hv | (split at hv<;>first | exact False.elim hv | (rename_i hh;cases hh)))
   | some u=>rw [hx,hy] at hv;rw [q1g h hx,q1g h hy];exact hv
 | st x y n =>
  simp only [vop] at hv ⊢
  cases hx:Opd.at x e' with
  | none=>rw [hx] at hv;exact False.elim hv
  | some v =>
   cases hy:Opd.at y e' with
   | none =>
    rw [hx,hy] at hv
    first
     | exact False.elim hv
     | (cases v<;>exact False.elim hv)
     | (split at hv<;>first | exact False.elim hv | (rename_i hh;cases hh))
     | (cases v<;>first | exact False.elim hv | (split at hv<;>first | exact False.elim hv | (rename_i hh;cases hh)))
   | some u=>rw [hx,hy] at hv;rw [q1g h hx,q1g h hy];exact hv
 | mk T bytes zero x y =>
  simp only [vop] at hv ⊢
  cases hx:Opd.at x e' with
  | none=>rw [hx] at hv;exact False.elim hv
  | some v =>
   cases hy:Opd.at y e' with
   | none =>
    rw [hx,hy] at hv
    first
     | exact False.elim hv
     | (cases v<;>exact False.elim hv)
     | (split at hv<;>first | exact False.elim hv | (rename_i hh;cases hh))
     | (cases v<;>first | exact False.elim hv | (split at hv<;>first | exact False.elim hv | (rename_i hh;cases hh)))
   | some u=>rw [hx,hy] at hv;rw [q1g h hx,q1g h hy];exact hv
 | ap T sz bytes zero x y =>
  simp only [vop] at hv ⊢
  cases hx:Opd.at x e' with
  | none=>rw [hx] at hv;exact False.elim hv
  | some v =>
   cases hy:Opd.at y e' with
   | none =>
    rw [hx,hy] at hv
    first
     | exact False.elim hv
     | (cases v<;>exact False.elim hv)
     | (split at hv<;>first | exact False.elim hv | (rename_i hh;cases hh))
     | (cases v<;>first | exact False.elim hv | (split at hv<;>first | exact False.elim hv | (rename_i hh;cases hh)))
   | some u=>rw [hx,hy] at hv;rw [q1g h hx,q1g h hy];exact hv
 | cp sz x y =>
  simp only [vop] at hv ⊢
  cases hx:Opd.at x e' with
  | none=>rw [hx] at hv;exact False.elim hv
  | some v =>
   cases hy:Opd.at y e' with
   | none =>
    rw [hx,hy] at hv
    first
     | exact False.elim hv
     | (cases v<;>exact False.elim hv)
     | (split at hv<;>first | exact False.elim hv | (rename_i hh;cases hh))
     | (cases v<;>first | exact False.elim hv | (split at hv<;>first | exact False.elim hv | (rename_i hh;cases hh)))
   | some u=>rw [hx,hy] at hv;rw [q1g h hx,q1g h hy];exact hv
 | sx x y =>
  simp only [vop] at hv ⊢
  cases hx:Opd.at x e' with
  | none=>rw [hx] at hv;exact False.elim hv
  | some v =>
   cases hy:Opd.at y e' with
   | none =>
    rw [hx,hy] at hv
    first
     | exact False.elim hv
     | (cases v<;>exact False.elim hv)
     | (split at hv<;>first | exact False.elim hv | (rename_i hh;cases hh))
     | (cases v<;>first | exact False.elim hv | (split at hv<;>first | exact False.elim hv | (rename_i hh;cases hh)))
   | some u=>rw [hx,hy] at hv;rw [q1g h hx,q1g h hy];exact hv
 | pick x y z =>
  simp only [vop] at hv ⊢
  cases hx:Opd.at x e' with
  | none=>rw [hx] at hv;exact False.elim hv
  | some v =>
   cases hy:Opd.at y e' with
   | none=>rw [hx,hy] at hv;cases v<;>exact False.elim hv
   | some u =>
    cases hz:Opd.at z e' with
    | none=>rw [hx,hy,hz] at hv;cases v<;>exact False.elim hv
    | some w=>rw [hx,hy,hz] at hv;rw [q1g h hx,q1g h hy,q1g h hz];exact hv
 | mm mx xs =>
  simp only [vop] at hv ⊢
  cases hx:Opd.ats e' xs with
  | none=>rw [hx] at hv;exact False.elim hv
  | some v=>rw [hx] at hv;rw [q7u h hx];exact hv
 | mp o xs =>
  simp only [vop] at hv ⊢
  cases hx:Opd.ats e' xs with
  | none=>rw [hx] at hv;exact False.elim hv
  | some v=>rw [hx] at hv;rw [q7u h hx];exact hv
 | call f xs =>
  simp only [vop] at hv ⊢
  cases hx:Opd.ats e' xs with
  | none=>rw [hx] at hv;exact False.elim hv
  | some v=>rw [hx] at hv;rw [q7u h hx];exact hv
 | callG f xs =>
  simp only [vop] at hv ⊢
  cases hx:Opd.ats e' xs with
  | none=>rw [hx] at hv;exact False.elim hv
  | some v=>rw [hx] at hv;rw [q7u h hx];exact hv
 | bd zeros xs =>
  simp only [vop] at hv ⊢
  cases hx:q3v e' xs with
  | none=>rw [hx] at hv;exact False.elim hv
  | some v=>rw [hx] at hv;rw [z9n h hx];exact hv
 | bs T len zeros xs =>
  simp only [vop] at hv ⊢
  cases hx:q3v e' xs with
  | none=>rw [hx] at hv;exact False.elim hv
  | some v=>rw [hx] at hv;rw [z9n h hx];exact hv
 | fa x off =>
  simp only [vop] at hv ⊢
  cases hx:Opd.av x e' with
  | none=>rw [hx] at hv;exact False.elim hv
  | some v=>rw [hx] at hv;rw [v1h h hx];exact hv
 | fr k x off =>
  simp only [vop] at hv ⊢
  cases hk:e' k with
  | none=>rw [hk] at hv;exact False.elim hv
  | some u =>
   cases hx:e' x with
   | none=>rw [hk,hx] at hv;cases u<;>exact False.elim hv
   | some v=>rw [hk,hx] at hv;rw [h _ _ hk,h _ _ hx];exact hv
 | iap x y esz len =>
  simp only [vop] at hv ⊢
  cases hx:Opd.av x e' with
  | none=>rw [hx] at hv;exact False.elim hv
  | some v =>
   cases hy:Opd.at y e' with
   | none =>
    rw [hx,hy] at hv
    split at hv<;>first | exact False.elim hv | (rename_i hh;cases hh)
   | some u=>rw [hx,hy] at hv;rw [v1h h hx,q1g h hy];exact hv
 | ir k x y len =>
  simp only [vop] at hv ⊢
  cases hk:e' k with
  | none=>rw [hk] at hv;exact False.elim hv
  | some u =>
   cases hx:e' x with
   | none=>rw [hk,hx] at hv;cases u<;>exact False.elim hv
   | some v =>
    cases hy:Opd.at y e' with
    | none =>
     rw [hk,hx,hy] at hv
     split at hv<;>first | exact False.elim hv | (rename_i hh;cases hh)
    | some w=>rw [hk,hx,hy] at hv;rw [h _ _ hk,h _ _ hx,q1g h hy];exact hv
 | vld k x =>
  simp only [vop] at hv ⊢
  cases hk:e' k with
  | none=>rw [hk] at hv;exact False.elim hv
  | some u =>
   cases hx:e' x with
   | none=>rw [hk,hx] at hv;cases u<;>exact False.elim hv
   | some v=>rw [hk,hx] at hv;rw [h _ _ hk,h _ _ hx];exact hv
 | vlds k x n =>
  simp only [vop] at hv ⊢
  cases hk:e' k with
  | none=>rw [hk] at hv;exact False.elim hv
  | some u =>
   cases hx:e' x with
   | none=>rw [hk,hx] at hv;cases u<;>exact False.elim hv
   | some v=>rw [hk,hx] at hv;rw [h _ _ hk,h _ _ hx];exact hv
 | vst k x y n =>
  simp only [vop] at hv ⊢
  cases hk:e' k with
  | none=>rw [hk] at hv;exact False.elim hv
  | some u =>
   cases hy:Opd.at y e' with
   | none=>rw [hk,hy] at hv;cases u<;>exact False.elim hv
   | some w =>
    cases hx:e' x with
    | none =>
     rw [hk,hy,hx] at hv
     cases u<;>first | exact False.elim hv | skip
     rename_i cs
     simp only at hv
     cases hc:(Nat.beq (q0k w).length n&&oneL (q0k w))<;>rw [hc] at hv<;>exact False.elim hv
    | some v=>rw [hk,hy,hx] at hv;rw [h _ _ hk,q1g h hy,h _ _ hx];exact hv
 | va zeros =>
  simp only [vop] at hv ⊢
  exact hv
 | al T zeros =>
  simp only [vop] at hv ⊢
  exact hv
 | sl x lo hi esz =>
  simp only [vop] at hv ⊢
  cases hx:Opd.at x e' with
  | none=>rw [hx] at hv;exact False.elim hv
  | some v =>
   rw [hx] at hv;rw [q1g h hx]
   cases v<;>first | exact False.elim hv | skip
   rename_i a len cap
   simp only at hv ⊢
   cases hl:q5e e' 0 lo with
   | none=>rw [hl] at hv;exact False.elim hv
   | some l =>
    cases hh:q5e e' len hi with
    | none=>rw [hl,hh] at hv;exact False.elim hv
    | some u=>rw [hl,hh] at hv;rw [v7q h hl,v7q h hh];exact hv
 | callV f xs =>
  simp only [vop] at hv ⊢
  cases hx:Opd.at f e' with
  | none=>rw [hx] at hv;exact False.elim hv
  | some v =>
   cases hy:Opd.ats e' xs with
   | none =>
    rw [hx,hy] at hv
    split at hv<;>first | exact False.elim hv | (rename_i hh;cases hh)
   | some u=>rw [hx,hy] at hv;rw [q1g h hx,q7u h hy];exact hv
 | callVG f xs =>
  simp only [vop] at hv ⊢
  cases hx:Opd.at f e' with
  | none=>rw [hx] at hv;exact False.elim hv
  | some v =>
   cases hy:Opd.ats e' xs with
   | none =>
    rw [hx,hy] at hv
    split at hv<;>first | exact False.elim hv | (rename_i hh;cases hh)
   | some u=>rw [hx,hy] at hv;rw [q1g h hx,q7u h hy];exact hv
 | mf fn first caps =>
  simp only [vop] at hv ⊢
  cases hx:Opd.ats e' first with
  | none=>rw [hx] at hv;exact False.elim hv
  | some v =>
   cases hy:Opd.ats e' caps with
   | none=>rw [hx,hy] at hv;exact False.elim hv
   | some u=>rw [hx,hy] at hv;rw [q7u h hx,q7u h hy];exact hv
theorem j0u {o:IOp} {e:Env} {m:Mem} {F F':AV→Mem→Prop} {X X':List PanicEntry→Mem→Prop} (h:∀ u m',F u m'→F' u m') (hX:∀ ch m',X ch m'→X' ch m') (hv:vop P o e m F X):vop P o e m F' X':=by
 refine z0y h ?_
 cases o<;>simp only [vop] at hv ⊢
 all_goals try exact hv
 case call f xs=>split at hv<;>first | exact False.elim hv | skip
                 unfold q0a at *
                 obtain ⟨R,h1,h2⟩:=hv
                 exact ⟨R,h1,fun e m' hr=>by have:=h2 e m' hr;cases e<;>first | exact this | exact hX _ _ this⟩
 case callG f xs=>split at hv<;>first | exact False.elim hv | skip
                  unfold q1r at *
                  obtain ⟨R,h1,h2⟩:=hv
                  exact ⟨R,h1,fun e m' hr=>by have:=h2 e m' hr;cases e<;>first | exact this | exact hX _ _ this⟩
 case callV f xs =>
  split at hv<;>first | exact False.elim hv | skip
  ·unfold q0a at *
   obtain ⟨R,h1,h2⟩:=hv
   exact ⟨R,h1,fun e m' hr=>by have:=h2 e m' hr;cases e<;>first | exact this | exact hX _ _ this⟩
  ·unfold q7j at *
   obtain ⟨R,h1,h2⟩:=hv
   exact ⟨R,h1,fun e m' hr=>by have:=h2 e m' hr;cases e<;>first | exact this | exact hX _ _ this⟩
 case callVG f xs=>split at hv<;>first | exact False.elim hv | skip
                   unfold q1r at *
                   obtain ⟨R,h1,h2⟩:=hv
                   exact ⟨R,h1,fun e m' hr=>by have:=h2 e m' hr;cases e<;>first | exact this | exact hX _ _ this⟩
 case pn x=>split at hv<;>first | exact False.elim hv | exact hX _ _ hv
theorem z7u {x:E} {e' e:Env} {m:Mem} {K K':Env→Mem→Prop} {X X':List PanicEntry→Mem→Prop} (h:Env.sub e' e) (hK:∀ a b m',Env.sub a b→K a m'→K' b m') (hX:∀ ch m',X ch m'→X' ch m') (hv:q1w P x e' m K X):q1w P x e m K' X':=by
 unfold q1w at hv ⊢
 have go:vop P x.o e' m (q3l x.s fun u m'=>K (e'.put x.d u) m') X→vop P x.o e m (q3l x.s fun u m'=>K' (e.put x.d u) m') X':=fun hh =>
  j0u (fun u m' hu=>z0o (fun u hu=>hK _ _ _ (z3j h x.d u) hu) hu) hX (v9x h hh)
 cases hg:x.g with
 | none=>rw [hg] at hv;exact go hv
 | some sw =>
  obtain ⟨s,want⟩:=sw
  rw [hg] at hv
  simp only at hv ⊢
  cases hs:e' s with
  | none=>rw [hs] at hv;exact False.elim hv
  | some u =>
   rw [hs] at hv;rw [h _ _ hs]
   split at hv<;>first | exact False.elim hv | skip
   ·rename_i b hbb
    cases hbb
    cases b with
    | true=>cases want with
     | true=>exact go hv
     | false=>exact hK _ _ _ (z3j h x.d _) hv
    | false=>cases want with
     | true=>exact hK _ _ _ (z3j h x.d _) hv
     | false=>exact go hv
   ·exact hK _ _ _ (z3j h x.d _) hv
theorem v4x {X X':List PanicEntry→Mem→Prop} (hX:∀ ch m',X ch m'→X' ch m'):∀ {l:List E} {e' e:Env} {m:Mem} {K K':Env→Mem→Prop},Env.sub e' e→(∀ a b m',Env.sub a b→K a m'→K' b m')→runI P X l K e' m→runI P X' l K' e m
 | [],e',e,m,K,K',h,hK,hv=>hK _ _ _ h hv
 | x :: xs,e',e,m,K,K',h,hK,hv=>z7u h (fun a b m' hab hk=>v4x hX hab hK hk) hX hv
theorem z5o {X X':List PanicEntry→Mem→Prop} (hX:∀ ch m',X ch m'→X' ch m'):∀ {g:RG} {e' e:Env} {m:Mem} {K K':Env→Mem→Prop},Env.sub e' e→(∀ a b m',Env.sub a b→K a m'→K' b m')→opsI P X g K e' m→opsI P X' g K' e m
 | .nil,e',e,m,K,K',h,hK,hv=>hK _ _ _ h hv
 | .run l r,e',e,m,K,K',h,hK,hv=>v4x hX h (fun a b m' hab hk=>z5o hX hab hK hk) hv
 | .sc s want mods body d y r,e',e,m,K,K',h,hK,hv=>by
  simp only [opsI] at hv ⊢
  cases hs:e' s with
  | none=>rw [hs] at hv;exact False.elim hv
  | some u =>
   rw [hs] at hv;rw [h _ _ hs]
   split at hv<;>first | exact False.elim hv | skip
   rename_i c
   unfold WSc at hv ⊢
   obtain ⟨v,h1,h2⟩:=hv
   exact ⟨v,fun hc=>z5o hX h (fun a b m' hab hk=>⟨hk.1,q1g hab hk.2⟩) (h1 hc),z5o hX (z2m (k8t h mods) d _) hK h2⟩
theorem z5b {X X':List PanicEntry→Mem→Prop} (hX:∀ ch m',X ch m'→X' ch m') {l:List E} {K K':Env→Mem→Prop} (hK:∀ a b m',Env.sub a b→K a m'→K' b m'):∀ {t:RT} {e' e:Env} {m:Mem},Env.sub e' e→q1n P l K X t e' m→q1n P l K' X' t e m
 | .nil,e',e,m,h,hv=>hK _ _ _ h hv
 | .pure j t,e',e,m,h,hv=>by
  simp only [q1n] at hv ⊢
  split at hv<;>first | exact False.elim hv | skip
  exact z7u h (fun a b m' hab hk=>z5b hX hK hab hk) hX hv
 | .alt j t more,e',e,m,h,hv=>by
  simp only [q1n] at hv ⊢
  refine ⟨?_,z5b hX hK h hv.2⟩
  have hv1:=hv.1
  split at hv1<;>first | exact False.elim hv1 | skip
  exact z7u h (fun a b m' hab hk=>z5b hX hK hab hk) hX hv1
 | .done,e',e,m,h,hv=>trivial
def v2z (Q Q':Post):Prop:=∀ ex a b m,Env.sub a b→Q ex a m→Q' ex b m
theorem q4l:∀ {a:IR} {Q Q':Post} {e' e:Env} {m:Mem},Env.sub e' e→v2z Q Q'→wpI P a Q e' m→wpI P a Q' e m
 | .skip,Q,Q',e',e,m,h,hQ,hv=>hQ _ _ _ _ h hv
 | .ret,Q,Q',e',e,m,h,hQ,hv=>hQ _ _ _ _ h hv
 | .exit id,Q,Q',e',e,m,h,hQ,hv=>hQ _ _ _ _ h hv
 | .ops l,Q,Q',e',e,m,h,hQ,hv=>z5o (fun ch m' hx=>hQ _ _ _ _ (Env.sub.refl _) hx) h (fun a b m' hab hk=>hQ _ _ _ _ hab hk) hv
 | .tree l t,Q,Q',e',e,m,h,hQ,hv=>by
  unfold wpI at hv ⊢
  exact z5b (K:=Q .normal) (X:=fun ch m'=>Q (.panic ch) (fun _=>none) m') (fun ch m' hx=>hQ _ _ _ _ (Env.sub.refl _) hx) (fun a b m' hab hk=>hQ _ _ _ _ hab hk) h hv
 | .seq a b,Q,Q',e',e,m,h,hQ,hv=>q4l (a:=a) h (fun ex p q m' hpq hh=>by
   cases ex<;>first | exact q4l (a:=b) hpq hQ hh | exact hQ _ _ _ _ hpq hh) hv
 | .seqj mods a b,Q,Q',e',e,m,h,hQ,hv=>by
  simp only [wpI] at hv ⊢
  unfold z1e at hv ⊢
  obtain ⟨σ,vals,inv,h1,h2⟩:=hv
  refine ⟨σ,vals,inv,q4l (a:=a) h (fun ex p q m' hpq hh=>?_) h1,fun s m' hi=>q4l (a:=b) (v3w h _ _) hQ (h2 s m' hi)⟩
  cases ex<;>first | exact hQ _ _ _ _ hpq hh | skip
  obtain ⟨s,g1,g2⟩:=hh
  exact ⟨s,q7v hpq g1,g2⟩
 | .cond c a b,Q,Q',e',e,m,h,hQ,hv=>by
  simp only [wpI] at hv ⊢
  split at hv
  ·rename_i n
   cases hn:e' n with
   | none=>rw [hn] at hv;exact False.elim hv
   | some u =>
    rw [hn] at hv
    rw [h _ _ hn]
    split at hv<;>first | exact False.elim hv | skip
    exact Br.mono (fun hh=>q4l (a:=a) (z2m h _ _) hQ hh) (fun hh=>q4l (a:=b) (z2m h _ _) hQ hh) hv
  ·exact q4l (a:=a) h hQ hv
  ·exact q4l (a:=b) h hQ hv
  ·exact False.elim hv
 | .block id a,Q,Q',e',e,m,h,hQ,hv=>q4l (a:=a) h (fun ex p q m' hpq hh=>by
   cases ex<;>first | exact hQ _ _ _ _ hpq hh | skip
   rename_i j
   simp only [q6x] at hh ⊢
   cases hj:Nat.beq j id<;>rw [hj] at hh<;>exact hQ _ _ _ _ hpq hh) hv
 | .loop mods a,Q,Q',e',e,m,h,hQ,hv=>by
  simp only [wpI] at hv ⊢
  unfold q0v at hv ⊢
  obtain ⟨σ,vals,inv,μ,s₀,h1,h2,h3⟩:=hv
  refine ⟨σ,vals,inv,μ,s₀,q7v h h1,h2,fun s m' hi=>q4l (a:=a) (v3w h _ _) (fun ex p q m'' hpq hh=>?_) (h3 s m' hi)⟩
  cases ex<;>first | exact hQ _ _ _ _ hpq hh | skip
  obtain ⟨s',g1,g2⟩:=hh
  exact ⟨s',q7v hpq g1,g2⟩
 | .rf g ps a b,Q,Q',e',e,m,h,hQ,hv=>by
  simp only [wpI] at hv ⊢
  unfold WRf at hv ⊢
  obtain ⟨f,first,caps,hg,h2⟩:=hv
  refine ⟨f,first,caps,q1g h hg,fun b' r hb hr hp hy=>?_⟩
  obtain ⟨R,c1,c2⟩:=h2 b' r hb hr hp (fun vs m1 R1 hl hm hA=>hy vs m1 R1 hl hm (q4l (a:=a) (v3q (k0j h) _ _) (fun ex p q m'' hpq hh=>by
   cases ex<;>first | exact False.elim hh | skip
   exact ⟨hh.1,q4l (a:=b) hpq (fun ex p q m3 hpq hh=>by cases ex<;>first | exact hh | exact False.elim hh) hh.2⟩) hA))
  refine ⟨R,c1,fun en m' hR=>?_⟩
  have:=c2 en m' hR
  cases en<;>first | exact this | exact ⟨this.1,hQ _ _ _ _ h this.2⟩ | exact hQ _ _ _ _ (Env.sub.refl _) this
theorem v0q {m:Mem} {e' e:Env} (h:Env.sub e' e):∀ {rs:List Res} {vs:List Value},q5h m e' rs=some vs→q5h m e rs=some vs
 | [],vs,hx=>hx
 | r :: rs,vs,hx=>by
  simp only [q5h] at hx ⊢
  cases h1:Res.at m e' r with
  | none=>rw [h1] at hx;cases hx
  | some v =>
   have h1':Res.at m e r=some v:=by
    cases r with
    | t n =>
     simp only [Res.at] at h1 ⊢
     cases hn:e' n with
     | none=>rw [hn] at h1;cases h1
     | some u=>rw [hn] at h1;rw [h _ _ hn];exact h1
    | c k n agg =>
     simp only [Res.at] at h1 ⊢
     cases hn:e' k with
     | none=>rw [hn] at h1;cases h1
     | some u=>rw [hn] at h1;rw [h _ _ hn];exact h1
    | h k n agg =>
     simp only [Res.at] at h1 ⊢
     cases hn:e' k with
     | none=>rw [hn] at h1;cases h1
     | some u=>rw [hn] at h1;rw [h _ _ hn];exact h1
   rw [h1] at hx;rw [h1']
   cases h2:q5h m e' rs with
   | none=>rw [h2] at hx;cases hx
   | some us=>rw [h2] at hx;rw [v0q h h2];exact hx
theorem j5s (rs:List Res) (R:Ending→Mem→Prop):v2z (q0i rs R) (q0i rs R):=fun ex a b m hab hh=>by
 have key:(match q5h m a rs with | some vs=>WRet m R (.returned (q8h vs)) | none=>False)→(match q5h m b rs with | some vs=>WRet m R (.returned (q8h vs)) | none=>False):=fun h2=>by
  cases h3:q5h m a rs with
  | none=>rw [h3] at h2;exact False.elim h2
  | some vs=>rw [h3] at h2;rw [v0q hab h3];exact h2
 cases ex<;>first | exact key hh | exact hh
theorem k6q {a:IR} {rs:List Res} {R:Ending→Mem→Prop} {e' e:Env} {m:Mem} (h:Env.sub e' e) (hv:wpI P a (q0i rs R) e' m):wpI P a (q0i rs R) e m:=q4l h (j5s rs R) hv
def envL (l:List (Nat×AV)):Env:=fun t=>z1d t l
theorem q8w {e:Env}:∀ {l:List (Nat×AV)},q3i e l→Env.sub (envL l) e
 | [],_,t,v,h=>by cases h
 | (k,u) :: l,⟨h1,h2⟩,t,v,h=>by
  simp only [envL,z1d] at h
  cases hk:Nat.beq t k with
  | true =>
   rw [hk] at h
   have:=Nat.eq_of_beq_eq_true hk
   subst this
   cases h;exact h1
  | false=>rw [hk] at h;exact q8w h2 t v h
theorem q0x {a:IR} {rs:List Res} {R:Ending→Mem→Prop} {l:List (Nat×AV)} {e:Env} {m:Mem} (hv:wpI P a (q0i rs R) (envL l) m) (h:q3i e l):wpI P a (q0i rs R) e m:=k6q (q8w h) hv
end Go.Vx
