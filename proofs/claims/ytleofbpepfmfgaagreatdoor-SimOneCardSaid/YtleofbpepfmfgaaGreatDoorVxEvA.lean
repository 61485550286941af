import Derived.Test.YtleofbpepfmfgaaGreatDoorVxCalls
set_option linter.unusedSimpArgs false
set_option linter.unusedVariables false
namespace Go.Vx.Ev
open Go Go.Vx

inductive Tr (α : Type) where
 | lf
 | nd (l : Tr α) (v : Option α) (r : Tr α)
def Tr.get {α : Type} : Tr α → Nat → Option α
 | .lf, _ => none
 | .nd l v r, k => bif Nat.beq k 0 then v else bif Nat.beq (k % 2) 1 then l.get (k / 2) else r.get (k / 2 - 1)
def Tr.set {α : Type} (a : α) : Nat → Tr α → Nat → Tr α
 | 0, t, _ => t
 | n + 1, .lf, k => bif Nat.beq k 0 then .nd .lf (some a) .lf else bif Nat.beq (k % 2) 1 then .nd (Tr.set a n .lf (k / 2)) none .lf else .nd .lf none (Tr.set a n .lf (k / 2 - 1))
 | n + 1, .nd l v r, k => bif Nat.beq k 0 then .nd l (some a) r else bif Nat.beq (k % 2) 1 then .nd (Tr.set a n l (k / 2)) v r else .nd l v (Tr.set a n r (k / 2 - 1))
def Tr.merge {α : Type} : Tr α → Tr α → Tr α
 | .lf, t => t
 | .nd l v r, .lf => .nd l v r
 | .nd l v r, .nd l' v' r' => .nd (l.merge l') (match v with | some a => some a | none => v') (r.merge r')
theorem Tr.get_lf {α : Type} (k : Nat) : (Tr.lf : Tr α).get k = none := rfl
theorem Tr.get_merge {α : Type} : ∀ (a b : Tr α) (k : Nat), (a.merge b).get k = match a.get k with | some x => some x | none => b.get k := by
 intro a
 induction a with
 | lf => intro b k; rfl
 | nd l v r ihl ihr =>
  intro b k
  cases b with
  | lf => simp only [Tr.merge, Tr.get_lf]; cases (Tr.nd l v r).get k <;> rfl
  | nd l' v' r' =>
   simp only [Tr.merge, Tr.get]
   cases Nat.beq k 0 with
   | true => simp only [cond_true]
   | false =>
    simp only [cond_false]
    cases Nat.beq (k % 2) 1 with
    | true => simp only [cond_true]; exact ihl l' (k / 2)
    | false => simp only [cond_false]; exact ihr r' (k / 2 - 1)
theorem beqf {a b : Nat} (h : Nat.beq a b = false) : a ≠ b := fun e => by subst e; simp at h
theorem Tr.get_set_ne {α : Type} (a : α) : ∀ (n : Nat) (t : Tr α) (k j : Nat), j ≠ k → (t.set a n k).get j = t.get j := by
 intro n
 induction n with
 | zero => intro t k j _; rfl
 | succ n ih =>
  intro t k j hjk
  have key : ∀ l v r, (Tr.set a (n + 1) (.nd l v r) k).get j = (Tr.nd l v r).get j := by
   intro l v r
   simp only [Tr.set]
   cases hk : Nat.beq k 0 with
   | true =>
    simp only [cond_true, Tr.get]
    cases hj : Nat.beq j 0 with
    | true => exact absurd ((beq_ff hj).trans (beq_ff hk).symm) hjk
    | false => rfl
   | false =>
    simp only [cond_false]
    cases hk2 : Nat.beq (k % 2) 1 with
    | true =>
     simp only [cond_true, Tr.get]
     cases hj : Nat.beq j 0 with
     | true => rfl
     | false =>
      simp only [cond_false]
      cases hj2 : Nat.beq (j % 2) 1 with
      | true => simp only [cond_true]; exact ih l _ _ (by have := beqf hk; have := beq_ff hk2; have := beq_ff hj2; omega)
      | false => rfl
    | false =>
     simp only [cond_false, Tr.get]
     cases hj : Nat.beq j 0 with
     | true => rfl
     | false =>
      simp only [cond_false]
      cases hj2 : Nat.beq (j % 2) 1 with
      | true => rfl
      | false => simp only [cond_false]; exact ih r _ _ (by have := beqf hk; have := beqf hj; have := beqf hk2; have := beqf hj2; omega)
  cases t with
  | nd l v r => exact key l v r
  | lf =>
   have e : Tr.set a (n + 1) .lf k = Tr.set a (n + 1) (.nd .lf none .lf) k := rfl
   rw [e, key]
   simp only [Tr.get]
   cases Nat.beq j 0 <;> cases Nat.beq (j % 2) 1 <;> rfl
theorem Tr.get_set_eq {α : Type} (a : α) : ∀ (n : Nat) (t : Tr α) (k : Nat), k + 1 < 2 ^ n → (t.set a n k).get k = some a := by
 intro n
 induction n with
 | zero => intro t k h; omega
 | succ n ih =>
  intro t k h
  have h2 : 2 ^ (n + 1) = 2 * 2 ^ n := by rw [Nat.pow_succ]; omega
  have key : ∀ l v r, (Tr.set a (n + 1) (.nd l v r) k).get k = some a := by
   intro l v r
   simp only [Tr.set]
   cases hk : Nat.beq k 0 with
   | true => simp only [cond_true, Tr.get, hk]
   | false =>
    simp only [cond_false]
    have := beqf hk
    cases hk2 : Nat.beq (k % 2) 1 with
    | true => simp only [cond_true, Tr.get, hk, hk2, cond_false]; exact ih l _ (by have := beq_ff hk2; omega)
    | false => simp only [cond_false, Tr.get, hk, hk2]; exact ih r _ (by have := beqf hk2; omega)
  cases t with
  | nd l v r => exact key l v r
  | lf =>
   have e : Tr.set a (n + 1) .lf k = Tr.set a (n + 1) (.nd .lf none .lf) k := rfl
   rw [e]; exact key _ _ _

abbrev Ghost := Nat → Option (Nat × Nat × Nat)
def Ghost.le (G H : Ghost) : Prop := ∀ k x, G k = some x → H k = some x
theorem Ghost.le.refl (G : Ghost) : Ghost.le G G := fun _ _ h => h
theorem Ghost.le.trans {G H I : Ghost} (h : Ghost.le G H) (k : Ghost.le H I) : Ghost.le G I := fun x y z => k x y (h x y z)
def INF : Nat := 4611686018427387904
def capR (c d : Nat) : Prop := match Nat.ble INF c with | false => d = c | true => c - INF ≤ d

def RFn (G : Ghost) : Go.Fn → Go.Fn → Prop
 | .yield k, g => ∃ b sz L, G k = some (b, sz, L) ∧ g = .yield b
 | f, g => g = f
theorem RFn.mono {G H : Ghost} (h : Ghost.le G H) {f g : Go.Fn} (k : RFn G f g) : RFn H f g := by
 cases f <;> first | exact k | (obtain ⟨b, sz, L, k1, k2⟩ := k; exact ⟨b, sz, L, h _ _ k1, k2⟩)
theorem RFn.func {G : Ghost} {n : Nat} {g : Go.Fn} (k : RFn G (.func n) g) : g = .func n := k
def flatF : Go.Fn → Bool | .yield _ => false | _ => true
theorem RFn.self {G : Ghost} {f : Go.Fn} (h : flatF f = true) : RFn G f f := by cases f <;> first | rfl | cases h
theorem RFn.eq {G : Ghost} {f g : Go.Fn} (h : flatF f = true) (k : RFn G f g) : g = f := by cases f <;> first | exact k | cases h
mutual
def RV (G : Ghost) : Value → Value → Prop
 | .pointer (some a), v => ∃ b sz L, G a.block = some (b, sz, L) ∧ a.spot = none ∧ v = .pointer (some ⟨b, a.off, none⟩)
 | .slice (some a) n c, v => ∃ b sz L d, G a.block = some (b, sz, L) ∧ a.spot = none ∧ capR c d ∧ a.off + d * sz ≤ L ∧ v = .slice (some ⟨b, a.off, none⟩) n d
 | .func f ⟨xs⟩ ⟨ys⟩, v => ∃ f' xs' ys', RFn G f f' ∧ RVL G xs xs' ∧ RVL G ys ys' ∧ v = .func f' ⟨xs'⟩ ⟨ys'⟩
 | .iface T u, v => ∃ u', RV G u u' ∧ v = .iface T u'
 | .map (some k), v => ∃ b sz L, G k = some (b, sz, L) ∧ v = .map (some b)
 | .chan _, v => ∃ a d, v = .slice (some a) 0 d
 | .agg ⟨xs⟩, v => ∃ xs', RVL G xs xs' ∧ v = .agg ⟨xs'⟩
 | .tuple ⟨xs⟩, v => ∃ xs', RVL G xs xs' ∧ v = .tuple ⟨xs'⟩
 | u, v => v = u
def RVL (G : Ghost) : List Value → List Value → Prop
 | [], ys => ys = []
 | x :: xs, ys => ∃ y ys', RV G x y ∧ RVL G xs ys' ∧ ys = y :: ys'
end
mutual
theorem RV.mono {G H : Ghost} (h : Ghost.le G H) : ∀ (u v : Value), RV G u v → RV H u v
 | .pointer (some a), v, k => by simp only [RV] at k ⊢; obtain ⟨b, sz, L, k1, k2⟩ := k; exact ⟨b, sz, L, h _ _ k1, k2⟩
 | .slice (some a) n c, v, k => by simp only [RV] at k ⊢; obtain ⟨b, sz, L, d, k1, k2⟩ := k; exact ⟨b, sz, L, d, h _ _ k1, k2⟩
 | .func f ⟨xs⟩ ⟨ys⟩, v, k => by simp only [RV] at k ⊢; obtain ⟨f', xs', ys', k0, k1, k2, k3⟩ := k; exact ⟨f', xs', ys', k0.mono h, RVL.mono h xs xs' k1, RVL.mono h ys ys' k2, k3⟩
 | .iface T u, v, k => by simp only [RV] at k ⊢; obtain ⟨u', k1, k2⟩ := k; exact ⟨u', RV.mono h u u' k1, k2⟩
 | .agg ⟨xs⟩, v, k => by simp only [RV] at k ⊢; obtain ⟨xs', k1, k2⟩ := k; exact ⟨xs', RVL.mono h xs xs' k1, k2⟩
 | .tuple ⟨xs⟩, v, k => by simp only [RV] at k ⊢; obtain ⟨xs', k1, k2⟩ := k; exact ⟨xs', RVL.mono h xs xs' k1, k2⟩
 | .int _ _, v, k => by simp only [RV] at k ⊢; exact k
 | .bool _, v, k => by simp only [RV] at k ⊢; exact k
 | .float _ _, v, k => by simp only [RV] at k ⊢; exact k
 | .complex _ _ _, v, k => by simp only [RV] at k ⊢; exact k
 | .string _, v, k => by simp only [RV] at k ⊢; exact k
 | .pointer none, v, k => by simp only [RV] at k ⊢; exact k
 | .slice none _ _, v, k => by simp only [RV] at k ⊢; exact k
 | .map none, v, k => by simp only [RV] at k ⊢; exact k
 | .map (some a), v, k => by simp only [RV] at k ⊢; obtain ⟨b, sz, L, k1, k2⟩ := k; exact ⟨b, sz, L, h _ _ k1, k2⟩
 | .chan _, v, k => by simp only [RV] at k ⊢; exact k
 | .nilFunc, v, k => by simp only [RV] at k ⊢; exact k
 | .nilIface, v, k => by simp only [RV] at k ⊢; exact k
theorem RVL.mono {G H : Ghost} (h : Ghost.le G H) : ∀ (us vs : List Value), RVL G us vs → RVL H us vs
 | [], vs, k => by simp only [RVL] at k ⊢; exact k
 | x :: xs, vs, k => by simp only [RVL] at k ⊢; obtain ⟨y, ys, k1, k2, k3⟩ := k; exact ⟨y, ys, RV.mono h x y k1, RVL.mono h xs ys k2, k3⟩
end

theorem RVL.nil {G : Ghost} {vs : List Value} (h : RVL G [] vs) : vs = [] := by simpa only [RVL] using h
theorem RVL.cons {G : Ghost} {x y : Value} {xs ys : List Value} (h : RV G x y) (k : RVL G xs ys) : RVL G (x :: xs) (y :: ys) := by simp only [RVL]; exact ⟨y, ys, h, k, rfl⟩
theorem RVL.nil' {G : Ghost} : RVL G [] [] := by simp only [RVL]
theorem RVL.inv {G : Ghost} {x : Value} {xs vs : List Value} (h : RVL G (x :: xs) vs) : ∃ y ys, RV G x y ∧ RVL G xs ys ∧ vs = y :: ys := by simpa only [RVL] using h
theorem RVL.len {G : Ghost} : ∀ {us vs : List Value}, RVL G us vs → us.length = vs.length
 | [], vs, h => by rw [h.nil]
 | x :: xs, vs, h => by obtain ⟨y, ys, _, h2, rfl⟩ := h.inv; simp [RVL.len h2]
theorem RVL.app {G : Ghost} : ∀ {us vs us' vs' : List Value}, RVL G us vs → RVL G us' vs' → RVL G (us ++ us') (vs ++ vs')
 | [], vs, us', vs', h, k => by rw [h.nil]; exact k
 | x :: xs, vs, us', vs', h, k => by obtain ⟨y, ys, h1, h2, rfl⟩ := h.inv; exact RVL.cons h1 (RVL.app h2 k)
theorem RVL.drop {G : Ghost} : ∀ (n : Nat) {us vs : List Value}, RVL G us vs → RVL G (us.drop n) (vs.drop n)
 | 0, us, vs, h => h
 | n + 1, [], vs, h => by rw [h.nil]; exact RVL.nil'
 | n + 1, x :: xs, vs, h => by obtain ⟨y, ys, h1, h2, rfl⟩ := h.inv; exact RVL.drop n h2
theorem RVL.take {G : Ghost} : ∀ (n : Nat) {us vs : List Value}, RVL G us vs → RVL G (us.take n) (vs.take n)
 | 0, us, vs, h => by simp; exact RVL.nil'
 | n + 1, [], vs, h => by rw [h.nil]; exact RVL.nil'
 | n + 1, x :: xs, vs, h => by obtain ⟨y, ys, h1, h2, rfl⟩ := h.inv; exact RVL.cons h1 (RVL.take n h2)
theorem RVL.at {G : Ghost} : ∀ {us vs : List Value} {i : Nat} {u : Value}, RVL G us vs → us[i]? = some u → ∃ v, vs[i]? = some v ∧ RV G u v
 | [], vs, i, u, h, k => by simp at k
 | x :: xs, vs, 0, u, h, k => by obtain ⟨y, ys, h1, h2, rfl⟩ := h.inv; simp at k; subst k; exact ⟨y, rfl, h1⟩
 | x :: xs, vs, i + 1, u, h, k => by obtain ⟨y, ys, h1, h2, rfl⟩ := h.inv; simp at k ⊢; exact RVL.at h2 k
theorem RVL.set {G : Ghost} : ∀ (i : Nat) {us vs : List Value} {u v : Value}, RVL G us vs → RV G u v → RVL G (us.set i u) (vs.set i v)
 | i, [], vs, u, v, h, k => by rw [h.nil]; exact RVL.nil'
 | 0, x :: xs, vs, u, v, h, k => by obtain ⟨y, ys, h1, h2, rfl⟩ := h.inv; exact RVL.cons k h2
 | i + 1, x :: xs, vs, u, v, h, k => by obtain ⟨y, ys, h1, h2, rfl⟩ := h.inv; exact RVL.cons h1 (RVL.set i h2 k)
theorem RVL.splice {G : Ghost} : ∀ {ws xs : List Value} (i : Nat) {us vs : List Value}, RVL G us vs → RVL G ws xs → RVL G (spliceL us i ws) (spliceL vs i xs)
 | [], xs, i, us, vs, h, k => by rw [k.nil]; exact h
 | w :: ws, xs, i, us, vs, h, k => by obtain ⟨y, ys, k1, k2, rfl⟩ := k.inv; exact RVL.splice (i + 1) (RVL.set i h k1) k2
theorem RVL.cells {G : Ghost} {u v : Value} (h : RV G u v) : RVL G (cellsL u) (cellsL v) := by
 cases u with
 | agg xs => obtain ⟨xs⟩ := xs; simp only [RV] at h; obtain ⟨xs', h1, rfl⟩ := h; exact h1
 | pointer a => cases a with
  | none => simp only [RV] at h; subst h; exact RVL.cons (by simp only [RV]) RVL.nil'
  | some a => have h2 := h; simp only [RV] at h2; obtain ⟨b, sz, L, _, _, rfl⟩ := h2; exact RVL.cons h RVL.nil'
 | chan q => have h2 := h; simp only [RV] at h2; obtain ⟨a, d, rfl⟩ := h2; exact RVL.cons h RVL.nil'
 | slice a n c => cases a with
  | none => simp only [RV] at h; subst h; exact RVL.cons (by simp only [RV]) RVL.nil'
  | some a => have h2 := h; simp only [RV] at h2; obtain ⟨b, sz, L, d, _, _, _, _, rfl⟩ := h2; exact RVL.cons h RVL.nil'
 | func f xs ys => obtain ⟨xs⟩ := xs; obtain ⟨ys⟩ := ys; have h2 := h; simp only [RV] at h2; obtain ⟨f', xs', ys', _, _, _, rfl⟩ := h2; exact RVL.cons h RVL.nil'
 | iface T u => have h2 := h; simp only [RV] at h2; obtain ⟨u', _, rfl⟩ := h2; exact RVL.cons h RVL.nil'
 | tuple xs => obtain ⟨xs⟩ := xs; have h2 := h; simp only [RV] at h2; obtain ⟨xs', _, rfl⟩ := h2; exact RVL.cons h RVL.nil'
 | map a => cases a with
  | none => simp only [RV] at h; subst h; exact RVL.cons (by simp only [RV]) RVL.nil'
  | some a => have h2 := h; simp only [RV] at h2; obtain ⟨b, sz, L, _, rfl⟩ := h2; exact RVL.cons h RVL.nil'
 | _ => simp only [RV] at h; subst h; exact RVL.cons (by simp only [RV]) RVL.nil'
theorem RV.one {G : Ghost} {u v : Value} (h : RV G u v) (k : oneL [u] = true) : oneL [v] = true := by
 cases u with
 | agg xs => simp [oneL] at k
 | tuple xs => simp [oneL] at k
 | pointer a => cases a with
  | none => simp only [RV] at h; subst h; rfl
  | some a => simp only [RV] at h; obtain ⟨b, sz, L, _, _, rfl⟩ := h; rfl
 | chan q => simp only [RV] at h; obtain ⟨a, d, rfl⟩ := h; rfl
 | slice a n c => cases a with
  | none => simp only [RV] at h; subst h; rfl
  | some a => simp only [RV] at h; obtain ⟨b, sz, L, d, _, _, _, _, rfl⟩ := h; rfl
 | func f xs ys => obtain ⟨xs⟩ := xs; obtain ⟨ys⟩ := ys; simp only [RV] at h; obtain ⟨f', xs', ys', _, _, _, rfl⟩ := h; rfl
 | iface T u => simp only [RV] at h; obtain ⟨u', _, rfl⟩ := h; rfl
 | map a => cases a with
  | none => simp only [RV] at h; subst h; rfl
  | some a => simp only [RV] at h; obtain ⟨b, sz, L, _, rfl⟩ := h; rfl
 | _ => simp only [RV] at h; subst h; rfl
theorem oneL_cons {x : Value} {xs : List Value} : oneL (x :: xs) = (oneL [x] && oneL xs) := by cases x <;> simp [oneL]
theorem RVL.one {G : Ghost} : ∀ {us vs : List Value}, RVL G us vs → oneL us = true → oneL vs = true
 | [], vs, h, _ => by rw [h.nil]; rfl
 | x :: xs, vs, h, k => by
  obtain ⟨y, ys, h1, h2, rfl⟩ := h.inv
  rw [oneL_cons, Bool.and_eq_true] at k ⊢
  exact ⟨h1.one k.1, RVL.one h2 k.2⟩

mutual
def flat : Value → Bool
 | .int _ _ => true
 | .bool _ => true
 | .string _ => true
 | .slice none _ _ => true
 | .pointer none => true
 | .map none => true
 | .nilFunc => true
 | .nilIface => true
 | .func f ⟨xs⟩ ⟨ys⟩ => flatF f && (flatL xs && flatL ys)
 | .agg ⟨xs⟩ => flatL xs
 | .tuple ⟨xs⟩ => flatL xs
 | _ => false
def flatL : List Value → Bool
 | [] => true
 | x :: xs => flat x && flatL xs
end
mutual
theorem flat_self {G : Ghost} : ∀ (u : Value), flat u = true → RV G u u
 | .int _ _, _ => by simp only [RV]
 | .bool _, _ => by simp only [RV]
 | .string _, _ => by simp only [RV]
 | .slice none _ _, _ => by simp only [RV]
 | .pointer none, _ => by simp only [RV]
 | .map none, _ => by simp only [RV]
 | .nilFunc, _ => by simp only [RV]
 | .nilIface, _ => by simp only [RV]
 | .func f ⟨xs⟩ ⟨ys⟩, h => by simp only [flat, Bool.and_eq_true] at h; simp only [RV]; exact ⟨f, xs, ys, RFn.self h.1, flatL_self xs h.2.1, flatL_self ys h.2.2, rfl⟩
 | .agg ⟨xs⟩, h => by simp only [flat] at h; simp only [RV]; exact ⟨xs, flatL_self xs h, rfl⟩
 | .tuple ⟨xs⟩, h => by simp only [flat] at h; simp only [RV]; exact ⟨xs, flatL_self xs h, rfl⟩
theorem flatL_self {G : Ghost} : ∀ (us : List Value), flatL us = true → RVL G us us
 | [], _ => RVL.nil'
 | x :: xs, h => by simp only [flatL, Bool.and_eq_true] at h; exact RVL.cons (flat_self x h.1) (flatL_self xs h.2)
end
mutual
theorem flat_eq {G : Ghost} : ∀ (u v : Value), flat u = true → RV G u v → v = u
 | .int _ _, v, _, k => by simpa only [RV] using k
 | .bool _, v, _, k => by simpa only [RV] using k
 | .string _, v, _, k => by simpa only [RV] using k
 | .slice none _ _, v, _, k => by simpa only [RV] using k
 | .pointer none, v, _, k => by simpa only [RV] using k
 | .map none, v, _, k => by simpa only [RV] using k
 | .nilFunc, v, _, k => by simpa only [RV] using k
 | .nilIface, v, _, k => by simpa only [RV] using k
 | .func f ⟨xs⟩ ⟨ys⟩, v, h, k => by
  simp only [flat, Bool.and_eq_true] at h; simp only [RV] at k; obtain ⟨f', xs', ys', k0, k1, k2, rfl⟩ := k
  rw [k0.eq h.1, flatL_eq xs xs' h.2.1 k1, flatL_eq ys ys' h.2.2 k2]
 | .agg ⟨xs⟩, v, h, k => by simp only [flat] at h; simp only [RV] at k; obtain ⟨xs', k1, rfl⟩ := k; rw [flatL_eq xs xs' h k1]
 | .tuple ⟨xs⟩, v, h, k => by simp only [flat] at h; simp only [RV] at k; obtain ⟨xs', k1, rfl⟩ := k; rw [flatL_eq xs xs' h k1]
theorem flatL_eq {G : Ghost} : ∀ (us vs : List Value), flatL us = true → RVL G us vs → vs = us
 | [], vs, _, k => k.nil
 | x :: xs, vs, h, k => by
  simp only [flatL, Bool.and_eq_true] at h
  obtain ⟨y, ys, k1, k2, rfl⟩ := k.inv
  rw [flat_eq x y h.1 k1, flatL_eq xs ys h.2 k2]
end

def RA (G : Ghost) : AV → AV → Prop
 | .val u, x => ∃ v, RV G u v ∧ x = .val v
 | .var cs, x => ∃ ds, RVL G cs ds ∧ x = .var ds
 | .ref k o, x => x = .ref k o
 | .refi k o i, x => x = .refi k o i
 | .fresh cs, x => ∃ ds, RVL G cs ds ∧ x = .fresh ds
theorem RA.mono {G H : Ghost} (h : Ghost.le G H) {u v : AV} (k : RA G u v) : RA H u v := by
 cases u with
 | val u => obtain ⟨v, k1, rfl⟩ := k; exact ⟨v, k1.mono h _ _, rfl⟩
 | var cs => obtain ⟨v, k1, rfl⟩ := k; exact ⟨v, k1.mono h _ _, rfl⟩
 | fresh cs => obtain ⟨v, k1, rfl⟩ := k; exact ⟨v, k1.mono h _ _, rfl⟩
 | ref => exact k
 | refi => exact k
def RE (G : Ghost) (c e : Env) : Prop := ∀ t u, c t = some u → ∃ v, e t = some v ∧ RA G u v
theorem RE.mono {G H : Ghost} (h : Ghost.le G H) {c e : Env} (k : RE G c e) : RE H c e := fun t u ht => by obtain ⟨v, k1, k2⟩ := k t u ht; exact ⟨v, k1, k2.mono h⟩
theorem RA.drop {G : Ghost} {k : Nat} {x y : Option AV} {u : AV} (h : dropR k x = some u) (hx : ∀ u, x = some u → ∃ v, y = some v ∧ RA G u v) : ∃ v, dropR k y = some v ∧ RA G u v := by
 cases x with
 | none => simp [dropR] at h
 | some w =>
  obtain ⟨v, rfl, hr⟩ := hx w rfl
  cases w with
  | ref j o => cases hr; simp only [dropR] at h ⊢; cases hb : Nat.beq j k with
   | true => rw [hb] at h; cases h
   | false => rw [hb] at h; cases h; exact ⟨_, rfl, rfl⟩
  | refi j o i => cases hr; simp only [dropR] at h ⊢; cases hb : Nat.beq j k with
   | true => rw [hb] at h; cases h
   | false => rw [hb] at h; cases h; exact ⟨_, rfl, rfl⟩
  | val w => cases h; obtain ⟨v', h1, rfl⟩ := hr; exact ⟨_, rfl, v', h1, rfl⟩
  | var w => cases h; obtain ⟨v', h1, rfl⟩ := hr; exact ⟨_, rfl, v', h1, rfl⟩
  | fresh w => cases h; obtain ⟨v', h1, rfl⟩ := hr; exact ⟨_, rfl, v', h1, rfl⟩
theorem RA.keep {G : Ghost} {k : List (Nat × Nat)} {x y : Option AV} {u : AV} (h : keepR k x = some u) (hx : ∀ u, x = some u → ∃ v, y = some v ∧ RA G u v) : ∃ v, keepR k y = some v ∧ RA G u v := by
 cases x with
 | none => simp [keepR] at h
 | some w =>
  obtain ⟨v, rfl, hr⟩ := hx w rfl
  cases w with
  | ref j o => cases hr; simp only [keepR] at h ⊢; cases hb : inM j k with
   | true => rw [hb] at h; cases h
   | false => rw [hb] at h; cases h; exact ⟨_, rfl, rfl⟩
  | refi j o i => cases hr; simp only [keepR] at h ⊢; cases hb : inM j k with
   | true => rw [hb] at h; cases h
   | false => rw [hb] at h; cases h; exact ⟨_, rfl, rfl⟩
  | val w => cases h; obtain ⟨v', h1, rfl⟩ := hr; exact ⟨_, rfl, v', h1, rfl⟩
  | var w => cases h; obtain ⟨v', h1, rfl⟩ := hr; exact ⟨_, rfl, v', h1, rfl⟩
  | fresh w => cases h; obtain ⟨v', h1, rfl⟩ := hr; exact ⟨_, rfl, v', h1, rfl⟩
theorem RE.upd {G : Ghost} {c e : Env} (h : RE G c e) (t : Nat) {u v : AV} (k : RA G u v) : RE G (c.upd t u) (e.upd t v) := fun s x hs => by
 unfold Env.upd at hs ⊢
 cases hb : Nat.beq s t with
 | true => rw [hb] at hs; cases hs; exact ⟨v, rfl, k⟩
 | false => rw [hb] at hs; exact h s x hs
theorem RE.put {G : Ghost} {c e : Env} (h : RE G c e) (d : Option Nat) {u v : AV} (k : RA G u v) : RE G (c.put d u) (e.put d v) := by
 cases d with
 | none => exact h
 | some t =>
  cases u with
  | fresh cs =>
   obtain ⟨ds, k1, rfl⟩ := k
   intro s x hs
   simp only [Env.put] at hs ⊢
   cases hb : Nat.beq s t with
   | true => rw [hb] at hs; cases hs; exact ⟨_, rfl, ds, k1, rfl⟩
   | false => rw [hb] at hs; exact RA.drop hs (h s)
  | val w => obtain ⟨v', h1, rfl⟩ := k; exact h.upd t ⟨v', h1, rfl⟩
  | var w => obtain ⟨v', h1, rfl⟩ := k; exact h.upd t ⟨v', h1, rfl⟩
  | ref j o => cases k; exact h.upd t rfl
  | refi j o i => cases k; exact h.upd t rfl
theorem RE.clear {G : Ghost} {c e : Env} (h : RE G c e) (ms : List (Nat × Nat)) : RE G (clearM c ms) (clearM e ms) := fun s x hs => by
 unfold clearM at hs ⊢
 cases hb : inM s ms with
 | true => rw [hb] at hs; cases hs
 | false => rw [hb] at hs; exact RA.keep hs (h s)
def RVs (G : Ghost) : List (Nat × AV) → List (Nat × AV) → Prop
 | [], ys => ys = []
 | (t, u) :: xs, ys => ∃ v zs, RA G u v ∧ RVs G xs zs ∧ ys = (t, v) :: zs
theorem RVs.find {G : Ghost} {t : Nat} {u : AV} : ∀ {xs ys : List (Nat × AV)}, RVs G xs ys → findL t xs = some u → ∃ v, findL t ys = some v ∧ RA G u v
 | [], ys, h, k => by simp [findL] at k
 | (s, w) :: xs, ys, h, k => by
  obtain ⟨v, zs, h1, h2, rfl⟩ := h
  simp only [findL] at k ⊢
  cases hb : Nat.beq t s with
  | true => rw [hb] at k; cases k; exact ⟨v, rfl, h1⟩
  | false => rw [hb] at k; exact RVs.find h2 k
theorem RE.over {G : Ghost} {c e : Env} (h : RE G c e) (ms : List (Nat × Nat)) {xs ys : List (Nat × AV)} (k : RVs G xs ys) : RE G (over c ms xs) (over e ms ys) := fun s x hs => by
 unfold Go.Vx.over at hs ⊢
 cases hb : inM s ms with
 | true => rw [hb] at hs; exact k.find hs
 | false => rw [hb] at hs; exact RA.keep hs (h s)
def collectR (c : Env) : Nat → Nat → List (Nat × AV) → List (Nat × AV)
 | 0, _, acc => acc
 | n + 1, t, acc => match c t with | some u => collectR c n (t + 1) ((t, u) :: acc) | none => collectR c n (t + 1) acc
def collect (c : Env) : List (Nat × Nat) → List (Nat × AV) → List (Nat × AV)
 | [], acc => acc
 | (lo, hi) :: ms, acc => collect c ms (collectR c (hi + 1 - lo) lo acc)
theorem covers_collectR {c : Env} : ∀ (n t : Nat) (acc : List (Nat × AV)), covers c acc → covers c (collectR c n t acc)
 | 0, t, acc, h => h
 | n + 1, t, acc, h => by
  simp only [collectR]
  split
  ·rename_i u hu; exact covers_collectR n _ _ ⟨hu, h⟩
  ·exact covers_collectR n _ _ h
theorem covers_collect {c : Env} : ∀ (ms : List (Nat × Nat)) (acc : List (Nat × AV)), covers c acc → covers c (collect c ms acc)
 | [], acc, h => h
 | (lo, hi) :: ms, acc, h => covers_collect ms _ (covers_collectR _ _ _ h)
theorem RE.covers {G : Ghost} {c e : Env} (h : RE G c e) : ∀ {xs : List (Nat × AV)}, covers c xs → ∃ ys, RVs G xs ys ∧ Go.Vx.covers e ys
 | [], _ => ⟨[], rfl, trivial⟩
 | (t, u) :: xs, k => by
  obtain ⟨v, h1, h2⟩ := h t u k.1
  obtain ⟨ys, h3, h4⟩ := RE.covers h k.2
  exact ⟨(t, v) :: ys, ⟨v, ys, h2, h3, rfl⟩, h1, h4⟩
end Go.Vx.Ev
