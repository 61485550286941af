import Derived.Test.YtleofbpepfmfgaaGreatDoorVxEvG
set_option linter.unusedSimpArgs false
set_option linter.unusedVariables false
namespace Go.Vx.Ev
open Go Go.Vx
variable {gl : List Nat} {μ : Mem} {G : Ghost} {x : Cx} {t : St} {m : Mem} {c e : Env} {P : Program}

def oaeq (a b : Option Addr) : Bool :=
 match a, b with
 | none, none => true
 | some ⟨a, i, none⟩, some ⟨b, j, none⟩ => Nat.beq a b && Nat.beq i j
 | _, _ => false
theorem oaeq_eq {a b : Option Addr} (h : oaeq a b = true) : a = b := by
 unfold oaeq at h
 split at h <;> try (cases h; done)
 ·rfl
 ·simp only [Bool.and_eq_true] at h; rw [beq_ff h.1, beq_ff h.2]
def feq (f g : Go.Fn) : Bool := match f, g with | .func a, .func b => Nat.beq a b | _, _ => false
theorem feq_eq {f g : Go.Fn} (h : feq f g = true) : f = g := by
 unfold feq at h
 split at h <;> try (cases h; done)
 rw [beq_ff h]
mutual
def weq : Value → Value → Bool
 | .int k n, .int j l => kbeq k j && eqD n l
 | .bool a, .bool b => beqB a b
 | .string a, .string b => a.data.toList == b.data.toList
 | .slice a n d, .slice b l d' => oaeq a b && (Nat.beq n l && Nat.beq d d')
 | .pointer a, .pointer b => oaeq a b
 | .nilFunc, .nilFunc => true
 | .nilIface, .nilIface => true
 | .map none, .map none => true
 | .map (some a), .map (some b) => Nat.beq a b
 | .func f ⟨a⟩ ⟨b⟩, .func g ⟨a'⟩ ⟨b'⟩ => feq f g && (weqL a a' && weqL b b')
 | .iface T u, .iface T' v => Nat.beq T T' && weq u v
 | .agg ⟨a⟩, .agg ⟨b⟩ => weqL a b
 | .tuple ⟨a⟩, .tuple ⟨b⟩ => weqL a b
 | _, _ => false
def weqL : List Value → List Value → Bool
 | [], [] => true
 | x :: xs, y :: ys => weq x y && weqL xs ys
 | _, _ => false
end
theorem beqB_eq {a b : Bool} (h : beqB a b = true) : a = b := by cases a <;> cases b <;> first | rfl | cases h
mutual
theorem weq_eq : ∀ (a b : Value), weq a b = true → a = b := by
 intro a b h
 match a, b, h with
 | .int k n, .int j l, h => simp only [weq, Bool.and_eq_true] at h; rw [kbeq_eq h.1, of_decide_eq_true h.2]
 | .bool a, .bool b, h => simp only [weq] at h; rw [beqB_eq h]
 | .string a, .string b, h => simp only [weq, beq_iff_eq] at h; rw [string_ext h]
 | .slice a n d, .slice b l d', h => simp only [weq, Bool.and_eq_true] at h; rw [oaeq_eq h.1, beq_ff h.2.1, beq_ff h.2.2]
 | .pointer a, .pointer b, h => simp only [weq] at h; rw [oaeq_eq h]
 | .nilFunc, .nilFunc, _ => rfl
 | .nilIface, .nilIface, _ => rfl
 | .map none, .map none, _ => rfl
 | .map (some a), .map (some b), h => simp only [weq] at h; rw [beq_ff h]
 | .func f ⟨a⟩ ⟨b⟩, .func g ⟨a'⟩ ⟨b'⟩, h => simp only [weq, Bool.and_eq_true] at h; rw [feq_eq h.1, weqL_eq a a' h.2.1, weqL_eq b b' h.2.2]
 | .iface T u, .iface T' v, h => simp only [weq, Bool.and_eq_true] at h; rw [beq_ff h.1, weq_eq u v h.2]
 | .agg ⟨a⟩, .agg ⟨b⟩, h => simp only [weq] at h; rw [weqL_eq a b h]
 | .tuple ⟨a⟩, .tuple ⟨b⟩, h => simp only [weq] at h; rw [weqL_eq a b h]
theorem weqL_eq : ∀ (a b : List Value), weqL a b = true → a = b := by
 intro a b h
 match a, b, h with
 | [], [], _ => rfl
 | x :: xs, y :: ys, h => simp only [weqL, Bool.and_eq_true] at h; rw [weq_eq x y h.1, weqL_eq xs ys h.2]
end
def aveq (a b : AV) : Bool :=
 match a, b with
 | .val a, .val b => weq a b
 | .var a, .var b => weqL a b
 | .ref k o, .ref j p => Nat.beq k j && Nat.beq o p
 | .refi k o i, .refi j p l => Nat.beq k j && Nat.beq o p && eqD i l
 | .fresh a, .fresh b => weqL a b
 | _, _ => false
theorem aveq_eq {a b : AV} (h : aveq a b = true) : a = b := by
 unfold aveq at h
 split at h <;> try (cases h; done)
 ·rw [weq_eq _ _ h]
 ·rw [weqL_eq _ _ h]
 ·simp only [Bool.and_eq_true] at h; rw [beq_ff h.1, beq_ff h.2]
 ·simp only [Bool.and_eq_true] at h; rw [beq_ff h.1.1, beq_ff h.1.2, of_decide_eq_true h.2]
 ·rw [weqL_eq _ _ h]
def avsEq : List (Nat × AV) → List (Nat × AV) → Bool
 | [], [] => true
 | (i, a) :: xs, (j, b) :: ys => Nat.beq i j && aveq a b && avsEq xs ys
 | _, _ => false
theorem avsEq_eq : ∀ {xs ys : List (Nat × AV)}, avsEq xs ys = true → xs = ys
 | [], [], _ => rfl
 | (i, a) :: xs, (j, b) :: ys, h => by simp only [avsEq, Bool.and_eq_true] at h; rw [beq_ff h.1.1, aveq_eq h.1.2, avsEq_eq h.2]
def obeq (a b : Option Ob) : Bool :=
 match a, b with
 | none, none => true
 | some .dead, some .dead => true
 | some (.bl cs T sz), some (.bl ds U sy) => weqL cs ds && Nat.beq T U && Nat.beq sz sy
 | some (.mp cs), some (.mp ds) => weqL cs ds
 | _, _ => false
theorem obeq_eq {a b : Option Ob} (h : obeq a b = true) : a = b := by
 unfold obeq at h
 split at h <;> try (cases h; done)
 ·rfl
 ·rfl
 ·simp only [Bool.and_eq_true] at h; rw [weqL_eq _ _ h.1.1, beq_ff h.1.2, beq_ff h.2]
 ·rw [weqL_eq _ _ h]
def trEq : St → St → Bool
 | .lf, .lf => true
 | .nd l v r, .nd l' v' r' => trEq l l' && obeq v v' && trEq r r'
 | _, _ => false
theorem trEq_eq : ∀ {a b : St}, trEq a b = true → a = b := by
 intro a
 induction a with
 | lf => intro b h; cases b with
  | lf => rfl
  | nd l v r => cases h
 | nd l v r ihl ihr => intro b h; cases b with
  | lf => cases h
  | nd l' v' r' => simp only [trEq, Bool.and_eq_true] at h; rw [ihl h.1.1, obeq_eq h.1.2, ihr h.2]

def multi : RT → Bool
 | .nil => false
 | .pure _ t => multi t
 | .alt _ t .done => multi t
 | .alt _ _ _ => true
 | .done => false
def evTL (call : CallEv) (gl : List Nat) (x : Cx) (l : List E) : RT → Env → St → Nat → Option (Env × St × Nat)
 | .nil, c, t, nx => some (c, t, nx)
 | .pure i r, c, t, nx => match l[i]? with
  | some y => (match evE call gl x y c t nx with | some (c', t', nx') => evTL call gl x l r c' t' nx' | none => none)
  | none => none
 | .alt i r .done, c, t, nx => match l[i]? with
  | some y => (match evE call gl x y c t nx with | some (c', t', nx') => evTL call gl x l r c' t' nx' | none => none)
  | none => none
 | _, _, _, _ => none
theorem evTL_sound {call : CallEv} (hc : CallOK P gl call) {X : List PanicEntry → Mem → Prop} {l : List E} : ∀ {r : RT} {nx nx' : Nat} {c c' e : Env} {t t' : St} {G : Ghost} {m : Mem} {K : Env → Mem → Prop}, evTL call gl x l r c t nx = some (c', t', nx') → Inv P gl μ G x t m → RE G c e →
  (∀ G' e' m', Ghost.le G G' → Inv P gl μ G' x t' m' → RE G' c' e' → K e' m') → treeI P l K X r e m := by
 intro r
 induction r with
 | nil => intro nx nx' c c' e t t' G m K hp hI hE hK; cases hp; exact hK G e m (Ghost.le.refl G) hI hE
 | done => intro nx nx' c c' e t t' G m K hp hI hE hK; cases hp
 | pure i r ih =>
  intro nx nx' c c' e t t' G m K hp hI hE hK
  simp only [evTL] at hp
  simp only [treeI]
  split at hp <;> try (cases hp; done)
  rename_i y hy
  split at hp <;> try (cases hp; done)
  rename_i c1 t1 nx1 h1
  simp only [hy]
  exact evE_sound hc h1 hI hE fun G1 e1 m1 g1 g2 g3 => ih hp g2 g3 fun G2 e2 m2 k1 k2 k3 => hK G2 e2 m2 (g1.trans k1) k2 k3
 | alt i r more ih _ =>
  intro nx nx' c c' e t t' G m K hp hI hE hK
  cases more with
  | done =>
   simp only [evTL] at hp
   simp only [treeI]
   refine ⟨?_, trivial⟩
   split at hp <;> try (cases hp; done)
   rename_i y hy
   split at hp <;> try (cases hp; done)
   rename_i c1 t1 nx1 h1
   simp only [hy]
   exact evE_sound hc h1 hI hE fun G1 e1 m1 g1 g2 g3 => ih hp g2 g3 fun G2 e2 m2 k1 k2 k3 => hK G2 e2 m2 (g1.trans k1) k2 k3
  | nil => simp [evTL] at hp
  | pure => simp [evTL] at hp
  | alt => simp [evTL] at hp
def planOf (i : Nat) (nx : Nat) : List (Nat × Nat) → Nat
 | [] => nx
 | (j, s) :: r => bif Nat.beq i j then s else planOf i nx r
def isDone : RT → Bool | .done => true | _ => false
theorem isDone_eq {r : RT} (h : isDone r = true) : r = .done := by cases r <;> first | rfl | cases h
abbrev TOut := List (Nat × AV) × St × Nat × List (Nat × Nat)
def evTA (call : CallEv) (gl : List Nat) (x : Cx) (l : List E) (ds : List (Nat × Nat)) : RT → List (Nat × Nat) → Env → St → Nat → Option TOut
 | .nil, pl, c, t, nx => some (collect c ds [], t, nx, pl)
 | .done, _, _, _, _ => none
 | .pure i r, pl, c, t, nx => match l[i]? with
  | some y => bif dIn ds y.d then (match evE call gl x y c t (planOf i nx pl) with | some (c', t', nx') => evTA call gl x l ds r ((i, planOf i nx pl) :: pl) c' t' (max nx nx') | none => none) else none
  | none => none
 | .alt i r more, pl, c, t, nx =>
  match (match l[i]? with
   | some y => bif dIn ds y.d then (match evE call gl x y c t (planOf i nx pl) with | some (c', t', nx') => evTA call gl x l ds r ((i, planOf i nx pl) :: pl) c' t' (max nx nx') | none => none) else none
   | none => none) with
  | some (vs1, t1, nx1, pl1) => (match isDone more with
   | true => some (vs1, t1, nx1, pl1)
   | false => (match evTA call gl x l ds more pl1 c t nx with
    | some (vs2, t2, _, _) => bif avsEq vs1 vs2 && trEq t1 t2 then some (vs1, t1, nx1, pl1) else none
    | none => none))
  | none => none
theorem RE.weak {c' : Env} (h : RE G c e) (k : ∀ t v, c' t = some v → c t = some v) : RE G c' e := fun t u ht => h t u (k t u ht)
theorem evE_mod {call : CallEv} {y : E} {nx nx' : Nat} {c' : Env} {t' : St} {ds : List (Nat × Nat)} (hd : dIn ds y.d = true) (hp : evE call gl x y c t nx = some (c', t', nx')) : Mod ds c c' := by
 unfold evE at hp
 split at hp
 ·split at hp <;> try (cases hp; done)
  rename_i u t1 nx1 h1
  cases hs : (!y.s || isB u) with
  | false => rw [hs] at hp; cases hp
  | true => rw [hs] at hp; cases hp; exact Mod.put hd _ _
 ·cases hp; exact Mod.put hd _ _
 ·cases hp
theorem evTA_sound {call : CallEv} (hc : CallOK P gl call) {X : List PanicEntry → Mem → Prop} {l : List E} {ds : List (Nat × Nat)} {c0 : Env} : ∀ {r : RT} {pl : List (Nat × Nat)} {nx nx' : Nat} {c e : Env} {t t' : St} {vs : List (Nat × AV)} {pl' : List (Nat × Nat)} {G : Ghost} {m : Mem} {K : Env → Mem → Prop},
  evTA call gl x l ds r pl c t nx = some (vs, t', nx', pl') → Inv P gl μ G x t m → RE G c e → Mod ds c0 c →
  (∀ G' e' m', Ghost.le G G' → Inv P gl μ G' x t' m' → RE G' (over c0 ds vs) e' → K e' m') → treeI P l K X r e m := by
 intro r
 induction r with
 | nil =>
  intro pl nx nx' c e t t' vs pl' G m K hp hI hE hM hK
  cases hp
  exact hK G e m (Ghost.le.refl G) hI (hE.weak (over_weak (covers_collect ds [] trivial) hM))
 | done => intro pl nx nx' c e t t' vs pl' G m K hp hI hE hM hK; cases hp
 | pure i r ih =>
  intro pl nx nx' c e t t' vs pl' G m K hp hI hE hM hK
  simp only [evTA] at hp
  simp only [treeI]
  split at hp <;> try (cases hp; done)
  rename_i y hy
  cases hd : dIn ds y.d with
  | false => rw [hd] at hp; cases hp
  | true =>
   rw [hd] at hp; simp only [cond_true] at hp
   split at hp <;> try (cases hp; done)
   rename_i c1 t1 nx1 h1
   simp only [hy]
   exact evE_sound hc h1 hI hE fun G1 e1 m1 g1 g2 g3 => ih hp g2 g3 (hM.trans (evE_mod hd h1)) fun G2 e2 m2 k1 k2 k3 => hK G2 e2 m2 (g1.trans k1) k2 k3
 | alt i r more ih ihm =>
  intro pl nx nx' c e t t' vs pl' G m K hp hI hE hM hK
  simp only [evTA] at hp
  simp only [treeI]
  split at hp <;> try (cases hp; done)
  rename_i vs1 t1 nx1 pl1 hb
  have first : ∀ {K : Env → Mem → Prop}, (∀ G' e' m', Ghost.le G G' → Inv P gl μ G' x t1 m' → RE G' (over c0 ds vs1) e' → K e' m') → (match l[i]? with | some x => stepE P x e m (fun e' m' => treeI P l K X r e' m') X | none => False) := by
   intro K hK
   split at hb <;> try (cases hb; done)
   rename_i y hy
   cases hd : dIn ds y.d with
   | false => rw [hd] at hb; cases hb
   | true =>
    rw [hd] at hb; simp only [cond_true] at hb
    split at hb <;> try (cases hb; done)
    rename_i c1 t2 nx2 h1
    try simp only [hy]
    exact evE_sound hc h1 hI hE fun G1 e1 m1 g1 g2 g3 => ih hb g2 g3 (hM.trans (evE_mod hd h1)) fun G2 e2 m2 k1 k2 k3 => hK G2 e2 m2 (g1.trans k1) k2 k3
  split at hp
  ·rename_i hd
   cases hp
   have := isDone_eq hd
   subst this
   exact ⟨first hK, trivial⟩
  ·split at hp <;> try (cases hp; done)
   rename_i vs2 t2 nx2 pl2 h2
   cases hq : (avsEq vs1 vs2 && trEq t1 t2) with
   | false => rw [hq] at hp; cases hp
   | true =>
    rw [hq] at hp; cases hp
    rw [Bool.and_eq_true] at hq
    obtain rfl := avsEq_eq hq.1
    obtain rfl := trEq_eq hq.2
    exact ⟨first hK, ihm h2 hI hE hM hK⟩
def dsts : List E → List (Nat × Nat)
 | [] => []
 | y :: ys => match y.d with | some d => (d, d) :: dsts ys | none => dsts ys
def evTree (call : CallEv) (gl : List Nat) (x : Cx) (l : List E) (r : RT) (c : Env) (t : St) (nx : Nat) : Option (Env × St × Nat) :=
 match multi r with
 | false => evTL call gl x l r c t nx
 | true => (match evTA call gl ⟨t :: x.wr, x.ro⟩ l (dsts l) r [] c .lf nx with
  | some (vs, t', nx', _) => some (over c (dsts l) vs, t'.merge t, nx')
  | none => none)
theorem evTree_sound {call : CallEv} (hc : CallOK P gl call) {X : List PanicEntry → Mem → Prop} {l : List E} {r : RT} {nx nx' : Nat} {c' : Env} {t' : St} {K : Env → Mem → Prop} (hp : evTree call gl x l r c t nx = some (c', t', nx')) (hI : Inv P gl μ G x t m) (hE : RE G c e)
  (hK : ∀ G' e' m', Ghost.le G G' → Inv P gl μ G' x t' m' → RE G' c' e' → K e' m') : treeI P l K X r e m := by
 unfold evTree at hp
 split at hp
 ·exact evTL_sound hc hp hI hE hK
 ·split at hp <;> try (cases hp; done)
  rename_i vs t1 nx1 pl1 h1; cases hp
  exact evTA_sound hc (c0 := c) h1 hI.push hE (Mod.refl _ _) fun G1 e1 m1 g1 g2 g3 => hK G1 e1 m1 g1 g2.pop g3

inductive Ex where
 | n | r | x (id : Nat)
def Ex.of : Ex → Exit | .n => .normal | .r => .ret | .x i => .exit i
abbrev BOut := Ex × Env × St × Nat
def evLoop (body : Env → St → Nat → Option BOut) (ms : List (Nat × Nat)) (c0 : Env) : Nat → List (Nat × AV) → St → Nat → Option BOut
 | 0, _, _, _ => none
 | k + 1, vs, t, nx => match body (over c0 ms vs) t nx with
  | some (.n, c', t', nx') => evLoop body ms c0 k (collect c' ms []) t' nx'
  | some (.r, c', t', nx') => some (.r, c', t', nx')
  | some (.x i, c', t', nx') => some (.x i, c', t', nx')
  | none => none
def LFUEL : Nat := 1000000
def evI (call : CallEv) (gl : List Nat) (x : Cx) : IR → Env → St → Nat → Option BOut
 | .skip, c, t, nx => some (.n, c, t, nx)
 | .ret, c, t, nx => some (.r, c, t, nx)
 | .exit i, c, t, nx => some (.x i, c, t, nx)
 | .ops l, c, t, nx => (match evOps call gl x l c t nx with | some (c', t', nx') => some (.n, c', t', nx') | none => none)
 | .tree l r, c, t, nx => (match evTree call gl x l r c t nx with | some (c', t', nx') => some (.n, c', t', nx') | none => none)
 | .seq a b, c, t, nx => (match evI call gl x a c t nx with
  | some (.n, c', t', nx') => evI call gl x b c' t' nx'
  | some (.r, c', t', nx') => some (.r, c', t', nx')
  | some (.x i, c', t', nx') => some (.x i, c', t', nx')
  | none => none)
 | .seqj _ _ _, _, _, _ => none
 | .cond d a b, c, t, nx => (match d with
  | .t n => (match c n with | some (.val (.bool v)) => (match v with | true => evI call gl x a c t nx | false => evI call gl x b c t nx) | _ => none)
  | .c (.bool true) => evI call gl x a c t nx
  | .c (.bool false) => evI call gl x b c t nx
  | .c _ => none)
 | .block id a, c, t, nx => (match evI call gl x a c t nx with
  | some (.x i, c', t', nx') => bif Nat.beq i id then some (.n, c', t', nx') else some (.x i, c', t', nx')
  | some (.n, c', t', nx') => some (.n, c', t', nx')
  | some (.r, c', t', nx') => some (.r, c', t', nx')
  | none => none)
 | .loop ms a, c, t, nx => evLoop (fun c t nx => evI call gl x a c t nx) ms c LFUEL (collect c ms []) t nx
 | .rf g ps a b, c, t, nx => (match fnOf (cat gl g c) with
  | some (f, first, caps) => (match Nat.ble YB f with
   | true => none
   | false => bif newlab x t nx then (match call x f (first ++ [.func (.yield nx) ⟨[]⟩ ⟨[]⟩] ++ caps) (t.put nx (.lp c ps a b)) (nx + 1) with
    | some (_, t', nx') => (match x.get t' nx with
     | some (.lp _ _ _ _) => bif x.own t' nx then some (.n, c, t'.put nx .dead, nx') else none
     | _ => none)
    | none => none) else none)
  | none => none)
def BodyOK (P : Program) (gl : List Nat) (x : Cx) (ir : IR) (c : Env) (t : St) (ex : Ex) (c' : Env) (t' : St) : Prop :=
 ∀ μ G e m Q, Inv P gl μ G x t m → RE G c e → (∀ G' e' m', Ghost.le G G' → Inv P gl μ G' x t' m' → RE G' c' e' → Q ex.of e' m') → wpI P ir Q e m
theorem evLoop_sound {body : Env → St → Nat → Option BOut} {ms : List (Nat × Nat)} {a : IR} (hb : ∀ c t nx ex c' t' nx', body c t nx = some (ex, c', t', nx') → BodyOK P gl x a c t ex c' t') {c : Env} {t : St} {nx : Nat} {k : Nat} {ex : Ex} {c' : Env} {t' : St} {nx' : Nat}
  (hp : evLoop body ms c k (collect c ms []) t nx = some (ex, c', t', nx')) : BodyOK P gl x (.loop ms a) c t ex c' t' := by
 intro μ G0 e m Q hI hE hK
 simp only [wpI]
 obtain ⟨rv0, r1, r2⟩ := hE.covers (covers_collect ms [] (c := c) trivial)
 refine WLoop.mk (List (Nat × AV) × List (Nat × AV) × St × Nat × Nat × Ghost) (fun s => s.2.1)
  (fun s m => RVs s.2.2.2.2.2 s.1 s.2.1 ∧ Inv P gl μ s.2.2.2.2.2 x s.2.2.1 m ∧ Ghost.le G0 s.2.2.2.2.2 ∧ evLoop body ms c s.2.2.2.2.1 s.1 s.2.2.1 s.2.2.2.1 = some (ex, c', t', nx')) (fun s => s.2.2.2.2.1)
  (collect c ms [], rv0, t, nx, k, G0) r2 ⟨r1, hI, Ghost.le.refl G0, hp⟩ ?_
 rintro ⟨lv, rv, t1, nx1, k1, G1⟩ m1 ⟨h1, h2, h3, h4⟩
 cases k1 with
 | zero => cases h4
 | succ k1 =>
  simp only [evLoop] at h4
  have hE1 : RE G1 (over c ms lv) (over e ms rv) := (hE.mono h3).over ms h1
  split at h4 <;> try (cases h4; done)
  ·rename_i c2 t2 nx2 hbody
   refine hb _ _ _ _ _ _ _ hbody μ G1 _ m1 _ h2 hE1 fun G2 e2 m2 g1 g2 g3 => ?_
   obtain ⟨rv2, q1, q2⟩ := g3.covers (covers_collect ms [] (c := c2) trivial)
   exact ⟨(collect c2 ms [], rv2, t2, nx2, k1, G2), q2, ⟨q1, g2, h3.trans g1, h4⟩, Nat.lt_succ_self k1⟩
  ·rename_i c2 t2 nx2 hbody
   cases h4
   exact hb _ _ _ _ _ _ _ hbody μ G1 _ m1 _ h2 hE1 fun G2 e2 m2 g1 g2 g3 => hK G2 e2 m2 (h3.trans g1) g2 g3
  ·rename_i i c2 t2 nx2 hbody
   cases h4
   exact hb _ _ _ _ _ _ _ hbody μ G1 _ m1 _ h2 hE1 fun G2 e2 m2 g1 g2 g3 => hK G2 e2 m2 (h3.trans g1) g2 g3
theorem evI_sound {call : CallEv} (hc : CallOK P gl call) : ∀ (ir : IR) (c : Env) (t : St) (nx : Nat) (ex : Ex) (c' : Env) (t' : St) (nx' : Nat), evI call gl x ir c t nx = some (ex, c', t', nx') → BodyOK P gl x ir c t ex c' t' := by
 intro ir
 induction ir with
 | skip => intro c t nx ex c' t' nx' hp μ G e m Q hI hE hK; cases hp; exact hK G e m (Ghost.le.refl G) hI hE
 | ret => intro c t nx ex c' t' nx' hp μ G e m Q hI hE hK; cases hp; exact hK G e m (Ghost.le.refl G) hI hE
 | exit i => intro c t nx ex c' t' nx' hp μ G e m Q hI hE hK; cases hp; exact hK G e m (Ghost.le.refl G) hI hE
 | ops l =>
  intro c t nx ex c' t' nx' hp μ G e m Q hI hE hK
  simp only [evI] at hp
  split at hp <;> try (cases hp; done)
  rename_i c1 t1 nx1 h1; cases hp
  exact evOps_sound hc h1 hI hE hK
 | tree l r =>
  intro c t nx ex c' t' nx' hp μ G e m Q hI hE hK
  simp only [evI] at hp
  split at hp <;> try (cases hp; done)
  rename_i c1 t1 nx1 h1; cases hp
  exact evTree_sound hc h1 hI hE hK
 | seq a b iha ihb =>
  intro c t nx ex c' t' nx' hp μ G e m Q hI hE hK
  simp only [evI] at hp
  simp only [wpI]
  split at hp <;> try (cases hp; done)
  ·rename_i c1 t1 nx1 h1
   exact iha _ _ _ _ _ _ _ h1 μ G e m _ hI hE fun G1 e1 m1 g1 g2 g3 => ihb _ _ _ _ _ _ _ hp μ G1 e1 m1 Q g2 g3 fun G2 e2 m2 k1 k2 k3 => hK G2 e2 m2 (g1.trans k1) k2 k3
  ·rename_i c1 t1 nx1 h1; cases hp
   exact iha _ _ _ _ _ _ _ h1 μ G e m _ hI hE hK
  ·rename_i i c1 t1 nx1 h1; cases hp
   exact iha _ _ _ _ _ _ _ h1 μ G e m _ hI hE hK
 | seqj ms a b _ _ => intro c t nx ex c' t' nx' hp; cases hp
 | cond d a b iha ihb =>
  intro c t nx ex c' t' nx' hp μ G e m Q hI hE hK
  simp only [evI] at hp
  simp only [wpI]
  split at hp
  ·rename_i n
   split at hp <;> try (cases hp; done)
   rename_i v hv
   obtain ⟨w, w1, z, z1, rfl⟩ := hE _ _ hv
   cases z1.bool
   simp only [w1]
   have same : ∀ b : Bool, v = b → e.upd n (.val (.bool b)) = e := fun b hb => by
    subst hb
    funext s
    unfold Env.upd
    cases hs : Nat.beq s n with
    | true => simp only [cond_true]; rw [beq_ff hs, w1]
    | false => rfl
   unfold Br
   cases v with
   | true => simp only; rw [same true rfl]; exact iha _ _ _ _ _ _ _ hp μ G e m Q hI hE hK
   | false => simp only; rw [same false rfl]; exact ihb _ _ _ _ _ _ _ hp μ G e m Q hI hE hK
  ·exact iha _ _ _ _ _ _ _ hp μ G e m Q hI hE hK
  ·exact ihb _ _ _ _ _ _ _ hp μ G e m Q hI hE hK
  ·cases hp
 | block id a iha =>
  intro c t nx ex c' t' nx' hp μ G e m Q hI hE hK
  simp only [evI] at hp
  simp only [wpI]
  split at hp <;> try (cases hp; done)
  ·rename_i i c1 t1 nx1 h1
   refine iha _ _ _ _ _ _ _ h1 μ G e m _ hI hE fun G1 e1 m1 g1 g2 g3 => ?_
   simp only [Ex.of, blockE]
   cases hb : Nat.beq i id with
   | true => rw [hb] at hp; cases hp; exact hK G1 e1 m1 g1 g2 g3
   | false => rw [hb] at hp; cases hp; exact hK G1 e1 m1 g1 g2 g3
  ·rename_i c1 t1 nx1 h1; cases hp
   exact iha _ _ _ _ _ _ _ h1 μ G e m _ hI hE hK
  ·rename_i c1 t1 nx1 h1; cases hp
   exact iha _ _ _ _ _ _ _ h1 μ G e m _ hI hE hK
 | loop ms a iha =>
  intro c t nx ex c' t' nx' hp
  simp only [evI] at hp
  exact evLoop_sound (fun c t nx ex c' t' nx' h => iha c t nx ex c' t' nx' h) hp
 | rf g ps a a' _ _ =>
  intro c t nx ex c' t' nx' hp μ G e m Q hI hE hK
  simp only [evI] at hp
  split at hp <;> try (cases hp; done)
  rename_i f first caps hf
  split at hp <;> try (cases hp; done)
  rename_i hyb
  cases hn : newlab x t nx with
  | false => rw [hn] at hp; cases hp
  | true =>
   rw [hn] at hp; simp only [cond_true] at hp
   split at hp <;> try (cases hp; done)
   rename_i v t1 nx1 h1
   split at hp <;> try (cases hp; done)
   rename_i c2 ps2 a2 a2' hget
   cases ho : x.own t1 nx with
   | false => rw [ho] at hp; cases hp
   | true =>
    rw [ho] at hp; cases hp
    obtain ⟨k1, k2⟩ := newlab_ok hn
    obtain ⟨fs, cs, f1, f2, f3⟩ := fnOf_ok hI.glob hE hf
    simp only [wpI]
    unfold WRf
    refine ⟨f, ⟨fs⟩, ⟨cs⟩, f1, fun b r hb hr hpn hy => ?_⟩
    obtain ⟨hle, hI'⟩ := hI.newL k1 k2 hb hr hpn hE hy
    have hyv : RV (fun k => if k = nx then some (b, 0, 0) else G k) (.func (.yield nx) ⟨[]⟩ ⟨[]⟩) (.func (.yield b) #[] #[]) := by
     unfold RV; exact ⟨_, [], [], ⟨b, 0, 0, if_pos rfl, rfl⟩, RVL.nil', RVL.nil', rfl⟩
    have hargs := RVL.app (RVL.app (f2.mono hle _ _) (RVL.cons hyv RVL.nil')) (f3.mono hle _ _)
    refine ⟨_, (hc _ _ _ _ _ _ _ _ h1 μ _ _ _ hI' hargs).1 hyb, fun e' m' hR => ?_⟩
    obtain ⟨G2, v', g1, g2, g3, rfl⟩ := hR
    obtain ⟨b2, sz2, L2, r2, e2, q1, q2, q3, q4, q5, q6, q7⟩ := g2.lps nx c2 ps2 a2 a2' hget ho
    have hGb := g1 nx _ (if_pos rfl)
    rw [hGb] at q1; cases q1
    refine ⟨⟨r2, q2, q3, q4⟩, hK G2 e _ (hle.trans g1) ?_ (hE.mono (hle.trans g1))⟩
    have hμ : μ b = none := g2.own nx b _ _ ho (by rw [hget]; exact fun hh => by cases hh) hGb
    refine (g2.kill k1 ho).drop q2 hμ fun k s L z1 z2 z3 => ?_
    rw [get_put x t1 k1] at z2
    rw [own_put x t1 k1] at z1
    by_cases ek : k = nx
    ·rw [if_pos ek] at z2; exact z2 rfl
    ·rw [if_neg ek] at z1 z2; exact ek (q7 k s L z1 z2 z3)

def cre (x : Cx) (t : St) (c : Env) : Res → Option Value
 | .h k n agg => (match c k with
  | some (.val (.pointer (some a))) => (match live x t a.block with
   | some (cs, _, _) => (match agg with | true => (bif Nat.ble (a.off + n) cs.length then some (.agg ⟨(cs.drop a.off).take n⟩) else none) | false => cs[a.off]?)
   | none => none)
  | _ => none)
 | r => r.at (fun _ => none) c
def cres (x : Cx) (t : St) (c : Env) : List Res → Option (List Value)
 | [] => some []
 | r :: rs => match cre x t c r with | some v => (match cres x t c rs with | some vs => some (v :: vs) | none => none) | none => none
theorem cres_ok (hI : Inv P gl μ G x t m) (h : RE G c e) : ∀ {rs : List Res} {us : List Value}, cres x t c rs = some us → ∃ vs, resAts m e rs = some vs ∧ RVL G us vs := by
 intro rs
 induction rs with
 | nil => intro us k; cases k; exact ⟨[], rfl, RVL.nil'⟩
 | cons r rs ih =>
  intro us k
  simp only [cres] at k
  split at k <;> try (cases k; done)
  rename_i v hv
  split at k <;> try (cases k; done)
  rename_i vs hvs; cases k
  obtain ⟨ws, w1, w2⟩ := ih hvs
  have : ∃ w, r.at m e = some w ∧ RV G v w := by
   cases r with
   | t n =>
    simp only [cre, Res.at] at hv ⊢
    split at hv <;> try (cases hv; done)
    rename_i u hu; cases hv
    obtain ⟨a, a1, b, b1, rfl⟩ := h _ _ hu
    exact ⟨b, by rw [a1], b1⟩
   | c k n agg =>
    simp only [cre, Res.at] at hv ⊢
    split at hv <;> try (cases hv; done)
    rename_i cs hcs
    obtain ⟨a, a1, ds, d1, rfl⟩ := h _ _ hcs
    rw [a1]
    simp only
    cases agg with
    | true =>
     simp only at hv ⊢
     rw [← d1.len]
     cases hb : Nat.ble n cs.length with
     | false => rw [hb] at hv; cases hv
     | true => rw [hb] at hv; cases hv; exact ⟨_, rfl, RV.agg' (d1.take n)⟩
    | false =>
     simp only at hv ⊢
     cases cs with
     | nil => cases hv
     | cons q qs =>
      cases hv
      obtain ⟨y, ys, y1, y2, rfl⟩ := d1.inv
      exact ⟨y, rfl, y1⟩
   | h k n agg =>
    simp only [cre, Res.at] at hv ⊢
    split at hv <;> try (cases hv; done)
    rename_i ad hc0
    split at hv <;> try (cases hv; done)
    rename_i cs T sz hlv
    obtain ⟨w, w1, z, z1, rfl⟩ := h _ _ hc0
    obtain ⟨b, s, L, g1, g2, rfl⟩ := z1.ptr
    rw [w1]
    simp only
    obtain ⟨b', L', l, fr, h1, h2, h3, h4, l1, rest, h5, h6⟩ := hI.blk _ _ _ _ (live_get hlv)
    rw [g1] at h1; cases h1
    unfold heapVal
    simp only [h2]
    subst h6
    have hlen := h5.len
    cases agg with
    | true =>
     simp only at hv ⊢
     cases hb : Nat.ble (ad.off + n) cs.length with
     | false => rw [hb] at hv; cases hv
     | true =>
      rw [hb] at hv; cases hv
      have hle := Nat.le_of_ble_eq_true hb
      have hb2 : Nat.ble (ad.off + n) (l1 ++ rest).length = true := Nat.ble_eq_true_of_le (by simp; omega)
      rw [hb2]
      refine ⟨_, rfl, ?_⟩
      rw [List.drop_append_of_le_length (by omega), List.take_append_of_le_length (by simp; omega)]
      exact RV.agg' ((h5.drop ad.off).take n)
    | false =>
     simp only at hv ⊢
     obtain ⟨y, y1, y2⟩ := h5.at hv
     have hlt := (List.getElem?_eq_some_iff.1 y1).1
     have hd : (l1 ++ rest).drop ad.off = y :: (l1 ++ rest).drop (ad.off + 1) := by
      rw [List.drop_eq_getElem_cons (by simp; omega)]
      congr 1
      rw [List.getElem_append_left hlt]
      exact (List.getElem?_eq_some_iff.1 y1).2
     rw [hd]
     exact ⟨y, rfl, y2⟩
  obtain ⟨w, w3, w4⟩ := this
  exact ⟨w :: ws, by simp only [resAts, w3, w1], RVL.cons w4 w2⟩
theorem resVal_rel {us vs : List Value} (h : RVL G us vs) : RV G (resVal us) (resVal vs) := by
 match us, h with
 | [], h => rw [h.nil]; exact flat_self _ rfl
 | [u], h => obtain ⟨y, ys, h1, h2, rfl⟩ := h.inv; rw [h2.nil]; exact h1
 | u :: u2 :: us, h =>
  obtain ⟨y, ys, h1, h2, rfl⟩ := h.inv
  obtain ⟨y2, ys2, h3, h4, rfl⟩ := h2.inv
  show RV G (.tuple ⟨u :: u2 :: us⟩) (.tuple ⟨y :: y2 :: ys2⟩)
  unfold RV; exact ⟨_, RVL.cons h1 (RVL.cons h3 h4), rfl⟩
theorem envOf_rel {us vs : List Value} (h : RVL G us vs) : RE G (envOf us) (envOf vs) := fun s u hu => by
 unfold envOf at hu ⊢
 split at hu <;> try (cases hu; done)
 rename_i v hv; cases hu
 obtain ⟨w, w1, w2⟩ := h.at hv
 exact ⟨.val w, by rw [w1], w, w2, rfl⟩
def fnEv (F : Fn) (call : CallEv) (gl : List Nat) (x : Cx) (vs : List Value) (t : St) (nx : Nat) : Option (Value × St × Nat) :=
 bif Nat.ble vs.length F.nt then (match evI call gl x F.body (envOf vs) t nx with
  | some (ex, c', t', nx') => (match ex with
   | .x _ => none
   | _ => (match cres x t' c' F.res with | some us => some (resVal us, t', nx') | none => none))
  | none => none) else none
theorem fnEv_sound (hmix : P.follows .mixedOrders = true) {call : CallEv} (hc : CallOK P gl call) {f : Nat} {fn : Func} {F : Fn} (hf : P.funcs[f]? = some fn) (hok : okFn P fn F = true) {vs vs' : List Value} {nx nx' : Nat} {v : Value} {t' : St} (hp : fnEv F call gl x vs t nx = some (v, t', nx')) (hI : Inv P gl μ G x t m) (hv : RVL G vs vs') :
  CallsM P f vs' m (fun e m' => ∃ G' v', Ghost.le G G' ∧ Inv P gl μ G' x t' m' ∧ RV G' v v' ∧ e = .returned v') := by
 unfold fnEv at hp
 cases hn : Nat.ble vs.length F.nt with
 | false => rw [hn] at hp; cases hp
 | true =>
  rw [hn] at hp; simp only [cond_true] at hp
  split at hp <;> try (cases hp; done)
  rename_i ex c1 t1 nx1 h1
  refine calls_of hmix hf hok (by rw [← hv.len]; exact hn) ?_
  unfold Fn.asks
  refine evI_sound hc _ _ _ _ _ _ _ _ h1 μ G _ m _ hI (envOf_rel hv) fun G1 e1 m1 g1 g2 g3 => ?_
  have fin : (match cres x t1 c1 F.res with | some us => some (resVal us, t1, nx1) | none => none) = some (v, t', nx') → (match resAts m1 e1 F.res with | some vs => WRet m1 (fun e m' => ∃ G' v', Ghost.le G G' ∧ Inv P gl μ G' x t' m' ∧ RV G' v v' ∧ e = .returned v') (.returned (resVal vs)) | none => False) := by
   intro hp
   split at hp <;> try (cases hp; done)
   rename_i us hus; cases hp
   obtain ⟨ws, w1, w2⟩ := cres_ok g2 g3 hus
   rw [w1]
   exact WRet.same ⟨G1, _, g1, g2, resVal_rel w2, rfl⟩
  cases ex with
  | n => exact fin hp
  | r => exact fin hp
  | x i => cases hp
def yieldEv (call : CallEv) (gl : List Nat) (x : Cx) (k : Nat) (vs : List Value) (t : St) (nx : Nat) : Option (Value × St × Nat) :=
 match x.get t k with
 | some (.lp c ps a b) => bif x.own t k && kok k && Nat.beq vs.length ps.length then (match evI call gl x a (bindP (valsE c) ps vs) (t.put k .dead) nx with
  | some (.n, c1, t1, nx1) => (match evI call gl x b c1 t1 nx1 with
   | some (.n, _, t2, nx2) => bif x.own t2 k then some (.bool true, t2.put k (.lp c ps a b), nx2) else none
   | _ => none)
  | _ => none) else none
 | _ => none
theorem valsE_rel (h : RE G c e) : RE G (valsE c) (valsE e) := fun s u hu => by
 unfold valsE at hu ⊢
 split at hu <;> try (cases hu; done)
 rename_i v hv; cases hu
 obtain ⟨w, w1, z, z1, rfl⟩ := h _ _ hv
 rw [w1]; exact ⟨_, rfl, z, z1, rfl⟩
theorem bindP_rel : ∀ {ps : List Nat} {us vs : List Value} {c e : Env}, RE G c e → RVL G us vs → RE G (bindP c ps us) (bindP e ps vs) := by
 intro ps
 induction ps with
 | nil => intro us vs c e h k; cases us <;> cases vs <;> simpa [bindP] using h
 | cons p ps ih =>
  intro us vs c e h k
  cases us with
  | nil => rw [k.nil]; simpa [bindP] using h
  | cons u us =>
   obtain ⟨v, vs', k1, k2, rfl⟩ := k.inv
   simp only [bindP]
   exact ih (h.upd p ⟨v, k1, rfl⟩) k2
theorem yieldEv_sound {call : CallEv} (hc : CallOK P gl call) {k nx nx' : Nat} {vs vs' : List Value} {v : Value} {t' : St} (hp : yieldEv call gl x k vs t nx = some (v, t', nx')) (hI : Inv P gl μ G x t m) (hv : RVL G vs vs') {b s L : Nat} (hG : G k = some (b, s, L)) :
  YieldM P b vs' m (fun e m' => ∃ G' v', Ghost.le G G' ∧ Inv P gl μ G' x t' m' ∧ RV G' v v' ∧ e = .returned v') := by
 unfold yieldEv at hp
 split at hp <;> try (cases hp; done)
 rename_i c ps a a' hget
 cases hb : (x.own t k && kok k && Nat.beq vs.length ps.length) with
 | false => rw [hb] at hp; cases hp
 | true =>
  rw [hb] at hp; simp only [cond_true] at hp
  simp only [Bool.and_eq_true] at hb
  obtain ⟨⟨b1, b2⟩, b3⟩ := hb
  split at hp <;> try (cases hp; done)
  rename_i c1 t1 nx1 h1
  split at hp <;> try (cases hp; done)
  rename_i c2 t2 nx2 h2
  cases ho2 : x.own t2 k with
  | false => rw [ho2] at hp; cases hp
  | true =>
   rw [ho2] at hp; cases hp
   obtain ⟨bb, sz, L', r, e, q1, q2, q3, q4, q5, q6, q7⟩ := hI.lps k c ps a a' hget b1
   rw [hG] at q1; cases q1
   refine q6 vs' m _ (by rw [← hv.len]; exact beq_ff b3) q2 ?_
   have hμ : μ b = none := hI.own k b _ _ b1 (by rw [hget]; exact fun hh => by cases hh) hG
   have hH : Inv P gl (μ.set b (.loop r)) G x (t.put k .dead) m := (hI.kill b2 b1).hold q2 fun j s L z1 z2 z3 => by
    rw [get_put x t b2] at z2
    rw [own_put x t b2] at z1
    by_cases ej : j = k
    ·rw [if_pos ej] at z2; exact z2 rfl
    ·rw [if_neg ej] at z1 z2; exact ej (q7 j s L z1 z2 z3)
   refine evI_sound hc _ _ _ _ _ _ _ _ h1 (μ.set b (.loop r)) G _ m _ hH (bindP_rel (valsE_rel q5) hv) fun G1 e1 m1 g1 g2 g3 => ?_
   have hm1 : m1 b = some (.loop r) := g2.low b _ (Mem.set_same _ _ _)
   refine ⟨hm1, ?_⟩
   have hT := g2.turn (r' := { r with state := .busy }) (μ.set b (.loop { r with state := .busy })) (fun b' hb' => by rw [Mem.set_other _ _ hb', ]) (fun o ho => by rw [Mem.set_same] at ho; cases ho; rfl)
   refine evI_sound hc _ _ _ _ _ _ _ _ h2 (μ.set b (.loop { r with state := .busy })) G1 _ _ _ hT g3 fun G2 e2 m2 g4 g5 g6 => ?_
   have hm2 : m2 b = some (.loop { r with state := .busy }) := g5.low b _ (Mem.set_same _ _ _)
   refine ⟨hm2, G2, .bool true, g1.trans g4, ?_, RV.bool', rfl⟩
   have hT2 := g5.turn (r' := r) μ (fun b' _ => rfl) (fun o ho => by rw [hμ] at ho; cases ho)
   have hGk := (g1.trans g4) k _ hG
   refine hT2.relay b2 ho2 hGk (Mem.set_same _ _ _) hμ q3 q4 (q5.mono (g1.trans g4)) q6 fun j s L z1 z2 z3 => ?_
   have := g5.own j b s L z1 z2 z3
   rw [Mem.set_same] at this; cases this
inductive Ent where
 | fn (F : Fn)
 | sp (g : CallEv → List Nat → Cx → List Value → St → Nat → Option (Value × St × Nat))
def EntOK (P : Program) (gl : List Nat) (f : Nat) : Ent → Prop
 | .fn F => ∃ fn, P.funcs[f]? = some fn ∧ okFn P fn F = true
 | .sp g => ∀ call, CallOK P gl call → ∀ x vs t nx v t' nx', g call gl x vs t nx = some (v, t', nx') → ∀ μ G m vs', Inv P gl μ G x t m → RVL G vs vs' →
   CallsM P f vs' m (fun e m' => ∃ G' v', Ghost.le G G' ∧ Inv P gl μ G' x t' m' ∧ RV G' v v' ∧ e = .returned v')
end Go.Vx.Ev
