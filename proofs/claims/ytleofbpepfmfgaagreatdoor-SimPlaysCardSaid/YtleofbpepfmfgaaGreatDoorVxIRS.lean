import Derived.Test.YtleofbpepfmfgaaGreatDoorVxTree
import Derived.Deep.LoopGhost
namespace Go.Vx
open Go
variable {P : Program} {D0 : q3k} {ro : Option Nat} {m0 : Mem} {w0 : World} {N : Nat} {Q : Exit → Act → World → Prop} {ops : Array Oper} {X : List PanicEntry → Mem → Prop}

def v1k (N : Nat) (ops : Array Oper) (o : Oper) (x : E) : Bool :=
  match x.g, o.guard with
  | none, none => true
  | some (s, w), some (g, w') => (w == w') && z4z ops g s && q7e N x.d o.dst
  | _, _ => false
def okT (P : Program) (N : Nat) (ops : Array Oper) (o : Oper) (x : E) : Bool := okOp P o x.o && q9x N o x.d x.o && v1k N ops o x
def okTs (P : Program) (N : Nat) (ops : Array Oper) : List Oper → List E → Bool
  | [], [] => true
  | o :: os, x :: xs => okT P N ops o x && okTs P N ops os xs
  | _, _ => false
theorem k7g:∀ {os:List Oper} {xs:List E},okTs P N ops os xs=true→∀ (i:Nat) (o:Oper) (x:E),os[i]? = some o→xs[i]? = some x→okT P N ops o x=true:=by
  intro os
  induction os with
  | nil => intro xs h i o x ho; simp at ho
  | cons o os ih =>
    intro xs h i o' x ho hx
    cases xs with
    | nil => simp at hx
    | cons y xs =>
      simp only [okTs, Bool.and_eq_true] at h
      cases i with
      | zero => simp at ho hx; subst ho; subst hx; exact h.1
      | succ i => exact ih h.2 i o' x (by simpa using ho) (by simpa using hx)
theorem w3w {i : Nat} {o : Oper} {x : E} {e : Env} {m : Mem} {a : Act} {w : World} {K : Env → Mem → Prop} {next : Act → World → Prop} (hi : ops[i]? = some o) (ok : okT P N ops o x = true) (h : Rel D0 m0 w0 N e m a w) (hs : q1w P x e m K X)
    (hX : ∀ ch m' w' a', X ch m' → Step m0 w0 m' w' → q3m D0 m' w0 a'.defers w' → Q (.panic ch) a' w') (hK : ∀ e' m' a' w', K e' m' → Rel D0 m0 w0 N e' m' a' w' → next a' w') : wpOpIn (FR ro) 0 P ops Q i next a w := by
  simp only [okT, Bool.and_eq_true] at ok
  obtain ⟨⟨ok1, ok2⟩, ok3⟩ := ok
  have exec : Region.wanted o (yielded ops a.tmps) = true → vop P x.o e m (q3l x.s fun u m' => K (e.put x.d u) m') X → wpOpIn (FR ro) 0 P ops Q i next a w := fun hw hv =>
    z7l hi hw (v2j ok1 ok2 h hv (fun u m' a' w' hu hrel => hK _ m' a' w' (z9l hu) hrel) fun ch m' w' x y z => hX ch m' w' a x y z)
  unfold v1k at ok3
  unfold q1w at hs
  split at ok3 <;> first | (cases ok3; done) | skip
  · rename_i hg hgo
    rw [hg] at hs
    exact exec (by unfold Region.wanted; rw [hgo]) hs
  · rename_i s want g w' hg hgo
    simp only [Bool.and_eq_true, beq_iff_eq] at ok3
    obtain ⟨⟨rfl, ok4⟩, ok5⟩ := ok3
    unfold z4z at ok4
    split at ok4 <;> first | (cases ok4; done) | skip
    rename_i t hdst
    obtain rfl := q0n ok4
    rw [hg] at hs
    simp only at hs
    have skip : (yielded ops a.tmps g == some want) = false → K (e.put x.d (.val undef)) m → wpOpIn (FR ro) 0 P ops Q i next a w := fun hy hk =>
      v4b hi (by unfold Region.wanted; rw [hgo]; exact hy) (hK _ m _ w hk (h.putVal ok5 undef))
    split at hs <;> first | exact hs.elim | skip
    · rename_i b hb
      have hy : yielded ops a.tmps g = some b := by simp only [yielded, hdst, Option.bind_some, z7r (h.val _ _ hb)]
      have hw : b = want → Region.wanted o (yielded ops a.tmps) = true := fun hh => by unfold Region.wanted; rw [hgo]; simp only [hy, hh, beq_self_eq_true]
      split at hs
      · exact exec (hw rfl) hs
      · exact exec (hw rfl) hs
      · rename_i h1 h2
        refine skip ?_ hs
        rw [hy]
        cases b <;> cases want <;> first | rfl | (exact absurd rfl (h1 rfl)) | (exact absurd rfl (h2 rfl))
    · rename_i vs hb
      refine skip ?_ hs
      have := h.val _ _ hb
      rw [Array.getD_eq_getD_getElem?] at this
      simp only [yielded, hdst, Option.bind_some]
      cases ht : a.tmps[t]? with
      | none => cases want <;> rfl
      | some v => rw [ht] at this; simp only [Option.getD_some] at this; subst this; cases want <;> rfl

def cntF (L : Array Bool) : Nat := L.toList.countP (fun b => !b)
theorem v3u {L : Array Bool} {j : Nat} (h : L.getD j true = false) : cntF (L.setIfInBounds j true) + 1 = cntF L := by
  have hlt : j < L.toList.length := by
    rcases Nat.lt_or_ge j L.size with h' | h'
    · simpa using h'
    · simp [Array.getElem?_eq_none h'] at h
  have hv : L.toList[j] = false := by
    have h2 : L[j]? = some L[j] := Array.getElem?_eq_getElem (by simpa using hlt)
    rw [Array.getD_eq_getD_getElem?, h2] at h
    simpa using h
  unfold cntF
  rw [Array.toList_setIfInBounds, List.countP_set hlt, hv]
  have : 0 < L.toList.countP (fun b => !b) := List.countP_pos_iff.2 ⟨false, by rw [← hv]; exact List.getElem_mem hlt, rfl⟩
  have e1 : (if (!false) = true then 1 else 0) = 1 := rfl
  have e2 : (if (!true) = true then 1 else 0) = 0 := rfl
  rw [e1, e2]
  omega
theorem j1q {l : List E} {K : Env → Mem → Prop} (hlen : okTs P N ops ops.toList l = true) (hX : ∀ ch m' w' a', X ch m' → Step m0 w0 m' w' → q3m D0 m' w0 a'.defers w' → Q (.panic ch) a' w') (hK : ∀ e' m' a' w', K e' m' → Rel D0 m0 w0 N e' m' a' w' → Q .normal a' w') :
    ∀ (fuel : Nat) (L : Array Bool) (t : RT) (e : Env) (m : Mem) (a : Act) (w : World), cntF L ≤ fuel → q3f ops l t L none = true → Rel D0 m0 w0 N e m a w → q1n P l K X t e m → wpAnyIn (FR ro) 0 P .any ops Q fuel L a w := by
  have hnil : ∀ (L : Array Bool) (t : RT) (e : Env) (m : Mem) (a : Act) (w : World), Region.ready .any ops L = [] → q3f ops l t L none = true → Rel D0 m0 w0 N e m a w → q1n P l K X t e m → Q .normal a w := fun L t e m a w hr hf h ht => by
    cases t with
    | nil => exact hK e m a w ht h
    | pure i t =>
      simp only [q3f, Bool.and_eq_true] at hf
      have := q9m.1 hf.1.1.1
      rw [hr] at this; cases this
    | alt i t more =>
      simp only [q3f, Bool.and_eq_true] at hf
      have := q9m.1 hf.1.1
      rw [hr] at this; cases this
    | done => simp [q3f] at hf
  intro fuel
  induction fuel with
  | zero =>
    intro L t e m a w hc hf h ht
    have hr : Region.ready .any ops L = [] := by
      cases hrr : Region.ready .any ops L with
      | nil => rfl
      | cons j js =>
        have hj : j ∈ Region.ready .any ops L := by rw [hrr]; simp
        have := v3u (mem_ready.1 hj).1
        omega
    exact ⟨hr, hnil L t e m a w hr hf h ht⟩
  | succ fuel ih =>
    intro L t e m a w hc hf h ht
    refine ⟨fun hr => hnil L t e m a w hr hf h ht, fun j hj => ?_⟩
    obtain ⟨t', x, hx, hf', hst⟩ := j6t t L e m hf hj ht
    obtain ⟨g1, o, ho, _⟩ := mem_ready.1 hj
    have hok := k7g hlen j o x (by simpa using ho) hx
    refine w3w ho hok h hst hX fun e' m' a' w' hk hrel => ih _ t' e' m' a' w' ?_ hf' hrel hk
    have := v3u g1
    omega
end Go.Vx
namespace Go.Vx
open Go
variable {ops : Array Oper} {l : List E}
def tb (m i : Nat) : Bool := Nat.beq (Nat.land (Nat.shiftRight m i) 1) 1
def setB (m i : Nat) : Nat := Nat.lor m (Nat.shiftLeft 1 i)
theorem z6n (m i : Nat) : tb m i = m.testBit i := by
  unfold tb Nat.testBit
  show Nat.beq ((m >>> i) &&& 1) 1 = (1 &&& (m >>> i) != 0)
  rw [Nat.and_comm]
  have : 1 &&& (m >>> i) = (m >>> i) % 2 := by rw [Nat.and_comm]; exact Nat.and_one_is_mod _
  rw [this]
  rcases Nat.mod_two_eq_zero_or_one (m >>> i) with h | h <;> rw [h] <;> rfl
theorem k7z (m i j : Nat) : tb (setB m i) j = (tb m j || Nat.beq i j) := by
  rw [z6n, z6n]
  show (m ||| (1 <<< i)).testBit j = _
  rw [Nat.testBit_or, Nat.one_shiftLeft, Nat.testBit_two_pow]
  cases hb : Nat.beq i j with
  | true => rw [q0n hb]; simp
  | false =>
    have : i ≠ j := fun h => by subst h; simp at hb
    simp [this]
structure RepB (m : Nat) (L : Array Bool) (n : Nat) : Prop where
  size : L.size = n
  get : ∀ j, j < n → L[j]? = some (tb m j)
theorem RepB.set {m : Nat} {L : Array Bool} {n : Nat} (h : RepB m L n) (i : Nat) : RepB (setB m i) (L.setIfInBounds i true) n := by
  refine ⟨by simp [h.size], fun j hj => ?_⟩
  rw [k7z]
  by_cases hij : i = j
  · subst hij
    have : i < L.size := by rw [h.size]; exact hj
    simp [this]
  · rw [Array.getElem?_setIfInBounds_ne hij, h.get j hj]
    have : Nat.beq i j = false := by
      cases hb : Nat.beq i j with
      | false => rfl
      | true => exact absurd (q0n hb) hij
    rw [this, Bool.or_false]
def z0j (ops : Array Oper) (m i : Nat) : Bool := !(tb m i) && (match ops[i]? with | some o => o.after.toList.all fun e => !(Region.binds .any e) || (Nat.ble (e.on + 1) ops.size && tb m e.on) | none => false)
theorem z3t {m : Nat} {L : Array Bool} (h : RepB m L ops.size) {i : Nat} : z0j ops m i = z1h ops L i := by
  unfold z0j z1h
  cases ho : ops[i]? with
  | none => simp
  | some o =>
    have hlt : i < ops.size := (Array.getElem?_eq_some_iff.1 ho).1
    have h1 : L.getD i true = tb m i := by rw [Array.getD_eq_getD_getElem?, h.get i hlt]; rfl
    rw [h1]
    simp only []
    rw [← Array.all_toList]
    congr 2
    funext e
    congr 1
    rw [Array.getD_eq_getD_getElem?]
    by_cases he : e.on < ops.size
    · rw [h.get _ he, Nat.ble_eq_true_of_le (by omega : e.on + 1 ≤ ops.size)]; rfl
    · rw [Array.getElem?_eq_none (by rw [h.size]; omega)]
      have : Nat.ble (e.on + 1) ops.size = false := by
        cases hb : Nat.ble (e.on + 1) ops.size with
        | false => rfl
        | true => exact absurd (Nat.le_of_ble_eq_true hb) (by omega)
      rw [this]; rfl
def z9x (ops : Array Oper) (l : List E) (m i : Nat) : Bool :=
  match l[i]? with
  | some x => (List.range ops.size).all fun j => Nat.beq j i || tb m j || z7k ops j i || (match l[j]? with | some y => z5x x y | none => false)
  | none => false
theorem v9i {m : Nat} {L : Array Bool} (h : RepB m L ops.size) {i : Nat} (hi : z9x ops l m i = true) : z1n ops l L i = true := by
  unfold z9x at hi
  unfold z1n
  cases hl : l[i]? with
  | none => rw [hl] at hi; cases hi
  | some x =>
    rw [hl] at hi
    simp only [List.all_eq_true, List.mem_range] at hi ⊢
    intro j hj
    have h1 : L.getD j true = tb m j := by rw [Array.getD_eq_getD_getElem?, h.get j hj]; rfl
    rw [h1]; exact hi j hj
def v4j (ops : Array Oper) (m : Nat) : Bool := (List.range ops.size).all fun i => !(z0j ops m i)
def v7d (ops : Array Oper) (m : Nat) (seen : List Nat) : Bool := (List.range ops.size).all fun i => !(z0j ops m i) || seen.contains i
def q6h (ops : Array Oper) (l : List E) : RT → Nat → Option (List Nat) → Bool
  | .nil, m, none => v4j ops m
  | .pure i t, m, none => z0j ops m i && (match l[i]? with | some x => x.o.isPure | none => false) && z9x ops l m i && q6h ops l t (setB m i) none
  | .alt i t more, m, s => z0j ops m i && q6h ops l t (setB m i) none && q6h ops l more m (some (i :: s.getD []))
  | .done, m, some seen => v7d ops m seen
  | _, _, _ => false
theorem v0b {L : Array Bool} {i : Nat} (h : i ∈ Region.ready .any ops L) : i < ops.size := by
  obtain ⟨_, o, ho, _⟩ := mem_ready.1 h
  exact (Array.getElem?_eq_some_iff.1 ho).1
theorem j1w : ∀ (t : RT) (m : Nat) (L : Array Bool) (s : Option (List Nat)), RepB m L ops.size → q6h ops l t m s = true → q3f ops l t L s = true := by
  intro t
  induction t with
  | nil =>
    intro m L s hr h
    cases s with
    | some s => simp [q6h] at h
    | none =>
      simp only [q6h, v4j, List.all_eq_true, List.mem_range, Bool.not_eq_true'] at h
      simp only [q3f, List.isEmpty_iff]
      cases hrr : Region.ready .any ops L with
      | nil => rfl
      | cons j js =>
        have hj : j ∈ Region.ready .any ops L := by rw [hrr]; simp
        have := h j (v0b hj)
        rw [z3t hr, q9m.2 hj] at this; cases this
  | done =>
    intro m L s hr h
    cases s with
    | none => simp [q6h] at h
    | some s =>
      simp only [q6h, v7d, List.all_eq_true, List.mem_range, Bool.or_eq_true, Bool.not_eq_true'] at h
      simp only [q3f, List.all_eq_true]
      intro j hj
      rcases h j (v0b hj) with h1 | h1
      · rw [z3t hr, q9m.2 hj] at h1; cases h1
      · exact h1
  | pure i t ih =>
    intro m L s hr h
    cases s with
    | some s => simp [q6h] at h
    | none =>
      simp only [q6h, Bool.and_eq_true] at h
      simp only [q3f, Bool.and_eq_true]
      exact ⟨⟨⟨by rw [← z3t hr]; exact h.1.1.1, h.1.1.2⟩, v9i hr h.1.2⟩, ih _ _ none (hr.set i) h.2⟩
  | alt i t more iht ihm =>
    intro m L s hr h
    simp only [q6h, Bool.and_eq_true] at h
    simp only [q3f, Bool.and_eq_true]
    exact ⟨⟨by rw [← z3t hr]; exact h.1.1, iht _ _ none (hr.set i) h.1.2⟩, ihm _ _ _ hr h.2⟩
theorem j1z (n : Nat) : RepB 0 (Array.replicate n false) n := ⟨by simp, fun j hj => by
  have : tb 0 j = false := by rw [z6n]; simp
  rw [this]; simp [hj]⟩
end Go.Vx
namespace Go.Vx
open Go
variable {P : Program} {D0 : q3k} {ro : Option Nat} {m0 : Mem} {w0 : World} {N : Nat}

def IR.within (mods : List (Nat × Nat)) : IR → Bool
  | .skip | .ret | .exit _ => true
  | .ops g => g.within mods
  | .tree l _ => l.all fun x => dIn mods x.d
  | .seq a b => a.within mods && b.within mods
  | .seqj ms a b => subM ms mods && a.within ms && b.within mods
  | .cond _ a b => a.within mods && b.within mods
  | .block _ a => a.within mods
  | .loop ms a => subM ms mods && a.within ms
  | .rf _ _ _ _ => true
def IR.okW : IR → Bool
  | .skip | .ret | .exit _ | .ops _ | .tree _ _ => true
  | .seq a b => a.okW && b.okW
  | .seqj ms a b => a.within ms && a.okW && b.okW
  | .cond _ a b => a.okW && b.okW
  | .block _ a => a.okW
  | .loop ms a => a.within ms && a.okW
  | .rf _ _ a b => a.okW && b.okW
theorem z3h {l : List E} {X : List PanicEntry → Mem → Prop} : ∀ {t : RT} {e : Env} {m : Mem} {K K' : Env → Mem → Prop}, (∀ e m, K e m → K' e m) → q1n P l K X t e m → q1n P l K' X t e m := by
  intro t
  induction t with
  | nil => intro e m K K' h ht; exact h _ _ ht
  | done => intro e m K K' h ht; exact trivial
  | pure i t ih =>
    intro e m K K' h ht
    simp only [q1n] at ht ⊢
    split at ht <;> first | exact ht.elim | skip
    exact q7z (fun u m' hk => ih h hk) ht
  | alt i t more iht ihm =>
    intro e m K K' h ht
    simp only [q1n] at ht ⊢
    refine ⟨?_, ihm h ht.2⟩
    have h1 := ht.1
    split at h1 <;> first | exact h1.elim | skip
    exact q7z (fun u m' hk => iht h hk) h1
theorem w0c {mods : List (Nat × Nat)} {l : List E} {X : List PanicEntry → Mem → Prop} (hl : (l.all fun x => dIn mods x.d) = true) : ∀ {t : RT} {e : Env} {m : Mem} {K : Env → Mem → Prop}, q1n P l K X t e m → q1n P l (fun e' m' => K e' m' ∧ Mod mods e e') X t e m := by
  rw [List.all_eq_true] at hl
  intro t
  induction t with
  | nil => intro e m K ht; exact ⟨ht, Mod.refl _ _⟩
  | done => intro e m K ht; exact trivial
  | pure i t ih =>
    intro e m K ht
    simp only [q1n] at ht ⊢
    split at ht <;> first | exact ht.elim | skip
    rename_i x hx
    exact q7z (fun u m' hk => z3h (fun e' m'' hh => ⟨hh.1, (Mod.put (hl x (List.mem_of_getElem? hx)) e u).trans hh.2⟩) (ih hk)) ht
  | alt i t more iht ihm =>
    intro e m K ht
    simp only [q1n] at ht ⊢
    refine ⟨?_, ihm ht.2⟩
    have h1 := ht.1
    split at h1 <;> first | exact h1.elim | skip
    rename_i x hx
    exact q7z (fun u m' hk => z3h (fun e' m'' hh => ⟨hh.1, (Mod.put (hl x (List.mem_of_getElem? hx)) e u).trans hh.2⟩) (iht hk)) h1
theorem v7i {x : IOp} {e : Env} {m : Mem} {F : AV → Mem → Prop} {X X' : List PanicEntry → Mem → Prop} (h : ∀ c m', X c m' → X' c m') (hv : vop P x e m F X) : vop P x e m F X' := by
  cases x <;> first | exact hv | skip
  all_goals simp only [vop] at hv ⊢
  all_goals
    split at hv <;> first | exact hv.elim | skip
    all_goals first
      | exact h _ _ hv
      | (unfold q7j at hv ⊢; obtain ⟨R, h1, h2⟩ := hv; exact ⟨R, h1, fun e m' hr => by have := h2 e m' hr; cases e <;> first | exact this | exact h _ _ this⟩)
      | (unfold q0a at hv ⊢; obtain ⟨R, h1, h2⟩ := hv; exact ⟨R, h1, fun e m' hr => by have := h2 e m' hr; cases e <;> first | exact this | exact h _ _ this⟩)
      | (unfold q1r at hv ⊢; obtain ⟨R, h1, h2⟩ := hv; exact ⟨R, h1, fun e m' hr => by have := h2 e m' hr; cases e <;> first | exact this | exact h _ _ this⟩)
theorem z8s {x : E} {e : Env} {m : Mem} {K : Env → Mem → Prop} {X X' : List PanicEntry → Mem → Prop} (h : ∀ c m', X c m' → X' c m') (hs : q1w P x e m K X) : q1w P x e m K X' := by
  unfold q1w at *
  split at hs
  · exact v7i h hs
  · split at hs <;> first | exact hs.elim | skip
    · split at hs <;> first | exact v7i h hs | exact hs
    · exact hs
theorem k9j {X X' : List PanicEntry → Mem → Prop} (h : ∀ c m', X c m' → X' c m') : ∀ {l : List E} {e : Env} {m : Mem} {K : Env → Mem → Prop}, runI P X l K e m → runI P X' l K e m := by
  intro l
  induction l with
  | nil => intro e m K hr; exact hr
  | cons x l ih => intro e m K hr; exact z8s h (q7z (fun u m' hk => ih hk) hr)
theorem v6j {X X' : List PanicEntry → Mem → Prop} (h : ∀ c m', X c m' → X' c m') : ∀ {g : RG} {e : Env} {m : Mem} {K : Env → Mem → Prop}, opsI P X g K e m → opsI P X' g K e m := by
  intro g
  induction g with
  | nil => intro e m K hr; exact hr
  | run l r ih => intro e m K hr; exact k9j h (z3e (fun e m hk => ih hk) hr)
  | sc s want ms body d y r ihb ih =>
    intro e m K hr
    simp only [opsI] at hr ⊢
    split at hr <;> first | exact hr.elim | skip
    unfold WSc at hr ⊢
    obtain ⟨v, h1, h2⟩ := hr
    exact ⟨v, fun hc => ihb (h1 hc), ih h2⟩
theorem v2q {l : List E} {X X' : List PanicEntry → Mem → Prop} (h : ∀ c m', X c m' → X' c m') : ∀ {t : RT} {e : Env} {m : Mem} {K : Env → Mem → Prop}, q1n P l K X t e m → q1n P l K X' t e m := by
  intro t
  induction t with
  | nil => intro e m K ht; exact ht
  | done => intro e m K ht; exact trivial
  | pure i t ih =>
    intro e m K ht
    simp only [q1n] at ht ⊢
    split at ht <;> first | exact ht.elim | skip
    exact z8s h (q7z (fun u m' hk => ih hk) ht)
  | alt i t more iht ihm =>
    intro e m K ht
    simp only [q1n] at ht ⊢
    refine ⟨?_, ihm ht.2⟩
    have h1 := ht.1
    split at h1 <;> first | exact h1.elim | skip
    exact z8s h (q7z (fun u m' hk => iht hk) h1)
theorem z6d {J J' : Env → Mem → Prop} {Q Q' : Post} (hJ : ∀ e m, J e m → J' e m) (hQ : ∀ x e m, Q x e m → Q' x e m) : ∀ x e m, q4i J Q x e m → q4i J' Q' x e m := by
  intro x e m h; cases x <;> first | exact hJ _ _ h | exact hQ _ _ _ h
theorem j3f {id : Nat} {Q Q' : Post} (hQ : ∀ x e m, Q x e m → Q' x e m) : ∀ x e m, q6x id Q x e m → q6x id Q' x e m := by
  intro x e m h
  cases x with
  | exit j =>
    simp only [q6x] at h ⊢
    cases hb : Nat.beq j id with
    | true => rw [hb] at h; exact hQ _ _ _ h
    | false => rw [hb] at h; exact hQ _ _ _ h
  | normal => exact hQ _ _ _ h
  | goto l => exact hQ _ _ _ h
  | ret => exact hQ _ _ _ h
  | panic ch => exact hQ _ _ _ h
  | outgrown => exact hQ _ _ _ h
theorem z0b : ∀ {c : IR} {e : Env} {m : Mem} {Q Q' : Post}, (∀ x e m, Q x e m → Q' x e m) → wpI P c Q e m → wpI P c Q' e m := by
  intro c
  induction c with
  | skip => intro e m Q Q' h hw; exact h _ _ _ hw
  | ret => intro e m Q Q' h hw; exact h _ _ _ hw
  | exit id => intro e m Q Q' h hw; exact h _ _ _ hw
  | ops g => intro e m Q Q' h hw; exact v6j (fun c m' => h _ _ _) (z3f (h _) hw)
  | tree l t => intro e m Q Q' h hw; exact v2q (fun c m' => h _ _ _) (z3h (h _) hw)
  | seq a b iha ihb => intro e m Q Q' h hw; exact iha (z6d (fun e m hk => ihb h hk) h) hw
  | seqj ms a b iha ihb =>
    intro e m Q Q' h hw
    simp only [wpI] at hw ⊢
    unfold z1e at hw ⊢
    obtain ⟨σ, vals, inv, h1, h2⟩ := hw
    exact ⟨σ, vals, inv, iha (z6d (fun e m hk => hk) h) h1, fun s m' hi => ihb h (h2 s m' hi)⟩
  | cond c a b iha ihb =>
    intro e m Q Q' h hw
    simp only [wpI] at hw ⊢
    split at hw
    · split at hw <;> first | exact hw.elim | exact Br.mono (iha h) (ihb h) hw
    · exact iha h hw
    · exact ihb h hw
    · exact hw.elim
  | block id a ih => intro e m Q Q' h hw; exact ih (j3f h) hw
  | loop ms a ih =>
    intro e m Q Q' h hw
    simp only [wpI] at hw ⊢
    unfold q0v at hw ⊢
    obtain ⟨σ, vals, inv, μ, s0, h1, h2, h3⟩ := hw
    exact ⟨σ, vals, inv, μ, s0, h1, h2, fun s m' hi => ih (z6d (fun e m hk => hk) h) (h3 s m' hi)⟩
  | rf g ps a b _ _ =>
    intro e m Q Q' h hw
    simp only [wpI] at hw ⊢
    unfold WRf at hw ⊢
    obtain ⟨f, first, caps, h1, h2⟩ := hw
    refine ⟨f, first, caps, h1, fun b r hb hs hp hy => ?_⟩
    obtain ⟨R, h3, h4⟩ := h2 b r hb hs hp hy
    exact ⟨R, h3, fun e' m' hr => by have := h4 e' m' hr; cases e' <;> first | exact ⟨this.1, h _ _ _ this.2⟩ | exact h _ _ _ this | exact this⟩
theorem Mod.over (e : Env) (ms : List (Nat × Nat)) (l : List (Nat × AV)) : Mod ms e (over e ms l) := fun t v hv => by
  have h1 := (q4j.1 hv).1
  unfold q5d at hv
  unfold Go.Vx.over
  rw [h1] at hv ⊢
  exact hv
def ModQ (mods : List (Nat × Nat)) (e : Env) (Q : Post) : Post := fun x e' m' => Q x e' m' ∧ ((∃ ch, x = .panic ch) ∨ Mod mods e e')
theorem v7l : ∀ {c : IR} {mods : List (Nat × Nat)} {e : Env} {m : Mem} {Q : Post}, c.within mods = true → wpI P c Q e m → wpI P c (ModQ mods e Q) e m := by
  intro c
  induction c with
  | skip => intro mods e m Q _ hw; exact ⟨hw, .inr (Mod.refl _ _)⟩
  | ret => intro mods e m Q _ hw; exact ⟨hw, .inr (Mod.refl _ _)⟩
  | exit id => intro mods e m Q _ hw; exact ⟨hw, .inr (Mod.refl _ _)⟩
  | ops g => intro mods e m Q hwi hw; exact v6j (fun c m' hh => ⟨hh, .inl ⟨_, rfl⟩⟩) (z3f (fun e' m' hh => ⟨hh.1, .inr hh.2⟩) (v5a hwi hw))
  | tree l t => intro mods e m Q hwi hw; exact v2q (fun c m' hh => ⟨hh, .inl ⟨_, rfl⟩⟩) (z3h (fun e' m' hh => ⟨hh.1, .inr hh.2⟩) (w0c hwi hw))
  | seq a b iha ihb =>
    intro mods e m Q hwi hw
    simp only [IR.within, Bool.and_eq_true] at hwi
    show wpI P a _ e m
    refine z0b (fun x e' m' hh => ?_) (iha hwi.1 hw)
    obtain ⟨h1, h2⟩ := hh
    cases x with
    | normal =>
      rcases h2 with ⟨_, h2⟩ | h2
      · cases h2
      · refine z0b (fun x e'' m'' hk => ⟨hk.1, hk.2.imp id fun hm => h2.trans hm⟩) (ihb hwi.2 h1)
    | exit j => exact ⟨h1, h2⟩
    | goto l => exact ⟨h1, h2⟩
    | ret => exact ⟨h1, h2⟩
    | panic ch => exact ⟨h1, h2⟩
    | outgrown => exact ⟨h1, h2⟩
  | seqj ms a b iha ihb =>
    intro mods e m Q hwi hw
    simp only [IR.within, Bool.and_eq_true] at hwi
    simp only [wpI] at hw ⊢
    unfold z1e at hw ⊢
    obtain ⟨σ, vals, inv, h1, h2⟩ := hw
    refine ⟨σ, vals, inv, ?_, fun s m' hi => ?_⟩
    · refine z0b (fun x e' m' hh => ?_) (iha hwi.1.2 h1)
      obtain ⟨g1, g2⟩ := hh
      cases x with
      | normal => exact g1
      | exit j => exact ⟨g1, g2.imp id fun hm => hm.sub hwi.1.1⟩
      | goto l => exact ⟨g1, g2.imp id fun hm => hm.sub hwi.1.1⟩
      | ret => exact ⟨g1, g2.imp id fun hm => hm.sub hwi.1.1⟩
      | panic ch => exact ⟨g1, g2.imp id fun hm => hm.sub hwi.1.1⟩
      | outgrown => exact ⟨g1, g2.imp id fun hm => hm.sub hwi.1.1⟩
    · exact z0b (fun x e'' m'' hk => ⟨hk.1, hk.2.imp id fun hm => ((Mod.over e ms (vals s)).sub hwi.1.1).trans hm⟩) (ihb hwi.2 (h2 s m' hi))
  | cond c a b iha ihb =>
    intro mods e m Q hwi hw
    simp only [IR.within, Bool.and_eq_true] at hwi
    simp only [wpI] at hw ⊢
    split at hw
    · rename_i n
      split at hw <;> first | exact hw.elim | skip
      rename_i c hc
      have same : ∀ b : Bool, c = b → e.upd n (.val (.bool b)) = e := fun b hb => by
        subst hb
        funext s
        by_cases hs : s = n
        · subst hs; rw [q1c]; exact hc.symm
        · rw [q0u _ _ hs]
      unfold Br at hw ⊢
      cases c with
      | true => rw [same true rfl] at hw ⊢; exact iha hwi.1 hw
      | false => rw [same false rfl] at hw ⊢; exact ihb hwi.2 hw
    · exact iha hwi.1 hw
    · exact ihb hwi.2 hw
    · exact hw.elim
  | block id a ih =>
    intro mods e m Q hwi hw
    simp only [IR.within] at hwi
    show wpI P a _ e m
    refine z0b (fun x e' m' hh => ?_) (ih hwi hw)
    obtain ⟨h1, h2⟩ := hh
    cases x with
    | exit j =>
      simp only [q6x] at h1 ⊢
      cases hb : Nat.beq j id with
      | true => rw [hb] at h1; exact ⟨h1, h2.imp (fun hh => by obtain ⟨_, hh⟩ := hh; cases hh) (fun hh => hh)⟩
      | false => rw [hb] at h1; exact ⟨h1, h2⟩
    | normal => exact ⟨h1, h2⟩
    | goto l => exact ⟨h1, h2⟩
    | ret => exact ⟨h1, h2⟩
    | panic ch => exact ⟨h1, h2⟩
    | outgrown => exact ⟨h1, h2⟩
  | loop ms a ih =>
    intro mods e m Q hwi hw
    simp only [IR.within, Bool.and_eq_true] at hwi
    simp only [wpI] at hw ⊢
    unfold q0v at hw ⊢
    obtain ⟨σ, vals, inv, μ, s0, h1, h2, h3⟩ := hw
    refine ⟨σ, vals, inv, μ, s0, h1, h2, fun s m' hi => ?_⟩
    refine z0b (fun x e' m' hh => ?_) (ih hwi.2 (h3 s m' hi))
    obtain ⟨g1, g2⟩ := hh
    have up : Mod ms (Go.Vx.over e ms (vals s)) e' → Mod mods e e' := fun hm => ((Mod.over e ms (vals s)).trans hm).sub hwi.1
    cases x with
    | normal => exact g1
    | exit j => exact ⟨g1, g2.imp id up⟩
    | goto l => exact ⟨g1, g2.imp id up⟩
    | ret => exact ⟨g1, g2.imp id up⟩
    | panic ch => exact ⟨g1, g2.imp id up⟩
    | outgrown => exact ⟨g1, g2.imp id up⟩
  | rf g ps a b _ _ =>
    intro mods e m Q hwi hw
    simp only [wpI] at hw ⊢
    unfold WRf at hw ⊢
    obtain ⟨f, first, caps, h1, h2⟩ := hw
    refine ⟨f, first, caps, h1, fun b r hb hs hp hy => ?_⟩
    obtain ⟨R, h3, h4⟩ := h2 b r hb hs hp hy
    exact ⟨R, h3, fun e' m' hr => by have := h4 e' m' hr; cases e' <;> first | exact ⟨this.1, this.2, .inr (Mod.refl _ _)⟩ | exact ⟨this, .inl ⟨_, rfl⟩⟩ | exact this⟩
end Go.Vx
