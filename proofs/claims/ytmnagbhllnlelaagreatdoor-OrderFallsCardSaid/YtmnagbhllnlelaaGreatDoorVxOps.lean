/- VX, part 3: each operation is what the intermediate form says. -/
import Derived.Test.YtmnagbhllnlelaaGreatDoorVxRel
import Derived.Laws.StructEq
import Derived.Laws.Entries
namespace Go.Vx
open Go

/-! Constants and operands. -/
mutual
def veq : Value → Value → Bool
  | .int k n, .int j l => kbeq k j && n == l
  | .bool a, .bool b => a == b
  | .string a, .string b => a.data.toList == b.data.toList
  | .slice none a b, .slice none c d => Nat.beq a c && Nat.beq b d
  | .pointer none, .pointer none => true
  | .pointer (some ⟨a, b, none⟩), .pointer (some ⟨c, d, none⟩) => Nat.beq a c && Nat.beq b d
  | .nilFunc, .nilFunc => true
  | .nilIface, .nilIface => true
  | .map none, .map none => true
  | .agg ⟨a⟩, .agg ⟨b⟩ => veqL a b
  | .tuple ⟨a⟩, .tuple ⟨b⟩ => veqL a b
  | _, _ => false
def veqL : List Value → List Value → Bool
  | [], [] => true
  | x :: xs, y :: ys => veq x y && veqL xs ys
  | _, _ => false
end
theorem kbeq_eq {k j : IntKind} (h : kbeq k j = true) : k = j := by cases k <;> cases j <;> first | rfl | (simp [kbeq] at h)
theorem beq_ff {a b : Nat} (h : Nat.beq a b = true) : a = b := Nat.eq_of_beq_eq_true h
theorem string_ext {a b : ByteArray} (h : a.data.toList = b.data.toList) : a = b := by
  cases a; cases b; congr 1; exact Array.ext' h
mutual
theorem veq_eq : ∀ (a b : Value), veq a b = true → a = b := by
  intro a b h
  match a, b, h with
  | .int k n, .int j l, h => simp only [veq, Bool.and_eq_true, beq_iff_eq] at h; rw [kbeq_eq h.1, h.2]
  | .bool a, .bool b, h => simp only [veq, beq_iff_eq] at h; rw [h]
  | .string a, .string b, h => simp only [veq, beq_iff_eq] at h; rw [string_ext h]
  | .slice none a b, .slice none c d, h => simp only [veq, Bool.and_eq_true] at h; rw [beq_ff h.1, beq_ff h.2]
  | .pointer none, .pointer none, _ => rfl
  | .pointer (some ⟨a, b, none⟩), .pointer (some ⟨c, d, none⟩), h => simp only [veq, Bool.and_eq_true] at h; rw [beq_ff h.1, beq_ff h.2]
  | .nilFunc, .nilFunc, _ => rfl
  | .nilIface, .nilIface, _ => rfl
  | .map none, .map none, _ => rfl
  | .agg ⟨a⟩, .agg ⟨b⟩, h => simp only [veq] at h; rw [veqL_eq a b h]
  | .tuple ⟨a⟩, .tuple ⟨b⟩, h => simp only [veq] at h; rw [veqL_eq a b h]
theorem veqL_eq : ∀ (a b : List Value), veqL a b = true → a = b := by
  intro a b h
  match a, b, h with
  | [], [], _ => rfl
  | x :: xs, y :: ys, h => simp only [veqL, Bool.and_eq_true] at h; rw [veq_eq x y h.1, veqL_eq xs ys h.2]
end
def okX (x : Opd) (y : Operand) : Bool :=
  match x, y with
  | .t n, .tmp k => Nat.beq n k
  | .c v, .const u => veq v u
  | .c (.pointer (some ⟨b, 0, none⟩)), .global g => Nat.beq b g
  | .c (.func (.func f) ⟨[]⟩ ⟨[]⟩), .func g => Nat.beq f g
  | _, _ => false
def okXs : List Opd → List Operand → Bool
  | [], [] => true
  | x :: xs, y :: ys => okX x y && okXs xs ys
  | _, _ => false

variable {P : Program} {D0 : DBase} {ro : Option Nat} {m0 : Mem} {w0 : World} {N : Nat} {e : Env} {m : Mem} {a : Act} {w : World}
theorem okX_eval (h : Rel D0 m0 w0 N e m a w) {x : Opd} {y : Operand} {v : Value} (hx : okX x y = true) (hv : x.at e = some v) : a.eval y = v := by
  unfold okX at hx
  split at hx
  · rename_i n k
    have := beq_ff hx; subst this
    simp only [Opd.at] at hv
    cases hn : e n with
    | none => rw [hn] at hv; cases hv
    | some u =>
      rw [hn] at hv
      cases u <;> first | (cases hv; done) | skip
      rename_i x
      simp only [Option.some.injEq] at hv; subst hv
      exact h.val n x hn
  · rename_i v' u
    simp only [Opd.at, Option.some.injEq] at hv; subst hv
    exact (veq_eq _ _ hx).symm
  · rename_i b g
    simp only [Opd.at, Option.some.injEq] at hv; subst hv
    rw [beq_ff hx]; rfl
  · rename_i f g
    simp only [Opd.at, Option.some.injEq] at hv; subst hv
    rw [beq_ff hx]; rfl
  · cases hx
theorem okXs_eval (h : Rel D0 m0 w0 N e m a w) : ∀ {xs : List Opd} {ys : List Operand} {vs : List Value}, okXs xs ys = true → Opd.ats e xs = some vs → ys.map a.eval = vs := by
  intro xs
  induction xs with
  | nil => intro ys vs hx hv; cases ys <;> simp_all [okXs, Opd.ats]
  | cons x xs ih =>
    intro ys vs hx hv
    cases ys with
    | nil => simp [okXs] at hx
    | cons y ys =>
      simp only [okXs, Bool.and_eq_true] at hx
      simp only [Opd.ats] at hv
      cases hx1 : x.at e with
      | none => rw [hx1] at hv; cases hv
      | some v =>
        rw [hx1] at hv
        cases hx2 : Opd.ats e xs with
        | none => rw [hx2] at hv; cases hv
        | some us =>
          rw [hx2] at hv; simp only [Option.some.injEq] at hv; subst hv
          rw [List.map_cons, okX_eval h hx.1 hx1, ih hx.2 hx2]

/-! What the run of an operation gives. -/
variable {next : Act → World → Prop} {Q : Exit → Act → World → Prop}
theorem nd_of {o : Oper} {x : Next} {w' : World} {ρ : Operand → Value} (h : (execOp ρ o).run P w = .ok x w') (hx : ∀ d, x ≠ .defer d) : ∀ c, o.op ≠ .defer c := fun c hc => by
  simp only [execOp, hc, Sem.run_bind] at h
  cases hr : (resolve ρ c o.type).run P w with
  | ok d w1 => rw [hr] at h; simp only [Result.andThen_ok, Sem.run_pure, Result.ok.injEq] at h; exact hx d h.1.symm
  | halt y w1 => rw [hr] at h; cases h
theorem wpIn_of {o : Oper} (hnd : ∀ c, o.op ≠ .defer c) (k : o.uponIn (FR ro) 0 P a next Q ((execOp a.eval o).run P w)) : o.wpIn (FR ro) 0 P a w next Q :=
  ⟨fun f _ => FR_fn ro f, by rw [Oper.semAt_eq _ _ _ hnd]; exact k⟩
theorem wp_value {o : Oper} {v : Value} {w' : World} (h : (execOp a.eval o).run P w = .ok (.value v) w') (k : next (a.put o.dst v) w') : o.wpIn (FR ro) 0 P a w next Q :=
  wpIn_of (nd_of h fun _ hh => by cases hh) (by rw [h]; exact k)
theorem wp_skip' {o : Oper} {w' : World} (h : (execOp a.eval o).run P w = .ok .skip w') (k : next (a.put o.dst undef) w') : o.wpIn (FR ro) 0 P a w next Q :=
  wpIn_of (nd_of h fun _ hh => by cases hh) (by rw [h]; exact k)
theorem wp_enter {o : Oper} {f : FuncId} {args : Array Value} {w' : World} (h : (execOp a.eval o).run P w = .ok (.enter f args) w')
    (k : Calls P f args w' fun | .returned v, w'' => next (a.put o.dst v) w'' | .panicked chain, w'' => Q (.panic chain) a w'' | .outgrown, _ => LetsOut Q) : o.wpIn (FR ro) 0 P a w next Q :=
  wpIn_of (nd_of h fun _ hh => by cases hh) (by rw [h]; exact ⟨FR_n ro, FR_calls k⟩)
theorem wp_round {o : Oper} {l : Nat} {f : FuncId} {tmps : Array Value} {assign body : Code} {w' : World} (h : (execOp a.eval o).run P w = .ok (.round l f tmps assign body) w')
    (k : RoundIn Fence.wide 0 P l f tmps assign body w' fun | .returned v, w'' => next (a.put o.dst v) w'' | .panicked chain, w'' => Q (.panic chain) a w'' | .outgrown, _ => LetsOut Q) : o.wpIn (FR ro) 0 P a w next Q :=
  wpIn_of (nd_of h fun _ hh => by cases hh) (by rw [h]; exact ⟨FR_n ro, FR_round_in k⟩)
theorem wp_panic {o : Oper} {v : Value} {w' : World} (hnd : ∀ c, o.op ≠ .defer c) (h : (execOp a.eval o).run P w = .halt (.panic v) w') (k : Q (.panic [{ v, recovered := false }]) a w') : o.wpIn (FR ro) 0 P a w next Q :=
  wpIn_of hnd (by rw [h]; exact k)

theorem run_underlying' {t : TypeId} {d : TypeDesc} (h : P.underlying t = some d) (w : World) : (underlying t).run P w = .ok d w := run_underlying h w
theorem run_info {t : TypeId} {i : TypeInfo} (h : P.info? t = some i) (w : World) : (typeInfo t).run P w = .ok i w := by simp [typeInfo, h]
theorem run_sizeOf' {t : TypeId} {i : TypeInfo} (h : P.info? t = some i) (w : World) : (sizeOf t).run P w = .ok i.size w := by simp [sizeOf, run_info h]
theorem run_zero {t : TypeId} {i : TypeInfo} {z : Value} (h : P.info? t = some i) (hz : i.zero = some z) (w : World) : (zeroValue t).run P w = .ok z w := by simp [zeroValue, run_info h, hz]

def kindAgg : TypeDesc → Bool | .struct _ => true | .array _ _ => true | _ => false
theorem run_isAgg {t : TypeId} {d : TypeDesc} (h : P.underlying t = some d) (w : World) : (isAgg t).run P w = .ok (kindAgg d) w := by
  unfold isAgg; rw [Sem.run_bind, run_underlying h, Result.andThen_ok]; cases d <;> rfl

/-- What the checker asks of a type: its underlying type's kind is that of structs and arrays or not, and its size. -/
def okAgg (P : Program) (t : TypeId) (agg : Bool) (n : Nat) : Bool :=
  match P.underlying t, P.info? t with
  | some d, some i => (kindAgg d == agg) && Nat.beq i.size n
  | _, _ => false
theorem okAgg_spec {t : TypeId} {agg : Bool} {n : Nat} (h : okAgg P t agg n = true) : ∃ d i, P.underlying t = some d ∧ P.info? t = some i ∧ kindAgg d = agg ∧ i.size = n := by
  unfold okAgg at h
  cases hd : P.underlying t with
  | none => simp [hd] at h
  | some d =>
    cases hi : P.info? t with
    | none => simp [hd, hi] at h
    | some i =>
      simp only [hd, hi, Bool.and_eq_true, beq_iff_eq] at h
      exact ⟨d, i, rfl, rfl, h.1, beq_ff h.2⟩
theorem run_load1 {t : TypeId} {n : Nat} (ht : okAgg P t false n = true) {ad : Addr} {v : Value} (hc : w.cell? ad = some v) : (Instr.loadAt t (.pointer (some ad))).run P w = .ok v w := by
  obtain ⟨d, i, hd, hi, hk, hn⟩ := okAgg_spec ht
  simp [Instr.loadAt, Instr.sureAddr, loadVar, run_isAgg hd, hk, hc]
theorem run_loads {t : TypeId} {vs : List Value} (ht : okAgg P t true vs.length = true) {ad : Addr} (hc : ∀ j v, vs[j]? = some v → w.cell? (ad.add j) = some v) : (Instr.loadAt t (.pointer (some ad))).run P w = .ok (.agg ⟨vs⟩) w := by
  obtain ⟨d, i, hd, hi, hk, hn⟩ := okAgg_spec ht
  simp [Instr.loadAt, Instr.sureAddr, loadVar, run_isAgg hd, hk, run_sizeOf' hi, hn, run_loadCells_list w ad vs hc]

theorem spliceL_length : ∀ (vs l : List Value) (i : Nat), (spliceL l i vs).length = l.length
  | [], _, _ => rfl
  | v :: vs, l, i => by rw [spliceL, spliceL_length vs]; simp
theorem spliceL_eq : ∀ (vs l : List Value) (i : Nat), i + vs.length ≤ l.length → spliceL l i vs = l.take i ++ vs ++ l.drop (i + vs.length)
  | [], l, i, _ => by simp [spliceL]
  | v :: vs, l, i, h => by
    simp only [List.length_cons] at h
    rw [spliceL, spliceL_eq vs _ _ (by simp; omega)]
    have h1 : (l.set i v).take (i + 1) = l.take i ++ [v] := by
      rw [List.take_succ_eq_append_getElem (by simp; omega), List.take_set_of_le (Nat.le_refl i)]
      simp
    have h2 : (l.set i v).drop (i + 1 + vs.length) = l.drop (i + (v :: vs).length) := by
      rw [List.drop_set_of_lt (by omega)]; congr 1; simp; omega
    rw [h1, h2]; simp
theorem oneL_all : ∀ {vs : List Value}, oneL vs = true → ∀ v ∈ vs, v.oneCell' = true := by
  intro vs
  induction vs with
  | nil => intro _ v hv; cases hv
  | cons x xs ih =>
    intro h v hv
    have h2 : x.oneCell' = true ∧ oneL xs = true := by cases x <;> first | exact ⟨rfl, h⟩ | (simp [oneL] at h)
    rcases List.mem_cons.1 hv with rfl | hv
    · exact h2.1
    · exact ih h2.2 v hv
theorem cellsL_eq (v : Value) : v.cells.toList = cellsL v := by cases v <;> rfl
theorem run_store1 {t : TypeId} {agg : Bool} {v : Value} (ht : okAgg P t agg (cellsL v).length = true) (h1 : oneL (cellsL v) = true) {b off : Nat} {l : List Value} {T : TypeId}
    (hb : w.heap[b]? = some (Cells l T)) (hl : off + (cellsL v).length ≤ l.length) : (Instr.storeAt t (.pointer (some ⟨b, off, none⟩)) v).run P w = .ok () (w.setRow b ⟨spliceL l off (cellsL v)⟩) := by
  obtain ⟨d, i, hd, hi, hk, hn⟩ := okAgg_spec ht
  have hsz : v.cells.size = i.size := by rw [hn, ← cellsL_eq]; simp
  have hrun := run_storeCells_at (P := P) b off T (cellsL v) 0 ⟨l⟩ w hb (by simpa using hl) (oneL_all h1)
  simp only [Nat.add_zero] at hrun
  rw [spliceL_eq _ _ _ hl]
  simp only [Instr.storeAt, Instr.sureAddr, Sem.run_bind, Sem.run_pure, Result.andThen_ok, storeVar, run_sizeOf' hi, hsz, ne_eq, not_true_eq_false, if_false, cellsL_eq, hrun]
end Go.Vx
