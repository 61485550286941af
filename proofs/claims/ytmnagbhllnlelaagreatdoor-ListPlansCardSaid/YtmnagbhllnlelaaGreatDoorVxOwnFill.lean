/- Contracts of list: whether a place is ready. -/
import Derived.Test.YtmnagbhllnlelaaGreatDoorVxRefList
import Derived.Test.YtmnagbhllnlelaaGreatDoorVxUp
import Derived.Test.YtmnagbhllnlelaaGreatDoorVxRefSch
set_option linter.unusedSimpArgs false
set_option linter.unusedVariables false
set_option maxRecDepth 100000
namespace Go.Proofs.YtmnagbhllnlelaaGreatDoor
open Go Go.Vx
open Go.Vx.IOp Go.Vx.IR Go.Vx.Opd
/-- A plan under way: the machine, the operations, the edges into each place, the heights, the cycles (132: its type). -/
def PlanAt (m : Mem) (p : Nat) (M : Mac) (vo vi vh vc : Value) : Prop := m p = some (Cells (M.cells ++ [vo, vi, vh, vc]) 132)
theorem PlanAt.cell {m : Mem} {p : Nat} {M : Mac} {vo vi vh vc : Value} (h : PlanAt m p M vo vi vh vc) {z : Nat} {v : Value} (hz : (M.cells ++ [vo, vi, vh, vc])[z]? = some v) : CellAt m ((⟨p, 0, none⟩ : Addr).add z) v := by
 rw [add0]; exact ⟨_, _, _, h, rfl, by simpa using hz⟩
theorem ready1_ok {m : Mem} {p b1 b2 : Nat} {M : Mac} {vo vi vh : Value} {ad2 : Addr} {cyc : List Int} {cc : Nat} (hp : PlanAt m p M vo vi vh (.slice (some ad2) cyc.length cc)) (hcy : CellsAt m ad2 (cyc.map i)) (hb1 : CellAt m ⟨b1, 0, none⟩ (.pointer (some ⟨p, 0, none⟩))) {c : Int} (hb2 : CellAt m ⟨b2, 0, none⟩ (i c))
  (hc : ∀ x ∈ cyc, -1 ≤ x ∧ x ≤ 1099511627776) (e : Edg) (he : Fwd cyc.length e) :
  PureM Tryz.prog 201 ([] ++ [e.val] ++ [.pointer (some ⟨b1, 0, none⟩), .pointer (some ⟨b2, 0, none⟩)]) m (.bool (waitE cyc c e)) := by
 have f0 := he.f0
 have fn := he.fn
 have hlt : e.f.toNat < cyc.length := by omega
 have hg : cyc.getD e.f.toNat 0 = cyc[e.f.toNat] := by rw [List.getD_eq_getElem?_getD, List.getElem?_eq_getElem hlt]; rfl
 have hcr := hc _ (List.getElem_mem hlt)
 rw [← hg] at hcr
 have hcell : CellAt m (ad2.add (e.f.toNat * 1)) (i (cyc.getD e.f.toNat 0)) := by rw [hg, Nat.mul_one]; exact IAt.cell hcy hlt
 have d0 := he.d0
 have d8 := he.d8
 have h14 := hp.cell (z := 14) (v := .slice (some ad2) cyc.length cc) rfl
 refine calls_of mixed Tryz.func201 ok_list_plan_ready_1 rfl ?_
 conv => whnf
 refine WLd.mk _ hb1 ?_
 conv => whnf
 refine WLd.mk _ h14 ?_
 conv => whnf
 refine WIdx.mk ad2 rfl ⟨by omega, by omega⟩ ?_
 conv => whnf
 refine WLd.mk (i (cyc.getD e.f.toNat 0)) hcell ?_
 conv => whnf
 refine Br.mk (fun hn => ?_) (fun hn => ?_)
 ·conv => whnf
  refine Br.mk (fun _ => ?_) (fun h => by cases h)
  conv => whnf
  refine WRet.same ⟨?_, rfl⟩
  have : waitE cyc c e = true := by unfold waitE; rw [hn]; rfl
  rw [this]; rfl
 ·refine ws_gv rfl rfl rfl ?_
  conv => whnf
  refine WLd.mk _ hb1 ?_
  refine sf_no ?_
  refine ws_g (.val (.pointer (some ⟨p, 0, none⟩))) rfl rfl rfl rfl rfl (fun F h => h) ?_
  refine ws_g (.val (.pointer (some ((⟨p, 0, none⟩ : Addr).add 14)))) rfl rfl rfl rfl rfl (fun F h => h) ?_
  refine ws_gv rfl rfl rfl ?_
  conv => whnf
  refine WLd.mk _ h14 ?_
  refine sf_no ?_
  refine ws_g (.ref 3 0) rfl rfl rfl rfl rfl (fun F h => h) ?_
  refine ws_g (.val (i e.f)) rfl rfl rfl rfl rfl (fun F h => h) ?_
  refine ws_gv rfl rfl rfl ?_
  conv => whnf
  refine WIdx.mk ad2 rfl ⟨by omega, by omega⟩ ?_
  refine sf_no ?_
  refine ws_gv rfl rfl rfl ?_
  conv => whnf
  refine WLd.mk (i (cyc.getD e.f.toNat 0)) hcell ?_
  refine sf_no ?_
  refine ws_g (.ref 3 2) rfl rfl rfl rfl rfl (fun F h => h) ?_
  refine ws_g (.val (i e.d)) rfl rfl rfl rfl rfl (fun F h => h) ?_
  refine ws_gv rfl rfl rfl ?_
  conv => whnf
  refine WRng.mk (by apply wrap_i64 <;> omega) ?_
  refine sf_no ?_
  refine ws_gv rfl rfl rfl ?_
  conv => whnf
  refine WLd.mk _ hb2 ?_
  refine sf_no ?_
  refine ws_g (.val (.bool (decide (cyc.getD e.f.toNat 0 + e.d > c)))) rfl rfl rfl rfl rfl (fun F h => h) ?_
  refine ws_step rfl ?_
  conv => whnf
  refine Br.mk (fun h => by cases h) (fun _ => ?_)
  conv => whnf
  refine WRet.same ⟨?_, rfl⟩
  have : waitE cyc c e = decide (cyc.getD e.f.toNat 0 + e.d > c) := by unfold waitE; rw [hn]; rfl
  rw [this]; rfl
theorem ready_ok {m m0 : Mem} {p bi ci : Nat} {M : Mac} {vo vh : Value} {ad2 : Addr} {cyc : List Int} {cc : Nat} {V : List Value} {into : Nat → List Edg} (hp : PlanAt m p M vo (.slice (some ⟨bi, 0, none⟩) cyc.length ci) vh (.slice (some ad2) cyc.length cc)) (hcy : CellsAt m ad2 (cyc.map i))
  (hbi : m bi = some (Cells V 29)) (hV : NextOK cyc.length m0 m V into) (hc : ∀ x ∈ cyc, -1 ≤ x ∧ x ≤ 1099511627776) (hin : ∀ j, j < cyc.length → (into j).length ≤ 200000 ∧ ∀ e ∈ into j, Fwd cyc.length e) {k : Nat} (hk : k < cyc.length) (c : Int) :
  CallsM Tryz.prog 158 [.pointer (some ⟨p, 0, none⟩), i k, i c] m fun e m' => e = .returned (.bool (decide (cyc.getD k 0 < 0) && !((into k).any (waitE cyc c)))) ∧ Mem.le m m' := by
 have h14 := hp.cell (z := 14) (v := .slice (some ad2) cyc.length cc) rfl
 have h12 := hp.cell (z := 12) (v := .slice (some ⟨bi, 0, none⟩) cyc.length ci) rfl
 have hg : cyc.getD k 0 = cyc[k] := by rw [List.getD_eq_getElem?_getD, List.getElem?_eq_getElem hk]; rfl
 have hcell : CellAt m (ad2.add k) (i (cyc.getD k 0)) := by rw [hg]; exact IAt.cell hcy hk
 refine calls_of mixed Tryz.func158 ok_list_plan_ready rfl ?_
 conv => whnf
 refine WNew.mk fun b1 hb1 => ?_
 conv => whnf
 refine WNew.mk fun b2 hb2 => ?_
 have hle : Mem.le m ((m.set b1 (Cells (cellsL (.pointer (some ⟨p, 0, none⟩))) 129)).set b2 (Cells (cellsL (i c)) 3)) := (Mem.le_set hb1).trans (Mem.le_set hb2)
 have hc1 : CellAt ((m.set b1 (Cells (cellsL (.pointer (some ⟨p, 0, none⟩))) 129)).set b2 (Cells (cellsL (i c)) 3)) ⟨b1, 0, none⟩ (.pointer (some ⟨p, 0, none⟩)) := ⟨_, _, _, Mem.le_set hb2 _ _ (Mem.set_same _ _ _), rfl, rfl⟩
 have hc2 : CellAt ((m.set b1 (Cells (cellsL (.pointer (some ⟨p, 0, none⟩))) 129)).set b2 (Cells (cellsL (i c)) 3)) ⟨b2, 0, none⟩ (i c) := ⟨_, _, _, Mem.set_same _ _ _, rfl, rfl⟩
 generalize (m.set b1 (Cells (cellsL (.pointer (some ⟨p, 0, none⟩))) 129)).set b2 (Cells (cellsL (i c)) 3) = m2 at *
 have hp2 : PlanAt m2 p M vo (.slice (some ⟨bi, 0, none⟩) cyc.length ci) vh (.slice (some ad2) cyc.length cc) := hle _ _ hp
 have hrow := (hV.row k hk).eat.mono hle
 have hVl := hV.len
 have hVc : CellAt m2 ((⟨bi, 0, none⟩ : Addr).add k) (V.getD k ns) := by
  rw [add0]
  have hkV : k < V.length := by omega
  refine ⟨_, _, _, hle _ _ hbi, rfl, ?_⟩
  rw [List.getD_eq_getElem?_getD, List.getElem?_eq_getElem hkV]
  simp [hkV]
 conv => whnf
 refine WLd.mk _ hc1 ?_
 conv => whnf
 refine WLd.mk _ (h14.mono hle) ?_
 conv => whnf
 refine WIdx.mk ad2 rfl ⟨by omega, by omega⟩ ?_
 conv => whnf
 refine WLd.mk (i (cyc.getD k 0)) (by simpa using hcell.mono hle) ?_
 conv => whnf
 refine WSc.mk (v := !((into k).any (waitE cyc c))) (fun _ => ?_) ?_
 ·conv => whnf
  refine WLd.mk _ hc1 ?_
  conv => whnf
  refine WLd.mk _ (h12.mono hle) ?_
  conv => whnf
  refine WIdx.mk ⟨bi, 0, none⟩ rfl ⟨by omega, by omega⟩ ?_
  conv => whnf
  refine WLd.mk (V.getD k ns) (by simpa using hVc) ?_
  conv => whnf
  refine WCall.pure (contains_edge hrow (by have := (hin k hk).1; omega) (waitE cyc c) fun e he => ready1_ok hp2 (hcy.mono hle) hc1 hc2 hc e ((hin k hk).2 e he)) ?_
  exact And.intro (Mem.le.refl _) rfl
 conv => whnf
 refine WRet.same ⟨?_, hle⟩
 have : scB (decide (cyc.getD k 0 < 0)) true (!((into k).any (waitE cyc c))) = (decide (cyc.getD k 0 < 0) && !((into k).any (waitE cyc c))) := by
  cases decide (cyc.getD k 0 < 0) <;> cases (into k).any (waitE cyc c) <;> rfl
 rw [← this]; rfl
end Go.Proofs.YtmnagbhllnlelaaGreatDoor
set_option linter.unusedSimpArgs false
set_option linter.unusedVariables false
set_option maxRecDepth 100000
namespace Go.Proofs.YtmnagbhllnlelaaGreatDoor
open Go Go.Vx
open Go.Vx.IOp Go.Vx.IR Go.Vx.Opd
def toK (j : Nat) (e : Edg) : Bool := (e.t == (j : Int)) && (e.r == 0)
theorem Row1.mono {m m' m'' : Mem} {v : Value} {L : List Edg} (h : Row1 m m' v L) (hle : Mem.le m' m'') : Row1 m m'' v L := by
 rcases h with h | ⟨b, c, h0, h1, h2, h3, h4⟩
 ·exact .inl h
 ·exact .inr ⟨b, c, h0, h1, h2, h3, hle _ _ h4⟩
theorem NextOK.mono {N : Nat} {m m' m'' : Mem} {V : List Value} {L : Nat → List Edg} (h : NextOK N m m' V L) (hle : Mem.le m' m'') : NextOK N m m'' V L := ⟨h.len, fun j hj => (h.row j hj).mono hle, h.apart⟩
theorem own_ready {E : List Edg} {cyc : List Int} {c : Int} {k : Nat} : (decide (cyc.getD k 0 < 0) && !((E.filter (toK k)).any (waitE cyc c))) = rdyB E cyc c k := by
 unfold rdyB readyE
 rw [List.any_filter]
 rfl
theorem badOp_pos {M : Mac} {o : OpR} (h : badOp M o = false) : ∀ r ∈ readsS o, 0 ≤ r := fun r hr => by
 unfold badOp at h
 rw [Bool.or_eq_false_iff] at h
 have h2 := List.any_eq_false.1 h.2 r hr
 unfold badRead inR at h2
 simp only [Bool.not_eq_true', Bool.not_eq_false, Bool.and_eq_true, decide_eq_true_eq] at h2
 omega
theorem useAt_M (M : Mac) (O : List OpR) (cyc : List Int) (c : Int) : (useAt M O cyc c).M = M := by
 unfold useAt; rw [← uses_map]; unfold usesAll; rw [fold_M]; rfl
theorem useAt_small {M : Mac} {O : List OpR} {cyc : List Int} {c : Int} (hl : O.length ≤ 400) : (useAt M O cyc c).small 2000 := by
 unfold useAt
 rw [← uses_map]
 unfold usesAll
 refine small_mono (fold_small _ (newU_small M)) ?_
 rw [List.length_map]
 have := List.length_filter_le (fun x => cyc.getD x 0 == c) (List.range O.length)
 rw [List.length_range] at this
 omega
def boolsV (L : List Bool) : List Value := L.map Value.bool
def trB (tr : List Bool) (j : Nat) : Bool := tr.getD j false
theorem trB_set {tr : List Bool} {b : Nat} (hb : b < tr.length) : trB (tr.set b true) = fun j => trB tr j || j == b := by
 funext j
 unfold trB
 rw [List.getD_eq_getElem?_getD, List.getElem?_set, List.getD_eq_getElem?_getD]
 by_cases e : b = j
 ·subst e; simp [hb]
 ·have e2 : (j == b) = false := by simpa using Ne.symm e
  rw [if_neg e, e2, Bool.or_false]
def untried (tr : List Bool) (n : Nat) : Nat := Walk.cnt (fun j => !trB tr j) n
theorem untried_set {tr : List Bool} {n b : Nat} (hb : b < n) (hl : tr.length = n) (h : trB tr b = false) : untried (tr.set b true) n + 1 = untried tr n := by
 refine cnt_one (k := b) (fun j hj => ?_) (by rw [h]; rfl) ?_ n hb
 ·rw [trB_set (by omega)]
  have : (j == b) = false := by simpa using hj
  show (!(trB tr j || j == b)) = !trB tr j
  rw [this, Bool.or_false]
 ·rw [trB_set (by omega)]; simp
theorem spAll3 (X Y : UseR) : spliceL X.cells 0 (cellsL (Value.agg ⟨Y.cells.take 23⟩)) = Y.cells := spAll2 X Y
theorem splice_one (V : List Value) (q : Nat) (u : Value) : spliceL V q [u] = V.set q u := rfl
attribute [local irreducible] spliceL in
theorem fill_ok {m m1 m0 : Mem} {T : Nat} {fr : Nat × Nat} (hm : m1 0 = some (.cells ⟨cells0⟩ T fr)) {p bi ci bc cc : Nat} {M : Mac} {vo vh : Value} {O : List OpR} {E : List Edg} {cyc H : List Int} {V : List Value} {into : Nat → List Edg}
  (hp : PlanAt m1 p M vo (.slice (some ⟨bi, 0, none⟩) O.length ci) vh (.slice (some ⟨bc, 0, none⟩) O.length cc)) (hle : Mem.le m1 m) (hbc1 : m1 bc = none) (hbc : m bc = some (Cells (cyc.map i) 3)) (hl : cyc.length = O.length)
  (hO : OAt m1 vo O) (hlO : O.length ≤ 400) (hH : IAt m1 vh H) (hHl : H.length = O.length) (hbi : m1 bi = some (Cells V 29)) (hV : NextOK O.length m0 m1 V into) (hinto : ∀ j, j < O.length → into j = E.filter (toK j))
  (hE : ∀ e ∈ E, Fwd O.length e) (hlE : E.length ≤ 200000) (hM : M.ok = true) (hgood : ∀ o ∈ O, badOp M o = false) {c : Nat} (hc : c < 10000) (hcyR : ∀ j, j < O.length → -1 ≤ cyc.getD j 0 ∧ cyc.getD j 0 < c) :
  CallsM Tryz.prog 104 [.pointer (some ⟨p, 0, none⟩), i c] m fun e m' => ∃ cyc', e = .returned (i ((leftN cyc O.length : Int) - leftN cyc' O.length)) ∧ Mem.le m1 m' ∧ m' bc = some (Cells (cyc'.map i) 3) ∧ cyc'.length = O.length ∧ Gr M O E H c cyc cyc' := by
 obtain ⟨hrg, hbk, hpt⟩ := ok_range hM
 have hsl : ∃ a k, vo = .slice a O.length k := by obtain ⟨a, k, e, _⟩ := hO; exact ⟨a, k, e⟩
 obtain ⟨a, ca, rfl⟩ := hsl
 obtain ⟨ah, ch, rfl, hh0, hh1, hhc⟩ := hH
 obtain ⟨ao, co, eo, ho0, ho1, hoc⟩ := hO
 cases eo
 have hpc : ∀ {z : Nat} {v : Value}, (M.cells ++ [Value.slice a O.length ca, .slice (some ⟨bi, 0, none⟩) O.length ci, .slice ah H.length ch, .slice (some ⟨bc, 0, none⟩) O.length cc])[z]? = some v → CellAt m1 ((⟨p, 0, none⟩ : Addr).add z) v := fun h => hp.cell h
 have hpM : CellsAt m1 ⟨p, 0, none⟩ M.cells := CellsAt.blk hp fun q v hq => by rw [Nat.zero_add, List.getElem?_append_left (List.getElem?_eq_some_iff.1 hq).1]; exact hq
 refine calls_of mixed Tryz.func104 ok_list_plan_fill rfl ?_
 conv => whnf
 refine WLds.mk M.cells (by rw [add0]; exact hpM.mono hle) rfl ?_
 conv => whnf
 refine WCall.pure (newUse_ok m M) ?_
 conv => whnf
 refine WLd.mk _ ((hpc (z := 11) rfl).mono hle) ?_
 conv => whnf
 refine WMake.mk ⟨by omega, Int.le_refl _, by omega⟩ fun bt hbt => ?_
 simp only [Int.toNat_natCast]
 have hflat : (List.replicate O.length [Value.bool false]).flatten = boolsV (List.replicate O.length false) := by simp [boolsV]
 rw [hflat]
 have hbt1 : m1 bt = none := by
  cases hh : m1 bt with
  | none => rfl
  | some o => rw [hle bt o hh] at hbt; cases hbt
 have hnct : bc ≠ bt := fun e => by rw [e, hbt] at hbc; cases hbc
 conv => whnf
 rw [spAll (newU M)]
 have hnone : useAt M O cyc c = newU M := useAt_none fun j hj => by have := hcyR j hj; omega
 refine WLoop.mk (List Int × List Bool) (fun s => [(5, .var (useAt M O s.1 c).cells), (6, .val (i ((leftN cyc O.length : Int) - leftN s.1 O.length)))]) (fun s m' => Mem.le m1 m' ∧ m' bc = some (Cells (s.1.map i) 3) ∧ m' bt = some (Cells (boolsV s.2) 4) ∧ s.1.length = O.length ∧ s.2.length = O.length ∧ (∀ z, Gr M O E H c s.1 z → Gr M O E H c cyc z) ∧ Tried M O s.1 c (trB s.2) ∧ (∀ j, j < O.length → -1 ≤ s.1.getD j 0 ∧ s.1.getD j 0 ≤ c)) (fun s => untried s.2 O.length) (cyc, List.replicate O.length false) ⟨by rw [hnone]; rfl, by simp only [Int.sub_self]; rfl, trivial⟩ ⟨le_setn hle hbt1, by rw [Mem.set_other _ _ hnct]; exact hbc, Mem.set_same _ _ _, hl, by simp, fun z h => h, fun j hj h => ?_, fun j hj => ?_⟩ ?_
 ·unfold trB at h
  rw [List.getD_eq_getElem?_getD, List.getElem?_replicate, if_pos hj] at h; cases h
 ·have := hcyR j hj; simp only; omega
 rintro ⟨cy, tr⟩ m2 ⟨g1, g2, g3, g4, g5, g6, g7, g8⟩
 simp only at g2 g3 g4 g5 g6 g7 g8
 have hXM := useAt_M M O cy c
 have hXs := useAt_small (M := M) (cyc := cy) (c := (c : Int)) hlO
 conv => whnf
 refine WLd.mk _ ((hpc (z := 11) rfl).mono g1) ?_
 conv => whnf
 refine WLoop.mk Nat (fun k => [(8, .val (i (bestS (candO E cy c (trB tr)) H k))), (27, .val (i k))]) (fun k m' => Mem.le m2 m' ∧ k ≤ O.length) (fun k => O.length - k) 0 ⟨rfl, rfl, trivial⟩ ⟨Mem.le.refl _, Nat.zero_le _⟩ ?_
 rintro k m3 ⟨q1, q2⟩
 have g1' : Mem.le m1 m3 := g1.trans q1
 conv => whnf
 refine Br.mk (fun hk0 => ?_) (fun hk0 => ?_)
 ·have hk : k < O.length := by
   have : (k : Int) < O.length := of_decide_eq_true hk0
   omega
  have htc : CellAt m3 ((⟨bt, 0, none⟩ : Addr).add (((k : Int)).toNat * 1)) (.bool (trB tr k)) := by
   rw [add0]
   refine ⟨_, _, _, q1 _ _ g3, rfl, ?_⟩
   have hk2 : k < tr.length := by omega
   unfold trB boolsV
   rw [List.getD_eq_getElem?_getD, List.getElem?_eq_getElem hk2]
   simp [hk2]
  have hcyc : CellsAt m3 ⟨bc, 0, none⟩ (cy.map i) := CellsAt.blk (q1 _ _ g2) fun q v hq => by rw [Nat.zero_add]; exact hq
  have hcyR2 : ∀ x ∈ cy, -1 ≤ x ∧ x ≤ 1099511627776 := fun x hx => by
   obtain ⟨j, hj, rfl⟩ := List.getElem_of_mem hx
   have := g8 j (by omega)
   rw [List.getD_eq_getElem?_getD, List.getElem?_eq_getElem hj] at this
   simp only [Option.getD_some] at this
   omega
  have hready := ready_ok (m := m3) (m0 := m0) (cyc := cy) (into := into) (by rw [g4]; exact g1' _ _ hp) hcyc (g1' _ _ hbi) (by rw [g4]; exact hV.mono g1') hcyR2 (fun j hj => by
   rw [hinto j (by omega)]
   refine ⟨Nat.le_trans (List.length_filter_le _ _) hlE, fun e he => ?_⟩
   rw [g4]; exact hE e (List.mem_filter.1 he).1) (k := k) (by omega) (c : Int)
  rw [hinto k hk, own_ready] at hready
  have hcandN : trB tr k = true → candO E cy c (trB tr) k = false := fun h => by unfold candO; rw [h]; rfl
  have hcandR : rdyB E cy c k = false → candO E cy c (trB tr) k = false := fun h => by unfold candO; rw [h, Bool.and_false]
  have hcandY : trB tr k = false → rdyB E cy c k = true → candO E cy c (trB tr) k = true := fun h1 h2 => by unfold candO; rw [h1, h2]; rfl
  have hBis := bestS_is (candO E cy c (trB tr)) H k
  generalize hB : bestS (candO E cy c (trB tr)) H k = B at *
  conv => whnf
  refine WIdx.mk ⟨bt, 0, none⟩ rfl ⟨by omega, by show (k : Int) < _; omega⟩ ?_
  conv => whnf
  refine ⟨?_, trivial⟩
  conv => whnf
  refine WLd.mk _ htc ?_
  conv => whnf
  refine Br.mk (fun hn => ?_) (fun hn => ?_)
  ·have htr : trB tr k = false := by
    cases hh : trB tr k with
    | false => rfl
    | true => rw [hh] at hn; cases hn
   refine ws_g (.val (.pointer (some ⟨p, 0, none⟩))) rfl rfl rfl rfl rfl (fun F h => h) ?_
   refine ws_g (.val (i k)) rfl rfl rfl rfl rfl (fun F h => h) ?_
   refine ws_g (.val (i c)) rfl rfl rfl rfl rfl (fun F h => h) ?_
   refine ws_alt ?_
   refine ws_gv rfl rfl rfl ?_
   conv => whnf
   refine WCall.mk hready ?_
   rintro _ m4 ⟨rfl, hle4⟩
   have g14 : Mem.le m1 m4 := g1'.trans hle4
   have q4 : Mem.le m2 m4 := q1.trans hle4
   refine sf_no ?_
   refine ws_step rfl ?_
   conv => whnf
   refine Br.mk (fun _ => ?_) (fun h => by cases h)
   refine sf_no ?_
   refine ws_step rfl ?_
   conv => whnf
   refine Br.mk (fun hr => ?_) (fun hr => ?_)
   ·have hcan := hcandY htr hr
    refine ws_g (.val (i B)) rfl rfl rfl rfl rfl (fun F h => h) ?_
    refine ws_g (.val (.bool (decide (B < 0)))) rfl rfl rfl rfl rfl (fun F h => h) ?_
    refine ws_gv rfl rfl rfl ?_
    conv => whnf
    refine Br.mk (fun hneg => ?_) (fun hneg => ?_)
    ·have hdec : B < 0 ∨ H.getD k 0 > H.getD B.toNat 0 := .inl (of_decide_eq_true hneg)
     conv => whnf
     refine Br.mk (fun _ => ?_) (fun h => by cases h)
     conv => whnf
     refine Br.mk (fun _ => ?_) (fun h => by cases h)
     conv => whnf
     refine Br.mk (fun _ => ?_) (fun h => by cases h)
     conv => whnf
     refine WRng.mk (by apply wrap_i64 <;> omega) ?_
     conv => whnf
     exact ⟨k + 1, ⟨by rw [bestS_yes hB hcan hdec]; rfl, rfl, trivial⟩, ⟨q4, hk⟩, by omega⟩
    ·have hB0 : 0 ≤ B := by
      have : ¬ B < 0 := of_decide_eq_false hneg
      omega
     obtain ⟨q, hq, hqB⟩ : ∃ q, q < k ∧ B = (q : Int) := by
      rcases hBis with ⟨h, _⟩ | ⟨q, h1, h2, _⟩
      ·omega
      ·exact ⟨q, h1, h2⟩
     have hHc : ∀ j, j < O.length → ∃ ad, ah = some ad ∧ CellAt m4 (ad.add j) (i (H.getD j 0)) := fun j hj => by
      cases ah with
      | none => rw [hh0 rfl] at hHl; simp at hHl; omega
      | some ad =>
       refine ⟨ad, rfl, ?_⟩
       have hj2 : j < H.length := by omega
       have hg : H.getD j 0 = H[j] := by rw [List.getD_eq_getElem?_getD, List.getElem?_eq_getElem hj2]; rfl
       rw [hg]; exact (IAt.cell (hh1 ad rfl) hj2).mono g14
     obtain ⟨adh, rfl, hHk⟩ := hHc k hk
     obtain ⟨adh2, e2, hHq⟩ := hHc q (by omega)
     cases e2
     have hp13 : CellAt m4 ((⟨p, 0, none⟩ : Addr).add 13) (.slice (some adh) H.length ch) := (hpc rfl).mono g14
     refine ws_g (.val (.pointer (some ⟨p, 0, none⟩))) rfl rfl rfl rfl rfl (fun F h => h) ?_
     refine ws_g (.val (.pointer (some ⟨p, 0, none⟩))) rfl rfl rfl rfl rfl (fun F h => h) ?_
     refine ws_g (.val (.pointer (some ((⟨p, 0, none⟩ : Addr).add 13)))) rfl rfl rfl rfl rfl (fun F h => h) ?_
     refine ws_gv rfl rfl rfl ?_
     conv => whnf
     refine WLd.mk _ hp13 ?_
     refine sf_no ?_
     refine ws_g (.val (i k)) rfl rfl rfl rfl rfl (fun F h => h) ?_
     refine ws_gv rfl rfl rfl ?_
     conv => whnf
     refine WIdx.mk adh rfl ⟨by omega, by show (k : Int) < _; omega⟩ ?_
     refine sf_no ?_
     refine ws_gv rfl rfl rfl ?_
     conv => whnf
     refine WLd.mk (i (H.getD k 0)) (by simpa using hHk) ?_
     refine sf_no ?_
     refine ws_g (.val (.pointer (some ⟨p, 0, none⟩))) rfl rfl rfl rfl rfl (fun F h => h) ?_
     refine ws_g (.val (.pointer (some ⟨p, 0, none⟩))) rfl rfl rfl rfl rfl (fun F h => h) ?_
     refine ws_g (.val (.pointer (some ((⟨p, 0, none⟩ : Addr).add 13)))) rfl rfl rfl rfl rfl (fun F h => h) ?_
     refine ws_gv rfl rfl rfl ?_
     conv => whnf
     refine WLd.mk _ hp13 ?_
     refine sf_no ?_
     refine ws_g (.val (i B)) rfl rfl rfl rfl rfl (fun F h => h) ?_
     refine ws_gv rfl rfl rfl ?_
     conv => whnf
     refine WIdx.mk adh rfl ⟨by omega, by show B < _; omega⟩ ?_
     refine sf_no ?_
     refine ws_gv rfl rfl rfl ?_
     conv => whnf
     refine WLd.mk (i (H.getD B.toNat 0)) (by rw [hqB]; simpa using hHq) ?_
     refine sf_no ?_
     refine ws_g (.val (.bool (decide (H.getD k 0 > H.getD B.toNat 0)))) rfl rfl rfl rfl rfl (fun F h => h) ?_
     refine ws_gv rfl rfl rfl ?_
     conv => whnf
     refine Br.mk (fun h => by cases h) (fun _ => ?_)
     refine sf_no ?_
     refine ws_step rfl ?_
     conv => whnf
     refine Br.mk (fun _ => ?_) (fun h => by cases h)
     conv => whnf
     refine Br.mk (fun hgt => ?_) (fun hgt => ?_)
     ·have hdec : B < 0 ∨ H.getD k 0 > H.getD B.toNat 0 := .inr (of_decide_eq_true hgt)
      conv => whnf
      refine WRng.mk (by apply wrap_i64 <;> omega) ?_
      conv => whnf
      exact ⟨k + 1, ⟨by rw [bestS_yes hB hcan hdec]; rfl, rfl, trivial⟩, ⟨q4, hk⟩, by omega⟩
     ·have hdec : ¬ (B < 0 ∨ H.getD k 0 > H.getD B.toNat 0) := by
       have : ¬ H.getD k 0 > H.getD B.toNat 0 := of_decide_eq_false hgt
       rintro (h | h)
       ·omega
       ·exact this h
      conv => whnf
      refine WRng.mk (by apply wrap_i64 <;> omega) ?_
      conv => whnf
      exact ⟨k + 1, ⟨by rw [bestS_no hB (.inr hdec)]; rfl, rfl, trivial⟩, ⟨q4, hk⟩, by omega⟩
   ·conv => whnf
    refine Br.mk (fun h => by cases h) (fun _ => ?_)
    conv => whnf
    refine Br.mk (fun h => by cases h) (fun _ => ?_)
    conv => whnf
    refine WRng.mk (by apply wrap_i64 <;> omega) ?_
    conv => whnf
    exact ⟨k + 1, ⟨by rw [bestS_no hB (.inl (hcandR hr))]; rfl, rfl, trivial⟩, ⟨q4, hk⟩, by omega⟩
  ·have htr : trB tr k = true := by
    cases hh : trB tr k with
    | true => rfl
    | false => rw [hh] at hn; cases hn
   conv => whnf
   refine ⟨?_, trivial⟩
   conv => whnf
   refine Br.mk (fun h => by cases h) (fun _ => ?_)
   conv => whnf
   refine Br.mk (fun h => by cases h) (fun _ => ?_)
   conv => whnf
   refine Br.mk (fun h => by cases h) (fun _ => ?_)
   conv => whnf
   refine Br.mk (fun h => by cases h) (fun _ => ?_)
   conv => whnf
   refine WRng.mk (by apply wrap_i64 <;> omega) ?_
   conv => whnf
   exact ⟨k + 1, ⟨by rw [bestS_no hB (.inl (hcandN htr))]; rfl, rfl, trivial⟩, ⟨q1, hk⟩, by omega⟩
 ·have hk : k = O.length := by
   have : ¬ (k : Int) < O.length := of_decide_eq_false hk0
   omega
  subst hk
  have hbis : IsBest (candO E cy c (trB tr)) H O.length (bestS (candO E cy c (trB tr)) H O.length) := bestS_is _ _ _
  generalize hB : bestS (candO E cy c (trB tr)) H O.length = B at *
  conv => whnf
  refine Br.mk (fun hneg => ?_) (fun hneg => ?_)
  ·have hBm : B = -1 := by
    have : B < 0 := of_decide_eq_true hneg
    rcases hbis with ⟨h, _⟩ | ⟨q, _, h2, _⟩
    ·exact h
    ·omega
   subst hBm
   conv => whnf
   exact WRet.same ⟨cy, rfl, g1', q1 _ _ g2, g4, g6 cy (.done (own_none g7 hB))⟩
  ·obtain ⟨q, hq, hqB, hqc⟩ : ∃ q, q < O.length ∧ B = (q : Int) ∧ candO E cy c (trB tr) q = true := by
    have : ¬ B < 0 := of_decide_eq_false hneg
    rcases hbis with ⟨h, _⟩ | ⟨q, h1, h2, h3, _⟩
    ·omega
    ·exact ⟨q, h1, h2, h3⟩
   subst hqB
   obtain ⟨hqt, hqn⟩ : trB tr q = false ∧ cy.getD q 0 < 0 := by
    unfold candO rdyB at hqc
    simp only [Bool.and_eq_true, decide_eq_true_eq, Bool.not_eq_true'] at hqc
    exact ⟨hqc.1, hqc.2.1⟩
   have hunt := untried_set hq g5 hqt
   have hq2 : q < tr.length := by omega
   conv => whnf
   refine WIdx.mk ⟨bt, 0, none⟩ rfl ⟨by omega, by show (q : Int) < _; omega⟩ ?_
   conv => whnf
   refine WSt.mk (boolsV tr) 4 ?_ ?_ ?_ ?_
   ·rw [add0]; exact q1 _ _ g3
   ·rw [add0]
   ·rw [add0]
    show _ * 1 + 1 ≤ (boolsV tr).length
    unfold boolsV
    rw [List.length_map]; simp only [Int.toNat_natCast]; omega
   simp only [add0]
   have hsplt : spliceL (boolsV tr) (Int.toNat (q : Int) * 1) (cellsL (Value.bool true)) = boolsV (tr.set q true) := by
    rw [Nat.mul_one, Int.toNat_natCast]
    show spliceL (boolsV tr) q [Value.bool true] = _
    rw [splice_one]
    unfold boolsV
    rw [List.map_set]
   rw [hsplt]
   have hle5 : Mem.le m1 (m3.set bt (Cells (boolsV (tr.set q true)) 4)) := le_setn g1' hbt1
   have hbc5 : (m3.set bt (Cells (boolsV (tr.set q true)) 4)) bc = some (Cells (cy.map i) 3) := by rw [Mem.set_other _ _ hnct]; exact q1 _ _ g2
   have hbt5 := Mem.set_same m3 bt (Cells (boolsV (tr.set q true)) 4)
   generalize m3.set bt (Cells (boolsV (tr.set q true)) 4) = m5 at *
   obtain ⟨ado, rfl⟩ : ∃ ad, a = some ad := by
    cases a with
    | none => rw [ho0 rfl] at hq; simp at hq
    | some ad => exact ⟨ad, rfl⟩
   have hop : opAt O q = O[q] := by unfold opAt; rw [List.getD_eq_getElem?_getD, List.getElem?_eq_getElem hq]; rfl
   have hoc5 : CellsAt m5 (ado.add (q * 7)) (opAt O q).cells := by rw [hop]; exact (OAt.cells (ho1 ado rfl) hq).mono hle5
   have hgo : badOp M (opAt O q) = false := by rw [hop]; exact hgood _ (List.getElem_mem hq)
   have hsetU := useAt_set (M := M) hq g4 (show cy.getD q 0 ≠ (c : Int) by omega)
   have hBo := fun h => own_some g7 hB h
   have hno := fun h => tried_no g7 (b := q) h
   have hys := tried_yes g7 hq g4 (show (0 : Int) ≤ c by omega) hqn
   generalize hoq : opAt O q = o at *
   generalize hX : useAt M O cy (c : Int) = X at *
   have hwith := fun (m' : Mem) (h : Mem.le m1 m') => with_ok (h _ _ hm) X o (small_mono hXs (by omega)) (by rw [hXM]; exact hbk) (badOp_pos hgo)
   conv => whnf
   refine WLd.mk _ ((hpc (z := 11) rfl).mono hle5) ?_
   conv => whnf
   refine WIdx.mk ado rfl ⟨by omega, by show (q : Int) < _; omega⟩ ?_
   conv => whnf
   refine WLds.mk o.cells (by simpa using hoc5) rfl ?_
   conv => whnf
   refine ⟨?_, ?_, trivial⟩
   ·conv => whnf
    refine WCallG.mk (hwith _ hle5) ?_
    rintro _ m6 ⟨rfl, hle6⟩
    refine ⟨hle6, ?_⟩
    conv => whnf
    refine ⟨?_, trivial⟩
    conv => whnf
    refine ⟨?_, trivial⟩
    conv => whnf
    rw [spAll (withS X o)]
    refine WCall.mk (fits_ok _ (withS X o)) ?_
    rintro _ m7 ⟨rfl, hle7⟩
    have hle57 : Mem.le m5 m7 := hle6.trans hle7
    have hle17 : Mem.le m1 m7 := hle5.trans hle57
    conv => whnf
    refine Br.mk (fun hf => ?_) (fun hf => ?_)
    ·conv => whnf
     rw [spAll3 X (withS X o)]
     refine WLd.mk _ ((hpc (z := 14) rfl).mono hle17) ?_
     conv => whnf
     refine WIdx.mk ⟨bc, 0, none⟩ rfl ⟨by omega, by show (q : Int) < _; omega⟩ ?_
     conv => whnf
     refine WSt.mk (cy.map i) 3 ?_ ?_ ?_ ?_
     ·rw [add0]; exact hle57 _ _ hbc5
     ·rw [add0]
     ·rw [add0]
      show _ * 1 + 1 ≤ (cy.map i).length
      rw [List.length_map]; simp only [Int.toNat_natCast]; omega
     simp only [add0]
     have hspc : spliceL (cy.map i) (Int.toNat (q : Int) * 1) (cellsL (i c)) = (cy.set q (c : Int)).map i := by
      rw [Nat.mul_one, Int.toNat_natCast]
      show spliceL (cy.map i) q [i c] = _
      rw [splice_one, List.map_set]
     rw [hspc]
     have hlef := leftN_set hq g4 (show (0 : Int) ≤ c by omega) hqn
     have htop : leftN cy O.length ≤ O.length := Walk.cnt_top _ _
     have htop2 : leftN cyc O.length ≤ O.length := Walk.cnt_top _ _
     conv => whnf
     refine WRng.mk (by apply wrap_i64 <;> omega) ?_
     conv => whnf
     have hbb : bt ≠ bc := fun e => hnct e.symm
     refine ⟨(cy.set q c, tr.set q true), ⟨?_, ?_, trivial⟩, ⟨le_setn hle17 hbc1, Mem.set_same _ _ _, ?_, by simp [g4], by simp [g5], fun z hz => g6 z (.step (hBo hf) hz), ?_, fun j hj => ?_⟩, by simp only; omega⟩
     ·show some (AV.var (withS X o).cells) = some (AV.var (useAt M O (cy.set q c) c).cells)
      rw [hsetU]
     ·show some (AV.val (i ((leftN cyc O.length : Int) - leftN cy O.length + 1))) = some (AV.val (i ((leftN cyc O.length : Int) - leftN (cy.set q c) O.length)))
      have : (leftN cyc O.length : Int) - leftN cy O.length + 1 = (leftN cyc O.length : Int) - leftN (cy.set q c) O.length := by omega
      rw [this]
     ·rw [Mem.set_other _ _ hbb]; exact hle57 _ _ hbt5
     ·show Tried M O (cy.set q c) c (trB (tr.set q true))
      rw [trB_set hq2]; exact hys
     ·show -1 ≤ (cy.set q c).getD j 0 ∧ (cy.set q c).getD j 0 ≤ c
      rw [getD_set (by omega)]
      have := g8 j hj
      split <;> omega
    ·conv => whnf
     refine ⟨(cy, tr.set q true), ⟨?_, rfl, trivial⟩, ⟨hle17, hle57 _ _ hbc5, hle57 _ _ hbt5, g4, by simp [g5], g6, ?_, g8⟩, by simp only; omega⟩
     ·show some (AV.var X.cells) = some (AV.var (useAt M O cy c).cells)
      rw [hX]
     ·show Tried M O cy c (trB (tr.set q true))
      rw [trB_set hq2]; exact hno hf
   ·conv => whnf
    refine ⟨?_, trivial⟩
    conv => whnf
    refine WCallG.mk (hwith _ hle5) ?_
    rintro _ m6 ⟨rfl, hle6⟩
    refine ⟨hle6, ?_⟩
    conv => whnf
    refine ⟨?_, trivial⟩
    conv => whnf
    rw [spAll (withS X o)]
    refine WCall.mk (fits_ok _ (withS X o)) ?_
    rintro _ m7 ⟨rfl, hle7⟩
    have hle57 : Mem.le m5 m7 := hle6.trans hle7
    have hle17 : Mem.le m1 m7 := hle5.trans hle57
    conv => whnf
    refine Br.mk (fun hf => ?_) (fun hf => ?_)
    ·conv => whnf
     rw [spAll3 X (withS X o)]
     refine WLd.mk _ ((hpc (z := 14) rfl).mono hle17) ?_
     conv => whnf
     refine WIdx.mk ⟨bc, 0, none⟩ rfl ⟨by omega, by show (q : Int) < _; omega⟩ ?_
     conv => whnf
     refine WSt.mk (cy.map i) 3 ?_ ?_ ?_ ?_
     ·rw [add0]; exact hle57 _ _ hbc5
     ·rw [add0]
     ·rw [add0]
      show _ * 1 + 1 ≤ (cy.map i).length
      rw [List.length_map]; simp only [Int.toNat_natCast]; omega
     simp only [add0]
     have hspc : spliceL (cy.map i) (Int.toNat (q : Int) * 1) (cellsL (i c)) = (cy.set q (c : Int)).map i := by
      rw [Nat.mul_one, Int.toNat_natCast]
      show spliceL (cy.map i) q [i c] = _
      rw [splice_one, List.map_set]
     rw [hspc]
     have hlef := leftN_set hq g4 (show (0 : Int) ≤ c by omega) hqn
     have htop : leftN cy O.length ≤ O.length := Walk.cnt_top _ _
     have htop2 : leftN cyc O.length ≤ O.length := Walk.cnt_top _ _
     conv => whnf
     refine WRng.mk (by apply wrap_i64 <;> omega) ?_
     conv => whnf
     have hbb : bt ≠ bc := fun e => hnct e.symm
     refine ⟨(cy.set q c, tr.set q true), ⟨?_, ?_, trivial⟩, ⟨le_setn hle17 hbc1, Mem.set_same _ _ _, ?_, by simp [g4], by simp [g5], fun z hz => g6 z (.step (hBo hf) hz), ?_, fun j hj => ?_⟩, by simp only; omega⟩
     ·show some (AV.var (withS X o).cells) = some (AV.var (useAt M O (cy.set q c) c).cells)
      rw [hsetU]
     ·show some (AV.val (i ((leftN cyc O.length : Int) - leftN cy O.length + 1))) = some (AV.val (i ((leftN cyc O.length : Int) - leftN (cy.set q c) O.length)))
      have : (leftN cyc O.length : Int) - leftN cy O.length + 1 = (leftN cyc O.length : Int) - leftN (cy.set q c) O.length := by omega
      rw [this]
     ·rw [Mem.set_other _ _ hbb]; exact hle57 _ _ hbt5
     ·show Tried M O (cy.set q c) c (trB (tr.set q true))
      rw [trB_set hq2]; exact hys
     ·show -1 ≤ (cy.set q c).getD j 0 ∧ (cy.set q c).getD j 0 ≤ c
      rw [getD_set (by omega)]
      have := g8 j hj
      split <;> omega
    ·conv => whnf
     refine ⟨(cy, tr.set q true), ⟨?_, rfl, trivial⟩, ⟨hle17, hle57 _ _ hbc5, hle57 _ _ hbt5, g4, by simp [g5], g6, ?_, g8⟩, by simp only; omega⟩
     ·show some (AV.var X.cells) = some (AV.var (useAt M O cy c).cells)
      rw [hX]
     ·show Tried M O cy c (trB (tr.set q true))
      rw [trB_set hq2]; exact hno hf
end Go.Proofs.YtmnagbhllnlelaaGreatDoor
