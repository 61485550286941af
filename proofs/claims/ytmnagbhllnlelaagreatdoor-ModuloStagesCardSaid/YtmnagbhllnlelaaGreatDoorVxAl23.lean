/- alive() of biremelaw23 returns true: a closed run, in pieces. -/
import Derived.Test.YtmnagbhllnlelaaGreatDoorVxAl23B
import Derived.Test.YtmnagbhllnlelaaGreatDoorVxAl23C
set_option maxRecDepth 1000000
namespace Go.Proofs.YtmnagbhllnlelaaGreatDoor
open Go Go.Vx Go.Vx.Ev Go.Vx.IOp Go.Vx.IR Go.Vx.Opd
def al23_e5 : TE := mkE [(0, .val (.bool false)), (2, .val (.int .i64 (2))), (3, .val (.int .i64 (0))), (4, .val (.slice (some ⟨442, 0, none⟩) 2 4611686018427387906)), (5, .val (.int .i64 (2))), (6, .val (.int .i64 (0))), (7, .val (.bool false)), (8, .val (.int .i64 (0))), (10, .val (.bool false)), (11, .val (.int .i64 (0)))]
def al23_s5 : St := mkS [(442, .bl [.int .i64 (0), .int .i64 (2)] 3 1)]
theorem al23_r5 (T : Nat) : piece T al23_p5 [0, 2, 3, 4, 5, 6, 7, 8, 10, 11] [442] al23_e4 al23_s4 446 = some (al23_e5, al23_s5, 650) := by kernel_rfl
def al23_e6 : TE := mkE [(0, .val (.bool false)), (2, .val (.int .i64 (2))), (3, .val (.int .i64 (0))), (4, .val (.slice (some ⟨442, 0, none⟩) 2 4611686018427387906)), (5, .val (.int .i64 (2))), (6, .val (.int .i64 (0))), (7, .val (.bool false)), (8, .val (.int .i64 (0))), (10, .val (.bool false)), (11, .val (.int .i64 (0))), (12, .val (.int .i64 (2))), (13, .val (.int .i64 (0)))]
def al23_s6 : St := mkS [(442, .bl [.int .i64 (0), .int .i64 (2)] 3 1)]
theorem al23_r6 (T : Nat) : piece T al23_p6 [0, 2, 3, 4, 5, 6, 7, 8, 10, 11, 12, 13] [442] al23_e5 al23_s5 650 = some (al23_e6, al23_s6, 651) := by kernel_rfl
def al23_e7 : TE := mkE [(0, .val (.bool false)), (2, .val (.int .i64 (2))), (3, .val (.int .i64 (0))), (4, .val (.slice (some ⟨442, 0, none⟩) 2 4611686018427387906)), (5, .val (.int .i64 (2))), (6, .val (.int .i64 (0))), (7, .val (.bool false)), (8, .val (.int .i64 (0))), (10, .val (.bool false)), (11, .val (.int .i64 (0))), (12, .val (.int .i64 (2))), (13, .val (.int .i64 (0))), (14, .val (.int .i64 (3))), (15, .val (.int .i64 (0)))]
def al23_s7 : St := mkS [(442, .bl [.int .i64 (0), .int .i64 (2)] 3 1)]
theorem al23_r7 (T : Nat) : piece T al23_p7 [0, 2, 3, 4, 5, 6, 7, 8, 10, 11, 12, 13, 14, 15] [442] al23_e6 al23_s6 651 = some (al23_e7, al23_s7, 657) := by kernel_rfl
theorem al23_last (T : Nat) : (match evI2 theCall [0] ⟨[], [ro0 T]⟩ al23_p8 al23_e7 al23_s7 657 with | some (.x _, _, _, _) => none | some (_, c', t', _) => cres ⟨[], [ro0 T]⟩ t' (ev c') ir_biremelaw23_alive.res | none => none) = some [.bool true] := by kernel_rfl
theorem alive23_fin (T : Nat) : FinOK T ir_biremelaw23_alive.res ir_biremelaw23_alive.body .lf .lf := fin_step (al23_r0 T) (fin_step (al23_r1 T) (fin_step (al23_r2 T) (fin_step (al23_r3 T) (fin_two rfl rfl (al23_r4a T) (al23_r4b T) (fin_step (al23_r5 T) (fin_step (al23_r6 T) (fin_step (al23_r7 T) (fin_last (nx := 657) (al23_last T)))))))))
theorem alive23_calls {m : Mem} {T : Nat} {fr : Nat × Nat} (hm : m 0 = some (.cells ⟨cells0⟩ T fr)) :
    CallsM Tryz.prog 13 [] m (fun e m' => e = .returned (.bool true) ∧ m' = m) :=
  fin_calls Tryz.func13 ok_biremelaw23_alive hm (alive23_fin T)
end Go.Proofs.YtmnagbhllnlelaaGreatDoor
