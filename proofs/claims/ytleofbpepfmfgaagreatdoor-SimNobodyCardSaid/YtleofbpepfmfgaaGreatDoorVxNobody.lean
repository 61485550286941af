/- The closed runs: alive, SimNobody. -/
import Derived.Test.YtleofbpepfmfgaaGreatDoorVxEvRun
import Derived.KernelRfl
set_option maxRecDepth 1000000
namespace Go.Proofs.YtleofbpepfmfgaaGreatDoor
open Go Go.Vx Go.Vx.Ev
theorem mixed : Tryz.prog.follows .mixedOrders = true := by kernel_rfl
theorem nobody_ran (T : Nat) (n : Int) : ran T n_biremelaw27_SimNobody [.int .i64 n] = some (.bool true) := by kernel_rfl
theorem nobody_calls {m : Mem} {T : Nat} {fr : Nat × Nat} (hm : m 0 = some (.cells ⟨cells0⟩ T fr)) (n : Int) :
    CallsM Tryz.prog n_biremelaw27_SimNobody [.int .i64 n] m (fun e m' => e = .returned (.bool true) ∧ m' = m) :=
  closed mixed hm (nobody_ran T n) rfl rfl
end Go.Proofs.YtleofbpepfmfgaaGreatDoor
