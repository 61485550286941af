/- alive() of biremelaw20 returns true: a closed run. -/
import Derived.Test.YtmnagbhllnlelaaGreatDoorVxEvRun
import Derived.KernelRfl
set_option maxRecDepth 1000000
namespace Go.Proofs.YtmnagbhllnlelaaGreatDoor
open Go Go.Vx Go.Vx.Ev
theorem alive20_ran (T : Nat) : ran T n_biremelaw20_alive [] = some (.bool true) := by kernel_rfl
theorem alive20_calls {m : Mem} {T : Nat} {fr : Nat × Nat} (hm : m 0 = some (.cells ⟨cells0⟩ T fr)) :
    CallsM Tryz.prog n_biremelaw20_alive [] m (fun e m' => e = .returned (.bool true) ∧ m' = m) :=
  closed mixed hm rfl (alive20_ran T) rfl rfl
end Go.Proofs.YtmnagbhllnlelaaGreatDoor
