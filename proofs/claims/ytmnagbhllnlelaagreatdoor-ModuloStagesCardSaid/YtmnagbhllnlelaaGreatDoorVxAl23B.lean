/- alive() of biremelaw23, one order of a region. -/
import Derived.Test.YtmnagbhllnlelaaGreatDoorVxAl23A
set_option maxRecDepth 1000000
namespace Go.Proofs.YtmnagbhllnlelaaGreatDoor
open Go Go.Vx Go.Vx.Ev Go.Vx.IOp Go.Vx.IR Go.Vx.Opd
theorem al23_r4a (T : Nat) : pieceM T (.tree al23_l4 (.pure 1 (.alt 0 (.alt 2 (.alt 3 (.pure 4 (.pure 5 (.pure 6 (.pure 7 (.pure 8 (RT.nil)))))) (.done)) (.done)) .done))) [0, 1, 2, 3, 4, 5, 6, 7, 8] [442] al23_e3 al23_s3 443 = some (al23_e4, al23_s4) := by kernel_rfl
end Go.Proofs.YtmnagbhllnlelaaGreatDoor
