/- The forms of the functions that defer a call at their head. -/
import Derived.Test.YtmnagbhllnlelaaGreatDoorVxIR0
import Derived.Test.YtmnagbhllnlelaaGreatDoorVxIR1
import Derived.Test.YtmnagbhllnlelaaGreatDoorVxIR2
import Derived.Test.YtmnagbhllnlelaaGreatDoorVxIR3
import Derived.Test.YtmnagbhllnlelaaGreatDoorVxIR4
import Derived.KernelRfl
set_option maxRecDepth 100000
namespace Go.Proofs.YtmnagbhllnlelaaGreatDoor
open Go Go.Vx Go.Vx.IOp Go.Vx.IR Go.Vx.Opd
def ir_graph_Graph_walk_1 : Vx.FnD := { nt := 32, res := [], body := .seq (ops (.run [x 4 (bx 3 (t 0))] <| .nil)) (.seq (ops (.run [x 7 (ld (t 1)), x 8 (ld (t 4)), x 9 (ia (t 7) (t 8) 1), n (st (t 9) (c (.bool true)) 1)] <| .nil)) (.dfr (.run [x 10 (mf 275 [] [t 2, t 4])] <| .nil) (t 10) [] (seq (tree [x 11 (ld (t 2)), x 12 (nc (t 11)), x 13 (fa (t 12) 0), x 14 (ld (t 13)), x 15 (ld (t 4)), x 16 (ia (t 14) (t 15) 1), x 17 (ld (t 16)), x 18 (len (t 17)), x 19 (mv (c (i 0)))] (.pure 0 (.pure 1 (.pure 2 (.pure 3 (.pure 4 (.pure 5 (.pure 6 (.pure 7 (.pure 8 (RT.nil))))))))))) (block 0 (loop [(6, 6), (19, 31)] (seq (ops (.run [x 20 (bin .lss (t 19) (t 18))] <| .nil)) (seq (cond (t 20) (skip) (exit 0)) (seq (block 1 (seq (ops (.run [x 21 (ia (t 17) (t 19) 1), x 22 (ld (t 21)), x 6 (mv (t 22))] <| .nil)) (seq (ops (.run [x 23 (ld (t 1)), x 24 (mv (t 6)), x 25 (ia (t 23) (t 24) 1), x 26 (ld (t 25)), x 27 (un .not (t 26))] <| .nil)) (cond (t 27) (ops (.run [x 28 (ld (t 3)), x 29 (mv (t 6)), x 30 (callV (t 28) [t 29])] <| .nil)) (skip))))) (ops (.run [x 31 (binN .add (t 19) (c (i 1))), x 19 (mv (t 31))] <| .nil)))))))))) }
theorem ok_graph_Graph_walk_1 : okFnD Tryz.prog Tryz.f274 ir_graph_Graph_walk_1 = true := by kernel_rfl
theorem okp_graph_Graph_walk_1_1 : okFnP Tryz.prog Tryz.f275 ir_graph_Graph_walk_1_1 = true := by kernel_rfl
end Go.Proofs.YtmnagbhllnlelaaGreatDoor
