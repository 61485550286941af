import Derived.Test.YtleofbpepfmfgaaGreatDoorVxCalls
import Derived.Test.YtleofbpepfmfgaaGreatDoorProg
import Derived.KernelRfl
set_option maxRecDepth 100000
namespace Go.Proofs.YtleofbpepfmfgaaGreatDoor
open Go Go.Vx Go.Vx.IOp Go.Vx.IR Go.Vx.Opd
def ir_word_one:Vx.Fn:={ nt:=5,res:=[.t 2],body:=seq (ops (.run [x 2 (mv (c (i 0)))] <| .nil)) (seq (ops (.run [x 3 (mv (t 0)),x 4 (callV (t 3) [c (i (-1)),c (i 1)]),x 2 (mv (t 4))] <| .nil)) (ret)) }
theorem ok_word_one:okFn Tryz.prog Tryz.f206 ir_word_one = true:=by kernel_rfl
end Go.Proofs.YtleofbpepfmfgaaGreatDoor
