import Derived.Test.YtleofbpepfmfgaaGreatDoorVxCalls
import Derived.Test.YtleofbpepfmfgaaGreatDoorProg
import Derived.KernelRfl
set_option maxRecDepth 100000
namespace Go.Proofs.YtleofbpepfmfgaaGreatDoor
open Go Go.Vx Go.Vx.IOp Go.Vx.IR Go.Vx.Opd
def j2o:Vx.Fn:={ nt:=5,res:=[.t 2],body:=qO [x 2 (mv (J 0))] (qO [Y 3 0,x 4 (callV (t 3) [c (i (-1)),c (i 1)]),Y 2 4] (ret)) }
theorem j3j:okFn Tryz.prog Tryz.f206 j2o=true:=by kernel_rfl
end Go.Proofs.YtleofbpepfmfgaaGreatDoor
