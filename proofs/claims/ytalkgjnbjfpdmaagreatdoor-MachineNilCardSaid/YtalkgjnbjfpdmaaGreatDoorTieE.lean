/- One closed fact on the program's text, by the kernel (tieE); no condition. -/
import Derived.Test.YtalkgjnbjfpdmaaGreatDoorTieO
namespace Go.Proofs.YtalkgjnbjfpdmaaGreatDoor
open Go
theorem tieE : (Tryz.prog.funcNamed "gosem.cut.vars").isSome = true := by kernel_rfl
end Go.Proofs.YtalkgjnbjfpdmaaGreatDoor
