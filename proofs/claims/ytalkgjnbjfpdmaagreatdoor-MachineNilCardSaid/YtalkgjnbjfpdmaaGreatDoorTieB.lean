/- One closed fact on the program's text, by the kernel (tieB); no condition. -/
import Derived.Test.YtalkgjnbjfpdmaaGreatDoorTieO
namespace Go.Proofs.YtalkgjnbjfpdmaaGreatDoor
open Go
theorem tieB : Tryz.prog.worded (varsWordLater !true) = false := by kernel_rfl
end Go.Proofs.YtalkgjnbjfpdmaaGreatDoor
