/- One closed fact on the program's text, by the kernel (tieA); no condition. -/
import Derived.Test.YtalkgjnbjfpdmaaGreatDoorTieO
namespace Go.Proofs.YtalkgjnbjfpdmaaGreatDoor
open Go
theorem tieA : Tryz.prog.worded (varsWordLater true) = true := by kernel_rfl
end Go.Proofs.YtalkgjnbjfpdmaaGreatDoor
