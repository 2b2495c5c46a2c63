/- One closed fact on the program's text, by the kernel (tieC); no condition. -/
import Derived.Test.YtalkgjnbjfpdmaaGreatDoorTieO
namespace Go.Proofs.YtalkgjnbjfpdmaaGreatDoor
open Go
theorem tieC : Tryz.prog.worded rootWordLater = true := by kernel_rfl
end Go.Proofs.YtalkgjnbjfpdmaaGreatDoor
