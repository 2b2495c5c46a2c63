/- One closed fact on the program's text, by the kernel (tieF); no condition. -/
import Derived.Test.YtalkgjnbjfpdmaaGreatDoorTieO
namespace Go.Proofs.YtalkgjnbjfpdmaaGreatDoor
open Go
theorem tieF : varsNamedLaterB Tryz.prog (varsId Tryz.prog) laidSix = true := by kernel_rfl
end Go.Proofs.YtalkgjnbjfpdmaaGreatDoor
