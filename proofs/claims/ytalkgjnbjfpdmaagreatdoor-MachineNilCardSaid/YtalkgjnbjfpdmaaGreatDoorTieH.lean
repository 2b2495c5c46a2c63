/- One closed fact on the program's text, by the kernel (tieH); no condition. -/
import Derived.Test.YtalkgjnbjfpdmaaGreatDoorTieO
namespace Go.Proofs.YtalkgjnbjfpdmaaGreatDoor
open Go
theorem tieH : ∀ os tape, (DataW.laidRun Tryz.prog (varsWorld Tryz.prog 400 (varsId Tryz.prog) os tape).memory 8 (laidSix.map (·.1))).map (·.1) = some laidSix := fun _ _ => by kernel_rfl
end Go.Proofs.YtalkgjnbjfpdmaaGreatDoor
