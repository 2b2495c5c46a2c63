/- One closed fact on the program's text, by the kernel (tieG); no condition. -/
import Derived.Test.YtalkgjnbjfpdmaaGreatDoorTieO
namespace Go.Proofs.YtalkgjnbjfpdmaaGreatDoor
open Go
theorem tieG : ∀ os tape, varsDone Tryz.prog 400 (varsId Tryz.prog) os tape = true := fun _ _ => by kernel_rfl
end Go.Proofs.YtalkgjnbjfpdmaaGreatDoor
