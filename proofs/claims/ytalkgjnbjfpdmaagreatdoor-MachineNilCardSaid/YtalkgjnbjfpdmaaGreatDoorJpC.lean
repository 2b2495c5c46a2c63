/- A closed fact of the program (it may be entered), by the kernel. No condition. -/
import Derived.Test.YtalkgjnbjfpdmaaGreatDoorRows
import Derived.JoinedOf
import Derived.KernelRfl
namespace Go.Proofs.YtalkgjnbjfpdmaaGreatDoor
open Go
theorem mayEnter : Tryz.prog.mayEnter = true := by kernel_rfl
end Go.Proofs.YtalkgjnbjfpdmaaGreatDoor
