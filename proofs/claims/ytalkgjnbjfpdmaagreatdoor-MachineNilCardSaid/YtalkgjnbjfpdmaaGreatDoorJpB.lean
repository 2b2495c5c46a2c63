/- A closed fact of the program (its stops are heard), by the kernel. No condition. -/
import Derived.Test.YtalkgjnbjfpdmaaGreatDoorRows
import Derived.JoinedOf
import Derived.KernelRfl
namespace Go.Proofs.YtalkgjnbjfpdmaaGreatDoor
open Go
theorem stopsHeard : Tryz.prog.stopsHeard = true := by kernel_rfl
end Go.Proofs.YtalkgjnbjfpdmaaGreatDoor
