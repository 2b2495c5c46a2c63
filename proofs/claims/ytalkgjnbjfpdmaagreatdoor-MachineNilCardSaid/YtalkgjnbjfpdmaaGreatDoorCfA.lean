/- A closed fact of the program (no look at the machine's state), by the kernel. No condition. -/
import Derived.Test.YtalkgjnbjfpdmaaGreatDoorCards
import Derived.Test.YtalkgjnbjfpdmaaGreatDoorRows
import Derived.SevenTiedAt
import Derived.KernelRfl
namespace Go.Proofs.YtalkgjnbjfpdmaaGreatDoor
open Go
theorem looksNo : false = Tryz.prog.looks [] := by kernel_rfl
end Go.Proofs.YtalkgjnbjfpdmaaGreatDoor
