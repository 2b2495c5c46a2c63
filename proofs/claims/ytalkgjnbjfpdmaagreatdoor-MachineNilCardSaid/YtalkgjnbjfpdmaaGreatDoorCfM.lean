/- The law's function, by its name; by the kernel. No condition. -/
import Derived.Test.YtalkgjnbjfpdmaaGreatDoorCards
import Derived.Test.YtalkgjnbjfpdmaaGreatDoorRows
import Derived.SevenTiedAt
import Derived.KernelRfl
namespace Go.Proofs.YtalkgjnbjfpdmaaGreatDoor
open Go
theorem fnNamedM : Tryz.prog.funcNamed "transit/transitlaw53.MachineNil" = some 3 := by kernel_rfl
end Go.Proofs.YtalkgjnbjfpdmaaGreatDoor
