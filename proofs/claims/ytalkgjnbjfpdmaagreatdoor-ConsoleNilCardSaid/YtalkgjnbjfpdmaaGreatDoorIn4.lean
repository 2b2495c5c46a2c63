/- What the row lists as not Go's own text; by the kernel. No condition. -/
import Derived.Test.YtalkgjnbjfpdmaaGreatDoorRows
import Derived.Test.YtalkgjnbjfpdmaaGreatDoorClos4
namespace Go.Proofs.YtalkgjnbjfpdmaaGreatDoor
open Go Go.CS
set_option maxRecDepth 100000 in
theorem inPlace4 : Tryz.prog.inPlace 4 = Rows.consoleNilRow.inPlace := by
  unfold Program.inPlace
  rw [clos4]
  kernel_rfl
end Go.Proofs.YtalkgjnbjfpdmaaGreatDoor
