/- The variables that the row names; by the kernel. No condition. -/
import Derived.Test.YtalkgjnbjfpdmaaGreatDoorRows
import Derived.Test.YtalkgjnbjfpdmaaGreatDoorClos4
namespace Go.Proofs.YtalkgjnbjfpdmaaGreatDoor
open Go Go.CS
set_option maxRecDepth 100000 in
theorem varsNamed4 : Tryz.prog.varsNamed 4 = Rows.consoleNilRow.named := by
  unfold Program.varsNamed
  rw [clos4]
  kernel_rfl
end Go.Proofs.YtalkgjnbjfpdmaaGreatDoor
