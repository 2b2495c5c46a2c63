/- The variables that the row names; by the kernel. No condition. -/
import Derived.Test.YtalkgjnbjfpdmaaGreatDoorRows
import Derived.Test.YtalkgjnbjfpdmaaGreatDoorClos3
namespace Go.Proofs.YtalkgjnbjfpdmaaGreatDoor
open Go Go.CS
set_option maxRecDepth 100000 in
theorem varsNamed3 : Tryz.prog.varsNamed 3 = Rows.machineNilRow.named := by
  unfold Program.varsNamed
  rw [clos3]
  kernel_rfl
end Go.Proofs.YtalkgjnbjfpdmaaGreatDoor
