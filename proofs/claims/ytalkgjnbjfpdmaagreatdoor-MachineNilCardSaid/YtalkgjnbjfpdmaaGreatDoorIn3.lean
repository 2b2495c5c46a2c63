/- What the row lists as not Go's own text; by the kernel. No condition. -/
import Derived.Test.YtalkgjnbjfpdmaaGreatDoorRows
import Derived.Test.YtalkgjnbjfpdmaaGreatDoorClos3
namespace Go.Proofs.YtalkgjnbjfpdmaaGreatDoor
open Go Go.CS
set_option maxRecDepth 100000 in
theorem inPlace3 : Tryz.prog.inPlace 3 = Rows.machineNilRow.inPlace := by
  unfold Program.inPlace
  rw [clos3]
  kernel_rfl
end Go.Proofs.YtalkgjnbjfpdmaaGreatDoor
