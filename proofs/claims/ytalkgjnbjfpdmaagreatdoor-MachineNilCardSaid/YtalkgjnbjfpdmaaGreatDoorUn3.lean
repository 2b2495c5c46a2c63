/- Calls that are not followed; by the kernel. No condition. -/
import Derived.Test.YtalkgjnbjfpdmaaGreatDoorRows
import Derived.Test.YtalkgjnbjfpdmaaGreatDoorClos3
namespace Go.Proofs.YtalkgjnbjfpdmaaGreatDoor
open Go Go.CS
set_option maxRecDepth 100000 in
theorem unfollowed3 : Tryz.prog.unfollowed 3 = true := by
  unfold Program.unfollowed
  rw [clos3]
  kernel_rfl
theorem recurses3 : Tryz.prog.recurses 3 = true := by
  unfold Program.recurses
  rw [unfollowed3]
  rfl
end Go.Proofs.YtalkgjnbjfpdmaaGreatDoor
