/- The tables serve. No condition. -/
import Derived.Test.YtalkgjnbjfpdmaaGreatDoorTzOkT
import Derived.Test.YtalkgjnbjfpdmaaGreatDoorTzOkF
namespace Go.Proofs
open Go Go.CS
set_option maxRecDepth 100000
set_option maxHeartbeats 4000000
theorem Tryz.csOk : EnvOk Tryz.csE := envOk Tryz.okT0 Tryz.okF0 (by kernel_rfl) (by kernel_rfl)
end Go.Proofs
