/- What the evaluator answers at the law ConsoleNil, for every line: true. No condition. -/
import Derived.Test.YtalkgjnbjfpdmaaGreatDoorTzEnvOk
namespace Go.Proofs
open Go Go.CS
set_option maxRecDepth 100000
theorem Tryz.evConsole (s : ByteArray) : isTrueRes (ccall Tryz.csE 100000 4 #[.string s] ⟨.e, 0⟩) = true := by kernel_rfl
end Go.Proofs
