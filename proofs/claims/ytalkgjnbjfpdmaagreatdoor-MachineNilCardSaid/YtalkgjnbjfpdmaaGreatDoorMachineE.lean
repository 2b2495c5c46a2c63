/- What the evaluator answers at the law MachineNil, for every entry: true. No condition. -/
import Derived.Test.YtalkgjnbjfpdmaaGreatDoorTzEnvOk
namespace Go.Proofs
open Go Go.CS
set_option maxRecDepth 100000
theorem Tryz.evMachine (k t : Int) (s : ByteArray) : isTrueRes (ccall Tryz.csE 100000 3 #[.agg #[.int .i64 k, .int .i64 t, .string s]] ⟨.e, 0⟩) = true := by kernel_rfl
end Go.Proofs
