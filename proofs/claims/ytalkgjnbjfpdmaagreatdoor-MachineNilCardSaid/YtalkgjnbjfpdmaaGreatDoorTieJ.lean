/- Closed facts on the pinned table, by the kernel; no condition. -/
import Derived.Test.YtalkgjnbjfpdmaaGreatDoorTieO
namespace Go.Proofs.YtalkgjnbjfpdmaaGreatDoor
open Go
theorem pinFits : Tryz.pinned.checked.prog.pinnedFits "unicode/utf8.first" = true := by kernel_rfl
theorem noOwn : Tryz.pinned.checked.prog.headLifts.contains "ownunsafe" = false := by kernel_rfl
theorem fitsAll : Tryz.pinned.checked.prog.listedFits Rows.consoleNilRow.laid = true := by
  unfold Program.listedFits
  rw [noOwn]
  kernel_rfl
theorem datumFirst : Pinned.datum "unicode/utf8.first" = some Rows.laid_unicode_utf8_first := by kernel_rfl
end Go.Proofs.YtalkgjnbjfpdmaaGreatDoor
