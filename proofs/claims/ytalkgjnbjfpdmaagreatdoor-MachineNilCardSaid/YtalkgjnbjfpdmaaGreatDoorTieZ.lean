/- The tie of the listed variables to the program's text, out of its closed facts; no condition. -/
import Derived.Test.YtalkgjnbjfpdmaaGreatDoorTieA
import Derived.Test.YtalkgjnbjfpdmaaGreatDoorTieB
import Derived.Test.YtalkgjnbjfpdmaaGreatDoorTieC
import Derived.Test.YtalkgjnbjfpdmaaGreatDoorTieD
import Derived.Test.YtalkgjnbjfpdmaaGreatDoorTieE
import Derived.Test.YtalkgjnbjfpdmaaGreatDoorTieF
import Derived.Test.YtalkgjnbjfpdmaaGreatDoorTieG
import Derived.Test.YtalkgjnbjfpdmaaGreatDoorTieH
import Derived.Test.YtalkgjnbjfpdmaaGreatDoorTieI
import Derived.Test.YtalkgjnbjfpdmaaGreatDoorTieJ
namespace Go.Proofs.YtalkgjnbjfpdmaaGreatDoor
open Go
theorem tieSix : Tryz.prog.laidByTextLater laidSix [.data, .data, .data, .data, .data, .data] true :=
  Program.laidByTextLater_by_run 400 8 tieA tieB tieC tieD tieE tieF tieG tieH tieI
theorem consoleNil_row_tie2 : Rows.consoleNilRow.laidByTextAt .later Tryz.pinned [.pinned, .data, .data, .data, .data, .data, .data] true :=
  OpenClaim.laidByTextAt_pinned rfl rfl tieSix rfl rfl rfl rfl (fun y hy _e => by
    simp only [Rows.consoleNilRow, List.zip_cons_cons, List.zip_nil_right, List.mem_cons, List.mem_nil_iff, or_false] at hy
    rcases hy with rfl | rfl | rfl | rfl | rfl | rfl | rfl
    · exact ⟨pinFits, datumFirst⟩
    · cases _e
    · cases _e
    · cases _e
    · cases _e
    · cases _e
    · cases _e) fitsAll
theorem machineNil_row_tie2 : Rows.machineNilRow.laidByTextAt .later Tryz.pinned [.pinned, .data, .data, .data, .data, .data, .data] true :=
  OpenClaim.laidByTextAt_pinned rfl rfl tieSix rfl rfl rfl rfl (fun y hy _e => by
    simp only [Rows.machineNilRow, List.zip_cons_cons, List.zip_nil_right, List.mem_cons, List.mem_nil_iff, or_false] at hy
    rcases hy with rfl | rfl | rfl | rfl | rfl | rfl | rfl
    · exact ⟨pinFits, datumFirst⟩
    · cases _e
    · cases _e
    · cases _e
    · cases _e
    · cases _e
    · cases _e) fitsAll
end Go.Proofs.YtalkgjnbjfpdmaaGreatDoor
