/- The row's closed facts, joined; by the kernel. No condition. -/
import Derived.Test.YtalkgjnbjfpdmaaGreatDoorJpA
import Derived.Test.YtalkgjnbjfpdmaaGreatDoorJpB
import Derived.Test.YtalkgjnbjfpdmaaGreatDoorJpC
import Derived.Test.YtalkgjnbjfpdmaaGreatDoorIn4
import Derived.Test.YtalkgjnbjfpdmaaGreatDoorVn4
import Derived.Test.YtalkgjnbjfpdmaaGreatDoorUn4
import Derived.JoinedOf
namespace Go.Proofs.YtalkgjnbjfpdmaaGreatDoor
open Go
theorem jCk1 : Rows.consoleNilRow.wf (OpenSpec.ofChange Rows.consoleNilSpec) = true := by kernel_rfl
theorem jCk4 : Tryz.f4.params.all (Tryz.prog.readableRec ·) = true := by kernel_rfl
theorem jCk5 : namedTie Tryz.prog Rows.consoleNilRow.named Rows.consoleNilSpec.vars = true := by kernel_rfl
theorem jCk7 : (Tryz.prog.stops == []) = true := by kernel_rfl
theorem jCk9 : (Tryz.prog.stopKnobs == []) = true := by kernel_rfl
theorem jCk14 : (Rows.consoleNilRow.maps == (Tryz.f4.params.toList ++ Rows.consoleNilSpec.plain.varTypes Tryz.prog).any (Tryz.prog.mapsRec ·)) = true := by kernel_rfl
theorem jCk15 : (Rows.consoleNilRow.ifaces == (Tryz.f4.params.toList ++ Rows.consoleNilSpec.plain.varTypes Tryz.prog).any (Tryz.prog.ifacesRec ·)) = true := by kernel_rfl
theorem jCk16 : (Rows.consoleNilRow.mapsOut == Tryz.prog.mapsAmong Tryz.f4.resultTypes.toList) = true := by kernel_rfl
theorem jCk17 : (Rows.consoleNilRow.loops == (Tryz.f4.params.toList ++ Rows.consoleNilSpec.plain.varTypes Tryz.prog).any (Tryz.prog.loopsFrom ·)) = true := by kernel_rfl
theorem jCk17b : (Rows.consoleNilRow.wideKeys == (Tryz.f4.params.toList ++ Rows.consoleNilSpec.plain.varTypes Tryz.prog ++ Tryz.f4.resultTypes.toList).any (Tryz.prog.wideKeysFrom ·)) = true := by kernel_rfl
theorem jCk18 : Rows.consoleNilSpec.vars.all (Tryz.prog.varReadable ·) = true := by kernel_rfl
theorem jCk19 : Tryz.f4.resultTypes.all (fun t => Tryz.prog.readableRec t && decide (t < Tryz.prog.types.size)) = true := by kernel_rfl
theorem jCk20 : (Rows.consoleNilRow.ifacesOut == Tryz.f4.resultTypes.toList.any (Tryz.prog.ifacesRec ·)) = true := by kernel_rfl
theorem jCk21 : (Rows.consoleNilRow.loopsOut == Tryz.f4.resultTypes.toList.any (Tryz.prog.loopsFrom ·)) = true := by kernel_rfl
theorem jCk22 : (Rows.consoleNilRow.plainKeys == Tryz.prog.plainKeys) = true := by kernel_rfl
theorem jCk24b : (Rows.consoleNilRow.lifted == Tryz.prog.liftsFinal) = true := by kernel_rfl
theorem jCk24c : (Tryz.prog.make == some Rows.consoleNilRow.make) = true := by kernel_rfl
theorem jCk25 : (Rows.consoleNilRow.kinds == (if Rows.consoleNilRow.domain.isEmpty then [] else Tryz.f4.params.toList.map fun t => match Tryz.prog.underlying t with | some (.int k) => some k | _ => none)) = true := by kernel_rfl
theorem jCk26 : (Rows.consoleNilRow.pinned == Rows.consoleNilRow.pinnedBy) = true := by kernel_rfl
theorem jCk27 : (Rows.consoleNilRow.veiled == (Tryz.f4.params.toList ++ Rows.consoleNilSpec.plain.varTypes Tryz.prog ++ Tryz.f4.resultTypes.toList).any (Tryz.prog.veiledRec ·)) = true := by kernel_rfl
theorem jCk28 : Rows.consoleNilRow.veiledFits Tryz.prog Tryz.f4.params.toList (Tryz.f4.params.toList ++ Rows.consoleNilSpec.plain.varTypes Tryz.prog ++ Tryz.f4.resultTypes.toList) = true := by kernel_rfl
theorem jCand {a b : Bool} (ha : a = true) (hb : b = true) : (a && b) = true := by rw [ha, hb]; rfl
set_option maxRecDepth 100000 in
theorem joinedC : joinedFacts Tryz.prog 4 Tryz.f4 Rows.consoleNilSpec Rows.consoleNilRow = true := by
  unfold joinedFacts
  exact (jCand (jCand (jCand (jCand (jCand (jCand (jCand (jCand (jCand (jCand (jCand (jCand (jCand (jCand (jCand (jCand (jCand (jCand (jCand (jCand (jCand (jCand (jCand (jCand (jCand (jCand (jCand (jCand (jCand (jCand (jCand jCk1 closed3.1) closed3.2) jCk4) jCk5) rfl) jCk7) rfl) jCk9) (beq_iff_eq.2 inPlace4.symm)) (beq_iff_eq.2 unfollowed4.symm)) (beq_iff_eq.2 recurses4.symm)) (beq_iff_eq.2 varsNamed4.symm)) jCk14) jCk15) jCk16) jCk17) jCk17b) jCk18) jCk19) jCk20) jCk21) jCk22) rfl) stopsHeard) mayEnter) jCk24b) jCk24c) jCk25) jCk26) jCk27) jCk28)
end Go.Proofs.YtalkgjnbjfpdmaaGreatDoor
