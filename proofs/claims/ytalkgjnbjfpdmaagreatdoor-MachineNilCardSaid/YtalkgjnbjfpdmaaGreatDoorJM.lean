/- The row's closed facts, joined; by the kernel. No condition. -/
import Derived.Test.YtalkgjnbjfpdmaaGreatDoorJpA
import Derived.Test.YtalkgjnbjfpdmaaGreatDoorJpB
import Derived.Test.YtalkgjnbjfpdmaaGreatDoorJpC
import Derived.Test.YtalkgjnbjfpdmaaGreatDoorIn3
import Derived.Test.YtalkgjnbjfpdmaaGreatDoorVn3
import Derived.Test.YtalkgjnbjfpdmaaGreatDoorUn3
import Derived.JoinedOf
namespace Go.Proofs.YtalkgjnbjfpdmaaGreatDoor
open Go
theorem jMk1 : Rows.machineNilRow.wf (OpenSpec.ofChange Rows.machineNilSpec) = true := by kernel_rfl
theorem jMk4 : Tryz.f3.params.all (Tryz.prog.readableRec ·) = true := by kernel_rfl
theorem jMk5 : namedTie Tryz.prog Rows.machineNilRow.named Rows.machineNilSpec.vars = true := by kernel_rfl
theorem jMk7 : (Tryz.prog.stops == []) = true := by kernel_rfl
theorem jMk9 : (Tryz.prog.stopKnobs == []) = true := by kernel_rfl
theorem jMk14 : (Rows.machineNilRow.maps == (Tryz.f3.params.toList ++ Rows.machineNilSpec.plain.varTypes Tryz.prog).any (Tryz.prog.mapsRec ·)) = true := by kernel_rfl
theorem jMk15 : (Rows.machineNilRow.ifaces == (Tryz.f3.params.toList ++ Rows.machineNilSpec.plain.varTypes Tryz.prog).any (Tryz.prog.ifacesRec ·)) = true := by kernel_rfl
theorem jMk16 : (Rows.machineNilRow.mapsOut == Tryz.prog.mapsAmong Tryz.f3.resultTypes.toList) = true := by kernel_rfl
theorem jMk17 : (Rows.machineNilRow.loops == (Tryz.f3.params.toList ++ Rows.machineNilSpec.plain.varTypes Tryz.prog).any (Tryz.prog.loopsFrom ·)) = true := by kernel_rfl
theorem jMk17b : (Rows.machineNilRow.wideKeys == (Tryz.f3.params.toList ++ Rows.machineNilSpec.plain.varTypes Tryz.prog ++ Tryz.f3.resultTypes.toList).any (Tryz.prog.wideKeysFrom ·)) = true := by kernel_rfl
theorem jMk18 : Rows.machineNilSpec.vars.all (Tryz.prog.varReadable ·) = true := by kernel_rfl
theorem jMk19 : Tryz.f3.resultTypes.all (fun t => Tryz.prog.readableRec t && decide (t < Tryz.prog.types.size)) = true := by kernel_rfl
theorem jMk20 : (Rows.machineNilRow.ifacesOut == Tryz.f3.resultTypes.toList.any (Tryz.prog.ifacesRec ·)) = true := by kernel_rfl
theorem jMk21 : (Rows.machineNilRow.loopsOut == Tryz.f3.resultTypes.toList.any (Tryz.prog.loopsFrom ·)) = true := by kernel_rfl
theorem jMk22 : (Rows.machineNilRow.plainKeys == Tryz.prog.plainKeys) = true := by kernel_rfl
theorem jMk24b : (Rows.machineNilRow.lifted == Tryz.prog.liftsFinal) = true := by kernel_rfl
theorem jMk24c : (Tryz.prog.make == some Rows.machineNilRow.make) = true := by kernel_rfl
theorem jMk25 : (Rows.machineNilRow.kinds == (if Rows.machineNilRow.domain.isEmpty then [] else Tryz.f3.params.toList.map fun t => match Tryz.prog.underlying t with | some (.int k) => some k | _ => none)) = true := by kernel_rfl
theorem jMk26 : (Rows.machineNilRow.pinned == Rows.machineNilRow.pinnedBy) = true := by kernel_rfl
theorem jMk27 : (Rows.machineNilRow.veiled == (Tryz.f3.params.toList ++ Rows.machineNilSpec.plain.varTypes Tryz.prog ++ Tryz.f3.resultTypes.toList).any (Tryz.prog.veiledRec ·)) = true := by kernel_rfl
theorem jMk28 : Rows.machineNilRow.veiledFits Tryz.prog Tryz.f3.params.toList (Tryz.f3.params.toList ++ Rows.machineNilSpec.plain.varTypes Tryz.prog ++ Tryz.f3.resultTypes.toList) = true := by kernel_rfl
theorem jMand {a b : Bool} (ha : a = true) (hb : b = true) : (a && b) = true := by rw [ha, hb]; rfl
set_option maxRecDepth 100000 in
theorem joinedM : joinedFacts Tryz.prog 3 Tryz.f3 Rows.machineNilSpec Rows.machineNilRow = true := by
  unfold joinedFacts
  exact (jMand (jMand (jMand (jMand (jMand (jMand (jMand (jMand (jMand (jMand (jMand (jMand (jMand (jMand (jMand (jMand (jMand (jMand (jMand (jMand (jMand (jMand (jMand (jMand (jMand (jMand (jMand (jMand (jMand (jMand (jMand jMk1 closed3.1) closed3.2) jMk4) jMk5) rfl) jMk7) rfl) jMk9) (beq_iff_eq.2 inPlace3.symm)) (beq_iff_eq.2 unfollowed3.symm)) (beq_iff_eq.2 recurses3.symm)) (beq_iff_eq.2 varsNamed3.symm)) jMk14) jMk15) jMk16) jMk17) jMk17b) jMk18) jMk19) jMk20) jMk21) jMk22) rfl) stopsHeard) mayEnter) jMk24b) jMk24c) jMk25) jMk26) jMk27) jMk28)
end Go.Proofs.YtalkgjnbjfpdmaaGreatDoor
