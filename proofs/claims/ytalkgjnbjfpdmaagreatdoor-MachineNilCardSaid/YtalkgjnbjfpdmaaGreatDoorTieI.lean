/- One closed fact on the program's text, by the kernel (tieI); no condition. -/
import Derived.Test.YtalkgjnbjfpdmaaGreatDoorTieO
namespace Go.Proofs.YtalkgjnbjfpdmaaGreatDoor
open Go
theorem tieI : ∀ os tape, (DataW.laidRun Tryz.prog (varsWorld Tryz.prog 400 (varsId Tryz.prog) os tape).memory 8 (laidSix.map (·.1))).map (fun x => decide x.2.Nodup && laidRowsB Tryz.prog (varsWorld Tryz.prog 400 (varsId Tryz.prog) os tape).memory x.2) = some true := fun _ _ => by kernel_rfl
end Go.Proofs.YtalkgjnbjfpdmaaGreatDoor
