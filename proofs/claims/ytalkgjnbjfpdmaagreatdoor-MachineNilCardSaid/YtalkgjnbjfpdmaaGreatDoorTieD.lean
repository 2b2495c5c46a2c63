/- One closed fact on the program's text, by the kernel (tieD); no condition. -/
import Derived.Test.YtalkgjnbjfpdmaaGreatDoorTieO
namespace Go.Proofs.YtalkgjnbjfpdmaaGreatDoor
open Go
theorem tieD : laidSix.map (fun x => Tryz.prog.kindOfLater x.1) = [LaidKind.data, .data, .data, .data, .data, .data].map some := by kernel_rfl
end Go.Proofs.YtalkgjnbjfpdmaaGreatDoor
