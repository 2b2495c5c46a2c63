/- The three closed facts over the whole table of types, from the source's own check. No condition. -/
import Derived.Test.YtalkgjnbjfpdmaaGreatDoorChecked
import Derived.ClosedOfChecked
import Derived.KernelRfl
namespace Go.Proofs.YtalkgjnbjfpdmaaGreatDoor
open Go
theorem tys : Tryz.checked.prog.types = Tryz.checked.src.types := by kernel_rfl
theorem rests : (Tryz.checked.prog.globals.all (fun g => decide (g.type < Tryz.checked.prog.types.size)) && Tryz.checked.prog.funcs.all (fun f => f.params.all fun t => decide (t < Tryz.checked.prog.types.size))) = true := by kernel_rfl
theorem closed3 : laidOutB Tryz.checked.prog = true ∧ mapsRowed Tryz.checked.prog = true := ⟨ClosedOfChecked.laidOutB_of (ClosedOfChecked.allSpec_of Tryz.checked.wellFormed tys) rests, ClosedOfChecked.mapsRowed_of (ClosedOfChecked.allSpec_of Tryz.checked.wellFormed tys)⟩
end Go.Proofs.YtalkgjnbjfpdmaaGreatDoor
