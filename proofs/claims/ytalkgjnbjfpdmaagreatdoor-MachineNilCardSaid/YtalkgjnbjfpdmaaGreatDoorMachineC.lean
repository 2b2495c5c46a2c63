/- The tied card of MachineNil: the row proved, its listed variables tied to the program's text; no further condition. -/
import Derived.Test.YtalkgjnbjfpdmaaGreatDoorCfA
import Derived.Test.YtalkgjnbjfpdmaaGreatDoorCfB
import Derived.Test.YtalkgjnbjfpdmaaGreatDoorCfM
import Derived.Test.YtalkgjnbjfpdmaaGreatDoorMachineP
import Derived.Test.YtalkgjnbjfpdmaaGreatDoorTieZ
namespace Go.Proofs.YtalkgjnbjfpdmaaGreatDoor
open Go

theorem stM : Tryz.prog.wantsStandIn 23 = false := by kernel_rfl
theorem wfM : Rows.machineNilRow.wfByText (OpenSpec.ofChange Rows.machineNilSpec) = true := by kernel_rfl
theorem mainM : Tryz.prog.mainIs = some (true, ("bfc6d901e2f47f757170563084ef312bccb486492fbde126e0c900e6d6120cba").toList) := by kernel_rfl

theorem machineNil_plain (f : FuncId) (fn : Func) (hf : Tryz.prog.funcNamed "transit/transitlaw53.MachineNil" = some f) (hfn : Tryz.prog.funcs[f]? = some fn) :
    false = Tryz.prog.looks [] ∧ ∀ (j : Nat) t, fn.params[j]? = some t → Tryz.prog.wantsStandIn t = false := by
  have hf' : f = 3 := Option.some.inj (hf.symm.trans fnNamedM)
  subst hf'
  have hfn' : fn = Tryz.f3 := Option.some.inj (hfn.symm.trans Tryz.func3)
  subst hfn'
  refine ⟨looksNo, fun j t ht => ?_⟩
  rw [Tryz.params3] at ht
  have ht' : t = 23 := by simpa using Array.mem_of_getElem? ht
  subst ht'
  exact stM

theorem machineNil_card : Rows.MachineNilCardSaid :=
  Claim7.holds_tied_plain_at .later [] _ _ _ _ machine_said (fun _ h => by cases h) wfM (fun _ h => by cases h) machineNil_row_tie2 rfl ⟨rfl, rfl⟩ mainM rfl machineNil_plain goesM
end Go.Proofs.YtalkgjnbjfpdmaaGreatDoor
