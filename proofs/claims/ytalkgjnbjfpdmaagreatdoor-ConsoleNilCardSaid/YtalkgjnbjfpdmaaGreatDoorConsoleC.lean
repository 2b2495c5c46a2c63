/- The tied card of ConsoleNil: the row proved, its listed variables tied to the program's text; no further condition. -/
import Derived.Test.YtalkgjnbjfpdmaaGreatDoorCfA
import Derived.Test.YtalkgjnbjfpdmaaGreatDoorCfB
import Derived.Test.YtalkgjnbjfpdmaaGreatDoorCfC
import Derived.Test.YtalkgjnbjfpdmaaGreatDoorConsoleP
import Derived.Test.YtalkgjnbjfpdmaaGreatDoorTieZ
namespace Go.Proofs.YtalkgjnbjfpdmaaGreatDoor
open Go

theorem stC : Tryz.prog.wantsStandIn 9 = false := by kernel_rfl
theorem wfC : Rows.consoleNilRow.wfByText (OpenSpec.ofChange Rows.consoleNilSpec) = true := by kernel_rfl
theorem mainC : Tryz.prog.mainIs = some (true, ("bfc6d901e2f47f757170563084ef312bccb486492fbde126e0c900e6d6120cba").toList) := by kernel_rfl

theorem consoleNil_plain (f : FuncId) (fn : Func) (hf : Tryz.prog.funcNamed "transit/transitlaw55.ConsoleNil" = some f) (hfn : Tryz.prog.funcs[f]? = some fn) :
    false = Tryz.prog.looks [] ∧ ∀ (j : Nat) t, fn.params[j]? = some t → Tryz.prog.wantsStandIn t = false := by
  have hf' : f = 4 := Option.some.inj (hf.symm.trans fnNamedC)
  subst hf'
  have hfn' : fn = Tryz.f4 := Option.some.inj (hfn.symm.trans Tryz.func4)
  subst hfn'
  refine ⟨looksNo, fun j t ht => ?_⟩
  rw [Tryz.params4] at ht
  have ht' : t = 9 := by simpa using Array.mem_of_getElem? ht
  subst ht'
  exact stC

theorem consoleNil_card : Rows.ConsoleNilCardSaid :=
  Claim7.holds_tied_plain_at .later [] _ _ _ _ console_said (fun _ h => by cases h) wfC (fun _ h => by cases h) consoleNil_row_tie2 rfl ⟨rfl, rfl⟩ mainC rfl consoleNil_plain goesC
end Go.Proofs.YtalkgjnbjfpdmaaGreatDoor
