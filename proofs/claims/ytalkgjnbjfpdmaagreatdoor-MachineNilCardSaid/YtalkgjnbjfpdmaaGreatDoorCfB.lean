/- No text starts a goroutine, by the kernel. No condition. -/
import Derived.Test.YtalkgjnbjfpdmaaGreatDoorCards
import Derived.Test.YtalkgjnbjfpdmaaGreatDoorRows
import Derived.SevenTiedAt
import Derived.KernelRfl
namespace Go.Proofs.YtalkgjnbjfpdmaaGreatDoor
open Go
theorem noGo : Tryz.prog.funcs.toList.any Func.goes = false := by kernel_rfl
theorem goes_none {P : Program} (h : P.funcs.toList.any Func.goes = false) (f : FuncId) : P.goes f = false := by
  have key : ∀ (g : Nat) (fn : Func), P.funcs[g]? = some fn → fn.goes = false := fun g fn hg => by
    have hm : fn ∈ P.funcs.toList := Array.mem_toList_iff.2 (Array.mem_of_getElem? hg)
    simpa using List.any_eq_false.1 h fn hm
  unfold Program.goes
  have h1 : ((P.closure f).any fun g => (P.funcs[g]?).any Func.goes) = false := by
    rw [List.any_eq_false]
    intro g _
    cases hg : P.funcs[g]? with
    | none => simp
    | some fn => simp [key g fn hg]
  have h2 : P.funcs.any Func.goes = false := by rw [← Array.any_toList]; exact h
  rw [h1, h2]; simp
theorem goesAt_none {P : Program} (h : P.funcs.toList.any Func.goes = false) (n : String) : false = P.goesAt .entering n := by
  unfold Program.goesAt Program.goesFrom
  cases P.funcNamed n with
  | none => rfl
  | some f => simp [goes_none h f]
theorem goesC : false = Rows.consoleNilRow.goesBy Tryz.prog := goesAt_none noGo _
theorem goesM : false = Rows.machineNilRow.goesBy Tryz.prog := goesAt_none noGo _
end Go.Proofs.YtalkgjnbjfpdmaaGreatDoor
