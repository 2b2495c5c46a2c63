/- A nil machine returns ErrNil and zero values (MachineNil): for every entry the law's call returns true and the entry reads as it did. No condition of ours; the variables that the row lists are tied to the program's text. -/
import Derived.Test.YtalkgjnbjfpdmaaGreatDoorRows
import Derived.Test.YtalkgjnbjfpdmaaGreatDoorCsCall
import Derived.Test.YtalkgjnbjfpdmaaGreatDoorMachineE
import Derived.Test.YtalkgjnbjfpdmaaGreatDoorJM
import Derived.ProofKit
import Derived.Lay
import Derived.LaidOnce
import Derived.ChangeMaps5
import Derived.Lib.SmallJoins
namespace Go.Proofs.YtalkgjnbjfpdmaaGreatDoor
open Go Go.ChangeShapes Go.WideShapes Go.ChangeAt Go.RowKit Go.ChangeMaps

theorem ownM : ownKnob Tryz.prog.godebug = none := by kernel_rfl

theorem machine_calls (k t : Int) (s : ByteArray) (w : World) : Calls Tryz.prog 3 #[.agg #[.int .i64 k, .int .i64 t, .string s]] w fun e w' => e = .returned (.bool true) ∧ w.keptBut w' (fun _ => False) ∧ w.heap.size ≤ w'.heap.size :=
  CS.calls_true (E := Tryz.csE) Tryz.csOk (fun _ => rfl) (f := 3) (cf := CS.mkF Tryz.f3 .e) (by kernel_rfl) 100000 #[.agg #[.int .i64 k, .int .i64 t, .string s]] (by kernel_rfl) (Tryz.evMachine k t s) w

set_option maxRecDepth 100000 in
theorem machine_lifted (os : Os) (started : os.Started) (H : Type) (enc : TypeId × Value → H) :
    ReturnsInHanded {} Tryz.checked os 3 .any (fun w args => (Rows.machineNilSpec.pre enc Tryz.prog Tryz.f3 [] false w args ∧ laidMetH Tryz.prog Rows.machineNilRow.laid w) ∧ sizedMet enc Tryz.prog Tryz.f3 (OpenSpec.ofChange Rows.machineNilSpec) false w args)
      (Rows.machineNilSpec.post enc Tryz.prog Tryz.f3 false true false false) := by
  refine returnsInHanded_of_change_and (C := Tryz.checked) (X := fun w _ => laidMetH Tryz.prog Rows.machineNilRow.laid w) (fun _ _ _ hh h => h.of_heap hh) ownM started (by kernel_rfl) Tryz.func3
    (ChangeSpec.witness_shaped (enc := enc) (C := Tryz.checked) (os := os) (X := fun w _ => laidMetH Tryz.prog Rows.machineNilRow.laid w) false (World.laidAll Tryz.prog os Rows.machineNilRow.laid) #[.agg #[.int .i64 0, .int .i64 0, .string ⟨#[]⟩]] 8 (World.laidAll_os _ _ _)
      (World.shaped_of_ZipB (by kernel_rfl) (by kernel_rfl)) (by kernel_rfl) (by kernel_rfl) (by kernel_rfl)
      (by rw [MakeChecks.laidMetH_plain _ _ _ (by kernel_rfl)]; exact laidMet_laidAll _ (by kernel_rfl) (by kernel_rfl))) ?_
  intro W base args ds gs before hval0 hW _ _ _ _
  have hval : ∀ (j : Nat) t v, Tryz.f3.params[j]? = some t → args[j]? = some v → Value.okWide Tryz.prog W .any base t v := hval0
  have hW' := hW
  obtain ⟨p, q, hA0, hV, rfl, _, _⟩ := hW
  have hA : DataW.TrodAll enc Tryz.prog W 0 (fun _ => true) true Tryz.f3.params.toList args.toList ds p := hA0
  rw [Tryz.params3] at hA hval
  obtain ⟨v0, d0, rfl, rfl, h0⟩ := trodAll_one hA
  obtain ⟨rfl, rfl⟩ := trodVars_none hV
  obtain ⟨a0, a1, a2, y0, y1, y2, n, rfl, rfl, rfl, t0, t1, t2⟩ := Joins.open_agg3 Tryz.underlying23 (by kernel_rfl) (by kernel_rfl) (hval 0 23 v0 rfl rfl) h0
  obtain ⟨k, e0, rfl, w0⟩ := DataW.trod_int Tryz.underlying3 t0
  obtain ⟨m, e1, rfl, w1⟩ := DataW.trod_int Tryz.underlying3 t1
  obtain ⟨s, e2, rfl, hs⟩ := DataW.trod_string Tryz.underlying9 t2
  simp only [List.cons.injEq, and_true] at e0 e1 e2
  subst e0 e1 e2
  simp only [List.append_nil] at hW'
  refine (machine_calls k m s W).mono fun e W' ⟨he, hk, _⟩ => ?_
  subst he
  refine ⟨_, rfl, _, _, _, [], [], [], hW', trodAll_mk1 (shut_bool Tryz.underlying4 _), ?_, rfl, World.keptBut_mono (fun _ h => h.elim) hk, fun h => by cases h⟩
  exact trodAll_mk1 (Joins.shut_agg3 (P := Tryz.prog) (y0 := (.lit (.int .i64 k), [])) (y1 := (.lit (.int .i64 m), [])) (y2 := (.lit (.string s.data.toList), [])) Tryz.underlying23 (by kernel_rfl) (by kernel_rfl) ⟨1, by simp [DataW.trod, Tryz.underlying3, w0]⟩ ⟨1, by simp [DataW.trod, Tryz.underlying3, w1]⟩ ⟨1, by simp [DataW.trod, Tryz.underlying9, hs]⟩)

theorem machine_said : Rows.MachineNilSaid :=
  OpenClaim.holds_of_wide 3 Tryz.f3 rfl rfl rfl rfl rfl rfl rfl ⟨rfl, rfl, rfl, rfl, rfl⟩ rfl rfl rfl rfl rfl (by kernel_rfl) Tryz.func3 joinedM
    (of_decide_eq_true (by kernel_rfl)) (by unfold Func.isWrapper; first | (rw [if_pos (by decide +kernel)]; kernel_rfl) | (rw [if_neg (by decide +kernel)]; exact ⟨rfl, rfl⟩))
    (fun os started H enc _ => machine_lifted os started H enc)
end Go.Proofs.YtalkgjnbjfpdmaaGreatDoor
