/- Calls: the evaluator's answer is the model's. -/
import Derived.Test.YtalkgjnbjfpdmaaGreatDoorCsDraw
import Derived.Defers
import Derived.Lib.Bytealg
import Derived.Lib.MakeNoZero
import Derived.ProofKit
set_option linter.unusedVariables false
set_option linter.unusedSimpArgs false
set_option linter.unusedSectionVars false
set_option linter.deprecated false

namespace Go.CS
open Go

section
variable {E : Env} {C : Caller}

theorem initT_get : ∀ (l : List Value) (i : Nat) (t : Tr Value) (k : Nat), (initT i l t).get k = if i ≤ k ∧ k < i + l.length then l[k - i]? else t.get k := by
  intro l
  induction l with
  | nil => intro i t k; rw [if_neg (by simp)]; rfl
  | cons v l ih =>
    intro i t k
    simp only [initT, ih, Tr.get_set]
    by_cases h : k = i
    · subst h; rw [if_neg (by omega), if_pos rfl, if_pos (by simp)]; simp
    · by_cases h2 : i + 1 ≤ k ∧ k < i + 1 + l.length
      · have : k - i = (k - (i + 1)) + 1 := by omega
        rw [if_pos h2, if_pos (by simp; omega), this]; simp
      · rw [if_neg h2, if_neg h, if_neg (by simp; omega)]

theorem enter_rel {ρ : Rho} {nt : Nat} {args : List Value} {args' : Array Value} (h : LRel ρ args args'.toList) (hl : args.length ≤ nt) :
    TRel ρ nt (initT 0 args .e) (args' ++ Array.replicate (nt - args'.size) undef) := by
  have hs : args'.size = args.length := by have := h.1; simpa using this.symm
  refine ⟨by simp; omega, fun i => ?_⟩
  rw [initT_get]
  by_cases hi : i < args.length
  · rw [if_pos (by omega)]
    obtain ⟨x, hx⟩ : ∃ x, args[i]? = some x := ⟨args[i], by simp [hi]⟩
    obtain ⟨y, hy, hr⟩ := h.get hx
    have hy' : args'[i]? = some y := by simpa using hy
    have : (args' ++ Array.replicate (nt - args'.size) undef)[i]? = some y := by
      rw [Array.getElem?_append_left (by omega)]; exact hy'
    simp only [Nat.sub_zero, hx, Option.getD_some, Array.getD_eq_getD_getElem?, this]
    exact hr
  · rw [if_neg (by omega), Tr.get_e]
    have : (args' ++ Array.replicate (nt - args'.size) undef).getD i undef = undef := by
      rw [Array.getD_eq_getD_getElem?, Array.getElem?_append_right (by omega)]
      by_cases h2 : i - args'.size < nt - args'.size
      · simp [h2]
      · rw [Array.getElem?_eq_none (by simp; omega)]; rfl
    rw [this]
    exact .undef

theorem enter_run {f : FuncId} {fn : Func} {c : Code} (hf : E.P.funcs[f]? = some fn) (hb : fn.body = some c) (hn : fn.name ≠ "runtime.NumGoroutine") (w : World) {args : Array Value} :
    (callFunc f args).run E.P w = .ok (.enter f args) w := by
  simp [callFunc, hf, hb, hn]

theorem bodyC_sound (ok : EnvOk E) (hC : CallOk E C) {f : FuncId} {cf : CF} (hf : E.F.get f = some cf) {args : List Value} {h : H} {s : St} {n : Nat} (hb : bodyC E C n cf args h = some s)
    {ρ : Rho} {w : World} {args' : Array Value} (i : Inv E ρ h w.heap) (g : GOk E ρ) (ha : LRel ρ args args'.toList) :
    cf.code.wp E.P (fun e a w' => (e = .normal ∨ e = .ret) ∧ ∃ ρ', SRel E cf.ntmps ρ' s a w' ∧ Stp h.nx ρ ρ' h s.h w w') { tmps := args' ++ Array.replicate (cf.ntmps - args'.size) undef, defers := [] } w := by
  unfold bodyC at hb
  simp only [cond_eq_ite, nblt, decide_eq_true_eq] at hb
  split at hb
  · cases hb
  rename_i hl
  have hr : SRel E cf.ntmps ρ ⟨initT 0 args .e, h, []⟩ { tmps := args' ++ Array.replicate (cf.ntmps - args'.size) undef, defers := [] } w := ⟨enter_rel ha (by omega), i, trivial, g⟩
  split at hb
  · rename_i s1 hrun
    simp only [Option.some.injEq] at hb; subst hb
    have := (runCode_sound ok hC (drawnOk ok hC) _ none _ _ _ _ hrun (ok.C f cf hf) (by simp) ρ _ w hr).1
    exact wp_mono this fun e a w' hp => ⟨.inl hp.1, hp.2⟩
  · rename_i s1 hrun
    simp only [Option.some.injEq] at hb; subst hb
    have := (runCode_sound ok hC (drawnOk ok hC) _ none _ _ _ _ hrun (ok.C f cf hf) (by simp) ρ _ w hr).1
    exact wp_mono this fun e a w' hp => ⟨.inr hp.1, hp.2⟩
  · cases hb

theorem mapM_results (ok : EnvOk E) {ρ : Rho} {nt : Nat} {t : Tr Value} {h : H} {tmps : Array Value} {w : World} (tr : TRel ρ nt t tmps) (i : Inv E ρ h w.heap) : ∀ (l : List ResultVar) (vs : List Value), resultsC E t h l = some vs →
    ∃ vs', (l.mapM (m := Sem) fun | .tmp t => pure (tmps.getD t undef) | .cell a t => do Go.loadVar t (← asAddr (tmps.getD a undef))).run E.P w = .ok vs' w ∧ LRel ρ vs vs' := by
  intro l
  induction l with
  | nil =>
    intro vs h
    simp only [resultsC, Option.some.injEq] at h; subst h
    exact ⟨[], by simp, .nil⟩
  | cons r l ih =>
    intro vs hv
    cases r with
    | tmp x =>
      simp only [resultsC] at hv
      split at hv
      · rename_i vs1 h1
        simp only [Option.some.injEq] at hv; subst hv
        obtain ⟨vs', h2, h3⟩ := ih vs1 h1
        refine ⟨tmps.getD x undef :: vs', ?_, .cons ?_ h3⟩
        · rw [List.mapM_cons, Sem.run_bind, Sem.run_pure, Result.andThen_ok, Sem.run_bind, h2, Result.andThen_ok, Sem.run_pure]
        · have := tr.2 x
          cases hx : t.get x <;> simpa [hx] using this
      · cases hv
    | cell a ty =>
      simp only [resultsC] at hv
      split at hv
      · rename_i ad hx
        split at hv
        · rename_i v1 vs1 h0 h1
          simp only [Option.some.injEq] at hv; subst hv
          obtain ⟨vs', h2, h3⟩ := ih vs1 h1
          have hr := tr.2 a
          rw [hx] at hr
          simp only [Option.getD_some] at hr
          obtain ⟨ad', hr2⟩ : ∃ ad', tmps.getD a undef = .pointer (some ad') := by
            generalize tmps.getD a undef = z at hr
            cases hr; exact ⟨_, rfl⟩
          rw [hr2] at hr
          obtain ⟨v', g1, g2⟩ := loadVar_sound ok i h0 hr
          refine ⟨v' :: vs', ?_, .cons g2 h3⟩
          rw [List.mapM_cons, Sem.run_bind]
          have : (do Go.loadVar ty (← asAddr (tmps.getD a undef))).run E.P w = .ok v' w := by
            rw [hr2, Sem.run_bind]
            show ((asAddr (.pointer (some ad'))).run E.P w).andThen _ = _
            simp only [asAddr, Sem.run_pure, Result.andThen_ok, g1]
          rw [this, Result.andThen_ok, Sem.run_bind, h2, Result.andThen_ok, Sem.run_pure]
        · cases hv
      · cases hv

theorem packV_rel {ρ : Rho} {vs : List Value} {vs' : Array Value} (h : LRel ρ vs vs'.toList) : VRel ρ (packV vs) (if h : vs'.size = 1 then vs'[0] else .tuple vs') := by
  have hs : vs.length = vs'.size := by have := h.1; simpa using this
  split
  · rename_i h1
    obtain ⟨v, hv⟩ : ∃ v, vs = [v] := by
      match vs, hs with
      | [v], _ => exact ⟨v, rfl⟩
      | [], hs => simp at hs; omega
      | _ :: _ :: _, hs => simp at hs; omega
    subst hv
    exact h.2 0 v _ rfl (by simp [h1])
  · rename_i h1
    have : packV vs = .tuple ⟨vs⟩ := by
      match vs, hs with
      | [v], hs => simp at hs; omega
      | [], _ => rfl
      | _ :: _ :: _, _ => rfl
    rw [this]
    exact VRel.mkTuple h

theorem results_sound (ok : EnvOk E) {ρ : Rho} {nt : Nat} {t : Tr Value} {h : H} {tmps : Array Value} {w : World} (tr : TRel ρ nt t tmps) (i : Inv E ρ h w.heap) {fn : Func} {vs : List Value} (hv : resultsC E t h fn.results.toList = some vs) :
    ∃ v', (results fn tmps).run E.P w = .ok v' w ∧ VRel ρ (packV vs) v' := by
  obtain ⟨vs', h1, h2⟩ := mapM_results ok tr i _ _ hv
  refine ⟨_, ?_, packV_rel (vs' := vs'.toArray) (by simpa using h2)⟩
  unfold results
  rw [Sem.run_bind]
  have hm : ∀ (f : ResultVar → Sem Value), (fn.results.mapM f).run E.P w = ((fn.results.toList.mapM f).run E.P w).andThen fun l w => .ok l.toArray w := by
    intro f
    rw [Array.mapM_eq_mapM_toList]
    show Sem.run E.P ((fn.results.toList.mapM f) >>= fun l => pure l.toArray) w = _
    rw [Sem.run_bind]
    congr 1
  rw [hm]
  erw [h1]
  simp only [Result.andThen_ok, Sem.run_pure]

/-- how a deferred function goes -/
theorem dcall_sound (ok : EnvOk E) (hC : CallOk E C) {f : FuncId} {args : Array Value} {h h' : H} {n : Nat} (hd : dcall E C n f args h = some h') {ρ : Rho} {w : World} {args' : Array Value} (i : Inv E ρ h w.heap) (g : GOk E ρ)
    (ha : LRel ρ args.toList args'.toList) (u : FrameMode) :
    (callFunc f args').run E.P w = .ok (.enter f args') w ∧ CallsD E.P f args' u w fun e u' w' => u' = u ∧ (∃ v, e = .returned v) ∧ ∃ ρ', Inv E ρ' h' w'.heap ∧ Stp h.nx ρ ρ' h h' w w' := by
  unfold dcall at hd
  split at hd
  · cases hd
  rename_i cf hf
  split at hd
  · rename_i s hb
    split at hd
    · rename_i vs hds hv
      simp only [Option.some.injEq] at hd; subst hd
      obtain ⟨fn, h1, h2, h3, h4, h5⟩ := ok.F f cf hf
      refine ⟨enter_run h1 h2 h5 w, ?_⟩
      refine CallsD.mono (callsD_of_wp (R := fun e w' => (∃ v, e = .returned v) ∧ ∃ ρ', Inv E ρ' s.h w'.heap ∧ Stp h.nx ρ ρ' h s.h w w') h1 h2 ?_) fun e u' w' hr => hr
      rw [h3]
      refine wp_mono (bodyC_sound ok hC hf hb i g ha) fun e a w' hp => ?_
      obtain ⟨he, ρ', r, st⟩ := hp
      have hda : a.defers = [] := by
        have := r.d
        rw [hds] at this
        cases hx : a.defers with
        | nil => rfl
        | cons d l => rw [hx] at this; exact this.elim
      rw [← h4] at hv
      obtain ⟨v', g1, g2⟩ := results_sound ok r.t r.h hv
      have hR : bodyPost E.P fn (fun e w' => (∃ v, e = .returned v) ∧ ∃ ρ', Inv E ρ' s.h w'.heap ∧ Stp h.nx ρ ρ' h s.h w w') .normal a w' := ⟨hda, v', g1, ⟨v', rfl⟩, ρ', r.h, st⟩
      rcases he with rfl | rfl <;> exact hR
    · cases hd
  · cases hd

theorem runDefers_sound (ok : EnvOk E) (hC : CallOk E C) {fn : Func} {cf : CF} (hres : fn.results.toList = cf.results) {tmps : Array Value} {t : Tr Value} {R : Ending → World → Prop} {n : Nat} : ∀ (ds : List Deferred) (h h' : H), runDefers E C n ds h = some h' →
    ∀ (ρ : Rho) (w : World) (ds' : List Deferred), DsRel ρ ds ds' → Inv E ρ h w.heap → GOk E ρ → TRel ρ cf.ntmps t tmps → ∀ vs, resultsC E t h' cf.results = some vs →
      (∀ ρ' v' w', VRel ρ' (packV vs) v' → Inv E ρ' h' w'.heap → Stp h.nx ρ ρ' h h' w w' → R (.returned v') w') → Leaves E.P fn tmps R ds' .returning w := by
  intro ds
  induction ds with
  | nil =>
    intro h h' hd ρ w ds' dr i g tr vs hv hR
    simp only [runDefers, Option.some.injEq] at hd; subst hd
    cases ds' with
    | cons d l => exact dr.elim
    | nil =>
      rw [← hres] at hv
      obtain ⟨v', g1, g2⟩ := results_sound ok tr i hv
      exact ⟨v', g1, hR ρ v' w g2 i .refl⟩
  | cons d l ih =>
    intro h h' hd ρ w ds' dr i g tr vs hv hR
    cases ds' with
    | nil => exact dr.elim
    | cons d' l' =>
      obtain ⟨⟨f, cap, cap', t1, t2, r1, r2⟩, drl⟩ := dr
      simp only [runDefers, t1] at hd
      split at hd
      · rename_i h1 hdc
        have hargs : LRel ρ (⟨d.args.toList ++ cap.toList⟩ : Array Value).toList (d'.args ++ cap').toList := by
          simp only [Array.toList_append]
          exact r2.append r1
        obtain ⟨q1, q2⟩ := dcall_sound ok hC hdc i g hargs .returning
        obtain ⟨tg, as⟩ := d'
        simp only at t2
        subst t2
        refine leaves_cons (by simp) (f := f) (args := as ++ cap') (by simpa [invoke] using q1) ?_
        refine q2.mono fun e u' w' he => ?_
        obtain ⟨rfl, ⟨v, rfl⟩, ρ', i', st⟩ := he
        exact ih h1 h' hd ρ' w' l' (drl.mono st.ext) i' (g.mono st.ext) (tr.mono st.ext) vs hv fun ρ'' v'' w'' a b c => hR ρ'' v'' w'' a b (st.trans i st.mono c)
      · cases hd

theorem findByte_eq (c : UInt8) : ∀ (l : List UInt8) (i : Nat), findByte c.toNat l i = if Lib.indexByte l c = -1 then -1 else i + Lib.indexByte l c := by
  intro l
  induction l with
  | nil => intro i; simp [findByte, Lib.indexByte]
  | cons b l ih =>
    intro i
    simp only [findByte, Lib.indexByte, cond_eq_ite, nbeq, decide_eq_true_eq, beq_iff_eq]
    have : b.toNat = c.toNat ↔ b = c := UInt8.toNat_inj
    simp only [this]
    by_cases hb : b = c
    · simp [hb]
    · simp only [hb, if_false, ih]
      have hge := Lib.indexByte_ge l c
      by_cases h1 : Lib.indexByte l c = -1
      · simp [h1]
      · simp only [h1, if_false]
        rw [if_neg (by omega)]
        omega

theorem countByte_eq (c : UInt8) : ∀ (l : List UInt8) (n : Nat), countByte c.toNat l n = n + Lib.countByte l c := by
  intro l
  induction l with
  | nil => intro n; simp [countByte, Lib.countByte]
  | cons b l ih =>
    intro n
    have : b.toNat = c.toNat ↔ b = c := UInt8.toNat_inj
    simp only [countByte, Lib.countByte, cond_eq_ite, nbeq, decide_eq_true_eq, ih, this, List.count_cons, beq_iff_eq]
    split <;> omega

theorem toUInt8_mod (n : Nat) : (n.toUInt8).toNat = n % 256 := by simp

theorem find_name {fn : Func} {n : String} {e : Array Value → Sem Value} (hn : fn.name = n) (h1 : Extern.allGenericRows.lookup n = none) (h2 : (Extern.allTypedRows.lookup n).isNone = true) (h3 : Extern.allRows.lookup n = some e) : Extern.find fn = some e := by
  unfold Extern.find
  simp only [hn, h1, h3]
  cases h : Extern.allTypedRows.lookup n with
  | none => simp
  | some x => rw [h] at h2; cases h2

theorem extern_run {f : FuncId} {fn : Func} {e : Array Value → Sem Value} (hf : E.P.funcs[f]? = some fn) (hb : fn.body = none) (hx : (Extern.findNext fn).isNone = true) (he : Extern.find fn = some e) (hn : fn.name ≠ "runtime.NumGoroutine")
    {args : Array Value} {w w' : World} {v : Value} (hr : (e args).run E.P w = .ok v w') : (callFunc f args).run E.P w = .ok (.value v) w' := by
  have hx' : Extern.findNext fn = none := by cases h : Extern.findNext fn with
    | none => rfl
    | some x => rw [h] at hx; cases hx
  simp [callFunc, hf, hb, hn, hx', he, hr]

theorem digits_one : ∀ (n t : Nat) (acc : Array Value), (∀ v ∈ acc, oneCell v = true) → ∀ v ∈ Extern.BytealgMakeNoZero.digits n t acc, oneCell v = true := by
  intro n
  induction n with
  | zero => intro t acc h; exact h
  | succ n ih =>
    intro t acc h
    refine ih _ _ fun v hv => ?_
    rcases Array.mem_push.1 hv with hv | rfl
    · exact h v hv
    · rfl

theorem run_noZero (ps : Array TypeId) (t e : TypeId) (w : World) (ht : E.P.underlying t = some (.slice e)) (n : Nat) (hn : n ≤ 281474976710656) :
    ∃ (cs : Array Value) (w' : World), (Extern.BytealgMakeNoZero.makeNoZero ps #[t] #[.int .i64 n]).run E.P w = .ok (.slice (some ⟨w.heap.size, 0, none⟩) n cs.size) w' ∧ n ≤ cs.size ∧ SameOut w w' ∧ w'.heap = w.heap.push (.cells cs e) ∧ ∀ v ∈ cs, oneCell v = true := by
  have hdef : Extern.BytealgMakeNoZero.makeNoZero ps #[t] #[.int .i64 n] =
      (do
        let .slice elem ← underlying t | stuck "bytealg.MakeNoZero: slice type expected"
        if (n : Int) < 0 || (n : Int) > 2 ^ 48 then runtimePanic (.error "makeslice: len out of range")
        let cap ← choose (.appendCap (n : Int).toNat 0 elem)
        askRoom cap
        let bytes ← choose (.extern "internal/bytealg.MakeNoZero.bytes" 0)
        let a ← newRow elem (Extern.BytealgMakeNoZero.digits cap bytes #[])
        pure (.slice (some a) (n : Int).toNat cap)) := rfl
  refine ⟨Extern.BytealgMakeNoZero.digits (grownCap w n 0 e) ((Question.extern "internal/bytealg.MakeNoZero.bytes" 0).cut (w.tape (w.drawn + 1) (.extern "internal/bytealg.MakeNoZero.bytes" 0))) #[], w.drew.drew.alloc (.cells _ e), ?_, ?_, ⟨rfl, rfl⟩, rfl, digits_one _ _ _ (by simp)⟩
  · rw [hdef]
    have h1 : ¬ (n : Int) < 0 := by omega
    have h2 : ¬ (281474976710656 : Int) < (n : Int) := by omega
    simp [run_underlying ht, h1, h2, Question.forced, newRow, Lib.size_digits, grownCap]
  · rw [Lib.size_digits]
    simpa using grownCap_ge w n 0 e

theorem externC_sound (ok : EnvOk E) {f : FuncId} {args : Array Value} {h h' : H} {v : Value} (hr : externC E f args.toList h = some (v, h')) {ρ : Rho} {w : World} {args' : Array Value} (i : Inv E ρ h w.heap)
    (ha : LRel ρ args.toList args'.toList) : ∃ v' w', (callFunc f args').run E.P w = .ok (.value v') w' ∧ Wrote E ρ h h' w v v' w' := by
  unfold externC at hr
  split at hr
  · cases hr
  rename_i fn hf
  have two : ∀ {s : ByteArray} {c : Int}, LRel ρ [.string s, .int .u8 c] args'.toList → args' = #[.string s, .int .u8 c] := by
    intro s c h
    obtain ⟨x, r, h1, h2, h3⟩ := h.cons_inv
    obtain ⟨y, r', h4, h5, h6⟩ := h3.cons_inv
    have := h6.nil_inv
    subst this
    cases h2; cases h5
    subst h4
    exact Array.toList_inj.1 h1
  simp only [cond_eq_ite, beq_iff_eq] at hr
  split at hr
  · rename_i hn
    split at hr
    · rename_i s c heq
      simp only [Option.some.injEq, Prod.mk.injEq] at hr
      obtain ⟨rfl, rfl⟩ := hr
      rw [heq] at ha
      obtain ⟨hb, hx⟩ := ok.X f fn hf (by rw [hn]; simp)
      have h1 := Lib.run_indexByteString (P := E.P) s c w
      refine ⟨_, w, extern_run hf hb hx (find_name hn (by kernel_rfl) (by kernel_rfl) (e := Extern.BytealgIndexByte.indexByte) (by kernel_rfl)) (by rw [hn]; simp) (by rw [two ha]; exact h1), ρ, ?_, i, .refl⟩
      have : findByte (c.toNat % 256) s.data.toList 0 = Lib.indexByte s.data.toList c.toNat.toUInt8 := by
        rw [← toUInt8_mod, findByte_eq]
        split <;> simp_all
      rw [this]
      exact .int _ _
    · cases hr
  · split at hr
    · rename_i hn
      split at hr
      · rename_i s c heq
        simp only [Option.some.injEq, Prod.mk.injEq] at hr
        obtain ⟨rfl, rfl⟩ := hr
        rw [heq] at ha
        obtain ⟨hb, hx⟩ := ok.X f fn hf (by rw [hn]; simp)
        have h1 := Lib.run_countString (P := E.P) s c w
        refine ⟨_, w, extern_run hf hb hx (find_name hn (by kernel_rfl) (by kernel_rfl) (e := Extern.BytealgCount.count) (by kernel_rfl)) (by rw [hn]; simp) (by rw [two ha]; exact h1), ρ, ?_, i, .refl⟩
        rw [← toUInt8_mod, countByte_eq, Nat.zero_add]
        exact .int _ _
      · cases hr
    · split at hr
      · rename_i hn
        split at hr
        · rename_i u heq
          simp only [Option.some.injEq, Prod.mk.injEq] at hr
          obtain ⟨rfl, rfl⟩ := hr
          rw [heq] at ha
          obtain ⟨hb, hx⟩ := ok.X f fn hf (by rw [hn]; simp)
          obtain ⟨x, r, h1, h2, h3⟩ := ha.cons_inv
          have := h3.nil_inv
          subst this
          have ha' : args' = #[x] := Array.toList_inj.1 h1
          refine ⟨x, w, extern_run hf hb hx (find_name hn (by kernel_rfl) (by kernel_rfl) (e := Extern.AbiNoEscape.same) (by kernel_rfl)) (by rw [hn]; simp) (by rw [ha']; rfl), ρ, h2, i, .refl⟩
        · cases hr
      · split at hr
        · rename_i hn
          split at hr
          · rename_i n t heq hres
            split at hr
            · rename_i ct hct
              split at hr
              · rename_i e hu
                split at hr
                · rename_i ce hce
                  split at hr
                  · rename_i hcond
                    simp only [Bool.and_eq_true, nble, nbeq, decide_eq_true_eq] at hcond
                    simp only [Option.some.injEq, Prod.mk.injEq] at hr
                    obtain ⟨rfl, rfl⟩ := hr
                    rw [heq] at ha
                    obtain ⟨hb, hx⟩ := ok.X f fn hf (by rw [hn]; simp)
                    obtain ⟨x, r, h1, h2, h3⟩ := ha.cons_inv
                    have := h3.nil_inv
                    subst this
                    cases h2
                    have ha' : args' = #[.int .i64 (n : Int)] := Array.toList_inj.1 h1
                    have hrt : fn.resultTypes = #[t] := Array.toList_inj.1 hres
                    have hund : E.P.underlying t = some (.slice e) := by rw [← hu]; exact (ok.T t ct hct).1
                    obtain ⟨cs, w', g1, g2, g0, g3, g4⟩ := run_noZero fn.params t e w hund n (by have := hcond.1; unfold MAXAPP at this; omega)
                    obtain ⟨n1, n2⟩ := hnone i
                    let l : Loc := ⟨w.heap.size, 0, n, cs.size, 1⟩
                    have hfind : Extern.find fn = some (Extern.BytealgMakeNoZero.makeNoZero fn.params fn.resultTypes) := by
                      unfold Extern.find
                      have q1 : Extern.allGenericRows.lookup "internal/bytealg.MakeNoZero" = none := by kernel_rfl
                      have q2 : Extern.allTypedRows.lookup "internal/bytealg.MakeNoZero" = some Extern.BytealgMakeNoZero.makeNoZero := by kernel_rfl
                      simp only [hn, q1, q2]
                      rfl
                    have hrow : ORel E (upd ρ h.nx l) (.row .e n e true 0) l (some (.cells cs e)) := by
                      refine ⟨cs, (0, 0), rfl, rfl, g2, by simp [l], fun j v _ hv => by simp [Tr.get_e] at hv, fun j v hv => g4 v (Array.mem_of_getElem? hv), by simp, fun _ ct' hct' => ?_, by simp [frz]⟩
                      rw [hce] at hct'; cases hct'
                      exact hcond.2.symm
                    obtain ⟨m1, m2⟩ := i.alloc h.nx (h.nx + 1) n1 n2 (Nat.lt_succ_self _) (Nat.le_succ _) (.row .e n e true 0) (.cells cs e) l rfl hrow g3 g0
                    refine ⟨_, w', extern_run hf hb hx hfind (by rw [hn]; simp) (by rw [ha', hrt]; exact g1), upd ρ h.nx l, ?_, m1, m2⟩
                    have := VRel.opn (ρ := upd ρ h.nx l) h.nx 0 n cs.size l (upd_self _ _ _) (by simp [l]) g2
                    simpa [l] using this
                  · cases hr
                · cases hr
              · cases hr
            · cases hr
          · cases hr
        · cases hr

/-- the evaluator's answer is the model's -/
theorem callOk (ok : EnvOk E) : ∀ n, CallOk E (ccall E n) := by
  intro n
  induction n with
  | zero => intro f args h v h' hc; simp [ccall] at hc
  | succ n ih =>
    intro f args h v h' hc ρ w args' i g ha
    simp only [ccall] at hc
    split at hc
    · obtain ⟨v', w', h1, h2⟩ := externC_sound ok hc i ha
      exact .inr ⟨v', w', h1, h2⟩
    · rename_i cf hf
      split at hc
      · rename_i s hb
        split at hc
        · rename_i h1 hd
          split at hc
          · rename_i vs hv
            simp only [Option.some.injEq, Prod.mk.injEq] at hc
            obtain ⟨rfl, rfl⟩ := hc
            obtain ⟨fn, q1, q2, q3, q4, q5⟩ := ok.F f cf hf
            refine .inl ⟨enter_run q1 q2 q5 w, ?_⟩
            refine calls_of_wp_defers q1 q2 ?_
            rw [q3]
            refine wp_mono (bodyC_sound ok ih hf hb i g ha) fun e a w1 hp => ?_
            obtain ⟨he, ρ1, r, st⟩ := hp
            have hL : bodyPostD E.P fn (fun e w' => ∃ v', e = .returned v' ∧ Wrote E ρ h h1 w (packV vs) v' w') .normal a w1 :=
              runDefers_sound ok ih q4 s.ds s.h h1 hd ρ1 w1 a.defers r.d r.h (g.mono st.ext) r.t vs hv fun ρ2 v' w2 a b c => ⟨v', rfl, ρ2, a, b, st.trans i st.mono c⟩
            rcases he with rfl | rfl <;> exact hL
          · cases hc
        · cases hc
      · cases hc

end
end Go.CS

/- The tables of a program: what must be checked of them; what the evaluator's answer says of a call. -/
namespace Go.CS
open Go

def AllT {α : Type} (p : Nat → α → Prop) : Tr α → Nat → Nat → Prop
  | .e, _, _ => True
  | .n v l r, a, s => (∀ x, v = some x → p a x) ∧ AllT p l (a + s) (2 * s) ∧ AllT p r (a + 2 * s) (2 * s)

theorem AllT.node {α : Type} {p : Nat → α → Prop} {v : Option α} {l r : Tr α} {a s : Nat} (h1 : ∀ x, v = some x → p a x) (h2 : AllT p l (a + s) (2 * s)) (h3 : AllT p r (a + 2 * s) (2 * s)) : AllT p (.n v l r) a s := ⟨h1, h2, h3⟩

theorem AllT.get {α : Type} {p : Nat → α → Prop} : ∀ (t : Tr α) (a s j : Nat) (x : α), AllT p t a s → t.get j = some x → p (a + s * j) x := by
  intro t
  induction t with
  | e => intro a s j x _ h; rw [Tr.get_e] at h; cases h
  | n v l r ihl ihr =>
    intro a s j x hA h
    obtain ⟨h1, h2, h3⟩ := hA
    cases j with
    | zero => rw [Tr.get_zero] at h; rw [Nat.mul_zero, Nat.add_zero]; exact h1 x h
    | succ j =>
      rw [Tr.get_succ] at h
      rcases Tr.beq2 j with ⟨hm, hb⟩ | ⟨hm, hb⟩
      · rw [hb, cond_true] at h
        have := ihl (a + s) (2 * s) (j / 2) x h2 h
        have e : a + s * (j + 1) = a + s + 2 * s * (j / 2) := by
          have h3 : j = 2 * (j / 2) := by omega
          have h4 : s * (j + 1) = s + s * j := by rw [Nat.mul_add, Nat.mul_one, Nat.add_comm]
          have h5 : 2 * s * (j / 2) = s * (2 * (j / 2)) := by rw [Nat.mul_comm 2 s, Nat.mul_assoc]
          rw [h4, h5, ← h3]; omega
        rw [e]; exact this
      · rw [hb, cond_false] at h
        have := ihr (a + 2 * s) (2 * s) (j / 2) x h3 h
        have e : a + s * (j + 1) = a + 2 * s + 2 * s * (j / 2) := by
          have h3 : j + 1 = 2 + 2 * (j / 2) := by omega
          have h5 : 2 * s * (j / 2) = s * (2 * (j / 2)) := by rw [Nat.mul_comm 2 s, Nat.mul_assoc]
          rw [h5, h3, Nat.mul_add, Nat.mul_comm s 2]; omega
        rw [e]; exact this

def TOk (P : Program) (t : TypeId) (ct : CT) : Prop :=
  (P.underlying t = some ct.u ∧ ∃ i, P.info? t = some i ∧ i.size = ct.size ∧ i.bytes = ct.bytes ∧ i.zero = ct.zero) ∧ ∀ z, ct.zero = some z → closed 4 z = true

def zeroOk : Option Value → Bool
  | some z => closed 4 z
  | none => true

theorem tok {P : Program} {t : TypeId} {i u : TypeInfo} (h1 : P.info? t = some i) (h2 : P.underlying t = some u.desc) (h3 : zeroOk i.zero = true) : ∀ x, some (mkT i u) = some x → TOk P t x := by
  intro x hx
  cases hx
  refine ⟨⟨h2, i, h1, rfl, rfl, rfl⟩, fun z hz => ?_⟩
  have : i.zero = some z := hz
  rw [this] at h3; exact h3

def FOk (E : Env) (f : FuncId) (cf : CF) : Prop :=
  (∃ fn, E.P.funcs[f]? = some fn ∧ fn.body = some cf.code ∧ fn.ntmps = cf.ntmps ∧ fn.results.toList = cf.results ∧ fn.name ≠ "runtime.NumGoroutine") ∧ codeOk E cf.ntmps cf.plans cf.code = true

def goodF (E : Env) (fn : Func) (pl : Tr Plan) : Bool :=
  match fn.body with
  | some c => !(fn.name == "runtime.NumGoroutine") && codeOk E fn.ntmps pl c
  | none => false

theorem fok {E : Env} {f : FuncId} {fn : Func} {pl : Tr Plan} (h1 : E.P.funcs[f]? = some fn) (h2 : goodF E fn pl = true) : ∀ x, some (mkF fn pl) = some x → FOk E f x := by
  intro x hx
  cases hx
  unfold goodF at h2
  cases hb : fn.body with
  | none => rw [hb] at h2; cases h2
  | some c =>
    rw [hb] at h2
    simp only [Bool.and_eq_true, Bool.not_eq_true', beq_eq_false_iff_ne] at h2
    have hc : (mkF fn pl).code = c := by simp only [mkF, hb]
    exact ⟨⟨fn, h1, by rw [hc]; exact hb, rfl, rfl, h2.1⟩, by rw [hc]; exact h2.2⟩

def namesX : List String := ["internal/bytealg.IndexByteString", "internal/bytealg.CountString", "internal/abi.NoEscape", "internal/bytealg.MakeNoZero"]
def goodX (P : Program) : Bool := P.funcs.toList.all fun fn => !(namesX.contains fn.name) || (fn.body.isNone && (Extern.findNext fn).isNone)

theorem envOk {E : Env} (hT : AllT (TOk E.P) E.T 0 1) (hF : AllT (FOk E) E.F 0 1) (hm : E.P.follows .mixedOrders = true) (hX : goodX E.P = true) : EnvOk E := by
  have hT' : ∀ t ct, E.T.get t = some ct → TOk E.P t ct := fun t ct h => by have := AllT.get _ 0 1 t ct hT h; simpa using this
  have hF' : ∀ f cf, E.F.get f = some cf → FOk E f cf := fun f cf h => by have := AllT.get _ 0 1 f cf hF h; simpa using this
  refine ⟨fun t ct h => (hT' t ct h).1, fun t ct z h hz => (hT' t ct h).2 z hz, fun f cf h => (hF' f cf h).1, hm, fun f cf h => (hF' f cf h).2, fun f fn hf hn => ?_⟩
  have hmem : fn ∈ E.P.funcs.toList := by simpa using Array.mem_of_getElem? hf
  have := List.all_eq_true.1 hX fn hmem
  have hc : namesX.contains fn.name = true := by simpa [namesX] using hn
  rw [hc] at this
  simp only [Bool.not_true, Bool.false_or, Bool.and_eq_true] at this
  exact ⟨by simpa using this.1, this.2⟩

section
variable {E : Env}

theorem calls_of_ccall (ok : EnvOk E) {f : FuncId} {cf : CF} (hf : E.F.get f = some cf) {n : Nat} {args : Array Value} {h h' : H} {v : Value} (hc : ccall E n f args h = some (v, h')) {ρ : Rho} {w : World} {args' : Array Value}
    (i : Inv E ρ h w.heap) (g : GOk E ρ) (ha : LRel ρ args.toList args'.toList) : Calls E.P f args' w fun e w' => ∃ v', e = .returned v' ∧ Wrote E ρ h h' w v v' w' := by
  rcases callOk ok n f args h v h' hc ρ w args' i g ha with ⟨_, h2⟩ | ⟨v', w', h2, _⟩
  · exact h2
  · obtain ⟨fn, q1, q2, _, _, q5⟩ := ok.F f cf hf
    rw [enter_run q1 q2 q5 w] at h2
    cases h2

theorem kept_of_stp {ρ ρ' : Rho} {h' : H} {n : Nat} {w w' : World} (s : Stp n ρ ρ' ⟨.e, n⟩ h' w w') : w.keptBut w' (fun _ => False) := by
  refine ⟨s.same.1, s.same.2, fun x hx => ?_⟩
  have := s.frame x hx fun b o l ho _ => by rw [Tr.get_e] at ho; cases ho
  rw [this]
  obtain ⟨o, ho⟩ : ∃ o, w.heap[x]? = some o := ⟨w.heap[x], by simp [hx]⟩
  rw [ho]
  cases o <;> simp

/-- a law over arguments that name no memory: the evaluator says true -/
theorem calls_true (ok : EnvOk E) (hg : ∀ g, E.glob g = false) {f : FuncId} {cf : CF} (hf : E.F.get f = some cf) (n : Nat) (args : Array Value) (hcl : allB (closed 4) args.toList = true)
    (hc : isTrueRes (ccall E n f args ⟨.e, 0⟩) = true) (w : World) : Calls E.P f args w fun e w' => e = .returned (.bool true) ∧ w.keptBut w' (fun _ => False) ∧ w.heap.size ≤ w'.heap.size := by
  cases hr : ccall E n f args ⟨.e, 0⟩ with
  | none => rw [hr] at hc; cases hc
  | some p =>
    obtain ⟨v, h'⟩ := p
    rw [hr] at hc
    have hv : v = .bool true := by
      unfold isTrueRes at hc
      split at hc
      · rename_i heq; cases heq; rw [hc]
      · cases hc
    subst hv
    have hi : Inv E (fun _ => none) ⟨.e, 0⟩ w.heap := ⟨fun b o l ho _ => by simp [Tr.get_e] at ho, fun b b' o o' l l' ho => by simp [Tr.get_e] at ho, fun b o ho => by simp [Tr.get_e] at ho, fun b l hl => by cases hl⟩
    have hl : LRel (fun _ => none) args.toList args.toList := by
      refine ⟨rfl, fun j x y hx hy => ?_⟩
      rw [hx] at hy; cases hy
      exact closed_refl 4 x ((allB_iff _ _).1 hcl x (List.mem_of_getElem? hx))
    refine Calls.mono (calls_of_ccall ok hf hr hi (fun g hgg => by rw [hg g] at hgg; cases hgg) hl) fun e w' he => ?_
    obtain ⟨v', rfl, ρ', hv, _, st⟩ := he
    cases hv
    exact ⟨rfl, kept_of_stp st, st.size⟩
end
end Go.CS

