/- One operation; operations in their order. -/
import Derived.Test.YtalkgjnbjfpdmaaGreatDoorCsOpG
import Derived.Scope
import Derived.LoopN
set_option linter.unusedVariables false
set_option linter.unusedSimpArgs false
set_option linter.unusedSectionVars false
set_option linter.deprecated false

namespace Go.CS
open Go

def DRel (ρ : Rho) (d d' : Deferred) : Prop :=
  ∃ f cap cap', d.target = .fn (.func f) cap ∧ d'.target = .fn (.func f) cap' ∧ LRel ρ cap.toList cap'.toList ∧ LRel ρ d.args.toList d'.args.toList
theorem DRel.mono {ρ ρ' : Rho} (h : Ext ρ ρ') {d d' : Deferred} (r : DRel ρ d d') : DRel ρ' d d' :=
  let ⟨f, cap, cap', h1, h2, h3, h4⟩ := r; ⟨f, cap, cap', h1, h2, h3.mono h, h4.mono h⟩

def DsRel (ρ : Rho) : List Deferred → List Deferred → Prop
  | [], [] => True
  | d :: l, d' :: l' => DRel ρ d d' ∧ DsRel ρ l l'
  | _, _ => False
theorem DsRel.mono {ρ ρ' : Rho} (h : Ext ρ ρ') : ∀ {l l' : List Deferred}, DsRel ρ l l' → DsRel ρ' l l'
  | [], [], _ => trivial
  | d :: l, d' :: l', ⟨a, b⟩ => ⟨a.mono h, DsRel.mono h b⟩
  | [], _ :: _, h => h.elim
  | _ :: _, [], h => h.elim

structure SRel (E : Env) (nt : Nat) (ρ : Rho) (s : St) (a : Act) (w : World) : Prop where
  t : TRel ρ nt s.t a.tmps
  h : Inv E ρ s.h w.heap
  d : DsRel ρ s.ds a.defers
  g : GOk E ρ

section
variable {E : Env} {ρ : Rho} {w : World} {nt : Nat}

theorem TRel.put {s : Tr Value} {a : Act} (tr : TRel ρ nt s a.tmps) {v v' : Value} (hv : VRel ρ v v') (d : Option Tmp) : TRel ρ nt (CS.put s nt d v) (a.put d v').tmps := by
  cases d with
  | none => exact tr
  | some d =>
    refine ⟨by simp [Act.put, tr.1], fun i => ?_⟩
    simp only [CS.put, cond_eq_ite, nblt, decide_eq_true_eq, Act.put]
    by_cases hd : d < nt
    · rw [if_pos hd]
      by_cases hi : i = d
      · subst hi
        rw [Tr.get_set_self]
        have : i < a.tmps.size := by rw [tr.1]; exact hd
        simpa [this] using hv
      · rw [Tr.get_set_ne _ _ _ hi]
        have := tr.2 i
        simpa [Array.getD_eq_getD_getElem?, Array.getElem?_setIfInBounds_ne (Ne.symm hi)] using this
    · rw [if_neg hd]
      have := tr.2 i
      have hs : a.tmps.setIfInBounds d v' = a.tmps := by
        apply Array.ext'; simp only [Array.toList_setIfInBounds]; exact List.set_eq_of_length_le (by rw [Array.length_toList, tr.1]; exact Nat.le_of_not_lt hd)
      rw [hs]; exact this

theorem Stp.weak {ρ' : Rho} {h h' : H} {w w' : World} {N M : Nat} (s : Stp N ρ ρ' h h' w w') (hM : M ≤ N) : Stp M ρ ρ' h h' w w' :=
  ⟨s.mono, s.ext, fun b l e => (s.dom b l e).imp id (Nat.le_trans hM), s.size, s.frame, s.fresh, fun b o e => (s.live b o e).imp id (Nat.le_trans hM), s.same⟩

theorem put_defers (a : Act) (d : Option Tmp) (v : Value) : (a.put d v).defers = a.defers := by cases d <;> rfl

theorem wanted_sound {s : Tr Value} {a : Act} (tr : TRel ρ nt s a.tmps) {ops : Array Oper} {dsts : Nat → Option Tmp} (hd : ∀ j, dsts j = (ops[j]?).bind (·.dst)) {o : Oper} {b : Bool} (hw : wantedC s dsts o.guard = some b) :
    Region.wanted o (yielded ops a.tmps) = b := by
  unfold wantedC at hw
  unfold Region.wanted
  cases hg : o.guard with
  | none => rw [hg] at hw; simpa using hw
  | some p =>
    obtain ⟨j, want⟩ := p
    rw [hg] at hw
    simp only [hd] at hw ⊢
    unfold yielded
    cases hdj : (ops[j]?).bind (·.dst) with
    | none => simp only [hdj, Option.some.injEq] at hw; subst hw; simp
    | some d =>
      simp only [hdj] at hw
      have hr := tr.2 d
      simp only [Option.bind_some]
      have hgd : a.tmps.getD d undef = (a.tmps[d]?).getD undef := by simp
      rw [hgd] at hr
      cases hs : s.get d with
      | none =>
        simp only [hs, Option.some.injEq] at hw; subst hw
        rw [hs] at hr
        simp only [Option.getD_none] at hr
        cases ht : a.tmps[d]? with
        | none => simp
        | some u =>
          rw [ht] at hr
          simp only [Option.getD_some] at hr
          cases u <;> simp <;> (cases hr)
      | some v =>
        rw [hs] at hr
        simp only [Option.getD_some] at hr
        simp only [hs] at hw
        cases ht : a.tmps[d]? with
        | none =>
          rw [ht] at hr
          simp only [Option.getD_none] at hr
          cases v <;> simp at hw <;> first | (subst hw; simp; done) | cases hr
        | some u =>
          rw [ht] at hr
          simp only [Option.getD_some] at hr
          cases v <;> simp at hw <;> first
            | (subst hw; cases hr <;> simp; done)
            | (cases hr; simp [← hw])

/-- how a call of a function goes -/
def CallGoes (P : Program) (f : FuncId) (args : Array Value) (w : World) (R : Value → World → Prop) : Prop :=
  ((callFunc f args).run P w = .ok (.enter f args) w ∧ Calls P f args w fun e w' => ∃ v', e = .returned v' ∧ R v' w') ∨
  ∃ v' w', (callFunc f args).run P w = .ok (.value v') w' ∧ R v' w'

def CallOk (E : Env) (C : Caller) : Prop :=
  ∀ f (args : Array Value) h v h', C f args h = some (v, h') → ∀ ρ w (args' : Array Value), Inv E ρ h w.heap → GOk E ρ → LRel ρ args.toList args'.toList →
    CallGoes E.P f args' w fun v' w' => Wrote E ρ h h' w v v' w'

theorem resolve_sound {s : Tr Value} {a : Act} (g : GOk E ρ) (tr : TRel ρ nt s a.tmps) {c : Call} {f : FuncId} {args : Array Value} {type : TypeId} (hr : resolveCall E s c = some (f, args)) :
    ∃ d cap, (∀ w, (resolve a.eval c type).run E.P w = .ok d w) ∧ d.target = .fn (.func f) cap ∧ LRel ρ args.toList (d.args ++ cap).toList := by
  unfold resolveCall at hr
  split at hr
  · rename_i x hc
    split at hr
    · rename_i f1 first captured as hx has
      simp only [Option.some.injEq, Prod.mk.injEq] at hr
      obtain ⟨rfl, rfl⟩ := hr
      have h1 := ev_sound g tr hx
      obtain ⟨first', captured', he⟩ : ∃ b' c', a.eval x = .func (.func f1) b' c' := by generalize a.eval x = z at h1; cases h1; exact ⟨_, _, rfl⟩
      rw [he] at h1
      have h2 := evs_sound g tr _ _ has
      obtain ⟨r1, r2⟩ : LRel ρ first.toList first'.toList ∧ LRel ρ captured.toList captured'.toList := by
        cases h1 with | func _ _ _ _ _ q1 q2 q3 q4 => exact ⟨LRel.of_array q1 q3, LRel.of_array q2 q4⟩
      refine ⟨{ target := .fn (.func f1) captured', args := first' ++ c.args.map a.eval }, captured', fun w => by simp [resolve, hc, he, Deferred.ofValue], rfl, ?_⟩
      simp only [Array.toList_append, Array.toList_map]
      exact (r1.append h2).append r2
    · cases hr
  · cases hr

/-- an operation that is wanted; b: where the operands are read, a: where the answer goes -/
theorem op_sound (ok : EnvOk E) {C : Caller} (hC : CallOk E C) {o : Oper} {t : Tr Value} {hq h h' : H} {ds ds' : List Deferred} {v : Value} {id nx' : Nat} {a b : Act}
    (hs : opRun E C id nx' o t hq h ds = some (v, h', ds')) (g : GOk E ρ) (tb : TRel ρ nt t b.tmps) (iq : kindOf E o = .quiet → Inv E ρ hq w.heap) (i : Inv E ρ h w.heap) (dr : DsRel ρ ds a.defers)
    (hal : kindOf E o = .alloc → ρ id = none ∧ h.objs.get id = none ∧ id < nx' ∧ h.nx ≤ nx') {K : Act → World → Prop} {Q : Exit → Act → World → Prop}
    (hK : ∀ ρ' v' w' df, VRel ρ' v v' → Inv E ρ' h' w'.heap → Stp (min id h.nx) ρ ρ' h h' w w' → DsRel ρ' ds' df →
      ((kindOf E o ≠ .alloc ∧ Stp h.nx ρ ρ' h h' w w') ∨ (kindOf E o = .alloc ∧ ∀ b, b ≠ id → ρ' b = ρ b)) → K (({ a with defers := df } : Act).put o.dst v') w') :
    o.upon E.P a K Q ((execOp b.eval o).run E.P w) := by
  -- an operation that has been carried out
  have fin : ∀ {v' : Value} {w' : World}, ds' = ds → Ran ((execOp b.eval o).run E.P w) v' w' → (∃ ρ', VRel ρ' v v' ∧ Inv E ρ' h' w'.heap ∧ Stp (min id h.nx) ρ ρ' h h' w w' ∧ ((kindOf E o ≠ .alloc ∧ Stp h.nx ρ ρ' h h' w w') ∨ (kindOf E o = .alloc ∧ ∀ b, b ≠ id → ρ' b = ρ b))) →
      o.upon E.P a K Q ((execOp b.eval o).run E.P w) := by
    intro v' w' hds hr hwr
    obtain ⟨ρ', h1, h2, h3, h4⟩ := hwr
    subst hds
    have hK' : K (a.put o.dst v') w' := hK ρ' v' w' a.defers h1 h2 h3 (dr.mono h3.ext) h4
    rcases hr with h | ⟨h, h0⟩
    · rw [h]; exact hK'
    · rw [h]; subst h0; exact hK'
  unfold opRun at hs
  split at hs
  · -- quiet
    rename_i hk
    split at hs
    · rename_i v1 hq1
      simp only [Option.some.injEq, Prod.mk.injEq] at hs
      obtain ⟨rfl, rfl, rfl⟩ := hs
      obtain ⟨v', g1, g2⟩ := qop_sound ok g tb (iq hk) hq1
      exact fin rfl (.inl g1) ⟨ρ, g2, i, .refl, .inl ⟨by rw [hk]; simp, .refl⟩⟩
    · cases hs
  · -- a new block
    rename_i hk
    split at hs
    · rename_i ob hdl ha
      simp only [Option.some.injEq, Prod.mk.injEq] at hs
      obtain ⟨rfl, rfl, rfl⟩ := hs
      obtain ⟨n1, n2, n3, n4⟩ := hal hk
      obtain ⟨v', w1, g1, m0, ob', l, m1, m2, m3⟩ := aop_sound (w := w) ok g tb ha
      obtain ⟨k1, k2⟩ := m3 id (upd ρ id l) (upd_ext n1) (upd_self _ _ _)
      obtain ⟨q1, q2⟩ := i.alloc id nx' n1 n2 n3 n4 ob ob' l m1 k1 m2 m0
      exact fin rfl (.inl g1) ⟨upd ρ id l, k2, q1, q2.weak (Nat.min_le_left _ _), .inr ⟨hk, fun b hb => by simp [upd, hb]⟩⟩
    · cases hs
  · -- a write
    rename_i hk
    split at hs
    · rename_i v1 h1 hwo
      simp only [Option.some.injEq, Prod.mk.injEq] at hs
      obtain ⟨rfl, rfl, rfl⟩ := hs
      obtain ⟨v', w', g1, ρ', g2, g3, g4⟩ := wop_sound ok g tb i hwo
      exact fin rfl g1 ⟨ρ', g2, g3, g4.weak (Nat.min_le_right _ _), .inl ⟨by rw [hk]; simp, g4⟩⟩
    · cases hs
  · -- a call
    rename_i hk
    split at hs
    · rename_i f args hc
      split at hs
      · rename_i v1 h1 hcall
        simp only [Option.some.injEq, Prod.mk.injEq] at hs
        obtain ⟨rfl, rfl, rfl⟩ := hs
        have hop : ∃ c, o.op = .call c ∧ resolveCall E t c = some (f, args) := by
          unfold callOf at hc
          split at hc
          · rename_i c hop; exact ⟨c, hop, hc⟩
          · cases hc
        obtain ⟨c, hop, hres⟩ := hop
        obtain ⟨d, cap, d1, d2, d3⟩ := resolve_sound (type := o.type) g tb hres
        have hex : (execOp b.eval o).run E.P w = (callFunc f (d.args ++ cap)).run E.P w := by
          simp only [execOp, hop, Sem.run_bind, d1, Result.andThen_ok, d2, invoke]
        have hgo := hC f args h v1 h1 hcall ρ w (d.args ++ cap) i g d3
        rcases hgo with ⟨k1, k2⟩ | ⟨v', w', k1, ρ', q1, q2, q3⟩
        · rw [hex, k1]
          refine k2.mono fun e w' he => ?_
          obtain ⟨v', rfl, hwr⟩ := he
          obtain ⟨ρ', q1, q2, q3⟩ := hwr
          exact hK ρ' v' w' a.defers q1 q2 (q3.weak (Nat.min_le_right _ _)) (dr.mono q3.ext) (.inl ⟨by rw [hk]; simp, q3⟩)
        · exact fin rfl (.inl (by rw [hex]; exact k1)) ⟨ρ', q1, q2, q3.weak (Nat.min_le_right _ _), .inl ⟨by rw [hk]; simp, q3⟩⟩
      · cases hs
    · cases hs
  · -- a deferred call
    rename_i hk
    split at hs
    · rename_i d hdo
      simp only [Option.some.injEq, Prod.mk.injEq] at hs
      obtain ⟨rfl, rfl, rfl⟩ := hs
      unfold dop at hdo
      split at hdo
      · rename_i c hop
        split at hdo
        · rename_i x hcx
          split at hdo
          · rename_i f1 first captured as hx has
            simp only [Option.some.injEq] at hdo
            have h1 := ev_sound g tb hx
            obtain ⟨first', captured', he⟩ : ∃ b' c', b.eval x = .func (.func f1) b' c' := by generalize b.eval x = z at h1; cases h1; exact ⟨_, _, rfl⟩
            rw [he] at h1
            have h2 := evs_sound g tb _ _ has
            obtain ⟨r1, r2⟩ : LRel ρ first.toList first'.toList ∧ LRel ρ captured.toList captured'.toList := by
              cases h1 with | func _ _ _ _ _ q1 q2 q3 q4 => exact ⟨LRel.of_array q1 q3, LRel.of_array q2 q4⟩
            have hex : (execOp b.eval o).run E.P w = .ok (.defer { target := .fn (.func f1) captured', args := first' ++ c.args.map b.eval }) w := by
              simp [execOp, hop, resolve, hcx, he, Deferred.ofValue]
            rw [hex]
            show K _ w
            subst hdo
            exact hK ρ undef w (_ :: a.defers) .undef i .refl ⟨⟨f1, captured, captured', rfl, rfl, r2, by simpa using r1.append h2⟩, dr⟩ (.inl ⟨by rw [hk]; simp, .refl⟩)
          · cases hdo
        · cases hdo
      · cases hdo
    · cases hs

theorem step_sound (ok : EnvOk E) {C : Caller} (hC : CallOk E C) {ops : Array Oper} {dsts : Nat → Option Tmp} (hd : ∀ j, dsts j = (ops[j]?).bind (·.dst)) {o : Oper} {s s' : St} {a : Act}
    (hs : stepAt E C nt dsts s.h.nx (s.h.nx + 1) o s = some s') (r : SRel E nt ρ s a w) {K : Act → World → Prop} {Q : Exit → Act → World → Prop}
    (hK : ∀ ρ' a' w', SRel E nt ρ' s' a' w' → Stp s.h.nx ρ ρ' s.h s'.h w w' → K a' w') :
    if Region.wanted o (yielded ops a.tmps) = true then o.wp E.P a w K Q ∨ (o.asks E.P a w ∧ LetsOut Q) else K (a.put o.dst undef) w := by
  unfold stepAt at hs
  split at hs
  · rename_i hw
    rw [if_pos (wanted_sound r.t hd hw)]
    refine .inl ?_
    unfold Oper.wp
    split at hs
    · rename_i v h' ds' hop
      simp only [Option.some.injEq] at hs
      subst hs
      obtain ⟨n1, n2⟩ := hnone r.h
      refine op_sound ok hC hop r.g r.t (fun _ => r.h) r.h r.d (fun _ => ⟨n1, n2, by omega, by omega⟩) fun ρ' v' w' df h1 h2 h3 h4 _ => ?_
      rw [Nat.min_self] at h3
      exact hK ρ' _ w' ⟨TRel.put (a := { a with defers := df }) (r.t.mono h3.ext) h1 _, h2, by rw [put_defers]; exact h4, r.g.mono h3.ext⟩ h3
    · cases hs
  · rename_i hw
    simp only [Option.some.injEq] at hs
    have : Region.wanted o (yielded ops a.tmps) = false := wanted_sound r.t hd hw
    rw [if_neg (by simp [this])]
    subst hs
    exact hK ρ _ w ⟨r.t.put .undef _, r.h, by rw [put_defers]; exact r.d, r.g⟩ .refl
  · cases hs

theorem runOps_sound (ok : EnvOk E) {C : Caller} (hC : CallOk E C) {ops : Array Oper} {dsts : Nat → Option Tmp} (hd : ∀ j, dsts j = (ops[j]?).bind (·.dst)) {Q : Exit → Act → World → Prop} {s0 : St} {p0 : World} {ρ0 : Rho}
    (i0 : Inv E ρ0 s0.h p0.heap) {s1 : St} (hQ : ∀ ρ' a' w', SRel E nt ρ' s1 a' w' → Stp s0.h.nx ρ0 ρ' s0.h s1.h p0 w' → Q .normal a' w') :
    ∀ (l : List Oper) (k : Nat), ops.toList.drop k = l → ∀ (s : St) (ρ : Rho) (a : Act) (w : World), runOps E C nt dsts l s = some s1 → SRel E nt ρ s a w → Stp s0.h.nx ρ0 ρ s0.h s.h p0 w →
      wpOps E.P ops Q ((List.range l.length).map (k + ·)) a w := by
  intro l
  induction l with
  | nil =>
    intro k _ s ρ a w hs r st
    simp only [runOps, Option.some.injEq] at hs; subst hs
    exact hQ ρ a w r st
  | cons o l ih =>
    intro k hk s ρ a w hs r st
    simp only [runOps] at hs
    split at hs
    · rename_i s2 hstep
      have hok : ops[k]? = some o := by
        have : (ops.toList.drop k)[0]? = some o := by rw [hk]; rfl
        simpa using this
      have hk' : ops.toList.drop (k + 1) = l := by rw [← List.drop_drop, hk]; rfl
      simp only [List.length_cons, List.range_succ_eq_map, List.map_cons, List.map_map, Nat.add_zero]
      unfold wpOps
      rw [hok]
      have hfun : ((fun x => k + x) ∘ Nat.succ) = (fun x => (k + 1) + x) := by funext x; simp; omega
      rw [hfun]
      have hN : s0.h.nx ≤ s.h.nx := st.mono
      exact step_sound ok hC hd hstep r (fun ρ' a' w' r' st' => ih (k + 1) hk' s2 ρ' a' w' hs r' (st.trans i0 hN st'))
    · cases hs
end
end Go.CS

/- Code: the evaluator's run is the model's. -/
namespace Go.CS
open Go

def Ex.toExit : Ex → Exit
  | .normal => .normal
  | .exit id => .exit id
  | .goto l => .goto l
  | .ret => .ret

def Post (E : Env) (nt : Nat) (ρ : Rho) (s : St) (w : World) (ex : Ex) (s' : St) : Exit → Act → World → Prop :=
  fun e a' w' => e = ex.toExit ∧ ∃ ρ', SRel E nt ρ' s' a' w' ∧ Stp s.h.nx ρ ρ' s.h s'.h w w'

theorem codeOk_label {E : Env} {nt : Nat} {plans : Tr Plan} : ∀ (c : Code) (l : Nat) (r : Code), codeOk E nt plans c = true → findLabel c l = some r → codeOk E nt plans r = true := by
  intro c
  induction c with
  | seq a b iha ihb =>
    intro l r h hf
    simp only [codeOk, Bool.and_eq_true] at h
    simp only [findLabel] at hf
    split at hf
    · rename_i rest hr
      simp only [Option.some.injEq] at hf; subst hf
      simp only [codeOk, Bool.and_eq_true]
      exact ⟨iha l rest h.1 hr, h.2⟩
    · exact ihb l r h.2 hf
  | label l' =>
    intro l r h hf
    simp only [findLabel] at hf
    split at hf
    · simp only [Option.some.injEq] at hf; subst hf; rfl
    · cases hf
  | _ => intro l r h hf; simp [findLabel] at hf

section
variable {E : Env} {C : Caller} {cf : CF}

def DrawnOk (E : Env) (C : Caller) (cf : CF) : Prop :=
  ∀ id (ops : Array Oper) p s s' ρ a w, planOk E cf.ntmps ops.toList p = true → runPlan E C cf.ntmps (dstOf ops) ops.toList s.h.nx p (reserve s ops.toList.length) = some s' →
    SRel E cf.ntmps ρ s a w → (Code.region id ops true).wp E.P (Post E cf.ntmps ρ s w .normal s') a w

theorem dstOf_eq (ops : Array Oper) (j : Nat) : dstOf ops j = (ops[j]?).bind (·.dst) := by
  unfold dstOf
  rw [Array.getElem?_toList]
  cases ops[j]? <;> rfl

theorem Post.pre {nt : Nat} {ρ ρ1 : Rho} {s s1 s' : St} {w w1 : World} {ex : Ex} (i : Inv E ρ s.h w.heap) (st : Stp s.h.nx ρ ρ1 s.h s1.h w w1) {e : Exit} {a' : Act} {w' : World}
    (p : Post E nt ρ1 s1 w1 ex s' e a' w') : Post E nt ρ s w ex s' e a' w' := by
  obtain ⟨h1, ρ', h2, h3⟩ := p
  exact ⟨h1, ρ', h2, st.trans i st.mono h3⟩

theorem region_sound (ok : EnvOk E) (hC : CallOk E C) {id : Nat} {ops : Array Oper} {nt : Nat} {s s' : St} {ρ : Rho} {a : Act} {w : World} (hr : runOps E C nt (dstOf ops) ops.toList s = some s') (r : SRel E nt ρ s a w) :
    (Code.region id ops false).wp E.P (Post E nt ρ s w .normal s') a w := by
  refine wp_region ?_
  have := runOps_sound ok hC (dsts := dstOf ops) (dstOf_eq ops) (Q := Post E nt ρ s w .normal s') (s0 := s) (p0 := w) (ρ0 := ρ) r.h (s1 := s')
    (fun ρ' a' w' r' st => ⟨rfl, ρ', r', st⟩) ops.toList 0 (by simp) s ρ a w hr r .refl
  simpa using this

/-- a run of c that stands right in the scope of b -/
def InScope (P : Program) (b c : Code) (Q : Exit → Act → World → Prop) (a : Act) (w : World) : Prop :=
  ∀ (fr : Frame) (k : List Item) (cs : List Frame), ∃ e a' w', Q e a' w' ∧ Arrives P (lone (fr.at a (.code c :: .inScope b :: k)) cs w) fr k cs e a' w'

def Good (E : Env) (cf : CF) (n : Nat) (sc : Option Code) (c : Code) (s : St) (ex : Ex) (s' : St) : Prop :=
  ∀ ρ a w, SRel E cf.ntmps ρ s a w →
    match sc with
    | none => c.wp E.P (Post E cf.ntmps ρ s w ex s') a w ∧ ∀ b, c = .loop b → Code.rounds E.P b (Post E cf.ntmps ρ s w ex s') n a w
    | some b => InScope E.P b c (Post E cf.ntmps ρ s w ex s') a w

theorem rounds_mono {P : Program} {c : Code} {Q Q' : Exit → Act → World → Prop} (h : ∀ e a w, Q e a w → Q' e a w) : ∀ (k : Nat) (a : Act) (w : World), Code.rounds P c Q k a w → Code.rounds P c Q' k a w := by
  intro k
  induction k with
  | zero => intro a w hr; exact hr.elim
  | succ k ih =>
    intro a w hr
    refine wp_mono hr fun e a w he => ?_
    cases e <;> first | exact ih a w he | exact h _ _ _ he

theorem ret_not {ex : Ex} (h : ex ≠ .normal) : ex.toExit ≠ .normal := by cases ex <;> simp [Ex.toExit] at h ⊢

theorem runCode_sound (ok : EnvOk E) (hC : CallOk E C) (hD : DrawnOk E C cf) : ∀ (n : Nat) (sc : Option Code) (c : Code) (s : St) (ex : Ex) (s' : St), runCode E C cf n sc c s = some (ex, s') →
    codeOk E cf.ntmps cf.plans c = true → (∀ b, sc = some b → codeOk E cf.ntmps cf.plans b = true) → Good E cf n sc c s ex s' := by
  intro n
  induction n with
  | zero => intro sc c s ex s' h; simp [runCode] at h
  | succ n ih =>
    intro sc c s ex s' hrun hok hsc ρ a w r
    cases sc with
    | some b =>
      simp only [runCode] at hrun
      show InScope E.P b c (Post E cf.ntmps ρ s w ex s') a w
      intro fr k cs
      have hb := hsc b rfl
      cases hr1 : runCode E C cf n none c s with
      | none => simp [hr1] at hrun
      | some p =>
        obtain ⟨ex1, s1⟩ := p
        obtain ⟨g1, _⟩ := ih none c s ex1 s1 hr1 hok (by simp) ρ a w r
        obtain ⟨e, a1, w1, ⟨he, ρ1, r1, st1⟩, harr⟩ := g1 fr (.inScope b :: k) cs
        subst he
        simp only [hr1] at hrun
        cases ex1 with
        | normal =>
          simp only [Option.some.injEq, Prod.mk.injEq] at hrun
          obtain ⟨rfl, rfl⟩ := hrun
          exact ⟨.normal, a1, w1, ⟨rfl, ρ1, r1, st1⟩, Steps.trans harr (.one step_inScope)⟩
        | exit id =>
          simp only [Option.some.injEq, Prod.mk.injEq] at hrun
          obtain ⟨rfl, rfl⟩ := hrun
          exact ⟨.exit id, a1, w1, ⟨rfl, ρ1, r1, st1⟩, fun k' hk => harr k' (by simp [exitTo, hk])⟩
        | ret =>
          simp only [Option.some.injEq, Prod.mk.injEq] at hrun
          obtain ⟨rfl, rfl⟩ := hrun
          exact ⟨.ret, a1, w1, ⟨rfl, ρ1, r1, st1⟩, harr⟩
        | goto l =>
          simp only at hrun
          cases hf : findLabel b l with
          | none =>
            simp only [hf, Option.some.injEq, Prod.mk.injEq] at hrun
            obtain ⟨rfl, rfl⟩ := hrun
            exact ⟨.goto l, a1, w1, ⟨rfl, ρ1, r1, st1⟩, fun k' hk => harr k' (by simp [gotoIn, hf, hk])⟩
          | some rest =>
            simp only [hf] at hrun
            have g2 := ih (some b) rest s1 ex s' hrun (codeOk_label b l rest hb hf) (fun b' e => by cases e; exact hb) ρ1 a1 w1 r1
            obtain ⟨e2, a2, w2, q2, harr2⟩ := g2 fr k cs
            exact ⟨e2, a2, w2, q2.pre r.h st1, .of_steps (harr _ (by simp [gotoIn, hf])) harr2⟩
    | none =>
      have hgood : ∀ {Q : Prop} (c' : Code), c = c' → (∀ b, c' ≠ .loop b) → c'.wp E.P (Post E cf.ntmps ρ s w ex s') a w →
          c.wp E.P (Post E cf.ntmps ρ s w ex s') a w ∧ ∀ b, c = .loop b → Code.rounds E.P b (Post E cf.ntmps ρ s w ex s') (n + 1) a w := by
        intro Q c' he hnl h
        subst he
        exact ⟨h, fun b hb => absurd hb (hnl b)⟩
      cases c with
      | skip =>
        simp only [runCode, Option.some.injEq, Prod.mk.injEq] at hrun
        obtain ⟨rfl, rfl⟩ := hrun
        exact hgood (Q := True) _ rfl (by simp) (wp_skip ⟨rfl, ρ, r, .refl⟩)
      | label l =>
        simp only [runCode, Option.some.injEq, Prod.mk.injEq] at hrun
        obtain ⟨rfl, rfl⟩ := hrun
        exact hgood (Q := True) _ rfl (by simp) (wp_label ⟨rfl, ρ, r, .refl⟩)
      | exit id =>
        simp only [runCode, Option.some.injEq, Prod.mk.injEq] at hrun
        obtain ⟨rfl, rfl⟩ := hrun
        exact hgood (Q := True) _ rfl (by simp) (wp_exit ⟨rfl, ρ, r, .refl⟩)
      | goto l =>
        simp only [runCode, Option.some.injEq, Prod.mk.injEq] at hrun
        obtain ⟨rfl, rfl⟩ := hrun
        exact hgood (Q := True) _ rfl (by simp) (wp_goto ⟨rfl, ρ, r, .refl⟩)
      | ret =>
        simp only [runCode, Option.some.injEq, Prod.mk.injEq] at hrun
        obtain ⟨rfl, rfl⟩ := hrun
        exact hgood (Q := True) _ rfl (by simp) (wp_ret ⟨rfl, ρ, r, .refl⟩)
      | refuse why => simp [runCode] at hrun
      | rangeFunc f ps as b => simp [runCode] at hrun
      | region id ops draw =>
        refine hgood (Q := True) _ rfl (by simp) ?_
        cases draw with
        | false =>
          simp only [runCode] at hrun
          split at hrun
          · rename_i s1 hr
            simp only [Option.some.injEq, Prod.mk.injEq] at hrun
            obtain ⟨rfl, rfl⟩ := hrun
            exact region_sound ok hC hr r
          · cases hrun
        | true =>
          simp only [runCode] at hrun
          split at hrun
          · rename_i p hp
            split at hrun
            · rename_i s1 hr
              simp only [Option.some.injEq, Prod.mk.injEq] at hrun
              obtain ⟨rfl, rfl⟩ := hrun
              simp only [codeOk, hp] at hok
              exact hD id ops p s s1 ρ a w hok hr r
            · cases hrun
          · cases hrun
      | seq x y =>
        simp only [codeOk, Bool.and_eq_true] at hok
        refine hgood (Q := True) _ rfl (by simp) (wp_seq ?_)
        simp only [runCode] at hrun
        cases hr1 : runCode E C cf n none x s with
        | none => simp [hr1] at hrun
        | some p =>
          obtain ⟨ex1, s1⟩ := p
          obtain ⟨g1, _⟩ := ih none x s ex1 s1 hr1 hok.1 (by simp) ρ a w r
          simp only [hr1] at hrun
          refine wp_mono g1 fun e a1 w1 hp => ?_
          obtain ⟨he, ρ1, r1, st1⟩ := hp
          subst he
          cases ex1 with
          | normal =>
            obtain ⟨g2, _⟩ := ih none y s1 ex s' hrun hok.2 (by simp) ρ1 a1 w1 r1
            exact wp_mono g2 fun e a2 w2 hp => hp.pre r.h st1
          | _ =>
            simp only [Option.some.injEq, Prod.mk.injEq] at hrun
            obtain ⟨rfl, rfl⟩ := hrun
            exact ⟨rfl, ρ1, r1, st1⟩
      | cond x y z =>
        simp only [codeOk, Bool.and_eq_true] at hok
        refine hgood (Q := True) _ rfl (by simp) ?_
        simp only [runCode] at hrun
        split at hrun
        · rename_i hx
          have := ev_sound r.g r.t hx
          have hb : a.eval x = .bool true := by generalize a.eval x = q at this; cases this; rfl
          exact wp_cond_true hb (ih none y s ex s' hrun hok.1 (by simp) ρ a w r).1
        · rename_i hx
          have := ev_sound r.g r.t hx
          have hb : a.eval x = .bool false := by generalize a.eval x = q at this; cases this; rfl
          exact wp_cond_false hb (ih none z s ex s' hrun hok.2 (by simp) ρ a w r).1
        · cases hrun
      | block id b =>
        simp only [codeOk] at hok
        refine hgood (Q := True) _ rfl (by simp) (wp_block ?_)
        simp only [runCode] at hrun
        cases hr1 : runCode E C cf n none b s with
        | none => simp [hr1] at hrun
        | some p =>
          obtain ⟨ex1, s1⟩ := p
          obtain ⟨g1, _⟩ := ih none b s ex1 s1 hr1 hok (by simp) ρ a w r
          simp only [hr1] at hrun
          refine wp_mono g1 fun e a1 w1 hp => ?_
          obtain ⟨he, ρ1, r1, st1⟩ := hp
          subst he
          cases ex1 with
          | exit id' =>
            simp only [cond_eq_ite, nbeq, decide_eq_true_eq] at hrun
            show if id' = id then _ else _
            split at hrun
            · rename_i hid
              simp only [Option.some.injEq, Prod.mk.injEq] at hrun
              obtain ⟨rfl, rfl⟩ := hrun
              rw [if_pos hid]; exact ⟨rfl, ρ1, r1, st1⟩
            · rename_i hid
              simp only [Option.some.injEq, Prod.mk.injEq] at hrun
              obtain ⟨rfl, rfl⟩ := hrun
              rw [if_neg hid]; exact ⟨rfl, ρ1, r1, st1⟩
          | _ =>
            simp only [Option.some.injEq, Prod.mk.injEq] at hrun
            obtain ⟨rfl, rfl⟩ := hrun
            exact ⟨rfl, ρ1, r1, st1⟩
      | loop b =>
        simp only [codeOk] at hok
        have hk : Code.rounds E.P b (Post E cf.ntmps ρ s w ex s') (n + 1) a w := by
          simp only [runCode] at hrun
          cases hr1 : runCode E C cf n none b s with
          | none => simp [hr1] at hrun
          | some p =>
            obtain ⟨ex1, s1⟩ := p
            obtain ⟨g1, _⟩ := ih none b s ex1 s1 hr1 hok (by simp) ρ a w r
            simp only [hr1] at hrun
            refine wp_mono g1 fun e a1 w1 hp => ?_
            obtain ⟨he, ρ1, r1, st1⟩ := hp
            subst he
            cases ex1 with
            | normal =>
              obtain ⟨_, g2⟩ := ih none (.loop b) s1 ex s' hrun hok (by simp) ρ1 a1 w1 r1
              exact rounds_mono (fun e a w hp => hp.pre r.h st1) n a1 w1 (g2 b rfl)
            | _ =>
              simp only [Option.some.injEq, Prod.mk.injEq] at hrun
              obtain ⟨rfl, rfl⟩ := hrun
              exact ⟨rfl, ρ1, r1, st1⟩
        exact ⟨wp_loop_rounds (n + 1) hk, fun b' hb => by cases hb; exact hk⟩
      | scope b =>
        simp only [codeOk] at hok
        refine hgood (Q := True) _ rfl (by simp) ?_
        simp only [runCode] at hrun
        have g := ih (some b) b s ex s' hrun hok (fun b' e => by cases e; exact hok) ρ a w r
        intro fr k cs
        obtain ⟨e, a1, w1, q, harr⟩ := g fr k cs
        exact ⟨e, a1, w1, q, .of_steps (.one step_scope) harr⟩
end
end Go.CS

/- What the check of a plan says. -/
namespace Go.CS
open Go

theorem elemN_iff (l : List Nat) (j : Nat) : elemN l j = true ↔ j ∈ l := by
  induction l with
  | nil => simp [elemN]
  | cons x l ih =>
    simp only [elemN, List.mem_cons]
    cases h : Nat.beq x j with
    | true => have : x = j := Nat.eq_of_beq_eq_true h; simp [this]
    | false =>
      have : x ≠ j := Nat.ne_of_beq_eq_false h
      simp only [cond_false, ih]
      constructor
      · exact .inr
      · rintro (h | h)
        · exact absurd h.symm this
        · exact h

theorem isN_iff {α : Type} (o : Option α) : isN o = true ↔ o = none := by cases o <;> simp [isN]

theorem befMask_spec (done : Tr Nat) : ∀ (l : List Edge) (m : Nat), befMask done l = some m →
    (∀ g ∈ l, Region.binds .any g = true → ∃ x, done.get g.on = some x) ∧
    ∀ j, m.testBit j = true → ∃ g ∈ l, Region.binds .any g = true ∧ (j = g.on ∨ ∃ x, done.get g.on = some x ∧ x.testBit j = true) := by
  intro l
  induction l with
  | nil =>
    intro m h
    simp only [befMask, Option.some.injEq] at h; subst h
    exact ⟨by simp, by simp⟩
  | cons e l ih =>
    intro m h
    simp only [befMask, cond_eq_ite] at h
    split at h
    · rename_i hb
      split at h
      · rename_i m1 m2 h1 h2
        simp only [Option.some.injEq] at h; subst h
        obtain ⟨ih1, ih2⟩ := ih _ h2
        refine ⟨?_, ?_⟩
        · intro g hg hbg
          rcases List.mem_cons.1 hg with rfl | hg
          · exact ⟨_, h1⟩
          · exact ih1 g hg hbg
        · intro j hj
          simp only [Nat.testBit_or, Bool.or_eq_true, Nat.testBit_two_pow, decide_eq_true_eq] at hj
          rcases hj with hj | hj | hj
          · exact ⟨e, by simp, hb, .inr ⟨_, h1, hj⟩⟩
          · obtain ⟨g, hg, k⟩ := ih2 j hj
            exact ⟨g, by simp [hg], k⟩
          · exact ⟨e, by simp, hb, .inl hj.symm⟩
      · cases h
    · rename_i hb
      obtain ⟨ih1, ih2⟩ := ih _ h
      refine ⟨?_, ?_⟩
      · intro g hg hbg
        rcases List.mem_cons.1 hg with rfl | hg
        · exact absurd hbg hb
        · exact ih1 g hg hbg
      · intro j hj
        obtain ⟨g, hg, k⟩ := ih2 j hj
        exact ⟨g, by simp [hg], k⟩

theorem allDone_spec (done : Tr Nat) : ∀ n, allDone done n = true → ∀ i < n, ∃ m, done.get i = some m := by
  intro n
  induction n with
  | zero => intro _ i hi; omega
  | succ n ih =>
    intro h i hi
    simp only [allDone] at h
    split at h
    · rename_i m hm
      by_cases hin : i = n
      · subst hin; exact ⟨m, hm⟩
      · exact ih h i (by omega)
    · cases h

theorem pendOf_mem (wr : Tr Nat) (m i : Nat) : ∀ (l : List Nat) (pd : List (Nat × Nat)),
    (∀ q ∈ pd, q ∈ pendOf wr m i l pd) ∧ ∀ d ∈ l, ∀ x, wr.get d = some x → m.testBit x = true ∨ (x, i) ∈ pendOf wr m i l pd := by
  intro l
  induction l with
  | nil => intro pd; exact ⟨fun q h => h, by simp⟩
  | cons d l ih =>
    intro pd
    obtain ⟨ih1, ih2⟩ := ih pd
    simp only [pendOf, cond_eq_ite]
    split
    · rename_i x hx
      split
      · rename_i hb
        refine ⟨ih1, fun d' hd' y hy => ?_⟩
        rcases List.mem_cons.1 hd' with rfl | hd'
        · rw [hx] at hy; cases hy; exact .inl hb
        · exact ih2 d' hd' y hy
      · refine ⟨fun q hq => List.mem_cons_of_mem _ (ih1 q hq), fun d' hd' y hy => ?_⟩
        rcases List.mem_cons.1 hd' with rfl | hd'
        · rw [hx] at hy; cases hy; exact .inr (by simp)
        · exact (ih2 d' hd' y hy).imp id (List.mem_cons_of_mem _)
    · rename_i hx
      refine ⟨ih1, fun d' hd' y hy => ?_⟩
      rcases List.mem_cons.1 hd' with rfl | hd'
      · rw [hx] at hy; cases hy
      · exact ih2 d' hd' y hy

structure At (E : Env) (nt : Nat) (wr : Tr Nat) (ops : List Oper) (M : Nat → Nat) (l : Plan) (done : Tr Nat) (cs as rs : List Nat) (k : Nat) (e : PE) (o : Oper) : Prop where
  op : ops[e.i]? = some o
  new : done.get e.i = none ∧ ∀ k' e', k' < k → l[k']? = some e' → e'.i ≠ e.i
  aft : ∀ g ∈ o.after, Region.binds .any g = true → (∃ m, done.get g.on = some m) ∨ ∃ k' e', k' < k ∧ l[k']? = some e' ∧ e'.i = g.on
  bef : ∀ j, (M e.i).testBit j = true → ∃ g ∈ o.after, Region.binds .any g = true ∧ (j = g.on ∨ (M g.on).testBit j = true)
  dst : ∀ d, o.dst = some d → d < nt ∧ wr.get d = some e.i
  look : ∀ d ∈ looksL ops o, ∀ x, wr.get d = some x → (M e.i).testBit x = true ∨ ((done.get x = none ∧ ∀ k' e', k' < k → l[k']? = some e' → e'.i ≠ x) ∧
    (∀ k' e', k < k' → l[k']? = some e' → e'.i = x → (M x).testBit e.i = true) ∧
    ∀ k' e', k < k' → l[k']? = some e' → e.i ∈ e'.re → ∀ k'' e'', k'' ≤ k' → l[k'']? = some e'' → e''.i ≠ x)
  chg : kindN E o = 2 → (∀ j ∈ cs, (M e.i).testBit j = true) ∧ (∀ j ∈ as, (M e.i).testBit j = true) ∧ (∀ j ∈ rs, (M e.i).testBit j = true ∨ j ∈ e.re) ∧
    ∀ k' e' o', k' < k → l[k']? = some e' → ops[e'.i]? = some o' → (kindN E o' = 2 → (M e.i).testBit e'.i = true) ∧ (kindN E o' = 3 → (M e.i).testBit e'.i = true) ∧ (kindN E o' = 1 → (M e.i).testBit e'.i = true ∨ e'.i ∈ e.re)
  rd : kindN E o = 1 → (∀ j ∈ cs, (M e.i).testBit j = true) ∧ (∀ j ∈ as, (M e.i).testBit j = true ∨ j ∈ e.hide) ∧
    ∀ k' e' o', k' < k → l[k']? = some e' → ops[e'.i]? = some o' → (kindN E o' = 2 → (M e.i).testBit e'.i = true) ∧ (kindN E o' = 3 → (M e.i).testBit e'.i = true ∨ e'.i ∈ e.hide)

theorem mem_consIf {b : Bool} {i j : Nat} {l : List Nat} : j ∈ consIf b i l ↔ (b = true ∧ j = i) ∨ j ∈ l := by
  cases b <;> simp [consIf]

theorem kindOk1 {m : Nat} {e : PE} {cs as rs : List Nat} (h : kindOk 1 m e cs as rs = true) : (∀ j ∈ cs, m.testBit j = true) ∧ ∀ j ∈ as, m.testBit j = true ∨ j ∈ e.hide := by
  simp only [kindOk, Bool.and_eq_true, allB_iff, Bool.or_eq_true, elemN_iff] at h
  exact h
theorem kindOk2 {m : Nat} {e : PE} {cs as rs : List Nat} (h : kindOk 2 m e cs as rs = true) : (∀ j ∈ cs, m.testBit j = true) ∧ (∀ j ∈ as, m.testBit j = true) ∧ ∀ j ∈ rs, m.testBit j = true ∨ j ∈ e.re := by
  simp only [kindOk, Bool.and_eq_true, allB_iff, Bool.or_eq_true, elemN_iff] at h
  exact ⟨h.1.1, h.1.2, h.2⟩

theorem planGo_spec {E : Env} {nt : Nat} {wr : Tr Nat} {ops : List Oper} : ∀ (l : Plan) (done : Tr Nat) (cs as rs : List Nat) (pd : List (Nat × Nat)), planGo E nt wr ops l done cs as rs pd = true →
    ∃ M : Nat → Nat, (∀ i m, done.get i = some m → M i = m) ∧ (∀ (k : Nat) (e : PE), l[k]? = some e → ∃ o, At E nt wr ops M l done cs as rs k e o) ∧
      (∀ (x j : Nat), (x, j) ∈ pd → ∀ (k : Nat) (e : PE), l[k]? = some e → (e.i = x → (M x).testBit j = true) ∧ (j ∈ e.re → done.get x = none ∧ ∀ (k' : Nat) (e' : PE), k' ≤ k → l[k']? = some e' → e'.i ≠ x)) ∧
      ∀ i < ops.length, (∃ m, done.get i = some m) ∨ ∃ (k : Nat) (e : PE), l[k]? = some e ∧ e.i = i := by
  intro l
  induction l with
  | nil =>
    intro done cs as rs pd h
    simp only [planGo] at h
    exact ⟨fun i => (done.get i).getD 0, fun i m hm => by simp [hm], by simp, by simp, fun i hi => .inl (allDone_spec done _ h i hi)⟩
  | cons e l ih =>
    intro done cs as rs pd h
    simp only [planGo] at h
    split at h
    case h_2 => cases h
    rename_i o ho hd
    split at h
    case h_2 => cases h
    rename_i m hm
    simp only [cond_eq_ite] at h
    split at h
    case isFalse => cases h
    rename_i hc
    simp only [Bool.and_eq_true] at hc
    obtain ⟨⟨⟨hlook, hslot⟩, hkind⟩, hpd⟩ := hc
    obtain ⟨M, hM, hAt, hP, hcov⟩ := ih _ _ _ _ _ h
    have hMi : M e.i = m := hM e.i m (Tr.get_set_self _ _ _)
    have hMo : ∀ i x, done.get i = some x → M i = x := by
      intro i x hx
      refine hM i x ?_
      have : i ≠ e.i := fun h => by rw [h, hd] at hx; cases hx
      rw [Tr.get_set_ne _ _ _ this]; exact hx
    obtain ⟨hb1, hb2⟩ := befMask_spec _ _ _ hm
    obtain ⟨hq1, hq2⟩ := pendOf_mem wr m e.i (looksL ops o) pd
    rw [allB_iff] at hlook hpd
    have hnd : ∀ x, (done.set e.i (some m)).get x = none → done.get x = none ∧ x ≠ e.i := by
      intro x hx
      rw [Tr.get_set] at hx
      split at hx
      · cases hx
      · rename_i hne; exact ⟨hx, hne⟩
    refine ⟨M, hMo, ?_, ?_, ?_⟩
    · intro k e1 hk
      cases k with
      | zero =>
        simp only [List.getElem?_cons_zero, Option.some.injEq] at hk
        subst hk
        refine ⟨o, ho, ⟨hd, fun k' e' hk' => absurd hk' (Nat.not_lt_zero _)⟩, fun g hg hb => .inl (hb1 g (by simpa using hg) hb), ?_, ?_, ?_, ?_, ?_⟩
        · intro j hj
          rw [hMi] at hj
          obtain ⟨g, hg, hb, hgj⟩ := hb2 j hj
          refine ⟨g, by simpa using hg, hb, hgj.imp id ?_⟩
          rintro ⟨x, hx, hxb⟩
          rw [hMo _ _ hx]; exact hxb
        · intro d hdst
          rw [hdst] at hslot
          simp only [slotOk, Bool.and_eq_true, nblt, decide_eq_true_eq] at hslot
          refine ⟨hslot.1, ?_⟩
          have h2 := hslot.2
          split at h2
          · rename_i x hx
            rw [hx, Nat.eq_of_beq_eq_true h2]
          · cases h2
        · intro d hdl x hx
          rw [hMi]
          by_cases hbit : m.testBit x = true
          · exact .inl hbit
          · right
            have h1 := hlook d hdl
            simp only [looksOk, hx, Bool.or_eq_true, isN_iff] at h1
            have hpend := (hq2 d hdl x hx).resolve_left hbit
            refine ⟨⟨h1.resolve_left hbit, fun k' e' hk' => absurd hk' (Nat.not_lt_zero _)⟩, ?_, ?_⟩
            · intro k' e' hk' he' hex
              cases k' with
              | zero => omega
              | succ k' => exact (hP x e.i hpend k' e' (by simpa using he')).1 hex
            · intro k' e' hk' he' hre k'' e'' hk'' he''
              cases k' with
              | zero => omega
              | succ k' =>
                obtain ⟨g1, g2⟩ := (hP x e.i hpend k' e' (by simpa using he')).2 hre
                cases k'' with
                | zero =>
                  simp only [List.getElem?_cons_zero, Option.some.injEq] at he''
                  subst he''
                  exact fun h => (hnd x g1).2 h.symm
                | succ k'' => exact g2 k'' e'' (by omega) (by simpa using he'')
        · intro hk2
          rw [hk2] at hkind
          rw [hMi]
          obtain ⟨a, b, c⟩ := kindOk2 hkind
          exact ⟨a, b, c, fun k' e' o' hk' => absurd hk' (Nat.not_lt_zero _)⟩
        · intro hk2
          rw [hk2] at hkind
          rw [hMi]
          obtain ⟨a, b⟩ := kindOk1 hkind
          exact ⟨a, b, fun k' e' o' hk' => absurd hk' (Nat.not_lt_zero _)⟩
      | succ k =>
        simp only [List.getElem?_cons_succ] at hk
        obtain ⟨o1, A⟩ := hAt k e1 hk
        refine ⟨o1, A.op, ⟨(hnd _ A.new.1).1, ?_⟩, ?_, A.bef, A.dst, ?_, ?_, ?_⟩
        · intro k' e' hk' he'
          cases k' with
          | zero =>
            simp only [List.getElem?_cons_zero, Option.some.injEq] at he'
            subst he'
            exact fun h => (hnd _ A.new.1).2 h.symm
          | succ k' => exact A.new.2 k' e' (by omega) (by simpa using he')
        · intro g hg hb
          rcases A.aft g hg hb with ⟨x, hx⟩ | ⟨k', e', h1, h2, h3⟩
          · rw [Tr.get_set] at hx
            split at hx
            · rename_i heq
              exact .inr ⟨0, e, by omega, by simp, heq.symm⟩
            · exact .inl ⟨x, hx⟩
          · exact .inr ⟨k' + 1, e', by omega, by simpa using h2, h3⟩
        · intro d hdl x hx
          rcases A.look d hdl x hx with h1 | ⟨⟨h1, h2⟩, h3, h4⟩
          · exact .inl h1
          · refine .inr ⟨⟨(hnd x h1).1, ?_⟩, ?_, ?_⟩
            · intro k' e' hk' he'
              cases k' with
              | zero =>
                simp only [List.getElem?_cons_zero, Option.some.injEq] at he'
                subst he'
                exact fun h => (hnd x h1).2 h.symm
              | succ k' => exact h2 k' e' (by omega) (by simpa using he')
            · intro k' e' hk' he' hex
              cases k' with
              | zero => omega
              | succ k' => exact h3 k' e' (by omega) (by simpa using he') hex
            · intro k' e' hk' he' hre k'' e'' hk'' he''
              cases k' with
              | zero => omega
              | succ k' =>
                cases k'' with
                | zero =>
                  simp only [List.getElem?_cons_zero, Option.some.injEq] at he''
                  subst he''
                  exact fun h => (hnd x h1).2 h.symm
                | succ k'' => exact h4 k' e' (by omega) (by simpa using he') hre k'' e'' (by omega) (by simpa using he'')
        · intro hk2
          obtain ⟨a, b, c, d⟩ := A.chg hk2
          refine ⟨fun j hj => a j (mem_consIf.2 (.inr hj)), fun j hj => b j (mem_consIf.2 (.inr hj)), fun j hj => c j (mem_consIf.2 (.inr hj)), ?_⟩
          intro k' e' o' hk' he' ho'
          cases k' with
          | zero =>
            simp only [List.getElem?_cons_zero, Option.some.injEq] at he'
            subst he'
            rw [ho] at ho'; cases ho'
            exact ⟨fun h => a _ (mem_consIf.2 (.inl ⟨by rw [h]; rfl, rfl⟩)), fun h => b _ (mem_consIf.2 (.inl ⟨by rw [h]; rfl, rfl⟩)), fun h => c _ (mem_consIf.2 (.inl ⟨by rw [h]; rfl, rfl⟩))⟩
          | succ k' => exact d k' e' o' (by omega) (by simpa using he') ho'
        · intro hk2
          obtain ⟨a, b, d⟩ := A.rd hk2
          refine ⟨fun j hj => a j (mem_consIf.2 (.inr hj)), fun j hj => b j (mem_consIf.2 (.inr hj)), ?_⟩
          intro k' e' o' hk' he' ho'
          cases k' with
          | zero =>
            simp only [List.getElem?_cons_zero, Option.some.injEq] at he'
            subst he'
            rw [ho] at ho'; cases ho'
            exact ⟨fun h => a _ (mem_consIf.2 (.inl ⟨by rw [h]; rfl, rfl⟩)), fun h => b _ (mem_consIf.2 (.inl ⟨by rw [h]; rfl, rfl⟩))⟩
          | succ k' => exact d k' e' o' (by omega) (by simpa using he') ho'
    · intro x j hxj k e1 hk
      have hq := hpd (x, j) hxj
      simp only [pdOk, Bool.and_eq_true, Bool.or_eq_true, Bool.not_eq_true', isN_iff] at hq
      have hne : ∀ {a b : Nat}, Nat.beq a b = false → a ≠ b := fun h => Nat.ne_of_beq_eq_false h
      cases k with
      | zero =>
        simp only [List.getElem?_cons_zero, Option.some.injEq] at hk
        subst hk
        refine ⟨fun he => ?_, fun hre => ?_⟩
        · subst he
          rw [hMi]
          exact hq.1.resolve_left (fun h => hne h rfl)
        · have := hq.2.resolve_left (fun h => by rw [(elemN_iff _ _).2 hre] at h; cases h)
          refine ⟨this.1, fun k' e' hk' he' => ?_⟩
          have : k' = 0 := by omega
          subst this
          simp only [List.getElem?_cons_zero, Option.some.injEq] at he'
          subst he'
          exact fun h => hne this.2 h.symm
      | succ k =>
        simp only [List.getElem?_cons_succ] at hk
        obtain ⟨g1, g2⟩ := hP x j (hq1 _ hxj) k e1 hk
        refine ⟨g1, fun hre => ?_⟩
        obtain ⟨g3, g4⟩ := g2 hre
        refine ⟨(hnd x g3).1, fun k' e' hk' he' => ?_⟩
        cases k' with
        | zero =>
          simp only [List.getElem?_cons_zero, Option.some.injEq] at he'
          subst he'
          exact fun h => (hnd x g3).2 h.symm
        | succ k' => exact g4 k' e' (by omega) (by simpa using he')
    · intro i hi
      rcases hcov i hi with ⟨x, hx⟩ | ⟨k, e1, h1, h2⟩
      · rw [Tr.get_set] at hx
        split at hx
        · rename_i heq
          exact .inr ⟨0, e, by simp, heq.symm⟩
        · exact .inl ⟨x, hx⟩
      · exact .inr ⟨k + 1, e1, by simpa using h1, h2⟩
end Go.CS

/- What an operation gives hangs on the slots that it looks at. -/
namespace Go.CS
open Go
section
variable {E : Env} {t t' : Tr Value}

theorem evs_congr : ∀ (l : List Operand), (∀ x ∈ l, ev E t x = ev E t' x) → evs E t l = evs E t' l := by
  intro l
  induction l with
  | nil => intro _; rfl
  | cons x l ih =>
    intro h
    simp only [evs, h x (by simp), ih fun y hy => h y (by simp [hy])]

theorem pairs_congr : ∀ (l : List (Nat × Operand)), (∀ x ∈ l.map (·.2), ev E t x = ev E t' x) → pairs E t l = pairs E t' l := by
  intro l
  induction l with
  | nil => intro _; rfl
  | cons x l ih =>
    intro h
    obtain ⟨i, x⟩ := x
    simp only [pairs, h x (by simp), ih fun y hy => h y (by simp only [List.map_cons, List.mem_cons]; exact .inr hy)]

theorem optEv_congr (o : Option Operand) (h : ∀ x, o = some x → ev E t x = ev E t' x) : optEv E t o = optEv E t' o := by
  cases o with
  | none => rfl
  | some x => simp only [optEv, h x rfl]

theorem qop_congr (h : H) (o : Oper) (H : ∀ x ∈ o.op.operands, ev E t x = ev E t' x) : qop E t h o = qop E t' h o := by
  obtain ⟨dst, op, type, pos, after, guard⟩ := o
  cases op <;> simp only [Op.operands] at H <;> simp only [qop]
  case build t ps => rw [pairs_congr _ fun x hx => H x (by simpa using hx)]
  case makeFunc fn first captured =>
    rw [evs_congr _ fun x hx => H x (by simp only [Array.mem_append]; exact .inl (by simpa using hx)), evs_congr _ fun x hx => H x (by simp only [Array.mem_append]; exact .inr (by simpa using hx))]
  case slice t x lo hi mx =>
    rw [H x (by simp), optEv_congr lo fun x hx => H x (by simp [hx]), optEv_congr hi fun x hx => H x (by simp [hx]), optEv_congr mx fun x hx => H x (by simp [hx])]
  case call c =>
    rw [evs_congr c.args.toList fun x hx => H x (by simp only [Call.operands, Array.mem_append]; exact .inr (by simpa using hx))]
  all_goals (first | rfl | (simp_all; done))

theorem aop_congr (o : Oper) (H : ∀ x ∈ o.op.operands, ev E t x = ev E t' x) : aop E t o = aop E t' o := by
  obtain ⟨dst, op, type, pos, after, guard⟩ := o
  cases op <;> simp only [Op.operands] at H <;> simp only [aop]
  case buildSlice t n ps => rw [pairs_congr _ fun x hx => H x (by simpa using hx)]
  case makeMap t r => cases r <;> simp_all
  all_goals (first | rfl | (simp_all; done))

theorem wop_congr (h : H) (o : Oper) (H : ∀ x ∈ o.op.operands, ev E t x = ev E t' x) : wop E t h o = wop E t' h o := by
  obtain ⟨dst, op, type, pos, after, guard⟩ := o
  cases op <;> simp only [Op.operands] at H <;> simp only [wop]
  case call c =>
    rw [evs_congr c.args.toList fun x hx => H x (by simp only [Call.operands, Array.mem_append]; exact .inr (by simpa using hx))]
  all_goals (first | rfl | (simp_all; done))

theorem callOf_congr (o : Oper) (H : ∀ x ∈ o.op.operands, ev E t x = ev E t' x) : callOf E t o = callOf E t' o := by
  obtain ⟨dst, op, type, pos, after, guard⟩ := o
  cases op <;> simp only [Op.operands] at H <;> simp only [callOf]
  case call c =>
    unfold resolveCall
    rw [evs_congr c.args.toList fun x hx => H x (by simp only [Call.operands, Array.mem_append]; exact .inr (by simpa using hx))]
    cases hc : c.callee with
    | value f => simp only [H f (by simp [Call.operands, hc])]
    | invoke r m => rfl
    | builtin b => rfl

theorem dop_congr (o : Oper) (H : ∀ x ∈ o.op.operands, ev E t x = ev E t' x) : dop E t o = dop E t' o := by
  obtain ⟨dst, op, type, pos, after, guard⟩ := o
  cases op <;> simp only [Op.operands] at H <;> simp only [dop]
  case defer c =>
    rw [evs_congr c.args.toList fun x hx => H x (by simp only [Call.operands, Array.mem_append]; exact .inr (by simpa using hx))]
    cases hc : c.callee with
    | value f => simp only [H f (by simp [Call.operands, hc])]
    | invoke r m => rfl
    | builtin b => rfl

theorem opRun_congr {C : Caller} (id nx' : Nat) (o : Oper) (hq h : H) (ds : List Deferred) (H : ∀ x ∈ o.op.operands, ev E t x = ev E t' x) :
    opRun E C id nx' o t hq h ds = opRun E C id nx' o t' hq h ds := by
  unfold opRun
  rw [qop_congr hq o H, aop_congr o H, wop_congr h o H, callOf_congr o H, dop_congr o H]

theorem ev_same {x : Operand} (h : ∀ d, x = .tmp d → (t.get d).getD undef = (t'.get d).getD undef) : ev E t x = ev E t' x := by
  cases x with
  | tmp d =>
    have := h d rfl
    unfold ev
    cases h1 : t.get d <;> cases h2 : t'.get d <;> simp_all
  | _ => rfl

/-- the slots that are looked at -/
def looks (ops : List Oper) (o : Oper) (d : Nat) : Prop := d ∈ looksL ops o

theorem looks_operand {ops : List Oper} {o : Oper} {x : Operand} (hx : x ∈ o.op.operands) {d : Nat} (hd : x = .tmp d) : d ∈ looksL ops o := by
  refine List.mem_append_left _ (List.mem_filterMap.2 ⟨x, by simpa using hx, by subst hd; rfl⟩)

theorem wantedC_same {ops : List Oper} {o : Oper} {dsts : Nat → Option Tmp} (hd : ∀ j, dsts j = (ops[j]?).bind (·.dst)) (h : ∀ d ∈ looksL ops o, t.get d = t'.get d) :
    wantedC t dsts o.guard = wantedC t' dsts o.guard := by
  unfold wantedC
  cases hg : o.guard with
  | none => rfl
  | some p =>
    obtain ⟨j, want⟩ := p
    simp only [hd]
    cases hj : ops[j]? with
    | none => simp
    | some g =>
      cases hgd : g.dst with
      | none => simp [hgd]
      | some d =>
        have : d ∈ looksL ops o := List.mem_append_right _ (by simp [hg, hj, hgd])
        simp [hgd, h d this]
end
end Go.CS

/- eqv: equal values; a step of a part of memory is a step of the whole. -/
namespace Go.CS
open Go

theorem eqv_eq : ∀ (n : Nat) (a b : Value), eqv n a b = true → a = b := by
  intro n
  induction n with
  | zero => intro a b h; simp [eqv] at h
  | succ n ih =>
    have hl : ∀ (l m : List Value), eqv.eqvL n l m = true → l = m := by
      intro l
      induction l with
      | nil => intro m h; cases m with
        | nil => rfl
        | cons y m => simp [eqv.eqvL] at h
      | cons x l ihl =>
        intro m h
        cases m with
        | nil => simp [eqv.eqvL] at h
        | cons y m =>
          simp only [eqv.eqvL, cond_eq_ite] at h
          split at h
          · rename_i hx; rw [ih x y hx, ihl m h]
          · cases h
    intro a b h
    unfold eqv at h
    split at h
    case h_1 => simp_all
    case h_2 => rename_i k x k' y; simp only [Bool.and_eq_true, sameKind, decide_eq_true_eq, beq_iff_eq] at h; obtain ⟨rfl, rfl⟩ := h; rfl
    case h_3 => rename_i x y; rw [bytesEq_iff, beq_iff_eq] at h; congr 1; exact ByteArray.ext (Array.toList_inj.1 h)
    case h_4 => rfl
    case h_5 => simp_all
    case h_6 => simp only [Bool.and_eq_true, nbeq, decide_eq_true_eq] at h; obtain ⟨rfl, rfl⟩ := h; rfl
    case h_7 => simp only [Bool.and_eq_true, nbeq, decide_eq_true_eq] at h; obtain ⟨⟨rfl, rfl⟩, rfl⟩ := h; rfl
    case h_8 => rfl
    case h_9 => simp only [nbeq, decide_eq_true_eq] at h; rw [h]
    case h_10 => rfl
    case h_11 => rfl
    case h_12 => simp only [Bool.and_eq_true, nbeq, decide_eq_true_eq] at h; obtain ⟨⟨rfl, h1⟩, h2⟩ := h; rw [Array.toList_inj.1 (hl _ _ h1), Array.toList_inj.1 (hl _ _ h2)]
    case h_13 => rw [Array.toList_inj.1 (hl _ _ h)]
    case h_14 => rw [Array.toList_inj.1 (hl _ _ h)]
    case h_15 => cases h

/-- a step of a part of memory is a step of the whole -/
theorem Inv.frame {E : Env} {ρ ρ' : Rho} {hS hq h' hS' : H} {w w' : World} (iS : Inv E ρ hS w.heap) (sub : ∀ b o, hq.objs.get b = some o → hS.objs.get b = some o) (hnx : hS.nx = hq.nx)
    (st : Stp hq.nx ρ ρ' hq h' w w') (i' : Inv E ρ' h' w'.heap) (hnx' : hS'.nx = h'.nx)
    (spec : ∀ b o, hS'.objs.get b = some o → h'.objs.get b = some o ∨ (hS.objs.get b = some o ∧ hq.objs.get b = none)) :
    Inv E ρ' hS' w'.heap ∧ Stp hq.nx ρ ρ' hS hS' w w' := by
  -- a block outside the part: where it was, with the same content
  have old : ∀ b o l, hS.objs.get b = some o → ρ' b = some l → ρ b = some l := by
    intro b o l ho hl
    rcases st.dom b l hl with h | h
    · exact h
    · have := iS.lt b o ho; omega
  have apart : ∀ b o l, hS.objs.get b = some o → hq.objs.get b = none → ρ b = some l → ∀ b0 o0 l0, hq.objs.get b0 = some o0 → ρ b0 = some l0 → l0.blk ≠ l.blk := by
    intro b o l ho hn hl b0 o0 l0 h0 hl0 he
    have := iS.inj b0 b o0 o l0 l (sub b0 o0 h0) hl0 ho hl he
    subst this
    rw [hn] at h0; cases h0
  have cross : ∀ b b' o o' l l', h'.objs.get b = some o → ρ' b = some l → hS.objs.get b' = some o' → hq.objs.get b' = none → ρ' b' = some l' → l.blk = l'.blk → b = b' := by
    intro b b' o o' l l' ho hl ho' hn' hl' he
    have hl0' := old b' o' l' ho' hl'
    cases hb : ρ b with
    | some l1 =>
      have : l1 = l := by have := st.ext b l1 hb; rw [hl] at this; exact (Option.some.inj this).symm
      subst this
      rcases st.live b o ho with ⟨o0, h0⟩ | hge
      · exact absurd he (apart b' o' l' ho' hn' hl0' b o0 l1 h0 hb)
      · have := iS.dlt b l1 hb; omega
    | none =>
      rcases st.fresh b l hl hb with hlt | ⟨b0, o0, l0, h0, hl0, heq⟩
      · have := iS.blkLt ho' hl0'; omega
      · exact absurd (heq.trans he) (apart b' o' l' ho' hn' hl0' b0 o0 l0 h0 hl0)
  refine ⟨⟨?_, ?_, ?_, ?_⟩, ⟨?_, st.ext, st.dom, st.size, ?_, ?_, ?_, st.same⟩⟩
  · intro b o l ho hl
    rcases spec b o ho with h | ⟨h, hn⟩
    · exact i'.obj b o l h hl
    · have hl0 := old b o l h hl
      have hf := st.frame l.blk (iS.blkLt h hl0) (fun b0 o0 l0 h0 hl0' => apart b o l h hn hl0 b0 o0 l0 h0 hl0')
      rw [hf]
      exact (iS.obj b o l h hl0).mono st.ext
  · intro b b' o o' l l' ho hl ho' hl' he
    rcases spec b o ho with h | ⟨h, hn⟩ <;> rcases spec b' o' ho' with k | ⟨k, kn⟩
    · exact i'.inj b b' o o' l l' h hl k hl' he
    · exact cross b b' o o' l l' h hl k kn hl' he
    · exact (cross b' b o' o l' l k hl' h hn hl he.symm).symm
    · exact iS.inj b b' o o' l l' h (old b o l h hl) k (old b' o' l' k hl') he
  · intro b o ho
    rw [hnx']
    rcases spec b o ho with h | ⟨h, hn⟩
    · exact i'.lt b o h
    · have h1 := iS.lt b o h
      have h2 := st.mono
      omega
  · intro b l hl; rw [hnx']; exact i'.dlt b l hl
  · rw [hnx, hnx']; exact st.mono
  · intro x hx hall
    exact st.frame x hx fun b o l ho hl => hall b o l (sub b o ho) hl
  · intro b l hl hn
    rcases st.fresh b l hl hn with h | ⟨b0, o0, l0, h0, hl0, heq⟩
    · exact .inl h
    · exact .inr ⟨b0, o0, l0, sub b0 o0 h0, hl0, heq⟩
  · intro b o ho
    rcases spec b o ho with h | ⟨h, hn⟩
    · rcases st.live b o h with ⟨o0, h0⟩ | hge
      · exact .inl ⟨o0, sub b o0 h0⟩
      · exact .inr hge
    · exact .inl ⟨o, h⟩

/-- the same memory in another trie -/
theorem Stp.like {N : Nat} {ρ ρ' : Rho} {h h' h'' : H} {w w' : World} (s : Stp N ρ ρ' h h' w w') (hnx : h'.nx ≤ h''.nx) (hsub : ∀ b o, h''.objs.get b = some o → h'.objs.get b = some o) : Stp N ρ ρ' h h'' w w' :=
  ⟨Nat.le_trans s.mono hnx, s.ext, s.dom, s.size, s.frame, s.fresh, fun b o e => s.live b o (hsub b o e), s.same⟩

end Go.CS

