/- A drawn region: what its plan's run tells. -/
import Derived.Test.YtalkgjnbjfpdmaaGreatDoorCsStep
set_option linter.unusedVariables false
set_option linter.unusedSimpArgs false
set_option linter.unusedSectionVars false
set_option linter.deprecated false

namespace Go.CS
open Go

theorem qop_nx {E : Env} {t : Tr Value} {x : Tr CObj} {n m : Nat} {o : Oper} : qop E t ⟨x, n⟩ o = qop E t ⟨x, m⟩ o := by
  obtain ⟨dst, op, type, pos, after, guard⟩ := o
  cases op <;> rfl

structure Ctx where
  E : Env
  C : Caller
  nt : Nat
  ops : Array Oper
  p : Plan
  T : Nat → St
  M : Nat → Nat
  wr : Tr Nat
  nx0 : Nat

namespace Ctx
variable (c : Ctx)
def dsts : Nat → Option Tmp := dstOf c.ops
/-- the operation at a position -/
def Is (k : Nat) (e : PE) (o : Oper) : Prop := c.p[k]? = some e ∧ c.ops.toList[e.i]? = some o
def fin : St := c.T c.p.length
end Ctx

structure Tra (c : Ctx) : Prop where
  here : ∀ k e o, c.Is k e o → At c.E c.nt c.wr c.ops.toList c.M c.p .e [] [] [] k e o
  op : ∀ (k : Nat) (e : PE), c.p[k]? = some e → ∃ o, c.Is k e o
  cov : ∀ i < c.ops.size, ∃ k e o, c.Is k e o ∧ e.i = i
  stp : ∀ k e o, c.Is k e o → stepP c.E c.C c.nt c.dsts c.nx0 e o (c.T k) = some (c.T (k + 1)) ∧ recheck c.E c.dsts c.ops.toList (c.T (k + 1)).t (c.T (k + 1)).h e.re = true

theorem runPlan_trace {E : Env} {C : Caller} {nt : Nat} {dsts : Nat → Option Tmp} {ops : List Oper} {nx0 : Nat} : ∀ (p : Plan) (s s' : St), runPlan E C nt dsts ops nx0 p s = some s' →
    ∃ T : Nat → St, T 0 = s ∧ T p.length = s' ∧ ∀ k e o, p[k]? = some e → ops[e.i]? = some o →
      stepP E C nt dsts nx0 e o (T k) = some (T (k + 1)) ∧ recheck E dsts ops (T (k + 1)).t (T (k + 1)).h e.re = true := by
  intro p
  induction p with
  | nil =>
    intro s s' h
    simp only [runPlan, Option.some.injEq] at h; subst h
    exact ⟨fun _ => s, rfl, rfl, by simp⟩
  | cons e l ih =>
    intro s s' h
    simp only [runPlan, cond_eq_ite] at h
    split at h
    · cases h
    rename_i o ho
    split at h
    case h_2 => cases h
    rename_i s1 hs
    split at h
    case isFalse => cases h
    rename_i hre
    obtain ⟨T, h0, hn, hT⟩ := ih s1 s' h
    refine ⟨fun k => match k with | 0 => s | k + 1 => T k, rfl, by simpa using hn, ?_⟩
    intro k e' o' hk ho'
    cases k with
    | zero =>
      simp only [List.getElem?_cons_zero, Option.some.injEq] at hk
      subst hk
      rw [ho] at ho'; cases ho'
      simp only [h0]
      exact ⟨hs, hre⟩
    | succ k => exact hT k e' o' (by simpa using hk) ho'

section
variable {c : Ctx} (tr : Tra c)
include tr

theorem Tra.inj {k k' : Nat} {e e' : PE} {o o' : Oper} (h : c.Is k e o) (h' : c.Is k' e' o') (he : e.i = e'.i) : k = k' := by
  rcases Nat.lt_trichotomy k k' with hlt | heq | hlt
  · exact absurd he ((tr.here k' e' o' h').new.2 k e hlt h.1)
  · exact heq
  · exact absurd he.symm ((tr.here k e o h).new.2 k' e' hlt h'.1)

theorem Tra.lt {k : Nat} {e : PE} {o : Oper} (h : c.Is k e o) : e.i < c.ops.size := by
  have := (List.getElem?_eq_some_iff.1 h.2).1
  simpa using this

theorem Tra.plt {k : Nat} {e : PE} {o : Oper} (h : c.Is k e o) : k < c.p.length := (List.getElem?_eq_some_iff.1 h.1).1

/-- a set with all that must lie before -/
def Clo (c : Ctx) (S : Nat → Prop) : Prop := ∀ i o, S i → c.ops.toList[i]? = some o → ∀ g ∈ o.after, Region.binds .any g = true → S g.on

theorem Tra.bef {S : Nat → Prop} (hS : Clo c S) : ∀ (k : Nat) (e : PE) (o : Oper), c.Is k e o → (∀ g ∈ o.after, Region.binds .any g = true → S g.on) → ∀ j, (c.M e.i).testBit j = true → S j := by
  intro k
  induction k using Nat.strongRecOn with
  | _ k ih =>
    intro e o h hS' j hj
    obtain ⟨g, hg, hb, hgj⟩ := (tr.here k e o h).bef j hj
    rcases hgj with rfl | hgj
    · exact hS' g hg hb
    · rcases (tr.here k e o h).aft g hg hb with ⟨m, hm⟩ | ⟨k', e', hk', he', hi⟩
      · rw [Tr.get_e] at hm; cases hm
      · obtain ⟨o', ho'⟩ := tr.op k' e' he'
        have hsg := hS' g hg hb
        rw [← hi] at hsg hgj
        exact ih k' hk' e' o' ho' (hS e'.i o' hsg ho'.2) j hgj

theorem Tra.befIn {S : Nat → Prop} (hS : Clo c S) {k : Nat} {e : PE} {o : Oper} (h : c.Is k e o) (hi : S e.i) {j : Nat} (hj : (c.M e.i).testBit j = true) : S j :=
  tr.bef hS k e o h (hS e.i o hi h.2) j hj

theorem Tra.befPos {k : Nat} {e : PE} {o : Oper} (h : c.Is k e o) {j : Nat} (hj : (c.M e.i).testBit j = true) : ∃ k' e' o', k' < k ∧ c.Is k' e' o' ∧ e'.i = j := by
  have aft : ∀ k1 e1 o1, c.Is k1 e1 o1 → k1 ≤ k → ∀ g ∈ o1.after, Region.binds .any g = true → ∃ k' e' o', k' < k ∧ c.Is k' e' o' ∧ e'.i = g.on := by
    intro k1 e1 o1 h1 hk1 g hg hb
    rcases (tr.here k1 e1 o1 h1).aft g hg hb with ⟨m, hm⟩ | ⟨k', e', hk', he', hi⟩
    · rw [Tr.get_e] at hm; cases hm
    · obtain ⟨o', ho'⟩ := tr.op k' e' he'
      exact ⟨k', e', o', by omega, ho', hi⟩
  refine tr.bef (S := fun i => ∃ k' e' o', k' < k ∧ c.Is k' e' o' ∧ e'.i = i) ?_ k e o h (aft k e o h (Nat.le_refl _)) j hj
  rintro i o1 ⟨k', e', o', hk', he', rfl⟩ ho1 g hg hb
  have : o1 = o' := by have := he'.2; rw [ho1] at this; exact Option.some.inj this
  subst this
  exact aft k' e' o1 he' (by omega) g hg hb

omit tr in
theorem stepP_put {E : Env} {C : Caller} {nt : Nat} {dsts : Nat → Option Tmp} {nx0 : Nat} {e : PE} {o : Oper} {s s' : St} (h : stepP E C nt dsts nx0 e o s = some s') : ∃ v, s'.t = put s.t nt o.dst v := by
  unfold stepP at h
  split at h
  · split at h
    · simp only [Option.some.injEq] at h; subst h; exact ⟨_, rfl⟩
    · cases h
  · simp only [Option.some.injEq] at h; subst h; exact ⟨_, rfl⟩
  · cases h

omit tr in
theorem put_other {t : Tr Value} {n : Nat} {x : Option Tmp} {v : Value} {d : Nat} (h : x ≠ some d) : (put t n x v).get d = t.get d := by
  cases x with
  | none => rfl
  | some y =>
    simp only [put, cond_eq_ite]
    split
    · rw [Tr.get_set_ne]; exact fun h' => h (by rw [h'])
    · rfl

omit tr in
theorem put_here {t : Tr Value} {n : Nat} {v : Value} {d : Nat} (h : d < n) : (put t n (some d) v).get d = some v := by
  simp only [put, cond_eq_ite, nblt, decide_eq_true h, if_true, Tr.get_set_self]

/-- a slot that nothing writes between stays -/
theorem Tra.stay {d : Nat} {k : Nat} : ∀ {k' : Nat}, k ≤ k' → k' ≤ c.p.length → (∀ k'' e o, k ≤ k'' → k'' < k' → c.Is k'' e o → o.dst ≠ some d) → (c.T k').t.get d = (c.T k).t.get d := by
  intro k' hle
  induction hle with
  | refl => intro _ _; rfl
  | step hm ih =>
    rename_i m
    intro hn h
    rw [← ih (by omega) fun k'' e o h1 h2 h3 => h k'' e o h1 (by omega) h3]
    obtain ⟨e, he⟩ : ∃ e, c.p[m]? = some e := ⟨c.p[m], List.getElem?_eq_getElem _⟩
    obtain ⟨o, ho⟩ := tr.op m e he
    obtain ⟨v, hv⟩ := stepP_put (tr.stp m e o ho).1
    rw [hv]
    exact put_other (h m e o (by simpa using hm) (by omega) ho)

/-- the slots that an operation looks at, when it has been carried out at its place and later -/
theorem Tra.writer {k k' : Nat} {e e' : PE} {o o' : Oper} (h : c.Is k e o) (h' : c.Is k' e' o') {d : Nat} (hd : o.dst = some d) (hd' : o'.dst = some d) : k = k' := by
  have h1 := ((tr.here k e o h).dst d hd).2
  have h2 := ((tr.here k' e' o' h').dst d hd').2
  rw [h1] at h2
  exact tr.inj h h' (Option.some.inj h2)

theorem Tra.value {k : Nat} {e : PE} {o : Oper} (h : c.Is k e o) {d : Nat} (hd : o.dst = some d) {v : Value} (hv : (c.T (k + 1)).t = put (c.T k).t c.nt o.dst v) : c.fin.t.get d = some v := by
  have hlt := tr.plt h
  have h1 := tr.stay (d := d) (k := k + 1) (k' := c.p.length) (by omega) (Nat.le_refl _) fun k'' e' o' h1 h2 h3 h4 => by
    have := tr.writer h h3 hd h4; omega
  rw [Ctx.fin, h1, hv, hd]
  exact put_here ((tr.here k e o h).dst d hd).1

theorem Tra.dsts (j : Nat) : c.dsts j = (c.ops.toList[j]?).bind (·.dst) := by
  unfold Ctx.dsts dstOf
  cases c.ops.toList[j]? <;> rfl
end
end Go.CS

/- A drawn region: what holds when some of its operations have been carried out. -/
namespace Go.CS
open Go

/-- the block that an operation makes at its place -/
def made (c : Ctx) (k : Nat) (o : Oper) : Option CObj :=
  match wantedC (c.T k).t c.dsts o.guard with
  | some true => (match kindOf c.E o with
    | .alloc => (match aop c.E (c.T k).t o with
      | some (ob, _) => some ob
      | none => none)
    | _ => none)
  | _ => none

structure J (c : Ctx) (s : St) (p0 : World) (ρ0 : Rho) (L : Nat → Prop) (K : Nat) (ρ : Rho) (hS : H) (a : Act) (w : World) : Prop where
  clo : Clo c L
  Kc : ∀ k e o, c.Is k e o → kindN c.E o = 2 → (L e.i ↔ k < K)
  Kl : K = 0 ∨ ∃ q e o, K = q + 1 ∧ c.Is q e o ∧ kindN c.E o = 2
  nx : hS.nx = (c.T K).h.nx
  out : ∀ b, (∀ i < c.ops.size, b ≠ c.nx0 + i) → hS.objs.get b = (c.T K).h.objs.get b
  low : ∀ k e o, c.Is k e o → L e.i → k < K → hS.objs.get (c.nx0 + e.i) = (c.T K).h.objs.get (c.nx0 + e.i)
  hi : ∀ k e o, c.Is k e o → L e.i → K ≤ k → hS.objs.get (c.nx0 + e.i) = made c k o
  no : ∀ k e o, c.Is k e o → ¬ L e.i → hS.objs.get (c.nx0 + e.i) = none ∧ ρ (c.nx0 + e.i) = none ∧ (c.T K).h.objs.get (c.nx0 + e.i) = none
  up : ∀ k e o, c.Is k e o → K ≤ k → (c.T K).h.objs.get (c.nx0 + e.i) = none
  room : c.nx0 + c.ops.size ≤ (c.T K).h.nx
  inv : Inv c.E ρ hS w.heap
  st : Stp s.h.nx ρ0 ρ s.h hS p0 w
  sz : a.tmps.size = c.nt
  t2 : ∀ d, (∀ k e o, c.Is k e o → o.dst = some d → L e.i) → VRel ρ ((c.fin.t.get d).getD undef) (a.tmps.getD d undef)
  t3 : ∀ d k e o, c.Is k e o → o.dst = some d → ¬ L e.i → VRel ρ (((c.T 0).t.get d).getD undef) (a.tmps.getD d undef)
  ds : DsRel ρ (c.T K).ds a.defers
  g : GOk c.E ρ

theorem kindN_alloc {E : Env} {o : Oper} : kindN E o = 3 ↔ kindOf E o = .alloc := by
  unfold kindN
  cases kindOf E o <;> simp [cond_eq_ite]
  split <;> simp
theorem kindN_chg {E : Env} {o : Oper} : kindN E o = 2 ↔ (kindOf E o ≠ .quiet ∧ kindOf E o ≠ .alloc) := by
  unfold kindN
  cases kindOf E o <;> simp [cond_eq_ite]
  split <;> simp
theorem kindN_quiet {E : Env} {o : Oper} : (kindN E o = 0 ∨ kindN E o = 1) ↔ kindOf E o = .quiet := by
  unfold kindN
  cases kindOf E o <;> simp [cond_eq_ite]
theorem kindN_free {E : Env} {o : Oper} (h : kindOf E o = .quiet) : (hfree E o = true ∧ kindN E o = 0) ∨ (hfree E o = false ∧ kindN E o = 1) := by
  unfold kindN
  rw [h]
  cases hfree E o <;> simp

/-- what one step of the plan does to memory -/
theorem stepP_heap {E : Env} {C : Caller} {nt : Nat} {dsts : Nat → Option Tmp} {nx0 : Nat} {e : PE} {o : Oper} {s s' : St} (h : stepP E C nt dsts nx0 e o s = some s') (hk : kindN E o ≠ 2) :
    s'.h.nx = s.h.nx ∧ s'.ds = s.ds ∧ ∀ b, s'.h.objs.get b = if b = nx0 + e.i then (match (match wantedC s.t dsts o.guard with
      | some true => (match kindOf E o with
        | .alloc => (match aop E s.t o with
          | some (ob, _) => some ob
          | none => none)
        | _ => none)
      | _ => none : Option CObj) with
      | some ob => some ob
      | none => s.h.objs.get b) else s.h.objs.get b := by
  unfold stepP at h
  cases hw : wantedC s.t dsts o.guard with
  | none => rw [hw] at h; cases h
  | some q =>
    rw [hw] at h
    cases q with
    | false =>
      simp only [Option.some.injEq] at h; subst h
      simp
    | true =>
      simp only at h
      split at h
      case h_2 => cases h
      rename_i v h' ds' hop
      simp only [Option.some.injEq] at h; subst h
      cases hkind : kindOf E o with
      | quiet =>
        simp only [opRun, hkind] at hop
        split at hop
        · simp only [Option.some.injEq, Prod.mk.injEq] at hop
          obtain ⟨rfl, rfl, rfl⟩ := hop
          simp
        · cases hop
      | alloc =>
        simp only [opRun, hkind] at hop
        split at hop
        · rename_i ob hd ha
          simp only [Option.some.injEq, Prod.mk.injEq] at hop
          obtain ⟨rfl, rfl, rfl⟩ := hop
          refine ⟨rfl, rfl, fun b => ?_⟩
          simp only [ha, Tr.get_set]
        · cases hop
      | _ => exact absurd (kindN_chg.2 (by rw [hkind]; simp)) hk

section
variable {c : Ctx} (tr : Tra c)
include tr

/-- places without a change: memory there -/
theorem Tra.range {K : Nat} : ∀ {k : Nat}, K ≤ k → k ≤ c.p.length → (∀ q e o, K ≤ q → q < k → c.Is q e o → kindN c.E o ≠ 2) →
    (c.T k).h.nx = (c.T K).h.nx ∧ (c.T k).ds = (c.T K).ds ∧ (∀ b, (∀ q e o, K ≤ q → q < k → c.Is q e o → made c q o ≠ none → b ≠ c.nx0 + e.i) → (c.T k).h.objs.get b = (c.T K).h.objs.get b) ∧
      ∀ q e o, K ≤ q → q < k → c.Is q e o → made c q o ≠ none → (c.T k).h.objs.get (c.nx0 + e.i) = made c q o := by
  intro k hle
  induction hle with
  | refl => intro _ _; exact ⟨rfl, rfl, fun b _ => rfl, fun q e o h1 h2 => by omega⟩
  | step hm ih =>
    rename_i m
    have hm' : K ≤ m := by simpa using hm
    intro hn h
    obtain ⟨i1, i2, i3, i4⟩ := ih (by omega) fun q e o h1 h2 h3 => h q e o h1 (by omega) h3
    obtain ⟨e, he⟩ : ∃ e, c.p[m]? = some e := ⟨c.p[m], List.getElem?_eq_getElem _⟩
    obtain ⟨o, ho⟩ := tr.op m e he
    obtain ⟨s1, s2, s3⟩ := stepP_heap (tr.stp m e o ho).1 (h m e o hm' (by omega) ho)
    change ∀ b, (c.T (m + 1)).h.objs.get b = if b = c.nx0 + e.i then (match made c m o with | some ob => some ob | none => (c.T m).h.objs.get b) else (c.T m).h.objs.get b at s3
    refine ⟨s1.trans i1, s2.trans i2, ?_, ?_⟩
    · intro b hb
      rw [← i3 b fun q e o h1 h2 h3 => hb q e o h1 (by omega) h3, s3]
      split
      · rename_i hbe
        cases hmd : made c m o with
        | none => rfl
        | some ob => exact absurd hbe (hb m e o hm' (by omega) ho (by rw [hmd]; simp))
      · rfl
    · intro q e' o' h1 h2 h3 h4
      rw [s3]
      by_cases hq : q = m
      · subst hq
        have h31 := h3.1
        rw [ho.1] at h31
        cases h31
        have h32 := h3.2
        rw [ho.2] at h32
        cases h32
        rw [if_pos rfl]
        cases hmd : made c q o with
        | none => exact absurd hmd h4
        | some ob => rfl
      · have hne : c.nx0 + e'.i ≠ c.nx0 + e.i := fun h => hq (tr.inj h3 ho (by omega))
        rw [if_neg hne]
        exact i4 q e' o' h1 (by omega) h3 h4

variable {s : St} {p0 : World} {ρ0 : Rho} {L : Nat → Prop} {K : Nat} {ρ : Rho} {hS : H} {a : Act} {w : World}

/-- the slots that an operation looks at are what they were at its place -/
theorem J.looks (j : J c s p0 ρ0 L K ρ hS a w) {k : Nat} {e : PE} {o : Oper} (h : c.Is k e o) (hn : ¬ L e.i) (hr : ∀ g ∈ o.after, Region.binds .any g = true → L g.on) {d : Nat} (hd : d ∈ looksL c.ops.toList o) :
    VRel ρ (((c.T k).t.get d).getD undef) (a.tmps.getD d undef) := by
  have hlt := tr.plt h
  by_cases hw : ∃ kx ex ox, c.Is kx ex ox ∧ ox.dst = some d
  · obtain ⟨kx, ex, ox, hx, hxd⟩ := hw
    rcases (tr.here k e o h).look d hd ex.i ((tr.here kx ex ox hx).dst d hxd).2 with hb | ⟨⟨_, hb1⟩, hb2, _⟩
    · obtain ⟨k', e', o', h1, h2, h3⟩ := tr.befPos h hb
      have : k' = kx := tr.inj h2 hx h3
      subst this
      rw [← tr.stay (d := d) (k := k) (k' := c.p.length) (by omega) (Nat.le_refl _) fun k'' e'' o'' g1 g2 g3 g4 => by
        have := tr.writer hx g3 hxd g4; omega]
      refine j.t2 d fun k'' e'' o'' g1 g2 => ?_
      have := tr.writer hx g1 hxd g2
      subst this
      have he := g1.1; rw [hx.1] at he; cases he
      exact tr.bef j.clo k e o h hr _ hb
    · have hge : k ≤ kx := by
        rcases Nat.lt_or_ge kx k with hlt' | hge
        · exact absurd rfl (hb1 kx ex hlt' hx.1)
        · exact hge
      rw [tr.stay (d := d) (k := 0) (k' := k) (by omega) (by omega) fun k'' e'' o'' g1 g2 g3 g4 => by
        have := tr.writer hx g3 hxd g4; omega]
      refine j.t3 d kx ex ox hx hxd fun hL => ?_
      rcases Nat.lt_or_ge k kx with hlt' | hge'
      · exact hn (tr.befIn j.clo hx hL (hb2 kx ex hlt' hx.1 rfl))
      · have : k = kx := by omega
        subst this
        have he := h.1; rw [hx.1] at he; cases he
        exact hn hL
  · rw [← tr.stay (d := d) (k := k) (k' := c.p.length) (by omega) (Nat.le_refl _) fun k'' e'' o'' g1 g2 g3 g4 => hw ⟨k'', e'', o'', g3, g4⟩]
    exact j.t2 d fun k'' e'' o'' g1 g2 => absurd ⟨k'', e'', o'', g1, g2⟩ hw
end
end Go.CS

/- A drawn region: one more operation. -/
namespace Go.CS
open Go

def restr (t : Tr Value) : List Nat → Tr Value
  | [] => .e
  | d :: l => (restr t l).set d (t.get d)

theorem restr_get (t : Tr Value) (l : List Nat) (d : Nat) : (restr t l).get d = if d ∈ l then t.get d else none := by
  induction l with
  | nil => simp [restr, Tr.get_e]
  | cons x l ih =>
    simp only [restr, Tr.get_set, ih, List.mem_cons]
    by_cases h : d = x
    · subst h; simp
    · simp [h]

def keepT (nt : Nat) (l : List Nat) (v : Array Value) : Array Value := ((List.range nt).map fun d => if d ∈ l then v.getD d undef else undef).toArray

theorem keepT_getD {nt : Nat} {l : List Nat} {v : Array Value} (hs : v.size = nt) (d : Nat) : (keepT nt l v).getD d undef = if d ∈ l then v.getD d undef else undef := by
  unfold keepT
  rw [Array.getD_eq_getD_getElem?]
  by_cases h : d < nt
  · simp [h]
  · have : v.getD d undef = undef := by rw [Array.getD_eq_getD_getElem?, Array.getElem?_eq_none (by omega)]; rfl
    simp [h, this]

theorem getElem?_of_getD {x y : Array Value} (hs : x.size = y.size) {t : Nat} (h : x.getD t undef = y.getD t undef) : x[t]? = y[t]? := by
  rw [Array.getD_eq_getD_getElem?, Array.getD_eq_getD_getElem?] at h
  by_cases ht : t < x.size
  · have ht' : t < y.size := by omega
    simpa [ht, ht'] using h
  · rw [Array.getElem?_eq_none (by omega), Array.getElem?_eq_none (by omega)]

def keepA (nt : Nat) (l : List Nat) (a : Act) : Act := { a with tmps := keepT nt l a.tmps }

theorem keepA_eval {nt : Nat} {l : List Nat} {a : Act} (hs : a.tmps.size = nt) {x : Operand} (hx : ∀ d, x = .tmp d → d ∈ l) : (keepA nt l a).eval x = a.eval x := by
  cases x with
  | tmp d =>
    have := keepT_getD (l := l) hs d
    rw [if_pos (hx d rfl)] at this
    exact this
  | _ => rfl

theorem keepA_wanted {nt : Nat} {ops : Array Oper} {o : Oper} {a : Act} (hs : a.tmps.size = nt) :
    Region.wanted o (yielded ops (keepA nt (looksL ops.toList o) a).tmps) = Region.wanted o (yielded ops a.tmps) := by
  unfold Region.wanted
  cases hg : o.guard with
  | none => rfl
  | some gw =>
    obtain ⟨g, want⟩ := gw
    have hy : yielded ops (keepA nt (looksL ops.toList o) a).tmps g = yielded ops a.tmps g := by
      unfold yielded
      cases ht : (ops[g]?).bind (·.dst) with
      | none => rfl
      | some t =>
        have hl : t ∈ looksL ops.toList o := by
          refine List.mem_append_right _ ?_
          cases ho : ops[g]? with
          | none => simp [ho] at ht
          | some og =>
            rw [ho] at ht
            have h1 : ops.toList[g]? = some og := by simpa using ho
            have h2 : og.dst = some t := ht
            simp [hg, h1, h2]
        have := keepT_getD (l := looksL ops.toList o) hs t
        rw [if_pos hl] at this
        simp only [Option.bind_some]
        rw [show (keepA nt (looksL ops.toList o) a).tmps[t]? = a.tmps[t]? from getElem?_of_getD (x := keepT nt (looksL ops.toList o) a.tmps) (by simp [keepT, hs]) this]
    simp only [hy]

section
variable {c : Ctx} (tr : Tra c)
variable {s : St} {p0 : World} {ρ0 : Rho} {L : Nat → Prop} {K : Nat} {ρ : Rho} {hS : H} {a : Act} {w : World}
include tr

theorem J.keep (j : J c s p0 ρ0 L K ρ hS a w) {k : Nat} {e : PE} {o : Oper} (h : c.Is k e o) (hn : ¬ L e.i) (hr : ∀ g ∈ o.after, Region.binds .any g = true → L g.on) :
    TRel ρ c.nt (restr (c.T k).t (looksL c.ops.toList o)) (keepA c.nt (looksL c.ops.toList o) a).tmps := by
  refine ⟨by simp [keepA, keepT], fun d => ?_⟩
  rw [restr_get]
  show VRel ρ _ ((keepT c.nt (looksL c.ops.toList o) a.tmps).getD d undef)
  rw [keepT_getD j.sz]
  by_cases hd : d ∈ looksL c.ops.toList o
  · rw [if_pos hd, if_pos hd]; exact j.looks tr h hn hr hd
  · rw [if_neg hd, if_neg hd]; exact .undef

/-- the slots behind one more operation -/
theorem J.slots (j : J c s p0 ρ0 L K ρ hS a w) {k : Nat} {e : PE} {o : Oper} (h : c.Is k e o) {ρ' : Rho} (hx : Ext ρ ρ') {v v' : Value} (hv : VRel ρ' v v') (hT : (c.T (k + 1)).t = put (c.T k).t c.nt o.dst v)
    {df : List Deferred} : let a' := ({ a with defers := df } : Act).put o.dst v'
    a'.tmps.size = c.nt ∧ (∀ d, (∀ k1 e1 o1, c.Is k1 e1 o1 → o1.dst = some d → L e1.i ∨ e1.i = e.i) → VRel ρ' ((c.fin.t.get d).getD undef) (a'.tmps.getD d undef)) ∧
      ∀ d k1 e1 o1, c.Is k1 e1 o1 → o1.dst = some d → ¬ (L e1.i ∨ e1.i = e.i) → VRel ρ' (((c.T 0).t.get d).getD undef) (a'.tmps.getD d undef) := by
  intro a'
  have hoth : ∀ d, o.dst ≠ some d → a'.tmps.getD d undef = a.tmps.getD d undef := by
    intro d hd
    show (Act.put _ o.dst v').tmps.getD d undef = _
    cases hdst : o.dst with
    | none => rfl
    | some x =>
      have : x ≠ d := fun he => hd (by rw [hdst, he])
      simp [Act.put, Array.getD_eq_getD_getElem?, Array.getElem?_setIfInBounds_ne this]
  refine ⟨?_, ?_, ?_⟩
  · show (Act.put _ o.dst v').tmps.size = _
    cases o.dst <;> simp [Act.put, j.sz]
  · intro d hd
    by_cases hdst : o.dst = some d
    · rw [tr.value h hdst hT]
      have hlt := ((tr.here k e o h).dst d hdst).1
      have : a'.tmps.getD d undef = v' := by
        show (Act.put _ o.dst v').tmps.getD d undef = _
        rw [hdst]
        have : d < a.tmps.size := by rw [j.sz]; exact hlt
        simp [Act.put, Array.getD_eq_getD_getElem?, this]
      rw [this]; exact hv
    · rw [hoth d hdst]
      refine (j.t2 d fun k1 e1 o1 h1 h2 => ?_).mono hx
      rcases hd k1 e1 o1 h1 h2 with h3 | h3
      · exact h3
      · have := tr.inj h1 h h3
        subst this
        have he := h1.1; rw [h.1] at he; cases he
        have ho := h1.2; rw [h.2] at ho; cases ho
        exact absurd h2 hdst
  · intro d k1 e1 o1 h1 h2 h3
    have hdst : o.dst ≠ some d := fun hd => by
      have := tr.writer h1 h h2 hd
      subst this
      have he := h1.1; rw [h.1] at he; cases he
      exact h3 (.inr rfl)
    rw [hoth d hdst]
    exact (j.t3 d k1 e1 o1 h1 h2 fun hl => h3 (.inl hl)).mono hx

/-- what is seen at a place is there -/
theorem J.sub (j : J c s p0 ρ0 L K ρ hS a w) {q : Nat} (hK : K ≤ q) (hq : q ≤ c.p.length) (hno : ∀ q' e o, K ≤ q' → q' < q → c.Is q' e o → kindN c.E o ≠ 2) {x : Tr CObj}
    (hx : ∀ b ob, x.get b = some ob → (c.T q).h.objs.get b = some ob) (hid : ∀ q' e o, K ≤ q' → q' < q → c.Is q' e o → kindN c.E o = 3 → L e.i ∨ x.get (c.nx0 + e.i) = none) :
    ∀ b ob, x.get b = some ob → hS.objs.get b = some ob := by
  intro b ob hb
  obtain ⟨r1, r2, r3, r4⟩ := tr.range hK hq hno
  have hT := hx b ob hb
  by_cases hres : ∀ i < c.ops.size, b ≠ c.nx0 + i
  · rw [r3 b fun q' e o _ _ h1 _ => hres e.i (tr.lt h1)] at hT
    rw [j.out b hres]; exact hT
  · have : ∃ i, i < c.ops.size ∧ b = c.nx0 + i := by
      by_cases hc : ∃ i, i < c.ops.size ∧ b = c.nx0 + i
      · exact hc
      · exact absurd (fun i hi hbi => hc ⟨i, hi, hbi⟩) hres
    obtain ⟨i, hi, rfl⟩ := this
    obtain ⟨k, e, o, h, rfl⟩ := tr.cov i hi
    have same : ∀ q' e' o', c.Is q' e' o' → c.nx0 + e.i = c.nx0 + e'.i → q' = k := fun q' e' o' h1 h2 => tr.inj h1 h (by omega)
    rcases Nat.lt_or_ge k K with hkK | hkK
    · rw [r3 _ fun q' e' o' h1 _ h3 _ h5 => by have := same q' e' o' h3 h5; omega] at hT
      by_cases hL : L e.i
      · rw [j.low k e o h hL hkK]; exact hT
      · rw [(j.no k e o h hL).2.2] at hT; cases hT
    · have hup := j.up k e o h hkK
      rcases Nat.lt_or_ge k q with hkq | hkq
      · by_cases hm : made c k o = none
        · rw [r3 _ fun q' e' o' _ _ h3 h4 h5 => by
            have := same q' e' o' h3 h5
            subst this
            have ho := h3.1; rw [h.1] at ho; cases ho
            have ho := h3.2; rw [h.2] at ho; cases ho
            exact h4 hm, hup] at hT
          cases hT
        · have hk3 : kindN c.E o = 3 := by
            rw [kindN_alloc]
            unfold made at hm
            split at hm
            · split at hm
              · assumption
              · exact absurd rfl hm
            · exact absurd rfl hm
          rcases hid k e o hkK hkq h hk3 with hL | hn
          · rw [j.hi k e o h hL hkK, ← r4 k e o hkK hkq h hm]; exact hT
          · rw [hn] at hb; cases hb
      · rw [r3 _ fun q' e' o' _ h2 h3 _ h5 => by have := same q' e' o' h3 h5; omega, hup] at hT
        cases hT
end
end Go.CS

/- A drawn region: the three kinds of one more operation. -/
namespace Go.CS
open Go

/-- put, under a condition, what f says at the reserved numbers -/
def mrgL (nx0 : Nat) (f : Nat → Option (Option CObj)) : Nat → Tr CObj → Tr CObj
  | 0, t => t
  | n + 1, t => match f n with
    | some x => (mrgL nx0 f n t).set (nx0 + n) x
    | none => mrgL nx0 f n t

theorem mrgL_get (nx0 : Nat) (f : Nat → Option (Option CObj)) (t : Tr CObj) : ∀ (n b : Nat), (mrgL nx0 f n t).get b = if nx0 ≤ b ∧ b < nx0 + n then (match f (b - nx0) with | some x => x | none => t.get b) else t.get b := by
  intro n
  induction n with
  | zero => intro b; rw [if_neg (by omega)]; rfl
  | succ n ih =>
    intro b
    simp only [mrgL]
    by_cases hb : b = nx0 + n
    · subst hb
      rw [if_pos (by omega), Nat.add_sub_cancel_left]
      cases hf : f n with
      | some x => simp only [Tr.get_set_self]
      | none => simp only [ih]; rw [if_neg (by omega)]
    · have h1 : (nx0 ≤ b ∧ b < nx0 + (n + 1)) ↔ (nx0 ≤ b ∧ b < nx0 + n) := by omega
      simp only [h1]
      cases hf : f n with
      | some x => simp only [Tr.get_set_ne _ _ _ hb, ih]
      | none => simp only [ih]

section
variable {c : Ctx} (tr : Tra c)
variable {s : St} {p0 : World} {ρ0 : Rho} {L : Nat → Prop} {K : Nat} {ρ : Rho} {hS : H} {a : Act} {w : World}
include tr

theorem Tra.same {k k' : Nat} {e e' : PE} {o o' : Oper} (h : c.Is k e o) (h' : c.Is k' e' o') (he : e'.i = e.i) : k' = k ∧ e' = e ∧ o' = o := by
  have := tr.inj h' h he
  subst this
  have h1 := h'.1; rw [h.1] at h1; cases h1
  have h2 := h'.2; rw [h.2] at h2; cases h2
  exact ⟨rfl, rfl, rfl⟩

theorem J.clo' (j : J c s p0 ρ0 L K ρ hS a w) {k : Nat} {e : PE} {o : Oper} (h : c.Is k e o) (hr : ∀ g ∈ o.after, Region.binds .any g = true → L g.on) : Clo c (fun i => L i ∨ i = e.i) := by
  intro i o1 hi ho1 g hg hb
  rcases hi with hi | rfl
  · exact .inl (j.clo i o1 hi ho1 g hg hb)
  · rw [h.2] at ho1; cases ho1
    exact .inl (hr g hg hb)

/-- an operation that leaves memory alone -/
theorem J.calm (j : J c s p0 ρ0 L K ρ hS a w) {k : Nat} {e : PE} {o : Oper} (h : c.Is k e o) (hn : ¬ L e.i) (hr : ∀ g ∈ o.after, Region.binds .any g = true → L g.on)
    (hk2 : kindN c.E o ≠ 2) (hm : made c k o = none) {v v' : Value} (hv : VRel ρ v v') (hT : (c.T (k + 1)).t = put (c.T k).t c.nt o.dst v) :
    J c s p0 ρ0 (fun i => L i ∨ i = e.i) K ρ hS (a.put o.dst v') w := by
  obtain ⟨g1, g2, g3⟩ := j.slots tr h (Ext.refl ρ) hv hT (df := a.defers)
  obtain ⟨n1, n2, n3⟩ := j.no k e o h hn
  refine { j with clo := j.clo' tr h hr, Kc := ?_, low := ?_, hi := ?_, no := ?_, sz := g1, t2 := g2, t3 := g3, ds := ?_ }
  · intro k1 e1 o1 h1 h2
    rw [← j.Kc k1 e1 o1 h1 h2]
    constructor
    · rintro (h3 | h3)
      · exact h3
      · obtain ⟨rfl, rfl, rfl⟩ := tr.same h h1 h3
        exact absurd h2 hk2
    · exact .inl
  · rintro k1 e1 o1 h1 (h2 | h2) h3
    · exact j.low k1 e1 o1 h1 h2 h3
    · rw [h2, n1, n3]
  · rintro k1 e1 o1 h1 (h2 | h2) h3
    · exact j.hi k1 e1 o1 h1 h2 h3
    · obtain ⟨rfl, rfl, rfl⟩ := tr.same h h1 h2
      rw [n1, hm]
  · intro k1 e1 o1 h1 h2
    exact j.no k1 e1 o1 h1 fun h3 => h2 (.inl h3)
  · rw [put_defers]; exact j.ds

/-- nothing that changes memory has gone by -/
theorem J.behind (j : J c s p0 ρ0 L K ρ hS a w) {k : Nat} {e : PE} {o : Oper} (h : c.Is k e o) (hn : ¬ L e.i) (hb : ∀ q e' o', c.Is q e' o' → kindN c.E o' = 2 → k < q → (c.M e'.i).testBit e.i = true) (hk2 : kindN c.E o ≠ 2) : K ≤ k := by
  rcases j.Kl with h0 | ⟨q, eq, oq, hK, hq, hq2⟩
  · omega
  · rcases Nat.lt_or_ge k K with hlt | hge
    · have hne : k ≠ q := fun he => by
        subst he
        have h1 := hq.1; rw [h.1] at h1; cases h1
        have h1 := hq.2; rw [h.2] at h1; cases h1
        exact hk2 hq2
      have hL := (j.Kc q eq oq hq hq2).2 (by omega)
      exact absurd (tr.befIn j.clo hq hL (hb q eq oq hq hq2 (by omega))) hn
    · exact hge

/-- a new block -/
theorem J.born (j : J c s p0 ρ0 L K ρ hS a w) {k : Nat} {e : PE} {o : Oper} (h : c.Is k e o) (hn : ¬ L e.i) (hr : ∀ g ∈ o.after, Region.binds .any g = true → L g.on)
    (hk3 : kindN c.E o = 3) {ob : CObj} (hm : made c k o = some ob) {v v' : Value} {ρ' : Rho} {w' : World} (hv : VRel ρ' v v') (hT : (c.T (k + 1)).t = put (c.T k).t c.nt o.dst v)
    (hnx : s.h.nx ≤ c.nx0) (hi0 : Inv c.E ρ0 s.h p0.heap) (hinv : Inv c.E ρ' ⟨hS.objs.set (c.nx0 + e.i) (some ob), hS.nx⟩ w'.heap) (hst : Stp (min (c.nx0 + e.i) hS.nx) ρ ρ' hS ⟨hS.objs.set (c.nx0 + e.i) (some ob), hS.nx⟩ w w')
    (hoth : ∀ b, b ≠ c.nx0 + e.i → ρ' b = ρ b) {df : List Deferred} (hds : DsRel ρ' (c.T K).ds df) :
    J c s p0 ρ0 (fun i => L i ∨ i = e.i) K ρ' ⟨hS.objs.set (c.nx0 + e.i) (some ob), hS.nx⟩ (({ a with defers := df } : Act).put o.dst v') w' := by
  obtain ⟨g1, g2, g3⟩ := j.slots tr h hst.ext hv hT (df := df)
  obtain ⟨n1, n2, n3⟩ := j.no k e o h hn
  have hk2 : kindN c.E o ≠ 2 := by omega
  have hKk : K ≤ k := j.behind tr h hn (fun q e' o' hq hq2 hlt => (((tr.here q e' o' hq).chg hq2).2.2.2 k e o hlt h.1 h.2).2.1 hk3) hk2
  have hN : s.h.nx ≤ min (c.nx0 + e.i) hS.nx := by
    have := j.st.mono
    omega
  refine { j with clo := j.clo' tr h hr, Kc := ?_, nx := j.nx, out := ?_, low := ?_, hi := ?_, no := ?_, inv := hinv, st := j.st.trans hi0 hN hst, sz := g1, t2 := g2, t3 := g3, ds := ?_, g := j.g.mono hst.ext }
  · intro k1 e1 o1 h1 h2
    rw [← j.Kc k1 e1 o1 h1 h2]
    constructor
    · rintro (h3 | h3)
      · exact h3
      · obtain ⟨rfl, rfl, rfl⟩ := tr.same h h1 h3
        exact absurd h2 hk2
    · exact .inl
  · intro b hb
    rw [Tr.get_set_ne _ _ _ (hb e.i (tr.lt h))]
    exact j.out b hb
  · rintro k1 e1 o1 h1 (h2 | h2) h3
    · have hne : c.nx0 + e1.i ≠ c.nx0 + e.i := fun he => hn (by rw [← Nat.add_left_cancel he]; exact h2)
      rw [Tr.get_set_ne _ _ _ hne]
      exact j.low k1 e1 o1 h1 h2 h3
    · obtain ⟨rfl, rfl, rfl⟩ := tr.same h h1 h2
      omega
  · rintro k1 e1 o1 h1 (h2 | h2) h3
    · have hne : c.nx0 + e1.i ≠ c.nx0 + e.i := fun he => hn (by rw [← Nat.add_left_cancel he]; exact h2)
      rw [Tr.get_set_ne _ _ _ hne]
      exact j.hi k1 e1 o1 h1 h2 h3
    · obtain ⟨rfl, rfl, rfl⟩ := tr.same h h1 h2
      rw [Tr.get_set_self, hm]
  · intro k1 e1 o1 h1 h2
    obtain ⟨m1, m2, m3⟩ := j.no k1 e1 o1 h1 fun h3 => h2 (.inl h3)
    have hne : c.nx0 + e1.i ≠ c.nx0 + e.i := fun he => h2 (.inr (Nat.add_left_cancel he))
    exact ⟨by rw [Tr.get_set_ne _ _ _ hne]; exact m1, by rw [hoth _ hne]; exact m2, m3⟩
  · rw [put_defers]; exact hds

/-- where an operation that changes memory stands -/
theorem J.front (j : J c s p0 ρ0 L K ρ hS a w) {k : Nat} {e : PE} {o : Oper} (h : c.Is k e o) (hn : ¬ L e.i) (hr : ∀ g ∈ o.after, Region.binds .any g = true → L g.on) (hk2 : kindN c.E o = 2) :
    K ≤ k ∧ (∀ q' e o, K ≤ q' → q' < k → c.Is q' e o → kindN c.E o ≠ 2) ∧ ∀ q' e o, q' < k → c.Is q' e o → kindN c.E o = 3 → L e.i := by
  have hch := ((tr.here k e o h).chg hk2).2.2.2
  refine ⟨?_, ?_, ?_⟩
  · rcases Nat.lt_or_ge k K with hlt | hge
    · exact absurd ((j.Kc k e o h hk2).2 hlt) hn
    · exact hge
  · intro q' e' o' h1 h2 h3 h4
    have hL := tr.bef j.clo k e o h hr _ ((hch q' e' o' h2 h3.1 h3.2).1 h4)
    have := (j.Kc q' e' o' h3 h4).1 hL
    omega
  · intro q' e' o' h2 h3 h4
    exact tr.bef j.clo k e o h hr _ ((hch q' e' o' h2 h3.1 h3.2).2.1 h4)

theorem J.subFront (j : J c s p0 ρ0 L K ρ hS a w) {k : Nat} {e : PE} {o : Oper} (h : c.Is k e o) (hn : ¬ L e.i) (hr : ∀ g ∈ o.after, Region.binds .any g = true → L g.on) (hk2 : kindN c.E o = 2) :
    ∀ b ob, (c.T k).h.objs.get b = some ob → hS.objs.get b = some ob := by
  obtain ⟨f1, f2, f3⟩ := j.front tr h hn hr hk2
  exact j.sub tr f1 (by have := tr.plt h; omega) f2 (fun b ob h => h) fun q' e o h1 h2 h3 h4 => .inl (f3 q' e o h2 h3 h4)

/-- an operation that changes memory -/
theorem J.change (j : J c s p0 ρ0 L K ρ hS a w) {k : Nat} {e : PE} {o : Oper} (h : c.Is k e o) (hn : ¬ L e.i) (hr : ∀ g ∈ o.after, Region.binds .any g = true → L g.on) (hk2 : kindN c.E o = 2)
    (hnx : s.h.nx ≤ c.nx0) (hi0 : Inv c.E ρ0 s.h p0.heap) {v v' : Value} {ρ' : Rho} {w' : World} (hv : VRel ρ' v v') (hT : (c.T (k + 1)).t = put (c.T k).t c.nt o.dst v)
    (hinv : Inv c.E ρ' (c.T (k + 1)).h w'.heap) (hst : Stp (c.T k).h.nx ρ ρ' (c.T k).h (c.T (k + 1)).h w w') {df : List Deferred} (hds : DsRel ρ' (c.T (k + 1)).ds df) :
    ∃ hS', J c s p0 ρ0 (fun i => L i ∨ i = e.i) (k + 1) ρ' hS' (({ a with defers := df } : Act).put o.dst v') w' := by
  classical
  obtain ⟨g1, g2, g3⟩ := j.slots tr h hst.ext hv hT (df := df)
  obtain ⟨f1, f2, f3⟩ := j.front tr h hn hr hk2
  have hlt := tr.plt h
  obtain ⟨r1, r2, r3, r4⟩ := tr.range f1 (by omega) f2
  have hsub := j.subFront tr h hn hr hk2
  have hroom : c.nx0 + c.ops.size ≤ (c.T k).h.nx := by rw [r1]; exact j.room
  -- blocks of later places are not there
  have late : ∀ k1 e1 o1, c.Is k1 e1 o1 → k ≤ k1 → (c.T k).h.objs.get (c.nx0 + e1.i) = none := by
    intro k1 e1 o1 h1 h2
    rw [r3 _ fun q' e' o' h3 h4 h5 _ h6 => by
      have := tr.inj h5 h1 (by omega : e'.i = e1.i); omega]
    exact j.up k1 e1 o1 h1 (by omega)
  have absent : ∀ k1 e1 o1, c.Is k1 e1 o1 → ¬ L e1.i → (c.T k).h.objs.get (c.nx0 + e1.i) = none := by
    intro k1 e1 o1 h1 h2
    rcases Nat.lt_or_ge k1 k with hl | hg
    · rw [r3 _ fun q' e' o' h3 h4 h5 h7 h6 => ?_]
      · exact (j.no k1 e1 o1 h1 h2).2.2
      · obtain ⟨rfl, rfl, rfl⟩ := tr.same h1 h5 (by omega)
        have hk3 : kindN c.E o' = 3 := by
          rw [kindN_alloc]
          unfold made at h7
          split at h7
          · split at h7
            · assumption
            · exact absurd rfl h7
          · exact absurd rfl h7
        exact h2 (f3 q' e' o' h4 h5 hk3)
    · exact late k1 e1 o1 h1 hg
  have still : ∀ k1 e1 o1, c.Is k1 e1 o1 → (c.T k).h.objs.get (c.nx0 + e1.i) = none → (c.T (k + 1)).h.objs.get (c.nx0 + e1.i) = none := by
    intro k1 e1 o1 h1 h2
    cases hg : (c.T (k + 1)).h.objs.get (c.nx0 + e1.i) with
    | none => rfl
    | some ob =>
      rcases hst.live _ _ hg with ⟨o0, h0⟩ | hge
      · rw [h2] at h0; cases h0
      · have := tr.lt h1; omega
  let f : Nat → Option (Option CObj) := fun i => if ∃ k1 e1 o1, c.Is k1 e1 o1 ∧ e1.i = i ∧ k < k1 ∧ L i then some (hS.objs.get (c.nx0 + i)) else none
  let hS' : H := ⟨mrgL c.nx0 f c.ops.size (c.T (k + 1)).h.objs, (c.T (k + 1)).h.nx⟩
  have spec : ∀ b, hS'.objs.get b = if c.nx0 ≤ b ∧ b < c.nx0 + c.ops.size then (match f (b - c.nx0) with | some x => x | none => (c.T (k + 1)).h.objs.get b) else (c.T (k + 1)).h.objs.get b :=
    fun b => mrgL_get _ _ _ _ b
  have specIn : ∀ k1 e1 o1, c.Is k1 e1 o1 → k < k1 → L e1.i → hS'.objs.get (c.nx0 + e1.i) = hS.objs.get (c.nx0 + e1.i) := by
    intro k1 e1 o1 h1 h2 h3
    have hl := tr.lt h1
    rw [spec, if_pos (by omega), Nat.add_sub_cancel_left]
    have : f e1.i = some (hS.objs.get (c.nx0 + e1.i)) := if_pos ⟨k1, e1, o1, h1, rfl, h2, h3⟩
    rw [this]
  have specOut : ∀ k1 e1 o1, c.Is k1 e1 o1 → ¬ (k < k1 ∧ L e1.i) → hS'.objs.get (c.nx0 + e1.i) = (c.T (k + 1)).h.objs.get (c.nx0 + e1.i) := by
    intro k1 e1 o1 h1 h2
    have hl := tr.lt h1
    rw [spec, if_pos (by omega), Nat.add_sub_cancel_left]
    have : f e1.i = none := if_neg fun ⟨k2, e2, o2, q1, q2, q3, q4⟩ => by
      obtain ⟨rfl, rfl, rfl⟩ := tr.same h1 q1 q2
      exact h2 ⟨q3, q4⟩
    rw [this]
  obtain ⟨fr1, fr2⟩ := Inv.frame (hS' := hS') j.inv hsub (by rw [j.nx, r1]) hst hinv rfl (by
    intro b ob hb
    by_cases hres : c.nx0 ≤ b ∧ b < c.nx0 + c.ops.size
    · obtain ⟨k1, e1, o1, h1, h2⟩ := tr.cov (b - c.nx0) (by omega)
      have hbe : b = c.nx0 + e1.i := by omega
      subst hbe
      by_cases hc : k < k1 ∧ L e1.i
      · rw [specIn k1 e1 o1 h1 hc.1 hc.2] at hb
        exact .inr ⟨hb, late k1 e1 o1 h1 (by omega)⟩
      · rw [specOut k1 e1 o1 h1 hc] at hb
        exact .inl hb
    · rw [spec, if_neg hres] at hb
      exact .inl hb)
  refine ⟨hS', { clo := j.clo' tr h hr, Kc := ?_, Kl := .inr ⟨k, e, o, rfl, h, hk2⟩, nx := rfl, out := ?_, low := ?_, hi := ?_, no := ?_, up := ?_, room := ?_, inv := fr1, st := ?_, sz := g1, t2 := g2, t3 := g3, ds := ?_, g := j.g.mono hst.ext }⟩
  · intro k1 e1 o1 h1 h2
    constructor
    · rintro (h3 | h3)
      · have := (j.Kc k1 e1 o1 h1 h2).1 h3; omega
      · obtain ⟨rfl, rfl, rfl⟩ := tr.same h h1 h3
        omega
    · intro h3
      rcases Nat.lt_or_ge k1 K with h4 | h4
      · exact .inl ((j.Kc k1 e1 o1 h1 h2).2 h4)
      · rcases Nat.lt_or_ge k1 k with h5 | h5
        · exact absurd h2 (f2 k1 e1 o1 h4 h5 h1)
        · have : k1 = k := by omega
          subst this
          have q1 := h1.1; rw [h.1] at q1; cases q1
          exact .inr rfl
  · intro b hb
    rw [spec]
    split
    · rename_i hres
      exact absurd (show b = c.nx0 + (b - c.nx0) by omega) (hb (b - c.nx0) (by omega))
    · rfl
  · intro k1 e1 o1 h1 _ h3
    exact specOut k1 e1 o1 h1 fun h4 => by omega
  · intro k1 e1 o1 h1 h2 h3
    rcases h2 with h2 | h2
    · rw [specIn k1 e1 o1 h1 (by omega) h2]
      exact j.hi k1 e1 o1 h1 h2 (by omega)
    · obtain ⟨rfl, rfl, rfl⟩ := tr.same h h1 h2
      omega
  · intro k1 e1 o1 h1 h2
    have hnL : ¬ L e1.i := fun h3 => h2 (.inl h3)
    have hab := still k1 e1 o1 h1 (absent k1 e1 o1 h1 hnL)
    refine ⟨by rw [specOut k1 e1 o1 h1 fun h4 => hnL h4.2]; exact hab, ?_, hab⟩
    cases hρ : ρ' (c.nx0 + e1.i) with
    | none => rfl
    | some l =>
      rcases hst.dom _ _ hρ with h3 | h3
      · rw [(j.no k1 e1 o1 h1 hnL).2.1] at h3; cases h3
      · have := tr.lt h1; omega
  · intro k1 e1 o1 h1 h2
    exact still k1 e1 o1 h1 (late k1 e1 o1 h1 (by omega))
  · exact Nat.le_trans hroom hst.mono
  · exact j.st.trans hi0 (by have := j.st.mono; omega) fr2
  · rw [put_defers]; exact hds
end
end Go.CS

/- Drawn regions: whatever the order, the plan's answer. -/
namespace Go.CS
open Go

theorem recheck_spec {E : Env} {dsts : Nat → Option Tmp} {ops : List Oper} {t : Tr Value} {h : H} : ∀ (l : List Nat), recheck E dsts ops t h l = true → ∀ i ∈ l, ∀ o, ops[i]? = some o → wantedC t dsts o.guard = some true →
    ∃ v, qop E t h o = some v ∧ ∀ d, o.dst = some d → t.get d = some v := by
  intro l
  induction l with
  | nil => intro _ i hi; cases hi
  | cons x l ih =>
    intro h0 i hi o ho hw
    simp only [recheck] at h0
    split at h0
    case h_2 => cases h0
    rename_i o' ho'
    have tail : recheck E dsts ops t h l = true → i ∈ l → ∃ v, qop E t h o = some v ∧ ∀ d, o.dst = some d → t.get d = some v := fun h1 h2 => ih h1 i h2 o ho hw
    split at h0
    · rename_i hw'
      split at h0
      case h_2 => cases h0
      rename_i v hv
      split at h0
      · rename_i hd
        rcases List.mem_cons.1 hi with rfl | hi
        · rw [ho] at ho'; cases ho'
          exact ⟨v, hv, fun d h => by rw [hd] at h; cases h⟩
        · exact tail h0 hi
      · rename_i d hd
        split at h0
        case h_2 => cases h0
        rename_i v' hv'
        simp only [cond_eq_ite] at h0
        split at h0
        case isFalse => cases h0
        rename_i he
        rcases List.mem_cons.1 hi with rfl | hi
        · rw [ho] at ho'; cases ho'
          refine ⟨v, hv, fun d' h => ?_⟩
          rw [hd] at h; cases h
          rw [hv', eqv_eq 5 v v' he]
        · exact tail h0 hi
    · rename_i hw'
      rcases List.mem_cons.1 hi with rfl | hi
      · rw [ho] at ho'; cases ho'
        rw [hw] at hw'; cases hw'
      · exact tail h0 hi
    · cases h0

theorem hideL_get (nx0 : Nat) (t : Tr CObj) : ∀ (l : List Nat) (b : Nat), (hideL nx0 l t).get b = if ∃ j ∈ l, b = nx0 + j then none else t.get b := by
  intro l
  induction l with
  | nil => intro b; simp [hideL]
  | cons x l ih =>
    intro b
    simp only [hideL, Tr.get_set, ih]
    by_cases h : b = nx0 + x
    · rw [if_pos h, if_pos ⟨x, by simp, h⟩]
    · rw [if_neg h]
      by_cases h2 : ∃ j ∈ l, b = nx0 + j
      · obtain ⟨j, hj, hb⟩ := h2
        rw [if_pos ⟨j, hj, hb⟩, if_pos ⟨j, by simp [hj], hb⟩]
      · rw [if_neg h2, if_neg]
        rintro ⟨j, hj, hb⟩
        rcases List.mem_cons.1 hj with rfl | hj
        · exact h hb
        · exact h2 ⟨j, hj, hb⟩

section
variable {c : Ctx} (tr : Tra c)
variable {s : St} {p0 : World} {ρ0 : Rho} {L : Nat → Prop} {K : Nat} {ρ : Rho} {hS : H} {a : Act} {w : World}
include tr

/-- what a quiet operation gives, whenever it comes -/
theorem J.quiet (j : J c s p0 ρ0 L K ρ hS a w) {k : Nat} {e : PE} {o : Oper} (h : c.Is k e o) (hn : ¬ L e.i) (hr : ∀ g ∈ o.after, Region.binds .any g = true → L g.on) (hq : kindOf c.E o = .quiet)
    {v : Value} (hv : qop c.E (c.T k).t (seen c.E o c.nx0 e.hide (c.T k).h) o = some v) (hT : (c.T (k + 1)).t = put (c.T k).t c.nt o.dst v) (hw : wantedC (c.T k).t c.dsts o.guard = some true) :
    ∃ v1 h1, qop c.E (c.T k).t h1 o = some v1 ∧ Inv c.E ρ h1 w.heap ∧ (c.T (k + 1)).t = put (c.T k).t c.nt o.dst v1 := by
  rcases kindN_free hq with ⟨hf, _⟩ | ⟨hf, hk1⟩
  · -- looks into no memory
    refine ⟨v, ⟨.e, hS.nx⟩, ?_, ?_, hT⟩
    · rw [← hv]
      unfold seen
      rw [hf]
      exact qop_nx
    · refine j.inv.restrict (fun b ob l hb _ => ?_) (fun b ob hb => ?_) (fun b l hl => j.inv.dlt b l hl)
      · simp [Tr.get_e] at hb
      · simp [Tr.get_e] at hb
  · have hrd := (tr.here k e o h).rd hk1
    have hlt := tr.plt h
    rcases Nat.lt_or_ge k K with hkK | hkK
    · -- behind a change that it does not wait for
      rcases j.Kl with h0 | ⟨q, eq, oq, hK, hq', hq2⟩
      · omega
      have hne : k ≠ q := fun he => by
        subst he
        have h1 := hq'.1; rw [h.1] at h1; cases h1
        have h1 := hq'.2; rw [h.2] at h1; cases h1
        omega
      have hLq := (j.Kc q eq oq hq' hq2).2 (by omega)
      rcases (((tr.here q eq oq hq').chg hq2).2.2.2 k e o (by omega) h.1 h.2).2.2 hk1 with hb | hre
      · exact absurd (tr.befIn j.clo hq' hLq hb) hn
      -- the slots are the same there
      have hslot : ∀ d ∈ looksL c.ops.toList o, (c.T (q + 1)).t.get d = (c.T k).t.get d := by
        intro d hd
        have hqlt := tr.plt hq'
        by_cases hwr : ∃ kx ex ox, c.Is kx ex ox ∧ ox.dst = some d
        · obtain ⟨kx, ex, ox, hx, hxd⟩ := hwr
          rcases (tr.here k e o h).look d hd ex.i ((tr.here kx ex ox hx).dst d hxd).2 with hb | ⟨_, _, hb3⟩
          · obtain ⟨k', e', o', h1, h2, h3⟩ := tr.befPos h hb
            have : k' = kx := tr.inj h2 hx h3
            subst this
            exact tr.stay (by omega) (by omega) fun k'' e'' o'' g1 g2 g3 g4 => by
              have := tr.writer hx g3 hxd g4; omega
          · have hlate : q < kx := by
              rcases Nat.lt_or_ge q kx with hg | hg
              · exact hg
              · exact absurd rfl (hb3 q eq (by omega) hq'.1 hre kx ex hg hx.1)
            exact tr.stay (by omega) (by omega) fun k'' e'' o'' g1 g2 g3 g4 => by
              have := tr.writer hx g3 hxd g4; omega
        · exact tr.stay (by omega) (by omega) fun k'' e'' o'' g1 g2 g3 g4 => hwr ⟨k'', e'', o'', g3, g4⟩
      have hev : ∀ x ∈ o.op.operands, ev c.E (c.T (q + 1)).t x = ev c.E (c.T k).t x := fun x hx => ev_same fun d hd => by rw [hslot d (looks_operand hx hd)]
      have hw' : wantedC (c.T (q + 1)).t c.dsts o.guard = some true := by
        rw [wantedC_same (o := o) (tr.dsts) hslot]; exact hw
      obtain ⟨v1, hv1, hd1⟩ := recheck_spec _ (tr.stp q eq oq hq').2 e.i hre o h.2 hw'
      refine ⟨v1, (c.T (q + 1)).h, by rw [← qop_congr _ o hev]; exact hv1, ?_, ?_⟩
      · have hKq : c.T (q + 1) = c.T K := by rw [hK]
        rw [hKq]
        refine j.inv.restrict (fun b ob l hb _ => ?_) (fun b ob hb => ?_) (fun b l hl => by rw [← j.nx]; exact j.inv.dlt b l hl)
        · exact j.sub tr (Nat.le_refl K) (by have := tr.plt hq'; omega) (fun q' e o h1 h2 => by omega) (fun b ob h => h) (fun q' e o h1 h2 => by omega) b ob hb
        · rw [← j.nx]
          exact j.inv.lt b ob (j.sub tr (Nat.le_refl K) (by have := tr.plt hq'; omega) (fun q' e o h1 h2 => by omega) (fun b ob h => h) (fun q' e o h1 h2 => by omega) b ob hb)
      · rw [hT]
        cases hd : o.dst with
        | none => rfl
        | some d =>
          have h1 := hd1 d hd
          have h2 := tr.value h hd hT
          have h3 := tr.stay (d := d) (k := q + 1) (k' := c.p.length) (by have := tr.plt hq'; omega) (Nat.le_refl _) fun k'' e'' o'' g1 g2 g3 g4 => by
            have := tr.writer h g3 hd g4; omega
          rw [Ctx.fin, h3, h1] at h2
          rw [Option.some.inj h2]
    · -- no change between
      have hno : ∀ q' e' o', K ≤ q' → q' < k → c.Is q' e' o' → kindN c.E o' ≠ 2 := by
        intro q' e' o' h1 h2 h3 h4
        have hL := tr.bef j.clo k e o h hr _ ((hrd.2.2 q' e' o' h2 h3.1 h3.2).1 h4)
        have := (j.Kc q' e' o' h3 h4).1 hL
        omega
      have hse : seen c.E o c.nx0 e.hide (c.T k).h = ⟨hideL c.nx0 e.hide (c.T k).h.objs, (c.T k).h.nx⟩ := by
        unfold seen; rw [hf]; rfl
      rw [hse] at hv
      have hsub : ∀ b ob, (hideL c.nx0 e.hide (c.T k).h.objs).get b = some ob → hS.objs.get b = some ob := by
        refine j.sub tr hkK (by omega) hno (fun b ob hb => ?_) fun q' e' o' h1 h2 h3 h4 => ?_
        · rw [hideL_get] at hb
          split at hb
          · cases hb
          · exact hb
        · rcases (hrd.2.2 q' e' o' h2 h3.1 h3.2).2 h4 with hb | hb
          · exact .inl (tr.bef j.clo k e o h hr _ hb)
          · right
            rw [hideL_get, if_pos ⟨e'.i, hb, rfl⟩]
      obtain ⟨r1, _⟩ := tr.range hkK (by omega) hno
      refine ⟨v, _, hv, ?_, hT⟩
      refine j.inv.restrict (fun b ob l hb _ => hsub b ob hb) (fun b ob hb => ?_) (fun b l hl => ?_)
      · show b < (c.T k).h.nx
        rw [r1, ← j.nx]; exact j.inv.lt b ob (hsub b ob hb)
      · show b < (c.T k).h.nx
        rw [r1, ← j.nx]; exact j.inv.dlt b l hl

/-- one more operation -/
theorem J.step (ok : EnvOk c.E) (hC : CallOk c.E c.C) (hnx : s.h.nx ≤ c.nx0) (hi0 : Inv c.E ρ0 s.h p0.heap) (j : J c s p0 ρ0 L K ρ hS a w) {k : Nat} {e : PE} {o : Oper} (h : c.Is k e o) (hn : ¬ L e.i)
    (hr : ∀ g ∈ o.after, Region.binds .any g = true → L g.on) {Kn : Act → World → Prop} {Q : Exit → Act → World → Prop}
    (hK : ∀ K' ρ' hS' a' w', J c s p0 ρ0 (fun i => L i ∨ i = e.i) K' ρ' hS' a' w' → Kn a' w') :
    if Region.wanted o (yielded c.ops a.tmps) = true then o.wp c.E.P a w Kn Q ∨ (o.asks c.E.P a w ∧ LetsOut Q) else Kn (a.put o.dst undef) w := by
  have hkeep := j.keep tr h hn hr
  have hst := (tr.stp k e o h).1
  have hevk : ∀ x ∈ o.op.operands, ev c.E (restr (c.T k).t (looksL c.ops.toList o)) x = ev c.E (c.T k).t x := fun x hx => ev_same fun d hd => by
    rw [restr_get, if_pos (looks_operand hx hd)]
  have hwk : wantedC (restr (c.T k).t (looksL c.ops.toList o)) c.dsts o.guard = wantedC (c.T k).t c.dsts o.guard :=
    wantedC_same tr.dsts fun d hd => by rw [restr_get, if_pos hd]
  have hdA : ∀ j, c.dsts j = (c.ops[j]?).bind (·.dst) := dstOf_eq c.ops
  have hlt := tr.plt h
  unfold stepP at hst
  cases hw : wantedC (c.T k).t c.dsts o.guard with
  | none => rw [hw] at hst; cases hst
  | some q =>
    rw [hw] at hst
    have hwant : Region.wanted o (yielded c.ops a.tmps) = q := by
      rw [← keepA_wanted j.sz]
      exact wanted_sound hkeep hdA (by rw [hwk]; exact hw)
    cases q with
    | false =>
      rw [if_neg (by simp [hwant])]
      simp only [Option.some.injEq] at hst
      have hT : (c.T (k + 1)).t = put (c.T k).t c.nt o.dst undef := by rw [← hst]
      by_cases hk2 : kindN c.E o = 2
      · have hsub := j.subFront tr h hn hr hk2
        obtain ⟨f1, f2, f3⟩ := j.front tr h hn hr hk2
        obtain ⟨r1, r2, _⟩ := tr.range f1 (by omega) f2
        have hinv : Inv c.E ρ (c.T k).h w.heap := j.inv.restrict (fun b ob l hb _ => hsub b ob hb) (fun b ob hb => by rw [r1, ← j.nx]; exact j.inv.lt b ob (hsub b ob hb)) (fun b l hl => by rw [r1, ← j.nx]; exact j.inv.dlt b l hl)
        obtain ⟨hS', j'⟩ := j.change tr h hn hr hk2 hnx hi0 (v := undef) (v' := undef) (ρ' := ρ) (w' := w) .undef hT (by rw [← hst]; exact hinv) (by rw [← hst]; exact .refl) (df := a.defers) (by rw [← hst, r2]; exact j.ds)
        exact hK _ _ _ _ _ j'
      · exact hK _ _ _ _ _ (j.calm tr h hn hr hk2 (by unfold made; rw [hw]) .undef hT)
    | true =>
      rw [if_pos hwant]
      refine .inl ?_
      simp only at hst
      split at hst
      case h_2 => cases hst
      rename_i v h' ds' hop
      simp only [Option.some.injEq] at hst
      have hT : (c.T (k + 1)).t = put (c.T k).t c.nt o.dst v := by rw [← hst]
      have hsel : ∀ cs b, o.op ≠ .select cs b := by
        intro cs b hs
        simp [opRun, kindOf, wop, hs] at hop
      have hex : execOp (keepA c.nt (looksL c.ops.toList o) a).eval o = execOp a.eval o := execOp_congr o hsel fun x hx => keepA_eval j.sz fun d hd => looks_operand hx hd
      unfold Oper.wp
      rw [← hex]
      cases hkind : kindOf c.E o with
      | quiet =>
        have hk2 : kindN c.E o ≠ 2 := by rcases kindN_free hkind with h1 | h1 <;> omega
        have hv : qop c.E (c.T k).t (seen c.E o c.nx0 e.hide (c.T k).h) o = some v := by
          simp only [opRun, hkind] at hop
          split at hop
          · rename_i v1 hv1
            simp only [Option.some.injEq, Prod.mk.injEq] at hop
            rw [hv1, hop.1]
          · cases hop
        obtain ⟨v1, h1, q1, q2, q3⟩ := j.quiet tr h hn hr hkind hv hT hw
        obtain ⟨v', g1, g2⟩ := qop_sound (w := w) ok j.g hkeep q2 (by rw [qop_congr h1 o hevk]; exact q1)
        rw [g1]
        exact hK _ _ _ _ _ (j.calm tr h hn hr hk2 (by unfold made; rw [hw]; simp [hkind]) g2 q3)
      | alloc =>
        have hk3 : kindN c.E o = 3 := kindN_alloc.2 hkind
        have hop' := hop
        simp only [opRun, hkind] at hop'
        split at hop'
        case h_2 => cases hop'
        rename_i ob hdl hal
        simp only [Option.some.injEq, Prod.mk.injEq] at hop'
        have hm : made c k o = some ob := by unfold made; rw [hw]; simp [hkind, hal]
        obtain ⟨n1, n2, n3⟩ := j.no k e o h hn
        have hrun : opRun c.E c.C (c.nx0 + e.i) hS.nx o (restr (c.T k).t (looksL c.ops.toList o)) hS hS (c.T K).ds = some (v, ⟨hS.objs.set (c.nx0 + e.i) (some ob), hS.nx⟩, (c.T K).ds) := by
          rw [opRun_congr _ _ o _ _ _ hevk]
          simp only [opRun, hkind, hal, hop'.1]
        have hel := tr.lt h
        have hrm := j.room
        have hnx2 := j.nx
        refine op_sound ok hC hrun j.g hkeep (fun _ => j.inv) j.inv j.ds (fun _ => ⟨n2, n1, by omega, Nat.le_refl _⟩) fun ρ' v' w' df g1 g2 g3 g4 g5 => ?_
        rcases g5 with ⟨g5, _⟩ | ⟨_, g5⟩
        · exact absurd hkind g5
        · exact hK _ _ _ _ _ (j.born tr h hn hr hk3 hm g1 hT hnx hi0 g2 g3 g5 g4)
      | _ =>
        have hk2 : kindN c.E o = 2 := kindN_chg.2 (by rw [hkind]; simp)
        have hsub := j.subFront tr h hn hr hk2
        obtain ⟨f1, f2, f3⟩ := j.front tr h hn hr hk2
        obtain ⟨r1, r2, _⟩ := tr.range f1 (by omega) f2
        have hinv : Inv c.E ρ (c.T k).h w.heap := j.inv.restrict (fun b ob l hb _ => hsub b ob hb) (fun b ob hb => by rw [r1, ← j.nx]; exact j.inv.lt b ob (hsub b ob hb)) (fun b l hl => by rw [r1, ← j.nx]; exact j.inv.dlt b l hl)
        rw [← opRun_congr _ _ o _ _ _ hevk] at hop
        refine op_sound ok hC hop j.g hkeep (fun h1 => by rw [hkind] at h1; cases h1) hinv (by rw [r2]; exact j.ds) (fun h1 => by rw [hkind] at h1; cases h1) fun ρ' v' w' df g1 g2 g3 g4 g5 => ?_
        rcases g5 with ⟨_, g5⟩ | ⟨g5, _⟩
        · obtain ⟨hS', j'⟩ := j.change tr h hn hr hk2 hnx hi0 (v := v) (v' := v') (ρ' := ρ') (w' := w') g1 hT (by rw [← hst]; exact g2) (by rw [← hst]; exact g5) (df := df) (by rw [← hst]; exact g4)
          exact hK _ _ _ _ _ j'
        · rw [hkind] at g5; cases g5
end
end Go.CS

/- Drawn regions: DrawnOk. -/
namespace Go.CS
open Go

/-- how many are not listed -/
def unl (listed : Array Bool) : Nat → Nat
  | 0 => 0
  | n + 1 => unl listed n + (if listed.getD n true = false then 1 else 0)

theorem getD_set {listed : Array Bool} {i k : Nat} : (listed.setIfInBounds i true).getD k true = if k = i then true else listed.getD k true := by
  rw [Array.getD_eq_getD_getElem?, Array.getD_eq_getD_getElem?]
  by_cases h : k = i
  · subst h
    rw [if_pos rfl]
    by_cases hk : k < listed.size
    · simp [hk]
    · rw [Array.getElem?_eq_none (by simp; omega)]; rfl
  · rw [if_neg h, Array.getElem?_setIfInBounds_ne (Ne.symm h)]

theorem unl_set {listed : Array Bool} {i : Nat} (hi : listed.getD i true = false) : ∀ n, unl (listed.setIfInBounds i true) n + (if i < n then 1 else 0) = unl listed n := by
  intro n
  induction n with
  | zero => simp [unl]
  | succ n ih =>
    simp only [unl, getD_set]
    by_cases hn : n = i
    · subst hn
      rw [if_neg (by omega)] at ih
      rw [hi]; simp; omega
    · rw [if_neg hn]
      by_cases hl : i < n
      · rw [if_pos hl] at ih
        rw [if_pos (show i < n + 1 by omega)]; omega
      · rw [if_neg hl] at ih
        rw [if_neg (show ¬ i < n + 1 by omega)]; omega

theorem unl_zero {listed : Array Bool} : ∀ n, unl listed n = 0 → ∀ i < n, listed.getD i true = true := by
  intro n
  induction n with
  | zero => intro _ i hi; omega
  | succ n ih =>
    intro h i hi
    simp only [unl] at h
    by_cases hn : i = n
    · subst hn
      cases hx : listed.getD i true with
      | true => rfl
      | false => rw [hx] at h; simp at h
    · exact ih (by omega) i (by omega)

theorem unl_le (listed : Array Bool) : ∀ n, unl listed n ≤ n := by
  intro n
  induction n with
  | zero => simp [unl]
  | succ n ih => simp only [unl]; split <;> omega

theorem ready_mem {md : Region.Mode} {ops : Array Oper} {listed : Array Bool} {i : Nat} : i ∈ Region.ready md ops listed ↔
    ∃ o, ops[i]? = some o ∧ listed.getD i true = false ∧ ∀ g ∈ o.after, Region.binds md g = true → listed.getD g.on false = true := by
  unfold Region.ready
  simp only [List.mem_filter, List.mem_range, Bool.and_eq_true, Bool.not_eq_true']
  constructor
  · rintro ⟨h1, h2, h3⟩
    refine ⟨ops[i], by simp [h1], h2, ?_⟩
    have ho : ops[i]? = some ops[i] := by simp [h1]
    rw [ho] at h3
    simp only [Option.map_some, Option.getD_some, Array.all_eq_true_iff_forall_mem, Bool.or_eq_true, Bool.not_eq_true'] at h3
    intro g hg hb
    rcases h3 g hg with h | h
    · rw [hb] at h; cases h
    · exact h
  · rintro ⟨o, h1, h2, h3⟩
    have hi : i < ops.size := (Array.getElem?_eq_some_iff.1 h1).1
    refine ⟨hi, h2, ?_⟩
    rw [h1]
    simp only [Option.map_some, Option.getD_some, Array.all_eq_true_iff_forall_mem, Bool.or_eq_true, Bool.not_eq_true']
    intro g hg
    cases hb : Region.binds md g with
    | false => exact .inl rfl
    | true => exact .inr (h3 g hg hb)

section
variable {c : Ctx} (tr : Tra c)
variable {s : St} {p0 : World} {ρ0 : Rho} {L : Nat → Prop} {K : Nat} {ρ : Rho} {hS : H} {a : Act} {w : World}
include tr

/-- all have been carried out -/
theorem J.all (j : J c s p0 ρ0 L K ρ hS a w) (hall : ∀ i < c.ops.size, L i) : SRel c.E c.nt ρ c.fin a w ∧ Stp s.h.nx ρ0 ρ s.h c.fin.h p0 w := by
  have hKn : K ≤ c.p.length := by
    rcases j.Kl with h | ⟨q, e, o, hK, hq, _⟩
    · omega
    · have := tr.plt hq; omega
  have hno : ∀ q' e o, K ≤ q' → q' < c.p.length → c.Is q' e o → kindN c.E o ≠ 2 := by
    intro q' e o h1 h2 h3 h4
    have := (j.Kc q' e o h3 h4).1 (hall e.i (tr.lt h3))
    omega
  obtain ⟨r1, r2, _⟩ := tr.range hKn (Nat.le_refl _) hno
  have hsub : ∀ b ob, c.fin.h.objs.get b = some ob → hS.objs.get b = some ob :=
    j.sub tr hKn (Nat.le_refl _) hno (fun b ob h => h) fun q' e o _ _ h3 _ => .inl (hall e.i (tr.lt h3))
  have hnx : c.fin.h.nx = hS.nx := by rw [Ctx.fin, r1, j.nx]
  refine ⟨⟨⟨j.sz, fun d => j.t2 d fun k e o h _ => hall e.i (tr.lt h)⟩, ?_, ?_, j.g⟩, ?_⟩
  · exact j.inv.restrict (fun b o l hb _ => hsub b o hb) (fun b o hb => by rw [hnx]; exact j.inv.lt b o (hsub b o hb)) fun b l hl => by rw [hnx]; exact j.inv.dlt b l hl
  · rw [Ctx.fin, r2]; exact j.ds
  · exact j.st.like (by omega) hsub

theorem J.any (ok : EnvOk c.E) (hC : CallOk c.E c.C) (hnx : s.h.nx ≤ c.nx0) (hi0 : Inv c.E ρ0 s.h p0.heap) {Q : Exit → Act → World → Prop}
    (hQ : ∀ ρ a w, SRel c.E c.nt ρ c.fin a w → Stp s.h.nx ρ0 ρ s.h c.fin.h p0 w → Q .normal a w) :
    ∀ (fuel : Nat) (listed : Array Bool) (L : Nat → Prop) (K : Nat) (ρ : Rho) (hS : H) (a : Act) (w : World), listed.size = c.ops.size → unl listed c.ops.size ≤ fuel →
      (∀ i < c.ops.size, L i ↔ listed.getD i true = true) → J c s p0 ρ0 L K ρ hS a w → wpAny c.E.P .any c.ops Q fuel listed a w := by
  have same : ∀ (listed : Array Bool) (i : Nat), listed.size = c.ops.size → i < c.ops.size → listed.getD i false = listed.getD i true := by
    intro listed i h1 h2
    have : i < listed.size := by omega
    simp [Array.getD_eq_getD_getElem?, this]
  have fin0 : ∀ (listed : Array Bool) (L : Nat → Prop) (K : Nat) (ρ : Rho) (hS : H) (a : Act) (w : World), listed.size = c.ops.size →
      (∀ i < c.ops.size, L i ↔ listed.getD i true = true) → J c s p0 ρ0 L K ρ hS a w → Region.ready .any c.ops listed = [] → Q .normal a w := by
    intro listed L K ρ hS a w hsz hL j hr
    have hpos : ∀ k e o, c.Is k e o → L e.i := by
      intro k
      induction k using Nat.strongRecOn with
      | _ k ih =>
        intro e o h
        cases hx : listed.getD e.i true with
        | true => exact (hL e.i (tr.lt h)).2 hx
        | false =>
          exfalso
          have : e.i ∈ Region.ready .any c.ops listed := by
            rw [ready_mem]
            refine ⟨o, by simpa using h.2, hx, fun g hg hb => ?_⟩
            rcases (tr.here k e o h).aft g hg hb with ⟨m, hm⟩ | ⟨k', e', hk', he', hi⟩
            · rw [Tr.get_e] at hm; cases hm
            · obtain ⟨o', ho'⟩ := tr.op k' e' he'
              have := ih k' hk' e' o' ho'
              rw [← hi, same listed _ hsz (tr.lt ho')]
              exact (hL _ (tr.lt ho')).1 this
          rw [hr] at this; cases this
    have hall : ∀ i < c.ops.size, L i := fun i hi => by
      obtain ⟨k, e, o, h, rfl⟩ := tr.cov i hi
      exact hpos k e o h
    obtain ⟨q1, q2⟩ := j.all tr hall
    exact hQ ρ a w q1 q2
  intro fuel
  induction fuel with
  | zero =>
    intro listed L K ρ hS a w hsz hu hL j
    have hr : Region.ready .any c.ops listed = [] := by
      refine List.eq_nil_iff_forall_not_mem.2 fun i hi => ?_
      obtain ⟨o, h1, h2, _⟩ := ready_mem.1 hi
      have := unl_zero (listed := listed) c.ops.size (by omega) i (Array.getElem?_eq_some_iff.1 h1).1
      rw [h2] at this; cases this
    exact ⟨hr, fin0 listed L K ρ hS a w hsz hL j hr⟩
  | succ fuel ih =>
    intro listed L K ρ hS a w hsz hu hL j
    refine ⟨fin0 listed L K ρ hS a w hsz hL j, fun i hi => ?_⟩
    obtain ⟨o, h1, h2, h3⟩ := ready_mem.1 hi
    have hilt : i < c.ops.size := (Array.getElem?_eq_some_iff.1 h1).1
    obtain ⟨k, e, o', h, rfl⟩ := tr.cov i hilt
    have ho : o' = o := by have := h.2; rw [Array.getElem?_toList, h1] at this; exact (Option.some.inj this).symm
    subst ho
    have hn : ¬ L e.i := fun hl => by rw [(hL _ hilt).1 hl] at h2; cases h2
    have hr : ∀ g ∈ o'.after, Region.binds .any g = true → L g.on := by
      intro g hg hb
      have h4 := h3 g hg hb
      rcases (tr.here k e o' h).aft g hg hb with ⟨m, hm⟩ | ⟨k', e', hk', he', hi'⟩
      · rw [Tr.get_e] at hm; cases hm
      · obtain ⟨o1, ho1⟩ := tr.op k' e' he'
        have hl := tr.lt ho1
        rw [hi'] at hl
        rw [same listed _ hsz hl] at h4
        exact (hL _ hl).2 h4
    unfold wpOp
    rw [h1]
    refine j.step tr ok hC hnx hi0 h hn hr fun K' ρ' hS' a' w' j' => ?_
    refine ih _ _ K' ρ' hS' a' w' (by simp [hsz]) ?_ ?_ j'
    · have := unl_set h2 c.ops.size
      rw [if_pos hilt] at this
      omega
    · intro i hi
      rw [getD_set]
      by_cases hie : i = e.i
      · simp [hie]
      · simp [hie, hL i hi]
end

theorem drawnOk {E : Env} {C : Caller} {cf : CF} (ok : EnvOk E) (hC : CallOk E C) : DrawnOk E C cf := by
  intro id ops p s s' ρ a w hp hrun r
  obtain ⟨M, hM, hAt, _, hcov⟩ := planGo_spec _ _ _ _ _ _ hp
  obtain ⟨T, hT0, hTn, hT⟩ := runPlan_trace _ _ _ hrun
  let c : Ctx := ⟨E, C, cf.ntmps, ops, p, T, M, wrOf ops.toList 0 .e, s.h.nx⟩
  have tr : Tra c := by
    refine ⟨fun k e o h => ?_, fun k e h => ?_, fun i hi => ?_, fun k e o h => hT k e o h.1 h.2⟩
    · obtain ⟨o', A⟩ := hAt k e h.1
      have : o' = o := by have := A.op; have h2 := h.2; rw [this] at h2; exact Option.some.inj h2
      subst this; exact A
    · obtain ⟨o, A⟩ := hAt k e h
      exact ⟨o, h, A.op⟩
    · rcases hcov i (by simpa using hi) with ⟨m, hm⟩ | ⟨k, e, h1, h2⟩
      · rw [Tr.get_e] at hm; cases hm
      · obtain ⟨o, A⟩ := hAt k e h1
        exact ⟨k, e, o, ⟨h1, A.op⟩, h2⟩
  have hfin : c.fin = s' := hTn
  have h0 : c.T 0 = reserve s ops.toList.length := hT0
  refine wp_region_any ok.mixed ?_
  have none1 : ∀ i, s.h.objs.get (s.h.nx + i) = none := by
    intro i
    cases h : s.h.objs.get (s.h.nx + i) with
    | none => rfl
    | some o => have := r.h.lt _ _ h; omega
  have none2 : ∀ i, ρ (s.h.nx + i) = none := by
    intro i
    cases h : ρ (s.h.nx + i) with
    | none => rfl
    | some o => have := r.h.dlt _ _ h; omega
  refine J.any (c := c) tr ok hC (s := s) (p0 := w) (ρ0 := ρ) (Nat.le_refl _) r.h (fun ρ' a' w' h1 h2 => ⟨rfl, ρ', by rw [← hfin]; exact h1, by rw [← hfin]; exact h2⟩) ops.size _ (fun _ => False) 0 ρ (c.T 0).h a _
    (by simp; rfl) (unl_le _ _) ?_ ?_
  · intro i hi
    have : i < ops.size := hi
    simp [Array.getD_eq_getD_getElem?, this]
  · have hobj : ∀ b, (c.T 0).h.objs.get b = s.h.objs.get b := by intro b; rw [h0]; rfl
    have hnx : (c.T 0).h.nx = s.h.nx + ops.size := by rw [h0]; simp [reserve]
    have ht : (c.T 0).t = s.t := by rw [h0]; rfl
    refine { clo := fun i o h => h.elim, Kc := fun k e o _ _ => ⟨fun h => h.elim, fun h => absurd h (Nat.not_lt_zero _)⟩, Kl := .inl rfl, nx := rfl, out := fun b _ => rfl, low := fun k e o _ h => h.elim, hi := fun k e o _ h => h.elim, no := ?_, up := ?_, room := ?_, inv := ?_, st := ?_, sz := r.t.1, t2 := ?_, t3 := ?_, ds := ?_, g := r.g }
    · intro k e o _ _
      exact ⟨by rw [hobj]; exact none1 _, none2 _, by rw [hobj]; exact none1 _⟩
    · intro k e o _ _
      rw [hobj]; exact none1 _
    · rw [hnx]; exact Nat.le_refl _
    · exact r.h.restrict (fun b o l hb _ => by rw [← hobj]; exact hb) (fun b o hb => by rw [hnx]; have := r.h.lt b o (by rw [← hobj]; exact hb); omega) fun b l hl => by rw [hnx]; have := r.h.dlt b l hl; omega
    · have h2 : Stp s.h.nx ρ ρ s.h s.h w { w with drawn := w.drawn + 1 } := ⟨Nat.le_refl _, .refl _, fun b l e => .inl e, Nat.le_refl _, fun _ _ _ => rfl, fun b l e e' => by simp [e] at e', fun b o e => .inl ⟨o, e⟩, rfl, rfl⟩
      exact h2.like (by rw [hnx]; omega) fun b o hb => by rw [← hobj]; exact hb
    · intro d hd
      have := tr.stay (d := d) (k := 0) (k' := c.p.length) (by omega) (Nat.le_refl _) fun k'' e o _ _ h3 h4 => (hd k'' e o h3 h4).elim
      rw [Ctx.fin, this, ht]
      exact r.t.2 d
    · intro d k e o _ _ _
      rw [ht]; exact r.t.2 d
    · rw [h0]; exact r.d
end Go.CS

