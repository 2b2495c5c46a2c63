/- Operands, and operations on two values. -/
import Derived.Test.YtalkgjnbjfpdmaaGreatDoorCsRel
import Derived.Laws.Strings
import Derived.Laws.Entries
import Derived.Laws.BytesString
set_option linter.unusedVariables false
set_option linter.unusedSimpArgs false
set_option linter.unusedSectionVars false
set_option linter.deprecated false

namespace Go.CS
open Go

theorem nbeq (a b : Nat) : Nat.beq a b = decide (a = b) := by rw [Bool.eq_iff_iff]; simp
theorem nble (a b : Nat) : Nat.ble a b = decide (a ≤ b) := by rw [Bool.eq_iff_iff]; simp
theorem nblt (a b : Nat) : Nat.blt a b = decide (a < b) := by rw [Bool.eq_iff_iff]; simp [Nat.blt]; omega

structure EnvOk (E : Env) : Prop where
  T : ∀ t ct, E.T.get t = some ct → E.P.underlying t = some ct.u ∧ ∃ i, E.P.info? t = some i ∧ i.size = ct.size ∧ i.bytes = ct.bytes ∧ i.zero = ct.zero
  Z : ∀ t ct z, E.T.get t = some ct → ct.zero = some z → closed 4 z = true
  F : ∀ f cf, E.F.get f = some cf → ∃ fn, E.P.funcs[f]? = some fn ∧ fn.body = some cf.code ∧ fn.ntmps = cf.ntmps ∧ fn.results.toList = cf.results ∧ fn.name ≠ "runtime.NumGoroutine"
  mixed : E.P.follows .mixedOrders = true
  C : ∀ f cf, E.F.get f = some cf → codeOk E cf.ntmps cf.plans cf.code = true
  X : ∀ (f : FuncId) (fn : Func), E.P.funcs[f]? = some fn → fn.name ∈ ["internal/bytealg.IndexByteString", "internal/bytealg.CountString", "internal/abi.NoEscape", "internal/bytealg.MakeNoZero"] → fn.body = none ∧ (Extern.findNext fn).isNone = true

def GOk (E : Env) (ρ : Rho) : Prop := ∀ g, E.glob g = true → ∃ l, ρ g = some l ∧ l.blk = g ∧ l.base = 0
theorem GOk.mono {E : Env} {ρ ρ' : Rho} (h : Ext ρ ρ') (g : GOk E ρ) : GOk E ρ' := fun x hx => let ⟨l, a, b⟩ := g x hx; ⟨l, h _ _ a, b⟩

def TRel (ρ : Rho) (nt : Nat) (s : Tr Value) (t : Array Value) : Prop := t.size = nt ∧ ∀ i, VRel ρ ((s.get i).getD undef) (t.getD i undef)
theorem TRel.mono {ρ ρ' : Rho} {nt : Nat} {s : Tr Value} {t : Array Value} (h : Ext ρ ρ') (r : TRel ρ nt s t) : TRel ρ' nt s t := ⟨r.1, fun i => (r.2 i).mono h⟩

section
variable {E : Env} {ρ : Rho} {nt : Nat} {s : Tr Value} {a : Act}

theorem ev_sound (g : GOk E ρ) (tr : TRel ρ nt s a.tmps) {x : Operand} {v : Value} (h : ev E s x = some v) : VRel ρ v (a.eval x) := by
  cases x with
  | tmp i =>
    have := tr.2 i
    simp only [ev] at h
    cases hg : s.get i with
    | none => simp only [hg, Option.some.injEq] at h; subst h; simpa [hg, Act.eval] using this
    | some u => simp only [hg, Option.some.injEq] at h; subst h; simpa [hg, Act.eval] using this
  | const c =>
    simp only [ev, cond_eq_ite] at h
    split at h
    · rename_i hc
      simp only [Option.some.injEq] at h; subst h
      exact closed_refl 4 _ hc
    · cases h
  | func f =>
    simp only [ev, Option.some.injEq] at h; subst h
    exact .func f _ _ _ _ rfl rfl (fun i x y hx _ => by simp at hx) (fun i x y hx _ => by simp at hx)
  | global gl =>
    simp only [ev, cond_eq_ite] at h
    split at h
    · rename_i hc
      simp only [Option.some.injEq] at h; subst h
      obtain ⟨l, h1, h2, h3⟩ := g gl hc
      have := VRel.ptr (ρ := ρ) gl 0 l h1
      rw [h2, h3] at this
      exact this
    · cases h

theorem evs_sound (g : GOk E ρ) (tr : TRel ρ nt s a.tmps) : ∀ (xs : List Operand) (vs : List Value), evs E s xs = some vs → LRel ρ vs (xs.map a.eval) := by
  intro xs
  induction xs with
  | nil => intro vs h; simp only [evs, Option.some.injEq] at h; subst h; exact .nil
  | cons x xs ih =>
    intro vs h
    simp only [evs] at h
    cases hx : ev E s x with
    | none => simp [hx] at h
    | some v =>
      cases hr : evs E s xs with
      | none => simp [hx, hr] at h
      | some us =>
        simp only [hx, hr, Option.some.injEq] at h; subst h
        exact .cons (ev_sound g tr hx) (ih us hr)

theorem pairs_sound (g : GOk E ρ) (tr : TRel ρ nt s a.tmps) : ∀ (xs : List (Nat × Operand)) (vs : List (Nat × Value)), pairs E s xs = some vs →
    (vs.map (·.1)) = xs.map (·.1) ∧ LRel ρ (vs.map (·.2)) (xs.map fun p => a.eval p.2) := by
  intro xs
  induction xs with
  | nil => intro vs h; simp only [pairs, Option.some.injEq] at h; subst h; exact ⟨rfl, .nil⟩
  | cons x xs ih =>
    intro vs h
    obtain ⟨n, x⟩ := x
    simp only [pairs] at h
    cases hx : ev E s x with
    | none => simp [hx] at h
    | some v =>
      cases hr : pairs E s xs with
      | none => simp [hx, hr] at h
      | some us =>
        simp only [hx, hr, Option.some.injEq] at h; subst h
        obtain ⟨h1, h2⟩ := ih us hr
        exact ⟨by simp [h1], .cons (ev_sound g tr hx) h2⟩
end

theorem pureRun_sound {α : Type} {P : Program} (x : Sem α) : ∀ (r : α), pureRun P x = some r → ∀ w : World, x.run P w = .ok r w := by
  induction x with
  | pure a => intro r h w; simp only [pureRun, Option.some.injEq] at h; subst h; rfl
  | program k ih => intro r h w; simp only [pureRun] at h; exact ih P r h w
  | _ => intro r h; simp [pureRun] at h

section
variable {P : Program}

theorem bytesEq_iff : ∀ a b : List UInt8, bytesEq a b = (a == b)
  | [], [] => rfl
  | [], _ :: _ => rfl
  | _ :: _, [] => rfl
  | x :: a, y :: b => by
    have ih := bytesEq_iff a b
    simp only [bytesEq, cond_eq_ite]
    by_cases h : x = y
    · subst h; simp [ih]
    · have h1 : Nat.beq x.toNat y.toNat = false := by
        rw [nbeq]; simpa using fun e => h (UInt8.toNat_inj.1 e)
      have h2 : (x == y) = false := by simpa using h
      rw [h1]; simp [List.cons_beq_cons, h2]

theorem bytesLt_iff : ∀ a b : List UInt8, bytesLt a b = Op.bytesLess a b
  | _, [] => by simp [bytesLt, Op.bytesLess]
  | [], _ :: _ => rfl
  | x :: a, y :: b => by
    have ih := bytesLt_iff a b
    simp only [bytesLt, Op.bytesLess, cond_eq_ite, ih]
    by_cases h : x = y
    · subst h
      have h1 : Nat.blt x.toNat x.toNat = false := by rw [nblt]; simp
      simp [h1]
    · have h0 : x.toNat ≠ y.toNat := fun e => h (UInt8.toNat_inj.1 e)
      have h1 : Nat.beq x.toNat y.toNat = false := by rw [nbeq]; simpa using h0
      have h2 : (x == y) = false := by simpa using h
      have h3 : Nat.blt x.toNat y.toNat = decide (x < y) := by
        rw [nblt]; exact decide_eq_decide.2 UInt8.lt_iff_toNat_lt.symm
      rw [h1, h2, h3]
      by_cases h4 : x < y <;> simp [h4]

theorem strOp_sound {op : BinOp} {x y : ByteArray} {v : Value} (h : strOp op x y = some v) (w : World) : (Op.stringOp op x y).run P w = .ok v w := by
  have e : (x.toList == y.toList) = bytesEq x.data.toList y.data.toList := by rw [bytesEq_iff, ByteArray.toList_eq, ByteArray.toList_eq]
  have l : Op.bytesLess x.toList y.toList = bytesLt x.data.toList y.data.toList := by rw [bytesLt_iff, ByteArray.toList_eq, ByteArray.toList_eq]
  cases op <;> simp only [strOp] at h
  case add =>
    simp only [cond_eq_ite] at h
    split at h
    · rename_i hle
      simp only [Option.some.injEq] at h; subst h
      have hle : x.data.toList.length + y.data.toList.length ≤ 9223372036854775807 := by simpa using hle
      have hx : x.size = x.data.toList.length := (Array.length_toList).symm
      have hy : y.size = y.data.toList.length := (Array.length_toList).symm
      have hm : IntKind.i64.max = 9223372036854775807 := by decide
      have : ¬ (((x.size + y.size : Nat) : Int) > IntKind.i64.max) := by rw [hm, hx, hy]; omega
      simp only [Op.stringOp, this, if_false, Sem.run_pure]
      congr 2
    · cases h
  all_goals first
    | (cases h; done)
    | (simp only [Option.some.injEq] at h; subst h; simp only [Op.stringOp, Sem.run_pure, e, l]; done)

end

end Go.CS

/- Operations on two values. -/
namespace Go.CS
open Go

section
variable {E : Env} {ρ : Rho} {h : H} {w : World}

theorem run_guard_plain {P : Program} (op : BinOp) (t : TypeId) (x y : Operand) (u v : Value) (w : World)
    (h1 : ¬ (u = .nilIface ∧ v = .nilIface)) (h2 : ∀ a b, ¬ (u = .agg a ∧ v = .agg b)) : (eqGuard op t x y u v).run P w = .ok () w := by
  unfold eqGuard
  cases op <;> first
    | rfl
    | (cases u <;> cases v <;> first
        | rfl
        | exact absurd ⟨rfl, rfl⟩ h1
        | exact absurd ⟨rfl, rfl⟩ (h2 _ _))

theorem guard_then {P : Program} {op : BinOp} {t : TypeId} {x y : Operand} {u v r : Value} {w : World} (hg : (eqGuard op t x y u v).run P w = .ok () w)
    (hb : (Go.binOp op t u v).run P w = .ok r w) : (do eqGuard op t x y u v; Go.binOp op t u v : Sem Value).run P w = .ok r w := by
  simp [hg, hb]

theorem sameKind_eq {k k' : IntKind} (h : sameKind k k' = true) : k = k' := by simpa [sameKind] using h

theorem eq_run {P : Program} {t : TypeId} {x y : Value} {b : Bool} {w : World} (h : ∀ n, (Op.equalIn (n + 1) t x y).run P w = .ok b w) :
    (Op.equal t x y).run P w = .ok b w := by
  unfold Op.equal Op.maxDepth; exact h 9999

theorem samePlain_sound (i : Inv E ρ h w.heap) {a b : Addr} {r : Bool} (hs : samePlain h a b = some r) {a' b' : Addr}
    (ha : VRel ρ (.pointer (some a)) (.pointer (some a'))) (hb : VRel ρ (.pointer (some b)) (.pointer (some b'))) (P : Program) :
    (sameAddr a' b').run P w = .ok r w := by
  cases ha with
  | ptr b1 o1 l1 e1 =>
  cases hb with
  | ptr b2 o2 l2 e2 =>
  simp only [samePlain] at hs
  cases h1 : h.objs.get b1 with
  | none => simp [h1] at hs
  | some c1 =>
  cases h2 : h.objs.get b2 with
  | none => cases c1 <;> simp [h1, h2] at hs
  | some c2 =>
  cases c1 with
  | map => simp [h1] at hs
  | siter => simp [h1] at hs
  | miter => simp [h1] at hs
  | row cells1 size1 elem1 opn1 st1 =>
  cases c2 with
  | map => simp [h1, h2] at hs
  | siter => simp [h1, h2] at hs
  | miter => simp [h1, h2] at hs
  | row cells2 size2 elem2 opn2 st2 =>
  cases st1 with
  | succ n => simp [h1, h2] at hs
  | zero =>
  cases st2 with
  | succ n => simp [h1, h2] at hs
  | zero =>
  simp only [h1, h2, Option.some.injEq] at hs
  obtain ⟨c, fr, hx, _, _, _, _, _, _, _, hf⟩ := i.obj b1 _ l1 h1 e1
  obtain ⟨c', fr', hx', _, _, _, _, _, _, _, hf'⟩ := i.obj b2 _ l2 h2 e2
  have hfr := hf.1 rfl
  have hfr' := hf'.1 rfl
  subst hfr hfr'
  have fz : ∀ n, w.frozen? ⟨l1.blk, n, none⟩ = false := fun n => by simp [World.frozen?, hx]
  have fz' : ∀ n, w.frozen? ⟨l2.blk, n, none⟩ = false := fun n => by simp [World.frozen?, hx']
  have sh : w.shape? l1.blk = some (elem1, c.size) := by simp [World.shape?, hx]
  have sh' : w.shape? l2.blk = some (elem2, c'.size) := by simp [World.shape?, hx']
  by_cases he : b1 = b2
  · subst he
    rw [e1] at e2; cases e2
    subst hs
    simp [sameAddr]
    by_cases ho : o1 = o2
    · subst ho; simp
    · simp [nbeq, ho]
  · have hne : l1.blk ≠ l2.blk := fun e => he (i.inj b1 b2 _ _ l1 l2 h1 e1 h2 e2 e)
    have hr : r = false := by rw [← hs, nbeq]; simp [he]
    subst hr
    simp [sameAddr, hne, fz, fz', noView, viewAt, sh, sh', mayBeOne, stringish]

theorem int_cmp {op : BinOp} {a b : Int} {r : Bool} (hc : intCmp op a b = some r) {P : Program} {t : TypeId} {ox oy : Operand} {k : IntKind} {w : World} :
    (do eqGuard op t ox oy (.int k a) (.int k b); Go.binOp op t (.int k a) (.int k b) : Sem Value).run P w = .ok (.bool r) w := by
  refine guard_then (run_guard_plain _ _ _ _ _ _ _ (by simp) (by simp)) ?_
  cases op <;> simp only [intCmp, Option.some.injEq, reduceCtorEq] at hc <;> subst hc <;> simp [Go.binOp, Op.intCmp, bne]

set_option maxHeartbeats 2000000 in
theorem eqNil_sound {u : TypeDesc} {x y x' y' : Value} {r : Bool} (hk : eqKindD u x y = true) (hn : eqNil x y = some r) (hx : VRel ρ x x') (hy : VRel ρ y y')
    {P : Program} {t : TypeId} (hu : P.underlying t = some u) (w : World) :
    (Op.equal t x' y').run P w = .ok r w ∧ ¬ (x' = .nilIface ∧ y' = .nilIface) ∧ (∀ a b, ¬ (x' = .agg a ∧ y' = .agg b)) ∧
      (Go.binOp .eql t x' y' = (do pure (.bool (← Op.equal t x' y')) : Sem Value)) ∧ (Go.binOp .neq t x' y' = (do pure (.bool (!(← Op.equal t x' y'))) : Sem Value)) := by
  unfold eqNil at hn
  split at hn <;> simp only [Option.some.injEq, reduceCtorEq] at hn <;> subst hn
  · cases hx
    cases hy <;> cases u <;> simp only [eqKindD, Bool.false_eq_true] at hk <;>
      exact ⟨eq_run (fun n => by simp [Op.equalIn, run_underlying hu]), by simp, by simp, rfl, rfl⟩
  · cases hx; cases hy
    cases u <;> simp only [eqKindD, Bool.false_eq_true] at hk <;>
      exact ⟨eq_run (fun n => by simp [Op.equalIn, run_underlying hu]), by simp, by simp, rfl, rfl⟩
  · cases hx
    cases hy <;> cases u <;> simp only [eqKindD, Bool.false_eq_true] at hk <;>
      exact ⟨eq_run (fun n => by simp [Op.equalIn, run_underlying hu]), by simp, by simp, rfl, rfl⟩
  · cases hy
    cases hx <;> cases u <;> simp only [eqKindD, Bool.false_eq_true] at hk <;>
      exact ⟨eq_run (fun n => by simp [Op.equalIn, run_underlying hu]), by simp, by simp, rfl, rfl⟩
  · cases hx
    cases hy <;> cases u <;> simp only [eqKindD, Bool.false_eq_true] at hk <;>
      exact ⟨eq_run (fun n => by simp [Op.equalIn, run_underlying hu]), by simp, by simp, rfl, rfl⟩
  · cases hx; cases hy
    cases u <;> simp only [eqKindD, Bool.false_eq_true] at hk <;>
      exact ⟨eq_run (fun n => by simp [Op.equalIn, run_underlying hu]), by simp, by simp, rfl, rfl⟩
  · cases hx; cases hy
    cases u <;> simp only [eqKindD, Bool.false_eq_true] at hk <;>
      exact ⟨eq_run (fun n => by simp [Op.equalIn, run_underlying hu]), by simp, by simp, rfl, rfl⟩
  · cases hx; cases hy
    cases u <;> simp only [eqKindD, Bool.false_eq_true] at hk <;>
      exact ⟨eq_run (fun n => by simp [Op.equalIn, run_underlying hu]), by simp, by simp, rfl, rfl⟩
  · cases hx; cases hy
    cases u <;> simp only [eqKindD, Bool.false_eq_true] at hk <;>
      exact ⟨eq_run (fun n => by simp [Op.equalIn, run_underlying hu]), by simp, by simp, rfl, rfl⟩
  · cases hx; cases hy
    cases u <;> simp only [eqKindD, Bool.false_eq_true] at hk <;>
      exact ⟨eq_run (fun n => by simp [Op.equalIn, run_underlying hu]), by simp, by simp, rfl, rfl⟩

theorem binop_sound (ok : EnvOk E) (i : Inv E ρ h w.heap) {op : BinOp} {t : TypeId} {ox oy : Operand} {x y x' y' v : Value} (hx : VRel ρ x x') (hy : VRel ρ y y')
    (hb : binop E h op t ox oy x y = some v) : ∃ v', (do eqGuard op t ox oy x' y'; Go.binOp op t x' y' : Sem Value).run E.P w = .ok v' w ∧ VRel ρ v v' := by
  unfold binop at hb
  split at hb
  · -- two integers
    rename_i k a k' b
    cases hx; cases hy
    have ar : ∀ {r : Value}, (Go.binOp op t (.int k a) (.int k' b)).run E.P w = .ok r w →
        (do eqGuard op t ox oy (.int k a) (.int k' b); Go.binOp op t (.int k a) (.int k' b) : Sem Value).run E.P w = .ok r w :=
      fun hr => guard_then (run_guard_plain _ _ _ _ _ _ _ (by simp) (by simp)) hr
    cases op <;> simp only [cond_eq_ite] at hb
    case add | sub | mul =>
      split at hb
      · rename_i hk; have := sameKind_eq hk; subst this; simp only [Option.some.injEq] at hb; subst hb
        exact ⟨_, ar (by simp [Go.binOp, Op.intArith]), .int _ _⟩
      · cases hb
    case quo | rem =>
      split at hb
      · rename_i hk
        simp only [Bool.and_eq_true, Bool.not_eq_true', beq_eq_false_iff_ne, ne_eq] at hk
        have := sameKind_eq hk.1; subst this; simp only [Option.some.injEq] at hb; subst hb
        exact ⟨_, ar (by simp [Go.binOp, Op.intDiv, hk.2]), .int _ _⟩
      · cases hb
    case shl | shr | and | or | xor | andNot =>
      split at hb
      · rename_i k2 n2 hp
        simp only [Option.some.injEq] at hb; subst hb
        exact ⟨_, ar (pureRun_sound _ _ hp w), .int _ _⟩
      · cases hb
    case eql | neq | lss | leq | gtr | geq =>
      split at hb
      · rename_i hk; have := sameKind_eq hk; subst this
        split at hb
        · rename_i r hr; simp only [Option.some.injEq] at hb; subst hb
          exact ⟨_, int_cmp hr, .bool _⟩
        · cases hb
      · cases hb
    all_goals first
      | (cases hb; done)
      | (split at hb <;> (try cases hb) <;> rename_i hq <;> (try (split at hq <;> cases hq)) <;> simp [intCmp] at *)
  · -- two strings
    cases hx; cases hy
    have := strOp_sound (P := E.P) hb w
    refine ⟨v, guard_then (run_guard_plain _ _ _ _ _ _ _ (by simp) (by simp)) (by simpa [Go.binOp] using this), ?_⟩
    unfold strOp at hb
    cases op <;> simp only [cond_eq_ite, Option.some.injEq, reduceCtorEq] at hb <;> first
      | (subst hb; constructor; done)
      | (split at hb <;> simp only [Option.some.injEq, reduceCtorEq] at hb; subst hb; constructor)
  · -- two pointers
    rename_i a b
    obtain ⟨a', rfl⟩ : ∃ a', x' = .pointer (some a') := by cases hx; exact ⟨_, rfl⟩
    obtain ⟨b', rfl⟩ : ∃ b', y' = .pointer (some b') := by cases hy; exact ⟨_, rfl⟩
    have core : ∀ {ct ce : CT} {e : TypeId} {r : Bool}, E.T.get t = some ct → ct.u = .pointer e → E.T.get e = some ce → ¬ (Nat.beq ce.size 0 = true) → samePlain h a b = some r →
        (Op.equal t (.pointer (some a')) (.pointer (some b'))).run E.P w = .ok r w := by
      intro ct ce e r h1 h2 h3 h4 h5
      obtain ⟨hu, _⟩ := ok.T _ _ h1
      obtain ⟨_, ii, hi, hs, _⟩ := ok.T _ _ h3
      have h4' : ce.size ≠ 0 := by simpa [nbeq] using h4
      rw [h2] at hu
      have sp := samePlain_sound i h5 hx hy E.P
      refine eq_run fun n => ?_
      simp [Op.equalIn, run_underlying hu, sizeOf, typeInfo, hi, hs, h4', sp]
    split at hb
    · rename_i ct hT
      split at hb
      · rename_i e hu
        split at hb
        · rename_i ce hce
          simp only [cond_eq_ite] at hb
          split at hb
          · cases hb
          · rename_i hz
            split at hb
            · rename_i r hr
              simp only [Option.some.injEq] at hb; subst hb
              refine ⟨_, guard_then (run_guard_plain _ _ _ _ _ _ _ (by simp) (by simp)) (?_ : _ = Result.ok (.bool r) w), .bool _⟩
              simp [Go.binOp, core hT hu hce hz hr]
            · cases hb
        · cases hb
      · cases hb
    · rename_i ct hT
      split at hb
      · rename_i e hu
        split at hb
        · rename_i ce hce
          simp only [cond_eq_ite] at hb
          split at hb
          · cases hb
          · rename_i hz
            split at hb
            · rename_i r hr
              simp only [Option.some.injEq] at hb; subst hb
              refine ⟨_, guard_then (run_guard_plain _ _ _ _ _ _ _ (by simp) (by simp)) (?_ : _ = Result.ok (.bool (!r)) w), .bool _⟩
              simp [Go.binOp, core hT hu hce hz hr]
            · cases hb
        · cases hb
      · cases hb
    · cases hb
  · -- two structs or arrays
    simp only [cond_eq_ite] at hb
    split at hb
    · rename_i hc
      simp only [Bool.and_eq_true] at hc
      have e1 := closed_eq 4 _ _ hc.1 hx
      have e2 := closed_eq 4 _ _ hc.2 hy
      subst e1 e2
      split at hb
      · rename_i b hp
        simp only [Option.some.injEq] at hb; subst hb
        exact ⟨_, pureRun_sound _ _ hp w, .bool _⟩
      · cases hb
    · cases hb
  · -- against nil
    split at hb
    · rename_i ct hT
      simp only [cond_eq_ite] at hb
      split at hb
      · rename_i hk
        split at hb
        · rename_i r hn
          simp only [Option.some.injEq] at hb; subst hb
          obtain ⟨h1, h2, h3, h4, h5⟩ := eqNil_sound hk hn hx hy (ok.T _ _ hT).1 w
          refine ⟨_, guard_then (run_guard_plain _ _ _ _ _ _ _ h2 h3) (?_ : _ = Result.ok (.bool r) w), .bool _⟩
          simp [h4, h1]
        · cases hb
      · cases hb
    · rename_i ct hT
      simp only [cond_eq_ite] at hb
      split at hb
      · rename_i hk
        split at hb
        · rename_i r hn
          simp only [Option.some.injEq] at hb; subst hb
          obtain ⟨h1, h2, h3, h4, h5⟩ := eqNil_sound hk hn hx hy (ok.T _ _ hT).1 w
          refine ⟨_, guard_then (run_guard_plain _ _ _ _ _ _ _ h2 h3) (?_ : _ = Result.ok (.bool (!r)) w), .bool _⟩
          simp [h5, h1]
        · cases hb
      · cases hb
    · cases hb
end
end Go.CS

/- Loads, literals, conversions. -/
namespace Go.CS
open Go

section
variable {E : Env} {ρ : Rho} {h : H} {w : World}

theorem run_isAgg {P : Program} {t : TypeId} {u : TypeDesc} (hu : P.underlying t = some u) (w : World) : (isAgg t).run P w = .ok (isAggD u) w := by
  unfold isAgg
  rw [Sem.run_bind, run_underlying hu, Result.andThen_ok]
  cases u <;> rfl

theorem run_sizeOf' (ok : EnvOk E) {t : TypeId} {ct : CT} (hT : E.T.get t = some ct) (w : World) : (sizeOf t).run E.P w = .ok ct.size w := by
  obtain ⟨_, i, hi, hs, _⟩ := ok.T _ _ hT
  simp [sizeOf, typeInfo, hi, hs]

theorem run_zero (ok : EnvOk E) {t : TypeId} {ct : CT} {z : Value} (hT : E.T.get t = some ct) (hz : ct.zero = some z) (w : World) : (zeroValue t).run E.P w = .ok z w := by
  obtain ⟨_, i, hi, _, _, hz'⟩ := ok.T _ _ hT
  simp [zeroValue, typeInfo, hi, hz', hz]

theorem run_typeInfo' (ok : EnvOk E) {t : TypeId} {ct : CT} (hT : E.T.get t = some ct) (w : World) : ∃ i, (typeInfo t).run E.P w = .ok i w ∧ i.bytes = ct.bytes ∧ i.size = ct.size ∧ i.zero = ct.zero := by
  obtain ⟨_, i, hi, h1, h2, h3⟩ := ok.T _ _ hT
  exact ⟨i, by simp [typeInfo, hi], h2, h1, h3⟩

theorem loadVar_sound (ok : EnvOk E) (i : Inv E ρ h w.heap) {t : TypeId} {a a' : Addr} {v : Value} (hl : CS.loadVar E h t a = some v)
    (ha : VRel ρ (.pointer (some a)) (.pointer (some a'))) : ∃ v', (Go.loadVar t a').run E.P w = .ok v' w ∧ VRel ρ v v' := by
  cases ha with
  | ptr b o l e =>
  simp only [CS.loadVar] at hl
  cases hT : E.T.get t with
  | none => simp [hT] at hl
  | some ct =>
    obtain ⟨hu, _⟩ := ok.T _ _ hT
    simp only [hT, cond_eq_ite] at hl
    split at hl
    · rename_i hagg
      split at hl
      · cases hl
      · rename_i vs hvs
        simp only [Option.some.injEq] at hl; subst hl
        obtain ⟨vs', h1, h2, _⟩ := loadCells_sound i hvs e
        refine ⟨.agg vs'.toArray, ?_, VRel.mkAgg (by simpa using h2)⟩
        simp [Go.loadVar, run_isAgg hu, hagg, run_sizeOf' ok hT, h1]
    · rename_i hagg
      split at hl
      · rename_i x hx
        simp only [Option.some.injEq] at hl; subst hl
        obtain ⟨vs', h1, h2, _, _, h5⟩ := loadCells_sound i hx e
        obtain ⟨v', r, rfl, h3, h4⟩ := h2.cons_inv
        refine ⟨v', ?_, h3⟩
        have := h5 0 v' (by simp)
        simp only [Nat.add_zero] at this
        simp [Go.loadVar, run_isAgg hu, hagg, this]
      · cases hl

/-! ### literals -/

theorem putAt_get (vs : List Value) : ∀ (cs : List Value) (off : Nat), off + vs.length ≤ cs.length → ∀ k : Nat, (putAt cs off vs)[k]? = if off ≤ k ∧ k < off + vs.length then vs[k - off]? else cs[k]? := by
  intro cs
  induction cs generalizing vs with
  | nil =>
    intro off hle k
    have : vs = [] := by
      have : vs.length = 0 := by have : off + vs.length ≤ 0 := hle; omega
      exact List.length_eq_zero_iff.1 this
    subst this
    rw [if_neg (by simp)]
    cases off <;> simp [putAt]
  | cons c cs ih =>
    intro off hle k
    cases vs with
    | nil => rw [if_neg (by simp)]; cases off <;> simp [putAt]
    | cons v vs =>
      cases off with
      | zero =>
        simp only [putAt]
        cases k with
        | zero => simp
        | succ k =>
          have := ih vs 0 (by simp at hle; omega) k
          simp only [List.getElem?_cons_succ, this]
          by_cases hk : k < vs.length <;> simp [hk]
      | succ n =>
        simp only [putAt]
        cases k with
        | zero => simp
        | succ k =>
          have := ih (v :: vs) n (by simp at hle ⊢; omega) k
          simp only [List.getElem?_cons_succ, this]
          by_cases hk : n ≤ k ∧ k < n + (v :: vs).length
          · rw [if_pos hk, if_pos (by omega)]; congr 1; omega
          · rw [if_neg hk, if_neg (by omega)]

theorem putAt_length (vs : List Value) : ∀ (cs : List Value) (off : Nat), (putAt cs off vs).length = cs.length := by
  intro cs
  induction cs generalizing vs with
  | nil => intro off; cases vs <;> cases off <;> simp [putAt]
  | cons c cs ih =>
    intro off
    cases vs with
    | nil => cases off <;> simp [putAt]
    | cons v vs => cases off <;> simp [putAt, ih]

theorem fold_put (off : Nat) (vs : List Value) : ∀ (k : Nat) (cs : Array Value), off + k + vs.length ≤ cs.size →
    ((vs.zipIdx k).foldl (fun cs (p : Value × Nat) => cs.setIfInBounds (off + p.2) p.1) cs).toList = putAt cs.toList (off + k) vs := by
  induction vs with
  | nil => intro k cs _; cases cs with | mk l => cases l <;> cases (off + k) <;> simp [putAt]
  | cons v vs ih =>
    intro k cs hle
    simp only [List.zipIdx_cons, List.foldl_cons]
    rw [ih (k + 1) _ (by simp at hle ⊢; omega)]
    apply List.ext_getElem?
    intro j
    rw [putAt_get _ _ _ (by simp at hle ⊢; omega), putAt_get _ _ _ (by simp at hle ⊢; omega)]
    by_cases h1 : off + (k + 1) ≤ j ∧ j < off + (k + 1) + vs.length
    · rw [if_pos h1, if_pos (by simp; omega), show j - (off + k) = (j - (off + (k + 1))) + 1 by omega]; simp
    · rw [if_neg h1]
      by_cases h2 : j = off + k
      · subst h2
        rw [if_pos (by simp)]
        have hlt : off + k < cs.size := by simp at hle; omega
        simp [hlt]
      · rw [if_neg (by simp; omega)]
        simp only [Array.toList_setIfInBounds, List.getElem?_set]
        rw [if_neg (by omega)]

theorem putAt_rel {vs vs' cs cs' : List Value} (hv : LRel ρ vs vs') (hc : LRel ρ cs cs') {off : Nat} (hle : off + vs.length ≤ cs.length) : LRel ρ (putAt cs off vs) (putAt cs' off vs') := by
  refine ⟨by rw [putAt_length, putAt_length, hc.1], fun k x y hx hy => ?_⟩
  rw [putAt_get _ _ _ hle] at hx
  rw [putAt_get _ _ _ (by rw [← hv.1, ← hc.1]; exact hle)] at hy
  by_cases h : off ≤ k ∧ k < off + vs.length
  · rw [if_pos h] at hx; rw [if_pos (by rw [← hv.1]; exact h)] at hy; exact hv.2 _ _ _ hx hy
  · rw [if_neg h] at hx; rw [if_neg (by rw [← hv.1]; exact h)] at hy; exact hc.2 _ _ _ hx hy

theorem fill_sound {place : Nat → Option (Nat × Nat)} : ∀ (ps ps' : List (Nat × Value)) (cs cs' l : List Value), CS.fill place cs ps = some l → ps.map (·.1) = ps'.map (·.1) →
    LRel ρ (ps.map (·.2)) (ps'.map (·.2)) → LRel ρ cs cs' → ∃ l', Instr.fill place cs'.toArray ps' = some l'.toArray ∧ LRel ρ l l' ∧ l.length = cs.length := by
  intro ps
  induction ps with
  | nil =>
    intro ps' cs cs' l h h1 _ hc
    simp only [CS.fill, Option.some.injEq] at h; subst h
    have : ps' = [] := by simpa using h1.symm
    subst this
    exact ⟨cs', rfl, hc, rfl⟩
  | cons p ps ih =>
    intro ps' cs cs' l h h1 h2 hc
    obtain ⟨n, v⟩ := p
    cases ps' with
    | nil => simp at h1
    | cons p' ps' =>
      obtain ⟨n', v'⟩ := p'
      simp only [List.map_cons, List.cons.injEq] at h1
      obtain ⟨rfl, h1⟩ := h1
      obtain ⟨v'', r, hvr, hv, hr⟩ := h2.cons_inv
      simp only [List.map_cons, List.cons.injEq] at hvr
      obtain ⟨rfl, rfl⟩ := hvr
      simp only [CS.fill] at h
      cases hp : place n with
      | none => simp [hp] at h
      | some os =>
        obtain ⟨off, size⟩ := os
        simp only [hp, cond_eq_ite] at h
        split at h
        · rename_i hb
          simp only [Bool.and_eq_true, nbeq, nble, decide_eq_true_eq] at hb
          have hv : VRel ρ v v' := hv
          have hvc := hv.cells
          have hlen : v'.cells.toList.length = size := by rw [← hvc.1]; exact hb.1
          have hs : v'.cells.size = size := by simpa using hlen
          have hc1 := hc.1
          have hput : LRel ρ (putAt cs off v.cells.toList) (putAt cs' off v'.cells.toList) := putAt_rel hvc hc (by omega)
          obtain ⟨l', g1, g2, g3⟩ := ih ps' _ _ l h h1 hr hput
          refine ⟨l', ?_, g2, by rw [g3, putAt_length]⟩
          rw [Instr.fill, hp]
          simp only
          rw [if_neg (by simp [hs]; omega), ← g1]
          congr 1
          have := fold_put off v'.cells.toList 0 cs'.toArray (by simp [hs]; omega)
          rw [← Array.foldl_toList, Array.toList_zipIdx]
          apply Array.ext'
          simpa using this
        · cases h
end
end Go.CS

/- Building of values, conversions, reslicing. -/
namespace Go.CS
open Go

section
variable {E : Env} {ρ : Rho} {h : H} {w : World}

theorem mapM_run {α β : Type} {P : Program} {f : α → Sem β} {g : α → Option β} (hf : ∀ x y, g x = some y → (f x).run P w = .ok y w) :
    ∀ (l : List α) (r : List β), l.mapM g = some r → (l.mapM f).run P w = .ok r w := by
  intro l
  induction l with
  | nil => intro r hr; simp at hr; subst hr; simp [Sem.run_pure]
  | cons x l ih =>
    intro r hr
    simp only [List.mapM_cons] at hr
    cases hx : g x with
    | none => simp [hx] at hr
    | some y =>
      cases hl : l.mapM g with
      | none => simp [hx, hl] at hr
      | some ys =>
        simp [hx, hl] at hr
        subst hr
        simp [List.mapM_cons, hf x y hx, ih ys hl]

theorem places_mapM : ∀ (fs : List Field) (pl : List (Nat × Nat)), places E fs = some pl → fs.mapM (fun f => (E.T.get f.type).map fun ct => (f.offset, ct.size)) = some pl := by
  intro fs
  induction fs with
  | nil => intro pl h; simp only [places, Option.some.injEq] at h; subst h; rfl
  | cons f fs ih =>
    intro pl h
    simp only [places] at h
    cases hT : E.T.get f.type with
    | none => simp [hT] at h
    | some ct =>
      cases hp : places E fs with
      | none => simp [hT, hp] at h
      | some ps =>
        simp only [hT, hp, Option.some.injEq] at h; subst h
        simp [List.mapM_cons, hT, ih ps hp]

theorem build_sound (ok : EnvOk E) {t : TypeId} {ct : CT} {ps : List (Nat × Value)} {ps' : Array (Nat × Value)} {z v : Value} (hT : E.T.get t = some ct) (hz : ct.zero = some z)
    (hv : (match ct.u with
        | .struct fields => (match places E fields.toList with
          | some pl => (match fill (pl[·]?) z.cells.toList ps with | some l => some (Value.agg ⟨l⟩) | none => none)
          | none => none)
        | .array _ e => (match E.T.get e with
          | some ce => (match fill (fun i => some (i * ce.size, ce.size)) z.cells.toList ps with | some l => some (.agg ⟨l⟩) | none => none)
          | none => none)
        | _ => none) = some v)
    (h1 : ps.map (·.1) = ps'.toList.map (·.1)) (h2 : LRel ρ (ps.map (·.2)) (ps'.toList.map (·.2))) :
    ∃ v', (Instr.build t ps').run E.P w = .ok v' w ∧ VRel ρ v v' := by
  obtain ⟨hu, _⟩ := ok.T _ _ hT
  have hzc := (closed_refl (ρ := ρ) 4 z (ok.Z _ _ _ hT hz)).cells
  split at hv
  · rename_i fields hd
    split at hv
    · rename_i pl hpl
      split at hv
      · rename_i l hl
        simp only [Option.some.injEq] at hv; subst hv
        obtain ⟨l', g1, g2, _⟩ := fill_sound ps ps'.toList _ _ l hl h1 h2 hzc
        refine ⟨.agg l'.toArray, ?_, VRel.mkAgg (by simpa using g2)⟩
        have hm : (fields.mapM fun f => do pure (f.offset, ← sizeOf f.type) : Sem (Array (Nat × Nat))).run E.P w = .ok pl.toArray w := by
          rw [Array.mapM_eq_mapM_toList]
          rw [Sem.run_map, mapM_run (w := w) (g := fun f => (E.T.get f.type).map fun ct => (f.offset, ct.size)) ?_ _ _ (places_mapM _ _ hpl)]
          · rfl
          · intro x y hxy
            cases hx : E.T.get x.type with
            | none => simp [hx] at hxy
            | some cx => simp [hx] at hxy; subst hxy; simp [run_sizeOf' ok hx]
        rw [hd] at hu
        simp only [Instr.build, Sem.run_bind, run_zero ok hT hz, Result.andThen_ok, run_underlying hu, hm]
        have : (fun (i : Nat) => pl.toArray[i]?) = (fun (i : Nat) => pl[i]?) := by funext i; simp
        rw [this, show z.cells = z.cells.toList.toArray by simp, g1]
        rfl
      · cases hv
    · cases hv
  · rename_i n e hd
    split at hv
    · rename_i ce hce
      split at hv
      · rename_i l hl
        simp only [Option.some.injEq] at hv; subst hv
        obtain ⟨l', g1, g2, _⟩ := fill_sound ps ps'.toList _ _ l hl h1 h2 hzc
        refine ⟨.agg l'.toArray, ?_, VRel.mkAgg (by simpa using g2)⟩
        rw [hd] at hu
        simp only [Instr.build, Sem.run_bind, run_zero ok hT hz, Result.andThen_ok, run_underlying hu, run_sizeOf' ok hce]
        rw [show z.cells = z.cells.toList.toArray by simp, g1]
        rfl
      · cases hv
    · cases hv
  · cases hv

/-! ### conversions -/

theorem valsBytes_spec : ∀ (l : List Value) (bs : List UInt8), valsBytes l = some bs → ∃ ns : List Int, l = ns.map (Value.int .u8) ∧ bs = ns.map fun n => UInt8.ofNat n.toNat := by
  intro l
  induction l with
  | nil => intro bs h; simp only [valsBytes, Option.some.injEq] at h; subst h; exact ⟨[], rfl, rfl⟩
  | cons v l ih =>
    intro bs h
    unfold valsBytes at h
    split at h
    · cases h; rename_i h0; cases h0
    · rename_i n r he
      cases he
      cases hr : valsBytes l with
      | none => simp [hr] at h
      | some cs =>
        simp only [hr, Option.some.injEq] at h; subst h
        obtain ⟨ns, h1, h2⟩ := ih cs hr
        exact ⟨n :: ns, by simp [h1], by simp [h2]⟩
    · cases h

theorem push_fold : ∀ (ns : List Int) (s : ByteArray), (ns.foldl (fun r n => r.push (UInt8.ofNat n.toNat)) s).data.toList = s.data.toList ++ ns.map (fun n => UInt8.ofNat n.toNat) := by
  intro ns
  induction ns with
  | nil => intro s; simp
  | cons n ns ih => intro s; simp only [List.foldl_cons, ih]; simp [ByteArray.push]

theorem mk_bytes {s : ByteArray} {l : List UInt8} (h : s.data.toList = l) : s = ⟨⟨l⟩⟩ := by
  cases s with | mk d => cases d with | mk k => simp at h; subst h; rfl

theorem ints_rel : ∀ (ns : List Int) (l : List Value), LRel ρ (ns.map (Value.int .u8)) l → l = ns.map (Value.int .u8) := by
  intro ns
  induction ns with
  | nil => intro l h; exact h.nil_inv
  | cons n ns ih =>
    intro l h
    obtain ⟨v, r, rfl, h1, h2⟩ := h.cons_inv
    cases h1
    rw [ih r h2]; rfl

theorem seen_plain {P : Program} {b : Nat} {c : Array Value} {e : TypeId} {fr : Nat × Nat} (hx : w.heap[b]? = some (.cells c e fr)) (o : Nat) :
    (Conv.seenAt ⟨b, o, none⟩).run P w = .ok ⟨b, o, none⟩ w := by
  have sh : w.shape? b = some (e, c.size) := by simp [World.shape?, hx]
  simp [Conv.seenAt, viewAt, sh]

theorem conv_sound (ok : EnvOk E) (i : Inv E ρ h w.heap) {src dst : TypeId} {x x' v : Value} (hx : VRel ρ x x') (hc : convOp E h src dst x = some v) :
    ∃ v', (Go.convert src dst x').run E.P w = .ok v' w ∧ VRel ρ v v' := by
  unfold convOp at hc
  split at hc
  · rename_i cs cd hs hd
    obtain ⟨hus, _⟩ := ok.T _ _ hs
    obtain ⟨hud, _⟩ := ok.T _ _ hd
    split at hc
    · -- a pointer to an unsafe one
      rename_i t a hcs hcd
      rw [hcs] at hus; rw [hcd] at hud
      split at hc
      · rename_i cells size elem opn st ct hsp hob hct
        simp only [cond_eq_ite] at hc
        split at hc
        · rename_i hb
          simp only [Bool.and_eq_true, nblt, decide_eq_true_eq, Bool.not_eq_true', nbeq, decide_eq_false_iff_not] at hb
          simp only [Option.some.injEq] at hc; subst hc
          refine ⟨x', ?_, hx⟩
          cases hx with
          | ptr b o l e =>
          obtain ⟨c, fr, hp, h1, h2, h3, _⟩ := i.obj _ _ l hob e
          have sh : w.shape? l.blk = some (elem, c.size) := by simp [World.shape?, hp]
          have hlt : ¬ (c.size ≤ l.base + o) := by simp at hb; omega
          simp [convert, run_underlying hus, run_underlying hud, Conv.unsafePointer, seen_plain hp, cellsIn, sh, run_sizeOf' ok hct, hb.2, hlt]
        · cases hc
      · cases hc
    · -- and back
      rename_i u b hcs hcd
      rw [hcs] at hus; rw [hcd] at hud
      split at hc
      · rename_i cells size elem st ct hob hct
        simp only [cond_eq_ite] at hc
        split at hc
        · rename_i hb
          simp only [Bool.and_eq_true, Bool.not_eq_true', nbeq, decide_eq_true_eq, decide_eq_false_iff_not] at hb
          obtain ⟨⟨he, hsz⟩, hnz⟩ := hb
          subst he
          simp only [Option.some.injEq] at hc; subst hc
          refine ⟨x', ?_, hx⟩
          cases hx with
          | ptr b o l e =>
          obtain ⟨c, fr, hp, h1, h2, h3, _, _, h6, _⟩ := i.obj _ _ l hob e
          obtain ⟨q1, q2, q3⟩ := h6 rfl
          have sh : w.shape? l.blk = some (elem, c.size) := by simp [World.shape?, hp]
          obtain ⟨_, ii, hi, hsi, _⟩ := ok.T _ _ hct
          have hco : E.P.cellsOf elem = ct.size := by simp [Program.cellsOf, hi, hsi]
          have hva : (variablesAt ⟨l.blk, l.base + 0, none⟩ elem 1).run E.P w = .ok true w := by
            have hd : ∃ d, E.P.depth = d + 1 := ⟨_, rfl⟩
            obtain ⟨d, hd⟩ := hd
            have h1 : c.size / ct.size = 1 := by rw [q3, ← hsz]; exact Nat.div_self (by omega)
            simp [variablesAt, sh, hd, liesAt, rowAt, sameLayout, q1, hco, hnz, h1]
          simp [convert, run_underlying hus, run_underlying hud, Conv.unsafePointer, seen_plain hp, run_sizeOf' ok hct, hnz]
          simp at hva
          simp [hva]
        · cases hc
      · cases hc
    · rename_i k k' k2 n hcs hcd
      rw [hcs] at hus; rw [hcd] at hud
      cases hx
      simp only [Option.some.injEq] at hc; subst hc
      exact ⟨_, by simp [convert, run_underlying hus, run_underlying hud, Conv.intToInt], .int _ _⟩
    · rename_i hcs hcd
      rw [hcs] at hus; rw [hcd] at hud
      cases hx
      simp only [Option.some.injEq] at hc; subst hc
      exact ⟨_, by simp [convert, run_underlying hus, run_underlying hud], .string _⟩
    · rename_i hcs hcd
      rw [hcs] at hus; rw [hcd] at hud
      cases hx
      simp only [Option.some.injEq] at hc; subst hc
      exact ⟨_, by simp [convert, run_underlying hus, run_underlying hud, Conv.intToString], .string _⟩
    · rename_i e len cap hcs hcd
      rw [hcs] at hus; rw [hcd] at hud
      split at hc
      · rename_i ce hce
        split at hc
        · rename_i hk
          have hue := (ok.T _ _ hce).1
          rw [hk] at hue
          simp only [Option.some.injEq] at hc; subst hc
          cases hx
          exact ⟨_, by simp [convert, run_underlying hus, run_underlying hud, run_underlying hue, Conv.bytesToString]; rfl, .string _⟩
        · cases hc
      · cases hc
    · rename_i e a len cap hcs hcd
      rw [hcs] at hus; rw [hcd] at hud
      split at hc
      · rename_i ce l hce hl
        split at hc
        · rename_i bs hk hbs
          have hue := (ok.T _ _ hce).1
          rw [hk] at hue
          simp only [Option.some.injEq] at hc; subst hc
          obtain ⟨ns, rfl, rfl⟩ := valsBytes_spec _ _ hbs
          have fin : ∀ (a' : Addr) (c' : Nat), (∀ P : Program, (Go.loadCells a' len).run P w = .ok (ns.map (Value.int .u8)).toArray w) →
              ∃ v', (Go.convert src dst (.slice (some a') len c')).run E.P w = .ok v' w ∧ VRel ρ (.string ⟨⟨ns.map fun n => UInt8.ofNat n.toNat⟩⟩) v' := by
            intro a' c' hload
            refine ⟨_, by rw [run_convert_bytes_string w src dst e _ _ _ hus hue hud, run_bytesToString w a' len c' ns (hload E.P)], ?_⟩
            have := mk_bytes (push_fold ns ByteArray.empty)
            rw [this]
            exact .string _
          cases hx with
          | slice b o n c l e0 =>
            obtain ⟨vs', g1, g2, _⟩ := loadCells_sound i hl e0
            have := ints_rel ns _ g2; subst this
            exact fin _ _ g1
          | opn b o n c l e0 hc1 hc2 =>
            obtain ⟨vs', g1, g2, _⟩ := loadCells_sound i hl e0
            have := ints_rel ns _ g2; subst this
            exact fin _ _ g1
          | opnEnd b o x l e0 hc1 =>
            obtain ⟨vs', g1, g2, _, g4, _⟩ := loadCells_sound i hl e0
            have := ints_rel ns _ g2; subst this
            have : ns = [] := by cases ns with | nil => rfl | cons a r => simp at g4
            subst this
            exact fin _ _ (fun P => by simp [Go.loadCells, loadCellsFrom])
          | zero b o x l e0 =>
            obtain ⟨vs', g1, g2, _, g4, _⟩ := loadCells_sound i hl e0
            have := ints_rel ns _ g2; subst this
            have : ns = [] := by cases ns with | nil => rfl | cons a r => simp at g4
            subst this
            exact fin _ _ (fun P => by simp [Go.loadCells, loadCellsFrom])
        · cases hc
      · cases hc
    · cases hc
  · cases hc
end
end Go.CS

/- Reslicing, fields, elements. -/
namespace Go.CS
open Go

section
variable {E : Env} {ρ : Rho} {h : H} {w : World}

def OptRel (ρ : Rho) : Option Value → Option Value → Prop
  | none, none => True
  | some v, some v' => VRel ρ v v'
  | _, _ => False

theorem optEv_sound {nt : Nat} {s : Tr Value} {a : Act} (g : GOk E ρ) (tr : TRel ρ nt s a.tmps) {x : Option Operand} {v : Option Value} (hx : optEv E s x = some v) : OptRel ρ v (x.map a.eval) := by
  cases x with
  | none => simp only [optEv, Option.some.injEq] at hx; subst hx; trivial
  | some x =>
    simp only [optEv] at hx
    cases he : ev E s x with
    | none => simp [he] at hx
    | some u => simp only [he, Option.some.injEq] at hx; subst hx; exact ev_sound g tr he

theorem toNat_rel {v v' : Value} {n : Nat} (hv : toNat? v = some n) (r : VRel ρ v v') : ∃ k, v' = .int k (n : Int) := by
  unfold toNat? at hv
  split at hv
  · rename_i k m
    simp only [Option.some.injEq] at hv; subst hv
    cases r; exact ⟨_, rfl⟩
  · cases hv

theorem run_sliceBound {P : Program} {k : IntKind} {n y : Nat} {code : BoundsCode} (hn : n ≤ y) (w : World) : (Instr.sliceBound (.int k (n : Int)) y code).run P w = .ok n w := by
  have h1 : (0 : Int) ≤ (n : Int) ∧ (n : Int) ≤ (y : Int) := ⟨Int.natCast_nonneg n, Int.ofNat_le.2 hn⟩
  simp only [Instr.sliceBound, asIntOf, Sem.run_bind, Sem.run_pure, Result.andThen_ok]
  rw [if_pos h1]
  rfl

theorem natOpt_sound {d y n : Nat} {x x' : Option Value} (hn : natOpt d y x = some n) (hx : OptRel ρ x x') :
    (x = none ∧ x' = none ∧ n = d) ∨ (∃ v k, x = some v ∧ x' = some (.int k (n : Int)) ∧ n ≤ y) := by
  cases x with
  | none =>
    cases x' with
    | none => simp only [natOpt, Option.some.injEq] at hn; exact .inl ⟨rfl, rfl, hn.symm⟩
    | some v => exact hx.elim
  | some v =>
    cases x' with
    | none => exact hx.elim
    | some v' =>
      simp only [natOpt] at hn
      cases ht : toNat? v with
      | none => simp [ht] at hn
      | some m =>
        simp only [ht, cond_eq_ite, nble, decide_eq_true_eq] at hn
        split at hn
        · rename_i hle
          simp only [Option.some.injEq] at hn; subst hn
          obtain ⟨k, rfl⟩ := toNat_rel ht hx
          exact .inr ⟨v, k, rfl, rfl, hle⟩
        · cases hn

theorem bnds_sound {P : Program} {isS : Bool} {len room cap : Nat} {lo hi mx lo' hi' mx' : Option Value} {l hh : Nat} {m : Option Nat} (hb : bnds len room lo hi mx = some (l, hh, m)) (hr : room ≤ cap)
    (hlo : OptRel ρ lo lo') (hhi : OptRel ρ hi hi') (hmx : OptRel ρ mx mx') (w : World) :
    (Instr.sliceBounds isS len cap lo' hi' mx').run P w = .ok (l, hh, m.getD cap) w ∧ l ≤ hh ∧ hh ≤ room ∧ (∀ k, m = some k → hh ≤ k ∧ k ≤ room) ∧ (m = none → mx' = none) := by
  unfold bnds at hb
  split at hb
  · cases hb
  · split at hb
    · rename_i mv hv mn hm
      split at hb
      · rename_i hn hhn
        split at hb
        · rename_i l0 hl0
          simp only [Option.some.injEq, Prod.mk.injEq] at hb
          obtain ⟨rfl, rfl, rfl⟩ := hb
          obtain ⟨h1, _⟩ | ⟨v1, k1, e1, rfl, b1⟩ := natOpt_sound hm hmx
          · cases h1
          obtain ⟨h1, _⟩ | ⟨v2, k2, e2, rfl, b2⟩ := natOpt_sound hhn hhi
          · cases h1
          have r1 := run_sliceBound (P := P) (k := k1) (code := if isS = true then BoundsCode.slice3Acap else BoundsCode.slice3Alen) (show mn ≤ cap by omega) w
          have r2 := run_sliceBound (P := P) (k := k2) (code := BoundsCode.slice3B) b2 w
          obtain ⟨h1, rfl, rfl⟩ | ⟨v3, k3, e3, rfl, b3⟩ := natOpt_sound hl0 hlo
          · exact ⟨by simp [Instr.sliceBounds, r1, r2], by omega, by omega, fun k hk => by simp at hk; omega, by simp⟩
          · have r3 := run_sliceBound (P := P) (k := k3) (code := BoundsCode.slice3C) b3 w
            exact ⟨by simp [Instr.sliceBounds, r1, r2, r3], by omega, by omega, fun k hk => by simp at hk; omega, by simp⟩
        · cases hb
      · cases hb
    · cases hb
  · split at hb
    · rename_i hn hhn
      simp only [cond_eq_ite, nble, decide_eq_true_eq] at hb
      split at hb
      · rename_i hle
        split at hb
        · rename_i l0 hl0
          simp only [Option.some.injEq, Prod.mk.injEq] at hb
          obtain ⟨rfl, rfl, rfl⟩ := hb
          cases mx' with
          | some v => exact hmx.elim
          | none =>
          obtain ⟨h1, rfl, rfl⟩ | ⟨v2, k2, e2, rfl, b2⟩ := natOpt_sound hhn hhi
          · obtain ⟨h1, rfl, rfl⟩ | ⟨v3, k3, e3, rfl, b3⟩ := natOpt_sound hl0 hlo
            · exact ⟨by simp [Instr.sliceBounds], by omega, by omega, fun k hk => by simp at hk, by simp⟩
            · have r3 := run_sliceBound (P := P) (k := k3) (code := BoundsCode.sliceB) b3 w
              exact ⟨by simp [Instr.sliceBounds, r3], by omega, by omega, fun k hk => by simp at hk, by simp⟩
          · have r2 := run_sliceBound (P := P) (k := k2) (code := if isS = true then BoundsCode.sliceAcap else BoundsCode.sliceAlen) (show hn ≤ cap by omega) w
            obtain ⟨h1, rfl, rfl⟩ | ⟨v3, k3, e3, rfl, b3⟩ := natOpt_sound hl0 hlo
            · exact ⟨by simp [Instr.sliceBounds, r2], by omega, by omega, fun k hk => by simp at hk, by simp⟩
            · have r3 := run_sliceBound (P := P) (k := k3) (code := BoundsCode.sliceB) b3 w
              exact ⟨by simp [Instr.sliceBounds, r2, r3], by omega, by omega, fun k hk => by simp at hk, by simp⟩
        · cases hb
      · cases hb
    · cases hb

theorem mkPart_sound {b o l hh m es : Nat} {lc : Loc} {v : Value} (hp : mkPart ⟨b, o, none⟩ l hh m es = some v) (hρ : ρ b = some lc) :
    VRel ρ v (.slice (some (if m = l then ⟨lc.blk, lc.base + o, none⟩ else (⟨lc.blk, lc.base + o, none⟩ : Addr).add (l * es))) (hh - l) (m - l)) := by
  simp only [mkPart, cond_eq_ite, nblt, decide_eq_true_eq] at hp
  split at hp
  · rename_i hlt
    simp only [Option.some.injEq] at hp; subst hp
    simp only [cutAddr, cond_eq_ite, nbeq, decide_eq_true_eq, addA]
    split
    · exact .slice _ _ _ _ lc hρ (by omega)
    · rw [addr_add, Nat.add_assoc]
      exact .slice _ _ _ _ lc hρ (by omega)
  · cases hp

theorem extract_bytes (s : ByteArray) (l hh : Nat) (h1 : l ≤ hh) : s.extract l hh = ⟨⟨(s.data.toList.drop l).take (hh - l)⟩⟩ := by
  apply mk_bytes
  simp [ByteArray.data_extract, List.extract_eq_take_drop]

theorem slice_sound (ok : EnvOk E) (i : Inv E ρ h w.heap) {t : TypeId} {x x' v : Value} {lo hi mx lo' hi' mx' : Option Value} (hx : VRel ρ x x') (hlo : OptRel ρ lo lo') (hhi : OptRel ρ hi hi')
    (hmx : OptRel ρ mx mx') (hs : sliceOp E h t x lo hi mx = some v) : ∃ v', (Instr.sliceAt t x' lo' hi' mx').run E.P w = .ok v' w ∧ VRel ρ v v' := by
  unfold sliceOp at hs
  cases hT : E.T.get t with
  | none => simp [hT] at hs
  | some ct =>
    obtain ⟨hu, _⟩ := ok.T _ _ hT
    simp only [hT] at hs
    split at hs
    · -- a string
      rename_i s hcu
      rw [hcu] at hu
      cases hx
      split at hs
      · cases hs
      · split at hs
        · rename_i l hh m hb
          simp only [Option.some.injEq] at hs; subst hs
          have hsz : s.data.toList.length = s.size := Array.length_toList
          rw [hsz] at hb
          obtain ⟨h1, h2, h3, _⟩ := bnds_sound (P := E.P) (isS := false) hb (Nat.le_refl _) hlo hhi (show OptRel ρ none none from trivial) w
          cases mx' with
          | some v => exact hmx.elim
          | none =>
          refine ⟨.string (s.extract l hh), by simp [Instr.sliceAt, Instr.slice, run_underlying hu, h1], ?_⟩
          rw [extract_bytes s l hh h2]
          exact .string _
        · cases hs
    · -- a slice
      rename_i e a len cap hcu
      rw [hcu] at hu
      split at hs
      · rename_i ce hce
        have hsz := run_sizeOf' ok hce w
        have exact_ : ∀ {a0 : Addr} {b o : Nat} {lc : Loc} {cap : Nat} {l hh : Nat} {m : Option Nat}, bnds len cap lo hi mx = some (l, hh, m) → ρ b = some lc → mkPart ⟨b, o, none⟩ l hh (m.getD cap) ce.size = some v →
            a0 = ⟨lc.blk, lc.base + o, none⟩ → ∃ v', (Instr.sliceAt t (.slice (some a0) len cap) lo' hi' mx').run E.P w = .ok v' w ∧ VRel ρ v v' := by
          intro a0 b o lc cap l hh m hb hρ hp ha0
          subst ha0
          obtain ⟨h1, h2, h3, _⟩ := bnds_sound (P := E.P) (isS := true) hb (Nat.le_refl _) hlo hhi hmx w
          have hm := mkPart_sound hp hρ
          refine ⟨_, ?_, hm⟩
          simp [Instr.sliceAt, Instr.slice, run_underlying hu, h1, hsz]
          split <;> simp
        simp only [cond_eq_ite, nbeq, decide_eq_true_eq] at hs
        split at hs
        · rename_i hopen
          subst hopen
          split at hs
          · rename_i cells size elem opn st hob
            split at hs
            · cases hs
            · rename_i hchk
              simp only [Bool.or_eq_true, not_or, decide_eq_true_eq, Bool.not_eq_true', decide_eq_false_iff_not, Decidable.not_not, Bool.not_eq_false] at hchk
              obtain ⟨⟨hz, rfl⟩, hopn⟩ := hchk
              subst hopn
              cases hx with
              | slice b o n c l e0 hc => exact absurd rfl hc
              | opn b o n c l e0 hc1 hc2 =>
                obtain ⟨_, _, _, q1, q2, _, _, _, _, q7, _⟩ := i.obj b _ l hob e0
                have hes := q7 rfl ce hce
                rw [hes] at hc1
                dsimp only at hs
                have hroom : (size - o) / ce.size ≤ c := by
                  rw [Nat.div_le_iff_le_mul_add_pred (by omega)]
                  have : c * ce.size = ce.size * c := Nat.mul_comm _ _
                  omega
                split at hs
                · rename_i l0 hh m hb
                  obtain ⟨h1, h2, h3, h4, h5⟩ := bnds_sound (P := E.P) (isS := true) hb hroom hlo hhi hmx w
                  refine ⟨_, ?_, mkPart_sound hs e0⟩
                  simp [Instr.sliceAt, Instr.slice, run_underlying hu, h1, hsz]
                  split <;> simp
                · rename_i l0 hh hb
                  obtain ⟨h1, h2, h3, h4, h5⟩ := bnds_sound (P := E.P) (isS := true) hb hroom hlo hhi hmx w
                  simp only [Option.some.injEq] at hs; subst hs
                  simp only [Option.getD_none] at h1
                  by_cases hlc : l0 < c
                  · refine ⟨.slice (some ⟨l.blk, l.base + (o + l0 * ce.size), none⟩) (hh - l0) (c - l0), ?_, ?_⟩
                    · simp [Instr.sliceAt, Instr.slice, run_underlying hu, h1, hsz, Nat.ne_of_gt hlc, addr_add, Nat.add_assoc]
                    · refine .opn _ _ _ _ l e0 ?_ (by omega)
                      rw [hes, Nat.sub_mul]
                      have : l0 * ce.size ≤ c * ce.size := Nat.mul_le_mul_right _ (by omega)
                      show o + l0 * ce.size + (c * ce.size - l0 * ce.size) = l.fin
                      omega
                  · have e1 : l0 = c := by omega
                    have e2 : hh = c := by omega
                    subst e1 e2
                    refine ⟨.slice (some ⟨l.blk, l.base + o, none⟩) 0 0, ?_, ?_⟩
                    · simp [Instr.sliceAt, Instr.slice, run_underlying hu, h1, hsz]
                    · simp only [Nat.sub_self, addA]
                      exact .opnEnd _ _ _ l e0 (by omega)
                · cases hs
              | opnEnd b o x l e0 hc1 =>
                obtain ⟨_, _, _, q1, q2, _, _, _, _, q7, _⟩ := i.obj b _ l hob e0
                have hroom : (size - o) / ce.size = 0 := by rw [show size - o = 0 by omega]; simp
                dsimp only at hs
                simp only [hroom] at hs
                split at hs
                · rename_i l0 hh m hb
                  obtain ⟨h1, h2, h3, h4, h5⟩ := bnds_sound (P := E.P) (isS := true) (cap := 0) hb (Nat.le_refl _) hlo hhi hmx w
                  have e1 : l0 = 0 := by omega
                  have e2 : hh = 0 := by omega
                  have e3 : m = 0 := by have := (h4 m rfl).2; omega
                  subst e1 e2 e3
                  simp [mkPart, cutAddr, nblt, OPEN] at hs
                  subst hs
                  refine ⟨.slice (some ⟨l.blk, x, none⟩) 0 0, ?_, .zero _ _ _ l e0⟩
                  simp [Instr.sliceAt, Instr.slice, run_underlying hu, h1, hsz]
                · rename_i l0 hh hb
                  obtain ⟨h1, h2, h3, h4, h5⟩ := bnds_sound (P := E.P) (isS := true) (cap := 0) hb (Nat.le_refl _) hlo hhi hmx w
                  have e1 : l0 = 0 := by omega
                  have e2 : hh = 0 := by omega
                  subst e1 e2
                  simp only [Option.some.injEq] at hs; subst hs
                  refine ⟨.slice (some ⟨l.blk, x, none⟩) 0 0, ?_, ?_⟩
                  · simp [Instr.sliceAt, Instr.slice, run_underlying hu, h1, hsz]
                  · simp only [Nat.sub_self, addA]
                    exact .opnEnd _ _ _ l e0 (by omega)
                · cases hs
          · cases hs
        · rename_i hne
          split at hs
          · rename_i l0 hh m hb
            cases hx with
            | slice b o n c l e0 hc => exact exact_ hb e0 hs rfl
            | zero b o x l e0 =>
              obtain ⟨h1, h2, h3, h4, h5⟩ := bnds_sound (P := E.P) (isS := true) hb (Nat.le_refl _) hlo hhi hmx w
              have e1 : l0 = 0 := by omega
              have e2 : hh = 0 := by omega
              have e3 : m.getD 0 = 0 := by cases m with | none => rfl | some k => have := (h4 k rfl).2; simp; omega
              subst e1 e2
              rw [e3] at hs h1
              simp [mkPart, cutAddr, nblt, OPEN] at hs
              subst hs
              refine ⟨.slice (some ⟨l.blk, x, none⟩) 0 0, ?_, .zero _ _ _ l e0⟩
              simp [Instr.sliceAt, Instr.slice, run_underlying hu, h1, hsz]
            | opn b o n c l e0 hc1 hc2 => exact absurd rfl hne
            | opnEnd b o x l e0 hc1 => exact absurd rfl hne
          · cases hs
      · cases hs
    · -- nil
      rename_i e len cap hcu
      rw [hcu] at hu
      cases hx
      split at hs
      · rename_i ce l0 hh m hce hb
        have hsz := run_sizeOf' ok hce w
        obtain ⟨h1, h2, h3, h4, h5⟩ := bnds_sound (P := E.P) (isS := true) hb (Nat.le_refl _) hlo hhi hmx w
        have e1 : l0 = 0 := by omega
        have e2 : hh = 0 := by omega
        have e3 : m.getD 0 = 0 := by cases m with | none => rfl | some k => have := (h4 k rfl).2; simp; omega
        subst e1 e2
        rw [e3] at hs h1
        simp only [Option.some.injEq] at hs; subst hs
        exact ⟨.slice none 0 0, by simp [Instr.sliceAt, Instr.slice, run_underlying hu, h1, hsz], .sliceNil⟩
      · cases hs
    · -- an array behind a pointer
      rename_i n e a hcu
      rw [hcu] at hu
      split at hs
      · rename_i ce hce hsp
        cases hx with
        | ptr b o l e0 =>
        split at hs
        · rename_i l0 hh m hb
          obtain ⟨h1, h2, h3, h4, h5⟩ := bnds_sound (P := E.P) (isS := false) hb (Nat.le_refl _) hlo hhi hmx w
          refine ⟨_, ?_, mkPart_sound hs e0⟩
          simp [Instr.sliceAt, run_underlying hu, h1, run_sizeOf' ok hce w, Instr.sureAddr]
        · cases hs
      · cases hs
    · cases hs
end
end Go.CS

/- Fields, elements, maps that are looked into. -/
namespace Go.CS
open Go

section
variable {E : Env} {ρ : Rho} {h : H} {w : World}

theorem partV_sound (ok : EnvOk E) {t : TypeId} {cs cs' : List Value} {off : Nat} {v : Value} (hp : partV E t cs off = some v) (r : LRel ρ cs cs') :
    ∃ v', (part t cs'.toArray off).run E.P w = .ok v' w ∧ VRel ρ v v' := by
  unfold partV at hp
  cases hT : E.T.get t with
  | none => simp [hT] at hp
  | some ct =>
    obtain ⟨hu, _⟩ := ok.T _ _ hT
    simp only [hT, cond_eq_ite] at hp
    split at hp
    · rename_i hagg
      simp only [Option.some.injEq] at hp; subst hp
      refine ⟨.agg ((cs'.drop off).take ct.size).toArray, ?_, VRel.mkAgg (by simpa using (r.drop off).take ct.size)⟩
      simp [part, run_isAgg hu, hagg, run_sizeOf' ok hT, List.extract_eq_take_drop]
    · rename_i hagg
      obtain ⟨v', h1, h2⟩ := r.get hp
      refine ⟨v', ?_, h2⟩
      simp [part, run_isAgg hu, hagg, h1]

theorem fieldAddr_sound (ok : EnvOk E) {t : TypeId} {f : Nat} {a a' : Addr} {ct cf : CT} {fs : Array Field} {fd : Field} (hT : E.T.get t = some ct) (hu : ct.u = .struct fs) (hf : fs.toList[f]? = some fd)
    (hF : E.T.get fd.type = some cf) (hz : cf.size ≠ 0) (ha : VRel ρ (.pointer (some a)) (.pointer (some a'))) :
    ∃ v', (Instr.fieldAt t (.pointer (some a')) f).run E.P w = .ok v' w ∧ VRel ρ (.pointer (some (addA a fd.offset))) v' := by
  obtain ⟨hu', _⟩ := ok.T _ _ hT
  rw [hu] at hu'
  cases ha with
  | ptr b o l e =>
    have hf' : fs[f]? = some fd := by simpa using hf
    refine ⟨.pointer (some ⟨l.blk, l.base + (o + fd.offset), none⟩), ?_, .ptr _ _ l e⟩
    simp [Instr.fieldAt, run_underlying hu', hf', Instr.sureAddr, fieldPlace, run_sizeOf' ok hF, hz, addr_add, Nat.add_assoc]

theorem index_slice_sound (ok : EnvOk E) {t e : TypeId} {ct ce : CT} {k : IntKind} {i len cap : Nat} {a : Addr} {x' : Value} (hT : E.T.get t = some ct) (hu : ct.u = .slice e) (hE : E.T.get e = some ce) (hi : i < len)
    (hx : VRel ρ (.slice (some a) len cap) x') : ∃ v', (Instr.indexAt t x' (.int k (i : Int))).run E.P w = .ok v' w ∧ VRel ρ (.pointer (some (addA a (i * ce.size)))) v' := by
  obtain ⟨hu', _⟩ := ok.T _ _ hT
  rw [hu] at hu'
  cases hx with
  | slice b o n c l e0 hc =>
    exact ⟨.pointer (some ⟨l.blk, l.base + (o + i * ce.size), none⟩), by simp [Instr.indexAt, asIntOf, run_underlying hu', hi, run_sizeOf' ok hE, addr_add, Nat.add_assoc], .ptr _ _ l e0⟩
  | opn b o n c l e0 hc1 hc2 =>
    exact ⟨.pointer (some ⟨l.blk, l.base + (o + i * ce.size), none⟩), by simp [Instr.indexAt, asIntOf, run_underlying hu', hi, run_sizeOf' ok hE, addr_add, Nat.add_assoc], .ptr _ _ l e0⟩
  | opnEnd => omega
  | zero => omega

theorem index_array_sound (ok : EnvOk E) {t e : TypeId} {ct ce : CT} {k : IntKind} {i len : Nat} {a : Addr} {x' : Value} (hT : E.T.get t = some ct) (hu : ct.u = .array len e) (hE : E.T.get e = some ce) (hi : i < len)
    (hx : VRel ρ (.pointer (some a)) x') : ∃ v', (Instr.indexAt t x' (.int k (i : Int))).run E.P w = .ok v' w ∧ VRel ρ (.pointer (some (addA a (i * ce.size)))) v' := by
  obtain ⟨hu', _⟩ := ok.T _ _ hT
  rw [hu] at hu'
  cases hx with
  | ptr b o l e0 =>
    exact ⟨.pointer (some ⟨l.blk, l.base + (o + i * ce.size), none⟩), by simp [Instr.indexAt, asIntOf, run_underlying hu', hi, run_sizeOf' ok hE, addr_add, Nat.add_assoc, Instr.sureAddr], .ptr _ _ l e0⟩

/-! ### maps -/

def KeysSame (es es' : List MapEntry) : Prop := es.length = es'.length ∧ ∀ (i : Nat) (e e' : MapEntry), es[i]? = some e → es'[i]? = some e' → e'.key = e.key

theorem KeysSame.cons {e e' : MapEntry} {es es' : List MapEntry} (k : KeysSame (e :: es) (e' :: es')) : e'.key = e.key ∧ KeysSame es es' :=
  ⟨k.2 0 e e' (by simp) (by simp), by have := k.1; simpa using this, fun i x y hx hy => k.2 (i + 1) x y (by simpa using hx) (by simpa using hy)⟩

/-- what a search has found, in another list with the same keys -/
def Hit (es es' : List MapEntry) (i : Nat) : Option (Nat × Value) → Option (Nat × Value) → Prop
  | none, r => r = none
  | some (j, v), r => ∃ e e', i ≤ j ∧ es[j - i]? = some e ∧ es'[j - i]? = some e' ∧ v = e.val ∧ r = some (j, e'.val)

theorem Hit.shift {e e' : MapEntry} {es es' : List MapEntry} {i : Nat} {r r' : Option (Nat × Value)} (h : Hit es es' (i + 1) r r') : Hit (e :: es) (e' :: es') i r r' := by
  cases r with
  | none => exact h
  | some p =>
    obtain ⟨j, v⟩ := p
    obtain ⟨a, b, h1, h2, h3, h4, h5⟩ := h
    refine ⟨a, b, by omega, ?_, ?_, h4, h5⟩
    · rw [show j - i = (j - (i + 1)) + 1 by omega]; simpa using h2
    · rw [show j - i = (j - (i + 1)) + 1 by omega]; simpa using h3

theorem findNow_hit {d : TypeDesc} {k : Value} : ∀ (es es' : List MapEntry) (i : Nat), KeysSame es es' →
    (∀ r, Instr.findNow d k es i = some r → ∃ r', Instr.findNow d k es' i = some r' ∧ Hit es es' i r r') ∧ (Instr.findNow d k es i = none → Instr.findNow d k es' i = none) := by
  intro es
  induction es with
  | nil =>
    intro es' i hk
    have : es' = [] := by have := hk.1; simp at this; exact List.length_eq_zero_iff.1 this.symm
    subst this
    exact ⟨fun r hr => by simp only [Instr.findNow, Option.some.injEq] at hr; subst hr; exact ⟨none, rfl, rfl⟩, fun h => by simp [Instr.findNow] at h⟩
  | cons e es ih =>
    intro es' i hk
    cases es' with
    | nil => have := hk.1; simp at this
    | cons e' es' =>
      obtain ⟨h1, h2⟩ := hk.cons
      obtain ⟨g1, g2⟩ := ih es' (i + 1) h2
      simp only [Instr.findNow, h1]
      cases hs : Instr.sameNow d k e.key with
      | none => exact ⟨fun r hr => by simp at hr, fun _ => rfl⟩
      | some b =>
        cases b with
        | true =>
          refine ⟨fun r hr => ?_, fun h => by simp at h⟩
          simp only [Option.some.injEq] at hr; subst hr
          exact ⟨_, rfl, e, e', Nat.le_refl _, by simp, by simp, rfl, rfl⟩
        | false =>
          refine ⟨fun r hr => ?_, g2⟩
          obtain ⟨r', q1, q2⟩ := g1 r hr
          exact ⟨r', q1, q2.shift⟩

theorem pureRun_bind {α β : Type} {P : Program} (x : Sem α) (f : α → Sem β) (r : β) (h : pureRun P (x >>= f) = some r) : ∃ a, pureRun P x = some a ∧ pureRun P (f a) = some r := by
  induction x with
  | pure a => exact ⟨a, rfl, h⟩
  | program k ih => exact ih P h
  | load m a k ih => exact absurd h (by simp [bind, Sem.bind, pureRun])
  | store m a v k ih => exact absurd h (by simp [bind, Sem.bind, pureRun])
  | new o k ih => exact absurd h (by simp [bind, Sem.bind, pureRun])
  | shape r k ih => exact absurd h (by simp [bind, Sem.bind, pureRun])
  | freeze a n k ih => exact absurd h (by simp [bind, Sem.bind, pureRun])
  | frozen a k ih => exact absurd h (by simp [bind, Sem.bind, pureRun])
  | getObj r k ih => exact absurd h (by simp [bind, Sem.bind, pureRun])
  | setObj r o k ih => exact absurd h (by simp [bind, Sem.bind, pureRun])
  | choose q k ih => exact absurd h (by simp [bind, Sem.bind, pureRun])
  | sys c k ih => exact absurd h (by simp [bind, Sem.bind, pureRun])
  | mark m k ih => exact absurd h (by simp [bind, Sem.bind, pureRun])
  | halt x => exact absurd h (by simp [bind, Sem.bind, pureRun])

theorem findAsking_hit {P : Program} {kt : TypeId} {k : Value} : ∀ (es es' : List MapEntry) (i : Nat), KeysSame es es' → ∀ r, pureRun P (Instr.findAsking kt k es i) = some r →
    ∃ r', (∀ w, (Instr.findAsking kt k es' i).run P w = .ok r' w) ∧ Hit es es' i r r' := by
  intro es
  induction es with
  | nil =>
    intro es' i hk r hr
    have : es' = [] := by have := hk.1; simp at this; exact List.length_eq_zero_iff.1 this.symm
    subst this
    have : r = none := by
      have := pureRun_sound _ r hr ⟨#[], fun _ _ => 0, 0, default, #[]⟩
      simp [Instr.findAsking] at this; exact this.symm
    subst this
    exact ⟨none, fun w => by simp [Instr.findAsking], rfl⟩
  | cons e es ih =>
    intro es' i hk r hr
    cases es' with
    | nil => have := hk.1; simp at this
    | cons e' es' =>
      obtain ⟨h1, h2⟩ := hk.cons
      rw [Instr.findAsking] at hr
      obtain ⟨b, q1, q2⟩ := pureRun_bind _ _ _ hr
      cases b with
      | true =>
        have q2' := pureRun_sound _ _ q2
        have hr' : r = some (i, e.val) := by
          have := q2' ⟨#[], fun _ _ => 0, 0, default, #[]⟩
          simp at this; exact this.symm
        subst hr'
        refine ⟨some (i, e'.val), fun w => ?_, e, e', Nat.le_refl _, by simp, by simp, rfl, rfl⟩
        rw [Instr.findAsking, h1, Sem.run_bind, pureRun_sound _ _ q1 w]
        simp
      | false =>
        obtain ⟨r', g1, g2⟩ := ih es' (i + 1) h2 r (by simpa using q2)
        refine ⟨r', fun w => ?_, g2.shift⟩
        rw [Instr.findAsking, h1, Sem.run_bind, pureRun_sound _ _ q1 w]
        simpa using g1 w

theorem keys_same {es es' : Array MapEntry} (hc : keysClosed es.toList = true) (hs : es.size = es'.size) (he : ∀ (i : Nat) (e e' : MapEntry), es[i]? = some e → es'[i]? = some e' → EntRel ρ e e') : KeysSame es.toList es'.toList := by
  refine ⟨by simpa using hs, fun i e e' h1 h2 => ?_⟩
  have hcl : ∀ (l : List MapEntry), keysClosed l = true → ∀ e ∈ l, closed 4 e.key = true := by
    intro l
    induction l with
    | nil => intro _ e he; simp at he
    | cons a l ih =>
      intro h e he
      simp only [keysClosed, cond_eq_ite] at h
      split at h
      · rename_i h0
        rcases List.mem_cons.1 he with rfl | hm
        · exact h0
        · exact ih h e hm
      · cases h
  obtain ⟨_, hkr, _⟩ := he i e e' (by simpa using h1) (by simpa using h2)
  exact closed_eq 4 _ _ (hcl _ hc e (List.mem_iff_getElem?.2 ⟨i, h1⟩)) hkr

theorem findKey_sound {kt : TypeId} {k k' : Value} {es es' : Array MapEntry} {empty : Bool} {r : Option (Nat × Value)} (hf : CS.findKey E kt k es empty = some r) (hk : VRel ρ k k')
    (hs : es.size = es'.size) (he : ∀ (i : Nat) (e e' : MapEntry), es[i]? = some e → es'[i]? = some e' → EntRel ρ e e') :
    k' = k ∧ (∀ w, (Instr.checkKey empty 10000 kt k).run E.P w = .ok () w) ∧
    (match r with
      | none => ∀ w, (Instr.findKey kt k es'.toList).run E.P w = .ok none w
      | some (i, v) => ∃ e e', es[i]? = some e ∧ es'[i]? = some e' ∧ v = e.val ∧ ∀ w, (Instr.findKey kt k es'.toList).run E.P w = .ok (some (i, e'.val)) w) := by
  unfold CS.findKey at hf
  simp only [cond_eq_ite] at hf
  split at hf
  · rename_i hc
    simp only [Bool.and_eq_true] at hc
    have hkk := closed_eq 4 _ _ hc.1 hk
    have ks := keys_same hc.2 hs he
    split at hf
    · rename_i r0 hp
      obtain ⟨u, p1, p2⟩ := pureRun_bind _ _ _ hp
      refine ⟨hkk, fun w => pureRun_sound _ _ p1 w, ?_⟩
      have hit : ∃ r', (∀ w, (Instr.findKey kt k es'.toList).run E.P w = .ok r' w) ∧ Hit es.toList es'.toList 0 r0 r' := by
        unfold Instr.findKey at p2 ⊢
        obtain ⟨d, d1, d2⟩ := pureRun_bind _ _ _ p2
        cases hfn : Instr.findNow d k es.toList 0 with
        | some r1 =>
          simp only [hfn] at d2
          have : r1 = r0 := by simpa [pureRun, Pure.pure] using d2
          subst this
          obtain ⟨r', g1, g2⟩ := (findNow_hit es.toList es'.toList 0 ks).1 _ hfn
          exact ⟨r', fun w => by rw [Sem.run_bind, pureRun_sound _ _ d1 w]; simp [g1], g2⟩
        | none =>
          simp only [hfn] at d2
          obtain ⟨r', g1, g2⟩ := findAsking_hit es.toList es'.toList 0 ks _ d2
          have := (findNow_hit es.toList es'.toList 0 ks).2 hfn
          exact ⟨r', fun w => by rw [Sem.run_bind, pureRun_sound _ _ d1 w]; simp [this, g1], g2⟩
      obtain ⟨r', g1, g2⟩ := hit
      cases r0 with
      | none =>
        simp only [Option.some.injEq] at hf; subst hf
        have : r' = none := g2
        subst this
        exact g1
      | some p =>
        obtain ⟨i, v⟩ := p
        obtain ⟨e, e', _, q1, q2, q3, q4⟩ := g2
        simp only [Nat.sub_zero] at q1 q2
        simp only [q1, Option.some.injEq] at hf
        subst hf
        exact ⟨e, e', by simpa using q1, by simpa using q2, rfl, by rw [← q4]; exact g1⟩
    · cases hf
  · cases hf

theorem lookup_sound (ok : EnvOk E) (i : Inv E ρ h w.heap) {t : TypeId} {m k m' k' v : Value} {c : Bool} (hm : VRel ρ m m') (hk : VRel ρ k k') (hl : lookupOp E h t m k c = some v) :
    ∃ v', (Instr.lookup t m' k' c).run E.P w = .ok v' w ∧ VRel ρ v v' := by
  unfold lookupOp at hl
  cases hT : E.T.get t with
  | none => simp [hT] at hl
  | some ct =>
    obtain ⟨hu, _⟩ := ok.T _ _ hT
    simp only [hT] at hl
    split at hl
    · rename_i kt et hcu
      rw [hcu] at hu
      cases hE : E.T.get et with
      | none => simp [hE] at hl
      | some ce =>
        simp only [hE] at hl
        split at hl
        · rename_i es hes
          have hex : ∃ es' : Array MapEntry, ((m' = .map none ∧ es' = #[]) ∨ ∃ b clock, m' = .map (some b) ∧ w.heap[b]? = some (.map es' clock)) ∧ es.size = es'.size ∧
              ∀ (i : Nat) (e e' : MapEntry), es[i]? = some e → es'[i]? = some e' → EntRel ρ e e' := by
            cases hm with
            | mapNil => simp only [Option.some.injEq] at hes; subst hes; exact ⟨#[], .inl ⟨rfl, rfl⟩, rfl, fun i e e' h => by simp at h⟩
            | map r l e0 =>
              dsimp only at hes
              split at hes
              · rename_i es0 clock hob
                simp only [Option.some.injEq] at hes; subst hes
                obtain ⟨hb, es', hx, h1, h2⟩ := i.obj r _ l hob e0
                exact ⟨es', .inr ⟨_, _, rfl, hx⟩, h1, h2⟩
              · cases hes
            | _ => simp at hes
          obtain ⟨es', h1, h2, h3⟩ := hex
          have hemp : es'.isEmpty = es.toList.isEmpty := by
            rw [Bool.eq_iff_iff]
            simp only [Array.isEmpty_iff_size_eq_zero, List.isEmpty_iff_length_eq_zero, Array.length_toList, h2]
          have run : ∀ (k : Value) (q : Option (Nat × Value)) (u : Value), (∀ w, (Instr.checkKey es.toList.isEmpty 10000 kt k).run E.P w = .ok () w) → (∀ w, (Instr.findKey kt k es'.toList).run E.P w = .ok q w) →
              (match q with | some (_, v) => u = v | none => (zeroValue et).run E.P w = .ok u w) →
              (Instr.lookup t m' k c).run E.P w = .ok (if c then .tuple #[u, .bool q.isSome] else u) w := by
            intro k q u hck hfk hz
            unfold Instr.lookup
            rcases h1 with ⟨rfl, rfl⟩ | ⟨b, clock, rfl, hx⟩
            · simp only [Sem.run_bind, run_underlying hu, Result.andThen_ok, Sem.run_pure, hemp, hck, hfk]
              cases q with
              | none => simp only at hz; simp [hz]
              | some p => obtain ⟨j, v⟩ := p; simp only at hz; subst hz; simp
            · have hg : (getObj b).run E.P w = .ok (.map es' clock) w := by simp [getObj, Sem.run, hx]
              simp only [Sem.run_bind, run_underlying hu, Result.andThen_ok, Sem.run_pure, hg, hemp, hck, hfk]
              cases q with
              | none => simp only at hz; simp [hz]
              | some p => obtain ⟨j, v⟩ := p; simp only at hz; subst hz; simp
          split at hl
          · rename_i j v0 hf
            obtain ⟨hkk, hck, e, e', q1, q2, q3, q4⟩ := findKey_sound hf hk h2 h3
            subst hkk
            have hv := (h3 j e e' q1 q2).2.2
            simp only [Option.some.injEq] at hl
            subst hl q3
            refine ⟨if c then .tuple #[e'.val, .bool true] else e'.val, run _ _ _ hck q4 rfl, ?_⟩
            · cases c
              · simpa using hv
              · simp only [cond_true, if_true]; exact VRel.mkTuple (.cons hv (.cons (.bool _) .nil))
          · rename_i hf
            obtain ⟨hkk, hck, q4⟩ := findKey_sound hf hk h2 h3
            subst hkk
            split at hl
            · rename_i z hz
              simp only [Option.some.injEq] at hl
              subst hl
              have hzr := closed_refl (ρ := ρ) 4 z (ok.Z _ _ _ hE hz)
              refine ⟨if c then .tuple #[z, .bool false] else z, run _ _ _ hck q4 (run_zero ok hE hz w), ?_⟩
              · cases c
                · simpa using hzr
                · simp only [cond_true, if_true]; exact VRel.mkTuple (.cons hzr (.cons (.bool _) .nil))
            · cases hl
          · cases hl
        · cases hl
    · cases hl
end
end Go.CS

