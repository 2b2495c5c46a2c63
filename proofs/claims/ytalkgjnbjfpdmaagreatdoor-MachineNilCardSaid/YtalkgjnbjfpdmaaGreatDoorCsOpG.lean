/- Every operation that leaves memory alone. -/
import Derived.Test.YtalkgjnbjfpdmaaGreatDoorCsOpA
import Derived.IntWalk
import Derived.Lib.UnsafeStr
set_option linter.unusedVariables false
set_option linter.unusedSimpArgs false
set_option linter.unusedSectionVars false
set_option linter.deprecated false

namespace Go.CS
open Go

section
variable {E : Env} {ρ : Rho} {h : H} {w : World}

theorem closed_list_eq {n : Nat} : ∀ (l l' : List Value), allB (closed n) l = true → LRel ρ l l' → l' = l := by
  intro l
  induction l with
  | nil => intro l' _ r; exact r.nil_inv
  | cons a l ih2 =>
    intro l' h r
    simp only [allB, cond_eq_ite, Bool.if_false_right, Bool.and_eq_true, decide_eq_true_eq] at h
    obtain ⟨v', t, rfl, h1, h2⟩ := r.cons_inv
    rw [closed_eq _ _ _ h.1 h1, ih2 _ h.2 h2]

theorem len_sound (ok : EnvOk E) (i : Inv E ρ h w.heap) {ts : Array TypeId} {t ty : TypeId} {x x' v : Value} {rest : List Value} (ht : ts[0]? = some t) (hx : VRel ρ x x') (hl : lenOp E h t x = some v) :
    (Builtin.len_ ts ty ⟨x' :: rest⟩).run E.P w = .ok v w ∧ closed 1 v = true := by
  unfold lenOp at hl
  cases hT : E.T.get t with
  | none => simp [hT] at hl
  | some ct =>
    obtain ⟨hu, _⟩ := ok.T _ _ hT
    simp only [hT] at hl
    split at hl
    · rename_i s hcu
      rw [hcu] at hu
      cases hx
      simp only [Option.some.injEq] at hl; subst hl
      have : s.data.toList.length = s.size := Array.length_toList
      refine ⟨?_, rfl⟩
      simp [Builtin.len_, ht, run_underlying hu, goInt]
    · rename_i n e hcu
      rw [hcu] at hu
      simp only [Option.some.injEq] at hl; subst hl
      refine ⟨?_, rfl⟩
      simp [Builtin.len_, ht, run_underlying hu, goInt]
    · rename_i e a n c hcu
      rw [hcu] at hu
      simp only [Option.some.injEq] at hl; subst hl
      refine ⟨?_, rfl⟩
      cases hx <;> simp [Builtin.len_, ht, run_underlying hu, goInt]
    · rename_i k e hcu
      rw [hcu] at hu
      cases hx
      simp only [Option.some.injEq] at hl; subst hl
      refine ⟨?_, rfl⟩
      simp [Builtin.len_, ht, run_underlying hu, goInt]
    · rename_i k e r hcu
      rw [hcu] at hu
      cases hx with
      | map r l e0 =>
      split at hl
      · rename_i es clock hob
        simp only [Option.some.injEq] at hl; subst hl
        obtain ⟨hb, es', hp, h1, h2⟩ := i.obj r _ l hob e0
        have hg : (getObj l.blk).run E.P w = .ok (.map es' clock) w := by simp [getObj, Sem.run, hp]
        refine ⟨?_, rfl⟩
        simp [Builtin.len_, ht, run_underlying hu, goInt, hg, h1]
      · cases hl
    · rename_i a hcu
      rw [hcu] at hu
      split at hl
      · rename_i ca hca
        split at hl
        · rename_i n e2 hk
          simp only [Option.some.injEq] at hl; subst hl
          have hue := (ok.T _ _ hca).1
          rw [hk] at hue
          refine ⟨?_, rfl⟩
          simp [Builtin.len_, ht, run_underlying hu, run_underlying hue, goInt]
        · cases hl
      · cases hl
    · cases hl

theorem arr_head {α : Type} {a : Array α} {x : α} {l : List α} (h : a.toList = x :: l) : a = ⟨x :: l⟩ := by
  cases a with | mk k => simp at h; subst h; rfl

theorem quietBuiltin_sound (ok : EnvOk E) (i : Inv E ρ h w.heap) {b : Builtin} {ts : Array TypeId} {ty : TypeId} {consts : Array Bool} {args : List Value} {args' : Array Value} {v : Value}
    (hq : quietBuiltin E h b ts.toList ty args = some v) (hr : LRel ρ args args'.toList) :
    (Go.builtin b ts ty consts args').run E.P w = .ok (.value v) w ∧ closed 1 v = true := by
  cases b <;> simp only [quietBuiltin, reduceCtorEq] at hq
  case len =>
    split at hq
    · rename_i t tl x xl hts
      obtain ⟨x', r, he, h1, h2⟩ := hr.cons_inv
      have ha := arr_head he
      subst ha
      have h0 : ts[0]? = some t := by rw [← Array.getElem?_toList, hts]; rfl
      obtain ⟨g1, g2⟩ := len_sound ok i (rest := r) (ty := ty) h0 h1 hq
      exact ⟨by simp [Go.builtin, g1], g2⟩
    · cases hq
  case cap =>
    split at hq
    · rename_i t tl a n c hts
      split at hq
      · rename_i ct hT
        obtain ⟨hu, _⟩ := ok.T _ _ hT
        split at hq
        · rename_i e hcu
          rw [hcu] at hu
          simp only [cond_eq_ite, nbeq, decide_eq_true_eq] at hq
          split at hq
          · cases hq
          · rename_i hne
            simp only [Option.some.injEq] at hq; subst hq
            obtain ⟨x', r, he, h1, h2⟩ := hr.cons_inv
            have := h2.nil_inv; subst this
            have ha := arr_head he
            subst ha
            have h0 : ts[0]? = some t := by rw [← Array.getElem?_toList, hts]; rfl
            refine ⟨?_, rfl⟩
            cases h1 with
            | sliceNil => simp [Go.builtin, Builtin.cap_, h0, run_underlying hu, goInt]
            | slice => simp [Go.builtin, Builtin.cap_, h0, run_underlying hu, goInt]
            | zero => simp [Go.builtin, Builtin.cap_, h0, run_underlying hu, goInt]
            | opn => exact absurd rfl hne
            | opnEnd => exact absurd rfl hne
        · cases hq
      · cases hq
    · cases hq
  case min | max =>
    simp only [cond_eq_ite] at hq
    split at hq
    · rename_i hc
      have : args'.toList = args := closed_list_eq _ _ hc hr
      have ha : args' = ⟨args⟩ := by apply Array.ext'; simpa using this
      subst ha
      split at hq
      · rename_i v0 hp
        split at hq
        · rename_i hc2
          simp only [Option.some.injEq] at hq; subst hq
          have := pureRun_sound _ _ hp w
          exact ⟨by simp [Go.builtin, this], hc2⟩
        · cases hq
      · cases hq
    · cases hq

theorem qop_sound (ok : EnvOk E) {nt : Nat} {s : Tr Value} {a : Act} (g : GOk E ρ) (tr : TRel ρ nt s a.tmps) (i : Inv E ρ h w.heap) {o : Oper} {v : Value} (hq : qop E s h o = some v) :
    ∃ v', (execOp a.eval o).run E.P w = .ok (.value v') w ∧ VRel ρ v v' := by
  have one : ∀ {x : Operand} {u : Value}, ev E s x = some u → VRel ρ u (a.eval x) := fun hx => ev_sound g tr hx
  obtain ⟨dst, op, type, pos, after, guard⟩ := o
  cases op <;> simp only [qop, reduceCtorEq] at hq
  case move x | assign x => exact ⟨_, by simp [execOp], one hq⟩
  case pick c x y =>
    split at hq
    · rename_i hc
      have := one hc
      obtain hb : a.eval c = .bool true := by generalize a.eval c = z at this; cases this; rfl
      exact ⟨_, by simp [execOp, hb, asBool], one hq⟩
    · rename_i hc
      have := one hc
      obtain hb : a.eval c = .bool false := by generalize a.eval c = z at this; cases this; rfl
      exact ⟨_, by simp [execOp, hb, asBool], one hq⟩
    · cases hq
  case build t parts =>
    split at hq
    · rename_i ct ps hT hps
      split at hq
      · rename_i z hz
        obtain ⟨h1, h2⟩ := pairs_sound g tr _ _ hps
        obtain ⟨v', g1, g2⟩ := build_sound ok (w := w) (ps' := parts.map fun p => (p.1, a.eval p.2)) hT hz hq (by rw [h1]; simp) (by simpa [Function.comp_def] using h2)
        exact ⟨v', by simp [execOp, g1], g2⟩
      · cases hq
    · cases hq
  case load t x =>
    split at hq
    · rename_i ad hx
      have hr := one hx
      obtain ⟨ad', he⟩ : ∃ ad', a.eval x = .pointer (some ad') := by generalize a.eval x = z at hr; cases hr; exact ⟨_, rfl⟩
      rw [he] at hr
      obtain ⟨v', g1, g2⟩ := loadVar_sound ok i hq hr
      exact ⟨v', by simp [execOp, he, Instr.loadAt, Instr.sureAddr, g1], g2⟩
    · cases hq
  case nilCheck x =>
    split at hq
    · rename_i ad hx
      simp only [Option.some.injEq] at hq; subst hq
      have hr := one hx
      obtain ⟨ad', he⟩ : ∃ ad', a.eval x = .pointer (some ad') := by generalize a.eval x = z at hr; cases hr; exact ⟨_, rfl⟩
      rw [he] at hr
      exact ⟨_, by simp [execOp, he], hr⟩
    · rename_i f b c hx
      simp only [Option.some.injEq] at hq; subst hq
      have hr := one hx
      obtain ⟨b', c', he⟩ : ∃ b' c', a.eval x = .func (.func f) b' c' := by generalize a.eval x = z at hr; cases hr; exact ⟨_, _, rfl⟩
      rw [he] at hr
      exact ⟨_, by simp [execOp, he], hr⟩
    · cases hq
  case binOp op t x y yt =>
    split at hq
    · rename_i u1 u2 hx hy
      obtain ⟨v', g1, g2⟩ := binop_sound ok i (ox := x) (oy := y) (one hx) (one hy) hq
      refine ⟨v', ?_, g2⟩
      have : (execOp a.eval { dst, op := .binOp op t x y yt, type, pos, after, guard }) = (do pure (.value (← (do eqGuard op t x y (a.eval x) (a.eval y); Go.binOp op t (a.eval x) (a.eval y) : Sem Value))) : Sem Next) := rfl
      rw [this, Sem.run_bind, g1]; rfl
    · cases hq
  case unOp op t x =>
    split at hq
    · rename_i b hx
      simp only [Option.some.injEq] at hq; subst hq
      have hr := one hx
      obtain he : a.eval x = .bool b := by generalize a.eval x = z at hr; cases hr; rfl
      exact ⟨_, by simp [execOp, he, Op.unary], .bool _⟩
    · rename_i k n hx
      simp only [Option.some.injEq] at hq; subst hq
      have hr := one hx
      obtain he : a.eval x = .int k n := by generalize a.eval x = z at hr; cases hr; rfl
      exact ⟨_, by simp [execOp, he, Op.unary, Op.intArith], .int _ _⟩
    · rename_i k n hx
      have hr := one hx
      obtain he : a.eval x = .int k n := by generalize a.eval x = z at hr; cases hr; rfl
      split at hq
      · rename_i k2 n2 hp
        simp only [Option.some.injEq] at hq; subst hq
        have := pureRun_sound _ _ hp w
        exact ⟨_, by simp [execOp, he, this], .int _ _⟩
      · cases hq
    · cases hq
  case convert src dst x =>
    split at hq
    · rename_i u hx
      obtain ⟨v', g1, g2⟩ := conv_sound ok i (one hx) hq
      exact ⟨v', by simp [execOp, g1], g2⟩
    · cases hq
  case makeInterface t x =>
    split at hq
    · rename_i u ct hx hT
      obtain ⟨hu, _⟩ := ok.T _ _ hT
      split at hq
      · cases hq
      · rename_i hni
        simp only [Option.some.injEq] at hq; subst hq
        refine ⟨_, ?_, .iface _ _ _ (one hx)⟩
        simp only [execOp, Instr.makeInterface, Sem.run_bind, run_underlying hu, Result.andThen_ok]
        rfl
    · cases hq
  case makeFunc fn first captured =>
    split at hq
    · rename_i fs cs f hfs hcs
      simp only [Option.some.injEq] at hq; subst hq
      have r1 := evs_sound g tr _ _ hfs
      have r2 := evs_sound g tr _ _ hcs
      have q1 := (show LRel ρ (⟨fs⟩ : Array Value).toList (first.map a.eval).toList by simpa using r1).to_array
      have q2 := (show LRel ρ (⟨cs⟩ : Array Value).toList (captured.map a.eval).toList by simpa using r2).to_array
      exact ⟨_, by simp [execOp, Instr.makeFunc], .func f _ _ _ _ q1.1 q2.1 q1.2 q2.2⟩
    · cases hq
  case slice t x lo hi mx =>
    split at hq
    · rename_i u lov hiv mxv hx hlo hhi hmx
      obtain ⟨v', g1, g2⟩ := slice_sound ok i (one hx) (optEv_sound g tr hlo) (optEv_sound g tr hhi) (optEv_sound g tr hmx) hq
      exact ⟨v', by simp [execOp, g1], g2⟩
    · cases hq
  case fieldAddr t x f =>
    split at hq
    · rename_i ad ct hx hT
      have hr := one hx
      split at hq
      · rename_i fs hcu hsp
        split at hq
        · rename_i fd hfd
          split at hq
          · rename_i cf hcf
            simp only [cond_eq_ite, nbeq, decide_eq_true_eq] at hq
            split at hq
            · cases hq
            · rename_i hz
              simp only [Option.some.injEq] at hq; subst hq
              obtain ⟨ad', he⟩ : ∃ ad', a.eval x = .pointer (some ad') := by generalize a.eval x = z at hr; cases hr; exact ⟨_, rfl⟩
              rw [he] at hr
              obtain ⟨v', g1, g2⟩ := fieldAddr_sound ok (w := w) hT hcu hfd hcf hz hr
              exact ⟨v', by simp [execOp, he, g1], g2⟩
          · cases hq
        · cases hq
      · cases hq
    · cases hq
  case field t x f =>
    split at hq
    · rename_i cs ct hx hT
      have hr := one hx
      split at hq
      · rename_i fs hcu
        split at hq
        · rename_i fd hfd
          obtain ⟨cs', he⟩ : ∃ cs', a.eval x = .agg cs' := by generalize a.eval x = z at hr; cases hr; exact ⟨_, rfl⟩
          rw [he] at hr
          have hl : LRel ρ cs.toList cs'.toList := hr.cells
          obtain ⟨v', g1, g2⟩ := partV_sound ok (w := w) hq hl
          obtain ⟨hu, _⟩ := ok.T _ _ hT
          rw [hcu] at hu
          have hf' : fs[f]? = some fd := by simpa using hfd
          refine ⟨v', ?_, g2⟩
          simp at g1
          simp [execOp, he, Instr.field, run_underlying hu, hf', asAgg, g1]
        · cases hq
      · cases hq
    · cases hq
  case indexAddr t x j =>
    split at hq
    · rename_i u k n ct hx hj hT
      have hjr := one hj
      have hje : a.eval j = .int k (n : Int) := by generalize a.eval j = z at hjr; cases hjr; rfl
      have hr := one hx
      split at hq
      · rename_i e ad len cap hcu
        split at hq
        · rename_i ce hce hsp
          simp only [cond_eq_ite, nblt, decide_eq_true_eq] at hq
          split at hq
          · rename_i hlt
            simp only [Option.some.injEq] at hq; subst hq
            obtain ⟨v', g1, g2⟩ := index_slice_sound ok (w := w) (k := k) hT hcu hce hlt hr
            exact ⟨v', by simp [execOp, hje, g1], g2⟩
          · cases hq
        · cases hq
      · rename_i len e ad hcu
        split at hq
        · rename_i ce hce hsp
          simp only [cond_eq_ite, nblt, decide_eq_true_eq] at hq
          split at hq
          · rename_i hlt
            simp only [Option.some.injEq] at hq; subst hq
            obtain ⟨v', g1, g2⟩ := index_array_sound ok (w := w) (k := k) hT hcu hce hlt hr
            exact ⟨v', by simp [execOp, hje, g1], g2⟩
          · cases hq
        · cases hq
      · cases hq
    · cases hq
  case index t x j =>
    split at hq
    · rename_i u k n ct hx hj hT
      have hjr := one hj
      have hje : a.eval j = .int k (n : Int) := by generalize a.eval j = z at hjr; cases hjr; rfl
      have hr := one hx
      obtain ⟨hu, _⟩ := ok.T _ _ hT
      split at hq
      · rename_i s hcu
        rw [hcu] at hu
        split at hq
        · rename_i b hb
          simp only [Option.some.injEq] at hq; subst hq
          have he : a.eval x = .string s := by generalize a.eval x = z at hr; cases hr; rfl
          have hb' : s[n]? = some b := by
            rw [Array.getElem?_toList] at hb
            exact hb
          exact ⟨_, by simp [execOp, hje, he, Instr.index, asIntOf, run_underlying hu, hb'], .int _ _⟩
        · cases hq
      · rename_i len e cs hcu
        rw [hcu] at hu
        split at hq
        · rename_i ce hce
          simp only [cond_eq_ite, nblt, decide_eq_true_eq] at hq
          split at hq
          · rename_i hlt
            obtain ⟨cs', he⟩ : ∃ cs', a.eval x = .agg cs' := by generalize a.eval x = z at hr; cases hr; exact ⟨_, rfl⟩
            rw [he] at hr
            have hl : LRel ρ cs.toList cs'.toList := hr.cells
            obtain ⟨v', g1, g2⟩ := partV_sound ok (w := w) hq hl
            simp at g1
            exact ⟨v', by simp [execOp, hje, he, Instr.index, asIntOf, run_underlying hu, hlt, run_sizeOf' ok hce, g1], g2⟩
          · cases hq
        · cases hq
      · cases hq
    · cases hq
  case lookup t m k c =>
    split at hq
    · rename_i mv kv hm hk
      obtain ⟨v', g1, g2⟩ := lookup_sound ok i (one hm) (one hk) hq
      exact ⟨v', by simp [execOp, g1], g2⟩
    · cases hq
  case extract x j =>
    split at hq
    · rename_i vs hx
      have hr := one hx
      obtain ⟨vs', he⟩ : ∃ vs', a.eval x = .tuple vs' := by generalize a.eval x = z at hr; cases hr; exact ⟨_, rfl⟩
      rw [he] at hr
      have hl : LRel ρ vs.toList vs'.toList := by cases hr with | tuple _ _ q1 q2 => exact LRel.of_array q1 q2
      obtain ⟨v', g1, g2⟩ := hl.get hq
      have g1' : vs'[j]? = some v' := by simpa using g1
      exact ⟨v', by simp [execOp, he, Instr.extract, g1'], g2⟩
    · cases hq
  case call c =>
    split at hq
    · rename_i b args hc hargs
      have hr := evs_sound g tr _ _ hargs
      have key := fun consts => quietBuiltin_sound (consts := consts) ok i (args' := c.args.map a.eval) hq (by simpa using hr)
      refine ⟨v, ?_, closed_refl 1 _ (key #[]).2⟩
      simp only [execOp, resolve, hc, Sem.run_bind, Sem.run_pure, Result.andThen_ok, invoke]
      exact (key _).1
    · cases hq
end
end Go.CS

/- Operations that make one block. -/
namespace Go.CS
open Go

section
variable {E : Env} {ρ : Rho} {w : World}

/-- what a new block must be -/
def Made (E : Env) (ρ : Rho) (w : World) (ob : CObj) (hd : Handle) (v' : Value) (w1 : World) : Prop :=
  SameOut w w1 ∧ ∃ ob' l, l.blk = w.heap.size ∧ w1.heap = w.heap.push ob' ∧ ∀ id ρ', Ext ρ ρ' → ρ' id = some l → ORel E ρ' ob l (some ob') ∧ VRel ρ' (hd.val id) v'

theorem rowOf_spec {elem : TypeId} {cells : List Value} {opn : Bool} {st : Nat} {ob : CObj} (h : rowOf elem cells opn st = some ob) :
    ob = .row (Tr.ofList cells) cells.length elem opn st ∧ ∀ v ∈ cells, oneCell v = true := by
  unfold rowOf at h
  simp only [cond_eq_ite] at h
  split at h
  · rename_i hc
    simp only [Option.some.injEq] at h
    exact ⟨h.symm, (allB_iff _ _).1 hc⟩
  · cases h

theorem rel_oneCell {cells cells' : List Value} (h : LRel ρ cells cells') (h1 : ∀ v ∈ cells, oneCell v = true) : ∀ v ∈ cells', oneCell v = true := by
  intro v hv
  obtain ⟨j, hj⟩ := List.mem_iff_getElem?.1 hv
  have hjl : j < cells.length := by have := (List.getElem?_eq_some_iff.1 hj).1; have := h.1; omega
  have := h.2 j cells[j] v (by simp [hjl]) hj
  rw [this.oneCell]
  exact h1 _ (List.getElem_mem hjl)

theorem made_row {elem : TypeId} {cells : List Value} {cells' : Array Value} {ob : CObj} (h : rowOf elem cells false 0 = some ob) (hr : LRel ρ cells cells'.toList) {hd : Handle} {v' : Value} {w1 : World}
    (hw : w1.heap = w.heap.push (.cells cells' elem (0, 0)))
    (hv : ∀ id (ρ' : Rho) l, l.blk = w.heap.size → l.base = 0 → ρ' id = some l → VRel ρ' (hd.val id) v') (hs : SameOut w w1 := by exact ⟨rfl, rfl⟩) : Made E ρ w ob hd v' w1 := by
  obtain ⟨rfl, h1⟩ := rowOf_spec h
  have hlen : cells.length = cells'.size := by simpa using hr.1
  refine ⟨hs, _, ⟨w.heap.size, 0, cells.length, cells.length, 0⟩, rfl, hw, fun id ρ' he hid => ⟨⟨cells', (0, 0), rfl, rfl, Nat.le_refl _, by simp [hlen], ?_, ?_, fun _ => ⟨rfl, rfl, hlen.symm⟩, (fun h => by cases h), ?_⟩, hv id ρ' _ rfl rfl hid⟩⟩
  · intro i v hi hg
    rw [Tr.get_ofList] at hg
    obtain ⟨v', g1, g2⟩ := hr.get hg
    exact ⟨v', by simpa using g1, g2.mono he⟩
  · intro i v hi
    exact rel_oneCell hr h1 v (List.mem_iff_getElem?.2 ⟨i, by simpa using hi⟩)
  · exact ⟨fun _ => rfl, fun _ => .inl rfl⟩

theorem ptr_val (w : World) : ∀ id (ρ' : Rho) l, l.blk = w.heap.size → l.base = 0 → ρ' id = some l → VRel ρ' (Handle.ptr.val id) (.pointer (some ⟨w.heap.size, 0, none⟩)) := by
  intro id ρ' l h1 h2 h3
  have := VRel.ptr (ρ := ρ') id 0 l h3
  rw [h1, h2] at this; exact this

theorem slice_val (w : World) (n c : Nat) (hc : c ≠ OPEN) : ∀ id (ρ' : Rho) l, l.blk = w.heap.size → l.base = 0 → ρ' id = some l →
    VRel ρ' ((Handle.slice n c).val id) (.slice (some ⟨w.heap.size, 0, none⟩) n c) := by
  intro id ρ' l h1 h2 h3
  have := VRel.slice (ρ := ρ') id 0 n c l h3 hc
  rw [h1, h2] at this; exact this

theorem repeatL_get {α : Type} (l : List α) (hl : 0 < l.length) : ∀ (n i : Nat), (repeatL l n)[i]? = if i < n * l.length then l[i % l.length]? else none := by
  intro n
  induction n with
  | zero => intro i; simp [repeatL]
  | succ n ih =>
    intro i
    simp only [repeatL, List.getElem?_append, ih]
    by_cases h : i < l.length
    · rw [if_pos h, if_pos (by rw [Nat.succ_mul]; omega), Nat.mod_eq_of_lt h]
    · rw [if_neg h]
      have e : i % l.length = (i - l.length) % l.length := by rw [Nat.mod_eq_sub_mod (by omega)]
      by_cases h2 : i - l.length < n * l.length
      · rw [if_pos h2, if_pos (by rw [Nat.succ_mul]; omega), e]
      · rw [if_neg h2, if_neg (by rw [Nat.succ_mul]; omega)]

theorem zeros_eq (z : Array Value) (n : Nat) (hz : 0 < z.size) : ((Array.range (n * z.size)).map (z[· % z.size]!)).toList = repeatL z.toList n := by
  apply List.ext_getElem?
  intro i
  rw [repeatL_get _ (by simpa using hz)]
  by_cases h : i < n * z.size
  · rw [if_pos (by simpa using h)]
    have : i % z.size < z.size := Nat.mod_lt _ hz
    simp [h, this]
  · rw [if_neg (by simpa using h)]
    simp; omega

theorem freeze_push {w : World} {hp : Array Obj} {c : Array Value} {e : TypeId} (h : w.heap = hp.push (.cells c e (0, 0))) (n k : Nat) (hk : k ≠ 0) :
    (w.freeze ⟨hp.size, n, none⟩ k).heap = hp.push (.cells c e (n, n + k)) := by
  simp only [World.freeze, hk, if_false, h]
  apply Array.ext
  · simp
  · intro i h1 h2
    simp only [Array.size_modify, Array.size_push] at h1
    rw [Array.getElem_modify]
    by_cases hi : hp.size = i
    · subst hi; simp
    · simp [hi, Array.getElem_push, show i < hp.size by omega]

theorem run_newRow' {P : Program} (e : TypeId) (c : Array Value) (w : World) : (Go.newRow e c).run P w = .ok ⟨w.heap.size, 0, none⟩ (w.alloc (.cells c e)) := by simp [Go.newRow]

def byteRow (s : ByteArray) (cap : Nat) : Array Value := (s.data.map fun b => Value.int .u8 b.toNat) ++ Array.replicate (cap - s.size) (.int .u8 0)
theorem byteRow_size (s : ByteArray) (cap : Nat) (h : s.size ≤ cap) : (byteRow s cap).size = cap := by
  have : s.data.size = s.size := rfl
  rw [byteRow, Array.size_append, Array.size_map, Array.size_replicate, this]; omega
theorem bytesVals_eq (s : ByteArray) : bytesVals s.data.toList = (s.data.map fun b => Value.int .u8 b.toNat).toList := by
  simp only [Array.toList_map]
  generalize s.data.toList = l
  induction l with
  | nil => rfl
  | cons b l ih => rw [bytesVals, ih]; rfl
theorem bytesVals_len (s : ByteArray) : (bytesVals s.data.toList).length = s.size := by
  rw [bytesVals_eq, Array.length_toList, Array.size_map]; rfl

theorem run_s2b {P : Program} (e : TypeId) (s : ByteArray) (w : World) : ∃ cap w1, SameOut w w1 ∧ s.size ≤ cap ∧ w1.heap = w.heap.push (.cells (byteRow s cap) e ((byteRow s cap).size, (byteRow s cap).size + 1)) ∧
    (Conv.stringToBytes e s).run P w = .ok (.slice (some ⟨w.heap.size, 0, none⟩) s.size cap) w1 := by
  have hne : (Question.appendCap s.size 0 e).forced = false := rfl
  let cap := (Question.appendCap s.size 0 e).cut (w.tape w.drawn (.appendCap s.size 0 e))
  let w0 : World := { w with drawn := w.drawn + 1 }
  have h1 : (choose (.appendCap s.size 0 e)).run P w = .ok cap w0 := by rw [run_choose, hne]; rfl
  have hp : (w0.alloc (.cells (byteRow s cap) e)).heap[w.heap.size]? = some (.cells (byteRow s cap) e (0, 0)) := Array.getElem?_push_size
  have hsh : (w0.alloc (.cells (byteRow s cap) e)).shape? w.heap.size = some (e, (byteRow s cap).size) := by unfold World.shape?; rw [hp]
  refine ⟨cap, (w0.alloc (.cells (byteRow s cap) e)).freeze ⟨w.heap.size, (byteRow s cap).size, none⟩ 1, ⟨by unfold World.freeze; simp; rfl, by unfold World.freeze; simp; rfl⟩, Nat.le_add_right _ _, freeze_push (hp := w.heap) rfl _ 1 (by decide), ?_⟩
  unfold Conv.stringToBytes
  rw [Sem.run_bind, h1, Result.andThen_ok]
  dsimp only
  rw [Sem.run_bind, run_newRow', Result.andThen_ok, Sem.run_bind]
  have : (markStringish ⟨w0.heap.size, 0, none⟩).run P (w0.alloc (.cells (byteRow s cap) e)) = .ok () ((w0.alloc (.cells (byteRow s cap) e)).freeze ⟨w.heap.size, (byteRow s cap).size, none⟩ 1) := by
    unfold markStringish
    rw [Sem.run_bind, run_shape, Result.andThen_ok]
    rw [show w0.heap.size = w.heap.size from rfl, hsh]
    rfl
  have e2 : (s.data.map fun b => Value.int .u8 b.toNat) ++ Array.replicate (cap - s.size) (.int .u8 0) = byteRow s cap := rfl
  rw [e2, this]
  rfl

theorem aop_sound (ok : EnvOk E) {nt : Nat} {s : Tr Value} {a : Act} (g : GOk E ρ) (tr : TRel ρ nt s a.tmps) {o : Oper} {ob : CObj} {hd : Handle} (ha : aop E s o = some (ob, hd)) :
    ∃ v' w1, (execOp a.eval o).run E.P w = .ok (.value v') w1 ∧ Made E ρ w ob hd v' w1 := by
  have one : ∀ {x : Operand} {u : Value}, ev E s x = some u → VRel ρ u (a.eval x) := fun hx => ev_sound g tr hx
  obtain ⟨dst, op, type, pos, after, guard⟩ := o
  cases op <;> simp only [aop, reduceCtorEq] at ha
  case alloc t =>
    split at ha
    · rename_i ct hT
      split at ha
      · rename_i z hz
        split at ha
        · rename_i r hr
          simp only [Option.some.injEq, Prod.mk.injEq] at ha
          obtain ⟨rfl, rfl⟩ := ha
          refine ⟨.pointer (some ⟨w.heap.size, 0, none⟩), w.alloc (.cells z.cells t), ?_, made_row hr (closed_refl (ρ := ρ) 4 z (ok.Z _ _ _ hT hz)).cells rfl (ptr_val w)⟩
          simp [execOp, Instr.alloc, run_zero ok hT hz, newVar, run_newRow']
        · cases ha
      · cases ha
    · cases ha
  case box t x =>
    split at ha
    · rename_i u hx
      split at ha
      · rename_i r hr
        simp only [Option.some.injEq, Prod.mk.injEq] at ha
        obtain ⟨rfl, rfl⟩ := ha
        refine ⟨.pointer (some ⟨w.heap.size, 0, none⟩), w.alloc (.cells (a.eval x).cells t), ?_, made_row hr (one hx).cells rfl (ptr_val w)⟩
        simp [execOp, Instr.box, newVar, run_newRow']
      · cases ha
    · cases ha
  case buildSlice t len parts =>
    split at ha
    · rename_i ct ps hT hps
      obtain ⟨hu, _⟩ := ok.T _ _ hT
      split at ha
      · rename_i e hcu
        rw [hcu] at hu
        split at ha
        · rename_i ce hce
          simp only [cond_eq_ite, nblt, nbeq, decide_eq_true_eq] at ha
          split at ha
          · cases ha
          · rename_i hsz
            have hs1 := run_sizeOf' ok hce w
            obtain ⟨hp1, hp2⟩ := pairs_sound g tr _ _ hps
            split at ha
            · rename_i hlen
              subst hlen
              split at ha
              · split at ha
                · rename_i r hr
                  simp only [Option.some.injEq, Prod.mk.injEq] at ha
                  obtain ⟨rfl, rfl⟩ := ha
                  have hparts : parts = #[] := by
                    have : parts.toList.map (·.1) = [] := by rw [← hp1]; rfl
                    simpa using this
                  subst hparts
                  refine ⟨.slice (some ⟨w.heap.size, 0, none⟩) 0 0, w.alloc (.cells #[] e), ?_, made_row (cells' := #[]) hr (by simpa using LRel.nil) rfl (slice_val w 0 0 (by decide))⟩
                  have hr0 : Array.range 0 = #[] := Array.eq_empty_of_size_eq_zero (by simp)
                  simp [execOp, Instr.buildSlice, run_underlying hu, hs1, run_newRow', Instr.fill, hr0]
                · cases ha
              · cases ha
            · rename_i hlen
              split at ha
              · rename_i z hz
                split at ha
                · rename_i hc
                  simp only [Bool.and_eq_true, decide_eq_true_eq, Bool.not_eq_true', decide_eq_false_iff_not] at hc
                  split at ha
                  · rename_i l hl
                    split at ha
                    · rename_i r hr
                      simp only [Option.some.injEq, Prod.mk.injEq] at ha
                      obtain ⟨rfl, rfl⟩ := ha
                      have hzc := (closed_refl (ρ := ρ) 4 z (ok.Z _ _ _ hce hz)).cells
                      have hzs : z.cells.size = ce.size := by simpa using hc.1
                      have hrel : LRel ρ (repeatL z.cells.toList len) (repeatL z.cells.toList len) := by
                        clear hl
                        induction len with
                        | zero => exact .nil
                        | succ n ih2 =>
                          by_cases hn : n = 0
                          · subst hn; simpa [repeatL] using hzc
                          · exact hzc.append (ih2 (by have : n * ce.size ≤ (n + 1) * ce.size := Nat.mul_le_mul_right _ (by omega)
                                                      omega) hn)
                      obtain ⟨l', g1, g2, g3⟩ := fill_sound ps (parts.toList.map fun p => (p.1, a.eval p.2)) _ _ l hl (by rw [hp1]; simp) (by simpa [Function.comp_def] using hp2) hrel
                      have hopen : len ≠ OPEN := by
                        intro e0
                        have h1 : 1 ≤ ce.size := by omega
                        have h2 : len * 1 ≤ len * ce.size := Nat.mul_le_mul_left _ h1
                        have : (16777216 : Nat) < 4611686018427387904 := by decide
                        have : OPEN = 4611686018427387904 := rfl
                        omega
                      refine ⟨.slice (some ⟨w.heap.size, 0, none⟩) len len, w.alloc (.cells l'.toArray e), ?_, made_row (cells' := l'.toArray) hr (by simpa using g2) rfl (slice_val w len len hopen)⟩
                      have hze := zeros_eq z.cells len (by omega)
                      rw [hzs] at hze
                      have hze' : (Array.range (len * ce.size)).map (fun x => z.cells[x % ce.size]!) = (repeatL z.cells.toList len).toArray := by
                        apply Array.ext'; simpa using hze
                      have hnz : ¬ (len * ce.size = 0) := by
                        intro e0
                        rcases Nat.mul_eq_zero.1 e0 with h | h <;> omega
                      have hbig : ¬ (len * ce.size > 2 ^ 24) := by simpa using hsz
                      simp only [execOp, Instr.buildSlice, Sem.run_bind, run_underlying hu, Result.andThen_ok, hs1, hbig, if_false, hnz, run_zero ok hce hz, Sem.run_pure, hzs, hze', Array.toList_map, g1]
                      simp [run_newRow']
                    · cases ha
                  · cases ha
                · cases ha
              · cases ha
        · cases ha
      · cases ha
    · cases ha
  case makeSlice t l c =>
    split at ha
    · rename_i k1 ln k2 cn ct hl hc hT
      obtain ⟨hu, _⟩ := ok.T _ _ hT
      split at ha
      · rename_i e hcu
        rw [hcu] at hu
        split at ha
        · rename_i ce hce
          split at ha
          · rename_i z hz
            simp only [cond_eq_ite, nble, nbeq, Bool.and_eq_true, decide_eq_true_eq] at ha
            split at ha
            · rename_i hb
              obtain ⟨⟨⟨⟨h1, h2⟩, h3⟩, h4⟩, h5⟩ := hb
              split at ha
              · rename_i r hr
                simp only [Option.some.injEq, Prod.mk.injEq] at ha
                obtain ⟨rfl, rfl⟩ := ha
                have hzc := (closed_refl (ρ := ρ) 4 z (ok.Z _ _ _ hce hz)).cells
                have hzs : z.cells.size = ce.size := by simpa using h4
                have hrel : ∀ n, LRel ρ (repeatL z.cells.toList n) (repeatL z.cells.toList n) := by
                  intro n
                  induction n with
                  | zero => exact .nil
                  | succ n ih2 => exact hzc.append ih2
                have hle : a.eval l = .int k1 (ln : Int) := by have := one hl; generalize a.eval l = q at this; cases this; rfl
                have hce' : a.eval c = .int k2 (cn : Int) := by have := one hc; generalize a.eval c = q at this; cases this; rfl
                have hM : MAXAPP = 1048576 := rfl
                have wrap : ∀ n : Nat, n ≤ 1048576 → IntKind.i64.wrap (n : Int) = n := by
                  intro n hn
                  exact IntWalk.i64_in _ (by omega)
                obtain ⟨ii, hi, hib, his, hiz⟩ := run_typeInfo' ok hce w
                have hopen : cn ≠ OPEN := by
                  have : OPEN = 4611686018427387904 := rfl
                  omega
                refine ⟨.slice (some ⟨w.heap.size, 0, none⟩) ln cn, w.alloc (.cells (repeatL z.cells.toList cn).toArray e), ?_, made_row (cells' := (repeatL z.cells.toList cn).toArray) hr (by simpa using hrel cn) rfl (slice_val w ln cn hopen)⟩
                have hze := zeros_eq z.cells cn (by omega)
                rw [hzs] at hze
                have hze' : (Array.range (cn * ce.size)).map (fun x => z.cells[x % ce.size]!) = (repeatL z.cells.toList cn).toArray := by
                  apply Array.ext'; simpa using hze
                have b1 : ce.bytes * cn ≤ 1048576 * 1048576 := Nat.mul_le_mul (by omega) (by omega)
                have b2 : ce.bytes * ln ≤ 1048576 * 1048576 := Nat.mul_le_mul (by omega) (by omega)
                have t1 : ¬ ((ce.bytes : Int) * (cn : Int) > 2 ^ 48) := by
                  have : ((ce.bytes * cn : Nat) : Int) ≤ ((1048576 * 1048576 : Nat) : Int) := by exact_mod_cast b1
                  rw [Int.natCast_mul] at this
                  omega
                have t0 : ¬ ((cn : Int) < 0) := by omega
                have t2 : ¬ ((ln : Int) < 0) := by omega
                have t3 : ¬ ((ln : Int) > (cn : Int)) := by omega
                simp only [execOp, Instr.makeSlice, hle, hce', Sem.run_bind, run_underlying hu, Result.andThen_ok, asInt, asIntOf, Sem.run_pure, hi, hib, wrap ln (by omega), wrap cn (by omega), t0, t1, t2, t3, decide_false, Bool.or_false, Bool.or_self, if_false, Bool.false_eq_true, run_askRoom, run_sizeOf' ok hce, Int.toNat_natCast]
                by_cases hn : cn * ce.size = 0
                · have hr0 : Array.range (cn * ce.size) = #[] := Array.eq_empty_of_size_eq_zero (by simp [hn])
                  rw [hr0] at hze'
                  simp only [Array.map_empty] at hze'
                  rw [if_pos hn, hr0]
                  simp [run_newRow', ← hze']
                · rw [if_neg hn]
                  simp only [Sem.run_bind, run_zero ok hce hz, Result.andThen_ok, Sem.run_pure, hzs, hze', run_newRow']
              · cases ha
            · cases ha
          · cases ha
        · cases ha
      · cases ha
    · cases ha
  case makeMap t r =>
    split at ha
    · rename_i k n ct hrv hT
      obtain ⟨hu, _⟩ := ok.T _ _ hT
      split at ha
      · rename_i kt et hcu
        rw [hcu] at hu
        simp only [Option.some.injEq, Prod.mk.injEq] at ha
        obtain ⟨rfl, rfl⟩ := ha
        refine ⟨.map (some w.heap.size), w.alloc (.map #[] 0), ?_, ⟨rfl, rfl⟩, .map #[] 0, ⟨w.heap.size, 0, 0, 0, 0⟩, rfl, rfl, fun id ρ' he hid => ⟨⟨rfl, #[], rfl, rfl, fun i e e' h => by simp at h⟩, .map id _ hid⟩⟩
        cases r with
        | none => simp [execOp, Instr.makeMap]
        | some x =>
          have hx : a.eval x = .int k n := by have := one hrv; generalize a.eval x = q at this; cases this; rfl
          simp [execOp, Instr.makeMap, run_underlying hu, hx, asInt, asIntOf]
      · cases ha
    · cases ha
  case convert src dst x =>
    split at ha
    · rename_i str cs cd hx hs hd
      obtain ⟨hus, _⟩ := ok.T _ _ hs
      obtain ⟨hud, _⟩ := ok.T _ _ hd
      split at ha
      · rename_i e hcs hcd
        rw [hcs] at hus; rw [hcd] at hud
        split at ha
        · rename_i ce hce
          have hue := (ok.T _ _ hce).1
          split at ha
          · rename_i hk
            rw [hk] at hue
            simp only [cond_eq_ite, nbeq, decide_eq_true_eq] at ha
            split at ha
            · rename_i hone
              split at ha
              · rename_i r hr
                simp only [Option.some.injEq, Prod.mk.injEq] at ha
                obtain ⟨rfl, rfl⟩ := ha
                obtain ⟨rfl, hoc⟩ := rowOf_spec hr
                have hxe : a.eval x = .string str := by have := one hx; generalize a.eval x = q at this; cases this; rfl
                have hsz : str.data.toList.length = str.size := Array.length_toList
                obtain ⟨cap, w1, hsame, hcap, hw1, hrun⟩ := run_s2b (P := E.P) e str w
                have hrs := byteRow_size str cap hcap
                refine ⟨.slice (some ⟨w.heap.size, 0, none⟩) str.size cap, w1, by simp [execOp, Go.convert, run_underlying hus, run_underlying hud, run_underlying hue, hxe, hrun], hsame, _,
                  ⟨w.heap.size, 0, str.size, cap, 1⟩, rfl, hw1, fun id ρ' he hid => ⟨⟨byteRow str cap, _, rfl, (bytesVals_len str).symm, by rw [bytesVals_len]; exact hcap, by rw [hrs]; simp, ?_, ?_, (fun h => by cases h), ?_, ?_⟩, ?_⟩⟩
                · intro i v hi hg
                  rw [Tr.get_ofList, bytesVals_eq] at hg
                  refine ⟨v, ?_, ?_⟩
                  · have hi' : i < (str.data.map fun b => Value.int .u8 b.toNat).size := by rw [bytesVals_eq] at hi; simpa using hi
                    simp only [byteRow, Nat.zero_add]
                    rw [Array.getElem?_append_left hi']
                    simpa using hg
                  · have : v ∈ (str.data.map fun b => Value.int .u8 b.toNat).toList := List.mem_iff_getElem?.2 ⟨i, hg⟩
                    simp at this
                    obtain ⟨b, _, rfl⟩ := this
                    exact .int _ _
                · intro i v hi
                  have : v ∈ byteRow str cap := Array.mem_iff_getElem?.2 ⟨i, hi⟩
                  simp only [byteRow, Array.mem_append, Array.mem_map, Array.mem_replicate] at this
                  rcases this with ⟨b, _, rfl⟩ | ⟨_, rfl⟩ <;> rfl
                · intro _ ct' hct'
                  rw [hce] at hct'; cases hct'
                  exact hone.symm
                · exact ⟨(fun h => by cases h), fun _ => .inr (Nat.le_refl _)⟩
                · have := VRel.opn (ρ := ρ') id 0 str.size cap _ hid (by simp) hcap
                  rw [hsz]
                  simpa [Handle.val] using this
              · cases ha
            · cases ha
          · cases ha
        · cases ha
      · cases ha
    · cases ha
end
end Go.CS

/- Stores, maps that are written, iterators. -/
namespace Go.CS
open Go

section
variable {E : Env} {ρ : Rho} {h h' : H} {w : World}

/-- what an operation that writes leaves -/
def Wrote (E : Env) (ρ : Rho) (h h' : H) (w : World) (v v' : Value) (w' : World) : Prop :=
  ∃ ρ', VRel ρ' v v' ∧ Inv E ρ' h' w'.heap ∧ Stp h.nx ρ ρ' h h' w w'

theorem storeVar_sound (ok : EnvOk E) (i : Inv E ρ h w.heap) {t : TypeId} {a a' : Addr} {v v' : Value} (hs : CS.storeVar E h t a v = some h')
    (ha : VRel ρ (.pointer (some a)) (.pointer (some a'))) (hv : VRel ρ v v') : ∃ w', (Go.storeVar t a' v').run E.P w = .ok () w' ∧ Inv E ρ h' w'.heap ∧ Stp h.nx ρ ρ h h' w w' := by
  cases ha with
  | ptr b o l e =>
  unfold CS.storeVar at hs
  cases hT : E.T.get t with
  | none => simp [hT] at hs
  | some ct =>
    simp only [hT, cond_eq_ite, nbeq, decide_eq_true_eq] at hs
    split at hs
    · rename_i hsz
      obtain ⟨w', h1, h2, h3⟩ := storeCells_sound i hs hv.cells e
      refine ⟨w', ?_, h2, h3⟩
      have : v'.cells.size = ct.size := by have := hv.cells.1; simp at this; omega
      simp [Go.storeVar, run_sizeOf' ok hT, this, h1]
    · cases hs

theorem setObj_sound (i : Inv E ρ h w.heap) {b : Nat} {o o' : CObj} {l : Loc} {ob : Obj} (ho : h.objs.get b = some o) (hl : ρ b = some l) (hr : ORel E ρ o' l (some ob)) :
    Inv E ρ ⟨h.objs.set b (some o'), h.nx⟩ (w.heap.setIfInBounds l.blk ob) ∧ Stp h.nx ρ ρ h ⟨h.objs.set b (some o'), h.nx⟩ w { w with heap := w.heap.setIfInBounds l.blk ob } := by
  have hlt := i.blkLt ho hl
  refine i.write (w' := { w with heap := w.heap.setIfInBounds l.blk ob }) ho hl (by simp) (fun x hx => by rw [Array.getElem?_setIfInBounds_ne (Ne.symm hx)]) ?_ ⟨rfl, rfl⟩
  rw [Array.getElem?_setIfInBounds_self_of_lt hlt]
  exact hr

theorem setBlock_run {P : Program} {b : Nat} {es : Array MapEntry} {clock : Nat} (hx : w.heap[b]? = some (.map es clock)) (o : Obj) : (setObj b o).run P w = .ok () { w with heap := w.heap.setIfInBounds b o } := by
  simp [setObj, Sem.run, hx]
theorem getBlock_run {P : Program} {b : Nat} {es : Array MapEntry} {clock : Nat} (hx : w.heap[b]? = some (.map es clock)) : (getObj b).run P w = .ok (.map es clock) w := by
  simp [getObj, Sem.run, hx]

theorem modify_list {α : Type} (a : Array α) (i : Nat) (f : α → α) : (a.modify i f).toList = a.toList.modify i f := by
  apply List.ext_getElem?
  intro j
  simp [List.getElem?_modify]

theorem update_sound (ok : EnvOk E) (i : Inv E ρ h w.heap) {t : TypeId} {m k v m' k' v' : Value} (hu : updateOp E h t m k v = some h') (hm : VRel ρ m m') (hk : VRel ρ k k') (hv : VRel ρ v v') :
    ∃ w', (Instr.mapUpdate t m' k' v').run E.P w = .ok () w' ∧ Inv E ρ h' w'.heap ∧ Stp h.nx ρ ρ h h' w w' := by
  unfold updateOp at hu
  split at hu
  · rename_i ct r hT
    obtain ⟨hut, _⟩ := ok.T _ _ hT
    split at hu
    · rename_i kt et es clock hcu hob
      rw [hcu] at hut
      cases hm with
      | map r l e0 =>
      obtain ⟨hb, es', hx, h1, h2⟩ := i.obj r _ l hob e0
      split at hu
      · rename_i j v0 hf
        obtain ⟨hkk, hck, e, e', q1, q2, q3, q4⟩ := findKey_sound hf hk h1 h2
        subst hkk
        rw [show es.toList[j]? = some e by simpa using q1] at hu
        simp only [cond_eq_ite] at hu
        split at hu
        · rename_i hsb
          simp only [Option.some.injEq] at hu; subst hu
          have hkey : e'.key = e.key := by
            have hf' := hf
            unfold CS.findKey at hf'
            simp only [cond_eq_ite] at hf'
            split at hf'
            · rename_i hc
              simp only [Bool.and_eq_true] at hc
              exact (keys_same hc.2 h1 h2).2 j e e' (by simpa using q1) (by simpa using q2)
            · cases hf'
          obtain ⟨g1, g2⟩ := setObj_sound (o' := .map (setEntry es j k' v) clock) (ob := .map (es'.modify j fun e => { e with key := k', val := v' }) clock) i hob e0 ⟨hb, _, rfl, by simp [setEntry, h1], by
            intro x y y' hy hy'
            have hy : (es.toList.modify j (fun e => { e with key := k', val := v }))[x]? = some y := by simpa [setEntry] using hy
            rw [Array.getElem?_modify] at hy'
            rw [List.getElem?_modify] at hy
            by_cases hjx : j = x
            · subst hjx
              simp only [if_true] at hy hy'
              rw [show es.toList[j]? = some e by simpa using q1] at hy
              rw [q2] at hy'
              simp only [Option.map_some, Option.some.injEq, Functor.map] at hy hy'
              subst hy hy'
              exact ⟨(h2 j e e' q1 q2).1, hk, hv⟩
            · simp only [hjx, if_false] at hy hy'
              have hy2 : es[x]? = some y := by simpa using hy
              exact h2 x y y' hy2 (by simpa using hy')⟩
          refine ⟨{ w with heap := w.heap.setIfInBounds l.blk (.map (es'.modify j fun e => { e with key := k', val := v' }) clock) }, ?_, g1, g2⟩
          have hth : (Instr.keyThatStays e'.key k').run E.P w = .ok k' w := by rw [hkey]; simp [Instr.keyThatStays, hsb]
          unfold Instr.mapUpdate
          simp only [Sem.run_bind, run_underlying hut, Result.andThen_ok, getBlock_run hx, hck, q4, q2, Option.map_some, Option.getD_some, hth]
          exact setBlock_run hx _
        · cases hu
      · rename_i hf
        obtain ⟨hkk, hck, q4⟩ := findKey_sound hf hk h1 h2
        subst hkk
        simp only [Option.some.injEq] at hu; subst hu
        obtain ⟨g1, g2⟩ := setObj_sound (o' := .map ⟨es.toList ++ [{ key := k', val := v, born := clock }]⟩ (clock + 1)) (ob := .map (es'.push { key := k', val := v', born := clock }) (clock + 1)) i hob e0 ⟨hb, _, rfl, by simp [h1], by
          intro x y y' hy hy'
          have hy : (es.toList ++ [{ key := k', val := v, born := clock : MapEntry }])[x]? = some y := by simpa using hy
          rw [List.getElem?_append] at hy
          rw [Array.getElem?_push] at hy'
          by_cases hlt : x < es.toList.length
          · rw [if_pos hlt] at hy
            have : x < es'.size := by simp at hlt; omega
            rw [if_neg (by omega)] at hy'
            exact h2 x y y' (by simpa using hy) hy'
          · rw [if_neg hlt] at hy
            have hx0 : x - es.toList.length = 0 := by
              have := (List.getElem?_eq_some_iff.1 hy).1
              simp at this; simp; omega
            rw [hx0] at hy
            have hxe : x = es'.size := by simp at hlt hx0; omega
            rw [if_pos hxe] at hy'
            simp at hy hy'
            subst hy hy'
            exact ⟨rfl, hk, hv⟩⟩
        refine ⟨{ w with heap := w.heap.setIfInBounds l.blk (.map (es'.push { key := k', val := v', born := clock }) (clock + 1)) }, ?_, g1, g2⟩
        unfold Instr.mapUpdate
        simp only [Sem.run_bind, run_underlying hut, Result.andThen_ok, getBlock_run hx, hck, q4]
        exact setBlock_run hx _
      · cases hu
    · cases hu
  · cases hu

theorem delete_sound (ok : EnvOk E) (i : Inv E ρ h w.heap) {ts : Array TypeId} {t ty : TypeId} {m k m' k' : Value} (ht : ts[0]? = some t) (hu : deleteOp E h t m k = some h') (hm : VRel ρ m m') (hk : VRel ρ k k') :
    ∃ w', (Builtin.delete_ ts ty #[m', k']).run E.P w = .ok (.tuple #[]) w' ∧ Inv E ρ h' w'.heap ∧ Stp h.nx ρ ρ h h' w w' := by
  unfold deleteOp at hu
  split at hu
  · rename_i ct r hT
    obtain ⟨hut, _⟩ := ok.T _ _ hT
    split at hu
    · rename_i kt et es clock hcu hob
      rw [hcu] at hut
      cases hm with
      | map r l e0 =>
      obtain ⟨hb, es', hx, h1, h2⟩ := i.obj r _ l hob e0
      have hemp : es'.isEmpty = es.toList.isEmpty := by
        rw [Bool.eq_iff_iff]
        simp only [Array.isEmpty_iff_size_eq_zero, List.isEmpty_iff_length_eq_zero, Array.length_toList, h1]
      split at hu
      · rename_i j v0 hf
        obtain ⟨hkk, hck, e, e', q1, q2, q3, q4⟩ := findKey_sound hf hk h1 h2
        subst hkk
        simp only [Option.some.injEq] at hu; subst hu
        have her : (es'.eraseIdxIfInBounds j).toList = es'.toList.eraseIdx j := by simp
        have hsz2 : (es'.eraseIdxIfInBounds j).size = (es'.toList.eraseIdx j).length := by rw [← her, Array.length_toList]
        obtain ⟨g1, g2⟩ := setObj_sound (o' := .map ⟨es.toList.eraseIdx j⟩ clock) (ob := .map (es'.eraseIdxIfInBounds j) clock) i hob e0 ⟨hb, _, rfl, by
            rw [hsz2]; simp [List.length_eraseIdx, h1], by
          intro x y y' hy hy'
          have hy : (es.toList.eraseIdx j)[x]? = some y := by simpa using hy
          have hy' : ((es'.eraseIdxIfInBounds j).toList)[x]? = some y' := by rw [Array.getElem?_toList]; exact hy'
          rw [her] at hy'
          rw [List.getElem?_eraseIdx] at hy hy'
          by_cases hlt : x < j
          · rw [if_pos hlt] at hy hy'
            exact h2 x y y' (by simpa using hy) (by simpa using hy')
          · rw [if_neg hlt] at hy hy'
            exact h2 (x + 1) y y' (by simpa using hy) (by simpa using hy')⟩
        refine ⟨{ w with heap := w.heap.setIfInBounds l.blk (.map (es'.eraseIdxIfInBounds j) clock) }, ?_, g1, g2⟩
        unfold Builtin.delete_
        simp only [Array.isEmpty_toList] at hck hemp
        simp [ht, run_underlying hut, getBlock_run hx, hemp, hck, q4, setBlock_run hx]
      · rename_i hf
        obtain ⟨hkk, hck, q4⟩ := findKey_sound hf hk h1 h2
        subst hkk
        simp only [Option.some.injEq] at hu; subst hu
        obtain ⟨g1, g2⟩ := setObj_sound (o' := .map es clock) (ob := .map es' clock) i hob e0 ⟨hb, _, rfl, h1, h2⟩
        refine ⟨{ w with heap := w.heap.setIfInBounds l.blk (.map es' clock) }, ?_, g1, g2⟩
        unfold Builtin.delete_
        simp only [Array.isEmpty_toList] at hck hemp
        simp [ht, run_underlying hut, getBlock_run hx, hemp, hck, q4, setBlock_run hx]
      · cases hu
    · cases hu
  · cases hu

/-! ### iterators -/

theorem newIter (i : Inv E ρ h w.heap) (o : CObj) (ob : Obj) (hr : ∀ (l : Loc), l.base = 0 → l.blk = w.heap.size → ORel E (upd ρ h.nx l) o l (some ob)) :
    Wrote E ρ h ⟨h.objs.set h.nx (some o), h.nx + 1⟩ w (.pointer (some ⟨h.nx, 0, none⟩)) (.pointer (some ⟨w.heap.size, 0, none⟩)) (w.alloc ob) := by
  have h1 : ρ h.nx = none := by
    cases hq : ρ h.nx with
    | none => rfl
    | some l => have := i.dlt _ _ hq; omega
  have h2 : h.objs.get h.nx = none := by
    cases hq : h.objs.get h.nx with
    | none => rfl
    | some l => have := i.lt _ _ hq; omega
  let l : Loc := ⟨w.heap.size, 0, 0, 0, 0⟩
  obtain ⟨g1, g2⟩ := i.alloc h.nx (h.nx + 1) h1 h2 (by omega) (by omega) o ob l rfl (hr l rfl rfl) (w' := w.alloc ob) rfl ⟨rfl, rfl⟩
  exact ⟨upd ρ h.nx l, VRel.ptr h.nx 0 l (upd_self _ _ _), g1, g2⟩

theorem range_sound (ok : EnvOk E) (i : Inv E ρ h w.heap) {t : TypeId} {x x' v : Value} (hx : VRel ρ x x') (hr : rangeOp E h t x = some (v, h')) :
    ∃ v' w', (Instr.range t x').run E.P w = .ok v' w' ∧ Wrote E ρ h h' w v v' w' := by
  unfold rangeOp at hr
  split at hr
  · rename_i ct hT
    obtain ⟨hu, _⟩ := ok.T _ _ hT
    split at hr
    · rename_i s hcu
      rw [hcu] at hu
      cases hx
      simp only [Option.some.injEq, Prod.mk.injEq] at hr
      obtain ⟨rfl, rfl⟩ := hr
      exact ⟨_, w.alloc (.stringIter s 0), by simp [Instr.range, run_underlying hu], newIter i (.siter s 0) _ (fun l h1 h2 => ⟨h1, rfl⟩)⟩
    · rename_i k e hcu
      rw [hcu] at hu
      cases hx
      simp only [Option.some.injEq, Prod.mk.injEq] at hr
      obtain ⟨rfl, rfl⟩ := hr
      exact ⟨_, w.alloc (.mapIter none 0 #[] 0), by simp [Instr.range, run_underlying hu], newIter i (.miter none 0 [] 0) _ (fun l h1 h2 => ⟨h1, rfl⟩)⟩
    · rename_i k e r hcu
      rw [hcu] at hu
      cases hx with
      | map r l e0 =>
      split at hr
      · rename_i es clock hob
        simp only [Option.some.injEq, Prod.mk.injEq] at hr
        obtain ⟨rfl, rfl⟩ := hr
        obtain ⟨hb, es', hp, h1, h2⟩ := i.obj r _ l hob e0
        have hne : r ≠ h.nx := by have := i.lt _ _ hob; omega
        exact ⟨_, w.alloc (.mapIter (some l.blk) clock #[] clock), by simp [Instr.range, run_underlying hu, getBlock_run hp],
          newIter i (.miter (some r) clock [] clock) _ (fun l' h1 h2 => ⟨h1, l, by simp [upd, hne, e0], rfl⟩)⟩
      · cases hr
    · cases hr
  · cases hr

def ELRel (ρ : Rho) : List MapEntry → List MapEntry → Prop
  | [], [] => True
  | a :: l, b :: m => EntRel ρ a b ∧ ELRel ρ l m
  | _, _ => False

theorem ELRel.of : ∀ (l l' : List MapEntry), l.length = l'.length → (∀ (i : Nat) (e e' : MapEntry), l[i]? = some e → l'[i]? = some e' → EntRel ρ e e') → ELRel ρ l l' := by
  intro l
  induction l with
  | nil => intro l' h _; have : l' = [] := by simp at h; exact List.length_eq_zero_iff.1 h.symm
           subst this; trivial
  | cons a l ih =>
    intro l' h he
    cases l' with
    | nil => simp at h
    | cons b m => exact ⟨he 0 a b (by simp) (by simp), ih m (by simpa using h) (fun i e e' h1 h2 => he (i + 1) e e' (by simpa using h1) (by simpa using h2))⟩

theorem ELRel.filter (p : Nat → Bool) : ∀ (l l' : List MapEntry), ELRel ρ l l' → ELRel ρ (l.filter fun e => p e.born) (l'.filter fun e => p e.born) := by
  intro l
  induction l with
  | nil => intro l' h; cases l' with | nil => trivial | cons => exact h.elim
  | cons a l ih =>
    intro l' h
    cases l' with
    | nil => exact h.elim
    | cons b m =>
      obtain ⟨h1, h2⟩ := h
      simp only [List.filter_cons, ← h1.1]
      split
      · exact ⟨h1, ih m h2⟩
      · exact ih m h2

theorem ELRel.all (p : Nat → Bool) : ∀ (l l' : List MapEntry), ELRel ρ l l' → allB (fun e => p e.born) l = l'.all (fun e => p e.born) := by
  intro l
  induction l with
  | nil => intro l' h; cases l' with | nil => rfl | cons => exact h.elim
  | cons a l ih =>
    intro l' h
    cases l' with
    | nil => exact h.elim
    | cons b m =>
      obtain ⟨h1, h2⟩ := h
      simp only [allB, cond_eq_ite, List.all_cons, ← h1.1, ih m h2]
      by_cases hp : p a.born = true <;> simp [hp]

theorem arr_filter_nil {es' : Array MapEntry} {p : MapEntry → Bool} {r : List MapEntry} (h : es'.toList.filter p = r) : es'.filter p = ⟨r⟩ := by
  apply Array.ext'; simpa using h

theorem next_sound (i : Inv E ρ h w.heap) {r : Nat} {isS : Bool} {ty : TypeId} {x' v : Value} (hx : VRel ρ (.pointer (some ⟨r, 0, none⟩)) x') (hn : nextOp h r isS = some (v, h')) :
    ∃ v' w', (Instr.next x' isS ty).run E.P w = .ok v' w' ∧ Wrote E ρ h h' w v v' w' := by
  cases hx with
  | ptr b o l e0 =>
  unfold nextOp at hn
  split at hn
  · rename_i s pos hob
    obtain ⟨hb, hp⟩ := i.obj r _ l hob e0
    have hg : (getObj l.blk).run E.P w = .ok (.stringIter s pos) w := by simp [getObj, Sem.run, hp]
    have hsz : s.data.toList.length = s.size := Array.length_toList
    simp only [cond_eq_ite, nblt, hsz, decide_eq_true_eq] at hn
    split at hn
    · rename_i hlt
      simp only [Option.some.injEq, Prod.mk.injEq] at hn
      obtain ⟨rfl, rfl⟩ := hn
      obtain ⟨g1, g2⟩ := setObj_sound (o' := .siter s (pos + (Utf8.decode s pos).2)) (ob := .stringIter s (pos + (Utf8.decode s pos).2)) i hob e0 ⟨hb, rfl⟩
      refine ⟨.tuple #[.bool true, .int .i64 (.ofNat pos), .int .i32 (Utf8.decode s pos).1], { w with heap := w.heap.setIfInBounds l.blk (.stringIter s (pos + (Utf8.decode s pos).2)) }, ?_, ρ, ?_, g1, g2⟩
      · have hs : (setObj l.blk (.stringIter s (pos + (Utf8.decode s pos).2))).run E.P w = .ok () { w with heap := w.heap.setIfInBounds l.blk (.stringIter s (pos + (Utf8.decode s pos).2)) } := by simp [setObj, Sem.run, hp]
        simp [Instr.next, hb, hg, hlt, hs, goInt]
      · exact VRel.mkTuple (.cons (.bool _) (.cons (.int _ _) (.cons (.int _ _) .nil)))
    · rename_i hlt
      simp only [Option.some.injEq, Prod.mk.injEq] at hn
      obtain ⟨rfl, rfl⟩ := hn
      exact ⟨.tuple #[.bool false], w, by simp [Instr.next, hb, hg, hlt], ρ, VRel.mkTuple (.cons (.bool _) .nil), i, .refl⟩
  · rename_i a1 a2 a3 hob
    obtain ⟨hb, hp⟩ := i.obj r _ l hob e0
    have hg : (getObj l.blk).run E.P w = .ok (.mapIter none a1 a2.toArray a3) w := by simp [getObj, Sem.run, hp]
    simp only [Option.some.injEq, Prod.mk.injEq] at hn
    obtain ⟨rfl, rfl⟩ := hn
    exact ⟨.tuple #[.bool false], w, by simp [Instr.next, hb, hg], ρ, VRel.mkTuple (.cons (.bool _) .nil), i, .refl⟩
  · rename_i m since seen last hob
    obtain ⟨hb, lm, hlm, hp⟩ := i.obj r _ l hob e0
    have hg : (getObj l.blk).run E.P w = .ok (.mapIter (some lm.blk) since seen.toArray last) w := by simp [getObj, Sem.run, hp]
    split at hn
    · rename_i es clock hom
      obtain ⟨hbm, es', hpm, h1, h2⟩ := i.obj m _ lm hom hlm
      have hgm : (getObj lm.blk).run E.P w = .ok (.map es' clock) w := getBlock_run hpm
      have er : ELRel ρ es.toList es'.toList := ELRel.of _ _ (by simpa using h1) (fun i e e' q1 q2 => h2 i e e' (by simpa using q1) (by simpa using q2))
      simp only [cond_eq_ite] at hn
      split at hn
      · cases hn
      · rename_i hgd
        have hemp : es'.isEmpty = es.toList.isEmpty := by
          rw [Bool.eq_iff_iff]
          simp only [Array.isEmpty_iff_size_eq_zero, List.isEmpty_iff_length_eq_zero, Array.length_toList, h1]
        have hall : es'.all (fun e => decide (e.born ≥ last)) = allB (fun e => Nat.ble last e.born) es.toList := by
          have := ELRel.all (fun n => Nat.ble last n) _ _ er
          rw [this, ← Array.all_toList]
          congr 1
          funext e; rw [nble]
        have hguard : (!seen.toArray.isEmpty && !es'.isEmpty && es'.all (fun e => decide (e.born ≥ last))) = false := by
          rw [hemp, hall]; simpa using hgd
        have hsc : (fun e : MapEntry => !seen.toArray.contains e.born) = (fun e => !(seen.contains e.born)) := by funext e; simp
        have fr := ELRel.filter (fun n => !(seen.contains n)) _ _ er
        split at hn
        · rename_i hf
          rw [hf] at fr
          have hf' : es'.filter (fun e => !seen.toArray.contains e.born) = #[] := by
            rw [hsc]
            apply arr_filter_nil
            generalize es'.toList.filter (fun e => !(seen.contains e.born)) = q at fr
            cases q with
            | nil => rfl
            | cons => exact fr.elim
          simp only [Option.some.injEq, Prod.mk.injEq] at hn
          obtain ⟨rfl, rfl⟩ := hn
          refine ⟨.tuple #[.bool false], w, ?_, ρ, VRel.mkTuple (.cons (.bool _) .nil), i, .refl⟩
          unfold Instr.next
          simp only [hb, Nat.add_zero, Sem.run_bind, hg, Result.andThen_ok, hgm, hguard, Bool.false_eq_true, if_false, hf']
          simp [Question.forced]
        · rename_i e hf
          rw [hf] at fr
          obtain ⟨e', hf'', her⟩ : ∃ e', es'.toList.filter (fun e => !(seen.contains e.born)) = [e'] ∧ EntRel ρ e e' := by
            generalize es'.toList.filter (fun e => !(seen.contains e.born)) = q at fr
            cases q with
            | nil => exact fr.elim
            | cons a t =>
              cases t with
              | nil => exact ⟨a, rfl, fr.1⟩
              | cons => exact fr.2.elim
          have hf' : es'.filter (fun e => !seen.toArray.contains e.born) = #[e'] := by rw [hsc]; exact arr_filter_nil hf''
          simp only [nblt, decide_eq_true_eq] at hn
          split at hn
          · rename_i hlt
            rw [her.1] at hlt
            simp only [Option.some.injEq, Prod.mk.injEq] at hn
            obtain ⟨rfl, rfl⟩ := hn
            obtain ⟨g1, g2⟩ := setObj_sound (o' := .miter (some m) since (seen ++ [e.born]) clock) (ob := .mapIter (some lm.blk) since (seen ++ [e'.born]).toArray clock) i hob e0
              ⟨hb, lm, hlm, by simp [her.1]⟩
            refine ⟨.tuple #[.bool true, e'.key, e'.val], { w with heap := w.heap.setIfInBounds l.blk (.mapIter (some lm.blk) since (seen ++ [e'.born]).toArray clock) }, ?_, ρ,
              VRel.mkTuple (.cons (.bool _) (.cons her.2.1 (.cons her.2.2 .nil))), g1, g2⟩
            have hs : (setObj l.blk (.mapIter (some lm.blk) since (seen ++ [e'.born]).toArray clock)).run E.P w = .ok () { w with heap := w.heap.setIfInBounds l.blk (.mapIter (some lm.blk) since (seen ++ [e'.born]).toArray clock) } := by
              simp [setObj, Sem.run, hp]
            unfold Instr.next
            simp only [hb, Nat.add_zero, Sem.run_bind, hg, Result.andThen_ok, hgm, hguard, Bool.false_eq_true, if_false, hf']
            have hge : ¬ (since ≤ e'.born) := by omega
            have q1 : (#[e'] : Array MapEntry).filter (fun e => decide (e.born < since)) = #[e'] := by simp [hlt]
            have q2 : (#[e'] : Array MapEntry).filter (fun e => decide (e.born ≥ since)) = #[] := by simp [hge]
            rw [q1, q2]
            simp [Question.forced, hs]
          · cases hn
        · cases hn
    · cases hn
  · cases hn
end
end Go.CS

/- append. -/
namespace Go.CS
open Go

section
variable {E : Env} {ρ : Rho} {h h' : H} {w : World}

theorem loadCells_sound2 (i : Inv E ρ h w.heap) {b o n : Nat} {vs : List Value} (hl : CS.loadCells h ⟨b, o, none⟩ n = some vs) {l : Loc} (hρ : ρ b = some l) :
    ∃ vs', (∀ (P : Program) (w1 : World), w1.heap = w.heap → (Go.loadCells ⟨l.blk, l.base + o, none⟩ n).run P w1 = .ok vs'.toArray w1) ∧ LRel ρ vs vs' ∧ (∀ v ∈ vs', CS.oneCell v = true) ∧ vs'.length = n := by
  obtain ⟨vs', g1, g2, g3, g4, g5⟩ := loadCells_sound i hl hρ
  refine ⟨vs', fun P w1 hw => ?_, g2, g3, g4⟩
  rw [← g4]
  refine run_loadCells_list w1 _ vs' fun j v hj => ?_
  have := g5 j v hj
  rw [addr_add]
  simpa [World.cell?, hw] using this

theorem appended_sound (i : Inv E ρ h w.heap) {es n : Nat} {x x' : Value} {new : List Value} (ha : appended h es x = some (n, new)) (hx : VRel ρ x x') :
    ∃ new', (∀ (P : Program) (w1 : World), (Builtin.lenOf x').run P w1 = .ok n w1) ∧ (∀ (P : Program) (w1 : World), w1.heap = w.heap → (Builtin.firstCells es n x').run P w1 = .ok new'.toArray w1) ∧ LRel ρ new new' ∧ new'.length = n * es ∧ (∀ v ∈ new', oneCell v = true) := by
  unfold appended at ha
  split at ha
  · rename_i s
    simp only [cond_eq_ite, nbeq, decide_eq_true_eq] at ha
    split at ha
    · rename_i he
      simp only [Option.some.injEq, Prod.mk.injEq] at ha
      obtain ⟨rfl, rfl⟩ := ha
      cases hx
      have hsz : s.data.toList.length = s.size := Array.length_toList
      have hex : s.extract 0 s.size = s := by
        rw [extract_bytes s 0 s.size (Nat.zero_le _)]
        symm; apply mk_bytes
        rw [List.drop_zero, Nat.sub_zero, ← hsz, List.take_length]
      refine ⟨bytesVals s.data.toList, fun P w1 => by rw [hsz]; simp [Builtin.lenOf], fun P w1 _ => ?_, ?_, by rw [bytesVals_len, hsz, he, Nat.mul_one], ?_⟩
      · rw [hsz, bytesVals_eq]
        simp only [Builtin.firstCells, hex, Sem.run_pure]
      · rw [bytesVals_eq]
        refine ⟨rfl, fun j x y h1 h2 => ?_⟩
        rw [h1] at h2; cases h2
        have := List.mem_iff_getElem?.2 ⟨j, h1⟩
        simp at this
        obtain ⟨b, _, rfl⟩ := this
        exact .int _ _
      · intro v hv
        rw [bytesVals_eq] at hv
        simp at hv
        obtain ⟨b, _, rfl⟩ := hv
        rfl
    · cases ha
  · rename_i l c
    simp only [Option.some.injEq, Prod.mk.injEq] at ha
    obtain ⟨rfl, rfl⟩ := ha
    cases hx
    exact ⟨[], fun P w1 => by simp [Builtin.lenOf], fun P w1 _ => by simp [Builtin.firstCells], .nil, by simp, by simp⟩
  · rename_i a m c
    split at ha
    · rename_i l hl
      simp only [Option.some.injEq, Prod.mk.injEq] at ha
      obtain ⟨rfl, rfl⟩ := ha
      cases hx with
      | slice b o n c l0 e0 hc =>
        obtain ⟨vs', g1, g2, g3, g4⟩ := loadCells_sound2 i hl e0
        exact ⟨vs', fun P w1 => by simp [Builtin.lenOf], fun P w1 hw => by simp [Builtin.firstCells, g1 P w1 hw], g2, g4, g3⟩
      | opn b o n c l0 e0 hc1 hc2 =>
        obtain ⟨vs', g1, g2, g3, g4⟩ := loadCells_sound2 i hl e0
        exact ⟨vs', fun P w1 => by simp [Builtin.lenOf], fun P w1 hw => by simp [Builtin.firstCells, g1 P w1 hw], g2, g4, g3⟩
      | opnEnd b o x l0 e0 hc1 =>
        obtain ⟨vs', g1, g2, g3, g4⟩ := loadCells_sound2 i hl e0
        have : vs' = [] := by simp at g4; exact g4
        subst this
        exact ⟨[], fun P w1 => by simp [Builtin.lenOf], fun P w1 _ => by simp [Builtin.firstCells, Go.loadCells, loadCellsFrom], g2, g4, g3⟩
      | zero b o x l0 e0 =>
        obtain ⟨vs', g1, g2, g3, g4⟩ := loadCells_sound2 i hl e0
        have : vs' = [] := by simp at g4; exact g4
        subst this
        exact ⟨[], fun P w1 => by simp [Builtin.lenOf], fun P w1 _ => by simp [Builtin.firstCells, Go.loadCells, loadCellsFrom], g2, g4, g3⟩
    · cases ha
  · cases ha

theorem growBy_le (n : Nat) : ∀ r c, Builtin.growBy n r c ≤ 2 ^ r * (c + 768) := by
  intro r
  induction r with
  | zero => intro c; simp [Builtin.growBy]
  | succ r ih =>
    intro c
    simp only [Builtin.growBy]
    split
    · have : 1 ≤ 2 ^ (r + 1) := Nat.one_le_two_pow
      calc c ≤ 1 * (c + 768) := by omega
        _ ≤ 2 ^ (r + 1) * (c + 768) := Nat.mul_le_mul_right _ this
    · refine Nat.le_trans (ih _) ?_
      rw [Nat.pow_succ, Nat.mul_assoc]
      exact Nat.mul_le_mul_left _ (by omega)

theorem growBy4_le (n c : Nat) : Builtin.growBy n 4 c ≤ 16 * (c + 768) := growBy_le n 4 c

theorem next_le (need cap : Nat) (h1 : need ≤ 1048576) (h2 : cap < need) : Builtin.nextslicecap need cap ≤ 33554432 := by
  have h := growBy4_le need cap
  unfold Builtin.nextslicecap
  generalize Builtin.growBy need 4 cap = g at h ⊢
  have k : ∀ x y z : Nat, x ≤ 1048576 → y ≤ 2097152 → z ≤ 16 * 1049344 → (if need > 2 * cap then x else if cap < 256 then y else z) ≤ 33554432 := by
    intro x y z h1 h2 h3
    split
    · omega
    · split <;> omega
  have h3 : 16 * (cap + 768) ≤ 16 * 1049344 := Nat.mul_le_mul_left 16 (by omega)
  exact k need (2 * cap) g h1 (by omega) (Nat.le_trans h h3)

theorem zeroCells_spec (z : Array Value) (n : Nat) (hz : 0 < z.size) (h1 : ∀ v ∈ z.toList, oneCell v = true) :
    (Builtin.zeroCells z n).size = n * z.size ∧ ∀ v ∈ (Builtin.zeroCells z n).toList, oneCell v = true := by
  refine ⟨by simp [Builtin.zeroCells], fun v hv => ?_⟩
  simp only [Builtin.zeroCells, Array.toList_map, List.mem_map] at hv
  obtain ⟨j, _, rfl⟩ := hv
  have : j % z.size < z.size := Nat.mod_lt _ hz
  simp only [this, getElem!_pos]
  exact h1 _ (by simp)

/-- the new row of an append that has made one -/
theorem grown_new {ce : CT} {e : TypeId} {cells cells' rest : List Value} {stt need cap : Nat} {ob : CObj} (hE : E.T.get e = some ce) (hg : grownRow ce e cells stt = some ob) (hr : LRel ρ cells cells')
    (hlen : cells.length = need * ce.size) (hcap : need ≤ cap) (hrest : rest.length = (cap - need) * ce.size) (hr1 : ∀ v ∈ rest, oneCell v = true) (hst : stt ≤ 1) :
    ∀ id ρ' (l : Loc), Ext ρ ρ' → l = ⟨w.heap.size, 0, need * ce.size, cap * ce.size, ce.size⟩ → ρ' id = some l →
      ORel E ρ' ob l (some (.cells (cells' ++ rest).toArray e (0, 0))) ∧ VRel ρ' (.slice (some ⟨id, 0, none⟩) need OPEN) (.slice (some ⟨w.heap.size, 0, none⟩) need cap) := by
  intro id ρ' l he hl hid
  unfold grownRow at hg
  split at hg
  · rename_i z hz
    simp only [cond_eq_ite] at hg
    split at hg
    · rename_i hc
      simp only [Bool.and_eq_true] at hc
      simp only [Option.some.injEq] at hg; subst hg
      have h1 := (allB_iff _ _).1 hc.2
      have h1' := rel_oneCell hr h1
      have hl' : cells'.length = need * ce.size := by rw [← hr.1]; exact hlen
      have hm : need * ce.size ≤ cap * ce.size := Nat.mul_le_mul_right _ hcap
      subst hl
      refine ⟨⟨_, _, rfl, hlen.symm, by rw [hlen]; exact hm, ?_, ?_, ?_, (fun h => by cases h), ?_, ⟨fun _ => rfl, fun _ => .inl rfl⟩⟩, ?_⟩
      · simp [hl', hrest, Nat.sub_mul]; omega
      · intro j v hj hgv
        rw [Tr.get_ofList] at hgv
        obtain ⟨v', q1, q2⟩ := hr.get hgv
        refine ⟨v', ?_, q2.mono he⟩
        have : j < cells'.length := (List.getElem?_eq_some_iff.1 q1).1
        simp [List.getElem?_append, this]
        simpa [this] using q1
      · intro j v hj
        have hj : (cells' ++ rest)[j]? = some v := by simpa using hj
        have := List.mem_iff_getElem?.2 ⟨j, hj⟩
        rcases List.mem_append.1 this with hm | hm
        · exact h1' v hm
        · exact hr1 v hm
      · intro _ ct hct
        rw [hE] at hct; cases hct; rfl
      · have := VRel.opn (ρ := ρ') id 0 need cap _ hid (by simp) hcap
        simpa using this
    · cases hg
  · cases hg

/-- what the model asks of an append's types -/
structure AppTypes (P : Program) (ts : Array TypeId) (e : TypeId) (es bytes : Nat) (z : Value) (w : World) : Prop where
  t0 : ∃ st, ts[0]? = some st ∧ P.underlying st = some (.slice e)
  t1 : ∃ xt d, ts[1]? = some xt ∧ P.underlying xt = some d ∧ ∀ k, d ≠ .int k
  sz : ∀ w, (sizeOf e).run P w = .ok es w
  by_ : ∃ i, (∀ w, (typeInfo e).run P w = .ok i w) ∧ i.bytes = bytes
  zr : ∀ w, (zeroValue e).run P w = .ok z w

theorem run_append_room {P : Program} {ts : Array TypeId} {ty e : TypeId} {es bytes : Nat} {z : Value} (T : AppTypes P ts e es bytes z w) {base : Option Addr} {len cap n : Nat} {x' : Value} {new' : Array Value}
    (h1 : (Builtin.lenOf x').run P w = .ok n w) (h2 : (Builtin.firstCells es n x').run P w = .ok new' w) (hle : len + n ≤ cap) :
    (Builtin.append_ ts ty #[.slice base len cap, x']).run P w =
      match base with
      | none => .ok (.slice none (len + n) cap) w
      | some a => ((Go.storeCells (a.add (len * es)) new'.toList).run P w).andThen fun _ w' => .ok (.slice (some a) (len + n) cap) w' := by
  obtain ⟨st, q1, q2⟩ := T.t0
  obtain ⟨xt, d, q3, q4, q5⟩ := T.t1
  unfold Builtin.append_
  simp only [q1, q3, List.getElem?_toArray, List.getElem?_cons_zero, List.getElem?_cons_succ, Sem.run_bind, run_underlying q2, run_underlying q4, Result.andThen_ok, T.sz, Sem.run_pure, Bool.false_eq_true, if_false, h1, hle, if_true, Bool.not_false, h2]
  cases base <;> simp

theorem run_append_grow {P : Program} {ts : Array TypeId} {ty e : TypeId} {es bytes : Nat} {z : Value} (T : AppTypes P ts e es bytes z w) {base : Option Addr} {len cap n : Nat} {x' : Value} {new' old' : Array Value}
    (h1 : (Builtin.lenOf x').run P w = .ok n w) (h2 : ∀ w1 : World, w1.heap = w.heap → (Builtin.firstCells es n x').run P w1 = .ok new' w1)
    (h3 : ∀ w1 : World, w1.heap = w.heap → (Builtin.firstCells es len (.slice base len cap)).run P w1 = .ok old' w1) (hle : cap < len + n) (hmax : len + n ≤ 1048576) (hby : bytes ≤ 1048576) (hb0 : bytes ≠ 0 ∨ True) :
    ∃ newCap w1, SameOut w w1 ∧ len + n ≤ newCap ∧ w1.heap = w.heap.push (.cells (old' ++ new' ++ Builtin.zeroCells z.cells (newCap - (len + n))) e (0, 0)) ∧
      (Builtin.append_ ts ty #[.slice base len cap, x']).run P w = .ok (.slice (some ⟨w.heap.size, 0, none⟩) (len + n) newCap) w1 := by
  obtain ⟨st, q1, q2⟩ := T.t0
  obtain ⟨xt, d, q3, q4, q5⟩ := T.t1
  obtain ⟨ii, b1, b2⟩ := T.by_
  let q := Question.appendCap (len + n) cap e
  let newCap := q.cut (w.tape w.drawn q)
  let w0 : World := { w with drawn := w.drawn + 1 }
  have hch : (choose q).run P w = .ok newCap w0 := by rw [run_choose]; rfl
  have hn1 := next_le (len + n) cap hmax hle
  have hn2 : Builtin.nextslicecap (len + n) cap * ii.bytes ≤ 33554432 * 1048576 := Nat.mul_le_mul hn1 (by omega)
  have hn3 : ¬ (Builtin.nextslicecap (len + n) cap * ii.bytes > 2 ^ 48) := by
    have : (33554432 : Nat) * 1048576 ≤ 2 ^ 48 := by decide
    omega
  have hn4 : ¬ (((len + n : Nat) : Int) > IntKind.i64.max) := by
    have : IntKind.i64.max = 9223372036854775807 := by decide
    rw [this]; omega
  have hnle : ¬ (len + n ≤ cap) := by omega
  refine ⟨newCap, w0.alloc (.cells (old' ++ new' ++ Builtin.zeroCells z.cells (newCap - (len + n))) e), ⟨rfl, rfl⟩, Nat.le_add_right _ _, rfl, ?_⟩
  unfold Builtin.append_
  simp only [q1, q3, List.getElem?_toArray, List.getElem?_cons_zero, List.getElem?_cons_succ, Sem.run_bind, run_underlying q2, run_underlying q4, Result.andThen_ok, T.sz, Sem.run_pure, Bool.false_eq_true, if_false, h1,
    hnle, b1, hn3, hn4, false_and, Bool.not_false, if_true]
  rw [hch]
  simp only [Result.andThen_ok, run_askRoom, h3 w0 rfl, h2 w0 rfl, T.zr, run_newRow']
  rfl

theorem hnone (i : Inv E ρ h w.heap) : ρ h.nx = none ∧ h.objs.get h.nx = none := by
  constructor
  · cases hq : ρ h.nx with
    | none => rfl
    | some l => have := i.dlt _ _ hq; omega
  · cases hq : h.objs.get h.nx with
    | none => rfl
    | some l => have := i.lt _ _ hq; omega

/-- an append that has made a new row; 'objs': the old objects, or the old ones but one -/
theorem grow_new (i : Inv E ρ h w.heap) {ce : CT} {e : TypeId} {z : Value} (hE : E.T.get e = some ce) (hz : ce.zero = some z) {objs : Tr CObj} (hsub : ∀ b o, objs.get b = some o → h.objs.get b = some o)
    {cells : List Value} {old' new' : Array Value} {need stt newCap : Nat} {v : Value} {w1 : World} (hg : growTo h objs ce e cells need stt = some (v, h')) (hst : stt ≤ 1)
    (hr : LRel ρ cells (old' ++ new').toList) (hlen : cells.length = need * ce.size) (hcap : need ≤ newCap)
    (hw : w1.heap = w.heap.push (.cells (old' ++ new' ++ Builtin.zeroCells z.cells (newCap - need)) e (0, 0))) (hpos : 0 < ce.size) (hso : SameOut w w1) :
    Wrote E ρ h h' w v (.slice (some ⟨w.heap.size, 0, none⟩) need newCap) w1 := by
  unfold growTo at hg
  split at hg
  · rename_i ob hob
    simp only [Option.some.injEq, Prod.mk.injEq] at hg
    obtain ⟨rfl, rfl⟩ := hg
    have hzz : z.cells.size = ce.size ∧ ∀ v ∈ z.cells.toList, oneCell v = true := by
      have hob' := hob
      unfold grownRow at hob'
      simp only [hz, cond_eq_ite] at hob'
      split at hob'
      · rename_i hc
        simp only [Bool.and_eq_true, nbeq, decide_eq_true_eq] at hc
        exact ⟨by simpa using hc.1.1, (allB_iff _ _).1 hc.1.2⟩
      · cases hob'
    obtain ⟨z1, z2⟩ := zeroCells_spec z.cells (newCap - need) (by omega) hzz.2
    obtain ⟨n1, n2⟩ := hnone i
    have n2' : objs.get h.nx = none := by
      cases hq : objs.get h.nx with
      | none => rfl
      | some o => rw [hsub _ _ hq] at n2; cases n2
    have i' : Inv E ρ ⟨objs, h.nx⟩ w.heap := i.restrict (fun b o l h1 _ => hsub b o h1) (fun b o h1 => i.lt b o (hsub b o h1)) i.dlt
    let l : Loc := ⟨w.heap.size, 0, need * ce.size, newCap * ce.size, ce.size⟩
    obtain ⟨k1, k2⟩ := grown_new (w := w) (rest := (Builtin.zeroCells z.cells (newCap - need)).toList) hE hob hr hlen hcap (by simp [z1, hzz.1]) z2 hst h.nx (upd ρ h.nx l) l (upd_ext n1) rfl (upd_self _ _ _)
    have harr : ((old' ++ new').toList ++ (Builtin.zeroCells z.cells (newCap - need)).toList).toArray = old' ++ new' ++ Builtin.zeroCells z.cells (newCap - need) := by
      apply Array.ext'; simp
    rw [harr] at k1
    obtain ⟨g1, g2⟩ := i'.alloc h.nx (h.nx + 1) n1 n2' (by show h.nx < h.nx + 1; omega) (by show h.nx ≤ h.nx + 1; omega) ob _ l rfl k1 hw hso
    refine ⟨upd ρ h.nx l, k2, g1, ?_⟩
    exact ⟨g2.mono, g2.ext, g2.dom, g2.size, fun x hx hno => g2.frame x hx (fun b o l0 h1 h2 => hno b o l0 (hsub b o h1) h2),
      fun b l0 h1 h2 => (g2.fresh b l0 h1 h2).imp id (fun ⟨b0, o0, l1, q1, q2, q3⟩ => ⟨b0, o0, l1, hsub b0 o0 q1, q2, q3⟩),
      fun b o h1 => (g2.live b o h1).imp (fun ⟨o0, q⟩ => ⟨o0, hsub b o0 q⟩) id, g2.same⟩
  · cases hg

/-- an append that has filled the room behind a row -/
theorem grow_room (i : Inv E ρ h w.heap) {ce : CT} {e : TypeId} (hE : E.T.get e = some ce) {b o len n cap : Nat} {l : Loc} {cells : Tr Value} {size stt : Nat} (hob : h.objs.get b = some (.row cells size e true stt)) (hl : ρ b = some l)
    {old new new' : List Value} {v : Value} (hg : growTo h (h.objs.set b none) ce e (old ++ new) (len + n) stt = some (v, h')) (hst : stt ≤ 1) (hold : CS.loadCells h ⟨b, o, none⟩ (len * ce.size) = some old)
    (hnew : LRel ρ new new') (hnl : new.length = n * ce.size) (hfin : o + cap * l.es = l.fin) (hle : len + n ≤ cap) :
    ∃ w', (∀ P : Program, (Go.storeCells ⟨l.blk, l.base + o + len * ce.size, none⟩ new').run P w = .ok () w') ∧ Wrote E ρ h h' w v (.slice (some ⟨l.blk, l.base + o, none⟩) (len + n) cap) w' := by
  obtain ⟨c, fr, hx, q1, q2, q3, q4, q5, q6, q7, q8⟩ := i.obj b _ l hob hl
  have hes := q7 rfl ce hE
  rw [hes] at hfin
  unfold growTo at hg
  split at hg
  · rename_i ob hgr
    simp only [Option.some.injEq, Prod.mk.injEq] at hg
    obtain ⟨rfl, rfl⟩ := hg
    have hone : ∀ v ∈ old ++ new, oneCell v = true := by
      unfold grownRow at hgr
      split at hgr
      · simp only [cond_eq_ite] at hgr
        split at hgr
        · rename_i hc
          simp only [Bool.and_eq_true] at hc
          exact (allB_iff _ _).1 hc.2
        · cases hgr
      · cases hgr
    have hobe : ob = .row (Tr.ofList (old ++ new)) (old ++ new).length e true stt := by
      unfold grownRow at hgr
      split at hgr
      · simp only [cond_eq_ite] at hgr
        split at hgr
        · simp only [Option.some.injEq] at hgr; exact hgr.symm
        · cases hgr
      · cases hgr
    subst hobe
    have hone' : ∀ v ∈ new', oneCell v = true := rel_oneCell hnew (fun v hv => hone v (List.mem_append_right _ hv))
    have hnl' : new'.length = n * ce.size := by rw [← hnew.1]; exact hnl
    have hmul : (len + n) * ce.size ≤ cap * ce.size := Nat.mul_le_mul_right _ hle
    rw [Nat.add_mul] at hmul
    obtain ⟨c', g1, g2, g3, g4, g5⟩ := setCells_heap new' hx (l.base + o + len * ce.size)
    obtain ⟨olds', p1, p2, p3, p4, p5⟩ := loadCells_sound i hold hl
    have p5' : ∀ (j : Nat) (v : Value), olds'[j]? = some v → c[l.base + o + j]? = some v := fun j v hj => by have := p5 j v hj; rwa [cell_row hx] at this
    refine ⟨w.setCells l.blk (l.base + o + len * ce.size) new', fun P => ?_, ?_⟩
    · have := run_storeCells_cells (P := P) l.blk (l.base + o + len * ce.size) new' 0 w (fun j hj => by rw [cell_row hx]; simp; omega)
        (fun j hj => frozen_row hx q8 hst (by simp; omega)) (fun v hv => one_one' (hone' v hv))
      simpa using this
    · obtain ⟨n1, n2⟩ := hnone i
      have hbn : b ≠ h.nx := by have := i.lt _ _ hob; omega
      let lb : Loc := ⟨l.blk, l.base + o, (old ++ new).length, l.fin - o, ce.size⟩
      have hlen : (old ++ new).length = (len + n) * ce.size := by
        have := p2.1
        rw [List.length_append, this, p4, hnl, Nat.add_mul]
      rw [Nat.add_mul] at hlen
      have hrel : LRel ρ (old ++ new) (olds' ++ new') := p2.append hnew
      have hrow : RowRel E (upd ρ h.nx lb) (Tr.ofList (old ++ new)) (old ++ new).length e true stt lb c' fr := by
        refine ⟨rfl, by show _ ≤ l.fin - o; omega, by show l.base + o + (l.fin - o) ≤ c'.size; omega, ?_, ?_, (fun h => by cases h), ?_, by rw [g2]; exact q8⟩
        · intro j v hj hgv
          rw [Tr.get_ofList] at hgv
          obtain ⟨v', r1, r2⟩ := hrel.get hgv
          refine ⟨v', ?_, r2.mono (upd_ext n1)⟩
          show c'[l.base + o + j]? = some v'
          rw [g3]
          rw [List.getElem?_append] at r1
          split at r1
          · rw [if_neg (by omega)]
            exact p5' j v' r1
          · have hjl : j - olds'.length < new'.length := (List.getElem?_eq_some_iff.1 r1).1
            rw [if_pos (by omega), show l.base + o + j - (l.base + o + len * ce.size) = j - olds'.length by omega]
            exact r1
        · intro j v hj
          rw [g3] at hj
          split at hj
          · exact hone' v (List.mem_iff_getElem?.2 ⟨_, hj⟩)
          · exact q5 j v hj
        · intro _ ct hct
          rw [hE] at hct; cases hct; rfl
      have hget : ∀ x ob, ((h.objs.set b none).set h.nx (some (.row (Tr.ofList (old ++ new)) (old ++ new).length e true stt))).get x = some ob →
          (x = h.nx ∧ ob = .row (Tr.ofList (old ++ new)) (old ++ new).length e true stt) ∨ (x ≠ h.nx ∧ x ≠ b ∧ h.objs.get x = some ob) := by
        intro x ob hx
        by_cases e1 : x = h.nx
        · subst e1
          rw [Tr.get_set_self] at hx
          simp only [Option.some.injEq] at hx
          exact .inl ⟨rfl, hx.symm⟩
        · rw [Tr.get_set_ne _ _ _ e1] at hx
          by_cases e2 : x = b
          · subst e2; rw [Tr.get_set_self] at hx; cases hx
          · rw [Tr.get_set_ne _ _ _ e2] at hx; exact .inr ⟨e1, e2, hx⟩
      have hupd : ∀ x l0, x ≠ h.nx → upd ρ h.nx lb x = some l0 → ρ x = some l0 := fun x l0 hne h0 => by simpa [upd, hne] using h0
      refine ⟨upd ρ h.nx lb, ?_, ⟨?_, ?_, ?_, ?_⟩, ⟨Nat.le_succ _, upd_ext n1, ?_, by rw [g4]; exact Nat.le_refl _, ?_, ?_, ?_, setCells_same _ _ _ _⟩⟩
      · have := VRel.opn (ρ := upd ρ h.nx lb) h.nx 0 (len + n) cap lb (upd_self _ _ _) (by show 0 + cap * ce.size = l.fin - o; omega) hle
        simpa using this
      · intro x ob l0 h0 h1
        rcases hget x ob h0 with ⟨rfl, rfl⟩ | ⟨e1, e2, e3⟩
        · rw [upd_self] at h1; cases h1
          exact ⟨c', fr, g1, hrow⟩
        · have h1' := hupd x l0 e1 h1
          rw [g5 l0.blk (fun he => e2 (i.inj x b _ _ _ _ e3 h1' hob hl he))]
          exact (i.obj x ob l0 e3 h1').mono (upd_ext n1)
      · intro x x' ob ob' l0 l0' h0 h1 h0' h1' he
        rcases hget x ob h0 with ⟨rfl, rfl⟩ | ⟨e1, e2, e3⟩ <;> rcases hget x' ob' h0' with ⟨rfl, rfl⟩ | ⟨f1, f2, f3⟩
        · rfl
        · rw [upd_self] at h1; cases h1
          exact absurd (i.inj x' b _ _ _ _ f3 (hupd x' l0' f1 h1') hob hl he.symm) f2
        · rw [upd_self] at h1'; cases h1'
          exact absurd (i.inj x b _ _ _ _ e3 (hupd x l0 e1 h1) hob hl he) e2
        · exact i.inj x x' _ _ _ _ e3 (hupd x l0 e1 h1) f3 (hupd x' l0' f1 h1') he
      · intro x ob h0
        show x < h.nx + 1
        rcases hget x ob h0 with ⟨rfl, rfl⟩ | ⟨e1, e2, e3⟩
        · omega
        · have := i.lt x ob e3; omega
      · intro x l0 h0
        show x < h.nx + 1
        by_cases e1 : x = h.nx
        · omega
        · have := i.dlt x l0 (hupd x l0 e1 h0); omega
      · intro x l0 h0
        by_cases e1 : x = h.nx
        · exact .inr (by omega)
        · exact .inl (hupd x l0 e1 h0)
      · intro x hx hno
        exact g5 x (fun he => hno b _ l hob hl he.symm)
      · intro x l0 h0 h1
        by_cases e1 : x = h.nx
        · subst e1
          rw [upd_self] at h0; cases h0
          exact .inr ⟨b, _, l, hob, hl, rfl⟩
        · rw [hupd x l0 e1 h0] at h1; cases h1
      · intro x ob h0
        rcases hget x ob h0 with ⟨rfl, rfl⟩ | ⟨e1, e2, e3⟩
        · exact .inr (Nat.le_refl _)
        · exact .inl ⟨ob, e3⟩
  · cases hg
end
end Go.CS

/- append, copy and the rest: every operation that writes. -/
namespace Go.CS
open Go

section
variable {E : Env} {ρ : Rho} {h h' : H} {w : World}

theorem extract_bytes_vals (s : ByteArray) (n : Nat) : bytesVals (s.data.toList.take n) = ((s.extract 0 n).data.map fun b => Value.int .u8 b.toNat).toList := by
  rw [extract_bytes s 0 n (Nat.zero_le _), List.drop_zero, Nat.sub_zero]
  exact bytesVals_eq ⟨⟨s.data.toList.take n⟩⟩

theorem storeNil {P : Program} (a : Addr) (w : World) : (Go.storeCells a []).run P w = .ok () w := rfl

theorem append_sound (ok : EnvOk E) (i : Inv E ρ h w.heap) {ts : Array TypeId} {ty : TypeId} {args : List Value} {args' : Array Value} {v : Value} (ha : appendOp E h ts.toList args = some (v, h')) (hr : LRel ρ args args'.toList) :
    ∃ v' w', (Builtin.append_ ts ty args').run E.P w = .ok v' w' ∧ Wrote E ρ h h' w v v' w' := by
  unfold appendOp at ha
  split at ha
  · rename_i st xt base len cap x hts
    obtain ⟨s', r1, he1, hs', hr1⟩ := hr.cons_inv
    obtain ⟨x', r2, he2, hx', hr2⟩ := hr1.cons_inv
    have := hr2.nil_inv; subst this; subst he2
    have hargs : args' = #[s', x'] := by apply Array.ext'; simpa using he1
    subst hargs
    have ht0 : ts[0]? = some st := by rw [← Array.getElem?_toList, hts]; rfl
    have ht1 : ts[1]? = some xt := by rw [← Array.getElem?_toList, hts]; rfl
    split at ha
    · rename_i cs cx hcs hcx
      obtain ⟨hus, _⟩ := ok.T _ _ hcs
      obtain ⟨hux, _⟩ := ok.T _ _ hcx
      split at ha
      · rename_i e hcu
        rw [hcu] at hus
        split at ha
        · rename_i ce hce
          split at ha
          · rename_i n new hok hap
            simp only [appOk, Bool.and_eq_true, Bool.not_eq_true', nbeq, nble, decide_eq_true_eq, decide_eq_false_iff_not] at hok
            obtain ⟨⟨⟨hz0, hby⟩, hni⟩, hzs⟩ := hok
            obtain ⟨z, hz⟩ := Option.isSome_iff_exists.1 hzs
            have hM : MAXAPP = 1048576 := rfl
            simp only [cond_eq_ite, nblt, decide_eq_true_eq] at ha
            split at ha
            · cases ha
            · rename_i hmx
              obtain ⟨new', p1, p2, p3, p4, p5⟩ := appended_sound i hap hx'
              have p6 : new.length = n * ce.size := by rw [p3.1]; exact p4
              have T : AppTypes E.P ts e ce.size ce.bytes z w := by
                obtain ⟨ii, hi, e1, e2, e3⟩ := (ok.T _ _ hce).2
                exact ⟨⟨st, ht0, hus⟩, ⟨xt, _, ht1, hux, fun k hk => by rw [hk] at hni; cases hni⟩, fun w => run_sizeOf' ok hce w, ⟨ii, fun w => by simp [typeInfo, hi], e2⟩, fun w => run_zero ok hce hz w⟩
              -- in place
              have room : ∀ {b o cap' : Nat} {lc : Loc} {res : Value}, ρ b = some lc → len + n ≤ cap' → CS.storeCells h ⟨b, o + len * ce.size, none⟩ new = some h' →
                  VRel ρ res (.slice (some ⟨lc.blk, lc.base + o, none⟩) (len + n) cap') →
                  ∃ v' w', (Builtin.append_ ts ty #[.slice (some ⟨lc.blk, lc.base + o, none⟩) len cap', x']).run E.P w = .ok v' w' ∧ Wrote E ρ h h' w res v' w' := by
                intro b o cap' lc res hρ hle hst hres
                obtain ⟨w', s1, s2, s3⟩ := storeCells_sound i hst p3 hρ
                refine ⟨_, w', ?_, ρ, hres, s2, s3⟩
                rw [run_append_room T (p1 E.P w) (p2 E.P w rfl) hle]
                simp [addr_add, ← Nat.add_assoc] at s1 ⊢
                simp [s1]
              -- a new row
              have grow : ∀ {sv : Option Addr} {cap' : Nat} {objs : Tr CObj} {old : List Value} {old' : List Value} {stt : Nat}, (∀ b o, objs.get b = some o → h.objs.get b = some o) → cap' < len + n →
                  growTo h objs ce e (old ++ new) (len + n) stt = some (v, h') → stt ≤ 1 → LRel ρ old old' → old'.length = len * ce.size →
                  (∀ w1 : World, w1.heap = w.heap → (Builtin.firstCells ce.size len (.slice sv len cap')).run E.P w1 = .ok old'.toArray w1) →
                  ∃ v' w', (Builtin.append_ ts ty #[.slice sv len cap', x']).run E.P w = .ok v' w' ∧ Wrote E ρ h h' w v v' w' := by
                intro sv cap' objs old old' stt hsub hlt hg hst hold hlo hfc
                obtain ⟨newCap, w1, n0, n1, n2, n3⟩ := run_append_grow (ty := ty) T (p1 E.P w) (p2 E.P) hfc hlt (by omega) (by omega) (.inr trivial)
                exact ⟨_, w1, n3, grow_new i hce hz hsub hg hst (by simpa using hold.append p3) (by rw [List.length_append, hold.1, hlo, p6, Nat.add_mul]) n1 n2 (by omega) n0⟩
              unfold appendTo at ha
              split at ha
              · -- nil
                cases hs'
                simp only [cond_eq_ite, nbeq, decide_eq_true_eq] at ha
                split at ha
                · rename_i hz
                  simp only [Option.some.injEq, Prod.mk.injEq] at ha
                  obtain ⟨rfl, rfl⟩ := ha
                  refine ⟨.slice none 0 0, w, ?_, ρ, .sliceNil, i, .refl⟩
                  rw [run_append_room T (p1 E.P w) (p2 E.P w rfl) (by omega)]
                  simp [show n = 0 by omega]
                · rename_i hnz
                  have hn0 : 0 < 0 + n := by omega
                  exact grow (old := []) (old' := []) (fun b o h => h) hn0 (by simpa using ha) (by omega) .nil (by simp) (fun w1 _ => by simp [Builtin.firstCells])
              · rename_i a
                split at ha
                · rename_i cells size elem opn stt hob
                  simp only [cond_eq_ite, nbeq, nble, nblt, decide_eq_true_eq] at ha
                  split at ha
                  · rename_i hopen
                    subst hopen
                    split at ha
                    · cases ha
                    · rename_i hchk
                      simp only [Bool.or_eq_true, Bool.not_eq_true', decide_eq_false_iff_not, not_or, Decidable.not_not, Bool.not_eq_false] at hchk
                      obtain ⟨rfl, rfl⟩ := hchk
                      cases hs' with
                      | slice b o n c l e0 hc => exact absurd rfl hc
                      | opn b o n0 c l e0 hc1 hc2 =>
                        obtain ⟨_, _, _, q1, q2, _, _, _, _, q7, _⟩ := i.obj b _ l hob e0
                        have hes := q7 rfl ce hce
                        have hc1' := hc1
                        rw [hes] at hc1'
                        dsimp only at ha
                        split at ha
                        · rename_i hfit
                          split at ha
                          · rename_i h1 hst
                            simp only [Option.some.injEq, Prod.mk.injEq] at ha
                            obtain ⟨rfl, rfl⟩ := ha
                            have hle : len + n ≤ c := Nat.le_of_mul_le_mul_right (by omega) (show 0 < ce.size by omega)
                            exact room e0 hle hst (.opn _ _ _ _ l e0 hc1 hle)
                          · cases ha
                        · split at ha
                          · rename_i hst
                            simp only [Bool.and_eq_true, decide_eq_true_eq] at hst
                            split at ha
                            · cases ha
                            · rename_i old hold
                              by_cases hle : len + n ≤ c
                              · obtain ⟨w', s1, s2⟩ := grow_room i hce hob e0 ha hst.1 hold p3 p6 hc1 hle
                                refine ⟨_, w', ?_, s2⟩
                                rw [run_append_room T (p1 E.P w) (p2 E.P w rfl) hle]
                                simp only [addr_add]
                                rw [s1 E.P]
                                rfl
                              · obtain ⟨olds', g1, g2, g3, g4⟩ := loadCells_sound2 i hold e0
                                refine grow ?_ (by omega) ha hst.1 g2 g4 (fun w1 hw => by simp [Builtin.firstCells, g1 E.P w1 hw])
                                intro x o hx
                                by_cases hxb : x = b
                                · subst hxb; rw [Tr.get_set_self] at hx; cases hx
                                · rwa [Tr.get_set_ne _ _ _ hxb] at hx
                          · cases ha
                      | opnEnd b o x l e0 hc1 =>
                        obtain ⟨_, _, _, q1, q2, _, _, _, _, q7, _⟩ := i.obj b _ l hob e0
                        dsimp only at ha
                        split at ha
                        · rename_i hfit
                          have hn0 : n = 0 := by
                            rcases Nat.eq_zero_or_pos n with h0 | h0
                            · exact h0
                            · have : 1 * ce.size ≤ (0 + n) * ce.size := Nat.mul_le_mul_right _ (by omega)
                              omega
                          subst hn0
                          have : new = [] := by simp at p6; exact p6
                          subst this
                          have : new' = [] := p3.nil_inv
                          subst this
                          split at ha
                          · rename_i h1 hst
                            simp only [Option.some.injEq, Prod.mk.injEq] at ha
                            obtain ⟨rfl, rfl⟩ := ha
                            obtain ⟨w', s1, s2, s3⟩ := storeCells_sound i hst .nil e0
                            have : w' = w := by have := s1 E.P; rw [storeNil] at this; cases this; rfl
                            subst this
                            refine ⟨.slice (some ⟨l.blk, x, none⟩) 0 0, w', ?_, ρ, .opnEnd _ _ _ l e0 hc1, s2, s3⟩
                            rw [run_append_room T (p1 E.P w') (p2 E.P w' rfl) (by omega)]
                            simp [storeNil]
                          · cases ha
                        · split at ha
                          · rename_i hst
                            simp only [Bool.and_eq_true, decide_eq_true_eq] at hst
                            split at ha
                            · cases ha
                            · rename_i old hold
                              obtain ⟨olds', g1, g2, g3, g4⟩ := loadCells_sound2 i hold e0
                              have : olds' = [] := by simp at g4; exact g4
                              subst this
                              refine grow ?_ (by omega) ha hst.1 g2 g4 (fun w1 hw => by simp [Builtin.firstCells, Go.loadCells, loadCellsFrom])
                              intro x o hx
                              by_cases hxb : x = b
                              · subst hxb; rw [Tr.get_set_self] at hx; cases hx
                              · rwa [Tr.get_set_ne _ _ _ hxb] at hx
                          · cases ha
                  · rename_i hne
                    split at ha
                    · rename_i hfit
                      split at ha
                      · rename_i h1 hst
                        simp only [Option.some.injEq, Prod.mk.injEq] at ha
                        obtain ⟨rfl, rfl⟩ := ha
                        cases hs' with
                        | slice b o n0 c l e0 hc => exact room e0 hfit hst (.slice _ _ _ _ l e0 hc)
                        | opn => exact absurd rfl hne
                        | opnEnd => exact absurd rfl hne
                        | zero b o x l e0 =>
                          have hn0 : n = 0 := by omega
                          subst hn0
                          have : new = [] := by simp at p6; exact p6
                          subst this
                          have : new' = [] := p3.nil_inv
                          subst this
                          obtain ⟨w', s1, s2, s3⟩ := storeCells_sound i hst .nil e0
                          have : w' = w := by have := s1 E.P; rw [storeNil] at this; cases this; rfl
                          subst this
                          refine ⟨.slice (some ⟨l.blk, x, none⟩) 0 0, w', ?_, ρ, .zero _ _ _ l e0, s2, s3⟩
                          rw [run_append_room T (p1 E.P w') (p2 E.P w' rfl) (by omega)]
                          simp [storeNil]
                      · cases ha
                    · rename_i hfit
                      split at ha
                      · cases ha
                      · rename_i old hold
                        cases hs' with
                        | slice b o n0 c l e0 hc =>
                          obtain ⟨olds', g1, g2, g3, g4⟩ := loadCells_sound2 i hold e0
                          exact grow (fun b o h => h) (by omega) ha (by omega) g2 g4 (fun w1 hw => by simp [Builtin.firstCells, g1 E.P w1 hw])
                        | opn => exact absurd rfl hne
                        | opnEnd => exact absurd rfl hne
                        | zero b o x l e0 =>
                          obtain ⟨olds', g1, g2, g3, g4⟩ := loadCells_sound2 i hold e0
                          have : olds' = [] := by simp at g4; exact g4
                          subst this
                          exact grow (fun b o h => h) (by omega) ha (by omega) g2 g4 (fun w1 hw => by simp [Builtin.firstCells, Go.loadCells, loadCellsFrom])
                · cases ha
          · cases ha
        · cases ha
      · cases ha
    · cases ha
  · cases ha

theorem src_sound (i : Inv E ρ h w.heap) {es m k : Nat} {src s' : Value} {cells : List Value} (hm : lenC src = some m) (hk : k ≤ m) (hc : srcCells h es k src = some cells) (hs : VRel ρ src s') {P : Program} :
    ∃ cells', (Builtin.lenOf s').run P w = .ok m w ∧ (Builtin.firstCells es k s').run P w = .ok cells'.toArray w ∧ LRel ρ cells cells' ∧ (k = 0 → cells' = []) := by
  cases hs with
  | string s =>
    simp only [lenC, Option.some.injEq] at hm
    simp only [srcCells, Option.some.injEq] at hc
    subst hc
    have hsz : s.data.toList.length = s.size := Array.length_toList
    refine ⟨bytesVals (s.data.toList.take k), by rw [← hm, hsz]; simp [Builtin.lenOf], ?_, ?_, fun h0 => by subst h0; simp [bytesVals]⟩
    · rw [extract_bytes_vals]
      simp only [Builtin.firstCells, Sem.run_pure]
    · generalize s.data.toList.take k = l
      induction l with
      | nil => exact .nil
      | cons b l ih => exact .cons (.int _ _) ih
  | sliceNil =>
    simp only [lenC, Option.some.injEq] at hm
    simp only [srcCells, Option.some.injEq] at hc
    subst hc hm
    exact ⟨[], by simp [Builtin.lenOf], by simp [Builtin.firstCells], .nil, fun _ => rfl⟩
  | slice b o n c l e0 hcc =>
    simp only [lenC, Option.some.injEq] at hm; subst hm
    simp only [srcCells] at hc
    obtain ⟨vs', g1, g2, g3, g4⟩ := loadCells_sound2 i hc e0
    exact ⟨vs', by simp [Builtin.lenOf], by simp [Builtin.firstCells, g1 P w rfl], g2, fun h0 => by subst h0; simp at g4; exact g4⟩
  | opn b o n c l e0 hc1 hc2 =>
    simp only [lenC, Option.some.injEq] at hm; subst hm
    simp only [srcCells] at hc
    obtain ⟨vs', g1, g2, g3, g4⟩ := loadCells_sound2 i hc e0
    exact ⟨vs', by simp [Builtin.lenOf], by simp [Builtin.firstCells, g1 P w rfl], g2, fun h0 => by subst h0; simp at g4; exact g4⟩
  | opnEnd b o x l e0 hc1 =>
    simp only [lenC, Option.some.injEq] at hm; subst hm
    simp only [srcCells] at hc
    have : k = 0 := by omega
    subst this
    obtain ⟨vs', g1, g2, g3, g4⟩ := loadCells_sound2 i hc e0
    have : vs' = [] := by simp at g4; exact g4
    subst this
    exact ⟨[], by simp [Builtin.lenOf], by simp [Builtin.firstCells, Go.loadCells, loadCellsFrom], g2, fun _ => rfl⟩
  | zero b o x l e0 =>
    simp only [lenC, Option.some.injEq] at hm; subst hm
    simp only [srcCells] at hc
    have : k = 0 := by omega
    subst this
    obtain ⟨vs', g1, g2, g3, g4⟩ := loadCells_sound2 i hc e0
    have : vs' = [] := by simp at g4; exact g4
    subst this
    exact ⟨[], by simp [Builtin.lenOf], by simp [Builtin.firstCells, Go.loadCells, loadCellsFrom], g2, fun _ => rfl⟩
  | _ => simp [lenC] at hm

theorem copy_sound (ok : EnvOk E) (i : Inv E ρ h w.heap) {ts : Array TypeId} {ty : TypeId} {args : List Value} {args' : Array Value} {v : Value} (hc : copyOp E h ts.toList args = some (v, h')) (hr : LRel ρ args args'.toList) :
    ∃ v' w', (Builtin.copy_ ts ty args').run E.P w = .ok v' w' ∧ Wrote E ρ h h' w v v' w' := by
  unfold copyOp at hc
  split at hc
  · rename_i dt tl base dLen dcap src hts
    obtain ⟨d', r1, he1, hd', hr1⟩ := hr.cons_inv
    obtain ⟨s', r2, he2, hs', hr2⟩ := hr1.cons_inv
    have := hr2.nil_inv; subst this; subst he2
    have hargs : args' = #[d', s'] := by apply Array.ext'; simpa using he1
    subst hargs
    have ht0 : ts[0]? = some dt := by rw [← Array.getElem?_toList, hts]; rfl
    split at hc
    · rename_i cd hcd
      obtain ⟨hud, _⟩ := ok.T _ _ hcd
      split at hc
      · rename_i e hcu
        rw [hcu] at hud
        split at hc
        · rename_i ce m hce hm
          have hsz := run_sizeOf' ok hce
          split at hc
          · rename_i cells hcl
            obtain ⟨cells', k1, k2, k3, k4⟩ := src_sound (P := E.P) i hm (Nat.min_le_left _ _) hcl hs'
            have run : ∀ {base' : Option Addr} {c' : Nat} {w' : World}, (match base' with | some a => (Go.storeCells a cells').run E.P w | none => .ok () w) = .ok () w' →
                (Builtin.copy_ ts ty #[.slice base' dLen c', s']).run E.P w = .ok (.int .i64 (.ofNat (Nat.min m dLen))) w' := by
              intro base' c' w' hst
              unfold Builtin.copy_
              simp only [ht0, List.getElem?_toArray, List.getElem?_cons_zero, List.getElem?_cons_succ, Sem.run_bind, run_underlying hud, Result.andThen_ok, k1, hsz, k2]
              cases base' with
              | none => simp only at hst; cases hst; rfl
              | some a => simp only at hst; simp only [Sem.run_bind, hst]; rfl
            unfold copyTo at hc
            simp only [cond_eq_ite, nbeq, decide_eq_true_eq] at hc
            split at hc
            · rename_i hz
              simp only [Option.some.injEq, Prod.mk.injEq] at hc
              obtain ⟨rfl, rfl⟩ := hc
              have hk := k4 hz
              subst hk
              obtain ⟨b', c', rfl⟩ : ∃ b' c', d' = .slice b' dLen c' := by cases hd' <;> exact ⟨_, _, rfl⟩
              exact ⟨_, w, run (by cases b' <;> rfl), ρ, .int _ _, i, .refl⟩
            · rename_i hz
              split at hc
              · rename_i a
                split at hc
                · rename_i h1 hst
                  simp only [Option.some.injEq, Prod.mk.injEq] at hc
                  obtain ⟨rfl, rfl⟩ := hc
                  have fin : ∀ {b o : Nat} {l : Loc} {c' : Nat}, ρ b = some l → CS.storeCells h ⟨b, o, none⟩ cells = some h1 →
                      ∃ v' w', (Builtin.copy_ ts ty #[.slice (some ⟨l.blk, l.base + o, none⟩) dLen c', s']).run E.P w = .ok v' w' ∧ Wrote E ρ h h1 w (.int .i64 (.ofNat (Nat.min m dLen))) v' w' := by
                    intro b o l c' hρ hst
                    obtain ⟨w', s1, s2, s3⟩ := storeCells_sound i hst k3 hρ
                    exact ⟨_, w', run (s1 E.P), ρ, .int _ _, s2, s3⟩
                  cases hd' with
                  | slice b o n c l e0 hc => exact fin e0 hst
                  | opn b o n c l e0 hc1 hc2 => exact fin e0 hst
                  | opnEnd b o x l e0 hc1 => exact absurd (Nat.min_zero m) hz
                  | zero b o x l e0 => exact absurd (Nat.min_zero m) hz
                · cases hc
              · cases hc
          · cases hc
        · cases hc
      · cases hc
    · cases hc
  · cases hc
end
end Go.CS

/- Bytes that become a string; every operation that writes. -/
namespace Go.CS
open Go

section
variable {E : Env} {ρ : Rho} {h h' : H} {w : World}

theorem loadBytes_run {P : Program} (a : Addr) : ∀ (ns : List Int) (acc : ByteArray) (k : Nat) (w : World), (∀ (j : Nat) (n : Int), ns[j]? = some n → w.cell? (a.add (k + j)) = some (.int .u8 n)) →
    (Go.loadBytes (a.add k) acc ns.length).run P w = .ok (ns.foldl (fun r n => r.push (UInt8.ofNat n.toNat)) acc) w := by
  intro ns
  induction ns with
  | nil => intro acc k w _; simp [Go.loadBytes]
  | cons n ns ih =>
    intro acc k w hc
    have h0 := hc 0 n (by simp)
    simp only [Nat.add_zero] at h0
    have hadd : (a.add k).add 1 = a.add (k + 1) := by
      unfold Addr.add
      by_cases hk : k = 0 <;> simp [hk, Nat.add_assoc]
    simp only [List.length_cons, Go.loadBytes, Sem.run_bind, run_load, h0, Result.andThen_ok, hadd]
    have := ih (acc.push n.toNat.toUInt8) (k + 1) w (fun j m hj => by have := hc (j + 1) m (by simpa using hj); rwa [show k + 1 + j = k + (j + 1) by omega])
    simpa using this

theorem freeze_heap {w : World} {b : Nat} {c : Array Value} {e : TypeId} {fr : Nat × Nat} (hx : w.heap[b]? = some (.cells c e fr)) (o n : Nat) :
    ∃ fr', (w.freeze ⟨b, o, none⟩ n).heap[b]? = some (.cells c e fr') ∧ (w.freeze ⟨b, o, none⟩ n).heap.size = w.heap.size ∧ ∀ x, x ≠ b → (w.freeze ⟨b, o, none⟩ n).heap[x]? = w.heap[x]? := by
  unfold World.freeze
  split
  · exact ⟨fr, hx, rfl, fun _ _ => rfl⟩
  · refine ⟨if fr.1 == fr.2 then (o, o + n) else (min fr.1 o, max fr.2 (o + n)), ?_, by simp, fun x hne => ?_⟩
    · simp [Array.getElem?_modify, hx]
    · simp [Array.getElem?_modify, Ne.symm hne]

theorem string_some (ts : Array TypeId) (ty : TypeId) (a : Addr) (k : IntKind) (m : Int) : Builtin.unsafeString_ ts ty #[.pointer (some a), .int k m] = (do
    let n ← asInt (.int k m)
    let some pt := ts[0]? | stuck "unsafe.String: no argument types"
    if n < 0 then runtimePanic (.error "unsafe.String: len out of range")
    if n > IntKind.i64.max then unsupported (.unsafePointer "String: a length above the largest int")
    if n = 0 then pure (.string .empty)
    else if ← variablesAt a (← elemOf pt) n.toNat then do
      let s ← loadBytes a .empty n.toNat
      freeze a n.toNat
      pure (.string s)
    else unsupported (.unsafePointer "String: not so many bytes at ptr")) := rfl
theorem string_none (ts : Array TypeId) (ty : TypeId) (k : IntKind) (m : Int) : Builtin.unsafeString_ ts ty #[.pointer none, .int k m] = (do
    let n ← asInt (.int k m)
    let some _ := ts[0]? | stuck "unsafe.String: no argument types"
    if n < 0 then runtimePanic (.error "unsafe.String: len out of range")
    if n > IntKind.i64.max then unsupported (.unsafePointer "String: a length above the largest int")
    if n = 0 then pure (.string .empty)
    else runtimePanic (.error "unsafe.String: ptr is nil and len is not zero")) := rfl

theorem freeze_sound (ok : EnvOk E) (i : Inv E ρ h w.heap) {ts : Array TypeId} {ty : TypeId} {args : List Value} {args' : Array Value} {v : Value} (hf : freezeOp E h ts.toList args = some (v, h')) (hr : LRel ρ args args'.toList) :
    ∃ v' w', (Builtin.unsafeString_ ts ty args').run E.P w = .ok v' w' ∧ Wrote E ρ h h' w v v' w' := by
  have hmax : IntKind.i64.max = 9223372036854775807 := by decide
  unfold freezeOp at hf
  split at hf
  · rename_i pt tl a k n hts
    obtain ⟨p', r1, he1, hp', hr1⟩ := hr.cons_inv
    obtain ⟨n', r2, he2, hn', hr2⟩ := hr1.cons_inv
    have := hr2.nil_inv; subst this; subst he2
    cases hn'
    cases hp' with
    | ptr b o l e0 =>
    have hargs : args' = #[.pointer (some ⟨l.blk, l.base + o, none⟩), .int k (n : Int)] := by apply Array.ext'; simpa using he1
    subst hargs
    have ht0 : ts[0]? = some pt := by rw [← Array.getElem?_toList, hts]; rfl
    have h0 : ¬ ((n : Int) < 0) := by omega
    simp only [cond_eq_ite, nbeq, nble, decide_eq_true_eq] at hf
    split at hf
    · rename_i hz
      subst hz
      simp only [Option.some.injEq, Prod.mk.injEq] at hf
      obtain ⟨rfl, rfl⟩ := hf
      refine ⟨.string .empty, w, ?_, ρ, .string _, i, .refl⟩
      rw [string_some]
      simp [asInt, asIntOf, ht0, hmax]
    · rename_i hz
      split at hf
      · rename_i cp c size e opn st hcp hsp hob
        obtain ⟨hup, _⟩ := ok.T _ _ hcp
        split at hf
        · rename_i e' ce vs hcu hce hl
          rw [hcu] at hup
          split at hf
          · rename_i hchk
            simp only [Bool.and_eq_true, decide_eq_true_eq] at hchk
            obtain ⟨⟨rfl, hone⟩, hnm⟩ := hchk
            split at hf
            · rename_i bs hbs
              simp only [Option.some.injEq, Prod.mk.injEq] at hf
              obtain ⟨rfl, rfl⟩ := hf
              obtain ⟨ns, rfl, rfl⟩ := valsBytes_spec _ _ hbs
              obtain ⟨vs', g1, g2, g3, g4, g5⟩ := loadCells_sound i hl e0
              have hvs := ints_rel ns _ g2
              subst hvs
              obtain ⟨cc, fr, hx, q1, q2, q3, q4, q5, q6, q7, q8⟩ := i.obj b _ l hob e0
              have hlen : ns.length = n := by simpa using g4
              have hsize : o + n ≤ size := by
                unfold CS.loadCells at hl
                simp only [hob, cond_eq_ite, nble, decide_eq_true_eq] at hl
                split at hl
                · assumption
                · cases hl
              have sh : w.shape? l.blk = some (e, cc.size) := by simp [World.shape?, hx]
              obtain ⟨_, ii, hi, hsi, _⟩ := ok.T _ _ hce
              have hco : E.P.cellsOf e = 1 := by simp [Program.cellsOf, hi, hsi, hone]
              have hva : (variablesAt ⟨l.blk, l.base + o, none⟩ e n).run E.P w = .ok true w := by
                obtain ⟨d, hd⟩ : ∃ d, E.P.depth = d + 1 := ⟨_, rfl⟩
                have : l.base + o + n ≤ cc.size := by omega
                simp [variablesAt, sh, hd, liesAt, rowAt, sameLayout, hco, Nat.mod_one, this]
              have hlb : (Go.loadBytes ⟨l.blk, l.base + o, none⟩ .empty n).run E.P w = .ok (ns.foldl (fun r n => r.push (UInt8.ofNat n.toNat)) .empty) w := by
                have := loadBytes_run (P := E.P) ⟨l.blk, l.base + o, none⟩ ns .empty 0 w (fun j m hj => by
                  rw [Nat.zero_add, addr_add]
                  exact g5 j _ (by simp [hj]))
                rw [addr_add, hlen] at this
                exact this
              obtain ⟨fr', f1, f2, f3⟩ := freeze_heap hx (l.base + o) n
              obtain ⟨k1, k2⟩ := i.write (o' := .row c size e opn 2) (w' := w.freeze ⟨l.blk, l.base + o, none⟩ n) hob e0 f2 f3
                ⟨cc, fr', f1, q1, q2, q3, q4, q5, q6, q7, ⟨(fun h => by cases h), fun h => by omega⟩⟩ ⟨by unfold World.freeze; split <;> rfl, by unfold World.freeze; split <;> rfl⟩
              refine ⟨.string (ns.foldl (fun r n => r.push (UInt8.ofNat n.toNat)) .empty), w.freeze ⟨l.blk, l.base + o, none⟩ n, ?_, ρ, ?_, k1, k2⟩
              · have hz' : ¬ ((n : Int) = 0) := by omega
                have hbig : ¬ ((n : Int) > IntKind.i64.max) := by rw [hmax]; have : MAXAPP = 1048576 := rfl; omega
                rw [string_some]
                simp only [asInt, asIntOf, Sem.run_bind, Sem.run_pure, Result.andThen_ok, ht0, h0, if_false, hbig, hz', elemOf, run_underlying hup, Int.toNat_natCast, hva, if_true, hlb, run_freeze]
              · rw [mk_bytes (push_fold ns .empty)]
                exact .string _
            · cases hf
          · cases hf
        · cases hf
      · cases hf
  · rename_i pt tl k n hts
    have ht0 : ts[0]? = some pt := by rw [← Array.getElem?_toList, hts]; rfl
    obtain ⟨p', r1, he1, hp', hr1⟩ := hr.cons_inv
    obtain ⟨n', r2, he2, hn', hr2⟩ := hr1.cons_inv
    have := hr2.nil_inv; subst this; subst he2
    cases hn'; cases hp'
    simp only [cond_eq_ite, nbeq, decide_eq_true_eq] at hf
    split at hf
    · rename_i hz
      subst hz
      simp only [Option.some.injEq, Prod.mk.injEq] at hf
      obtain ⟨rfl, rfl⟩ := hf
      have hargs : args' = #[.pointer none, .int k (0 : Int)] := by apply Array.ext'; simpa using he1
      subst hargs
      refine ⟨.string .empty, w, ?_, ρ, .string _, i, .refl⟩
      rw [string_none]
      simp [asInt, asIntOf, ht0, hmax]
    · cases hf
  · cases hf

theorem sliceData_sound (i : Inv E ρ h w.heap) {ts : Array TypeId} {ty : TypeId} {args : List Value} {args' : Array Value} {v : Value}
    (hf : (match args with
      | [.slice (some a) len cap] => bif Nat.beq len 0 || Nat.beq cap 0 then none else some (.pointer (some a), h)
      | [.slice none _ _] => some (.pointer none, h)
      | _ => none : Option (Value × H)) = some (v, h')) (hr : LRel ρ args args'.toList) :
    ∃ v' w', (Builtin.unsafeSliceData_ ts ty args').run E.P w = .ok v' w' ∧ Wrote E ρ h h' w v v' w' := by
  split at hf
  · rename_i a len cap
    simp only [cond_eq_ite, nbeq, Bool.or_eq_true, decide_eq_true_eq] at hf
    split at hf
    · cases hf
    · rename_i hne
      simp only [not_or] at hne
      simp only [Option.some.injEq, Prod.mk.injEq] at hf
      obtain ⟨rfl, rfl⟩ := hf
      obtain ⟨p', r1, he1, hp', hr1⟩ := hr.cons_inv
      have := hr1.nil_inv; subst this
      have hargs : args' = #[p'] := by apply Array.ext'; simpa using he1
      subst hargs
      cases hp' with
      | slice b o n c l e0 hc => exact ⟨_, w, Lib.run_unsafeSliceData_row _ _ _ _ _ _ hne.2, ρ, .ptr _ _ l e0, i, .refl⟩
      | opn b o n c l e0 hc1 hc2 => exact ⟨_, w, Lib.run_unsafeSliceData_row _ _ _ _ _ _ (by omega), ρ, .ptr _ _ l e0, i, .refl⟩
      | opnEnd => exact absurd rfl hne.1
      | zero => exact absurd rfl hne.1
  · obtain ⟨p', r1, he1, hp', hr1⟩ := hr.cons_inv
    have := hr1.nil_inv; subst this
    have hargs : args' = #[p'] := by apply Array.ext'; simpa using he1
    subst hargs
    simp only [Option.some.injEq, Prod.mk.injEq] at hf
    obtain ⟨rfl, rfl⟩ := hf
    cases hp'
    exact ⟨_, w, Lib.run_unsafeSliceData_nil _ _ _ _ _, ρ, .ptrNil, i, .refl⟩
  · cases hf

/-- an operation has been carried out -/
def Ran (r : Result Next) (v' : Value) (w' : World) : Prop := r = .ok (.value v') w' ∨ (r = .ok .skip w' ∧ v' = undef)

theorem wop_sound (ok : EnvOk E) {nt : Nat} {s : Tr Value} {a : Act} (g : GOk E ρ) (tr : TRel ρ nt s a.tmps) (i : Inv E ρ h w.heap) {o : Oper} {v : Value} (hw : wop E s h o = some (v, h')) :
    ∃ v' w', Ran ((execOp a.eval o).run E.P w) v' w' ∧ Wrote E ρ h h' w v v' w' := by
  have one : ∀ {x : Operand} {u : Value}, ev E s x = some u → VRel ρ u (a.eval x) := fun hx => ev_sound g tr hx
  obtain ⟨dst, op, type, pos, after, guard⟩ := o
  cases op <;> simp only [wop, reduceCtorEq] at hw
  case store t x y =>
    split at hw
    · rename_i ad u hx hy
      split at hw
      · rename_i h1 hst
        simp only [Option.some.injEq, Prod.mk.injEq] at hw
        obtain ⟨rfl, rfl⟩ := hw
        have hr := one hx
        obtain ⟨ad', he⟩ : ∃ ad', a.eval x = .pointer (some ad') := by generalize a.eval x = z at hr; cases hr; exact ⟨_, rfl⟩
        rw [he] at hr
        obtain ⟨w', s1, s2, s3⟩ := storeVar_sound ok i hst hr (one hy)
        exact ⟨undef, w', .inr ⟨by simp [execOp, he, Instr.storeAt, Instr.sureAddr, s1], rfl⟩, ρ, .undef, s2, s3⟩
      · cases hw
    · cases hw
  case mapUpdate t m k x | insert t m k x =>
    split at hw
    · rename_i mv kv u hm hk hx
      split at hw
      · rename_i h1 hup
        simp only [Option.some.injEq, Prod.mk.injEq] at hw
        obtain ⟨rfl, rfl⟩ := hw
        obtain ⟨w', s1, s2, s3⟩ := update_sound ok i hup (one hm) (one hk) (one hx)
        exact ⟨undef, w', .inr ⟨by simp [execOp, s1], rfl⟩, ρ, .undef, s2, s3⟩
      · cases hw
    · cases hw
  case range t x =>
    split at hw
    · rename_i u hx
      obtain ⟨v', w', s1, s2⟩ := range_sound ok i (one hx) hw
      exact ⟨v', w', .inl (by simp [execOp, s1]), s2⟩
    · cases hw
  case next it isS =>
    split at hw
    · rename_i r hx
      obtain ⟨v', w', s1, s2⟩ := next_sound (ty := type) i (one hx) hw
      exact ⟨v', w', .inl (by simp [execOp, s1]), s2⟩
    · cases hw
  case call c =>
    split at hw
    · rename_i b args hc hargs
      have hr := evs_sound g tr _ _ hargs
      have hr' : LRel ρ args (c.args.map a.eval).toList := by simpa using hr
      have fin : ∀ {v' : Value} {w' : World} {m : Sem Value}, m.run E.P w = .ok v' w' → (∀ consts, Go.builtin b c.argTypes type consts (c.args.map a.eval) = (do pure (.value (← m)))) →
          Ran ((execOp a.eval { dst, op := .call c, type, pos, after, guard }).run E.P w) v' w' := by
        intro v' w' m hm hb
        refine .inl ?_
        simp only [execOp, resolve, hc, Sem.run_bind, Sem.run_pure, Result.andThen_ok, invoke, hb, hm]
      cases b <;> simp only [writeBuiltin, reduceCtorEq] at hw
      case append =>
        obtain ⟨v', w', s1, s2⟩ := append_sound (ty := type) ok i hw hr'
        exact ⟨v', w', fin s1 (fun _ => rfl), s2⟩
      case copy =>
        obtain ⟨v', w', s1, s2⟩ := copy_sound (ty := type) ok i hw hr'
        exact ⟨v', w', fin s1 (fun _ => rfl), s2⟩
      case delete =>
        split at hw
        · rename_i t tl m k hts
          split at hw
          · rename_i h1 hd
            simp only [Option.some.injEq, Prod.mk.injEq] at hw
            obtain ⟨rfl, rfl⟩ := hw
            obtain ⟨m', r1, he1, hm', hr1⟩ := hr'.cons_inv
            obtain ⟨k', r2, he2, hk', hr2⟩ := hr1.cons_inv
            have := hr2.nil_inv; subst this; subst he2
            have hargs' : c.args.map a.eval = #[m', k'] := by apply Array.ext'; simpa using he1
            have ht0 : c.argTypes[0]? = some t := by rw [← Array.getElem?_toList, hts]; rfl
            obtain ⟨w', s1, s2, s3⟩ := delete_sound (ty := type) ok i ht0 hd hm' hk'
            exact ⟨.tuple #[], w', fin (m := Builtin.delete_ c.argTypes type (c.args.map a.eval)) (by rw [hargs']; exact s1) (fun _ => rfl), ρ, .undef, s2, s3⟩
          · cases hw
        · cases hw
      case unsafeSliceData =>
        obtain ⟨v', w', s1, s2⟩ := sliceData_sound (ts := c.argTypes) (ty := type) i hw hr'
        exact ⟨v', w', fin s1 (fun _ => rfl), s2⟩
      case unsafeString =>
        obtain ⟨v', w', s1, s2⟩ := freeze_sound (ty := type) ok i hw hr'
        exact ⟨v', w', fin s1 (fun _ => rfl), s2⟩
    · cases hw
end
end Go.CS

