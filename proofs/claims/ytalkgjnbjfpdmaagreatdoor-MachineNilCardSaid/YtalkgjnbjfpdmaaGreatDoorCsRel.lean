/- The relation between the evaluator's heap and the model's world: definitions and what holds of them. -/
import Derived.Test.YtalkgjnbjfpdmaaGreatDoorCsDefs
import Derived.Laws.IdiomCopy
import Derived.Laws.Cells
set_option linter.unusedVariables false
set_option linter.unusedSimpArgs false
set_option linter.unusedSectionVars false
set_option linter.deprecated false

namespace Go.CS

namespace Tr
variable {α : Type}
theorem get_e (k : Nat) : (Tr.e : Tr α).get k = none := by cases k <;> rfl
theorem get_zero (v : Option α) (l r : Tr α) : (Tr.n v l r).get 0 = v := rfl
theorem get_succ (v : Option α) (l r : Tr α) (k : Nat) : (Tr.n v l r).get (k + 1) = bif Nat.beq (k % 2) 0 then l.get (k / 2) else r.get (k / 2) := rfl

theorem beq2 (k : Nat) : (k % 2 = 0 ∧ Nat.beq (k % 2) 0 = true) ∨ (k % 2 = 1 ∧ Nat.beq (k % 2) 0 = false) := by
  rcases Nat.mod_two_eq_zero_or_one k with h | h
  · exact .inl ⟨h, by rw [h]; rfl⟩
  · exact .inr ⟨h, by rw [h]; rfl⟩

theorem get_setF (v : Option α) : ∀ (f k : Nat) (t : Tr α) (i : Nat), k < f → (setF v f k t).get i = if i = k then v else t.get i := by
  intro f
  induction f with
  | zero => intro k t i h; omega
  | succ f ih =>
    intro k t i h
    cases k with
    | zero =>
      cases t <;> cases i <;> simp [setF, get_zero, get_succ, get_e]
    | succ k =>
      have hk : k / 2 < f := by omega
      cases t with
      | e =>
        simp only [setF]
        cases i with
        | zero => rcases beq2 k with ⟨hm, hb⟩ | ⟨hm, hb⟩ <;> simp [hb, get_zero, get_e]
        | succ i =>
          rcases beq2 k with ⟨hm, hb⟩ | ⟨hm, hb⟩ <;> rcases beq2 i with ⟨hi, hc⟩ | ⟨hi, hc⟩ <;>
            simp only [hb, hc, cond_true, cond_false, get_succ, ih _ _ _ hk, get_e] <;> by_cases he : i = k <;> simp [he] <;> first | (intro; omega) | omega
      | n u l r =>
        simp only [setF]
        cases i with
        | zero => rcases beq2 k with ⟨hm, hb⟩ | ⟨hm, hb⟩ <;> simp [hb, get_zero]
        | succ i =>
          rcases beq2 k with ⟨hm, hb⟩ | ⟨hm, hb⟩ <;> rcases beq2 i with ⟨hi, hc⟩ | ⟨hi, hc⟩ <;>
            simp only [hb, hc, cond_true, cond_false, get_succ, ih _ _ _ hk] <;> by_cases he : i = k <;> simp [he] <;> first | (intro; omega) | omega

theorem get_set (t : Tr α) (k : Nat) (v : Option α) (i : Nat) : (t.set k v).get i = if i = k then v else t.get i :=
  get_setF v (k + 1) k t i (Nat.lt_succ_self k)
theorem get_set_self (t : Tr α) (k : Nat) (v : Option α) : (t.set k v).get k = v := by simp [get_set]
theorem get_set_ne (t : Tr α) (k : Nat) (v : Option α) {i : Nat} (h : i ≠ k) : (t.set k v).get i = t.get i := by simp [get_set, h]

theorem get_ofListFrom (l : List α) : ∀ (i : Nat) (t : Tr α) (k : Nat), (ofListFrom i l t).get k = if i ≤ k ∧ k < i + l.length then l[k - i]? else t.get k := by
  induction l with
  | nil => intro i t k; rw [if_neg (by simp)]; rfl
  | cons v l ih =>
    intro i t k
    simp only [ofListFrom, ih, get_set]
    by_cases h : k = i
    · subst h; rw [if_neg (by omega), if_pos rfl, if_pos (by simp)]; simp
    · by_cases h2 : i + 1 ≤ k ∧ k < i + 1 + l.length
      · have : k - i = (k - (i + 1)) + 1 := by omega
        rw [if_pos h2, if_pos (by simp; omega), this]; simp
      · rw [if_neg h2, if_neg h, if_neg (by simp; omega)]
theorem get_ofList (l : List α) (k : Nat) : (ofList l).get k = l[k]? := by
  simp only [ofList, get_ofListFrom, get_e]
  by_cases h : k < l.length <;> simp [h]
  all_goals simp at h; simp [h]
end Tr

structure Loc where
  blk : Nat
  base : Nat
  size : Nat
  fin : Nat
  es : Nat

abbrev Rho := Nat → Option Loc

inductive VRel (ρ : Rho) : Value → Value → Prop where
  | bool (b : Bool) : VRel ρ (.bool b) (.bool b)
  | int (k : IntKind) (n : Int) : VRel ρ (.int k n) (.int k n)
  | float (k : FloatKind) (n : Nat) : VRel ρ (.float k n) (.float k n)
  | string (s : ByteArray) : VRel ρ (.string s) (.string s)
  | ptrNil : VRel ρ (.pointer none) (.pointer none)
  | mapNil : VRel ρ (.map none) (.map none)
  | nilFunc : VRel ρ .nilFunc .nilFunc
  | nilIface : VRel ρ .nilIface .nilIface
  | sliceNil : VRel ρ (.slice none 0 0) (.slice none 0 0)
  | ptr (b o : Nat) (l : Loc) : ρ b = some l → VRel ρ (.pointer (some ⟨b, o, none⟩)) (.pointer (some ⟨l.blk, l.base + o, none⟩))
  | slice (b o n c : Nat) (l : Loc) : ρ b = some l → c ≠ OPEN → VRel ρ (.slice (some ⟨b, o, none⟩) n c) (.slice (some ⟨l.blk, l.base + o, none⟩) n c)
  | opn (b o n c : Nat) (l : Loc) : ρ b = some l → o + c * l.es = l.fin → n ≤ c → VRel ρ (.slice (some ⟨b, o, none⟩) n OPEN) (.slice (some ⟨l.blk, l.base + o, none⟩) n c)
  | opnEnd (b o x : Nat) (l : Loc) : ρ b = some l → l.size ≤ o → VRel ρ (.slice (some ⟨b, o, none⟩) 0 OPEN) (.slice (some ⟨l.blk, x, none⟩) 0 0)
  | zero (b o x : Nat) (l : Loc) : ρ b = some l → VRel ρ (.slice (some ⟨b, o, none⟩) 0 0) (.slice (some ⟨l.blk, x, none⟩) 0 0)
  | map (r : Nat) (l : Loc) : ρ r = some l → VRel ρ (.map (some r)) (.map (some l.blk))
  | func (f : FuncId) (a b a' b' : Array Value) : a.size = a'.size → b.size = b'.size → (∀ (i : Nat) (x y : Value), a[i]? = some x → a'[i]? = some y → VRel ρ x y) →
      (∀ (i : Nat) (x y : Value), b[i]? = some x → b'[i]? = some y → VRel ρ x y) → VRel ρ (.func (.func f) a b) (.func (.func f) a' b')
  | iface (t : TypeId) (v v' : Value) : VRel ρ v v' → VRel ρ (.iface t v) (.iface t v')
  | agg (a a' : Array Value) : a.size = a'.size → (∀ (i : Nat) (x y : Value), a[i]? = some x → a'[i]? = some y → VRel ρ x y) → VRel ρ (.agg a) (.agg a')
  | tuple (a a' : Array Value) : a.size = a'.size → (∀ (i : Nat) (x y : Value), a[i]? = some x → a'[i]? = some y → VRel ρ x y) → VRel ρ (.tuple a) (.tuple a')

/-- lists, value by value -/
def LRel (ρ : Rho) (l l' : List Value) : Prop := l.length = l'.length ∧ ∀ (i : Nat) (x y : Value), l[i]? = some x → l'[i]? = some y → VRel ρ x y

def Ext (ρ ρ' : Rho) : Prop := ∀ b l, ρ b = some l → ρ' b = some l
theorem Ext.refl (ρ : Rho) : Ext ρ ρ := fun _ _ h => h
theorem Ext.trans {ρ ρ' ρ'' : Rho} (h : Ext ρ ρ') (h' : Ext ρ' ρ'') : Ext ρ ρ'' := fun b l e => h' b l (h b l e)

theorem VRel.mono {ρ ρ' : Rho} (h : Ext ρ ρ') {v v' : Value} (r : VRel ρ v v') : VRel ρ' v v' := by
  induction r with
  | bool b => exact .bool b
  | int k n => exact .int k n
  | float k n => exact .float k n
  | string s => exact .string s
  | ptrNil => exact .ptrNil
  | mapNil => exact .mapNil
  | nilFunc => exact .nilFunc
  | nilIface => exact .nilIface
  | sliceNil => exact .sliceNil
  | ptr b o l e => exact .ptr b o l (h _ _ e)
  | slice b o n c l e hc => exact .slice b o n c l (h _ _ e) hc
  | opn b o n c l e hc hn => exact .opn b o n c l (h _ _ e) hc hn
  | opnEnd b o x l e hc => exact .opnEnd b o x l (h _ _ e) hc
  | zero b o x l e => exact .zero b o x l (h _ _ e)
  | map r l e => exact .map r l (h _ _ e)
  | func f a b a' b' h1 h2 _ _ ih1 ih2 => exact .func f a b a' b' h1 h2 ih1 ih2
  | iface t v v' _ ih => exact .iface t v v' ih
  | agg a a' h1 _ ih => exact .agg a a' h1 ih
  | tuple a a' h1 _ ih => exact .tuple a a' h1 ih

theorem LRel.mono {ρ ρ' : Rho} (h : Ext ρ ρ') {l l' : List Value} (r : LRel ρ l l') : LRel ρ' l l' := ⟨r.1, fun i x y hx hy => (r.2 i x y hx hy).mono h⟩
theorem LRel.nil {ρ : Rho} : LRel ρ [] [] := ⟨rfl, fun i x y h => by simp at h⟩
theorem LRel.cons {ρ : Rho} {v v' : Value} {l l' : List Value} (h : VRel ρ v v') (r : LRel ρ l l') : LRel ρ (v :: l) (v' :: l') := by
  refine ⟨by simp [r.1], fun i x y hx hy => ?_⟩
  cases i with
  | zero => simp at hx hy; subst hx hy; exact h
  | succ i => simp at hx hy; exact r.2 i x y hx hy
theorem LRel.nil_inv {ρ : Rho} {l' : List Value} (h : LRel ρ [] l') : l' = [] := by
  have := h.1; simp at this; exact List.length_eq_zero_iff.1 this.symm
theorem LRel.cons_inv {ρ : Rho} {v : Value} {l l' : List Value} (h : LRel ρ (v :: l) l') : ∃ v' r, l' = v' :: r ∧ VRel ρ v v' ∧ LRel ρ l r := by
  cases l' with
  | nil => have := h.1; simp at this
  | cons v' r =>
    refine ⟨v', r, rfl, h.2 0 v v' (by simp) (by simp), by have := h.1; simpa using this, fun i x y hx hy => h.2 (i + 1) x y (by simpa using hx) (by simpa using hy)⟩
theorem LRel.get {ρ : Rho} {l l' : List Value} (h : LRel ρ l l') {i : Nat} {x : Value} (hx : l[i]? = some x) : ∃ y, l'[i]? = some y ∧ VRel ρ x y := by
  have hi : i < l.length := (List.getElem?_eq_some_iff.1 hx).1
  have hi' : i < l'.length := h.1 ▸ hi
  exact ⟨l'[i], by simp [hi'], h.2 i x _ hx (by simp [hi'])⟩
theorem LRel.append {ρ : Rho} {a b a' b' : List Value} (h : LRel ρ a a') (r : LRel ρ b b') : LRel ρ (a ++ b) (a' ++ b') := by
  induction a generalizing a' with
  | nil => have := h.nil_inv; subst this; simpa using r
  | cons v a ih =>
    obtain ⟨v', t, rfl, h1, h2⟩ := h.cons_inv
    exact .cons h1 (ih h2)
theorem LRel.take {ρ : Rho} {a a' : List Value} (h : LRel ρ a a') (n : Nat) : LRel ρ (a.take n) (a'.take n) := by
  refine ⟨by simp [h.1], fun i x y hx hy => ?_⟩
  rw [List.getElem?_take] at hx hy
  split at hx <;> simp_all
  exact h.2 i x y hx hy
theorem LRel.drop {ρ : Rho} {a a' : List Value} (h : LRel ρ a a') (n : Nat) : LRel ρ (a.drop n) (a'.drop n) := by
  refine ⟨by simp [h.1], fun i x y hx hy => ?_⟩
  rw [List.getElem?_drop] at hx hy
  exact h.2 _ x y hx hy

theorem LRel.of_array {ρ : Rho} {a a' : Array Value} (h1 : a.size = a'.size) (h2 : ∀ (i : Nat) (x y : Value), a[i]? = some x → a'[i]? = some y → VRel ρ x y) : LRel ρ a.toList a'.toList :=
  ⟨by simpa using h1, fun i x y hx hy => h2 i x y (by simpa using hx) (by simpa using hy)⟩
theorem LRel.to_array {ρ : Rho} {a a' : Array Value} (h : LRel ρ a.toList a'.toList) : a.size = a'.size ∧ ∀ (i : Nat) (x y : Value), a[i]? = some x → a'[i]? = some y → VRel ρ x y :=
  ⟨by simpa using h.1, fun i x y hx hy => h.2 i x y (by simpa using hx) (by simpa using hy)⟩
theorem VRel.mkAgg {ρ : Rho} {a a' : Array Value} (h : LRel ρ a.toList a'.toList) : VRel ρ (.agg a) (.agg a') := .agg a a' h.to_array.1 h.to_array.2
theorem VRel.mkTuple {ρ : Rho} {a a' : Array Value} (h : LRel ρ a.toList a'.toList) : VRel ρ (.tuple a) (.tuple a') := .tuple a a' h.to_array.1 h.to_array.2
theorem VRel.undef {ρ : Rho} : VRel ρ Go.undef Go.undef := VRel.mkTuple (by simpa [Go.undef] using LRel.nil)

theorem VRel.cells {ρ : Rho} {v v' : Value} (h : VRel ρ v v') : LRel ρ v.cells.toList v'.cells.toList := by
  cases h with
  | agg a a' h1 h2 => exact LRel.of_array h1 h2
  | _ => exact .cons (by constructor <;> assumption) .nil

theorem VRel.oneCell {ρ : Rho} {v v' : Value} (h : VRel ρ v v') : oneCell v' = oneCell v := by cases h <;> rfl

/-- values that name no memory are related to themselves alone -/
theorem closed_refl {ρ : Rho} : ∀ (n : Nat) (v : Value), closed n v = true → VRel ρ v v := by
  intro n
  induction n with
  | zero => intro v h; simp [closed] at h
  | succ n ih =>
    intro v h
    have hl : ∀ (l : List Value), allB (closed n) l = true → LRel ρ l l := by
      intro l
      induction l with
      | nil => intro _; exact .nil
      | cons a l ih2 =>
        intro h
        simp only [allB, cond_eq_ite, Bool.if_false_right, Bool.and_eq_true, decide_eq_true_eq] at h
        exact .cons (ih a h.1) (ih2 h.2)
    cases v with
    | bool b => exact .bool b
    | int k n => exact .int k n
    | float k n => exact .float k n
    | complex => simp [closed] at h
    | string s => exact .string s
    | pointer a => cases a with
      | none => exact .ptrNil
      | some a => simp [closed] at h
    | slice a l c => cases a with
      | none => simp [closed] at h; obtain ⟨rfl, rfl⟩ := h; exact .sliceNil
      | some a => simp [closed] at h
    | map a => cases a with
      | none => exact .mapNil
      | some a => simp [closed] at h
    | chan => simp [closed] at h
    | nilFunc => exact .nilFunc
    | nilIface => exact .nilIface
    | iface t v => exact .iface t v v (ih v (by simpa [closed] using h))
    | agg cs => exact VRel.mkAgg (hl _ (by simpa [closed] using h))
    | tuple cs => exact VRel.mkTuple (hl _ (by simpa [closed] using h))
    | func fn a b =>
      cases fn with
      | func f =>
        simp [closed] at h
        have h1 := (hl _ h.1).to_array
        have h2 := (hl _ h.2).to_array
        exact .func f a b a b h1.1 h2.1 h1.2 h2.2
      | _ => simp [closed] at h

theorem closed_eq {ρ : Rho} : ∀ (n : Nat) (v v' : Value), closed n v = true → VRel ρ v v' → v' = v := by
  intro n
  induction n with
  | zero => intro v v' h; simp [closed] at h
  | succ n ih =>
    intro v v' h r
    have hl : ∀ (l l' : List Value), allB (closed n) l = true → LRel ρ l l' → l' = l := by
      intro l
      induction l with
      | nil => intro l' _ r; exact r.nil_inv
      | cons a l ih2 =>
        intro l' h r
        simp only [allB, cond_eq_ite, Bool.if_false_right, Bool.and_eq_true, decide_eq_true_eq] at h
        obtain ⟨v', t, rfl, h1, h2⟩ := r.cons_inv
        rw [ih _ _ h.1 h1, ih2 _ h.2 h2]
    have ha : ∀ (a a' : Array Value), allB (closed n) a.toList = true → LRel ρ a.toList a'.toList → a' = a := by
      intro a a' h r
      have := hl _ _ h r
      exact Array.toList_inj.1 this
    cases r with
    | ptr => simp [closed] at h
    | slice => simp [closed] at h
    | opn => simp [closed] at h
    | opnEnd => simp [closed] at h
    | zero => simp [closed] at h
    | map => simp [closed] at h
    | func f a b a' b' h1 h2 h3 h4 =>
      simp [closed] at h
      rw [ha a a' h.1 (LRel.of_array h1 h3), ha b b' h.2 (LRel.of_array h2 h4)]
    | iface t v v' r => rw [ih _ _ (by simpa [closed] using h) r]
    | agg a a' h1 h2 => rw [ha a a' (by simpa [closed] using h) (LRel.of_array h1 h2)]
    | tuple a a' h1 h2 => rw [ha a a' (by simpa [closed] using h) (LRel.of_array h1 h2)]
    | _ => rfl

theorem allB_iff {α : Type} (p : α → Bool) : ∀ l : List α, allB p l = true ↔ ∀ x ∈ l, p x = true := by
  intro l
  induction l with
  | nil => simp [allB]
  | cons a l ih => simp only [allB, cond_eq_ite]; by_cases h : p a = true <;> simp [h, ih]

/-! ### objects and heaps -/

def frz (st : Nat) (fr : Nat × Nat) (n : Nat) : Prop := (st = 0 → fr = (0, 0)) ∧ (st ≤ 1 → fr = (0, 0) ∨ n ≤ fr.1)

def RowRel (E : Env) (ρ : Rho) (cells : Tr Value) (size : Nat) (elem : TypeId) (opn : Bool) (st : Nat) (l : Loc) (c : Array Value) (fr : Nat × Nat) : Prop :=
  l.size = size ∧ size ≤ l.fin ∧ l.base + l.fin ≤ c.size ∧
  (∀ (i : Nat) (v : Value), i < size → cells.get i = some v → ∃ v', c[l.base + i]? = some v' ∧ VRel ρ v v') ∧
  (∀ (i : Nat) (v : Value), c[i]? = some v → CS.oneCell v = true) ∧
  (opn = false → l.base = 0 ∧ l.fin = size ∧ c.size = size) ∧
  (opn = true → ∀ ct, E.T.get elem = some ct → l.es = ct.size) ∧ frz st fr c.size

def EntRel (ρ : Rho) (e e' : MapEntry) : Prop := e.born = e'.born ∧ VRel ρ e.key e'.key ∧ VRel ρ e.val e'.val

def ORel (E : Env) (ρ : Rho) (o : CObj) (l : Loc) (x : Option Obj) : Prop :=
  match o with
  | .row cells size elem opn st => ∃ c fr, x = some (.cells c elem fr) ∧ RowRel E ρ cells size elem opn st l c fr
  | .map es clock => l.base = 0 ∧ ∃ es', x = some (.map es' clock) ∧ es.size = es'.size ∧ ∀ (i : Nat) (e e' : MapEntry), es[i]? = some e → es'[i]? = some e' → EntRel ρ e e'
  | .siter s pos => l.base = 0 ∧ x = some (.stringIter s pos)
  | .miter none since seen last => l.base = 0 ∧ x = some (.mapIter none since seen.toArray last)
  | .miter (some r) since seen last => l.base = 0 ∧ ∃ lm, ρ r = some lm ∧ x = some (.mapIter (some lm.blk) since seen.toArray last)

theorem RowRel.mono {E : Env} {ρ ρ' : Rho} (h : Ext ρ ρ') {cells : Tr Value} {size : Nat} {elem : TypeId} {opn : Bool} {st : Nat} {l : Loc} {c : Array Value} {fr : Nat × Nat}
    (r : RowRel E ρ cells size elem opn st l c fr) : RowRel E ρ' cells size elem opn st l c fr := by
  obtain ⟨h1, h2, h3, h4, h5, h6, h7, h8⟩ := r
  exact ⟨h1, h2, h3, fun i v hi hv => let ⟨v', a, b⟩ := h4 i v hi hv; ⟨v', a, b.mono h⟩, h5, h6, h7, h8⟩

theorem ORel.mono {E : Env} {ρ ρ' : Rho} (h : Ext ρ ρ') {o : CObj} {l : Loc} {x : Option Obj} (r : ORel E ρ o l x) : ORel E ρ' o l x := by
  cases o with
  | row cells size elem opn st =>
    obtain ⟨c, fr, hx, hr⟩ := r
    exact ⟨c, fr, hx, hr.mono h⟩
  | map es clock =>
    obtain ⟨hb, es', hx, hs, he⟩ := r
    exact ⟨hb, es', hx, hs, fun i e e' h1 h2 => let ⟨a, b, c⟩ := he i e e' h1 h2; ⟨a, b.mono h, c.mono h⟩⟩
  | siter s pos => exact r
  | miter m since seen last =>
    cases m with
    | none => exact r
    | some m =>
      obtain ⟨hb, lm, hl, hx⟩ := r
      exact ⟨hb, lm, h _ _ hl, hx⟩

abbrev Hp := Array Obj

structure Inv (E : Env) (ρ : Rho) (h : H) (p : Hp) : Prop where
  obj : ∀ b o l, h.objs.get b = some o → ρ b = some l → ORel E ρ o l p[l.blk]?
  inj : ∀ b b' o o' l l', h.objs.get b = some o → ρ b = some l → h.objs.get b' = some o' → ρ b' = some l' → l.blk = l'.blk → b = b'
  lt : ∀ b o, h.objs.get b = some o → b < h.nx
  dlt : ∀ b l, ρ b = some l → b < h.nx

theorem ORel.inb {E : Env} {ρ : Rho} {o : CObj} {l : Loc} {x : Option Obj} (r : ORel E ρ o l x) : ∃ y, x = some y := by
  cases o with
  | row cells size elem opn st => obtain ⟨c, fr, hx, _⟩ := r; exact ⟨_, hx⟩
  | map es clock => obtain ⟨_, es', hx, _⟩ := r; exact ⟨_, hx⟩
  | siter s pos => exact ⟨_, r.2⟩
  | miter m since seen last =>
    cases m with
    | none => exact ⟨_, r.2⟩
    | some m => obtain ⟨_, lm, _, hx⟩ := r; exact ⟨_, hx⟩

theorem Inv.blkLt {E : Env} {ρ : Rho} {h : H} {p : Hp} (i : Inv E ρ h p) {b : Nat} {o : CObj} {l : Loc} (ho : h.objs.get b = some o) (hl : ρ b = some l) : l.blk < p.size := by
  obtain ⟨y, hy⟩ := (i.obj b o l ho hl).inb
  exact (Array.getElem?_eq_some_iff.1 hy).1

/-- the streams and the outside are as they were -/
abbrev SameOut (w w' : World) : Prop := w'.os = w.os ∧ w'.output = w.output

structure Stp (N : Nat) (ρ ρ' : Rho) (h h' : H) (w w' : World) : Prop where
  mono : h.nx ≤ h'.nx
  ext : Ext ρ ρ'
  dom : ∀ b l, ρ' b = some l → ρ b = some l ∨ N ≤ b
  size : w.heap.size ≤ w'.heap.size
  frame : ∀ x, x < w.heap.size → (∀ b o l, h.objs.get b = some o → ρ b = some l → l.blk ≠ x) → w'.heap[x]? = w.heap[x]?
  fresh : ∀ b l, ρ' b = some l → ρ b = none → w.heap.size ≤ l.blk ∨ ∃ b0 o0 l0, h.objs.get b0 = some o0 ∧ ρ b0 = some l0 ∧ l0.blk = l.blk
  live : ∀ b o', h'.objs.get b = some o' → (∃ o, h.objs.get b = some o) ∨ N ≤ b
  same : SameOut w w'

theorem Stp.refl {N : Nat} {ρ : Rho} {h : H} {w : World} : Stp N ρ ρ h h w w :=
  ⟨Nat.le_refl _, .refl _, fun b l e => .inl e, Nat.le_refl _, fun _ _ _ => rfl, fun b l e e' => by simp [e] at e', fun b o e => .inl ⟨o, e⟩, rfl, rfl⟩

theorem Stp.key {E : Env} {ρ ρ' : Rho} {h h' : H} {w w' : World} (i : Inv E ρ h w.heap) (s : Stp h.nx ρ ρ' h h' w w') :
    ∀ b o l, h'.objs.get b = some o → ρ' b = some l → (∃ b0 o0 l0, h.objs.get b0 = some o0 ∧ ρ b0 = some l0 ∧ l0.blk = l.blk) ∨ w.heap.size ≤ l.blk := by
  intro b o l ho hl
  rcases s.dom b l hl with hρ | hn
  · rcases s.live b o ho with ⟨o0, h0⟩ | hn
    · exact .inl ⟨b, o0, l, h0, hρ, rfl⟩
    · have := i.dlt b l hρ; omega
  · cases hρ : ρ b with
    | none => rcases s.fresh b l hl hρ with h1 | h1
              · exact .inr h1
              · exact .inl h1
    | some l0 => have := i.dlt b l0 hρ; omega

theorem Stp.trans {E : Env} {N : Nat} {ρ ρ' ρ'' : Rho} {h h' h'' : H} {w w' w'' : World} (i : Inv E ρ h w.heap) (s : Stp h.nx ρ ρ' h h' w w') (hN : h.nx ≤ N) (s' : Stp N ρ' ρ'' h' h'' w' w'') :
    Stp h.nx ρ ρ'' h h'' w w'' := by
  have key := s.key i
  refine ⟨Nat.le_trans s.mono s'.mono, s.ext.trans s'.ext, ?_, Nat.le_trans s.size s'.size, ?_, ?_, ?_, s'.same.1.trans s.same.1, s'.same.2.trans s.same.2⟩
  · intro b l hl
    rcases s'.dom b l hl with h1 | h1
    · exact s.dom b l h1
    · exact .inr (Nat.le_trans hN h1)
  · intro x hx hno
    rw [s'.frame x (Nat.lt_of_lt_of_le hx s.size), s.frame x hx hno]
    intro b o l ho hl
    rcases key b o l ho hl with ⟨b0, o0, l0, h0, h1, h2⟩ | hge
    · rw [← h2]; exact hno b0 o0 l0 h0 h1
    · omega
  · intro b l hl hn
    cases hρ' : ρ' b with
    | some l1 =>
      have := s'.ext b l1 hρ'
      rw [hl] at this; cases this
      exact s.fresh b l hρ' hn
    | none =>
      rcases s'.fresh b l hl hρ' with h1 | ⟨b0, o0, l0, h0, h1, h2⟩
      · exact .inl (Nat.le_trans s.size h1)
      · rcases key b0 o0 l0 h0 h1 with ⟨b1, o1, l1, q0, q1, q2⟩ | hge
        · exact .inr ⟨b1, o1, l1, q0, q1, by rw [q2, h2]⟩
        · exact .inl (by omega)
  · intro b o ho
    rcases s'.live b o ho with ⟨o1, h1⟩ | h1
    · exact s.live b o1 h1
    · exact .inr (Nat.le_trans hN h1)

/-- fewer objects -/
theorem Inv.restrict {E : Env} {ρ : Rho} {h h' : H} {p : Hp} (i : Inv E ρ h p) (hsub : ∀ b o l, h'.objs.get b = some o → ρ b = some l → h.objs.get b = some o)
    (hlt : ∀ b o, h'.objs.get b = some o → b < h'.nx) (hd : ∀ b l, ρ b = some l → b < h'.nx) : Inv E ρ h' p :=
  ⟨fun b o l ho hl => i.obj b o l (hsub b o l ho hl) hl,
   fun b b' o o' l l' ho hl ho' hl' => i.inj b b' o o' l l' (hsub b o l ho hl) hl (hsub b' o' l' ho' hl') hl', hlt, hd⟩

def upd (ρ : Rho) (b : Nat) (l : Loc) : Rho := fun x => if x = b then some l else ρ x
theorem upd_self (ρ : Rho) (b : Nat) (l : Loc) : upd ρ b l b = some l := by simp [upd]
theorem upd_ext {ρ : Rho} {b : Nat} {l : Loc} (h : ρ b = none) : Ext ρ (upd ρ b l) := by
  intro x k hx
  unfold upd
  split
  · rename_i e; subst e; rw [h] at hx; cases hx
  · exact hx

/-- a new block under a new number -/
theorem Inv.alloc {E : Env} {ρ : Rho} {h : H} {w w' : World} (i : Inv E ρ h w.heap) (id nx' : Nat) (hid : ρ id = none) (hnl : h.objs.get id = none) (h1 : id < nx') (h2 : h.nx ≤ nx')
    (o : CObj) (ob : Obj) (l : Loc) (hblk : l.blk = w.heap.size) (hr : ORel E (upd ρ id l) o l (some ob)) (hw : w'.heap = w.heap.push ob) (hs : SameOut w w') :
    Inv E (upd ρ id l) ⟨h.objs.set id (some o), nx'⟩ w'.heap ∧ Stp id ρ (upd ρ id l) h ⟨h.objs.set id (some o), nx'⟩ w w' := by
  have hext := upd_ext (l := l) hid
  have hold : ∀ b o0 l0, b ≠ id → h.objs.get b = some o0 → upd ρ id l b = some l0 → ρ b = some l0 ∧ l0.blk < w.heap.size := by
    intro b o0 l0 hne ho hl
    have hl' : ρ b = some l0 := by simpa [upd, hne] using hl
    exact ⟨hl', i.blkLt ho hl'⟩
  refine ⟨⟨?_, ?_, ?_, ?_⟩, ⟨h2, hext, ?_, by rw [hw]; simp, ?_, ?_, ?_, hs⟩⟩
  · intro b o0 l0 ho hl
    rw [hw]
    by_cases hb : b = id
    · subst hb
      simp only [Tr.get_set_self, Option.some.injEq] at ho
      rw [upd_self] at hl
      simp only [Option.some.injEq] at hl
      subst ho hl
      rw [hblk, Array.getElem?_push_size]; exact hr
    · rw [Tr.get_set_ne _ _ _ hb] at ho
      obtain ⟨hl', hlt⟩ := hold b o0 l0 hb ho hl
      rw [Array.getElem?_push_lt hlt, ← Array.getElem?_eq_getElem hlt]
      exact (i.obj b o0 l0 ho hl').mono hext
  · intro b b' o0 o0' l0 l0' ho hl ho' hl' he
    by_cases hb : b = id <;> by_cases hb' : b' = id
    · rw [hb, hb']
    · rw [Tr.get_set_ne _ _ _ hb'] at ho'
      have := (hold b' o0' l0' hb' ho' hl').2
      subst hb; rw [upd_self] at hl; simp at hl; subst hl; omega
    · rw [Tr.get_set_ne _ _ _ hb] at ho
      have := (hold b o0 l0 hb ho hl).2
      subst hb'; rw [upd_self] at hl'; simp at hl'; subst hl'; omega
    · rw [Tr.get_set_ne _ _ _ hb] at ho
      rw [Tr.get_set_ne _ _ _ hb'] at ho'
      exact i.inj b b' o0 o0' l0 l0' ho (hold b o0 l0 hb ho hl).1 ho' (hold b' o0' l0' hb' ho' hl').1 he
  · intro b o0 ho
    by_cases hb : b = id
    · subst hb; exact h1
    · rw [Tr.get_set_ne _ _ _ hb] at ho
      exact Nat.lt_of_lt_of_le (i.lt b o0 ho) h2
  · intro b l0 hl
    by_cases hb : b = id
    · subst hb; exact h1
    · exact Nat.lt_of_lt_of_le (i.dlt b l0 (by simpa [upd, hb] using hl)) h2
  · intro b l0 hl
    by_cases hb : b = id
    · exact .inr (by omega)
    · exact .inl (by simpa [upd, hb] using hl)
  · intro x hx _
    rw [hw, Array.getElem?_push_lt hx, ← Array.getElem?_eq_getElem hx]
  · intro b l0 hl hn
    by_cases hb : b = id
    · subst hb; rw [upd_self] at hl; simp at hl; subst hl; exact .inl (by omega)
    · have : ρ b = some l0 := by simpa [upd, hb] using hl
      rw [hn] at this; cases this
  · intro b o0 ho
    by_cases hb : b = id
    · exact .inr (by omega)
    · rw [Tr.get_set_ne _ _ _ hb] at ho; exact .inl ⟨o0, ho⟩

/-- one live block written -/
theorem Inv.write {E : Env} {ρ : Rho} {h : H} {w w' : World} (i : Inv E ρ h w.heap) {b : Nat} {o o' : CObj} {l : Loc} (ho : h.objs.get b = some o) (hl : ρ b = some l)
    (hsz : w'.heap.size = w.heap.size) (hoth : ∀ x, x ≠ l.blk → w'.heap[x]? = w.heap[x]?) (hr : ORel E ρ o' l w'.heap[l.blk]?) (hs : SameOut w w') :
    Inv E ρ ⟨h.objs.set b (some o'), h.nx⟩ w'.heap ∧ Stp h.nx ρ ρ h ⟨h.objs.set b (some o'), h.nx⟩ w w' := by
  refine ⟨⟨?_, ?_, ?_, i.dlt⟩, ⟨Nat.le_refl _, .refl _, fun b l e => .inl e, by rw [hsz]; exact Nat.le_refl _, ?_, fun b l e e' => by simp [e] at e', ?_, hs⟩⟩
  · intro c o0 l0 hc hl0
    by_cases hb : c = b
    · subst hb
      simp only [Tr.get_set_self, Option.some.injEq] at hc
      rw [hl] at hl0; cases hl0; subst hc; exact hr
    · rw [Tr.get_set_ne _ _ _ hb] at hc
      rw [hoth l0.blk (fun e => hb (i.inj c b o0 o l0 l hc hl0 ho hl e))]
      exact i.obj c o0 l0 hc hl0
  · intro c c' o0 o0' l0 l0' hc hl0 hc' hl0' he
    have g : ∀ c o0, (h.objs.set b (some o')).get c = some o0 → ∃ o1, h.objs.get c = some o1 := by
      intro c o0 hc
      by_cases hb : c = b
      · subst hb; exact ⟨o, ho⟩
      · rw [Tr.get_set_ne _ _ _ hb] at hc; exact ⟨o0, hc⟩
    obtain ⟨o1, h1⟩ := g c o0 hc
    obtain ⟨o2, h2⟩ := g c' o0' hc'
    exact i.inj c c' o1 o2 l0 l0' h1 hl0 h2 hl0' he
  · intro c o0 hc
    by_cases hb : c = b
    · subst hb; exact i.lt c o ho
    · rw [Tr.get_set_ne _ _ _ hb] at hc; exact i.lt c o0 hc
  · intro x hx hno
    exact hoth x (fun e => hno b o l ho hl e.symm)
  · intro c o0 hc
    by_cases hb : c = b
    · subst hb; exact .inl ⟨o, ho⟩
    · rw [Tr.get_set_ne _ _ _ hb] at hc; exact .inl ⟨o0, hc⟩

end Go.CS

/- Reading and writing of cells: the evaluator's and the model's. -/
namespace Go.CS
open Go

theorem addr_add (b o n : Nat) : (⟨b, o, none⟩ : Addr).add n = ⟨b, o + n, none⟩ := by
  unfold Addr.add; split <;> simp_all

theorem cell_row {w : World} {b : Nat} {c : Array Value} {e : TypeId} {fr : Nat × Nat} (h : w.heap[b]? = some (.cells c e fr)) (o : Nat) :
    w.cell? ⟨b, o, none⟩ = c[o]? := by
  simp [World.cell?, h]

theorem frozen_row {w : World} {b : Nat} {c : Array Value} {e : TypeId} {fr : Nat × Nat} (h : w.heap[b]? = some (.cells c e fr)) {st : Nat} (hf : frz st fr c.size) (hs : st ≤ 1) {o : Nat} (ho : o < c.size) :
    w.frozen? ⟨b, o, none⟩ = false := by
  obtain ⟨lo, hi⟩ := fr
  simp only [World.frozen?, h, Bool.and_eq_false_iff, decide_eq_false_iff_not]
  rcases hf.2 hs with he | he
  · simp at he; right; omega
  · left; simp at he; omega

theorem one_one' {v : Value} (h : CS.oneCell v = true) : v.oneCell' = true := by
  cases v <;> first | rfl | (simp [CS.oneCell] at h)

theorem readCells_spec (c : Tr Value) : ∀ (n off : Nat) (l : List Value), readCells c off n = some l → l.length = n ∧ ∀ j v, l[j]? = some v → c.get (off + j) = some v := by
  intro n
  induction n with
  | zero => intro off l h; simp only [readCells, Option.some.injEq] at h; subst h; exact ⟨rfl, fun j v h => by simp at h⟩
  | succ n ih =>
    intro off l h
    simp only [readCells] at h
    cases hc : c.get off with
    | none => simp [hc] at h
    | some v =>
      cases hr : readCells c (off + 1) n with
      | none => simp [hc, hr] at h
      | some vs =>
        simp only [hc, hr, Option.some.injEq] at h
        subst h
        obtain ⟨h1, h2⟩ := ih _ _ hr
        refine ⟨by simp [h1], fun j u hj => ?_⟩
        cases j with
        | zero => simp at hj; subst hj; simpa using hc
        | succ j =>
          have := h2 j u (by simpa using hj)
          rwa [show off + (j + 1) = off + 1 + j by omega]

/-- what of a row is read, as the model reads it -/
theorem row_reads {E : Env} {ρ : Rho} {cells : Tr Value} {size : Nat} {elem : TypeId} {opn : Bool} {st : Nat} {l : Loc} {c : Array Value} {fr : Nat × Nat}
    (r : RowRel E ρ cells size elem opn st l c fr) {off n : Nat} {vs : List Value} (hle : off + n ≤ size) (h : readCells cells off n = some vs) :
    ∃ vs', vs'.length = n ∧ (∀ j v, vs'[j]? = some v → c[l.base + off + j]? = some v) ∧ LRel ρ vs vs' ∧ ∀ v ∈ vs', CS.oneCell v = true := by
  obtain ⟨h1, h2, h3, h4, h5, _⟩ := r
  obtain ⟨hn, hv⟩ := readCells_spec cells n off vs h
  have hlt : ∀ j, j < n → l.base + off + j < c.size := fun j hj => by omega
  refine ⟨(List.range n).map (fun j => (c[l.base + off + j]?).getD undef), by simp, ?_, ?_, ?_⟩
  · intro j v hj
    have hj' : j < n := by have := (List.getElem?_eq_some_iff.1 hj).1; simpa using this
    simp [hj', hlt j hj'] at hj
    simp [hlt j hj', hj]
  · refine ⟨by simp [hn], fun j x y hx hy => ?_⟩
    have hj' : j < n := by have := (List.getElem?_eq_some_iff.1 hx).1; omega
    obtain ⟨v', hv', hrel⟩ := h4 (off + j) x (by omega) (hv j x hx)
    rw [← Nat.add_assoc] at hv'
    simp [hj', hv'] at hy
    subst hy; exact hrel
  · intro v hvm
    obtain ⟨j, hj, rfl⟩ := List.mem_map.1 hvm
    have hj' : j < n := by simpa using hj
    simp only [hlt j hj', getElem?_pos, Option.getD_some]
    exact h5 (l.base + off + j) _ (by simp [hlt j hj'])

theorem loadCells_row {P : Program} {w : World} {b : Nat} {c : Array Value} {e : TypeId} {fr : Nat × Nat} (h : w.heap[b]? = some (.cells c e fr)) (off : Nat) (vs : List Value)
    (hv : ∀ j v, vs[j]? = some v → c[off + j]? = some v) : (Go.loadCells ⟨b, off, none⟩ vs.length).run P w = .ok vs.toArray w := by
  refine run_loadCells_list w ⟨b, off, none⟩ vs fun j v hj => ?_
  rw [addr_add, cell_row h]; exact hv j v hj

theorem loadCells_sound {E : Env} {ρ : Rho} {h : H} {w : World} (i : Inv E ρ h w.heap) {b o n : Nat} {vs : List Value} (hl : CS.loadCells h ⟨b, o, none⟩ n = some vs) {l : Loc} (hρ : ρ b = some l) :
    ∃ vs', (∀ P : Program, (Go.loadCells ⟨l.blk, l.base + o, none⟩ n).run P w = .ok vs'.toArray w) ∧ LRel ρ vs vs' ∧ (∀ v ∈ vs', CS.oneCell v = true) ∧ vs'.length = n ∧
      (∀ (j : Nat) (v : Value), vs'[j]? = some v → w.cell? ⟨l.blk, l.base + o + j, none⟩ = some v) := by
  simp only [CS.loadCells] at hl
  cases hg : h.objs.get b with
  | none => simp [hg] at hl
  | some ob =>
    cases ob with
    | row cells size elem opn st =>
      simp only [hg, cond_eq_ite] at hl
      split at hl
      · rename_i hle
        obtain ⟨c, fr, hx, hr⟩ := i.obj b _ l hg hρ
        obtain ⟨vs', h1, h2, h3, h4⟩ := row_reads hr (by simpa using hle) hl
        refine ⟨vs', fun P => ?_, h3, h4, h1, fun j v hj => by rw [cell_row hx]; exact h2 j v hj⟩
        rw [← h1]; exact loadCells_row hx _ _ h2
      · cases hl
    | map => simp [hg] at hl
    | siter => simp [hg] at hl
    | miter => simp [hg] at hl

/-! ### writing -/

theorem writeCells_get (vs : List Value) : ∀ (c : Tr Value) (off k : Nat), (writeCells c off vs).get k = if off ≤ k ∧ k < off + vs.length then vs[k - off]? else c.get k := by
  induction vs with
  | nil => intro c off k; rw [if_neg (by simp)]; rfl
  | cons v vs ih =>
    intro c off k
    simp only [writeCells, ih, Tr.get_set]
    by_cases h : k = off
    · subst h; rw [if_neg (by omega), if_pos rfl, if_pos (by simp)]; simp
    · by_cases h2 : off + 1 ≤ k ∧ k < off + 1 + vs.length
      · have : k - off = (k - (off + 1)) + 1 := by omega
        rw [if_pos h2, if_pos (by simp; omega), this]; simp
      · rw [if_neg h2, if_neg h, if_neg (by simp; omega)]

theorem setCell_heap {w : World} {b : Nat} {c : Array Value} {e : TypeId} {fr : Nat × Nat} (h : w.heap[b]? = some (.cells c e fr)) (o : Nat) (v : Value) :
    (w.setCell ⟨b, o, none⟩ v).heap[b]? = some (.cells (c.setIfInBounds o v) e fr) ∧ (w.setCell ⟨b, o, none⟩ v).heap.size = w.heap.size ∧
      ∀ x, x ≠ b → (w.setCell ⟨b, o, none⟩ v).heap[x]? = w.heap[x]? := by
  refine ⟨?_, by simp [World.setCell], fun x hx => ?_⟩
  · simp [World.setCell, Array.getElem?_modify, h]
  · simp [World.setCell, Array.getElem?_modify, Ne.symm hx]

theorem setCells_heap (vs : List Value) : ∀ {w : World} {b : Nat} {c : Array Value} {e : TypeId} {fr : Nat × Nat} (_ : w.heap[b]? = some (.cells c e fr)) (o : Nat),
    ∃ c', (w.setCells b o vs).heap[b]? = some (.cells c' e fr) ∧ c'.size = c.size ∧ (∀ k, c'[k]? = if o ≤ k ∧ k < o + vs.length ∧ k < c.size then vs[k - o]? else c[k]?) ∧
      (w.setCells b o vs).heap.size = w.heap.size ∧ (∀ x, x ≠ b → (w.setCells b o vs).heap[x]? = w.heap[x]?) := by
  induction vs with
  | nil => intro w b c e fr h o; exact ⟨c, h, rfl, fun k => by rw [if_neg (by simp; omega)], rfl, fun x _ => rfl⟩
  | cons v vs ih =>
    intro w b c e fr h o
    obtain ⟨h1, h2, h3⟩ := setCell_heap h o v
    obtain ⟨c', g1, g2, g3, g4, g5⟩ := ih h1 (o + 1)
    refine ⟨c', g1, by simpa using g2, fun k => ?_, by rw [World.setCells, g4, h2], fun x hx => by rw [World.setCells, g5 x hx, h3 x hx]⟩
    rw [g3]
    by_cases hk : k = o
    · subst hk
      rw [if_neg (by omega)]
      by_cases hs : k < c.size
      · rw [if_pos ⟨by omega, by simp, hs⟩]; simp [hs]
      · rw [if_neg (by omega)]; simp [hs]
    · by_cases h4 : o + 1 ≤ k ∧ k < o + 1 + vs.length ∧ k < (c.setIfInBounds o v).size
      · have : k - o = (k - (o + 1)) + 1 := by omega
        simp only [Array.size_setIfInBounds] at h4
        rw [if_pos (by simp; omega), if_pos (by simp; omega), this]; simp
      · simp only [Array.size_setIfInBounds] at h4
        rw [if_neg (by simp; omega), if_neg (by simp; omega), Array.getElem?_setIfInBounds_ne (Ne.symm hk)]

theorem setCells_same (vs : List Value) : ∀ (w : World) (b o : Nat), SameOut w (w.setCells b o vs) := by
  induction vs with
  | nil => intro w b o; exact ⟨rfl, rfl⟩
  | cons v vs ih =>
    intro w b o
    have := ih (w.setCell ⟨b, o, none⟩ v) b (o + 1)
    exact ⟨this.1, this.2⟩

theorem storeCells_sound {E : Env} {ρ : Rho} {h h' : H} {w : World} (i : Inv E ρ h w.heap) {b o : Nat} {vs vs' : List Value} (hl : CS.storeCells h ⟨b, o, none⟩ vs = some h')
    (hr : LRel ρ vs vs') {l : Loc} (hρ : ρ b = some l) :
    ∃ w', (∀ P : Program, (Go.storeCells ⟨l.blk, l.base + o, none⟩ vs').run P w = .ok () w') ∧ Inv E ρ h' w'.heap ∧ Stp h.nx ρ ρ h h' w w' := by
  simp only [CS.storeCells] at hl
  cases hg : h.objs.get b with
  | none => simp [hg] at hl
  | some ob =>
    cases ob with
    | map => simp [hg] at hl
    | siter => simp [hg] at hl
    | miter => simp [hg] at hl
    | row cells size elem opn st =>
      simp only [hg, cond_eq_ite] at hl
      split at hl
      · rename_i hc
        simp only [Bool.and_eq_true] at hc
        obtain ⟨⟨hle, hst⟩, hone⟩ := hc
        have hle : o + vs.length ≤ size := by simpa using hle
        have hst : st ≤ 1 := by simpa using hst
        simp only [Option.some.injEq] at hl
        subst hl
        obtain ⟨c, fr, hx, h1, h2, h3, h4, h5, h6, h7, h8⟩ := i.obj b _ l hg hρ
        have hlen := hr.1
        have hone' : ∀ v ∈ vs', CS.oneCell v = true := by
          intro v hv
          obtain ⟨j, hj⟩ := List.mem_iff_getElem?.1 hv
          have hjl : j < vs.length := by have := (List.getElem?_eq_some_iff.1 hj).1; omega
          have := hr.2 j vs[j] v (by simp [hjl]) hj
          rw [this.oneCell]
          exact (allB_iff _ _).1 hone _ (List.getElem_mem hjl)
        obtain ⟨c', g1, g2, g3, g4, g5⟩ := setCells_heap vs' hx (l.base + o)
        refine ⟨w.setCells l.blk (l.base + o) vs', fun P => ?_, ?_⟩
        · have := run_storeCells_cells (P := P) l.blk (l.base + o) vs' 0 w (fun j hj => by rw [cell_row hx]; simp; omega)
            (fun j hj => frozen_row hx h8 hst (by simp; omega)) (fun v hv => one_one' (hone' v hv))
          simpa using this
        · refine i.write hg hρ g4 g5 ⟨c', fr, g1, h1, h2, by omega, ?_, ?_, ?_, h7, by rw [g2]; exact h8⟩ (setCells_same _ _ _ _)
          · intro k v hk hv
            rw [writeCells_get] at hv
            rw [g3]
            by_cases hin : o ≤ k ∧ k < o + vs.length
            · rw [if_pos hin] at hv
              rw [if_pos ⟨by omega, by omega, by omega⟩, show l.base + k - (l.base + o) = k - o by omega]
              exact hr.get hv
            · rw [if_neg hin] at hv
              rw [if_neg (by omega)]
              exact h4 k v hk hv
          · intro k v hk
            rw [g3] at hk
            split at hk
            · exact hone' v (List.mem_iff_getElem?.2 ⟨_, hk⟩)
            · exact h5 k v hk
          · intro ho
            obtain ⟨q1, q2, q3⟩ := h6 ho
            exact ⟨q1, q2, by omega⟩
      · cases hl

end Go.CS

