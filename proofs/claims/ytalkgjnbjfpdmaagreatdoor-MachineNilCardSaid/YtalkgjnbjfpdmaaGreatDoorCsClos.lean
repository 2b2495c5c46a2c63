/- The functions that a function leads to, by a table of names. No condition. -/
import Derived.Test.YtalkgjnbjfpdmaaGreatDoorCsRel
import GoSem.ClaimFn
namespace Go.CS
open Go

def nthN : List (List Nat) → Nat → List Nat
  | [], _ => []
  | l :: _, 0 => l
  | _ :: r, n + 1 => nthN r n

def cgo (lead : List (List Nat)) : Nat → List Nat → List Nat → Tr Unit → List Nat
  | 0, _, seen, _ => seen.reverse
  | _ + 1, [], seen, _ => seen.reverse
  | n + 1, f :: todo, seen, tr => match tr.get f with
    | some _ => cgo lead n todo seen tr
    | none => cgo lead n (nthN lead f ++ todo) (f :: seen) (tr.set f (some ()))

theorem nthN_eq : ∀ (l : List (List Nat)) (f : Nat), nthN l f = (l[f]?).getD [] := by
  intro l
  induction l with
  | nil => intro f; simp [nthN]
  | cons a l ih =>
    intro f
    cases f with
    | zero => simp [nthN]
    | succ f => simp only [nthN, List.getElem?_cons_succ]; exact ih f

theorem lead_of {P : Program} {lead : List (List Nat)} (hm : P.funcs.toList.map P.leadsTo = lead) (f : Nat) : (P.funcs[f]?).elim [] P.leadsTo = nthN lead f := by
  rw [nthN_eq, ← hm, List.getElem?_map, Array.getElem?_toList]
  cases P.funcs[f]? <;> rfl

theorem cgo_eq {P : Program} {lead : List (List Nat)} (hl : ∀ f, (P.funcs[f]?).elim [] P.leadsTo = nthN lead f) : ∀ (n : Nat) (todo seen : List Nat) (tr : Tr Unit), (∀ x, seen.contains x = (tr.get x).isSome) → P.closureVia n todo seen = cgo lead n todo seen tr := by
  intro n
  induction n with
  | zero => intro todo seen tr _; rfl
  | succ n ih =>
    intro todo seen tr hs
    cases todo with
    | nil => rfl
    | cons f todo =>
      simp only [Program.closureVia, cgo]
      have hf := hs f
      cases hg : tr.get f with
      | some u =>
        rw [hg] at hf
        rw [if_pos (by simpa using hf)]
        exact ih _ _ _ hs
      | none =>
        rw [hg] at hf
        rw [if_neg (by simpa using hf), hl]
        refine ih _ _ _ fun x => ?_
        rw [Tr.get_set]
        by_cases hx : x = f
        · subst hx; simp
        · rw [if_neg hx, ← hs x]
          simp [hx]

def leadSum : List (List Nat) → Nat
  | [] => 0
  | l :: r => l.length + 1 + leadSum r
theorem leadSum_eq (P : Program) : ∀ (l : List Func), (l.map fun g => (P.leadsTo g).length + 1).sum = leadSum (l.map P.leadsTo)
  | [] => rfl
  | f :: l => by simp only [List.map_cons, List.sum_cons, leadSum, leadSum_eq P l]

theorem closure_is {P : Program} {lead : List (List Nat)} (hm : P.funcs.toList.map P.leadsTo = lead) (f : Nat) {L : List Nat} (h : cgo lead (1 + leadSum lead) [f] [] .e = L) : P.closure f = L := by
  unfold Program.closure
  rw [leadSum_eq, hm, cgo_eq (lead_of hm) _ _ _ .e (fun x => by simp [Tr.get_e])]
  exact h
end Go.CS
