/- An abstract evaluator for functions of the model: values with names of blocks in the place of addresses; a heap of named blocks. Definitions only; nothing here speaks of one program. -/
import GoSem.Dispatch
import Derived.OrdersIn
namespace Go.Abs

/-! ### A trie over Nat -/
inductive Tr (α : Type) where
  | nil
  | node (l : Tr α) (v : Option α) (r : Tr α)
namespace Tr
variable {α : Type}
def get : Tr α → Nat → Option α
  | .nil, _ => none
  | .node l v r, n => match n with
    | 0 => v
    | m + 1 => bif Nat.beq (m % 2) 0 then l.get (m / 2) else r.get (m / 2)
def setAux : Nat → Tr α → Nat → Option α → Tr α
  | 0, t, _, _ => t
  | f + 1, .nil, n, x => match n with
    | 0 => .node .nil x .nil
    | m + 1 => bif Nat.beq (m % 2) 0 then .node (setAux f .nil (m / 2) x) none .nil else .node .nil none (setAux f .nil (m / 2) x)
  | f + 1, .node l v r, n, x => match n with
    | 0 => .node l x r
    | m + 1 => bif Nat.beq (m % 2) 0 then .node (setAux f l (m / 2) x) v r else .node l v (setAux f r (m / 2) x)
def set (t : Tr α) (n : Nat) (x : α) : Tr α := setAux (n + 1) t n (some x)
def del (t : Tr α) (n : Nat) : Tr α := setAux (n + 1) t n none

theorem get_nil (n : Nat) : (Tr.nil : Tr α).get n = none := rfl
theorem get_setAux : ∀ (f : Nat) (t : Tr α) (n m : Nat) (x : Option α), n < f → (setAux f t n x).get m = if m = n then x else t.get m := by
  intro f
  induction f with
  | zero => intro t n m x h; omega
  | succ f ih =>
    intro t n m x h
    cases n with
    | zero => cases t <;> cases m <;> simp [setAux, get]
    | succ n =>
      have hlt : n / 2 < f := by omega
      have h10 : Nat.beq 1 0 = false := rfl
      cases m with
      | zero => rcases Nat.mod_two_eq_zero_or_one n with hn | hn <;> cases t <;> simp [setAux, get, hn, h10]
      | succ m =>
        by_cases hmn : m = n
        · subst hmn
          rcases Nat.mod_two_eq_zero_or_one m with hn | hn <;> cases t <;> simp [setAux, get, hn, h10, ih _ _ _ _ hlt]
        · rcases Nat.mod_two_eq_zero_or_one n with hn | hn <;> rcases Nat.mod_two_eq_zero_or_one m with hm | hm <;> cases t <;>
            simp [setAux, get, hn, hm, h10, hmn, ih _ _ _ _ hlt]
          all_goals (intro h; exact absurd h (by omega))
theorem get_set (t : Tr α) (n m : Nat) (x : α) : (t.set n x).get m = if m = n then some x else t.get m := get_setAux _ _ _ _ _ (by omega)
theorem get_del (t : Tr α) (n m : Nat) : (t.del n).get m = if m = n then none else t.get m := get_setAux _ _ _ _ _ (by omega)
theorem get_set_same (t : Tr α) (n : Nat) (x : α) : (t.set n x).get n = some x := by simp [get_set]
theorem get_set_ne (t : Tr α) {n m : Nat} (x : α) (h : m ≠ n) : (t.set n x).get m = t.get m := by simp [get_set, h]
end Tr
end Go.Abs
