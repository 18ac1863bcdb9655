/- Maps by numbers, for running inside the kernel. -/
import Derived.Test.YtaeoiohcalonkaaGreatDoorAxFunc
set_option linter.unusedVariables false
set_option linter.unusedSimpArgs false
namespace Go.Ax
open Go

inductive Tr (α : Type) where
  | nil
  | node (v : Option α) (l r : Tr α)

namespace Tr
variable {α : Type}

def get : Tr α → Nat → Option α
  | nil, _ => none
  | node v l r, n => match n with
    | 0 => v
    | n + 1 => match n % 2 with
      | 0 => l.get (n / 2)
      | _ => r.get (n / 2)

def forceT {β : Type} (t : Tr α) (k : Tr α → β) : β :=
  match t with
  | nil => k nil
  | node v l r => k (node v l r)
theorem forceT_eq {β : Type} (t : Tr α) (k : Tr α → β) : forceT t k = k t := by cases t <;> rfl

def setA : Nat → Tr α → Nat → Option α → Tr α
  | 0, t, _, _ => t
  | f + 1, nil, n, x => match n with
    | 0 => node x nil nil
    | n + 1 => match n % 2 with
      | 0 => forceT (setA f nil (n / 2) x) fun t => node none t nil
      | _ => forceT (setA f nil (n / 2) x) fun t => node none nil t
  | f + 1, node v l r, n, x => match n with
    | 0 => node x l r
    | n + 1 => match n % 2 with
      | 0 => forceT (setA f l (n / 2) x) fun t => node v t r
      | _ => forceT (setA f r (n / 2) x) fun t => node v l t

def set (t : Tr α) (n : Nat) (x : Option α) : Tr α := setA (n + 1) t n x

theorem get_nil (n : Nat) : (nil : Tr α).get n = none := rfl

theorem get_zero (v : Option α) (l r : Tr α) : (node v l r).get 0 = v := rfl
theorem get_succ (v : Option α) (l r : Tr α) (n : Nat) : (node v l r).get (n + 1) = if n % 2 = 0 then l.get (n / 2) else r.get (n / 2) := by
  show (match n % 2 with | 0 => l.get (n / 2) | _ => r.get (n / 2)) = _
  rcases Nat.mod_two_eq_zero_or_one n with h | h <;> rw [h] <;> rfl

/-- Without looking at the tree's own shape. -/
theorem setA_eq (f : Nat) (t : Tr α) (n : Nat) (x : Option α) : ∃ v l r, (∀ m, t.get m = (node v l r : Tr α).get m) ∧
    setA (f + 1) t n x = match n with
      | 0 => node x l r
      | n + 1 => match n % 2 with
        | 0 => node v (setA f l (n / 2) x) r
        | _ => node v l (setA f r (n / 2) x) := by
  cases t with
  | nil =>
    refine ⟨none, nil, nil, fun m => ?_, ?_⟩
    · cases m with
      | zero => rfl
      | succ m => rw [get_succ]; simp [get_nil]
    · cases n with
      | zero => rfl
      | succ n => simp only [setA, forceT_eq]
  | node v l r =>
    refine ⟨v, l, r, fun _ => rfl, ?_⟩
    cases n with
    | zero => rfl
    | succ n => simp only [setA, forceT_eq]

theorem get_setA : ∀ (f : Nat) (t : Tr α) (n m : Nat) (x : Option α), n < f → (setA f t n x).get m = if m = n then x else t.get m
  | 0, _, _, _, _, h => by omega
  | f + 1, t, n, m, x, h => by
    obtain ⟨v, l, r, hg, he⟩ := setA_eq f t n x
    rw [he, hg m]
    cases n with
    | zero =>
      cases m with
      | zero => rfl
      | succ m => rw [if_neg (by omega)]; simp only [get_succ]
    | succ n =>
      have ih := fun (t : Tr α) (m : Nat) => get_setA f t (n / 2) m x (by omega)
      simp only
      rcases Nat.mod_two_eq_zero_or_one n with h2 | h2
      · rw [h2]
        cases m with
        | zero => simp [get_zero]
        | succ m =>
          simp only [get_succ, ih]
          rcases Nat.mod_two_eq_zero_or_one m with h3 | h3
          · simp only [h3, if_true]
            by_cases hmn : m = n
            · subst hmn; simp
            · rw [if_neg (by omega), if_neg (by omega)]
          · have hne : m + 1 ≠ n + 1 := by omega
            simp only [h3, if_neg hne, Nat.one_ne_zero, if_false]
      · rw [h2]
        cases m with
        | zero => simp [get_zero]
        | succ m =>
          simp only [get_succ, ih]
          rcases Nat.mod_two_eq_zero_or_one m with h3 | h3
          · have hne : m + 1 ≠ n + 1 := by omega
            simp only [h3, if_neg hne, if_true]
          · simp only [h3, Nat.one_ne_zero, if_false]
            by_cases hmn : m = n
            · subst hmn; simp
            · rw [if_neg (by omega), if_neg (by omega)]

theorem get_set (t : Tr α) (n m : Nat) (x : Option α) : (t.set n x).get m = if m = n then x else t.get m := get_setA _ t n m x (by omega)

end Tr
end Go.Ax
