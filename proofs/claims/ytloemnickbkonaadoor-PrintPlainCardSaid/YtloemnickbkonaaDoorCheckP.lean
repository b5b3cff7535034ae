/- tree.Check: plain. -/
import Derived.Test.YtloemnickbkonaaDoorPre
import Derived.Test.YtloemnickbkonaaDoorKeyed
namespace Go.Proofs.YtloemnickbkonaaDoor
open Go.RowKit Go.Proofs.YtloemnickbkonaaDoorW.PrintWords
set_option linter.unusedVariables false

/-- What Check finds at the node that is number n (counted from 0), at the level b; 0: nothing. -/
def stepE (n : Nat) (p : Int × Nd) : Int := if n + 1 > 4096 then 5 else if p.1 ≥ 64 then 61 else if suchB p.2 then keyedE p.2 else 60
def checkL (n : Nat) : List (Int × Nd) → Int
  | [] => 0
  | p :: r => if stepE n p = 0 then checkL (n + 1) r else stepE n p
/-- tree.Check. -/
def checkE (t : Nd) : Int := checkL 0 (preN 0 t)
/-- Nothing was found so far. -/
def passed (n : Nat) : List (Int × Nd) → Prop
  | [] => True
  | p :: r => stepE n p = 0 ∧ passed (n + 1) r
theorem passed_snoc (l : List (Int × Nd)) (p : Int × Nd) : ∀ n, passed n (l ++ [p]) ↔ passed n l ∧ stepE (n + l.length) p = 0 := by
  induction l with
  | nil => intro n; simp [passed]
  | cons x l ih =>
    intro n
    simp only [List.cons_append, passed, ih, List.length_cons, and_assoc]
    rw [show n + 1 + l.length = n + (l.length + 1) from by omega]
theorem checkL_pass (l r : List (Int × Nd)) : ∀ n, passed n l → checkL n (l ++ r) = checkL (n + l.length) r := by
  induction l with
  | nil => intro n _; simp
  | cons x l ih =>
    intro n h
    simp only [List.cons_append, checkL, List.length_cons]
    rw [if_pos h.1, ih _ h.2, show n + 1 + l.length = n + (l.length + 1) from by omega]
theorem checkL_all (l : List (Int × Nd)) (h : passed 0 l) : checkL 0 l = 0 := by
  have := checkL_pass l [] 0 h
  rw [List.append_nil] at this
  rw [this]; rfl
theorem checkL_stop (l r : List (Int × Nd)) (p : Int × Nd) (h : passed 0 l) (hp : stepE l.length p ≠ 0) : checkL 0 (l ++ p :: r) = stepE l.length p := by
  rw [checkL_pass l _ 0 h, Nat.zero_add, checkL, if_neg hp]
theorem passed_le (l : List (Int × Nd)) (h : passed 0 l) : l.length ≤ 4096 := by
  rcases Nat.eq_zero_or_pos l.length with h0 | h0
  · omega
  · have hne : l ≠ [] := by intro e; subst e; simp at h0
    have hd := List.dropLast_concat_getLast hne
    rw [← hd] at h
    have h1 := ((passed_snoc _ _ 0).1 h).2
    have hl := congrArg List.length hd
    rw [List.length_append, List.length_singleton] at hl
    unfold stepE at h1
    split at h1
    · cases h1
    · omega
end Go.Proofs.YtloemnickbkonaaDoor
