/- Rows of children as the program's grow makes them, and its map of births: plain. No program's code. -/
import Derived.Test.YtocoonkachbjaaaVwIns
namespace Go.Proofs.Ytocoonkachbjaaa
set_option linter.unusedVariables false
namespace Vt

/-- The rows: of the roots, then of each one's children. -/
def krow (l : List (Int × Int)) (n : Nat) : Nat → List Nat
  | 0 => roots l n
  | p + 1 => kidsN l n p
/-- The row in which the n-th one goes. -/
def upN (l : List (Int × Int)) (n : Nat) : Nat := match par l n with
  | none => 0
  | some p => p + 1
theorem upN_le (l : List (Int × Int)) (n : Nat) : upN l n ≤ n := by
  unfold upN
  cases h : par l n with
  | none => exact Nat.zero_le _
  | some p => exact par_lt h
theorem krow_zero (l : List (Int × Int)) (r : Nat) : krow l 0 r = [] := by cases r <;> rfl
theorem krow_succ (l : List (Int × Int)) (n r : Nat) : krow l (n + 1) r = if r = upN l n then krow l n r ++ [n] else krow l n r := by
  unfold upN
  cases h : par l n with
  | none =>
    simp only
    cases r with
    | zero => simp [krow, roots, h]
    | succ p => simp [krow, kidsN_none h]
  | some q =>
    simp only
    cases r with
    | zero => simp [krow, roots, h]
    | succ p =>
      show kidsN l (n + 1) p = _
      rw [kidsN_some h]
      unfold more
      by_cases e : p = q
      · subst e; simp [krow]
      · simp [krow, e]
theorem krow_lt (l : List (Int × Int)) (n r : Nat) : ∀ j ∈ krow l n r, j < n := fun j hj => by
  cases r with
  | zero => exact roots_lt l n j hj
  | succ p => exact (kids_up l n p j hj).2
theorem krow_len (l : List (Int × Int)) : ∀ n r, (krow l n r).length ≤ n
  | 0, r => by rw [krow_zero]; exact Nat.le_refl _
  | n + 1, r => by
    have := krow_len l n r
    rw [krow_succ]
    split
    · simp; exact this
    · omega
theorem lastTo_succ (l : List (Int × Int)) (up : Int) (k : Nat) : lastTo l up (k + 1) = if (l[k]?).map (·.1) = some up then some k else lastTo l up k := rfl
theorem upN_eq {l : List (Int × Int)} {n : Nat} {x : Int × Int} (h : l[n]? = some x) : upN l n = if x.2 = 0 then 0 else match lastTo l x.2 n with
  | none => 0
  | some p => p + 1 := by
  unfold upN par
  rw [h]
  simp only
  by_cases e : x.2 = 0
  · rw [if_pos e, if_pos e]
  · rw [if_neg e, if_neg e]
/-- The walk's children of one are those of the row behind. -/
theorem kidsN_row (l : List (Int × Int)) (n p : Nat) : kidsN l n p = krow l n (p + 1) := rfl
end Vt
end Go.Proofs.Ytocoonkachbjaaa
