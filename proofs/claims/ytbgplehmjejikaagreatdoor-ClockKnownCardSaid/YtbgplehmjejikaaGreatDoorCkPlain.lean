/- Durations read: what clock.Parse and the reference's Parse compute, on lists of bytes; what is printed is read, what is read is printed. No program's code. -/
import Derived.Test.YtbgplehmjejikaaGreatDoorClkPrint
import Derived.Lib.AtoiAll
import Derived.Lib.ItoaMem
namespace Go.Proofs.YtbgplehmjejikaaGreatDoor
open Go.RowKit
set_option linter.unusedVariables false
namespace Ck

abbrev Bs := List UInt8
def dig (c : UInt8) : Bool := decide (48 ≤ c.toNat ∧ c.toNat ≤ 57)
def stp (a : Nat) (c : UInt8) : Nat := 10 * a + (c.toNat - 48)
/-- What digits say, behind others. -/
def val (a : Nat) (l : Bs) : Nat := l.foldl stp a
/-- Great numbers are told as 2^40 + 1. -/
def sat (n : Nat) : Nat := min n 1099511627777

theorem val_nil (a : Nat) : val a [] = a := List.foldl_nil
theorem val_cons (a : Nat) (c : UInt8) (r : Bs) : val a (c :: r) = val (stp a c) r := List.foldl_cons ..
theorem val_le (l : Bs) : ∀ a, a ≤ val a l := by
  induction l with
  | nil => intro a; rw [val_nil]; exact Nat.le_refl a
  | cons c r ih => intro a; have h := ih (stp a c); rw [val_cons]; refine Nat.le_trans ?_ h; unfold stp; omega
theorem val_app (l m : Bs) (a : Nat) : val a (l ++ m) = val (val a l) m := List.foldl_append
theorem sat_le (n : Nat) : sat n ≤ 1099511627777 := by unfold sat; exact Nat.min_le_right _ _
theorem sat_step (a d : Nat) : sat (10 * sat a + d) = sat (10 * a + d) := by unfold sat; omega

theorem parse_dig : ∀ (l : Bs) (acc : Nat), l.all dig = true → acc < 18446744073709551616 → Lib.parseUint10 acc l = if val acc l < 18446744073709551616 then .ok (val acc l) else .range
  | [], acc, _, h => by rw [val_nil, if_pos h]; rfl
  | c :: r, acc, hd, h => by
    simp only [List.all_cons, Bool.and_eq_true] at hd
    have hc : 48 ≤ c.toNat ∧ c.toNat ≤ 57 := of_decide_eq_true hd.1
    have hle := val_le r (stp acc c)
    have hst : stp acc c = acc * 10 + (c.toNat - 48) := by unfold stp; omega
    rw [val_cons]
    simp only [Lib.parseUint10]
    rw [if_pos hc]
    by_cases h1 : 1844674407370955162 ≤ acc
    · rw [if_pos h1, if_neg (by omega)]
    · rw [if_neg h1]
      by_cases h2 : 18446744073709551616 ≤ acc * 10 + (c.toNat - 48)
      · rw [if_pos h2, if_neg (by omega)]
      · rw [if_neg h2, ← hst]
        exact parse_dig r _ hd.2 (by omega)

theorem atoi_dig (l : Bs) (hne : l ≠ []) (hd : l.all dig = true) : Lib.atoiAll l = if val 0 l < 9223372036854775808 then .ok ((val 0 l : Nat) : Int) else .range := by
  cases l with
  | nil => exact absurd rfl hne
  | cons c r =>
    have hd' := hd
    simp only [List.all_cons, Bool.and_eq_true] at hd'
    have hc : 48 ≤ c.toNat ∧ c.toNat ≤ 57 := of_decide_eq_true hd'.1
    unfold Lib.atoiAll
    have e1 : ¬ (c.toNat = 43 ∨ c.toNat = 45) := by omega
    have e2 : ¬ c.toNat = 45 := by omega
    simp only [if_neg e1, if_neg e2]
    unfold Lib.parseMag
    rw [if_neg hne, parse_dig (c :: r) 0 hd (by omega)]
    by_cases h1 : val 0 (c :: r) < 18446744073709551616
    · rw [if_pos h1]
      simp only [e2, not_false_eq_true, true_and, false_and, if_false]
      by_cases h2 : val 0 (c :: r) < 9223372036854775808
      · rw [if_pos h2, if_neg (by omega)]
      · rw [if_neg h2, if_pos (by omega)]
    · rw [if_neg h1, if_neg (by omega)]

def numOf (ds r : Bs) : Option (Nat × Bs) :=
  match ds with
  | [] => none
  | c :: _ => if c = 48 then none else some (sat (val 0 ds), r)
/-- The digits ahead: no nought is the first one; what they say; the rest. -/
def num (l : Bs) : Option (Nat × Bs) := numOf (l.takeWhile dig) (l.dropWhile dig)

/-- The part that a letter names, from part k on; 4: none. -/
def find (k : Nat) (c : UInt8) : Nat :=
  if 4 ≤ k then 4 else if letterOf k = (c.toNat : Int) then k else find (k + 1) c
termination_by 4 - k

def parseFrom : Nat → Nat → Nat → Bs → Option Nat
  | _, _, sum, [] => some sum
  | 0, _, _, _ :: _ => none
  | n + 1, k, sum, a :: l =>
    match num (a :: l) with
    | none => none
    | some (_, []) => none
    | some (v, c :: t) => if find k c = 4 ∨ mostOf (find k c) < (v : Int) then none else parseFrom n (find k c + 1) (sat (sum + v * (worthOf (find k c)).toNat)) t

/-- How a text is read: the number; the error (0: none). -/
def parseL (l : Bs) : Int × Int :=
  if l = [48, 115] then (0, 0) else if l = [] then (0, 4) else
    match parseFrom 5 0 0 l with
    | none => (0, 4)
    | some n => if 1099511627776 < n then (0, 12) else ((n : Int), 0)

theorem find_le (k : Nat) (c : UInt8) (hk : k ≤ 4) : k ≤ find k c ∧ find k c ≤ 4 := by
  unfold find
  by_cases h : 4 ≤ k
  · rw [if_pos h]; omega
  · rw [if_neg h]
    split
    · omega
    · have := find_le (k + 1) c (by omega); omega
termination_by 4 - k

theorem find_skip (k : Nat) (c : UInt8) : ∀ m, k ≤ m → m < find k c → letterOf m ≠ (c.toNat : Int) := by
  intro m h1 h2
  by_cases hk : 4 ≤ k
  · unfold find at h2; rw [if_pos hk] at h2; omega
  · have e := h2
    unfold find at e
    rw [if_neg hk] at e
    by_cases h : letterOf k = (c.toNat : Int)
    · rw [if_pos h] at e; omega
    · rw [if_neg h] at e
      by_cases hm : m = k
      · rw [hm]; exact h
      · exact find_skip (k + 1) c m (by omega) e
termination_by 4 - k

theorem find_hit (k : Nat) (c : UInt8) (h : find k c < 4) : letterOf (find k c) = (c.toNat : Int) := by
  by_cases hk : 4 ≤ k
  · unfold find at h; rw [if_pos hk] at h; omega
  · unfold find at h ⊢
    rw [if_neg hk] at h ⊢
    by_cases hl : letterOf k = (c.toNat : Int)
    · rw [if_pos hl]; exact hl
    · rw [if_neg hl] at h ⊢
      exact find_hit (k + 1) c h
termination_by 4 - k

end Ck
end Go.Proofs.YtbgplehmjejikaaGreatDoor
