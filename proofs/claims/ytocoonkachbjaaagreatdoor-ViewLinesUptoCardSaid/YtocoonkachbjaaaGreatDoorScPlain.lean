/- Books of scopes, plain: which lists of names are books; sets of them as numbers. No program's code. -/
import Derived.Test.YtocoonkachbjaaaGreatDoorNmUnder
import Derived.Test.YtocoonkachbjaaaGreatDoorTexts
namespace Go.Proofs.YtocoonkachbjaaaGreatDoor
open Go.Proofs.NmPlain
set_option linter.unusedVariables false

def hasB (l : List ByteArray) (x : ByteArray) : Bool := l.any fun y => decide (y = x)
theorem hasB_iff {l : List ByteArray} {x : ByteArray} : hasB l x = true ↔ x ∈ l := by
  simp [hasB, List.any_eq_true]

/-- What is wrong with a list of names from place i on: the number, the place. -/
def newAt (ls : List ByteArray) (i : Nat) : Int × Int :=
  if h : i < ls.length then
    if dotB ls[i].data.toList = false then (8, i) else if hasB (ls.take i) ls[i] = true then (9, i) else newAt ls (i + 1)
  else (0, -1)
termination_by ls.length - i
def newL (ls : List ByteArray) : Int × Int := if 64 < ls.length then (5, -1) else newAt ls 0

theorem newAt_end {ls : List ByteArray} {i : Nat} (h : ls.length ≤ i) : newAt ls i = (0, -1) := by
  unfold newAt; rw [dif_neg (by omega)]
theorem newAt_name {ls : List ByteArray} {i : Nat} (h : i < ls.length) (hd : dotB ls[i].data.toList = false) : newAt ls i = (8, (i : Int)) := by
  unfold newAt; rw [dif_pos h, if_pos hd]
theorem newAt_twice {ls : List ByteArray} {i : Nat} (h : i < ls.length) (hd : dotB ls[i].data.toList = true) (hm : ls[i] ∈ ls.take i) : newAt ls i = (9, (i : Int)) := by
  unfold newAt; rw [dif_pos h, if_neg (by rw [hd]; simp), if_pos (hasB_iff.2 hm)]
theorem newAt_next {ls : List ByteArray} {i : Nat} (h : i < ls.length) (hd : dotB ls[i].data.toList = true) (hm : ls[i] ∉ ls.take i) : newAt ls i = newAt ls (i + 1) := by
  rw [newAt, dif_pos h, if_neg (by rw [hd]; simp), if_neg (fun h => hm (hasB_iff.1 h))]

/-- A list that is a book's. -/
structure IsBook (ls : List ByteArray) : Prop where
  len : ls.length ≤ 64
  dots : ∀ i (h : i < ls.length), dotB ls[i].data.toList = true
  once : ∀ i j (hi : i < ls.length) (hj : j < ls.length), ls[i] = ls[j] → i = j

theorem newAt_ok : ∀ (n i : Nat) (ls : List ByteArray), ls.length - i = n → newAt ls i = (0, -1) → ∀ j, i ≤ j → ∀ h : j < ls.length, dotB ls[j].data.toList = true ∧ ls[j] ∉ ls.take j := by
  intro n
  induction n with
  | zero => intro i ls hn _ j hj h; omega
  | succ n ih =>
    intro i ls hn hok j hj h
    have hi : i < ls.length := by omega
    cases hd : dotB ls[i].data.toList with
    | false => rw [newAt_name hi hd] at hok; simp at hok
    | true =>
      by_cases hm : ls[i] ∈ ls.take i
      · rw [newAt_twice hi hd hm] at hok; simp at hok
      · rw [newAt_next hi hd hm] at hok
        by_cases e : j = i
        · subst e; exact ⟨hd, hm⟩
        · exact ih (i + 1) ls (by omega) hok j (by omega) h

theorem book_of {ls : List ByteArray} (h : newL ls = (0, -1)) : IsBook ls := by
  unfold newL at h
  split at h
  · simp at h
  · rename_i hl
    have hall := newAt_ok _ 0 ls rfl h
    refine ⟨by omega, fun i hi => (hall i (Nat.zero_le _) hi).1, fun i j hi hj e => ?_⟩
    rcases Nat.lt_trichotomy i j with hlt | he | hlt
    · exfalso
      refine (hall j (Nat.zero_le _) hj).2 ?_
      rw [← e, List.mem_take_iff_getElem]
      exact ⟨i, by omega, rfl⟩
    · exact he
    · exfalso
      refine (hall i (Nat.zero_le _) hi).2 ?_
      rw [e, List.mem_take_iff_getElem]
      exact ⟨j, by omega, rfl⟩

theorem newAt_range : ∀ (n i : Nat) (ls : List ByteArray), ls.length - i = n → newAt ls i = (0, -1) ∨ (((newAt ls i).1 = 8 ∨ (newAt ls i).1 = 9) ∧ 0 ≤ (newAt ls i).2) := by
  intro n
  induction n with
  | zero => intro i ls hn; exact .inl (newAt_end (by omega))
  | succ n ih =>
    intro i ls hn
    have hi : i < ls.length := by omega
    cases hd : dotB ls[i].data.toList with
    | false => rw [newAt_name hi hd]; exact .inr ⟨.inl rfl, by simp⟩
    | true =>
      by_cases hm : ls[i] ∈ ls.take i
      · rw [newAt_twice hi hd hm]; exact .inr ⟨.inr rfl, by simp⟩
      · rw [newAt_next hi hd hm]; exact ih (i + 1) ls (by omega)

/-- The set of those places below n of which p holds. -/
def setBy (p : Nat → Bool) : Nat → Nat
  | 0 => 0
  | n + 1 => if p n then setBy p n ||| 2 ^ n else setBy p n

theorem setBy_bit (p : Nat → Bool) : ∀ n i, (setBy p n).testBit i = (decide (i < n) && p i)
  | 0, i => by simp [setBy]
  | n + 1, i => by
    have ih := setBy_bit p n i
    unfold setBy
    by_cases hp : p n = true
    · rw [if_pos hp, Nat.testBit_or, ih, Nat.testBit_two_pow]
      by_cases e : n = i
      · subst e; simp [hp]
      · by_cases h : i < n
        · simp [h, e, show i < n + 1 by omega]
        · simp [h, e, show ¬ i < n + 1 by omega]
    · rw [if_neg hp, ih]
      by_cases e : i = n
      · subst e; simp [hp]
      · by_cases h : i < n
        · simp [h, show i < n + 1 by omega]
        · simp [h, show ¬ i < n + 1 by omega]

theorem setBy_lt (p : Nat → Bool) : ∀ n, setBy p n < 2 ^ n := fun n =>
  Nat.lt_pow_two_of_testBit _ fun i hi => by rw [setBy_bit]; simp [show ¬ i < n by omega]

theorem setBy_congr {p q : Nat → Bool} {n : Nat} (h : ∀ i, i < n → p i = q i) : setBy p n = setBy q n :=
  Nat.eq_of_testBit_eq fun i => by
    rw [setBy_bit, setBy_bit]
    by_cases hi : i < n
    · rw [h i hi]
    · simp [hi]

theorem setBy_all (n : Nat) : setBy (fun _ => true) n = 2 ^ n - 1 :=
  Nat.eq_of_testBit_eq fun i => by rw [setBy_bit, Nat.testBit_two_pow_sub_one]; simp

theorem setBy_one {n k : Nat} (hk : k < n) : setBy (fun i => i == k) n = 2 ^ k :=
  Nat.eq_of_testBit_eq fun i => by
    rw [setBy_bit, Nat.testBit_two_pow]
    by_cases e : k = i
    · subst e; simp [hk]
    · have : (i == k) = false := by simp; omega
      simp [e, this]

theorem setBy_none {p : Nat → Bool} {n : Nat} (h : ∀ i, i < n → p i = false) : setBy p n = 0 :=
  Nat.eq_of_testBit_eq fun i => by
    rw [setBy_bit]
    by_cases hi : i < n
    · rw [h i hi]; simp
    · simp [hi]

/-- All scopes of a book. -/
def allS (ls : List ByteArray) : Nat := 2 ^ ls.length - 1
theorem allS_lt {ls : List ByteArray} (h : ls.length ≤ 64) : allS ls ≤ 18446744073709551615 := by
  have : 2 ^ ls.length ≤ 2 ^ 64 := Nat.pow_le_pow_right (by omega) h
  unfold allS; omega

end Go.Proofs.YtocoonkachbjaaaGreatDoor
