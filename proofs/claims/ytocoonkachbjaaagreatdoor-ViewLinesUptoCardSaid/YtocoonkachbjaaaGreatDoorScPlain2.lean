/- Words of a book, sets read and printed, plain. No program's code. -/
import Derived.Test.YtocoonkachbjaaaGreatDoorScPlain
import Derived.Lib.Join
namespace Go.Proofs.YtocoonkachbjaaaGreatDoor
open Go.Proofs.NmPlain
set_option linter.unusedVariables false
namespace Sc

/-- A set, or the error that there is none. -/
def fin (s : Nat) : Nat × Int := if s = 0 then (0, 10) else (s, 0)
def eqAt (ls : List ByteArray) (l : Bs) (i : Nat) : Bool := match ls[i]? with
  | some x => decide (x.data.toList = l)
  | none => false
def belAt (ls : List ByteArray) (l : Bs) (i : Nat) : Bool := match ls[i]? with
  | some x => !decide (x.data.toList = l) && underB x.data.toList l
  | none => false
theorem eqAt_at {ls : List ByteArray} {l : Bs} {i : Nat} (h : i < ls.length) : eqAt ls l i = decide (ls[i].data.toList = l) := by
  unfold eqAt; rw [List.getElem?_eq_getElem h]
theorem belAt_at {ls : List ByteArray} {l : Bs} {i : Nat} (h : i < ls.length) : belAt ls l i = (!decide (ls[i].data.toList = l) && underB ls[i].data.toList l) := by
  unfold belAt; rw [List.getElem?_eq_getElem h]

/-- What a word is: a set, an error's number. -/
def wordL (ls : List ByteArray) (l : Bs) : Nat × Int :=
  if l = [42] then (allS ls, 0)
  else if dotB l = true then fin (setBy (eqAt ls l) ls.length)
  else if 2 ≤ l.length ∧ l.drop (l.length - 2) = [46, 42] ∧ dotB (l.take (l.length - 2)) = true then fin (setBy (belAt ls (l.take (l.length - 2))) ls.length)
  else (0, 4)

theorem fin_cases (s : Nat) : (fin s = (0, 10) ∧ s = 0) ∨ (fin s = (s, 0) ∧ s ≠ 0) := by
  unfold fin; by_cases h : s = 0
  · left; simp [h]
  · right; simp [h]

theorem wordL_cases (ls : List ByteArray) (l : Bs) : ((wordL ls l).1 = 0 ∧ ((wordL ls l).2 = 4 ∨ (wordL ls l).2 = 10)) ∨ ((wordL ls l).2 = 0 ∧ (wordL ls l).1 < 2 ^ ls.length) := by
  unfold wordL
  split
  · right; refine ⟨rfl, ?_⟩; have : 0 < 2 ^ ls.length := Nat.pow_pos (by omega); show allS ls < _; unfold allS; omega
  · split
    · rcases fin_cases (setBy (eqAt ls l) ls.length) with ⟨h, _⟩ | ⟨h, _⟩ <;> rw [h]
      · left; simp
      · right; exact ⟨rfl, setBy_lt _ _⟩
    · split
      · rcases fin_cases (setBy (belAt ls (l.take (l.length - 2))) ls.length) with ⟨h, _⟩ | ⟨h, _⟩ <;> rw [h]
        · left; simp
        · right; exact ⟨rfl, setBy_lt _ _⟩
      · left; simp

/-- The words of a text that begins at place k: each with its place. -/
def wordsAt (k : Nat) : Bs → List (Nat × Bs)
  | [] => []
  | c :: r => if c = 32 then wordsAt (k + 1) r else (k, c :: r.takeWhile (· ≠ 32)) :: wordsAt (k + 1 + (r.takeWhile (· ≠ 32)).length) (r.drop (r.takeWhile (· ≠ 32)).length)
termination_by l => l.length
decreasing_by
  · simp
  · simp; omega

/-- A set read word by word: the set, the error, its place. -/
def parseW (ls : List ByteArray) : List (Nat × Bs) → Nat → Nat × Int × Int
  | [], s => (s, 0, -1)
  | (k, l) :: r, s => if (wordL ls l).2 = 0 then parseW ls r (s ||| (wordL ls l).1) else (0, (wordL ls l).2, k)
def parseL (ls : List ByteArray) (l : Bs) : Nat × Int × Int := if 4096 < l.length then (0, 3, -1) else parseW ls (wordsAt 0 l) 0

/-- The names of a set, among the first k. -/
def selTo (ls : List ByteArray) (s : Nat) : Nat → List ByteArray
  | 0 => []
  | k + 1 => selTo ls s k ++ (if s.testBit k then (match ls[k]? with | some x => [x] | none => []) else [])
theorem sel_yes {ls : List ByteArray} {s k : Nat} (h : k < ls.length) (hb : s.testBit k = true) : selTo ls s (k + 1) = selTo ls s k ++ [ls[k]] := by
  show selTo ls s k ++ _ = _; rw [if_pos hb, List.getElem?_eq_getElem h]
theorem sel_no {ls : List ByteArray} {s k : Nat} (hb : s.testBit k = false) : selTo ls s (k + 1) = selTo ls s k := by
  show selTo ls s k ++ _ = _; rw [if_neg (by rw [hb]; simp), List.append_nil]
def printL (ls : List ByteArray) (s : Nat) : Bs × Int := if 2 ^ ls.length ≤ s then ([], 11) else (Lib.join ((selTo ls s ls.length).map (·.data.toList)) [32], 0)

theorem sel_len (ls : List ByteArray) (s : Nat) : ∀ k, (selTo ls s k).length ≤ k
  | 0 => Nat.le_refl _
  | k + 1 => by
    have ih := sel_len ls s k
    unfold selTo
    rw [List.length_append]
    split
    · split <;> simp <;> omega
    · simp; omega
theorem sel_mem (ls : List ByteArray) (s : Nat) : ∀ k, ∀ x ∈ selTo ls s k, ∃ i, ∃ h : i < ls.length, i < k ∧ x = ls[i] ∧ s.testBit i = true
  | 0, x, hx => by simp [selTo] at hx
  | k + 1, x, hx => by
    unfold selTo at hx
    rw [List.mem_append] at hx
    rcases hx with hx | hx
    · obtain ⟨i, h, h1, h2⟩ := sel_mem ls s k x hx
      exact ⟨i, h, by omega, h2⟩
    · split at hx
      · rename_i hb
        split at hx
        · rename_i y hy
          obtain ⟨h, e⟩ := List.getElem?_eq_some_iff.1 hy
          exact ⟨k, h, by omega, by rw [List.mem_singleton.1 hx, e], hb⟩
        · simp at hx
      · simp at hx

/-- What isn't in the book: nothing, just if the set is below its bound. -/
theorem andNot_zero {s n : Nat} (hs : s < 18446744073709551616) (hn : n ≤ 64) : (s &&& (18446744073709551615 - (2 ^ n - 1)) = 0) ↔ s < 2 ^ n := by
  have hp : 2 ^ n ≤ 2 ^ 64 := Nat.pow_le_pow_right (by omega) hn
  have hp0 : 0 < 2 ^ n := Nat.pow_pos (by omega)
  have hb : ∀ i, (18446744073709551615 - (2 ^ n - 1)).testBit i = (decide (i < 64) && !decide (i < n)) := fun i => by
    have e : 18446744073709551615 - (2 ^ n - 1) = 2 ^ 64 - ((2 ^ n - 1) + 1) := by omega
    rw [e, Nat.testBit_two_pow_sub_succ (by omega), Nat.testBit_two_pow_sub_one]
  constructor
  · intro h
    refine Nat.lt_pow_two_of_testBit _ fun i hi => ?_
    have h2 := congrArg (fun x => x.testBit i) h
    simp only [Nat.testBit_and, hb, Nat.zero_testBit] at h2
    by_cases h64 : i < 64
    · simpa [h64, show ¬ i < n by omega] using h2
    · exact Nat.testBit_lt_two_pow (Nat.lt_of_lt_of_le (by simpa using hs) (Nat.pow_le_pow_right (by omega) (show 64 ≤ i by omega)))
  · intro h
    refine Nat.eq_of_testBit_eq fun i => ?_
    rw [Nat.testBit_and, hb, Nat.zero_testBit]
    by_cases hi : i < n
    · simp [hi]
    · rw [Nat.testBit_lt_two_pow (Nat.lt_of_lt_of_le h (Nat.pow_le_pow_right (by omega) (show n ≤ i by omega)))]
      simp

end Sc
end Go.Proofs.YtocoonkachbjaaaGreatDoor
