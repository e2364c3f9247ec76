/- What is printed is read as it was. Plain. -/
import Derived.Test.YtgneebidmhiagaaDoorScPlain3
namespace Go.Proofs.YtgneebidmhiagaaDoor
open Go.Proofs.NmPlain
set_option linter.unusedVariables false
namespace Sc

/-- Two texts with a blank between, both read well. -/
theorem pw_joined {ls : List ByteArray} {a b : Bs} {sa sb : Nat} (ha : parseW ls (wordsAt 0 a) 0 = (sa, 0, -1)) (hb : parseW ls (wordsAt 0 b) 0 = (sb, 0, -1)) : parseW ls (wordsAt 0 (a ++ 32 :: b)) 0 = (sa ||| sb, 0, -1) := by
  rw [words_join _ 0 a b rfl, parseW_append, ha]
  have e : wordsAt (0 + a.length + 1) b = (wordsAt 0 b).map fun p => (p.1 + (a.length + 1), p.2) := by
    have := words_shift _ 0 (a.length + 1) b rfl
    rw [← this]; congr 1
  have hs := parseW_start (ls := ls) (wordsAt 0 b) sa 0
  rw [Nat.or_zero, hb, if_pos rfl] at hs
  rw [if_pos rfl, e, parseW_shift, hs, if_pos rfl]

theorem pw_name {ls : List ByteArray} (hb : IsBook ls) {k : Nat} (hk : k < ls.length) : parseW ls (wordsAt 0 ls[k].data.toList) 0 = (2 ^ k, 0, -1) := by
  have h := parse_name hb hk
  rw [parseL_small (by have := dotB_le (hb.dots k hk); omega)] at h
  exact h

theorem mod_bit {s k : Nat} (h : s.testBit k = true) : s % 2 ^ (k + 1) = s % 2 ^ k ||| 2 ^ k := by
  refine Nat.eq_of_testBit_eq fun i => ?_
  rw [Nat.testBit_or, Nat.testBit_mod_two_pow, Nat.testBit_mod_two_pow, Nat.testBit_two_pow]
  by_cases e : k = i
  · subst e; simp [h]
  · by_cases hi : i < k
    · simp [hi, e, show i < k + 1 by omega]
    · simp [hi, e, show ¬ i < k + 1 by omega]
theorem mod_none {s k : Nat} (h : s.testBit k = false) : s % 2 ^ (k + 1) = s % 2 ^ k := by
  refine Nat.eq_of_testBit_eq fun i => ?_
  rw [Nat.testBit_mod_two_pow, Nat.testBit_mod_two_pow]
  by_cases e : i = k
  · subst e; simp [h]
  · by_cases hi : i < k
    · simp [hi, show i < k + 1 by omega]
    · simp [hi, show ¬ i < k + 1 by omega]

theorem pw_print {ls : List ByteArray} (hb : IsBook ls) (s : Nat) : ∀ k, k ≤ ls.length → parseW ls (wordsAt 0 (jn ls s k)) 0 = (s % 2 ^ k, 0, -1)
  | 0, _ => by
    have e : jn ls s 0 = [] := rfl
    rw [e, wordsAt_nil, Nat.pow_zero, Nat.mod_one]; rfl
  | k + 1, hk => by
    have ih := pw_print hb s k (by omega)
    cases hbit : s.testBit k with
    | true =>
      rw [mod_bit hbit]
      by_cases he : jn ls s k = []
      · rw [jn_first hb (by omega) hbit he, pw_name hb (by omega)]
        rw [he, wordsAt_nil] at ih
        have h0 : s % 2 ^ k = 0 := (congrArg Prod.fst ih).symm
        rw [h0, Nat.zero_or]
      · rw [jn_more (by omega) hbit he, List.append_assoc]
        exact pw_joined ih (pw_name hb (by omega))
    | false =>
      rw [mod_none hbit, jn_no hbit]; exact ih

theorem parse_print {ls : List ByteArray} (hb : IsBook ls) {s : Nat} (hs : s < 2 ^ ls.length) (hl : (jn ls s ls.length).length ≤ 4096) : parseL ls (jn ls s ls.length) = (s, 0, -1) := by
  rw [parseL_small hl, pw_print hb s ls.length (Nat.le_refl _), Nat.mod_eq_of_lt hs]

theorem parseW_lt {ls : List ByteArray} : ∀ (x : List (Nat × Bs)) (s : Nat), s < 2 ^ ls.length → (parseW ls x s).1 < 2 ^ ls.length
  | [], s, hs => hs
  | (k, l) :: r, s, hs => by
    by_cases h : (wordL ls l).2 = 0
    · rw [parseW_ok h]
      refine parseW_lt r _ (Nat.or_lt_two_pow hs ?_)
      rcases wordL_cases ls l with ⟨h1, _⟩ | ⟨_, h1⟩
      · rw [h1]; exact Nat.pow_pos (by omega)
      · exact h1
    · rw [parseW_no h]; exact Nat.pow_pos (by omega)
theorem parseL_lt {ls : List ByteArray} (l : Bs) : (parseL ls l).1 < 2 ^ ls.length := by
  unfold parseL
  split
  · exact Nat.pow_pos (by omega)
  · exact parseW_lt _ _ (Nat.pow_pos (by omega))
theorem parseL_no {ls : List ByteArray} {l : Bs} (h : (parseL ls l).2.1 ≠ 0) : (parseL ls l).1 = 0 := by
  unfold parseL at h ⊢
  split
  · rfl
  · rename_i h2
    rw [if_neg h2] at h
    exact (parseW_no_zero _ _ h).1
theorem printL_lt {ls : List ByteArray} {s : Nat} (h : s < 2 ^ ls.length) : printL ls s = (jn ls s ls.length, 0) := by
  unfold printL; rw [if_neg (by omega)]; rfl
theorem printL_ge {ls : List ByteArray} {s : Nat} (h : 2 ^ ls.length ≤ s) : printL ls s = ([], 11) := by
  unfold printL; rw [if_pos h]

end Sc
end Go.Proofs.YtgneebidmhiagaaDoor
