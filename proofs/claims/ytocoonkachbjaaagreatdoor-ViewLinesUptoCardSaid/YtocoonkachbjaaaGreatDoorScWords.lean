/- A text's words, each with its place, plain. No program's code. -/
import Derived.Test.YtocoonkachbjaaaGreatDoorScPlain2
namespace Go.Proofs.YtocoonkachbjaaaGreatDoor
open Go.Proofs.NmPlain
set_option linter.unusedVariables false
namespace Sc

/-- No blank. -/
def nb (c : UInt8) : Bool := decide (c ≠ 32)
theorem tw_facts (p : UInt8 → Bool) : ∀ L : Bs, (∀ i (h : i < L.length), i < (L.takeWhile p).length → p L[i] = true) ∧ (∀ h : (L.takeWhile p).length < L.length, p L[(L.takeWhile p).length] = false) ∧ (L.takeWhile p).length ≤ L.length
  | [] => by simp
  | c :: r => by
    obtain ⟨h1, h2, h3⟩ := tw_facts p r
    by_cases hc : p c = true
    · rw [List.takeWhile_cons, if_pos hc]
      refine ⟨fun i h hi => ?_, fun h => ?_, by simp; omega⟩
      · cases i with
        | zero => exact hc
        | succ i => simp only [List.getElem_cons_succ]; exact h1 i (by simpa using h) (by simpa using hi)
      · simp only [List.length_cons, List.getElem_cons_succ]; exact h2 (by simpa using h)
    · rw [List.takeWhile_cons, if_neg hc]
      refine ⟨fun i h hi => by simp at hi, fun h => ?_, by simp⟩
      simpa using hc

theorem drop_at (s : ByteArray) (k : Nat) (h : k < s.size) : s.data.toList.drop k = s[k] :: s.data.toList.drop (k + 1) := by
  exact List.drop_eq_getElem_cons (by simpa using h)
theorem drop_end (s : ByteArray) (k : Nat) (h : s.size ≤ k) : s.data.toList.drop k = [] := List.drop_eq_nil_of_le (by simpa using h)
theorem drop_len (s : ByteArray) (k : Nat) : (s.data.toList.drop k).length = s.size - k := by rw [List.length_drop]; simp
theorem take_tw (p : UInt8 → Bool) (L : Bs) : L.take (L.takeWhile p).length = L.takeWhile p := (List.prefix_iff_eq_take.1 (List.takeWhile_prefix p)).symm

/-- Where a word ends. -/
theorem word_end (s : ByteArray) (k : Nat) (hk : k ≤ s.size) : ∃ n, n = ((s.data.toList.drop k).takeWhile nb).length ∧ k + n ≤ s.size ∧ (∀ e (h : e < s.size), k ≤ e → e < k + n → s[e] ≠ 32) ∧ (∀ h : k + n < s.size, s[k + n] = 32) := by
  obtain ⟨h1, h2, h3⟩ := tw_facts nb (s.data.toList.drop k)
  refine ⟨_, rfl, by rw [drop_len] at h3; omega, fun e h hke he => ?_, fun h => ?_⟩
  · have hl : e - k < (s.data.toList.drop k).length := by rw [drop_len]; omega
    have := h1 (e - k) hl (by omega)
    rw [List.getElem_drop] at this
    have e2 : k + (e - k) = e := by omega
    simp only [e2] at this
    have h5 : (s.data.toList[e]'(by simpa using h)) ≠ 32 := by simpa only [nb, decide_eq_true_eq] using this
    exact h5
  · have hl : ((s.data.toList.drop k).takeWhile nb).length < (s.data.toList.drop k).length := by rw [drop_len]; omega
    have := h2 hl
    rw [List.getElem_drop] at this
    have h5 : (s.data.toList[k + ((s.data.toList.drop k).takeWhile nb).length]'(by simpa using h)) = 32 := by simpa [nb] using this
    exact h5

theorem wordsAt_nil (k : Nat) : wordsAt k [] = [] := by rw [wordsAt]
theorem wordsAt_blank (k : Nat) (r : Bs) : wordsAt k (32 :: r) = wordsAt (k + 1) r := by rw [wordsAt, if_pos rfl]
theorem wordsAt_word {k : Nat} {c : UInt8} {r : Bs} (h : c ≠ 32) : wordsAt k (c :: r) = (k, (c :: r).takeWhile nb) :: wordsAt (k + ((c :: r).takeWhile nb).length) ((c :: r).drop ((c :: r).takeWhile nb).length) := by
  have hc : nb c = true := by simp [nb, h]
  rw [wordsAt, if_neg h, List.takeWhile_cons, if_pos hc]
  have e : r.takeWhile (fun x => decide (x ≠ 32)) = r.takeWhile nb := rfl
  simp only [List.length_cons, List.drop_succ_cons]
  rw [e]
  congr 2
  omega

theorem parseW_ok {ls : List ByteArray} {k : Nat} {l : Bs} {r : List (Nat × Bs)} {s : Nat} (h : (wordL ls l).2 = 0) : parseW ls ((k, l) :: r) s = parseW ls r (s ||| (wordL ls l).1) := by
  rw [parseW, if_pos h]
theorem parseW_no {ls : List ByteArray} {k : Nat} {l : Bs} {r : List (Nat × Bs)} {s : Nat} (h : (wordL ls l).2 ≠ 0) : parseW ls ((k, l) :: r) s = (0, (wordL ls l).2, (k : Int)) := by
  rw [parseW, if_neg h]

/-- The text from place k on, when a word stands there. -/
theorem word_step {s : ByteArray} {k n : Nat} (hk : k < s.size) (hc : s[k] ≠ 32) (hn : n = ((s.data.toList.drop k).takeWhile nb).length) :
    0 < n ∧ (s.extract k (k + n)).data.toList = (s.data.toList.drop k).takeWhile nb ∧ wordsAt k (s.data.toList.drop k) = (k, (s.extract k (k + n)).data.toList) :: wordsAt (k + n) (s.data.toList.drop (k + n)) := by
  have hd := drop_at s k hk
  have e : (s.extract k (k + n)).data.toList = (s.data.toList.drop k).takeWhile nb := by
    rw [Lib.extract_data, Nat.add_sub_cancel_left, hn, take_tw]
  refine ⟨?_, e, ?_⟩
  · rw [hn, hd, List.takeWhile_cons, if_pos (by simp [nb, hc])]; simp
  · have h2 := wordsAt_word (k := k) (r := s.data.toList.drop (k + 1)) hc
    rw [← hd, ← hn, List.drop_drop] at h2
    rw [e]; exact h2

theorem or_u64 {a b : Nat} (ha : a < 18446744073709551616) (hb : b < 18446744073709551616) : a ||| b < 18446744073709551616 :=
  Nat.or_lt_two_pow (n := 64) (by simpa using ha) (by simpa using hb)

end Sc
end Go.Proofs.YtocoonkachbjaaaGreatDoor
