/- An expiry's order: plain facts of lists. No program's code. -/
import Derived.Test.YtkmgpajodbadmaaExpMem
namespace Go.Proofs.Ytkmgpajodbadmaa
open Go.RowKit
set_option linter.unusedVariables false
namespace Ex
open Hp (It ahd)

def mk (D : Nat → Int) (i : Nat) : Ent := ((i : Int), (i : Int) + 1, D i)
/-- The entries of the places from i up to n. -/
def PartOf (D : Nat → Int) (i n : Nat) (S : List Ent) : Prop := Inv S ∧ S.Perm ((List.range' i (n - i)).map (mk D))
theorem part_nil (D : Nat → Int) (n : Nat) : PartOf D n n [] := ⟨Inv.nil, by simp⟩
theorem part_mem {D : Nat → Int} {i n : Nat} {S : List Ent} (h : PartOf D i n S) {e : Ent} (he : e ∈ S) : ∃ j, i ≤ j ∧ j < n ∧ e = mk D j := by
  obtain ⟨j, hj, rfl⟩ := List.mem_map.1 (h.2.mem_iff.1 he)
  obtain ⟨h1, h2⟩ := List.mem_range'_1.1 hj
  exact ⟨j, h1, by omega, rfl⟩
theorem part_len {D : Nat → Int} {i n : Nat} {S : List Ent} (h : PartOf D i n S) : S.length = n - i := by rw [h.2.length_eq]; simp
theorem part_step {D : Nat → Int} {i n : Nat} {S : List Ent} (h : PartOf D (i + 1) n S) (hi : i < n) (hn : n ≤ 32) : PartOf D i n (put (wo S (i : Int)) (mk D i)) := by
  have hw : wo S (i : Int) = S := by
    unfold wo
    rw [List.filter_eq_self]
    intro e he
    obtain ⟨j, h1, h2, rfl⟩ := part_mem h he
    have : ((j : Int)) ≠ (i : Int) := by omega
    simpa [mk] using this
  have hne : ∀ e ∈ S, e.1 ≠ (mk D i).1 := fun e he => by
    obtain ⟨j, h1, h2, rfl⟩ := part_mem h he
    show ((j : Int)) ≠ (i : Int)
    omega
  rw [hw]
  refine ⟨h.1.put (by show (0 : Int) ≤ (i : Int); omega) (by show (i : Int) < 32; omega) hne, (put_perm S _).trans ?_⟩
  have e : List.range' i (n - i) = i :: List.range' (i + 1) (n - (i + 1)) := by
    rw [show n - i = (n - (i + 1)) + 1 by omega, List.range'_succ]
  rw [e, List.map_cons]
  exact h.2.cons _
def outF (S : List Ent) (k : Nat) (j : Nat) : Bool := (S.take k).any fun e => e.1 == (j : Int)
theorem outF_zero (S : List Ent) (j : Nat) : outF S 0 j = false := by simp [outF]
theorem inv_nodup {S : List Ent} (h : Inv S) : (S.map fun e => e.1).Nodup := by
  have := h.good.nodup
  rw [items, List.map_map] at this
  exact this
theorem outF_new {S : List Ent} (h : Inv S) {k : Nat} (hk : k < S.length) {j : Nat} (hj : S[k].1 = (j : Int)) : outF S k j = false := by
  unfold outF
  rw [List.any_eq_false]
  intro e he
  obtain ⟨i, hi, rfl⟩ := List.getElem_of_mem he
  rw [List.length_take] at hi
  rw [List.getElem_take]
  have hn := inv_nodup h
  have := List.pairwise_iff_getElem.1 hn i k (by simp; omega) (by simpa using hk) (by omega)
  simp only [List.getElem_map] at this
  rw [hj] at this
  simpa using this
theorem outF_next {S : List Ent} {k : Nat} (hk : k < S.length) {j : Nat} (hj : S[k].1 = (j : Int)) (i : Nat) : outF S (k + 1) i = if i = j then true else outF S k i := by
  unfold outF
  rw [List.take_succ_eq_append_getElem hk, List.any_append]
  by_cases e : i = j
  · rw [if_pos e]; simp [hj, e]
  · rw [if_neg e]
    have : ((j : Int) == (i : Int)) = false := by rw [beq_eq_false_iff_ne]; omega
    simp [hj, this]
theorem sorted_at {S : List Ent} (h : Inv S) {i k : Nat} (hik : i < k) (hk : k < S.length) : ¬ (S[k].2.2 < (S[i]'(by omega)).2.2 ∨ (S[k].2.2 = (S[i]'(by omega)).2.2 ∧ S[k].1 < (S[i]'(by omega)).1)) := by
  have hs := List.pairwise_iff_getElem.1 h.sorted i k (by simp [items]; omega) (by simpa [items] using hk) hik
  simp only [items, List.getElem_map] at hs
  exact Hp.ahd_no.1 hs
theorem outF_end {D : Nat → Int} {n : Nat} {S : List Ent} (h : PartOf D 0 n S) {k : Nat} (hk : k ≤ S.length) (now : Int) (h1 : ∀ e ∈ S.take k, e.2.2 ≤ now) (h2 : S.drop k = [] ∨ ∃ e t, S.drop k = e :: t ∧ now < e.2.2) {j : Nat} (hj : j < n) :
    outF S k j = decide (D j ≤ now) := by
  have hm : mk D j ∈ S := h.2.mem_iff.2 (List.mem_map.2 ⟨j, List.mem_range'_1.2 ⟨by omega, by omega⟩, rfl⟩)
  obtain ⟨i, hi, e⟩ := List.getElem_of_mem hm
  by_cases hik : i < k
  · have hmem : S[i] ∈ S.take k := List.mem_take_iff_getElem.2 ⟨i, by omega, rfl⟩
    have hle := h1 _ hmem
    rw [e] at hle
    have h3 : D j ≤ now := hle
    have h4 : outF S k j = true := by
      unfold outF
      rw [List.any_eq_true]
      exact ⟨S[i], hmem, by rw [e]; simp [mk]⟩
    rw [h4]; simp [h3]
  · have h5 : now < D j := by
      rcases h2 with h2 | ⟨x, t, h2, h3⟩
      · have := congrArg List.length h2
        simp at this; omega
      · have hkl : k < S.length := by
          rcases Nat.lt_or_ge k S.length with h | h
          · exact h
          · rw [List.drop_eq_nil_of_le h] at h2; cases h2
        rw [List.drop_eq_getElem_cons hkl] at h2
        injection h2 with h4 _
        rw [← h4] at h3
        by_cases e2 : i = k
        · subst e2; rw [e] at h3; exact h3
        · have := sorted_at h.1 (i := k) (k := i) (by omega) hi
          rw [e] at this
          have h6 : ¬ (D j < S[k].2.2 ∨ _) := this
          omega
    have h4 : outF S k j = false := by
      unfold outF
      rw [List.any_eq_false]
      intro y hy hj2
      have hy1 : y.1 = (j : Int) := by simpa using hj2
      obtain ⟨q, _, hq, rfl⟩ := part_mem h (List.mem_of_mem_take hy)
      have : q = j := by have : (q : Int) = (j : Int) := hy1; omega
      subst this
      have := h1 _ hy
      have h6 : D q ≤ now := this
      omega
    rw [h4]; simp; omega
theorem take_le {S : List Ent} {k : Nat} (hk : k < S.length) {now : Int} (h1 : ∀ e ∈ S.take k, e.2.2 ≤ now) (h2 : S[k].2.2 ≤ now) : ∀ e ∈ S.take (k + 1), e.2.2 ≤ now := fun e he => by
  rw [List.take_succ_eq_append_getElem hk] at he
  rcases List.mem_append.1 he with he | he
  · exact h1 e he
  · rw [List.mem_singleton.1 he]; exact h2
theorem drop_head {S : List Ent} {k : Nat} {x : Ent} {t : List Ent} (h : S.drop k = x :: t) : ∃ hk : k < S.length, S[k] = x ∧ S.drop (k + 1) = t := by
  have hk : k < S.length := by
    rcases Nat.lt_or_ge k S.length with h2 | h2
    · exact h2
    · rw [List.drop_eq_nil_of_le h2] at h; cases h
  rw [List.drop_eq_getElem_cons hk] at h
  injection h with h1 h2
  exact ⟨hk, h1, h2⟩

end Ex
end Go.Proofs.Ytkmgpajodbadmaa
