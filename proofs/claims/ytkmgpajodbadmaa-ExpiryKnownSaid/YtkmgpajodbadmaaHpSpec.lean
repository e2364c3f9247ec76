/- What was set last: plain laws. -/
import Derived.Test.YtkmgpajodbadmaaHpHeap
namespace Go.Proofs.Ytkmgpajodbadmaa
open Go.RowKit
set_option linter.unusedVariables false
namespace Hp

/-- What a heap of 64 holds when these were set. -/
def fin (ps : List It) : List It := ps.foldl (fun S p => (p.1 % 64, p.2) :: without S (p.1 % 64)) []
theorem fin_snoc (ps : List It) (p : It) : fin (ps ++ [p]) = (p.1 % 64, p.2) :: without (fin ps) (p.1 % 64) := by simp [fin]
theorem fin_next {ps : List It} {k : Nat} (h : k < ps.length) : fin (ps.take (k + 1)) = (ps[k].1 % 64, ps[k].2) :: without (fin (ps.take k)) (ps[k].1 % 64) := by
  rw [List.take_succ_eq_append_getElem h, fin_snoc]

theorem keyOf_cons (x : It) (L : List It) (i : Int) : keyOf (x :: L) i = if x.1 = i then some x.2 else keyOf L i := by
  unfold keyOf
  rw [List.find?_cons]
  by_cases h : x.1 = i
  · have e : (x.1 == i) = true := by simp [h]
    rw [if_pos h, e]; rfl
  · have e : (x.1 == i) = false := by simp [h]
    rw [if_neg h, e]
theorem keyOf_without {L : List It} {i j : Int} (h : i ≠ j) : keyOf (without L j) i = keyOf L i := by
  induction L with
  | nil => rfl
  | cons x r ih =>
    unfold without
    rw [List.filter_cons]
    by_cases hx : x.1 = j
    · rw [if_neg (by simp [hx]), keyOf_cons, if_neg (by rw [hx]; exact fun e => h e.symm)]; exact ih
    · rw [if_pos (by simpa using hx), keyOf_cons, keyOf_cons]
      split
      · rfl
      · exact ih
theorem keyOf_perm {L L' : List It} {n : Nat} (hG : Good L n) (h : List.Perm L L') (i : Int) : keyOf L i = keyOf L' i := by
  by_cases hex : ∀ x ∈ L, x.1 ≠ i
  · rw [keyOf_none hex, keyOf_none (fun x hx => hex x (h.mem_iff.2 hx))]
  · obtain ⟨x, hx⟩ := Classical.not_forall.1 hex
    obtain ⟨h1, h2⟩ := Classical.not_imp.1 hx
    have e := Classical.not_not.1 h2
    rw [← e, keyOf_some hG h1, keyOf_some (hG.perm h.symm) (h.mem_iff.1 h1)]

/-- The key that a number was given last. -/
def lst (ps : List It) (i : Int) : Option Int := ps.foldl (fun o p => if p.1 % 64 = i then some p.2 else o) none
theorem lst_next {ps : List It} {k : Nat} (h : k < ps.length) (i : Int) : lst (ps.take (k + 1)) i = if ps[k].1 % 64 = i then some ps[k].2 else lst (ps.take k) i := by
  rw [List.take_succ_eq_append_getElem h]
  unfold lst
  rw [List.foldl_append]; rfl
theorem fin_lst (ps : List It) (i : Int) : ∀ k, k ≤ ps.length → keyOf (fin (ps.take k)) i = lst (ps.take k) i
  | 0, _ => by simp [fin, lst, keyOf]
  | k + 1, h => by
    rw [fin_next (by omega), lst_next (by omega), keyOf_cons]
    simp only
    split
    · rfl
    · rename_i hne
      rw [keyOf_without (fun e => hne e.symm)]; exact fin_lst ps i k (by omega)
theorem fin_good (ps : List It) : ∀ k, k ≤ ps.length → Good (fin (ps.take k)) 64
  | 0, _ => ⟨by simp [fin], by simp [fin]⟩
  | k + 1, h => by
    rw [fin_next (by omega)]
    refine ((fin_good ps k (by omega)).without _).cons (by simp only; omega) (by simp only; omega) (fun y hy => ?_)
    have := (List.mem_filter.1 hy).2
    simpa using this

/-- How many of the first numbers are in it. -/
def cnt (L : List It) (i : Nat) : Nat := ((List.range i).filter fun (j : Nat) => (keyOf L (j : Int)).isSome).length
theorem cnt_next (L : List It) (i : Nat) : cnt L (i + 1) = cnt L i + if (keyOf L (i : Int)).isSome then 1 else 0 := by
  unfold cnt
  rw [List.range_succ, List.filter_append, List.length_append]
  congr 1
  by_cases h : (keyOf L (i : Int)).isSome
  · rw [if_pos h, List.filter_cons, if_pos h]; rfl
  · rw [if_neg h, List.filter_cons, if_neg h]; rfl
theorem cnt_le (L : List It) (i : Nat) : cnt L i ≤ i := by
  unfold cnt
  have := List.length_filter_le (fun (j : Nat) => (keyOf L (j : Int)).isSome) (List.range i)
  simpa using this
theorem cnt_all {L : List It} {n : Nat} (h : Good L n) : cnt L n = L.length := by
  have hp : List.Perm (((List.range n).filter fun (j : Nat) => (keyOf L (j : Int)).isSome).map fun (j : Nat) => (j : Int)) (L.map Prod.fst) := by
    refine (List.perm_ext_iff_of_nodup ?_ h.nodup).2 fun a => ?_
    · rw [List.nodup_iff_pairwise_ne, List.pairwise_map]
      refine List.Pairwise.imp (R := (· ≠ ·)) (fun hab => by omega) ?_
      exact (List.nodup_range).sublist (List.filter_sublist)
    · constructor
      · intro ha
        obtain ⟨j, hj, rfl⟩ := List.mem_map.1 ha
        obtain ⟨_, h2⟩ := List.mem_filter.1 hj
        by_cases hex : ∀ x ∈ L, x.1 ≠ (j : Int)
        · rw [keyOf_none hex] at h2; cases h2
        · obtain ⟨x, hx⟩ := Classical.not_forall.1 hex
          obtain ⟨h3, h4⟩ := Classical.not_imp.1 hx
          exact List.mem_map.2 ⟨x, h3, Classical.not_not.1 h4⟩
      · intro ha
        obtain ⟨x, hx, rfl⟩ := List.mem_map.1 ha
        have hr := h.range x hx
        refine List.mem_map.2 ⟨x.1.toNat, List.mem_filter.2 ⟨List.mem_range.2 (by omega), ?_⟩, by omega⟩
        rw [show ((x.1.toNat : Nat) : Int) = x.1 by omega, keyOf_some h hx]; rfl
  have := hp.length_eq
  simpa [cnt] using this

def w3 : List It := [(2, 5), (0, 5), (3, -1)]
theorem w3_fin : fin w3 = [(3, -1), (0, 5), (2, 5)] := by decide
theorem w3_least {L : List It} (h : List.Perm L (fin w3)) {i k : Int} {b : Bool} (hl : LeastIs L i k b) : i = 3 ∧ k = -1 ∧ b = true ∧ L.length = 3 := by
  have hlen : L.length = 3 := by rw [h.length_eq, w3_fin]; rfl
  rcases hl with ⟨h1, _⟩ | ⟨hb, hm, hmin⟩
  · rw [h1] at hlen; cases hlen
  · rw [h.mem_iff, w3_fin] at hm
    have h0 := hmin (3, -1) (by rw [h.mem_iff, w3_fin]; simp)
    rw [ahd_no] at h0
    simp only [List.mem_cons, Prod.mk.injEq, List.not_mem_nil, or_false] at hm
    simp only at h0
    exact ⟨by omega, by omega, hb, hlen⟩

end Hp
end Go.Proofs.Ytkmgpajodbadmaa
