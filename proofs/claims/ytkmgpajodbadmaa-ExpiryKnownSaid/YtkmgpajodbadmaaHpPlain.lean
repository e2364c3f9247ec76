/- Heaps: plain laws. No program's code. -/
import Derived.WalkKit
namespace Go.Proofs.Ytkmgpajodbadmaa
set_option linter.unusedVariables false
namespace Hp

/-- A number and its key. -/
abbrev It := Int × Int
def ahd (a b : It) : Bool := decide (a.2 < b.2) || (decide (a.2 = b.2) && decide (a.1 < b.1))
theorem ahd_iff {a b : It} : ahd a b = true ↔ a.2 < b.2 ∨ (a.2 = b.2 ∧ a.1 < b.1) := by
  unfold ahd; simp
theorem ahd_no {a b : It} : ahd a b = false ↔ ¬ (a.2 < b.2 ∨ (a.2 = b.2 ∧ a.1 < b.1)) := by
  rw [← ahd_iff, Bool.not_eq_true]
theorem ahd_irrefl (a : It) : ahd a a = false := by rw [ahd_no]; omega
theorem ahd_asymm {a b : It} (h : ahd a b = true) : ahd b a = false := by rw [ahd_iff] at h; rw [ahd_no]; omega
theorem ahd_trans {a b c : It} (h : ahd a b = true) (k : ahd b c = true) : ahd a c = true := by rw [ahd_iff] at *; omega
theorem no_trans {a b c : It} (h : ahd a b = false) (k : ahd b c = false) : ahd a c = false := by rw [ahd_no] at *; omega
theorem no_of_lt {a b c : It} (h : ahd a b = false) (k : ahd c b = true) : ahd a c = false := by rw [ahd_no] at *; rw [ahd_iff] at k; omega
theorem eq_of_no {a b : It} (h : ahd a b = false) (k : ahd b a = false) : a = b := by
  rw [ahd_no] at *
  exact Prod.ext (by omega) (by omega)

/-- What stands at a place. -/
def g (L : List It) (k : Nat) : It := L.getD k (0, 0)
theorem g_eq {L : List It} {k : Nat} (h : k < L.length) : g L k = L[k] := by simp [g, h]
theorem g_mem {L : List It} {k : Nat} (h : k < L.length) : g L k ∈ L := by rw [g_eq h]; exact List.getElem_mem h
theorem g_set {L : List It} {i k : Nat} {x : It} (h : i < L.length) : g (L.set i x) k = if k = i then x else g L k := by
  unfold g
  rw [List.getD_eq_getElem?_getD, List.getD_eq_getElem?_getD, List.getElem?_set]
  by_cases e : i = k
  · subst e; rw [if_pos rfl, if_pos rfl, if_pos h]; rfl
  · rw [if_neg e, if_neg (fun h => e h.symm)]
theorem g_of_mem {L : List It} {x : It} (h : x ∈ L) : ∃ k, k < L.length ∧ g L k = x := by
  obtain ⟨k, hk, e⟩ := List.getElem_of_mem h
  exact ⟨k, hk, by rw [g_eq hk, e]⟩

def sw (L : List It) (i j : Nat) : List It := (L.set i (g L j)).set j (g L i)
theorem sw_len (L : List It) (i j : Nat) : (sw L i j).length = L.length := by simp [sw]
theorem sw_perm {L : List It} {i j : Nat} (hi : i < L.length) (hj : j < L.length) : List.Perm (sw L i j) L := by
  unfold sw
  rw [g_eq hi, g_eq hj]
  exact List.set_set_perm hi hj
theorem g_sw {L : List It} {i j k : Nat} (hi : i < L.length) (hj : j < L.length) (hij : i ≠ j) : g (sw L i j) k = if k = j then g L i else if k = i then g L j else g L k := by
  unfold sw
  rw [g_set (by simpa using hj), g_set hi]

def par (k : Nat) : Nat := (k - 1) / 2
theorem par_lt {k : Nat} (h : 0 < k) : par k < k := by unfold par; omega

def HeapOrd (L : List It) : Prop := ∀ k, 0 < k → k < L.length → ahd (g L k) (g L (par k)) = false
/-- A heap but for one that may stand too far behind. -/
structure UpOrd (L : List It) (c : Nat) : Prop where
  one : ∀ k, 0 < k → k < L.length → k ≠ c → ahd (g L k) (g L (par k)) = false
  two : ∀ k, 0 < k → k < L.length → par k = c → 0 < c → ahd (g L k) (g L (par c)) = false
/-- A heap but for one that may stand too far ahead. -/
structure DownOrd (L : List It) (c : Nat) : Prop where
  one : ∀ k, 0 < k → k < L.length → par k ≠ c → ahd (g L k) (g L (par k)) = false
  two : ∀ k, 0 < k → k < L.length → par k = c → 0 < c → ahd (g L k) (g L (par c)) = false

theorem UpOrd.done {L : List It} {c : Nat} (h : UpOrd L c) (k : c = 0 ∨ ahd (g L c) (g L (par c)) = false) : HeapOrd L := by
  intro j h0 hj
  by_cases e : j = c
  · subst e
    rcases k with k | k
    · omega
    · exact k
  · exact h.one j h0 hj e
theorem DownOrd.done {L : List It} {c : Nat} (h : DownOrd L c) (k : ∀ j, 0 < j → j < L.length → par j = c → ahd (g L j) (g L c) = false) : HeapOrd L := by
  intro j h0 hj
  by_cases e : par j = c
  · rw [e]; exact k j h0 hj e
  · exact h.one j h0 hj e
theorem UpOrd.of {L : List It} (h : HeapOrd L) (c : Nat) (hc : c < L.length) : UpOrd L c :=
  ⟨fun k h0 hk _ => h k h0 hk, fun k h0 hk e hc0 => no_trans (by have := h k h0 hk; rw [e] at this; exact this) (h c hc0 hc)⟩

theorem UpOrd.step {L : List It} {c : Nat} (h : UpOrd L c) (h0 : 0 < c) (hc : c < L.length) (ha : ahd (g L c) (g L (par c)) = true) : UpOrd (sw L c (par c)) (par c) := by
  have hp := par_lt h0
  have hpl : par c < L.length := by omega
  have hne : c ≠ par c := by omega
  constructor
  · intro k k0 hk hkp
    rw [sw_len] at hk
    rw [g_sw hc hpl hne, g_sw hc hpl hne, if_neg hkp]
    by_cases e1 : k = c
    · rw [if_pos e1, e1, if_pos rfl]
      exact ahd_asymm ha
    · rw [if_neg e1]
      by_cases e2 : par k = par c
      · rw [if_pos e2]
        have := h.one k k0 hk e1
        rw [e2] at this
        exact no_of_lt this ha
      · rw [if_neg e2]
        by_cases e3 : par k = c
        · rw [if_pos e3]
          exact h.two k k0 hk e3 h0
        · rw [if_neg e3]
          exact h.one k k0 hk e1
  · intro k k0 hk e hp0
    rw [sw_len] at hk
    have hpp := par_lt hp0
    have hkp : k ≠ par c := by intro e2; rw [e2] at e; omega
    rw [g_sw hc hpl hne, g_sw hc hpl hne, if_neg hkp, if_neg (show par (par c) ≠ par c by omega), if_neg (show par (par c) ≠ c by omega)]
    have h1 := h.one (par c) hp0 hpl (fun e => hne e.symm)
    by_cases e1 : k = c
    · rw [if_pos e1]; exact h1
    · rw [if_neg e1]
      have := h.one k k0 hk e1
      rw [e] at this
      exact no_trans this h1

theorem DownOrd.step {L : List It} {c m : Nat} (h : DownOrd L c) (hc : c < L.length) (h0 : 0 < m) (hm : m < L.length) (hpm : par m = c) (hmin : ∀ k, 0 < k → k < L.length → par k = c → ahd (g L k) (g L m) = false)
    (ha : ahd (g L m) (g L c) = true) : DownOrd (sw L c m) m := by
  have hlt : c < m := by have := par_lt h0; omega
  have hne : c ≠ m := by omega
  constructor
  · intro k k0 hk hkm
    rw [sw_len] at hk
    rw [g_sw hc hm hne, g_sw hc hm hne, if_neg hkm]
    by_cases e1 : k = m
    · rw [if_pos e1, e1, hpm, if_pos rfl]
      exact ahd_asymm ha
    · rw [if_neg e1]
      by_cases e2 : k = c
      · rw [if_pos e2]
        have hpk : par k ≠ c := by have := par_lt k0; omega
        rw [if_neg hpk, e2]
        exact h.two m h0 hm hpm (by omega)
      · rw [if_neg e2]
        by_cases e3 : par k = c
        · rw [if_pos e3]; exact hmin k k0 hk e3
        · rw [if_neg e3]; exact h.one k k0 hk e3
  · intro k k0 hk e _
    rw [sw_len] at hk
    have hkm : k ≠ m := by intro e2; rw [e2] at e; have := par_lt h0; omega
    have hkc : k ≠ c := by intro e2; rw [e2] at e; rw [e2] at k0; have := par_lt k0; omega
    rw [g_sw hc hm hne, g_sw hc hm hne, if_neg hkm, if_neg hkc, hpm, if_neg hne, if_pos rfl]
    have := h.one k k0 hk (by rw [e]; exact fun e => hne e.symm)
    rw [e] at this
    exact this

/-- The first of a heap is the least. -/
theorem HeapOrd.least {L : List It} (h : HeapOrd L) : ∀ k, k < L.length → ahd (g L k) (g L 0) = false := by
  intro k
  induction k using Nat.strongRecOn with
  | ind k ih =>
    intro hk
    by_cases e : k = 0
    · rw [e]; exact ahd_irrefl _
    · have h1 := h k (by omega) hk
      have hp := par_lt (k := k) (by omega)
      exact no_trans h1 (ih _ hp (by omega))

theorem HeapOrd.put {L : List It} (h : HeapOrd L) (x : It) : UpOrd (L ++ [x]) L.length := by
  have hg : ∀ k, k < L.length → g (L ++ [x]) k = g L k := fun k hk => by
    unfold g
    rw [List.getD_eq_getElem?_getD, List.getD_eq_getElem?_getD, List.getElem?_append_left hk]
  constructor
  · intro k k0 hk hkl
    rw [List.length_append, List.length_singleton] at hk
    have hp := par_lt k0
    rw [hg k (by omega), hg _ (by omega)]
    exact h k k0 (by omega)
  · intro k k0 hk e _
    rw [List.length_append, List.length_singleton] at hk
    have hp := par_lt k0
    omega

/-- The last one laid at a place, the last place given up. -/
def cut (L : List It) (a : Nat) : List It := (L.take (L.length - 1)).set a (g L (L.length - 1))
theorem cut_len (L : List It) (a : Nat) : (cut L a).length = L.length - 1 := by simp [cut]
theorem g_cut {L : List It} {a k : Nat} (ha : a + 1 < L.length) (hk : k + 1 < L.length) : g (cut L a) k = if k = a then g L (L.length - 1) else g L k := by
  unfold cut
  rw [g_set (by simp; omega)]
  split
  · rfl
  · unfold g
    rw [List.getD_eq_getElem?_getD, List.getD_eq_getElem?_getD, List.getElem?_take, if_pos (by omega)]

theorem cut_down {L : List It} (h : HeapOrd L) {a : Nat} (ha : a + 1 < L.length) (k : a = 0 ∨ ahd (g L (L.length - 1)) (g L (par a)) = false) : DownOrd (cut L a) a := by
  constructor
  · intro j j0 hj hpa
    rw [cut_len] at hj
    have hp := par_lt j0
    rw [g_cut ha (by omega), g_cut ha (by omega), if_neg hpa]
    by_cases e : j = a
    · rw [if_pos e, e]
      rcases k with k | k
      · omega
      · exact k
    · rw [if_neg e]; exact h j j0 (by omega)
  · intro j j0 hj e a0
    rw [cut_len] at hj
    have hp := par_lt j0
    have hp2 := par_lt a0
    rw [g_cut ha (by omega), g_cut ha (by omega), if_neg (by omega), if_neg (by omega)]
    have h1 := h j j0 (by omega)
    rw [e] at h1
    exact no_trans h1 (h a a0 (by omega))
theorem cut_still {L : List It} (h : HeapOrd L) {a : Nat} (ha : a + 1 < L.length) (a0 : 0 < a) (k : ahd (g L (L.length - 1)) (g L (par a)) = true) :
    (∀ j, 0 < j → j < (cut L a).length → par j = a → ahd (g (cut L a) j) (g (cut L a) a) = false) ∧ UpOrd (cut L a) a := by
  have hch : ∀ j, 0 < j → j < (cut L a).length → par j = a → ahd (g L j) (g L (par a)) = false := fun j j0 hj e => by
    rw [cut_len] at hj
    have h1 := h j j0 (by omega)
    rw [e] at h1
    exact no_trans h1 (h a a0 (by omega))
  refine ⟨fun j j0 hj e => ?_, ⟨fun j j0 hj hja => ?_, fun j j0 hj e _ => ?_⟩⟩
  · have h1 := hch j j0 hj e
    rw [cut_len] at hj
    have hp := par_lt j0
    rw [g_cut ha (by omega), g_cut ha (by omega), if_neg (by omega), if_pos rfl]
    exact no_of_lt h1 k
  · have hj' := hj
    rw [cut_len] at hj
    have hp := par_lt j0
    rw [g_cut ha (by omega), g_cut ha (by omega), if_neg hja]
    by_cases e : par j = a
    · rw [if_pos e]; exact no_of_lt (hch j j0 hj' e) k
    · rw [if_neg e]; exact h j j0 (by omega)
  · have h1 := hch j j0 hj e
    rw [cut_len] at hj
    have hp := par_lt j0
    have hp2 := par_lt a0
    rw [g_cut ha (by omega), g_cut ha (by omega), if_neg (by omega), if_neg (by omega)]
    exact h1

/-- Taking out: what is left, and the one that was taken. -/
theorem cut_perm {L : List It} {a : Nat} (ha : a + 1 < L.length) : List.Perm (g L a :: cut L a) L := by
  obtain ⟨M, x, rfl⟩ : ∃ M x, L = M ++ [x] := ⟨L.dropLast, L.getLast (by intro e; rw [e] at ha; simp at ha), (List.dropLast_concat_getLast _).symm⟩
  rw [List.length_append, List.length_singleton] at ha
  have haM : a < M.length := by omega
  have e1 : g (M ++ [x]) a = M[a] := by rw [g_eq (by simp; omega), List.getElem_append_left haM]
  have e2 : cut (M ++ [x]) a = M.set a x := by
    unfold cut
    rw [g_eq (by simp)]
    simp
  rw [e1, e2]
  obtain ⟨s, t, hM, hs⟩ : ∃ s t, M = s ++ M[a] :: t ∧ s.length = a := ⟨M.take a, M.drop (a + 1), by rw [List.getElem_cons_drop, List.take_append_drop], by simp; omega⟩
  have e3 : M.set a x = s ++ x :: t := by
    conv => lhs; rw [hM]
    rw [List.set_append_right _ _ (by omega), hs, Nat.sub_self]; rfl
  rw [e3]
  conv => rhs; rw [hM]
  generalize M[a] = y
  have h1 : List.Perm (y :: (s ++ x :: t)) (y :: (s ++ (t ++ [x]))) := by
    refine List.Perm.cons _ (List.Perm.append_left _ ?_)
    exact (List.perm_append_comm (l₁ := [x]) (l₂ := t))
  refine h1.trans ?_
  rw [← List.append_assoc]
  have h2 : List.Perm (y :: (s ++ t)) (s ++ y :: t) := (List.perm_middle).symm
  have h3 := h2.append_right [x]
  simpa using h3
theorem last_perm {L : List It} (h : 0 < L.length) : List.Perm (g L (L.length - 1) :: L.take (L.length - 1)) L := by
  obtain ⟨M, x, rfl⟩ : ∃ M x, L = M ++ [x] := ⟨L.dropLast, L.getLast (by intro e; rw [e] at h; simp at h), (List.dropLast_concat_getLast _).symm⟩
  have e1 : g (M ++ [x]) ((M ++ [x]).length - 1) = x := by rw [g_eq (by simp)]; simp
  rw [e1]
  have e2 : (M ++ [x]).take ((M ++ [x]).length - 1) = M := by simp
  rw [e2]
  exact List.perm_append_comm (l₁ := [x]) (l₂ := M)
theorem HeapOrd.take {L : List It} (h : HeapOrd L) (n : Nat) : HeapOrd (L.take n) := by
  have hg : ∀ k, k < (L.take n).length → g (L.take n) k = g L k := fun k hk => by
    unfold g
    rw [List.length_take] at hk
    rw [List.getD_eq_getElem?_getD, List.getD_eq_getElem?_getD, List.getElem?_take, if_pos (by omega)]
  intro k k0 hk
  have hp := par_lt k0
  rw [hg k hk, hg _ (by omega)]
  exact h k k0 (by rw [List.length_take] at hk; omega)

/-- The numbers of a list are within bounds, no two alike. -/
structure Good (L : List It) (n : Nat) : Prop where
  nodup : (L.map Prod.fst).Nodup
  range : ∀ x ∈ L, 0 ≤ x.1 ∧ x.1 < (n : Int)
theorem Good.perm {L L' : List It} {n : Nat} (h : Good L n) (hp : List.Perm L' L) : Good L' n :=
  ⟨(hp.map Prod.fst).nodup_iff.2 h.nodup, fun x hx => h.range x (hp.mem_iff.1 hx)⟩
theorem Good.inj {L : List It} {n : Nat} (h : Good L n) {i j : Nat} (hi : i < L.length) (hj : j < L.length) (e : (g L i).1 = (g L j).1) : i = j := by
  have hp := List.pairwise_iff_getElem.1 h.nodup
  rw [g_eq hi, g_eq hj] at e
  rcases Nat.lt_trichotomy i j with h1 | h1 | h1
  · exact absurd (by rw [List.getElem_map, List.getElem_map]; exact e) (hp i j (by simpa using hi) (by simpa using hj) h1)
  · exact h1
  · exact absurd (by rw [List.getElem_map, List.getElem_map]; exact e.symm) (hp j i (by simpa using hj) (by simpa using hi) h1)
/-- Where each number stands; the one at c may not be known yet. -/
structure Pos (ats : List Int) (L : List It) (n : Nat) (c : Nat) : Prop where
  len : ats.length = n
  here : ∀ k, k < L.length → k ≠ c → ats.getD (g L k).1.toNat 0 = (k : Int)
  gone : ∀ i : Nat, i < n → (∀ k, k < L.length → (g L k).1 ≠ (i : Int)) → ats.getD i 0 = -1

theorem getD_set {l : List Int} {i k : Nat} {x d : Int} (h : i < l.length) : (l.set i x).getD k d = if k = i then x else l.getD k d := by
  rw [List.getD_eq_getElem?_getD, List.getD_eq_getElem?_getD, List.getElem?_set]
  by_cases e : i = k
  · subst e; rw [if_pos rfl, if_pos rfl, if_pos h]; rfl
  · rw [if_neg e, if_neg (fun h => e h.symm)]

/-- One is moved to the hole: the hole is where it stood. -/
theorem Pos.move {ats : List Int} {L : List It} {n c d : Nat} (h : Pos ats L n c) (hG : Good L n) (hc : c < L.length) (hd : d < L.length) (hcd : c ≠ d) : Pos (ats.set (g L d).1.toNat (c : Int)) (sw L c d) n d := by
  have hr := hG.range _ (g_mem hd)
  have hl : (g L d).1.toNat < ats.length := by rw [h.len]; omega
  refine ⟨by simp [h.len], fun k hk hkd => ?_, fun i hi hno => ?_⟩
  · rw [sw_len] at hk
    rw [g_sw hc hd hcd, if_neg hkd, getD_set hl]
    by_cases e : k = c
    · rw [if_pos e, if_pos rfl, e]
    · rw [if_neg e]
      have hrk := hG.range _ (g_mem hk)
      rw [if_neg (fun e2 => hkd (hG.inj hk hd (by omega)))]
      exact h.here k hk e
  · have hno' : ∀ k, k < L.length → (g L k).1 ≠ (i : Int) := fun k hk => by
      obtain ⟨j, hj, e⟩ := g_of_mem ((sw_perm hc hd).mem_iff.2 (g_mem hk))
      rw [← e]; exact hno j hj
    have := hno' d hd
    rw [getD_set hl, if_neg (by omega)]
    exact h.gone i hi hno'
/-- The hole is filled. -/
theorem Pos.fill {ats : List Int} {L : List It} {n c : Nat} (h : Pos ats L n c) (hG : Good L n) (hc : c < L.length) : Pos (ats.set (g L c).1.toNat (c : Int)) L n L.length := by
  have hr := hG.range _ (g_mem hc)
  have hl : (g L c).1.toNat < ats.length := by rw [h.len]; omega
  refine ⟨by simp [h.len], fun k hk _ => ?_, fun i hi hno => ?_⟩
  · rw [getD_set hl]
    by_cases e : k = c
    · rw [e, if_pos rfl]
    · have hrk := hG.range _ (g_mem hk)
      rw [if_neg (fun e2 => e (hG.inj hk hc (by omega)))]
      exact h.here k hk e
  · have := hno c hc
    rw [getD_set hl, if_neg (by omega)]
    exact h.gone i hi hno

end Hp
end Go.Proofs.Ytkmgpajodbadmaa
