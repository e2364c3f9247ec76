/- The plain part of the names' comparison: a text cut at its dots, two lists of texts compared piece by piece. No program in sight. -/
import Derived.Lib.IndexMore
import Derived.Lib.CutLaws
import Derived.Lib.PathFns
import GoSem.Op.String
namespace Go.Proofs.NmPlain

abbrev Bs := List UInt8

/-- The pieces of a text between its dots. -/
def split : Bs → List Bs
  | [] => [[]]
  | b :: l => if b = 46 then [] :: split l else match split l with
    | [] => [[b]]
    | p :: ps => (b :: p) :: ps

theorem split_ne (s : Bs) : split s ≠ [] := by
  cases s with
  | nil => simp [split]
  | cons b l => unfold split; split <;> (try simp); split <;> simp

theorem index_nil : Lib.index [] [46] = -1 := rfl

theorem index_dot (l : Bs) : Lib.index (46 :: l) [46] = 0 := by
  unfold Lib.index; rw [if_pos (by simp [List.isPrefixOf])]

theorem index_other (b : UInt8) (l : Bs) (h : b ≠ 46) : Lib.index (b :: l) [46] = if Lib.index l [46] = -1 then -1 else Lib.index l [46] + 1 := by
  rw [Lib.index, if_neg (by simp [List.isPrefixOf]; exact fun h' => h h'.symm)]
  by_cases c : Lib.index l [46] = -1
  · simp [c]
  · simp [c]

theorem split_none : ∀ s : Bs, Lib.index s [46] = -1 → split s = [s]
  | [], _ => rfl
  | b :: l, h => by
    by_cases hb : b = 46
    · subst hb; rw [index_dot] at h; cases h
    · rw [index_other b l hb] at h
      have hg := Lib.index_ge l [46]
      by_cases c : Lib.index l [46] = -1
      · rw [split, if_neg hb, split_none l c]
      · rw [if_neg c] at h; omega

theorem split_some : ∀ (s : Bs) (i : Nat), Lib.index s [46] = i → split s = s.take i :: split (s.drop (i + 1))
  | [], i, h => by rw [index_nil] at h; omega
  | b :: l, i, h => by
    by_cases hb : b = 46
    · subst hb; rw [index_dot] at h
      obtain rfl : i = 0 := by omega
      rw [split, if_pos rfl]; simp
    · rw [index_other b l hb] at h
      by_cases c : Lib.index l [46] = -1
      · rw [if_pos c] at h; omega
      · rw [if_neg c] at h
        obtain ⟨j, rfl⟩ : ∃ j, i = j + 1 := ⟨i - 1, by have := Lib.index_ge l [46]; omega⟩
        rw [split, if_neg hb, split_some l j (by omega)]
        simp

/-- What strings.Cut at a dot hands back, in the two ways. -/
def CutNo (s x : ByteArray) : Prop := x = s ∧ split s.data.toList = [s.data.toList]
def CutYes (s x r : ByteArray) : Prop := split s.data.toList = x.data.toList :: split r.data.toList ∧ r.size < s.size

theorem size_toList (s : ByteArray) : s.size = s.data.toList.length := Lib.size_eq s

theorem cut_says (s : ByteArray) : ((Lib.cut s.data.toList [46]).2.2 = false ∧ CutNo s ⟨(Lib.cut s.data.toList [46]).1.toArray⟩) ∨
    ((Lib.cut s.data.toList [46]).2.2 = true ∧ CutYes s ⟨(Lib.cut s.data.toList [46]).1.toArray⟩ ⟨(Lib.cut s.data.toList [46]).2.1.toArray⟩) := by
  have hg := Lib.index_ge s.data.toList [46]
  unfold Lib.cut
  by_cases c : 0 ≤ Lib.index s.data.toList [46]
  · rw [if_pos c]
    have hr := Lib.index_room s.data.toList [46] c
    have e := split_some s.data.toList (Lib.index s.data.toList [46]).toNat (by omega)
    refine .inr ⟨rfl, e, ?_⟩
    rw [size_toList, size_toList]
    simp at hr ⊢; omega
  · rw [if_neg c]
    exact .inl ⟨rfl, rfl, split_none _ (by omega)⟩

/-- Two texts, byte by byte. -/
def bcmp : Bs → Bs → Int
  | [], [] => 0
  | [], _ :: _ => -1
  | _ :: _, [] => 1
  | a :: s, b :: t => if a = b then bcmp s t else if a < b then -1 else 1

theorem bcmp_range : ∀ s t : Bs, bcmp s t = -1 ∨ bcmp s t = 0 ∨ bcmp s t = 1
  | [], [] => by simp [bcmp]
  | [], _ :: _ => by simp [bcmp]
  | _ :: _, [] => by simp [bcmp]
  | a :: s, b :: t => by
    unfold bcmp
    split
    · exact bcmp_range s t
    · split <;> simp

theorem bcmp_zero : ∀ s t : Bs, bcmp s t = 0 ↔ s = t
  | [], [] => by simp [bcmp]
  | [], _ :: _ => by simp [bcmp]
  | _ :: _, [] => by simp [bcmp]
  | a :: s, b :: t => by
    unfold bcmp
    by_cases h : a = b
    · rw [if_pos h, bcmp_zero s t]; simp [h]
    · rw [if_neg h]
      constructor
      · intro h'; split at h' <;> cases h'
      · intro h'; simp only [List.cons.injEq] at h'; exact absurd h'.1 h

theorem bytesLess_bcmp : ∀ s t : Bs, Op.bytesLess s t = decide (bcmp s t = -1)
  | [], [] => by simp [bcmp, Op.bytesLess]
  | [], _ :: _ => by simp [bcmp, Op.bytesLess]
  | _ :: _, [] => by simp [bcmp, Op.bytesLess]
  | a :: s, b :: t => by
    unfold bcmp Op.bytesLess
    by_cases h : a = b
    · subst h; rw [if_pos rfl, bytesLess_bcmp s t]; simp
    · rw [if_neg h]
      by_cases h2 : a < b
      · simp [h2]
      · rw [if_neg h2]; simp [h, h2]

/-- Two lists of texts, piece by piece. -/
def lcmp : List Bs → List Bs → Int
  | [], [] => 0
  | [], _ :: _ => -1
  | _ :: _, [] => 1
  | x :: xs, y :: ys => if bcmp x y = 0 then lcmp xs ys else bcmp x y

/-- Two texts, compared by their pieces. -/
def ncmp (a b : Bs) : Int := lcmp (split a) (split b)

theorem ncmp_part {a b x y : Bs} {xs ys : List Bs} (ha : split a = x :: xs) (hb : split b = y :: ys) (h : bcmp x y ≠ 0) : ncmp a b = bcmp x y := by
  unfold ncmp; rw [ha, hb, lcmp, if_neg h]
theorem ncmp_both {a b x y : Bs} (ha : split a = [x]) (hb : split b = [y]) (h : bcmp x y = 0) : ncmp a b = 0 := by
  unfold ncmp; rw [ha, hb, lcmp, if_pos h, lcmp]
theorem ncmp_left {a b x y : Bs} {ys : Bs} (ha : split a = [x]) (hb : split b = y :: split ys) (h : bcmp x y = 0) : ncmp a b = -1 := by
  unfold ncmp; rw [ha, hb, lcmp, if_pos h]
  have := split_ne ys
  cases h' : split ys with
  | nil => exact absurd h' this
  | cons _ _ => rfl
theorem ncmp_right {a b x y : Bs} {xs : Bs} (ha : split a = x :: split xs) (hb : split b = [y]) (h : bcmp x y = 0) : ncmp a b = 1 := by
  unfold ncmp; rw [ha, hb, lcmp, if_pos h]
  have := split_ne xs
  cases h' : split xs with
  | nil => exact absurd h' this
  | cons _ _ => rfl
theorem ncmp_next {a b x y : Bs} {xs ys : Bs} (ha : split a = x :: split xs) (hb : split b = y :: split ys) (h : bcmp x y = 0) : ncmp a b = ncmp xs ys := by
  unfold ncmp; rw [ha, hb, lcmp, if_pos h]

theorem split_len : ∀ (s : Bs), ∀ p ∈ split s, p.length ≤ s.length
  | [], p, h => by simp [split] at h; rw [h]; simp
  | b :: l, p, h => by
    unfold split at h
    split at h
    · rcases List.mem_cons.1 h with rfl | h'
      · simp
      · have := split_len l p h'; simp; omega
    · split at h
      · simp at h; rw [h]; simp
      · rename_i q qs hq
        rcases List.mem_cons.1 h with rfl | h'
        · have := split_len l q (by rw [hq]; simp); simp; omega
        · have := split_len l p (by rw [hq]; simp [h']); simp; omega

/-! ### the reference's own ways: the pieces gathered, one by one -/
def PInv (s : ByteArray) (done : List ByteArray) (j k : Nat) : Prop :=
  split s.data.toList = done.map (·.data.toList) ++ split (s.data.toList.drop j) ∧ (∀ c ∈ (s.data.toList.drop j).take (k - j), c ≠ 46) ∧ done.length ≤ j

theorem PInv.start (s : ByteArray) : PInv s [] 0 0 := ⟨by simp, by simp, by simp⟩

theorem split_app : ∀ (p q : Bs), (∀ c ∈ p, c ≠ 46) → split (p ++ 46 :: q) = p :: split q
  | [], q, _ => by simp [split]
  | b :: p, q, h => by
    have hb : b ≠ 46 := h b (by simp)
    rw [List.cons_append, split, if_neg hb, split_app p q (fun c hc => h c (by simp [hc]))]

theorem split_plain : ∀ (p : Bs), (∀ c ∈ p, c ≠ 46) → split p = [p]
  | [], _ => rfl
  | b :: p, h => by
    rw [split, if_neg (h b (by simp)), split_plain p (fun c hc => h c (by simp [hc]))]

theorem take_step (l : Bs) (j k : Nat) (hj : j ≤ k) (hk : k < l.length) : (l.drop j).take (k + 1 - j) = (l.drop j).take (k - j) ++ [l[k]] := by
  have e : k + 1 - j = (k - j) + 1 := by omega
  rw [e, List.take_succ_eq_append_getElem (by simp; omega)]
  congr 2
  simp; congr 1; omega

theorem PInv.other {s : ByteArray} {done : List ByteArray} {j k : Nat} (h : PInv s done j k) (hj : j ≤ k) (hk : k < s.size) (hc : s.data.toList[k]'(by rw [← size_toList]; exact hk) ≠ 46) : PInv s done j (k + 1) := by
  obtain ⟨h1, h2, h3⟩ := h
  refine ⟨h1, ?_, h3⟩
  rw [take_step _ _ _ hj (by rw [← size_toList]; exact hk)]
  intro c hcm
  rcases List.mem_append.1 hcm with h' | h'
  · exact h2 c h'
  · simp only [List.mem_singleton] at h'; rw [h']; exact hc

theorem extract_list (s : ByteArray) (j k : Nat) : (s.extract j k).data.toList = (s.data.toList.drop j).take (k - j) := by
  simp [ByteArray.data_extract, Array.toList_extract, List.extract_eq_take_drop]

theorem PInv.dot {s : ByteArray} {done : List ByteArray} {j k : Nat} (h : PInv s done j k) (hj : j ≤ k) (hk : k < s.size) (hc : s.data.toList[k]'(by rw [← size_toList]; exact hk) = 46) : PInv s (done ++ [s.extract j k]) (k + 1) (k + 1) := by
  obtain ⟨h1, h2, h3⟩ := h
  have hk' : k < s.data.toList.length := by rw [← size_toList]; exact hk
  have e : s.data.toList.drop j = (s.data.toList.drop j).take (k - j) ++ 46 :: s.data.toList.drop (k + 1) := by
    have e1 : (s.data.toList.drop j).drop (k - j) = 46 :: s.data.toList.drop (k + 1) := by
      rw [List.drop_drop, show j + (k - j) = k from by omega, List.drop_eq_getElem_cons hk', hc]
    rw [← e1, List.take_append_drop]
  refine ⟨?_, by simp, by simp; omega⟩
  rw [h1, e, split_app _ _ h2]
  simp

theorem PInv.last {s : ByteArray} {done : List ByteArray} {j : Nat} (h : PInv s done j s.size) : (done ++ [s.extract j s.size]).map (·.data.toList) = split s.data.toList := by
  obtain ⟨h1, h2, h3⟩ := h
  have e : (s.data.toList.drop j).take (s.size - j) = s.data.toList.drop j := List.take_of_length_le (by rw [size_toList]; simp)
  rw [e] at h2
  rw [h1, split_plain _ h2]
  simp [e]

/-- Two lists' comparison from a place on. -/
theorem lcmp_drop {xs ys : List Bs} {i : Nat} (hx : i < xs.length) (hy : i < ys.length) : lcmp (xs.drop i) (ys.drop i) = if bcmp xs[i] ys[i] = 0 then lcmp (xs.drop (i + 1)) (ys.drop (i + 1)) else bcmp xs[i] ys[i] := by
  rw [List.drop_eq_getElem_cons hx, List.drop_eq_getElem_cons hy, lcmp]

/-- Two texts' comparison from a place on. -/
theorem bcmp_drop {xs ys : Bs} {i : Nat} (hx : i < xs.length) (hy : i < ys.length) : bcmp (xs.drop i) (ys.drop i) = if xs[i] = ys[i] then bcmp (xs.drop (i + 1)) (ys.drop (i + 1)) else if xs[i] < ys[i] then -1 else 1 := by
  rw [List.drop_eq_getElem_cons hx, List.drop_eq_getElem_cons hy, bcmp]

theorem bcmp_end {xs ys : Bs} {i : Nat} (h : i = xs.length ∨ i = ys.length) (hx : i ≤ xs.length) (hy : i ≤ ys.length) : bcmp (xs.drop i) (ys.drop i) = if xs.length = ys.length then 0 else if xs.length < ys.length then -1 else 1 := by
  rcases Nat.lt_trichotomy xs.length ys.length with hl | hl | hl
  · obtain rfl : i = xs.length := by omega
    rw [List.drop_of_length_le (Nat.le_refl _), List.drop_eq_getElem_cons hl, if_neg (by omega), if_pos hl, bcmp]
  · obtain rfl : i = xs.length := by omega
    rw [List.drop_of_length_le (Nat.le_refl _), List.drop_of_length_le (by omega), if_pos hl, bcmp]
  · obtain rfl : i = ys.length := by omega
    rw [List.drop_of_length_le (Nat.le_refl ys.length), List.drop_eq_getElem_cons hl, if_neg (by omega), if_neg (by omega), bcmp]

theorem lcmp_end {xs ys : List Bs} {i : Nat} (h : i = xs.length ∨ i = ys.length) (hx : i ≤ xs.length) (hy : i ≤ ys.length) : lcmp (xs.drop i) (ys.drop i) = if xs.length = ys.length then 0 else if xs.length < ys.length then -1 else 1 := by
  rcases Nat.lt_trichotomy xs.length ys.length with hl | hl | hl
  · obtain rfl : i = xs.length := by omega
    rw [List.drop_of_length_le (Nat.le_refl _), List.drop_eq_getElem_cons hl, if_neg (by omega), if_pos hl, lcmp]
  · obtain rfl : i = xs.length := by omega
    rw [List.drop_of_length_le (Nat.le_refl _), List.drop_of_length_le (by omega), if_pos hl, lcmp]
  · obtain rfl : i = ys.length := by omega
    rw [List.drop_of_length_le (Nat.le_refl ys.length), List.drop_eq_getElem_cons hl, if_neg (by omega), if_neg (by omega), lcmp]

end Go.Proofs.NmPlain
