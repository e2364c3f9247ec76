/- Several texts in one: what each proves its own first comment says. -/
import Derived.Lib.IndexMore
import Derived.Lib.CutLaws
import Derived.Lib.PathFns
import GoSem.Op.String
import Derived.Test.YtocoonkachbjaaaDoorM3
import Derived.Lib.SplitLaws
import Derived.Deep.Strs
import Derived.Carry
import Derived.WalkKit
import Derived.Deep.Draws
import Derived.Test.YtocoonkachbjaaaDoorProg
import Derived.Test.YtocoonkachbjaaaDoorM1
import Derived.BigQuiet
import Derived.Deep.QuietTactic
import Derived.Outline
import Derived.WalkLawsBesides
import Derived.WalkSpells
import Derived.Lib.Strings

/- The plain part of the names' comparison: a text cut at its dots, two lists of texts compared piece by piece. No program in sight. -/
namespace Go.Proofs.NmPlain

abbrev Bs := List UInt8

/-- The pieces of a text between its dots. -/
def split : Bs → List Bs
  | [] => [[]]
  | b :: l => if b = 46 then [] :: split l else match split l with
    | [] => [[b]]
    | p :: ps => (b :: p) :: ps

theorem split_ne (s : Bs) : split s ≠ [] := by
  cases s with
  | nil => simp [split]
  | cons b l => unfold split; split <;> (try simp); split <;> simp

theorem index_nil : Lib.index [] [46] = -1 := rfl

theorem index_dot (l : Bs) : Lib.index (46 :: l) [46] = 0 := by
  unfold Lib.index; rw [if_pos (by simp [List.isPrefixOf])]

theorem index_other (b : UInt8) (l : Bs) (h : b ≠ 46) : Lib.index (b :: l) [46] = if Lib.index l [46] = -1 then -1 else Lib.index l [46] + 1 := by
  rw [Lib.index, if_neg (by simp [List.isPrefixOf]; exact fun h' => h h'.symm)]
  by_cases c : Lib.index l [46] = -1
  · simp [c]
  · simp [c]

theorem split_none : ∀ s : Bs, Lib.index s [46] = -1 → split s = [s]
  | [], _ => rfl
  | b :: l, h => by
    by_cases hb : b = 46
    · subst hb; rw [index_dot] at h; cases h
    · rw [index_other b l hb] at h
      have hg := Lib.index_ge l [46]
      by_cases c : Lib.index l [46] = -1
      · rw [split, if_neg hb, split_none l c]
      · rw [if_neg c] at h; omega

theorem split_some : ∀ (s : Bs) (i : Nat), Lib.index s [46] = i → split s = s.take i :: split (s.drop (i + 1))
  | [], i, h => by rw [index_nil] at h; omega
  | b :: l, i, h => by
    by_cases hb : b = 46
    · subst hb; rw [index_dot] at h
      obtain rfl : i = 0 := by omega
      rw [split, if_pos rfl]; simp
    · rw [index_other b l hb] at h
      by_cases c : Lib.index l [46] = -1
      · rw [if_pos c] at h; omega
      · rw [if_neg c] at h
        obtain ⟨j, rfl⟩ : ∃ j, i = j + 1 := ⟨i - 1, by have := Lib.index_ge l [46]; omega⟩
        rw [split, if_neg hb, split_some l j (by omega)]
        simp

/-- What strings.Cut at a dot hands back, in the two ways. -/
def CutNo (s x : ByteArray) : Prop := x = s ∧ split s.data.toList = [s.data.toList]
def CutYes (s x r : ByteArray) : Prop := split s.data.toList = x.data.toList :: split r.data.toList ∧ r.size < s.size

theorem size_toList (s : ByteArray) : s.size = s.data.toList.length := Lib.size_eq s

theorem cut_says (s : ByteArray) : ((Lib.cut s.data.toList [46]).2.2 = false ∧ CutNo s ⟨(Lib.cut s.data.toList [46]).1.toArray⟩) ∨
    ((Lib.cut s.data.toList [46]).2.2 = true ∧ CutYes s ⟨(Lib.cut s.data.toList [46]).1.toArray⟩ ⟨(Lib.cut s.data.toList [46]).2.1.toArray⟩) := by
  have hg := Lib.index_ge s.data.toList [46]
  unfold Lib.cut
  by_cases c : 0 ≤ Lib.index s.data.toList [46]
  · rw [if_pos c]
    have hr := Lib.index_room s.data.toList [46] c
    have e := split_some s.data.toList (Lib.index s.data.toList [46]).toNat (by omega)
    refine .inr ⟨rfl, e, ?_⟩
    rw [size_toList, size_toList]
    simp at hr ⊢; omega
  · rw [if_neg c]
    exact .inl ⟨rfl, rfl, split_none _ (by omega)⟩

/-- Two texts, byte by byte. -/
def bcmp : Bs → Bs → Int
  | [], [] => 0
  | [], _ :: _ => -1
  | _ :: _, [] => 1
  | a :: s, b :: t => if a = b then bcmp s t else if a < b then -1 else 1

theorem bcmp_range : ∀ s t : Bs, bcmp s t = -1 ∨ bcmp s t = 0 ∨ bcmp s t = 1
  | [], [] => by simp [bcmp]
  | [], _ :: _ => by simp [bcmp]
  | _ :: _, [] => by simp [bcmp]
  | a :: s, b :: t => by
    unfold bcmp
    split
    · exact bcmp_range s t
    · split <;> simp

theorem bcmp_zero : ∀ s t : Bs, bcmp s t = 0 ↔ s = t
  | [], [] => by simp [bcmp]
  | [], _ :: _ => by simp [bcmp]
  | _ :: _, [] => by simp [bcmp]
  | a :: s, b :: t => by
    unfold bcmp
    by_cases h : a = b
    · rw [if_pos h, bcmp_zero s t]; simp [h]
    · rw [if_neg h]
      constructor
      · intro h'; split at h' <;> cases h'
      · intro h'; simp only [List.cons.injEq] at h'; exact absurd h'.1 h

theorem bytesLess_bcmp : ∀ s t : Bs, Op.bytesLess s t = decide (bcmp s t = -1)
  | [], [] => by simp [bcmp, Op.bytesLess]
  | [], _ :: _ => by simp [bcmp, Op.bytesLess]
  | _ :: _, [] => by simp [bcmp, Op.bytesLess]
  | a :: s, b :: t => by
    unfold bcmp Op.bytesLess
    by_cases h : a = b
    · subst h; rw [if_pos rfl, bytesLess_bcmp s t]; simp
    · rw [if_neg h]
      by_cases h2 : a < b
      · simp [h2]
      · rw [if_neg h2]; simp [h, h2]

/-- Two lists of texts, piece by piece. -/
def lcmp : List Bs → List Bs → Int
  | [], [] => 0
  | [], _ :: _ => -1
  | _ :: _, [] => 1
  | x :: xs, y :: ys => if bcmp x y = 0 then lcmp xs ys else bcmp x y

/-- Two texts, compared by their pieces. -/
def ncmp (a b : Bs) : Int := lcmp (split a) (split b)

theorem ncmp_part {a b x y : Bs} {xs ys : List Bs} (ha : split a = x :: xs) (hb : split b = y :: ys) (h : bcmp x y ≠ 0) : ncmp a b = bcmp x y := by
  unfold ncmp; rw [ha, hb, lcmp, if_neg h]
theorem ncmp_both {a b x y : Bs} (ha : split a = [x]) (hb : split b = [y]) (h : bcmp x y = 0) : ncmp a b = 0 := by
  unfold ncmp; rw [ha, hb, lcmp, if_pos h, lcmp]
theorem ncmp_left {a b x y : Bs} {ys : Bs} (ha : split a = [x]) (hb : split b = y :: split ys) (h : bcmp x y = 0) : ncmp a b = -1 := by
  unfold ncmp; rw [ha, hb, lcmp, if_pos h]
  have := split_ne ys
  cases h' : split ys with
  | nil => exact absurd h' this
  | cons _ _ => rfl
theorem ncmp_right {a b x y : Bs} {xs : Bs} (ha : split a = x :: split xs) (hb : split b = [y]) (h : bcmp x y = 0) : ncmp a b = 1 := by
  unfold ncmp; rw [ha, hb, lcmp, if_pos h]
  have := split_ne xs
  cases h' : split xs with
  | nil => exact absurd h' this
  | cons _ _ => rfl
theorem ncmp_next {a b x y : Bs} {xs ys : Bs} (ha : split a = x :: split xs) (hb : split b = y :: split ys) (h : bcmp x y = 0) : ncmp a b = ncmp xs ys := by
  unfold ncmp; rw [ha, hb, lcmp, if_pos h]

theorem split_len : ∀ (s : Bs), ∀ p ∈ split s, p.length ≤ s.length
  | [], p, h => by simp [split] at h; rw [h]; simp
  | b :: l, p, h => by
    unfold split at h
    split at h
    · rcases List.mem_cons.1 h with rfl | h'
      · simp
      · have := split_len l p h'; simp; omega
    · split at h
      · simp at h; rw [h]; simp
      · rename_i q qs hq
        rcases List.mem_cons.1 h with rfl | h'
        · have := split_len l q (by rw [hq]; simp); simp; omega
        · have := split_len l p (by rw [hq]; simp [h']); simp; omega

/-! ### the reference's own ways: the pieces gathered, one by one -/
def PInv (s : ByteArray) (done : List ByteArray) (j k : Nat) : Prop :=
  split s.data.toList = done.map (·.data.toList) ++ split (s.data.toList.drop j) ∧ (∀ c ∈ (s.data.toList.drop j).take (k - j), c ≠ 46) ∧ done.length ≤ j

theorem PInv.start (s : ByteArray) : PInv s [] 0 0 := ⟨by simp, by simp, by simp⟩

theorem split_app : ∀ (p q : Bs), (∀ c ∈ p, c ≠ 46) → split (p ++ 46 :: q) = p :: split q
  | [], q, _ => by simp [split]
  | b :: p, q, h => by
    have hb : b ≠ 46 := h b (by simp)
    rw [List.cons_append, split, if_neg hb, split_app p q (fun c hc => h c (by simp [hc]))]

theorem split_plain : ∀ (p : Bs), (∀ c ∈ p, c ≠ 46) → split p = [p]
  | [], _ => rfl
  | b :: p, h => by
    rw [split, if_neg (h b (by simp)), split_plain p (fun c hc => h c (by simp [hc]))]

theorem take_step (l : Bs) (j k : Nat) (hj : j ≤ k) (hk : k < l.length) : (l.drop j).take (k + 1 - j) = (l.drop j).take (k - j) ++ [l[k]] := by
  have e : k + 1 - j = (k - j) + 1 := by omega
  rw [e, List.take_succ_eq_append_getElem (by simp; omega)]
  congr 2
  simp; congr 1; omega

theorem PInv.other {s : ByteArray} {done : List ByteArray} {j k : Nat} (h : PInv s done j k) (hj : j ≤ k) (hk : k < s.size) (hc : s.data.toList[k]'(by rw [← size_toList]; exact hk) ≠ 46) : PInv s done j (k + 1) := by
  obtain ⟨h1, h2, h3⟩ := h
  refine ⟨h1, ?_, h3⟩
  rw [take_step _ _ _ hj (by rw [← size_toList]; exact hk)]
  intro c hcm
  rcases List.mem_append.1 hcm with h' | h'
  · exact h2 c h'
  · simp only [List.mem_singleton] at h'; rw [h']; exact hc

theorem extract_list (s : ByteArray) (j k : Nat) : (s.extract j k).data.toList = (s.data.toList.drop j).take (k - j) := by
  simp [ByteArray.data_extract, Array.toList_extract, List.extract_eq_take_drop]

theorem PInv.dot {s : ByteArray} {done : List ByteArray} {j k : Nat} (h : PInv s done j k) (hj : j ≤ k) (hk : k < s.size) (hc : s.data.toList[k]'(by rw [← size_toList]; exact hk) = 46) : PInv s (done ++ [s.extract j k]) (k + 1) (k + 1) := by
  obtain ⟨h1, h2, h3⟩ := h
  have hk' : k < s.data.toList.length := by rw [← size_toList]; exact hk
  have e : s.data.toList.drop j = (s.data.toList.drop j).take (k - j) ++ 46 :: s.data.toList.drop (k + 1) := by
    have e1 : (s.data.toList.drop j).drop (k - j) = 46 :: s.data.toList.drop (k + 1) := by
      rw [List.drop_drop, show j + (k - j) = k from by omega, List.drop_eq_getElem_cons hk', hc]
    rw [← e1, List.take_append_drop]
  refine ⟨?_, by simp, by simp; omega⟩
  rw [h1, e, split_app _ _ h2]
  simp

theorem PInv.last {s : ByteArray} {done : List ByteArray} {j : Nat} (h : PInv s done j s.size) : (done ++ [s.extract j s.size]).map (·.data.toList) = split s.data.toList := by
  obtain ⟨h1, h2, h3⟩ := h
  have e : (s.data.toList.drop j).take (s.size - j) = s.data.toList.drop j := List.take_of_length_le (by rw [size_toList]; simp)
  rw [e] at h2
  rw [h1, split_plain _ h2]
  simp [e]

/-- Two lists' comparison from a place on. -/
theorem lcmp_drop {xs ys : List Bs} {i : Nat} (hx : i < xs.length) (hy : i < ys.length) : lcmp (xs.drop i) (ys.drop i) = if bcmp xs[i] ys[i] = 0 then lcmp (xs.drop (i + 1)) (ys.drop (i + 1)) else bcmp xs[i] ys[i] := by
  rw [List.drop_eq_getElem_cons hx, List.drop_eq_getElem_cons hy, lcmp]

/-- Two texts' comparison from a place on. -/
theorem bcmp_drop {xs ys : Bs} {i : Nat} (hx : i < xs.length) (hy : i < ys.length) : bcmp (xs.drop i) (ys.drop i) = if xs[i] = ys[i] then bcmp (xs.drop (i + 1)) (ys.drop (i + 1)) else if xs[i] < ys[i] then -1 else 1 := by
  rw [List.drop_eq_getElem_cons hx, List.drop_eq_getElem_cons hy, bcmp]

theorem bcmp_end {xs ys : Bs} {i : Nat} (h : i = xs.length ∨ i = ys.length) (hx : i ≤ xs.length) (hy : i ≤ ys.length) : bcmp (xs.drop i) (ys.drop i) = if xs.length = ys.length then 0 else if xs.length < ys.length then -1 else 1 := by
  rcases Nat.lt_trichotomy xs.length ys.length with hl | hl | hl
  · obtain rfl : i = xs.length := by omega
    rw [List.drop_of_length_le (Nat.le_refl _), List.drop_eq_getElem_cons hl, if_neg (by omega), if_pos hl, bcmp]
  · obtain rfl : i = xs.length := by omega
    rw [List.drop_of_length_le (Nat.le_refl _), List.drop_of_length_le (by omega), if_pos hl, bcmp]
  · obtain rfl : i = ys.length := by omega
    rw [List.drop_of_length_le (Nat.le_refl ys.length), List.drop_eq_getElem_cons hl, if_neg (by omega), if_neg (by omega), bcmp]

theorem lcmp_end {xs ys : List Bs} {i : Nat} (h : i = xs.length ∨ i = ys.length) (hx : i ≤ xs.length) (hy : i ≤ ys.length) : lcmp (xs.drop i) (ys.drop i) = if xs.length = ys.length then 0 else if xs.length < ys.length then -1 else 1 := by
  rcases Nat.lt_trichotomy xs.length ys.length with hl | hl | hl
  · obtain rfl : i = xs.length := by omega
    rw [List.drop_of_length_le (Nat.le_refl _), List.drop_eq_getElem_cons hl, if_neg (by omega), if_pos hl, lcmp]
  · obtain rfl : i = xs.length := by omega
    rw [List.drop_of_length_le (Nat.le_refl _), List.drop_of_length_le (by omega), if_pos hl, lcmp]
  · obtain rfl : i = ys.length := by omega
    rw [List.drop_of_length_le (Nat.le_refl ys.length), List.drop_eq_getElem_cons hl, if_neg (by omega), if_neg (by omega), lcmp]

end Go.Proofs.NmPlain

/- names.Name and the reference's Name, of any text. -/
namespace Go.Proofs.YtocoonkachbjaaaDoor
open Go.RowKit Go.Proofs.NmPlain
set_option linter.unusedVariables false

/-- May a byte stand at a place of a name? -/
def okAt (i : Nat) (b : UInt8) : Bool := (decide (97 ≤ b.toNat) && decide (b.toNat ≤ 122)) || (decide (i ≠ 0) && isSign b.toNat)
def nameAux : Nat → Bs → Bool
  | _, [] => true
  | i, b :: l => okAt i b && nameAux (i + 1) l
/-- Is a text a name? -/
def nameB (l : Bs) : Bool := decide (1 ≤ l.length ∧ l.length ≤ 32) && nameAux 0 l

theorem nameAux_drop {l : Bs} {p : Nat} (h : p < l.length) : nameAux p (l.drop p) = (okAt p l[p] && nameAux (p + 1) (l.drop (p + 1))) := by
  rw [List.drop_eq_getElem_cons h, nameAux]

theorem nameB_len {l : Bs} (h : ¬ (1 ≤ l.length ∧ l.length ≤ 32)) : nameB l = false := by unfold nameB; rw [decide_eq_false h]; rfl
theorem nameB_aux {l : Bs} (h : 1 ≤ l.length ∧ l.length ≤ 32) : nameB l = nameAux 0 l := by unfold nameB; rw [decide_eq_true h]; rfl

theorem isSign_high {c : Nat} (h : 128 ≤ c) : isSign c = false := by
  unfold isSign
  have a : decide (c ≤ 57) = false := by simp; omega
  have b : (c == 45) = false := by rw [beq_eq_false_iff_ne]; omega
  have d : (c == 95) = false := by rw [beq_eq_false_iff_ne]; omega
  rw [a, b, d]; simp

theorem okAt_letter {i : Nat} {b : UInt8} (h1 : 97 ≤ b.toNat) (h2 : b.toNat ≤ 122) : okAt i b = true := by simp [okAt, h1, h2]
theorem okAt_zero {b : UInt8} (h : b.toNat < 97 ∨ 122 < b.toNat) : okAt 0 b = false := by
  unfold okAt
  have : (decide (97 ≤ b.toNat) && decide (b.toNat ≤ 122)) = false := by
    rcases h with h | h
    · rw [decide_eq_false (by omega)]; rfl
    · rw [decide_eq_false (p := b.toNat ≤ 122) (by omega), Bool.and_false]
  rw [this]; simp
theorem okAt_sign {i : Nat} {b : UInt8} (hi : i ≠ 0) (h : b.toNat < 97 ∨ 122 < b.toNat) : okAt i b = isSign b.toNat := by
  unfold okAt
  have : (decide (97 ≤ b.toNat) && decide (b.toNat ≤ 122)) = false := by
    rcases h with h | h
    · rw [decide_eq_false (by omega)]; rfl
    · rw [decide_eq_false (p := b.toNat ≤ 122) (by omega), Bool.and_false]
  rw [this, decide_eq_true hi]; simp

theorem decode_valid (s : ByteArray) (p : Nat) (h : p < s.size) (ha : 128 ≤ (s[p]'h).toNat) : Utf8.valid ((Utf8.decode s p).1 : Int) = true := by
  unfold Utf8.decode
  dsimp only
  have hnot : ¬ (s.get! (p + 0)).toNat < 128 := by rw [get_at s p h]; omega
  rw [if_neg hnot]
  have hve : Utf8.valid ((Utf8.runeError : Nat) : Int) = true := by decide
  split
  · split
    · rename_i h1 h2
      have h3 : (s.get! (p + 0)).toNat % 32 < 32 := Nat.mod_lt _ (by omega)
      have h4 : (s.get! (p + 1)).toNat % 64 < 64 := Nat.mod_lt _ (by omega)
      generalize (s.get! (p + 0)).toNat % 32 = a at *
      generalize (s.get! (p + 1)).toNat % 64 = b at *
      simp only [Utf8.valid, Bool.or_eq_true, Bool.and_eq_true, decide_eq_true_eq]; left; constructor <;> omega
    · exact hve
  · split
    · split
      · rename_i h1 h2 h3
        simp only [Bool.and_eq_true] at h3; exact h3.2
      · exact hve
    · split
      · split
        · rename_i h1 h2 h3 h4
          simp only [Bool.and_eq_true] at h4; exact h4.2
        · exact hve
      · exact hve

/-- What the round knows: the rune at a place, and what the signs say of it. -/
structure RuneAt (s : ByteArray) (p : Nat) (h : p < s.size) (c d : Nat) (q : Bool) : Prop where
  dec : Utf8.decode s p = (c, d)
  pos : 1 ≤ d
  small : (s[p]'h).toNat < 97 → c < 97
  letter : 97 ≤ (s[p]'h).toNat → (s[p]'h).toNat ≤ 122 → 97 ≤ c ∧ c ≤ 122 ∧ d = 1
  great : 122 < (s[p]'h).toNat → 122 < c
  le : c ≤ 2147483647
  one : q = true → d = 1
  sign : isSign (s[p]'h).toNat = q
  says : ∀ W : World, Calls Tryd.prog 48 #[.string ⟨#[48, 49, 50, 51, 52, 53, 54, 55, 56, 57, 45, 95]⟩, .int .i32 c] W fun e w' => e = .returned (.bool q) ∧ Below W.heap.size W w'

theorem rune_at (s : ByteArray) (p : Nat) (h : p < s.size) : ∃ c d q, RuneAt s p h c d q := by
  by_cases ha : (s[p]'h).toNat < 128
  · have e := decode_ascii s p h ha
    refine ⟨_, _, isSign (s[p]'h).toNat, e, Nat.le_refl _, fun h => h, fun a b => ⟨a, b, rfl⟩, fun h => h, by omega, fun _ => rfl, rfl, fun W => ?_⟩
    exact (containsRune_ascii _ ha W).mono fun e w' ⟨a, b⟩ => ⟨a, by rw [b]; exact Below.refl _ _⟩
  · have hd := decode_high s p h (by omega)
    have hv := decode_valid s p h (by omega)
    refine ⟨(Utf8.decode s p).1, (Utf8.decode s p).2, false, rfl, hd.2, (fun h => by omega), (fun a b => by omega), (fun _ => by omega), decode_le s p, (fun h => by cases h), isSign_high (by omega), fun W => ?_⟩
    exact containsRune_high _ (by omega) hv W

def NRel (s : ByteArray) (w wr : World) : Prop :=
  ∃ p : Nat, p ≤ s.size ∧ wr.heap[w.heap.size]? = some (.stringIter s p) ∧ nameAux 0 s.data.toList = nameAux p (s.data.toList.drop p) ∧ Below w.heap.size w wr

set_option maxHeartbeats 1000000 in
theorem name_any (s : ByteArray) (hs : s.size ≤ 9223372036854775807) (w : World) :
    Calls Tryd.prog 27 #[.string s] w fun e w' => e = .returned (.bool (nameB s.data.toList)) ∧ Below w.heap.size w w' := by
  by_cases hl : 1 ≤ s.size ∧ s.size ≤ 32
  · have hnb : nameB s.data.toList = nameAux 0 s.data.toList := nameB_aux (by rw [← size_toList]; exact hl)
    have hne : s.toList.isEmpty = false := by
      rw [Lib.toList_data]
      have : s.data.toList.length ≠ 0 := by rw [← size_toList]; omega
      cases h : s.data.toList with
      | nil => rw [h] at this; simp at this
      | cons _ _ => rfl
    obtain ⟨l1, l2⟩ := hl
    rw [hnb]
    clear hnb
    go_enter Tryd.func27, Tryd.ntmps27
    go_wp2
    go_loopw [3, 4, 5] (fun _ _ _ wr => NRel s w wr) (fun _ _ _ wr => s.size - wr.iterPos w.heap.size)
    case atStart => exact ⟨0, Nat.zero_le _, World.iter_heap _ _ _, rfl, (Below.refl _ _).alloc (Nat.le_refl _) _⟩
    case round =>
      obtain ⟨p, hp, hit, haux, hbw⟩ := hrel
      have hsz : w.heap.size < wr.heap.size := (Array.getElem?_eq_some_iff.1 hit).1
      have HA := Lib.hid haux
      clear haux
      by_cases h : p < s.size
      · obtain ⟨c, d, q, hr⟩ := rune_at s p h
        have hnx : ∀ ty, (Instr.next (.pointer (some ⟨w.heap.size, 0, none⟩)) true ty).run Tryd.prog wr = .ok (.tuple #[.bool true, .int .i64 p, .int .i32 c]) (wr.iterAt w.heap.size s (p + d)) := fun ty => by
          have := Lib.run_next_any_at (P := Tryd.prog) (ty := ty) wr w.heap.size s p hit h
          rw [hr.dec] at this; exact this
        have hit2 := Lib.iterAt_heap wr w.heap.size s p (p + d) hit
        have hbw2 := Lib.below_iterAt hbw (k := w.heap.size) (Nat.le_refl _) s (p + d)
        have hsz2 : w.heap.size < (wr.iterAt w.heap.size s (p + d)).heap.size := by rw [Lib.iterAt_size]; exact hsz
        have hle := hr.le
        have hstep : nameAux p (s.data.toList.drop p) = (okAt p s[p] && nameAux (p + 1) (s.data.toList.drop (p + 1))) := nameAux_drop (by rw [← size_toList]; exact h)
        by_cases hlet : 97 ≤ (s[p]'h).toNat ∧ (s[p]'h).toNat ≤ 122
        · obtain ⟨c1, c2, rfl⟩ := hr.letter hlet.1 hlet.2
          have hok := okAt_letter (i := p) hlet.1 hlet.2
          have HN : Hid (nameAux 0 s.data.toList = nameAux (p + 1) (s.data.toList.drop (p + 1))) := by
            show _ = _; rw [HA.out, hstep, hok, Bool.true_and]
          clear hstep hok hr hlet
          go_wp2
          go_roundw
          case rel => exact ⟨p + 1, by omega, hit2, HN, hbw2⟩
          case measure =>
            simp only [World.iterPos, hit2, hit]
            omega
        · have hnl : (s[p]'h).toNat < 97 ∨ 122 < (s[p]'h).toNat := by omega
          have hcnl : c < 97 ∨ 122 < c := hnl.elim (fun h => .inl (hr.small h)) (fun h => .inr (hr.great h))
          by_cases hp0 : p = 0
          · subst hp0
            have hok := okAt_zero hnl
            have HN : Hid (nameAux 0 s.data.toList = false) := by
              show _ = _; rw [HA.out, hstep, hok, Bool.false_and]
            clear hstep hok hr hlet hnl
            simp only [Nat.zero_add] at hbw2
            rcases hcnl with hcc | hcc
            · go_wp2
              go_ret
              exact ⟨Ut.ret_bool HN.out.symm, hbw2⟩
            · have hd1 : decide ((c : Int) ≤ 122) = false := by simp; omega
              go_wp2
              go_ret
              exact ⟨Ut.ret_bool HN.out.symm, hbw2⟩
          · have hok := okAt_sign hp0 hnl
            rw [hr.sign] at hok
            have hq0 : ((p : Int) == 0) = false := by rw [beq_eq_false_iff_ne]; omega
            have HS := Lib.hid hr.says
            cases q
            · have HN : Hid (nameAux 0 s.data.toList = false) := by
                show _ = _; rw [HA.out, hstep, hok, Bool.false_and]
              clear hstep hok hr hlet hnl
              rcases hcnl with hcc | hcc
              · go_wp2_with (go_at_call 48; refine (HS.out _).mono ?_; rintro e w2 ⟨rfl, hb2⟩)
                go_ret
                exact ⟨Ut.ret_bool HN.out.symm, hbw2.trans (hb2.mono (Nat.le_of_lt hsz2))⟩
              · have hd1 : decide ((c : Int) ≤ 122) = false := by simp; omega
                go_wp2_with (go_at_call 48; refine (HS.out _).mono ?_; rintro e w2 ⟨rfl, hb2⟩)
                go_ret
                exact ⟨Ut.ret_bool HN.out.symm, hbw2.trans (hb2.mono (Nat.le_of_lt hsz2))⟩
            · obtain rfl := hr.one rfl
              have HN : Hid (nameAux 0 s.data.toList = nameAux (p + 1) (s.data.toList.drop (p + 1))) := by
                show _ = _; rw [HA.out, hstep, hok, Bool.true_and]
              clear hstep hok hr hlet hnl
              rcases hcnl with hcc | hcc
              · go_wp2_with (go_at_call 48; refine (HS.out _).mono ?_; rintro e w2 ⟨rfl, hb2⟩)
                have hit3 : w2.heap[w.heap.size]? = some (.stringIter s (p + 1)) := (hb2.block _ hsz2).trans hit2
                go_roundw
                case rel => exact ⟨p + 1, by omega, hit3, HN, hbw2.trans (hb2.mono (Nat.le_of_lt hsz2))⟩
                case measure =>
                  simp only [World.iterPos, hit3, hit]
                  omega
              · have hd1 : decide ((c : Int) ≤ 122) = false := by simp; omega
                go_wp2_with (go_at_call 48; refine (HS.out _).mono ?_; rintro e w2 ⟨rfl, hb2⟩)
                have hit3 : w2.heap[w.heap.size]? = some (.stringIter s (p + 1)) := (hb2.block _ hsz2).trans hit2
                go_roundw
                case rel => exact ⟨p + 1, by omega, hit3, HN, hbw2.trans (hb2.mono (Nat.le_of_lt hsz2))⟩
                case measure =>
                  simp only [World.iterPos, hit3, hit]
                  omega
      · have hnx : ∀ ty, (Instr.next (.pointer (some ⟨w.heap.size, 0, none⟩)) true ty).run Tryd.prog wr = _ := fun ty => Lib.run_next_end_at wr w.heap.size s p ty hit h
        have HN : Hid (nameAux 0 s.data.toList = true) := by
          show _ = _; rw [HA.out, List.drop_of_length_le (by rw [← size_toList]; omega)]; rfl
        go_wp2
        go_ret
        exact ⟨Ut.ret_bool HN.out.symm, hbw⟩
  · have hnb : nameB s.data.toList = false := nameB_len (by rw [← size_toList]; exact hl)
    rw [hnb]
    clear hnb
    by_cases h0 : s.size = 0
    · have hem : s.toList.isEmpty = true := by
        rw [Lib.toList_data, List.isEmpty_iff_length_eq_zero, ← size_toList]; exact h0
      have H0 := Lib.hid h0
      clear h0 hl
      go_enter Tryd.func27, Tryd.ntmps27
      go_wp2
      go_ret
      exact ⟨rfl, Below.refl _ _⟩
    · have hem : s.toList.isEmpty = false := by
        rw [Lib.toList_data]
        have : s.data.toList.length ≠ 0 := by rw [← size_toList]; omega
        cases h : s.data.toList with
        | nil => rw [h] at this; simp at this
        | cons _ _ => rfl
      have h2 : (32 : Int) < (s.size : Int) := by omega
      clear hl h0
      go_enter Tryd.func27, Tryd.ntmps27
      go_wp2
      go_ret
      exact ⟨rfl, Below.refl _ _⟩

end Go.Proofs.YtocoonkachbjaaaDoor

/- names.Parts, Dotted: what they hand back, of any text of at most 2^25 bytes. -/
namespace Go.Proofs.YtocoonkachbjaaaDoor
open Go.RowKit Go.Proofs.NmPlain
set_option linter.unusedVariables false

theorem splitK_split : ∀ (k : Nat) (l : Bs), l.count 46 ≤ k → Lib.splitK [46] 0 k l = split l
  | 0, l, h => by
    have hn : ∀ c ∈ l, c ≠ 46 := fun c hc e => by
      rw [e] at hc
      have := List.count_pos_iff.2 hc
      omega
    rw [split_plain l hn]; rfl
  | k + 1, l, h => by
    have hg := Lib.index_ge l [46]
    by_cases hi : Lib.index l [46] = -1
    · rw [split_none l hi]; simp [Lib.splitK, hi]
    · obtain ⟨i, hi'⟩ : ∃ i : Nat, Lib.index l [46] = i := ⟨(Lib.index l [46]).toNat, by omega⟩
      have hr := Lib.index_room l [46] (by omega)
      rw [split_some l i hi']
      have hil : i < l.length := by simp at hr; omega
      have hc : (l.drop (i + 1)).count 46 ≤ k := by
        have e1 : l.count 46 = (l.take (i + 1)).count 46 + (l.drop (i + 1)).count 46 := by rw [← List.count_append, List.take_append_drop]
        have e2 : 0 < (l.take (i + 1)).count 46 := by
          refine List.count_pos_iff.2 ?_
          rcases Lib.index_spec l [46] with ⟨h1, _⟩ | ⟨j, h1, h2, h3, _⟩
          · omega
          · obtain rfl : j = i := by omega
            have := Lib.occAt_head (c := 46) (t := []) rfl h3
            rw [List.getElem?_eq_getElem hil] at this
            rw [List.take_succ_eq_append_getElem hil]
            simp at this; simp [this]
        omega
      have ih := splitK_split k (l.drop (i + 1)) hc
      rw [← ih]
      have hne : (Lib.index l [46] == -1) = false := by rw [beq_eq_false_iff_ne]; exact hi
      simp [Lib.splitK, hi']

theorem splitB_split (s : ByteArray) : (Lib.splitB ⟨#[46]⟩ 0 (Lib.countB s ⟨#[46]⟩) s).map (·.data.toList) = split s.data.toList := by
  rw [Lib.splitB_data]
  exact splitK_split _ _ (by rw [show Lib.countB s ⟨#[46]⟩ = Lib.count s.data.toList [46] from rfl, Lib.count_one]; exact Nat.le_refl _)

/-- Is a text a scope's name? -/
def dotB (l : Bs) : Bool := decide ((split l).length ≤ 4) && (split l).all nameB

def MaxAt (w : World) : Prop := ∃ m, w.cell? ⟨1, 0, none⟩ = some (.int .i64 m)
theorem MaxAt.lt {w : World} (h : MaxAt w) : 1 < w.heap.size := by
  obtain ⟨m, hm⟩ := h; exact World.block_lt_of_cell? w _ hm
theorem MaxAt.below {w w' : World} (h : MaxAt w) (hb : Below w.heap.size w w') : MaxAt w' := by
  have hl := h.lt
  obtain ⟨m, hm⟩ := h
  exact ⟨m, (hb.cell (p := ⟨1, 0, none⟩) hl).trans hm⟩

/-- A list of texts that lies whole in a block of its own. -/
def TextsAt (w : World) (g : Nat) (ps : List ByteArray) : Prop := w.heap[g]? = some (.cells (ps.map Value.string).toArray 9 (0, 0))
theorem TextsAt.lt {w : World} {g : Nat} {ps : List ByteArray} (h : TextsAt w g ps) : g < w.heap.size := (Array.getElem?_eq_some_iff.1 h).1
theorem TextsAt.cell {w : World} {g : Nat} {ps : List ByteArray} (h : TextsAt w g ps) {j : Nat} (hj : j < ps.length) : w.cell? ⟨g, j, none⟩ = some (.string ps[j]) := by
  unfold TextsAt at h
  simp [World.cell?, h, hj]
theorem TextsAt.below {w w' : World} {g : Nat} {ps : List ByteArray} (h : TextsAt w g ps) {B : Nat} (hB : g < B) (hb : Below B w w') : TextsAt w' g ps := (hb.block g hB).trans h

def AllRel (ps : List ByteArray) (w : World) (i : Value) (wr : World) : Prop :=
  ∃ k : Nat, k ≤ ps.length ∧ i = .int .i64 k ∧ (∀ j (hj : j < k) (hl : j < ps.length), nameB ps[j].data.toList = true) ∧ Below w.heap.size w wr

set_option maxHeartbeats 1000000 in
theorem all_any (g : Nat) (ps : List ByteArray) (w : World) (hl : (ps.length : Int) ≤ 16777217) (hps : ∀ j (hj : j < ps.length), ps[j].size ≤ 9223372036854775807) (ht : TextsAt w g ps) :
    Calls Tryd.prog 64 #[.slice (some ⟨g, 0, none⟩) ps.length ps.length] w fun e w' => e = .returned (.bool (ps.all fun p => nameB p.data.toList)) ∧ Below w.heap.size w w' := by
  have hgl := ht.lt
  have HT := Lib.hid ht; clear ht
  have HP := Lib.hid hps; clear hps
  go_enter Tryd.func64, Tryd.ntmps64
  go_wp2
  go_loopw [4, 7] (fun _ i wr => AllRel ps w i wr) (fun _ i _ => ps.length - (intOf i).toNat)
  case atStart => exact ⟨0, Nat.zero_le _, rfl, fun j hj => absurd hj (Nat.not_lt_zero _), Below.refl _ _⟩
  case round =>
    obtain ⟨k, hk, rfl, hall, hbw⟩ := hrel
    have HA := Lib.hid hall
    clear hall
    by_cases h : k < ps.length
    · have hc : wr.cell? ⟨g, k, none⟩ = some (.string ps[k]) := TextsAt.cell (HT.out.below hgl hbw) h
      have hn := name_any ps[k] (HP.out k h) wr
      have hfin : nameB ps[k].data.toList = false → (ps.all fun p => nameB p.data.toList) = false := fun hf => by
        rw [List.all_eq_false]; exact ⟨ps[k], List.getElem_mem h, by simp [hf]⟩
      have hnext : nameB ps[k].data.toList = true → ∀ j (hj : j < k + 1) (hl : j < ps.length), nameB ps[j].data.toList = true := fun hf j hj hl => by
        rcases Nat.lt_or_ge j k with h1 | h1
        · exact HA.out j h1 hl
        · obtain rfl : j = k := by omega
          exact hf
      obtain ⟨x, hx⟩ : ∃ x, x = ps[k] := ⟨_, rfl⟩
      obtain ⟨q, hq⟩ : ∃ q, q = nameB ps[k].data.toList := ⟨_, rfl⟩
      rw [← hx] at hc
      rw [← hq, ← hx] at hn
      rw [← hq] at hfin hnext
      have HN := Lib.hid hn; have HF := Lib.hid hfin; have HX := Lib.hid hnext
      clear hn hfin hnext hx hq
      have hwr := hbw.size
      cases q
      · go_wp2_with (go_at_call 27; refine HN.out.mono ?_; rintro e w2 ⟨rfl, hb2⟩)
        go_ret
        exact ⟨Ut.ret_bool (HF.out (by simp)).symm, hbw.trans (hb2.mono hwr)⟩
      · go_wp2_with (go_at_call 27; refine HN.out.mono ?_; rintro e w2 ⟨rfl, hb2⟩)
        go_roundw
        case rel => exact ⟨k + 1, by omega, by go_num, HX.out (by simp), hbw.trans (hb2.mono hwr)⟩
        case measure => simp [intOf]; omega
    · obtain rfl : k = ps.length := by omega
      have hfin : (ps.all fun p => nameB p.data.toList) = true := by
        rw [List.all_eq_true]
        intro p hp
        obtain ⟨j, hj, rfl⟩ := List.mem_iff_getElem.1 hp
        exact HA.out j hj hj
      have HF := Lib.hid hfin
      clear hfin
      go_wp2
      go_ret
      exact ⟨Ut.ret_bool HF.out.symm, hbw⟩

/-- What Parts hands back: nothing; or the pieces, in a block of their own. -/
def PartsPost (l : Bs) (w : World) (v : Value) (w' : World) : Prop :=
  (dotB l = false ∧ v = .slice none 0 0) ∨ (dotB l = true ∧ ∃ g ps, v = .slice (some ⟨g, 0, none⟩) ps.length ps.length ∧ w.heap.size ≤ g ∧ ps.map (·.data.toList) = split l ∧ TextsAt w' g ps)

set_option maxHeartbeats 1000000 in
theorem parts_any (s : ByteArray) (hs : (s.size : Int) ≤ 16777216) (w : World) (hm : MaxAt w) :
    Calls Tryd.prog 55 #[.string s] w fun e w' => ∃ v, e = .returned v ∧ PartsPost s.data.toList w v w' ∧ Below w.heap.size w w' := by
  obtain ⟨m, hm⟩ := hm
  have hsp := Tryd.strings_Split s ⟨#[46]⟩ m w (by omega) hm (Nat.le_refl 1)
  have hlen : (Lib.splitB ⟨#[46]⟩ 0 (Lib.countB s ⟨#[46]⟩) s).length = Lib.countB s ⟨#[46]⟩ + 1 := Lib.splitB_all ⟨#[46]⟩ (Nat.le_refl 1) _ _ _ rfl
  have hdat := splitB_split s
  obtain ⟨ps, hps⟩ : ∃ ps, ps = Lib.splitB ⟨#[46]⟩ 0 (Lib.countB s ⟨#[46]⟩) s := ⟨_, rfl⟩
  rw [← hps] at hsp hlen hdat
  rw [← hlen] at hsp
  have hcl : Lib.countB s ⟨#[46]⟩ ≤ s.size := Lib.countB_le ⟨#[46]⟩ (Nat.le_refl 1) _ _ (Nat.le_refl _)
  have hpl : (ps.length : Int) ≤ 16777217 := by omega
  have hpz : ∀ j (hj : j < ps.length), ps[j].size ≤ 9223372036854775807 := fun j hj => by
    have := split_len s.data.toList ps[j].data.toList (by rw [← hdat]; exact List.mem_map.2 ⟨_, List.getElem_mem hj, rfl⟩)
    rw [← size_toList, ← size_toList] at this; omega
  have hsl : (split s.data.toList).length = ps.length := by rw [← hdat]; simp
  have hal : (split s.data.toList).all nameB = ps.all fun p => nameB p.data.toList := by rw [← hdat, List.all_map]; rfl
  have ht : TextsAt (w.alloc (.cells (ps.map Value.string).toArray 9)) w.heap.size ps := Ut.alloc_at _ _
  have hcall := all_any w.heap.size ps _ hpl hpz ht
  have hb0 : Below w.heap.size w (w.alloc (.cells (ps.map Value.string).toArray 9)) := (Below.refl _ _).alloc (Nat.le_refl _) _
  have HSP := Lib.hid hsp; have HC := Lib.hid hcall; have HSL := Lib.hid hsl; have HAL := Lib.hid hal; have HD := Lib.hid hdat; have HTA := Lib.hid ht
  clear hsp hcall hsl hal hdat hps hlen hcl hpz ht hm
  by_cases h4 : ps.length ≤ 4
  · obtain ⟨q, hq⟩ : ∃ q, q = ps.all fun p => nameB p.data.toList := ⟨_, rfl⟩
    have HC2 : Hid (Calls Tryd.prog 64 #[.slice (some ⟨w.heap.size, 0, none⟩) ps.length ps.length] (w.alloc (.cells (ps.map Value.string).toArray 9)) fun e w' => e = .returned (.bool q) ∧ Below (w.alloc (.cells (ps.map Value.string).toArray 9)).heap.size (w.alloc (.cells (ps.map Value.string).toArray 9)) w') := by rw [hq]; exact HC.out
    have HQ : Hid (dotB s.data.toList = q) := by show _ = _; unfold dotB; rw [HSL.out, HAL.out, ← hq, decide_eq_true h4, Bool.true_and]
    clear hq HC
    cases q
    · go_enter Tryd.func55, Tryd.ntmps55
      go_wp2_with fail
      refine HSP.out.mono ?_
      rintro e w1 ⟨rfl, rfl⟩
      go_wp2_with (go_at_call 64; refine HC2.out.mono ?_; rintro e w2 ⟨rfl, hb2⟩)
      go_ret
      exact ⟨_, rfl, .inl ⟨HQ.out, rfl⟩, hb0.trans (hb2.mono hb0.size)⟩
    · go_enter Tryd.func55, Tryd.ntmps55
      go_wp2_with fail
      refine HSP.out.mono ?_
      rintro e w1 ⟨rfl, rfl⟩
      go_wp2_with (go_at_call 64; refine HC2.out.mono ?_; rintro e w2 ⟨rfl, hb2⟩)
      go_ret
      exact ⟨_, rfl, .inr ⟨HQ.out, w.heap.size, ps, rfl, Nat.le_refl _, HD.out, HTA.out.below (TextsAt.lt HTA.out) hb2⟩, hb0.trans (hb2.mono hb0.size)⟩
  · have HQ : Hid (dotB s.data.toList = false) := by show _ = _; unfold dotB; rw [HSL.out, decide_eq_false h4, Bool.false_and]
    have h5 : (4 : Int) < (ps.length : Int) := by omega
    clear HC h4
    go_enter Tryd.func55, Tryd.ntmps55
    go_wp2_with fail
    refine HSP.out.mono ?_
    rintro e w1 ⟨rfl, rfl⟩
    go_wp2
    go_ret
    exact ⟨_, rfl, .inl ⟨HQ.out, rfl⟩, hb0⟩

end Go.Proofs.YtocoonkachbjaaaDoor

/- names.Dotted, names.Under, of any texts of at most 2^24 bytes. -/
namespace Go.Proofs.YtocoonkachbjaaaDoor
open Go.RowKit Go.Proofs.NmPlain
set_option linter.unusedVariables false

set_option maxHeartbeats 1000000 in
theorem dotted_any (s : ByteArray) (hs : (s.size : Int) ≤ 16777216) (w : World) (hm : MaxAt w) :
    Calls Tryd.prog 41 #[.string s] w fun e w' => e = .returned (.bool (dotB s.data.toList)) ∧ Below w.heap.size w w' := by
  have hp := parts_any s hs w hm
  have HP := Lib.hid hp
  clear hp hm
  have hq := fun (w : World) a n c => run_neq_slice_nil_any (P := Tryd.prog) w 43 9 a n c 0 0 Tryd.underlying43
  go_enter Tryd.func41, Tryd.ntmps41
  go_wp2_with fail
  refine HP.out.mono ?_
  rintro e w1 ⟨v, rfl, hv, hb⟩
  rcases hv with ⟨hd, rfl⟩ | ⟨hd, g, ps, rfl, hg, hsp, ht⟩
  · have HD := Lib.hid hd; clear hd
    go_wp2
    go_ret
    exact ⟨Ut.ret_bool HD.out.symm, hb⟩
  · have HD := Lib.hid hd; clear hd hsp ht
    go_wp2
    go_ret
    exact ⟨Ut.ret_bool HD.out.symm, hb⟩

/-- Does one scope's name stand under another? -/
def underB (l m : Bs) : Bool := dotB l && dotB m && decide ((split m).length ≤ (split l).length) && decide ((split l).take (split m).length = split m)

theorem map_inj {xs ys : List ByteArray} (h : xs.map (·.data.toList) = ys.map (·.data.toList)) : xs = ys := by
  have : Function.Injective (fun x : ByteArray => x.data.toList) := fun a b e => by
    cases a; cases b; simpa using e
  exact List.map_inj_right (fun _ _ e => this e) |>.1 h

end Go.Proofs.YtocoonkachbjaaaDoor

/- Arguments that are lists of texts: what a walk is told of them. Of any program. -/
namespace Go.Proofs.Ar
open Go.RowKit Go.ChangeShapes Go.WideShapes Go.Deep
set_option linter.unusedVariables false

/-- A value is a list of texts, wherever it lies. -/
def TextArg (w : World) (v : Value) (ps : List ByteArray) : Prop :=
  ∃ p cap, v = .slice p ps.length cap ∧ ∀ j (hj : j < ps.length), ∃ g o, p = some ⟨g, o, none⟩ ∧ g < w.heap.size ∧ w.cell? ⟨g, o + j, none⟩ = some (.string ps[j])

theorem TextArg.below {w w' : World} {v : Value} {ps : List ByteArray} (h : TextArg w v ps) (hb : Below w.heap.size w w') : TextArg w' v ps := by
  obtain ⟨p, cap, rfl, h⟩ := h
  refine ⟨p, cap, rfl, fun j hj => ?_⟩
  obtain ⟨g, o, h1, h2, h3⟩ := h j hj
  exact ⟨g, o, h1, Nat.lt_of_lt_of_le h2 hb.size, (hb.cell (p := ⟨g, o + j, none⟩) h2).trans h3⟩

theorem plain_of_cell {w : World} {a : Addr} {u : Value} (h : w.cell? a = some u) : a = ⟨a.block, a.off, none⟩ := by
  obtain ⟨b, o, s⟩ := a
  cases s with
  | none => rfl
  | some x =>
    unfold World.cell? at h
    split at h
    · simp at h
    · cases h

theorem lt_of_cell {w : World} {a : Addr} {u : Value} (h : w.cell? a = some u) : a.block < w.heap.size := by
  rcases Nat.lt_or_ge a.block w.heap.size with h0 | h0
  · exact h0
  · unfold World.cell? at h
    rw [Array.getElem?_eq_none h0] at h; cases h

theorem add_plain_ (b o j : Nat) : (⟨b, o, none⟩ : Addr).add j = ⟨b, o + j, none⟩ := by
  unfold Addr.add
  by_cases h : j = 0 <;> simp [h]

section
variable {H : Type} {enc : TypeId × Value → H} {P : Program} {w : World}

theorem arg_texts {t e : TypeId} {r : Reach} {b0 : Nat} {v : Value} {d : DataW H} {p : List MemPlace} (ht : P.underlying t = some (.slice e)) (he : P.underlying e = some .string) (hc : P.cellsOf e = 1)
    (hv : Value.okWide P w r b0 t v) (h : DataW.Trod enc P w 0 (fun _ => true) true t v d p) :
    ∃ ps : List ByteArray, TextArg w v ps ∧ (∀ s ∈ ps, s.size ≤ maxLen) ∧ ps.length ≤ maxLen := by
  obtain ⟨a0, len, cap, rfl⟩ := okWide_slice ht hv
  obtain ⟨fuel, hf⟩ := h
  rcases open_strs ht he hc hf with ⟨hcs, hx⟩ | ⟨a, len', cap', m, Sx, hcs, _, hl, hm, hmm, hx, hcell⟩
  · simp [Value.cells] at hcs
    obtain ⟨rfl, rfl, rfl⟩ := hcs
    exact ⟨[], ⟨none, 0, rfl, fun j hj => absurd hj (Nat.not_lt_zero _)⟩, by simp, by simp⟩
  · simp [Value.cells] at hcs
    obtain ⟨rfl, rfl, rfl⟩ := hcs
    simp only [if_true] at hmm
    subst hmm
    refine ⟨(List.range len).map Sx, ⟨some a, m, by simp, fun j hj => ?_⟩, fun s hs => ?_, by simp; omega⟩
    · have hj' : j < len := by simpa using hj
      have h0 := (hcell 0 (by omega)).1
      have hp := plain_of_cell (w := w) (a := a) (by simpa [Addr.add] using h0)
      have hjc := (hcell j (by omega)).1
      refine ⟨a.block, a.off, by rw [← hp], lt_of_cell (w := w) (a := a) (by simpa [Addr.add] using h0), ?_⟩
      rw [hp, add_plain_] at hjc
      simpa using hjc
    · obtain ⟨i, hi, rfl⟩ := List.mem_map.1 hs
      exact (hcell i (by have := List.mem_range.1 hi; omega)).2
end

end Go.Proofs.Ar

/- lineageref0.SameTexts of any two lists of texts, wherever they lie. -/
namespace Go.Proofs.YtocoonkachbjaaaDoor
open Go.RowKit Go.Proofs.Ar
set_option linter.unusedVariables false
namespace Tx

theorem own_arg {w : World} {base : Nat} {v : Value} {ps : List ByteArray} (h : w.ownsRow base 9 1 v ps.length (ps.map Value.string)) : TextArg w v ps := by
  rcases Nat.eq_zero_or_pos ps.length with h0 | h0
  · have e : ps = [] := List.eq_nil_of_length_eq_zero h0
    subst e
    rcases h.2 with ⟨rfl, _⟩ | ⟨g, cap, cur, rfl, _⟩
    · exact ⟨none, 0, rfl, fun j hj => absurd hj (Nat.not_lt_zero _)⟩
    · exact ⟨_, cap, rfl, fun j hj => absurd hj (Nat.not_lt_zero _)⟩
  · obtain ⟨g, c, rfl, _, _, _, hg, hc⟩ := Ut.own_cells h h0
    exact ⟨_, c, rfl, fun j hj => ⟨g, 0, rfl, hg, by rw [Nat.zero_add, hc j hj]; simp [hj]⟩⟩

theorem lit_arg (w : World) (ps : List ByteArray) (t : TypeId) : TextArg (w.alloc (.cells (ps.map Value.string).toArray t)) (.slice (some ⟨w.heap.size, 0, none⟩) ps.length ps.length) ps :=
  ⟨_, ps.length, rfl, fun j hj => ⟨w.heap.size, 0, rfl, by simp, by
    unfold World.cell?
    rw [Ut.alloc_at]
    simp [hj]⟩⟩

def SameRel (ps qs : List ByteArray) (w : World) (i : Value) (wr : World) : Prop :=
  ∃ k : Nat, k ≤ ps.length ∧ i = .int .i64 k ∧ ps.take k = qs.take k ∧ Below w.heap.size w wr

theorem bytes_eq (p : ByteArray) : (p.toList == p.toList) = true := by simp
theorem str_ne {p q : ByteArray} (h : p ≠ q) : (p.toList == q.toList) = false := by
  rw [beq_eq_false_iff_ne]
  intro e
  apply h
  rw [Lib.toList_data, Lib.toList_data] at e
  cases p; cases q
  simpa using e

set_option maxHeartbeats 1000000 in
theorem same_any (v u : Value) (ps qs : List ByteArray) (hp : (ps.length : Int) ≤ 9223372036854775807) (hq : (qs.length : Int) ≤ 9223372036854775807) (w : World) (h1 : TextArg w v ps) (h2 : TextArg w u qs) :
    Calls Tryd.prog 17 #[v, u] w fun e w' => e = .returned (.bool (decide (ps = qs))) ∧ Below w.heap.size w w' := by
  obtain ⟨p, cp, rfl, h1⟩ := h1
  obtain ⟨q, cq, rfl, h2⟩ := h2
  have H1 := Lib.hid h1; have H2 := Lib.hid h2
  clear h1 h2
  by_cases hl : ps.length = qs.length
  · have e1 : ((ps.length : Int) != (qs.length : Int)) = false := by rw [hl]; simp
    have HL := Lib.hid hl
    clear hl
    go_enter Tryd.func17, Tryd.ntmps17
    go_wp2
    go_loopw [5] (fun i wr => SameRel ps qs w i wr) (fun i _ => ps.length - (intOf i).toNat)
    case atStart => exact ⟨0, Nat.zero_le _, rfl, by simp, Below.refl _ _⟩
    case round =>
      obtain ⟨k, hk, rfl, heq, hbr⟩ := hrel
      have HE := Lib.hid heq; clear heq
      by_cases h : k < ps.length
      · have hlt : k < qs.length := by rw [← HL.out]; exact h
        obtain ⟨g1, o1, rfl, hg1, k1⟩ := H1.out k h
        obtain ⟨g2, o2, rfl, hg2, k2⟩ := H2.out k hlt
        have k1' : wr.cell? ⟨g1, o1 + k, none⟩ = some (.string ps[k]) := (hbr.cell (p := ⟨g1, o1 + k, none⟩) hg1).trans k1
        have k2' : wr.cell? ⟨g2, o2 + k, none⟩ = some (.string qs[k]) := (hbr.cell (p := ⟨g2, o2 + k, none⟩) hg2).trans k2
        have hyes : ps[k] = qs[k] → ps.take (k + 1) = qs.take (k + 1) := fun e => by
          rw [List.take_succ_eq_append_getElem h, List.take_succ_eq_append_getElem hlt, HE.out, e]
        have hno : ps[k] ≠ qs[k] → decide (ps = qs) = false := fun e => by
          rw [decide_eq_false_iff_not]; intro e2; apply e
          have : ps[k]? = qs[k]? := by rw [e2]
          rw [List.getElem?_eq_getElem h, List.getElem?_eq_getElem hlt] at this
          exact Option.some.inj this
        obtain ⟨p, hpk⟩ : ∃ p, p = ps[k] := ⟨_, rfl⟩
        obtain ⟨q, hqk⟩ : ∃ q, q = qs[k] := ⟨_, rfl⟩
        clear k1 k2 H1 H2
        rw [← hpk] at k1' hyes hno; rw [← hqk] at k2' hyes hno
        have HY := Lib.hid hyes; have HN := Lib.hid hno
        clear hyes hno hpk hqk
        have b1 : (0 : Int) ≤ (k : Int) := by omega
        have b2 : (k : Int) < (ps.length : Int) := by omega
        have b3 : (k : Int) < (qs.length : Int) := by omega
        by_cases hz : p = q
        · have HT : Hid (ps.take (k + 1) = qs.take (k + 1)) := HY.out hz
          subst hz
          have hn := bytes_eq p
          go_wp2
          go_quiet (fail)
          go_wp2
          go_roundw
          case rel => exact ⟨k + 1, by omega, by go_num, HT, Ut.below_drewN hbr _⟩
          case measure => simp [intOf]; omega
        · have hn : (p.toList == q.toList) = false := str_ne hz
          have HZ := Lib.hid hz; clear hz
          go_wp2
          go_quiet (fail)
          go_wp2
          go_ret
          exact ⟨Ut.ret_bool (by rw [HN.out HZ.out]), Ut.below_drewN hbr _⟩
      · obtain rfl : k = ps.length := by omega
        have HG : Hid (decide (ps = qs) = true) := by
          show _ = _
          have e := HE.out
          rw [List.take_length, HL.out, List.take_length] at e
          rw [decide_eq_true_eq]; exact e
        clear HE HL
        go_wp2
        go_ret
        exact ⟨Ut.ret_bool HG.out.symm, hbr⟩
  · have e1 : ((ps.length : Int) != (qs.length : Int)) = true := by rw [bne_iff_ne]; omega
    have HG : Hid (decide (ps = qs) = false) := by
      show _ = _; rw [decide_eq_false_iff_not]; intro e; exact hl (by rw [e])
    clear hl
    go_enter Tryd.func17, Tryd.ntmps17
    go_wp2
    go_ret
    exact ⟨Ut.ret_bool HG.out.symm, Below.refl _ _⟩

end Tx
end Go.Proofs.YtocoonkachbjaaaDoor
