/- Names hold neither blank nor star; how a name, NAME.*, and joined texts are read. Plain. -/
import Derived.Test.YtgneebidmhiagaaDoorScLaw2
namespace Go.Proofs.YtgneebidmhiagaaDoor
open Go.Proofs.NmPlain
set_option linter.unusedVariables false
namespace Sc

theorem okAt_sign_ {i : Nat} {b : UInt8} (h : okAt i b = true) : b ≠ 32 ∧ b ≠ 42 := by
  constructor
  · rintro rfl
    unfold okAt at h
    have e1 : isSign (32 : UInt8).toNat = false := by decide
    rw [e1] at h; simp at h
  · rintro rfl
    unfold okAt at h
    have e1 : isSign (42 : UInt8).toNat = false := by decide
    rw [e1] at h; simp at h
theorem aux_signs : ∀ (l : Bs) (i : Nat), nameAux i l = true → ∀ b ∈ l, b ≠ 32 ∧ b ≠ 42
  | [], _, _, b, hb => by simp at hb
  | c :: r, i, h, b, hb => by
    rw [nameAux, Bool.and_eq_true] at h
    rcases List.mem_cons.1 hb with rfl | hb
    · exact okAt_sign_ h.1
    · exact aux_signs r _ h.2 b hb
theorem join_signs : ∀ (ps : List Bs), (∀ p ∈ ps, ∀ b ∈ p, b ≠ 32 ∧ b ≠ 42) → ∀ b ∈ joinD ps, b ≠ 32 ∧ b ≠ 42
  | [], _, b, hb => by simp [joinD] at hb
  | [p], h, b, hb => h p (by simp) b hb
  | p :: q :: r, h, b, hb => by
    rw [joinD, List.mem_append, List.mem_cons] at hb
    rcases hb with hb | rfl | hb
    · exact h p (by simp) b hb
    · exact ⟨by decide, by decide⟩
    · exact join_signs (q :: r) (fun x hx => h x (by simp only [List.mem_cons] at hx ⊢; right; exact hx)) b hb
theorem dotB_signs {l : Bs} (h : dotB l = true) : ∀ b ∈ l, b ≠ 32 ∧ b ≠ 42 := by
  rw [← join_split l]
  refine join_signs _ fun p hp => ?_
  unfold dotB at h
  simp only [Bool.and_eq_true, List.all_eq_true] at h
  have hn := h.2 p hp
  unfold nameB at hn
  rw [Bool.and_eq_true] at hn
  exact aux_signs p 0 hn.2

theorem tw_all : ∀ {l : Bs}, (∀ b ∈ l, b ≠ 32) → l.takeWhile nb = l
  | [], _ => rfl
  | c :: r, h => by
    rw [List.takeWhile_cons, if_pos (by simp [nb, h c (by simp)]), tw_all fun b hb => h b (by simp [hb])]

theorem parseL_small {ls : List ByteArray} {l : Bs} (h : l.length ≤ 4096) : parseL ls l = parseW ls (wordsAt 0 l) 0 := by
  unfold parseL; rw [if_neg (by omega)]

/-- A text of one word. -/
theorem words_one {l : Bs} (h : ∀ b ∈ l, b ≠ 32) (h0 : l ≠ []) : wordsAt 0 l = [(0, l)] := by
  cases l with
  | nil => exact absurd rfl h0
  | cons c r =>
    rw [wordsAt_word (h c (by simp)), tw_all h, List.drop_length, wordsAt_nil]
theorem parse_one {ls : List ByteArray} {l : Bs} (h : ∀ b ∈ l, b ≠ 32) (h0 : l ≠ []) (hl : l.length ≤ 4096) : parseL ls l = if (wordL ls l).2 = 0 then ((wordL ls l).1, 0, -1) else (0, (wordL ls l).2, 0) := by
  unfold parseL
  rw [if_neg (by omega), words_one h h0, parseW]
  split
  · rw [parseW]; simp
  · rfl

theorem parse_star (ls : List ByteArray) : parseL ls [42] = (allS ls, 0, -1) := by
  have e : wordL ls [42] = (allS ls, 0) := by unfold wordL; rw [if_pos rfl]
  rw [parse_one (by decide) (by decide) (by decide), e]
  rfl

theorem parse_name {ls : List ByteArray} (hb : IsBook ls) {k : Nat} (hk : k < ls.length) : parseL ls ls[k].data.toList = (2 ^ k, 0, -1) := by
  have hd := hb.dots k hk
  have hs := dotB_signs hd
  have h1 : ls[k].data.toList ≠ [42] := fun e => by
    have := (hs 42 (by rw [e]; simp)).2; exact this rfl
  have h0 : 0 < 2 ^ k := Nat.pow_pos (by omega)
  have e : wordL ls ls[k].data.toList = (2 ^ k, 0) := by
    unfold wordL
    rw [if_neg h1, if_pos hd, eq_one hb hk rfl]
    unfold fin; rw [if_neg (by omega)]
  rw [parse_one (fun b hb => (hs b hb).1) (dotB_ne hd) (by have := dotB_le hd; omega), e]
  rfl

/-- Those below a name that aren't it. -/
def bel (ls : List ByteArray) (l : Bs) : Nat := setBy (belAt ls l) ls.length
theorem parse_below {ls : List ByteArray} (hb : IsBook ls) {k : Nat} (hk : k < ls.length) : parseL ls (ls[k].data.toList ++ [46, 42]) = if bel ls ls[k].data.toList = 0 then (0, 10, 0) else (bel ls ls[k].data.toList, 0, -1) := by
  have hd := hb.dots k hk
  have hs := dotB_signs hd
  obtain ⟨l, hl⟩ : ∃ l, l = ls[k].data.toList := ⟨_, rfl⟩
  rw [← hl] at hd hs ⊢
  have hle := dotB_le hd
  have h1 : l ++ [46, 42] ≠ [42] := fun e => by
    have h := congrArg List.length e
    simp at h
  have h2 : dotB (l ++ [46, 42]) = false := by
    cases h : dotB (l ++ [46, 42]) with
    | false => rfl
    | true => exact absurd rfl ((dotB_signs h 42 (by simp)).2)
  have h3 : (l ++ [46, 42]).drop ((l ++ [46, 42]).length - 2) = [46, 42] := by
    have e : (l ++ [46, 42]).length - 2 = l.length := by simp
    rw [e, List.drop_left]
  have h4 : (l ++ [46, 42]).take ((l ++ [46, 42]).length - 2) = l := by
    have e : (l ++ [46, 42]).length - 2 = l.length := by simp
    rw [e, List.take_left]
  have e : wordL ls (l ++ [46, 42]) = fin (bel ls l) := by
    unfold wordL
    rw [if_neg h1, if_neg (by rw [h2]; simp), h4, h3, if_pos ⟨by simp, rfl, hd⟩]
    rfl
  rw [parse_one (fun b hb => by
    rcases List.mem_append.1 hb with hb | hb
    · exact (hs b hb).1
    · simp at hb; rcases hb with rfl | rfl <;> decide) (by simp) (by simp; omega), e]
  rcases fin_cases (bel ls l) with ⟨h5, h6⟩ | ⟨h5, h6⟩
  · rw [h5, if_pos h6]; rfl
  · rw [h5, if_neg h6]; rfl

/-! ### two texts, a blank between -/
theorem words_shift : ∀ (n k d : Nat) (l : Bs), l.length = n → wordsAt (k + d) l = (wordsAt k l).map fun p => (p.1 + d, p.2) := by
  intro n
  induction n using Nat.strongRecOn with
  | ind n ih =>
    intro k d l hn
    cases l with
    | nil => rw [wordsAt_nil, wordsAt_nil]; rfl
    | cons c r =>
      by_cases hc : c = 32
      · subst hc
        rw [wordsAt_blank, wordsAt_blank]
        have := ih r.length (by simp at hn; omega) (k + 1) d r rfl
        rw [← this]; congr 1; omega
      · rw [wordsAt_word hc, wordsAt_word hc, List.map_cons]
        have hp : 0 < ((c :: r).takeWhile nb).length := by rw [List.takeWhile_cons, if_pos (by simp [nb, hc])]; simp
        have hlt : ((c :: r).drop ((c :: r).takeWhile nb).length).length < n := by rw [List.length_drop, hn]; simp at hn; omega
        have := ih _ hlt (k + ((c :: r).takeWhile nb).length) d _ rfl
        rw [← this]; congr 2; omega

theorem words_join : ∀ (n k : Nat) (a b : Bs), a.length = n → wordsAt k (a ++ 32 :: b) = wordsAt k a ++ wordsAt (k + a.length + 1) b := by
  intro n
  induction n using Nat.strongRecOn with
  | ind n ih =>
    intro k a b hn
    cases a with
    | nil => rw [List.nil_append, wordsAt_blank, wordsAt_nil]; rfl
    | cons c r =>
      by_cases hc : c = 32
      · subst hc
        rw [List.cons_append, wordsAt_blank, wordsAt_blank, ih r.length (by simp at hn; omega) (k + 1) r b rfl]
        simp only [List.length_cons]
        congr 2; omega
      · have htw : (c :: r ++ 32 :: b).takeWhile nb = (c :: r).takeWhile nb := by
          have hnb : nb 32 = false := by decide
          have : ∀ l : Bs, (l ++ 32 :: b).takeWhile nb = l.takeWhile nb := by
            intro l
            induction l with
            | nil => simp [hnb]
            | cons x y ih2 =>
              rw [List.cons_append, List.takeWhile_cons, List.takeWhile_cons, ih2]
          exact this (c :: r)
        have hlen : ((c :: r).takeWhile nb).length ≤ (c :: r).length := (tw_facts nb (c :: r)).2.2
        have hp : 0 < ((c :: r).takeWhile nb).length := by rw [List.takeWhile_cons, if_pos (by simp [nb, hc])]; simp
        have h1 := wordsAt_word (k := k) (r := r ++ 32 :: b) hc
        rw [← List.cons_append, htw, List.drop_append_of_le_length hlen] at h1
        rw [h1, wordsAt_word hc, List.cons_append]
        rw [ih _ (by rw [List.length_drop, hn]; simp at hn; omega) _ _ b rfl]
        congr 3
        rw [List.length_drop]; omega

theorem parseW_append {ls : List ByteArray} : ∀ (x y : List (Nat × Bs)) (s : Nat), parseW ls (x ++ y) s = if (parseW ls x s).2.1 = 0 then parseW ls y (parseW ls x s).1 else parseW ls x s
  | [], y, s => by rw [List.nil_append]; rfl
  | (k, l) :: r, y, s => by
    rw [List.cons_append]
    by_cases h : (wordL ls l).2 = 0
    · rw [parseW_ok h, parseW_ok h]; exact parseW_append r y _
    · rw [parseW_no h, parseW_no h, if_neg h]
theorem parseW_ok_at {ls : List ByteArray} : ∀ (x : List (Nat × Bs)) (s : Nat), (parseW ls x s).2.1 = 0 → (parseW ls x s).2.2 = -1
  | [], s, _ => rfl
  | (k, l) :: r, s, h => by
    by_cases h2 : (wordL ls l).2 = 0
    · rw [parseW_ok h2] at h ⊢; exact parseW_ok_at r _ h
    · rw [parseW_no h2] at h; exact absurd h h2
theorem parseW_no_zero {ls : List ByteArray} : ∀ (x : List (Nat × Bs)) (s : Nat), (parseW ls x s).2.1 ≠ 0 → (parseW ls x s).1 = 0 ∧ 0 ≤ (parseW ls x s).2.2
  | [], s, h => absurd rfl h
  | (k, l) :: r, s, h => by
    by_cases h2 : (wordL ls l).2 = 0
    · rw [parseW_ok h2] at h ⊢; exact parseW_no_zero r _ h
    · rw [parseW_no h2]; exact ⟨rfl, Int.natCast_nonneg _⟩
theorem parseW_start {ls : List ByteArray} : ∀ (x : List (Nat × Bs)) (s t : Nat), parseW ls x (s ||| t) = if (parseW ls x t).2.1 = 0 then (s ||| (parseW ls x t).1, 0, -1) else parseW ls x t
  | [], s, t => rfl
  | (k, l) :: r, s, t => by
    by_cases h : (wordL ls l).2 = 0
    · rw [parseW_ok h, parseW_ok h, Nat.or_assoc]; exact parseW_start r _ _
    · rw [parseW_no h, parseW_no h, if_neg h]
theorem parseW_shift {ls : List ByteArray} (d : Nat) : ∀ (x : List (Nat × Bs)) (s : Nat), parseW ls (x.map fun p => (p.1 + d, p.2)) s = if (parseW ls x s).2.1 = 0 then parseW ls x s else (0, (parseW ls x s).2.1, (parseW ls x s).2.2 + d)
  | [], s => rfl
  | (k, l) :: r, s => by
    rw [List.map_cons]
    by_cases h : (wordL ls l).2 = 0
    · rw [parseW_ok h, parseW_ok h]; exact parseW_shift d r _
    · rw [parseW_no h, parseW_no h, if_neg h]; simp

/-- What two texts with a blank between are read as. -/
theorem parse_joined {ls : List ByteArray} {a b : Bs} (ha : a.length ≤ 2000) (hb : b.length ≤ 2000) :
    parseL ls (a ++ 32 :: b) = if (parseL ls a).2.1 ≠ 0 then (0, (parseL ls a).2.1, (parseL ls a).2.2)
      else if (parseL ls b).2.1 ≠ 0 then (0, (parseL ls b).2.1, (parseL ls b).2.2 + (a.length + 1 : Nat)) else ((parseL ls a).1 ||| (parseL ls b).1, 0, -1) := by
  rw [parseL_small (l := a ++ 32 :: b) (by simp; omega), parseL_small (l := a) (by omega), parseL_small (l := b) (by omega), words_join _ 0 a b rfl, parseW_append]
  have e : wordsAt (0 + a.length + 1) b = (wordsAt 0 b).map fun p => (p.1 + (a.length + 1), p.2) := by
    have := words_shift _ 0 (a.length + 1) b rfl
    rw [← this]; congr 1
  rw [e, parseW_shift]
  have hs := fun x => parseW_start (ls := ls) (wordsAt 0 b) x 0
  have hz := parseW_no_zero (ls := ls) (wordsAt 0 a) 0
  obtain ⟨⟨sa, na, ia⟩, hA⟩ : ∃ x, x = parseW ls (wordsAt 0 a) 0 := ⟨_, rfl⟩
  obtain ⟨⟨sb, nb', ib⟩, hB⟩ : ∃ x, x = parseW ls (wordsAt 0 b) 0 := ⟨_, rfl⟩
  simp only [Nat.or_zero] at hs
  rw [← hB] at hs
  rw [← hA] at hz
  rw [← hA, ← hB]
  simp only at hs hz ⊢
  by_cases h1 : na = 0
  · by_cases h2 : nb' = 0
    · simp [h1, hs, h2]
    · simp [h1, hs, h2]
  · have h3 := hz h1
    simp [h1, h3.1]

end Sc
end Go.Proofs.YtgneebidmhiagaaDoor
