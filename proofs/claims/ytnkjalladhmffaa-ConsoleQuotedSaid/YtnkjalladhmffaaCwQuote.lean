/- Quoted words, plain: a line of quoted words has these words. No program's code. -/
import Derived.Test.YtnkjalladhmffaaCwWords
namespace Go.Proofs.Ytnkjalladhmffaa
open Go.RowKit Go.Proofs.CwPlain
set_option linter.unusedVariables false
namespace Cw

def hx (n : UInt8) : UInt8 := if n < 10 then 48 + n else 97 + n - 10
/-- A byte, quoted. -/
def escC (c : UInt8) : Bs := if c = 34 ∨ c = 92 then [92, c] else if c = 10 then [92, 110] else if c < 32 ∨ 126 < c then [92, 120, hx (c / 16), hx (c % 16)] else [c]
def escL (l : Bs) : Bs := l.flatMap escC

theorem hx_hex (c : UInt8) : hexv (hx (c / 16)) < 16 ∧ hexv (hx (c % 16)) < 16 ∧ 16 * hexv (hx (c / 16)) + hexv (hx (c % 16)) = c := by
  have h : ∀ n : Fin 256, hexv (hx (UInt8.ofNat n.val / 16)) < 16 ∧ hexv (hx (UInt8.ofNat n.val % 16)) < 16 ∧ 16 * hexv (hx (UInt8.ofNat n.val / 16)) + hexv (hx (UInt8.ofNat n.val % 16)) = UInt8.ofNat n.val := by decide +kernel
  have := h ⟨c.toNat, c.toNat_lt⟩
  simpa using this

theorem quoted_one (c : UInt8) (r b : Bs) : quotedL (escC c ++ r) b = quotedL r (b ++ [c]) := by
  unfold escC
  by_cases h1 : c = 34 ∨ c = 92
  · rw [if_pos h1]; exact q_e1 c r b h1
  rw [if_neg h1]
  by_cases h2 : c = 10
  · rw [if_pos h2, h2]; exact q_e2 r b
  rw [if_neg h2]
  by_cases h3 : c < 32 ∨ 126 < c
  · rw [if_pos h3]
    obtain ⟨g1, g2, g3⟩ := hx_hex c
    have := q_e3 (hx (c / 16)) (hx (c % 16)) r b ⟨g1, g2⟩
    rw [g3] at this
    exact this
  rw [if_neg h3]
  exact q_plain c r b (fun e => h1 (.inl e)) h2 (fun e => h1 (.inr e))

theorem quoted_all : ∀ (l r b : Bs), quotedL (escL l ++ 34 :: r) b = some (b ++ l, r)
  | [], r, b => by rw [List.append_nil]; exact q_end r b
  | c :: l, r, b => by
    have e : escL (c :: l) = escC c ++ escL l := rfl
    rw [e, List.append_assoc, quoted_one, quoted_all l r (b ++ [c]), List.append_assoc]; rfl

/-- One word of the line. -/
def piece (m : Nat) (l : Bs) : Bs := 32 :: (List.replicate m 9 ++ (34 :: (escL l ++ [34])))
def lineOf (m : Nat) (ws : List Bs) : Bs := ws.flatMap (piece m)

theorem words_tabs : ∀ (m n : Nat) (r : Bs) (acc : List Bs), wordsL (n + m) (List.replicate m 9 ++ r) acc = wordsL n r acc
  | 0, n, r, acc => rfl
  | m + 1, n, r, acc => by
    rw [List.replicate_succ, List.cons_append, show n + (m + 1) = (n + m) + 1 by omega, w_blank _ _ _ _ (by decide)]
    exact words_tabs m n r acc

theorem line_words (m : Nat) : ∀ (ws : List Bs) (n : Nat) (acc : List Bs), (lineOf m ws).length < n → wordsL n (lineOf m ws) acc = some (acc ++ ws) := by
  intro ws
  induction ws with
  | nil =>
    intro n acc h
    obtain ⟨n, rfl⟩ : ∃ k, n = k + 1 := ⟨n - 1, by omega⟩
    rw [List.append_nil]; exact w_nil n acc
  | cons w ws ih =>
    intro n acc h
    have e : lineOf m (w :: ws) = 32 :: (List.replicate m 9 ++ (34 :: (escL w ++ 34 :: lineOf m ws))) := by
      show piece m w ++ lineOf m ws = _
      unfold piece
      simp
    rw [e] at h ⊢
    simp only [List.length_cons, List.length_append, List.length_replicate] at h
    obtain ⟨k, rfl⟩ : ∃ k, n = ((k + 1) + m) + 1 := ⟨n - m - 2, by omega⟩
    rw [w_blank _ _ _ _ (by decide), words_tabs, w_q1 k _ w (lineOf m ws) acc (by rw [quoted_all]; rfl) (fun d u hd => by
      cases ws with
      | nil => cases hd
      | cons w2 ws2 =>
        have : lineOf m (w2 :: ws2) = 32 :: (List.replicate m 9 ++ (34 :: (escL w2 ++ [34]))) ++ lineOf m ws2 := rfl
        rw [this] at hd
        have := (List.cons.inj hd).1
        rw [← this]; decide), ih k _ (by omega)]
    simp

theorem line_is (m : Nat) (ws : List Bs) : wordsOf (lineOf m ws) = some ws := by
  unfold wordsOf
  rw [line_words m ws _ _ (Nat.lt_succ_self _)]; rfl

theorem escC_len (c : UInt8) : (escC c).length ≤ 4 := by
  unfold escC
  split
  · simp
  · split
    · simp
    · split <;> simp

theorem escL_len : ∀ l : Bs, (escL l).length ≤ 4 * l.length
  | [] => by simp [escL]
  | c :: l => by
    have e : escL (c :: l) = escC c ++ escL l := rfl
    have := escC_len c
    have := escL_len l
    rw [e, List.length_append, List.length_cons]; omega

theorem piece_len (m : Nat) (l : Bs) : (piece m l).length ≤ 3 + m + 4 * l.length := by
  have := escL_len l
  unfold piece
  simp only [List.length_cons, List.length_append, List.length_replicate, List.length_nil]; omega

end Cw
end Go.Proofs.Ytnkjalladhmffaa
