/- Words of a line: what both texts compute, on lists of bytes. No program in sight. -/
import Derived.WalkKit
namespace Go.Proofs.CwPlain
set_option linter.unusedVariables false

abbrev Bs := List UInt8
def blB (c : UInt8) : Bool := c == 32 || c == 9 || c == 13

/-- A digit's value; 16: none. -/
def hexv (c : UInt8) : UInt8 :=
  if 48 ≤ c ∧ c ≤ 57 then c - 48 else if 97 ≤ c ∧ c ≤ 102 then c - 87 else if 65 ≤ c ∧ c ≤ 70 then c - 55 else 16

/-- What is quoted ahead in a text; what is behind it. -/
def quotedL : Bs → Bs → Option (Bs × Bs)
  | [], _ => none
  | c :: t, b =>
    if c = 34 then some (b, t) else if c = 10 then none else if c = 92 then
      match t with
      | [] => none
      | k :: u =>
        if k = 34 ∨ k = 92 then quotedL u (b ++ [k]) else if k = 110 then quotedL u (b ++ [10]) else if k = 120 then
          match u with
          | x :: y :: v => if hexv x < 16 ∧ hexv y < 16 then quotedL v (b ++ [16 * hexv x + hexv y]) else none
          | _ => none
        else none
    else quotedL t (b ++ [c])

theorem q_nil (b : Bs) : quotedL [] b = none := by rw [quotedL]
theorem q_end (t b : Bs) : quotedL (34 :: t) b = some (b, t) := by rw [quotedL.eq_def]; simp
theorem q_line (t b : Bs) : quotedL (10 :: t) b = none := by rw [quotedL.eq_def]; simp
theorem q_plain (c : UInt8) (t b : Bs) (h1 : c ≠ 34) (h2 : c ≠ 10) (h3 : c ≠ 92) : quotedL (c :: t) b = quotedL t (b ++ [c]) := by rw [quotedL.eq_def]; simp [h1, h2, h3]
theorem q_e0 (b : Bs) : quotedL [92] b = none := by rw [quotedL.eq_def]; simp
theorem q_e1 (k : UInt8) (t b : Bs) (h : k = 34 ∨ k = 92) : quotedL (92 :: k :: t) b = quotedL t (b ++ [k]) := by rw [quotedL.eq_def]; simp [h]
theorem q_e2 (t b : Bs) : quotedL (92 :: 110 :: t) b = quotedL t (b ++ [10]) := by rw [quotedL.eq_def]; simp
theorem q_e3 (x y : UInt8) (t b : Bs) (h : hexv x < 16 ∧ hexv y < 16) : quotedL (92 :: 120 :: x :: y :: t) b = quotedL t (b ++ [16 * hexv x + hexv y]) := by rw [quotedL.eq_def]; simp [h]
theorem q_e4 (x y : UInt8) (t b : Bs) (h : ¬ (hexv x < 16 ∧ hexv y < 16)) : quotedL (92 :: 120 :: x :: y :: t) b = none := by
  rw [quotedL.eq_def]; simp only [show ((92 : UInt8) = 34) = False by decide, show ((92 : UInt8) = 10) = False by decide, if_false, if_true, show ((120 : UInt8) = 34 ∨ (120 : UInt8) = 92) = False by decide, show ((120 : UInt8) = 110) = False by decide, if_neg h]
theorem q_e5 (x : UInt8) (b : Bs) : quotedL [92, 120, x] b = none := by rw [quotedL.eq_def]; simp
theorem q_e6 (b : Bs) : quotedL [92, 120] b = none := by rw [quotedL.eq_def]; simp
theorem q_e7 (k : UInt8) (t b : Bs) (h1 : k ≠ 34) (h2 : k ≠ 92) (h3 : k ≠ 110) (h4 : k ≠ 120) : quotedL (92 :: k :: t) b = none := by rw [quotedL.eq_def]; simp [h1, h2, h3, h4]

/-- What is behind what was quoted is behind it. -/
theorem q_rest : ∀ (n : Nat) (l b w r : Bs), l.length ≤ n → quotedL l b = some (w, r) → ∃ p, l = p ++ r ∧ 0 < p.length ∧ w.length ≤ b.length + p.length := by
  intro n
  induction n with
  | zero =>
    intro l b w r hl h
    obtain rfl : l = [] := List.eq_nil_of_length_eq_zero (by omega)
    rw [q_nil] at h; cases h
  | succ n ih =>
    intro l b w r hl h
    have step : ∀ (p t b2 : Bs), l = p ++ t → 0 < p.length → b2.length ≤ b.length + p.length → quotedL t b2 = some (w, r) → ∃ p, l = p ++ r ∧ 0 < p.length ∧ w.length ≤ b.length + p.length := by
      intro p t b2 e hp hb hq
      have hlen : l.length = p.length + t.length := by rw [e]; simp
      obtain ⟨p2, h1, h2, h3⟩ := ih t b2 w r (by omega) hq
      exact ⟨p ++ p2, by rw [e, h1, List.append_assoc], by simp; omega, by simp; omega⟩
    match l, h, hl, step with
    | [], h, _, _ => rw [q_nil] at h; cases h
    | c :: t, h, hl, step =>
      by_cases h1 : c = 34
      · subst h1
        rw [q_end] at h
        obtain ⟨rfl, rfl⟩ : b = w ∧ t = r := by simpa using h
        exact ⟨[34], rfl, by simp, by simp⟩
      by_cases h2 : c = 10
      · subst h2; rw [q_line] at h; cases h
      by_cases h3 : c = 92
      · subst h3
        match t, h, step with
        | [], h, _ => rw [q_e0] at h; cases h
        | k :: u, h, step =>
          by_cases k1 : k = 34 ∨ k = 92
          · rw [q_e1 k u b k1] at h; exact step [92, k] u _ rfl (by simp) (by simp) h
          by_cases k2 : k = 110
          · subst k2; rw [q_e2] at h; exact step [92, 110] u _ rfl (by simp) (by simp) h
          by_cases k3 : k = 120
          · subst k3
            match u, h, step with
            | [], h, _ => rw [q_e6] at h; cases h
            | [x], h, _ => rw [q_e5] at h; cases h
            | x :: y :: v, h, step =>
              by_cases hx : hexv x < 16 ∧ hexv y < 16
              · rw [q_e3 x y v b hx] at h; exact step [92, 120, x, y] v _ rfl (by simp) (by simp) h
              · rw [q_e4 x y v b hx] at h; cases h
          · rw [q_e7 k u b (fun e => k1 (.inl e)) (fun e => k1 (.inr e)) k2 k3] at h; cases h
      · rw [q_plain c t b h1 h2 h3] at h; exact step [c] t _ rfl (by simp) (by simp) h

/-- The words of a line, behind those that are there; with fuel. -/
def wordsL : Nat → Bs → List Bs → Option (List Bs)
  | 0, _, _ => none
  | n + 1, [], acc => some acc
  | n + 1, c :: t, acc =>
    if blB c then wordsL n t acc else if c = 35 then some acc else if c = 34 then
      match quotedL t [] with
      | none => none
      | some (w, r) => if (match r with | [] => true | d :: _ => blB d) then wordsL n r (acc ++ [w]) else none
    else wordsL n ((c :: t).dropWhile fun d => !blB d) (acc ++ [(c :: t).takeWhile fun d => !blB d])

theorem w_nil (n : Nat) (acc : List Bs) : wordsL (n + 1) [] acc = some acc := by rw [wordsL]
theorem w_blank (n : Nat) (c : UInt8) (t : Bs) (acc : List Bs) (h : blB c = true) : wordsL (n + 1) (c :: t) acc = wordsL n t acc := by rw [wordsL, if_pos h]
theorem w_hash (n : Nat) (t : Bs) (acc : List Bs) : wordsL (n + 1) (35 :: t) acc = some acc := by rw [wordsL]; rfl
theorem w_q0 (n : Nat) (t : Bs) (acc : List Bs) (h : quotedL t [] = none) : wordsL (n + 1) (34 :: t) acc = none := by
  rw [wordsL, if_neg (by decide), if_neg (by decide), if_pos rfl, h]
theorem w_q1 (n : Nat) (t w r : Bs) (acc : List Bs) (h : quotedL t [] = some (w, r)) (hr : ∀ d u, r = d :: u → blB d = true) : wordsL (n + 1) (34 :: t) acc = wordsL n r (acc ++ [w]) := by
  rw [wordsL, if_neg (by decide), if_neg (by decide), if_pos rfl, h]
  cases r with
  | nil => simp
  | cons d u => simp [hr d u rfl]
theorem w_q2 (n : Nat) (t w u : Bs) (d : UInt8) (acc : List Bs) (h : quotedL t [] = some (w, d :: u)) (hr : blB d = false) : wordsL (n + 1) (34 :: t) acc = none := by
  rw [wordsL, if_neg (by decide), if_neg (by decide), if_pos rfl, h]
  simp [hr]
theorem w_word (n : Nat) (c : UInt8) (t : Bs) (acc : List Bs) (h : blB c = false) (h1 : c ≠ 35) (h2 : c ≠ 34) :
    wordsL (n + 1) (c :: t) acc = wordsL n ((c :: t).dropWhile fun d => !blB d) (acc ++ [(c :: t).takeWhile fun d => !blB d]) := by
  rw [wordsL, if_neg (by rw [h]; decide), if_neg h1, if_neg h2]

end Go.Proofs.CwPlain
