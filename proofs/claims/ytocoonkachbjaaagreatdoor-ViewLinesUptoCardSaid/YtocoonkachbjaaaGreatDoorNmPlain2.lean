/- The plain laws of the names' comparison: it is an order; a text is its pieces with dots between. No program in sight. -/
import Derived.Test.YtocoonkachbjaaaGreatDoorNmPlain
namespace Go.Proofs.NmPlain

/-- What makes a comparison an order. -/
structure Ord (α : Type) (c : α → α → Int) : Prop where
  anti : ∀ a b, c b a = - c a b
  zero : ∀ a b, c a b = 0 ↔ a = b
  trans : ∀ a b d, c a b ≤ 0 → c b d ≤ 0 → c a d ≤ 0
  range : ∀ a b, -1 ≤ c a b ∧ c a b ≤ 1

def lex {α : Type} (c : α → α → Int) : List α → List α → Int
  | [], [] => 0
  | [], _ :: _ => -1
  | _ :: _, [] => 1
  | x :: xs, y :: ys => if c x y = 0 then lex c xs ys else c x y

theorem Ord.refl {α : Type} {c : α → α → Int} (h : Ord α c) (a : α) : c a a = 0 := (h.zero a a).2 rfl
theorem Ord.lt_trans {α : Type} {c : α → α → Int} (h : Ord α c) {a b d : α} (h1 : c a b < 0) (h2 : c b d ≤ 0) : c a d < 0 := by
  have h3 := h.trans a b d (by omega) h2
  rcases Int.lt_or_eq_of_le h3 with h4 | h4
  · exact h4
  · have e := (h.zero a d).1 h4
    subst e
    have := h.anti a b
    omega
theorem Ord.le_lt {α : Type} {c : α → α → Int} (h : Ord α c) {a b d : α} (h1 : c a b ≤ 0) (h2 : c b d < 0) : c a d < 0 := by
  have h3 := h.trans a b d h1 (by omega)
  rcases Int.lt_or_eq_of_le h3 with h4 | h4
  · exact h4
  · have e := (h.zero a d).1 h4
    subst e
    have := h.anti a b
    omega

theorem lex_range {α : Type} {c : α → α → Int} (h : Ord α c) : ∀ xs ys : List α, -1 ≤ lex c xs ys ∧ lex c xs ys ≤ 1
  | [], [] => by simp [lex]
  | [], _ :: _ => by simp [lex]
  | _ :: _, [] => by simp [lex]
  | x :: xs, y :: ys => by
    unfold lex; split
    · exact lex_range h xs ys
    · exact h.range x y
theorem lex_anti {α : Type} {c : α → α → Int} (h : Ord α c) : ∀ xs ys : List α, lex c ys xs = - lex c xs ys
  | [], [] => by simp [lex]
  | [], _ :: _ => by simp [lex]
  | _ :: _, [] => by simp [lex]
  | x :: xs, y :: ys => by
    unfold lex
    have := h.anti x y
    by_cases e : c x y = 0
    · rw [if_pos e, if_pos (by omega)]; exact lex_anti h xs ys
    · rw [if_neg e, if_neg (by omega)]; exact this
theorem lex_zero {α : Type} {c : α → α → Int} (h : Ord α c) : ∀ xs ys : List α, lex c xs ys = 0 ↔ xs = ys
  | [], [] => by simp [lex]
  | [], _ :: _ => by simp [lex]
  | _ :: _, [] => by simp [lex]
  | x :: xs, y :: ys => by
    unfold lex
    by_cases e : c x y = 0
    · rw [if_pos e, lex_zero h xs ys, (h.zero x y).1 e]; simp
    · rw [if_neg e]
      constructor
      · intro h'; exact absurd h' e
      · intro h'; simp only [List.cons.injEq] at h'; exact absurd ((h.zero x y).2 h'.1) e
theorem lex_trans {α : Type} {c : α → α → Int} (h : Ord α c) : ∀ xs ys zs : List α, lex c xs ys ≤ 0 → lex c ys zs ≤ 0 → lex c xs zs ≤ 0
  | [], _, [], _, _ => by simp [lex]
  | [], _, _ :: _, _, _ => by simp [lex]
  | _ :: _, [], _, h1, _ => by simp [lex] at h1
  | _ :: _, _ :: _, [], _, h2 => by simp [lex] at h2
  | x :: xs, y :: ys, z :: zs, h1, h2 => by
    unfold lex at h1 h2 ⊢
    by_cases e1 : c x y = 0
    · rw [if_pos e1] at h1
      have exy := (h.zero x y).1 e1
      subst exy
      by_cases e2 : c x z = 0
      · rw [if_pos e2] at h2 ⊢; exact lex_trans h xs ys zs h1 h2
      · rw [if_neg e2] at h2 ⊢; exact h2
    · rw [if_neg e1] at h1
      by_cases e2 : c y z = 0
      · have eyz := (h.zero y z).1 e2
        subst eyz
        rw [if_neg e1]; exact h1
      · rw [if_neg e2] at h2
        have := h.lt_trans (a := x) (b := y) (d := z) (by omega) h2
        rw [if_neg (by omega)]; omega

theorem lex_ord {α : Type} {c : α → α → Int} (h : Ord α c) : Ord (List α) (lex c) := ⟨lex_anti h, lex_zero h, lex_trans h, lex_range h⟩

def ucmp (a b : UInt8) : Int := if a = b then 0 else if a < b then -1 else 1
theorem ucmp_ord : Ord UInt8 ucmp := by
  refine ⟨fun a b => ?_, fun a b => ?_, fun a b d h1 h2 => ?_, fun a b => ?_⟩
  · unfold ucmp
    by_cases e : a = b
    · rw [if_pos e, if_pos e.symm]; rfl
    · rw [if_neg e, if_neg (fun h => e h.symm)]
      have : a.toNat ≠ b.toNat := fun h => e (UInt8.toNat_inj.1 h)
      by_cases l : a < b
      · rw [if_pos l, if_neg (by rw [UInt8.lt_iff_toNat_lt] at l ⊢; omega)]; rfl
      · rw [if_neg l, if_pos (by rw [UInt8.lt_iff_toNat_lt] at l ⊢; omega)]
  · unfold ucmp
    by_cases e : a = b
    · simp [e]
    · rw [if_neg e]; split <;> simp [e]
  · have le_iff : ∀ a b : UInt8, ucmp a b ≤ 0 ↔ a.toNat ≤ b.toNat := fun a b => by
      unfold ucmp
      by_cases e : a = b
      · simp [e]
      · have : a.toNat ≠ b.toNat := fun h => e (UInt8.toNat_inj.1 h)
        rw [if_neg e]
        by_cases l : a < b
        · rw [if_pos l]; rw [UInt8.lt_iff_toNat_lt] at l; constructor
          · intro _; omega
          · intro _; decide
        · rw [if_neg l]; rw [UInt8.lt_iff_toNat_lt] at l; constructor
          · intro h; exact absurd h (by decide)
          · intro h; omega
    rw [le_iff] at h1 h2 ⊢; omega
  · unfold ucmp; split
    · decide
    · split <;> decide

theorem bcmp_lex : ∀ s t : Bs, bcmp s t = lex ucmp s t
  | [], [] => rfl
  | [], _ :: _ => rfl
  | _ :: _, [] => rfl
  | a :: s, b :: t => by
    unfold bcmp lex
    by_cases e : a = b
    · rw [if_pos e, if_pos ((ucmp_ord.zero a b).2 e), bcmp_lex s t]
    · rw [if_neg e, if_neg (fun h => e ((ucmp_ord.zero a b).1 h))]; unfold ucmp; rw [if_neg e]
theorem bcmp_ord : Ord Bs bcmp := by
  have e : bcmp = lex ucmp := funext fun s => funext fun t => bcmp_lex s t
  rw [e]; exact lex_ord ucmp_ord

theorem lcmp_lex : ∀ xs ys : List Bs, lcmp xs ys = lex bcmp xs ys
  | [], [] => rfl
  | [], _ :: _ => rfl
  | _ :: _, [] => rfl
  | x :: xs, y :: ys => by
    unfold lcmp lex; rw [lcmp_lex xs ys]
theorem lcmp_ord : Ord (List Bs) lcmp := by
  have e : lcmp = lex bcmp := funext fun s => funext fun t => lcmp_lex s t
  rw [e]; exact lex_ord bcmp_ord

/-- Pieces with dots between. -/
def joinD : List Bs → Bs
  | [] => []
  | [p] => p
  | p :: q :: r => p ++ 46 :: joinD (q :: r)

theorem join_split : ∀ s : Bs, joinD (split s) = s
  | [] => rfl
  | b :: l => by
    have ih := join_split l
    unfold split
    have hne := split_ne l
    by_cases hb : b = 46
    · rw [if_pos hb]
      cases h : split l with
      | nil => exact absurd h hne
      | cons p r => rw [h] at ih; rw [joinD, ih, hb]; rfl
    · rw [if_neg hb]
      cases h : split l with
      | nil => exact absurd h hne
      | cons p r =>
        rw [h] at ih
        cases r with
        | nil => simp only [joinD] at ih ⊢; rw [ih]
        | cons q r => simp only [joinD] at ih ⊢; rw [← ih]; rfl
theorem split_inj {a b : Bs} (h : split a = split b) : a = b := by rw [← join_split a, ← join_split b, h]

theorem ncmp_ord : Ord Bs ncmp := by
  refine ⟨fun a b => lcmp_ord.anti _ _, fun a b => ?_, fun a b d => lcmp_ord.trans _ _ _, fun a b => lcmp_ord.range _ _⟩
  unfold ncmp; rw [lcmp_ord.zero]; exact ⟨split_inj, fun h => by rw [h]⟩

/-- A beginning isn't behind the whole. -/
theorem lcmp_prefix : ∀ (ys xs : List Bs), xs.take ys.length = ys → lcmp ys xs ≤ 0
  | [], [], _ => by simp [lcmp]
  | [], _ :: _, _ => by simp [lcmp]
  | y :: ys, [], h => by simp at h
  | y :: ys, x :: xs, h => by
    simp only [List.length_cons, List.take_succ_cons, List.cons.injEq] at h
    obtain ⟨rfl, h⟩ := h
    rw [lcmp, if_pos (bcmp_ord.refl x)]
    exact lcmp_prefix ys xs h

end Go.Proofs.NmPlain
