/- NamesJoined: the plain laws. -/
import Derived.Test.YtmodhjbkgohoiaaDoorNmTexts
namespace Go.Proofs.YtmodhjbkgohoiaaDoor
open Go.RowKit Go.Proofs.NmPlain
set_option linter.unusedVariables false

theorem split_both : ∀ (a b : Bs), split (a ++ 46 :: b) = split a ++ split b
  | [], b => by simp [split]
  | c :: a, b => by
    have ih := split_both a b
    rw [List.cons_append, split, split]
    by_cases hc : c = 46
    · rw [if_pos hc, if_pos hc, ih]; rfl
    · rw [if_neg hc, if_neg hc, ih]
      cases h : split a with
      | nil => exact absurd h (split_ne a)
      | cons p r => rfl

theorem okAt_dot (i : Nat) : okAt i 46 = false := by
  unfold okAt
  have : isSign (46 : UInt8).toNat = false := by decide
  rw [this]; simp

theorem nameAux_plain : ∀ (l : Bs) (i : Nat), nameAux i l = true → ∀ c ∈ l, c ≠ 46
  | [], _, _, c, hc => by cases hc
  | b :: l, i, h, c, hc => by
    rw [nameAux, Bool.and_eq_true] at h
    rcases List.mem_cons.1 hc with rfl | hc
    · intro e; rw [e, okAt_dot] at h; cases h.1
    · exact nameAux_plain l (i + 1) h.2 c hc

theorem name_split {l : Bs} (h : nameB l = true) : split l = [l] := by
  have h2 := h
  unfold nameB at h2
  rw [Bool.and_eq_true] at h2
  exact split_plain l (nameAux_plain l 0 h2.2)
theorem name_dot {l : Bs} (h : nameB l = true) : dotB l = true := by
  unfold dotB
  rw [name_split h]; simp [h]

theorem dot_both (a b : Bs) : dotB (a ++ 46 :: b) = (dotB a && dotB b && decide ((split a).length + (split b).length ≤ 4)) := by
  have ha : 0 < (split a).length := List.length_pos_iff.2 (split_ne a)
  have hb : 0 < (split b).length := List.length_pos_iff.2 (split_ne b)
  unfold dotB
  rw [split_both, List.length_append, List.all_append]
  by_cases h : (split a).length + (split b).length ≤ 4
  · rw [decide_eq_true h, decide_eq_true (p := (split a).length ≤ 4) (by omega), decide_eq_true (p := (split b).length ≤ 4) (by omega)]; simp
  · rw [decide_eq_false h]; simp

theorem under_both {a b : Bs} (h : dotB (a ++ 46 :: b) = true) (ha : dotB a = true) : underB (a ++ 46 :: b) a = true :=
  under_mk h ha (by rw [split_both, List.length_append]; omega) (by rw [split_both]; simp)
theorem under_not {a b : Bs} : underB a (a ++ 46 :: b) = false := by
  have hb : 0 < (split b).length := List.length_pos_iff.2 (split_ne b)
  unfold underB
  rw [decide_eq_false (p := (split (a ++ 46 :: b)).length ≤ (split a).length) (by rw [split_both, List.length_append]; omega)]; simp

theorem join_snoc : ∀ (l : List Bs) (p : Bs), joinD (l ++ [p]) = if l = [] then p else joinD l ++ 46 :: p
  | [], p => by simp [joinD]
  | [q], p => by simp [joinD]
  | q :: r :: l, p => by
    have ih := join_snoc (r :: l) p
    simp only [List.cons_append, joinD, if_neg (List.cons_ne_nil _ _)] at ih ⊢
    rw [ih]; simp

theorem join_take {ps : List Bs} {k : Nat} (h : k < ps.length) : joinD (ps.take (k + 1)) = if k = 0 then ps[k] else joinD (ps.take k) ++ 46 :: ps[k] := by
  rw [List.take_succ_eq_append_getElem h, join_snoc]
  by_cases hk : k = 0
  · subst hk; simp
  · rw [if_neg hk, if_neg]
    intro e
    have := congrArg List.length e
    rw [List.length_take, List.length_nil] at this
    omega

end Go.Proofs.YtmodhjbkgohoiaaDoor
