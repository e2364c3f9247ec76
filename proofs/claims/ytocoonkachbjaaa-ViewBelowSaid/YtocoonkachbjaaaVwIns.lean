/- A new one behind one's block, by places: as the document's Order finds the place. No program's code. -/
import Derived.Test.YtocoonkachbjaaaVwBlk
namespace Go.Proofs.Ytocoonkachbjaaa
set_option linter.unusedVariables false
namespace Vt

theorem tw_at {α : Type} (q : α → Bool) : ∀ (r : List α) (a : Nat), a ≤ r.length → (∀ j y, j < a → r[j]? = some y → q y = true) → (∀ y, r[a]? = some y → q y = false) → r.takeWhile q = r.take a ∧ r.dropWhile q = r.drop a
  | [], a, _, _, _ => by simp
  | x :: r, 0, _, _, h2 => by
    have := h2 x rfl
    simp [List.takeWhile, List.dropWhile, this]
  | x :: r, a + 1, h, h1, h2 => by
    have hx := h1 0 x (by omega) rfl
    obtain ⟨e1, e2⟩ := tw_at q r a (by simpa using h) (fun j y hj hy => h1 (j + 1) y (by omega) (by simpa using hy)) (fun y hy => h2 y (by simpa using hy))
    simp [List.takeWhile, List.dropWhile, hx, e1, e2]
theorem ins_at (p n : Nat) : ∀ (o : List (Nat × Nat)) (i a : Nat) (x : Nat × Nat), o[i]? = some x → x.2 = p → (∀ j y, j < i → o[j]? = some y → y.2 ≠ p) → i < a → a ≤ o.length → (∀ j y, i < j → j < a → o[j]? = some y → x.1 < y.1) → (∀ y, o[a]? = some y → ¬ x.1 < y.1) →
    ins p n o = o.take a ++ (x.1 + 1, n) :: o.drop a
  | [], i, a, x, h, _, _, _, _, _, _ => by simp at h
  | z :: r, 0, 0, x, h, e, hn, hia, ha, h1, h2 => by omega
  | z :: r, 0, a + 1, x, h, e, hn, hia, ha, h1, h2 => by
    have hz : z = x := by simpa using h
    subst hz
    obtain ⟨e1, e2⟩ := tw_at (fun y : Nat × Nat => decide (z.1 < y.1)) r a (by simpa using ha) (fun j y hj hy => decide_eq_true (h1 (j + 1) y (by omega) (by omega) (by simpa using hy))) (fun y hy => decide_eq_false (h2 y (by simpa using hy)))
    rw [ins, if_pos e, e1, e2]
    simp
  | z :: r, i + 1, 0, x, h, e, hn, hia, ha, h1, h2 => by omega
  | z :: r, i + 1, a + 1, x, h, e, hn, hia, ha, h1, h2 => by
    have hz : z.2 ≠ p := hn 0 z (by omega) rfl
    have ih := ins_at p n r i a x (by simpa using h) e (fun j y hj hy => hn (j + 1) y (by omega) (by simpa using hy)) (by omega) (by simpa using ha) (fun j y hj hj2 hy => h1 (j + 1) y (by omega) (by omega) (by simpa using hy)) (fun y hy => h2 y (by simpa using hy))
    rw [ins, if_neg hz, ih]
    simp

/-- The order alone. -/
def ordI (l : List (Int × Int)) (n : Nat) : List Nat := (ordL l n).map (·.2)
theorem ordI_len (l : List (Int × Int)) (n : Nat) : (ordI l n).length = n := by unfold ordI; rw [List.length_map, ord_len]
theorem ordI_lt {l : List (Int × Int)} {n j x : Nat} (h : (ordI l n)[j]? = some x) : x < n := List.mem_range.1 ((ord_perm l n).mem_iff.1 (List.mem_of_getElem? h))
theorem ordI_has {l : List (Int × Int)} {n p : Nat} (h : p < n) : ∃ j : Nat, (ordI l n)[j]? = some p := List.getElem?_of_mem ((ord_perm l n).mem_iff.2 (List.mem_range.2 h))
theorem ordI_none {l : List (Int × Int)} {n : Nat} (h : par l n = none) : ordI l (n + 1) = ordI l n ++ [n] := by simp only [ordI, ordL, h, List.map_append]; rfl
theorem ordI_some {l : List (Int × Int)} {n p i a : Nat} (h : par l n = some p) (hi : (ordI l n)[i]? = some p) (hn : ∀ (j y : Nat), j < i → (ordI l n)[j]? = some y → y ≠ p) (hia : i < a) (ha : a ≤ n) (h1 : ∀ (j y : Nat), i < j → j < a → (ordI l n)[j]? = some y → dep l p < dep l y)
    (h2 : ∀ (y : Nat), (ordI l n)[a]? = some y → ¬ dep l p < dep l y) : ordI l (n + 1) = (ordI l n).take a ++ n :: (ordI l n).drop a := by
  have get : ∀ {j : Nat} {y : Nat × Nat}, (ordL l n)[j]? = some y → (ordI l n)[j]? = some y.2 := fun {j y} hy => by unfold ordI; rw [List.getElem?_map, hy]; rfl
  obtain ⟨x, hx, ex⟩ : ∃ x, (ordL l n)[i]? = some x ∧ x.2 = p := by
    unfold ordI at hi
    rw [List.getElem?_map] at hi
    exact Option.map_eq_some_iff.1 hi
  have dx := ord_dep l n x (List.mem_of_getElem? hx)
  have hh := ins_at p n (ordL l n) i a x hx ex (fun j y hj hy => hn j y.2 hj (get hy)) hia (by rw [ord_len]; exact ha)
    (fun j y hj hj2 hy => by rw [dx, ex, ord_dep l n y (List.mem_of_getElem? hy)]; exact h1 j y.2 hj hj2 (get hy))
    (fun y hy => by rw [dx, ex, ord_dep l n y (List.mem_of_getElem? hy)]; exact h2 y.2 (get hy))
  have e : ordL l (n + 1) = ins p n (ordL l n) := by simp only [ordL, h]
  unfold ordI
  rw [e, hh]
  simp [List.map_take, List.map_drop]
end Vt
end Go.Proofs.Ytocoonkachbjaaa
