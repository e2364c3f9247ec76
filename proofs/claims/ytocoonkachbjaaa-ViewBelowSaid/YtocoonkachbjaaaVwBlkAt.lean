/- One's block in the order, by places: as the document's Pre takes it. No program's code. -/
import Derived.Test.YtocoonkachbjaaaVwIns
namespace Go.Proofs.Ytocoonkachbjaaa
set_option linter.unusedVariables false
namespace Vt
theorem blk_at (p : Nat) : ∀ (o : List (Nat × Nat)) (i a : Nat) (x : Nat × Nat), o[i]? = some x → x.2 = p → (∀ j y, j < i → o[j]? = some y → y.2 ≠ p) → i < a → a ≤ o.length → (∀ j y, i < j → j < a → o[j]? = some y → x.1 < y.1) → (∀ y, o[a]? = some y → ¬ x.1 < y.1) →
    blk p o = (0, p) :: ((o.take a).drop (i + 1)).map (fun y => (y.1 - x.1, y.2))
  | [], i, a, x, h, _, _, _, _, _, _ => by simp at h
  | z :: r, 0, 0, x, h, e, hn, hia, ha, h1, h2 => by omega
  | z :: r, 0, a + 1, x, h, e, hn, hia, ha, h1, h2 => by
    have hz : z = x := by simpa using h
    subst hz
    obtain ⟨e1, e2⟩ := tw_at (fun y : Nat × Nat => decide (z.1 < y.1)) r a (by simpa using ha) (fun j y hj hy => decide_eq_true (h1 (j + 1) y (by omega) (by omega) (by simpa using hy))) (fun y hy => decide_eq_false (h2 y (by simpa using hy)))
    rw [blk, if_pos e, e1]
    simp
  | z :: r, i + 1, 0, x, h, e, hn, hia, ha, h1, h2 => by omega
  | z :: r, i + 1, a + 1, x, h, e, hn, hia, ha, h1, h2 => by
    have hz : z.2 ≠ p := hn 0 z (by omega) rfl
    have ih := blk_at p r i a x (by simpa using h) e (fun j y hj hy => hn (j + 1) y (by omega) (by simpa using hy)) (by omega) (by simpa using ha) (fun j y hj hj2 hy => h1 (j + 1) y (by omega) (by omega) (by simpa using hy)) (fun y hy => h2 y (by simpa using hy))
    rw [blk, if_neg hz, ih]
    simp
def blkTo (l : List (Int × Int)) (n p i a : Nat) : List (Nat × Nat) := (0, p) :: (((ordI l n).take a).drop (i + 1)).map fun y => (dep l y - dep l p, y)
theorem blkTo_len {l : List (Int × Int)} {n p i a : Nat} (ha : a ≤ n) (hia : i < a) : (blkTo l n p i a).length = a - i := by
  unfold blkTo
  rw [List.length_cons, List.length_map, List.length_drop, List.length_take, ordI_len]
  omega
theorem blkTo_one {l : List (Int × Int)} {n p i : Nat} : blkTo l n p i (i + 1) = [(0, p)] := by
  unfold blkTo
  rw [List.drop_of_length_le (by rw [List.length_take]; omega)]; rfl
theorem blkTo_succ {l : List (Int × Int)} {n p i a y : Nat} (hia : i < a) (hy : (ordI l n)[a]? = some y) : blkTo l n p i (a + 1) = blkTo l n p i a ++ [(dep l y - dep l p, y)] := by
  have hlt := (List.getElem?_eq_some_iff.1 hy).1
  unfold blkTo
  rw [List.take_succ_eq_append_getElem hlt, List.drop_append_of_le_length (by rw [List.length_take]; omega)]
  have e : (ordI l n)[a] = y := (List.getElem?_eq_some_iff.1 hy).2
  simp [e]
theorem blk_to {l : List (Int × Int)} {n p i a : Nat} (hi : (ordI l n)[i]? = some p) (hn : ∀ (j y : Nat), j < i → (ordI l n)[j]? = some y → y ≠ p) (hia : i < a) (ha : a ≤ n) (h1 : ∀ (j y : Nat), i < j → j < a → (ordI l n)[j]? = some y → dep l p < dep l y)
    (h2 : ∀ (y : Nat), (ordI l n)[a]? = some y → ¬ dep l p < dep l y) : blk p (ordL l n) = blkTo l n p i a := by
  have get : ∀ {j : Nat} {y : Nat × Nat}, (ordL l n)[j]? = some y → (ordI l n)[j]? = some y.2 := fun {j y} hy => by unfold ordI; rw [List.getElem?_map, hy]; rfl
  obtain ⟨x, hx, ex⟩ : ∃ x, (ordL l n)[i]? = some x ∧ x.2 = p := by
    unfold ordI at hi
    rw [List.getElem?_map] at hi
    exact Option.map_eq_some_iff.1 hi
  have dx := ord_dep l n x (List.mem_of_getElem? hx)
  have hh := blk_at p (ordL l n) i a x hx ex (fun j y hj hy => hn j y.2 hj (get hy)) hia (by rw [ord_len]; exact ha)
    (fun j y hj hj2 hy => by rw [dx, ex, ord_dep l n y (List.mem_of_getElem? hy)]; exact h1 j y.2 hj hj2 (get hy))
    (fun y hy => by rw [dx, ex, ord_dep l n y (List.mem_of_getElem? hy)]; exact h2 y.2 (get hy))
  rw [hh]
  unfold blkTo ordI
  rw [← List.map_take, ← List.map_drop, List.map_map, dx, ex]
  congr 1
  apply List.map_congr_left
  intro y hy
  have hm : y ∈ ordL l n := (List.take_sublist _ _).subset ((List.drop_sublist _ _).subset hy)
  simp [ord_dep l n y hm]
end Vt
end Go.Proofs.Ytocoonkachbjaaa
