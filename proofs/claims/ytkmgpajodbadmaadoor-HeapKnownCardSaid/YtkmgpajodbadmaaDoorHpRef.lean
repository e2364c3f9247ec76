/- The document's answer for a heap, lineageref20: a list in order, where it lies. Plain laws. -/
import Derived.Test.YtkmgpajodbadmaaDoorHpOps
import Derived.Test.YtkmgpajodbadmaaDoorHpHeap
import Derived.Test.YtkmgpajodbadmaaDoorHpSpec
import Derived.Deep.AppendLies
namespace Go.Proofs.YtkmgpajodbadmaaDoor
open Go.RowKit
set_option linter.unusedVariables false
namespace Hp

theorem ritem_info : (Tryd.prog.info? 86).map (fun i => (i.zero, i.size, i.bytes)) = some (some (.agg #[.int .i64 0, .int .i64 0]), 2, 16) := by kernel_rfl

/-- The reference's heap: for n numbers, the list R, whose value is v. -/
structure RefAt (lo r n : Nat) (R : List It) (v : Value) (w : World) : Prop where
  top : w.heap[r]? = some (.cells #[.int .i64 n, v] 43 (0, 0))
  row : w.ownsRow lo 86 2 v R.length (encL R)
  loR : lo ≤ r

theorem RefAt.c_n {lo r n : Nat} {R : List It} {v : Value} {w : World} (h : RefAt lo r n R v w) : w.cell? ⟨r, 0, none⟩ = some (.int .i64 n) := by
  rw [cell_of_row _ _ _ _ _ _ h.top]; rfl
theorem RefAt.c_l {lo r n : Nat} {R : List It} {v : Value} {w : World} (h : RefAt lo r n R v w) : w.cell? ⟨r, 1, none⟩ = some v := by
  rw [cell_of_row _ _ _ _ _ _ h.top]; rfl
theorem RefAt.f_l {lo r n : Nat} {R : List It} {v : Value} {w : World} (h : RefAt lo r n R v w) (j : Nat) : w.frozen? ⟨r, j, none⟩ = false := by
  unfold World.frozen?; rw [h.top]; rfl
theorem RefAt.lt {lo r n : Nat} {R : List It} {v : Value} {w : World} (h : RefAt lo r n R v w) : r < w.heap.size := (Array.getElem?_eq_some_iff.1 h.top).1
theorem RefAt.ne {lo r n : Nat} {R : List It} {v : Value} {w : World} (h : RefAt lo r n R v w) : ∀ b, v.ownBlock = some b → b ≠ r := by
  intro b e h2
  subst h2
  rcases h.row.2 with ⟨h2, _⟩ | ⟨g, cap, cur, rfl, _, h3, _⟩
  · rw [h2] at e; simp [Value.ownBlock] at e
  · obtain rfl : g = b := by simpa [Value.ownBlock] using e
    rw [h.top] at h3
    simp at h3
theorem RefAt.only {G : Nat → Prop} {lo r n : Nat} {R : List It} {v : Value} {w w' : World} (h : RefAt lo r n R v w) (ho : Only G w w') (h1 : ¬ G r) (h2 : ∀ b, v.ownBlock = some b → ¬ G b) : RefAt lo r n R v w' :=
  ⟨(ho.block r h.lt h1).trans h.top, ho.row h.row h2, h.loR⟩
theorem RefAt.below {lo r n : Nat} {R : List It} {v : Value} {w w' : World} (h : RefAt lo r n R v w) (hb : Below w.heap.size w w') : RefAt lo r n R v w' :=
  h.only (Only.of_below (F := fun _ => False) hb) (fun h => h) (fun _ _ h => h)
/-- The list is laid anew. -/
theorem RefAt.lay {lo r n : Nat} {R R' : List It} {v v' : Value} {w1 : World} (h : RefAt lo r n R v w1) (hr : w1.ownsRow lo 86 2 v' R'.length (encL R')) (hne : ∀ b, v'.ownBlock = some b → b ≠ r) : RefAt lo r n R' v' (w1.setCell ⟨r, 1, none⟩ v') := by
  have ho : Only (fun b => b = r) w1 (w1.setCell ⟨r, 1, none⟩ v') := (Only.refl (fun b => b = r) w1).setCell (p := ⟨r, 1, none⟩) (fun _ => rfl) v'
  refine ⟨?_, ho.row hr (fun b e => hne b e), h.loR⟩
  have := heap_setCell_same w1 r 1 _ _ v' h.top
  rw [this]; rfl

/-! Plain laws. -/
theorem without_take {R : List It} {k : Nat} (h : k < R.length) (i : Int) : without (R.take (k + 1)) i = without (R.take k) i ++ if (g R k).1 = i then [] else [g R k] := by
  rw [List.take_succ_eq_append_getElem h, ← g_eq h]
  unfold without
  rw [List.filter_append]
  congr 1
  by_cases e : (g R k).1 = i
  · rw [if_pos e]; simp [e]
  · rw [if_neg e]; simp [e]
theorem without_len (R : List It) (i : Int) : decide ((without R i).length < R.length) = (keyOf R i).isSome := by
  unfold without keyOf
  induction R with
  | nil => rfl
  | cons x r ih =>
    rw [List.filter_cons, List.find?_cons]
    by_cases e : x.1 = i
    · have e2 : (x.1 == i) = true := by simp [e]
      rw [if_neg (by simp [e]), e2]
      have := List.length_filter_le (fun x : It => x.1 != i) r
      simp; omega
    · have e2 : (x.1 == i) = false := by simp [e]
      rw [if_pos (by simp [e]), e2]
      simp only
      rw [← ih]; simp
theorem without_le (R : List It) (i : Int) : (without R i).length ≤ R.length := List.length_filter_le _ _
theorem without_take_le (R : List It) (k : Nat) (i : Int) : (without (R.take k) i).length ≤ k := by
  have := without_le (R.take k) i
  rw [List.length_take] at this; omega
/-- One is laid into a list in order. -/
theorem ins_sorted {M : List It} {k : Nat} {x : It} (hs : M.Pairwise fun x y => ahd y x = false) (hk : k ≤ M.length) (h1 : ∀ j, j < k → ahd (g M j) x = true) (h2 : k < M.length → ahd (g M k) x = false) :
    (M.take k ++ x :: M.drop k).Pairwise fun x y => ahd y x = false := by
  have ht : ∀ y ∈ M.take k, ahd x y = false := fun y hy => by
    obtain ⟨j, hj, rfl⟩ := List.getElem_of_mem hy
    have hj2 : j < k := by rw [List.length_take] at hj; omega
    have := h1 j hj2
    rw [g_eq (by omega)] at this
    rw [List.getElem_take]
    exact ahd_asymm this
  have hd : ∀ y ∈ M.drop k, ahd y x = false := fun y hy => by
    rcases Nat.lt_or_ge k M.length with h | h
    · have hx := h2 h
      rw [List.drop_eq_getElem_cons h] at hy
      rw [g_eq h] at hx
      rcases List.mem_cons.1 hy with rfl | hy
      · exact hx
      · have hd := hs.drop (i := k)
        rw [List.drop_eq_getElem_cons h] at hd
        exact no_trans ((List.pairwise_cons.1 hd).1 _ hy) hx
    · rw [List.drop_eq_nil_of_le h] at hy; cases hy
  refine List.pairwise_append.2 ⟨hs.take, List.pairwise_cons.2 ⟨hd, hs.drop⟩, fun a ha b hb => ?_⟩
  rcases List.mem_cons.1 hb with rfl | hb
  · exact ht a ha
  · have e : M = M.take k ++ M.drop k := (List.take_append_drop k M).symm
    rw [e] at hs
    exact (List.pairwise_append.1 hs).2.2 a ha b hb
theorem ins_perm (M : List It) (k : Nat) (x : It) : (M.take k ++ x :: M.drop k).Perm (x :: M) := by
  have := List.perm_middle (a := x) (l₁ := M.take k) (l₂ := M.drop k)
  rwa [List.take_append_drop] at this
theorem without_sorted {M : List It} (hs : M.Pairwise fun x y => ahd y x = false) (i : Int) : (without M i).Pairwise fun x y => ahd y x = false := hs.sublist (List.filter_sublist)

end Hp
end Go.Proofs.YtkmgpajodbadmaaDoor
