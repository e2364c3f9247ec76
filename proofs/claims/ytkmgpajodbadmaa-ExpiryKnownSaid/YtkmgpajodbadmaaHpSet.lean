/- (*queue).set, the heap's two functions. -/
import Derived.Test.YtkmgpajodbadmaaHpMem
namespace Go.Proofs.Ytkmgpajodbadmaa
open Go.RowKit
set_option linter.unusedVariables false
namespace Hp

theorem ahead_any (x y : It) (w : World) : Calls Try.prog 39 #[.agg #[.int .i64 x.1, .int .i64 x.2], .agg #[.int .i64 y.1, .int .i64 y.2]] w fun e w' => e = .returned (.bool (ahd x y)) ∧ w' = (w.alloc (.cells #[.int .i64 x.1, .int .i64 x.2] 66)).alloc (.cells #[.int .i64 y.1, .int .i64 y.2] 66) := by
  obtain ⟨a, b⟩ := x
  obtain ⟨c, d⟩ := y
  unfold ahd
  simp only
  by_cases h1 : b < d
  · go_enter Try.func39, Try.ntmps39
    go_wp2
    go_ret
    exact ⟨by simp [h1], rfl⟩
  · by_cases h2 : b = d
    · have e1 : (b == d) = true := by simp [h2]
      go_enter Try.func39, Try.ntmps39
      go_wp2
      go_ret
      exact ⟨by simp, rfl⟩
    · have e1 : (b == d) = false := by simp [h2]
      go_enter Try.func39, Try.ntmps39
      go_wp2
      go_ret
      exact ⟨by simp [h1], rfl⟩

theorem QAt.below {lo H hb ga ca : Nat} {v : Value} {M : List It} {ats : List Int} {w w' : World} (h : QAt lo H hb ga ca v M ats w) (hbl : Below w.heap.size w w') : QAt lo H hb ga ca v M ats w' :=
  ⟨(hbl.block H (Array.getElem?_eq_some_iff.1 h.top).1).trans h.top, (hbl.block hb (Array.getElem?_eq_some_iff.1 h.box).1).trans h.box, Ut.own_below h.row hbl, Ut.own_below h.at_ hbl, h.loH, h.loB⟩
theorem QAt.c_box {lo H hb ga ca : Nat} {v : Value} {M : List It} {ats : List Int} {w : World} (h : QAt lo H hb ga ca v M ats w) : w.cell? ⟨hb, 0, none⟩ = some (.pointer (some ⟨H, 0, none⟩)) := by rw [cell_of_row w _ 0 _ _ _ h.box]; rfl
theorem QAt.c_l {lo H hb ga ca : Nat} {v : Value} {M : List It} {ats : List Int} {w : World} (h : QAt lo H hb ga ca v M ats w) : w.cell? ⟨H, 0, none⟩ = some v := by rw [cell_of_row w _ 0 _ _ _ h.top]; rfl
theorem QAt.c_ahead {lo H hb ga ca : Nat} {v : Value} {M : List It} {ats : List Int} {w : World} (h : QAt lo H hb ga ca v M ats w) : w.cell? ⟨H, 1, none⟩ = some (.func (.func 39) #[] #[]) := by rw [cell_of_row w _ 1 _ _ _ h.top]; rfl
theorem QAt.c_moved {lo H hb ga ca : Nat} {v : Value} {M : List It} {ats : List Int} {w : World} (h : QAt lo H hb ga ca v M ats w) : w.cell? ⟨H, 2, none⟩ = some (.func (.func 40) #[] #[.pointer (some ⟨hb, 0, none⟩)]) := by rw [cell_of_row w _ 2 _ _ _ h.top]; rfl
theorem QAt.c_at {lo H hb ga ca : Nat} {v : Value} {M : List It} {ats : List Int} {w : World} (h : QAt lo H hb ga ca v M ats w) : w.cell? ⟨H, 3, none⟩ = some (.slice (some ⟨ga, 0, none⟩) ats.length ca) := by rw [cell_of_row w _ 3 _ _ _ h.top]; rfl
theorem QAt.at_cell {lo H hb ga ca : Nat} {v : Value} {M : List It} {ats : List Int} {w : World} (h : QAt lo H hb ga ca v M ats w) {n : Nat} (hn : n < ats.length) : ∃ u, w.cell? ⟨ga, n, none⟩ = some (.int .i64 u) ∧ w.frozen? ⟨ga, n, none⟩ = false := by
  obtain ⟨g', c', e, h1, h2, h3, h4, h5⟩ := Ut.own_cells h.at_ (by omega)
  obtain ⟨rfl, rfl⟩ : ga = g' ∧ ca = c' := by simpa using e
  exact ⟨ats[n], by rw [h5 n hn]; simp [hn, vI], World.ownsRow.frozenAt h.at_ n⟩

theorem own_block_t {w : World} {base e size n : Nat} {v : Value} {xs : List Value} (h : w.ownsRow base e size v n xs) {k : Nat} (hk : v.ownBlock = some k) : ∃ cur, w.heap[k]? = some (.cells cur e (0, 0)) := by
  rcases h.2 with ⟨h1, _⟩ | ⟨gv, cap, cur, h1, _, h3, _⟩
  · rw [h1] at hk; cases hk
  · rw [h1] at hk
    obtain rfl := Option.some.inj hk
    exact ⟨cur, h3⟩
/-- The blocks of a heap are different ones. -/
theorem QAt.ne {lo H hb ga ca : Nat} {v : Value} {M : List It} {ats : List Int} {w : World} (h : QAt lo H hb ga ca v M ats w) :
    H ≠ hb ∧ ga ≠ H ∧ ga ≠ hb ∧ v.ownBlock ≠ some H ∧ v.ownBlock ≠ some hb ∧ v.ownBlock ≠ some ga ∧ H < w.heap.size ∧ hb < w.heap.size ∧ ga < w.heap.size ∧ lo ≤ ga := by
  obtain ⟨cg, hg⟩ := own_block_t h.at_ (k := ga) rfl
  have h1 := h.top; have h2 := h.box
  refine ⟨?_, ?_, ?_, ?_, ?_, ?_, (Array.getElem?_eq_some_iff.1 h1).1, (Array.getElem?_eq_some_iff.1 h2).1, (Array.getElem?_eq_some_iff.1 hg).1, (h.at_.lt ga rfl).1⟩
  · rintro rfl; rw [h1] at h2; simp at h2
  · rintro rfl; rw [h1] at hg; simp at hg
  · rintro rfl; rw [h2] at hg; simp at hg
  · intro e; obtain ⟨c, hc⟩ := own_block_t h.row e; rw [h1] at hc; simp at hc
  · intro e; obtain ⟨c, hc⟩ := own_block_t h.row e; rw [h2] at hc; simp at hc
  · intro e; obtain ⟨c, hc⟩ := own_block_t h.row e; rw [hg] at hc; simp at hc
theorem QAt.drew {lo H hb ga ca : Nat} {v : Value} {M : List It} {ats : List Int} {w : World} (h : QAt lo H hb ga ca v M ats w) : QAt lo H hb ga ca v M ats w.drew := h.below ((Below.refl _ _).drew)
/-- What another call writes leaves a heap as it is. -/
theorem QAt.only {lo H hb ga ca : Nat} {v : Value} {M : List It} {ats : List Int} {w w' : World} (h : QAt lo H hb ga ca v M ats w) {F : Nat → Prop} (ho : Only F w w') (hF : ∀ k, F k → k ≠ H ∧ k ≠ hb ∧ k ≠ ga ∧ v.ownBlock ≠ some k) : QAt lo H hb ga ca v M ats w' := by
  obtain ⟨-, -, -, -, -, -, n1, n2, n3, -⟩ := h.ne
  exact ⟨(ho.block H n1 (fun e => (hF _ e).1 rfl)).trans h.top, (ho.block hb n2 (fun e => (hF _ e).2.1 rfl)).trans h.box, ho.row h.row (fun k e1 e2 => (hF k e2).2.2.2 e1),
    ho.row h.at_ (fun k e1 e2 => (hF k e2).2.2.1 (by cases e1; rfl)), h.loH, h.loB⟩
theorem QAt.set_at {lo H hb ga ca : Nat} {v : Value} {M : List It} {ats : List Int} {w : World} (h : QAt lo H hb ga ca v M ats w) {n : Nat} (hn : n < ats.length) (u : Int) : QAt lo H hb ga ca v M (ats.set n u) (w.setCell ⟨ga, n, none⟩ (.int .i64 u)) := by
  obtain ⟨_, n1, n2, _, _, n3, _⟩ := h.ne
  have hk : ∀ j, j ≠ ga → (w.setCell ⟨ga, n, none⟩ (.int .i64 u)).heap[j]? = w.heap[j]? := fun j hj => Below.heap_setCell _ _ _ _ (by simpa using hj)
  refine ⟨?_, (hk hb (fun e => n2 e.symm)).trans h.box, ownsRow_setCell_other h.row (fun e => n3 e) _, ?_, h.loH, h.loB⟩
  · rw [hk H (fun e => n1 e.symm), List.length_set]; exact h.top
  · have := (World.ownsRow.stored h.at_ n (.int .i64 u)).1
    rw [List.length_set]
    have e : (ats.set n u).map vI = (ats.map vI).set n (.int .i64 u) := by rw [List.map_set]; rfl
    rw [e]; exact this
theorem QAt.set_row {lo H hb ga ca gv cap : Nat} {M : List It} {ats : List Int} {w : World} (h : QAt lo H hb ga ca (.slice (some ⟨gv, 0, none⟩) M.length cap) M ats w) {n : Nat} (x : It) :
    QAt lo H hb ga ca (.slice (some ⟨gv, 0, none⟩) M.length cap) (M.set n x) ats ((w.setCell ⟨gv, n * 2, none⟩ (.int .i64 x.1)).setCell ⟨gv, n * 2 + 1, none⟩ (.int .i64 x.2)) := by
  obtain ⟨_, n1, n2, n3, n4, n5, _⟩ := h.ne
  have hk : ∀ j, j ≠ gv → ((w.setCell ⟨gv, n * 2, none⟩ (.int .i64 x.1)).setCell ⟨gv, n * 2 + 1, none⟩ (.int .i64 x.2)).heap[j]? = w.heap[j]? := fun j hj =>
    (Below.heap_setCell _ _ _ _ (by simpa using hj)).trans (Below.heap_setCell _ _ _ _ (by simpa using hj))
  refine ⟨(hk H (fun e => n3 (by rw [e]; rfl))).trans h.top, (hk hb (fun e => n4 (by rw [e]; rfl))).trans h.box, ?_, ?_, h.loH, h.loB⟩
  · rw [List.length_set, encL_set]
    exact (World.ownsRow.stored (World.ownsRow.stored h.row _ _).1 _ _).1
  · exact ownsRow_setCell_other (ownsRow_setCell_other h.at_ (fun e => n5 (by cases e; rfl)) _) (fun e => n5 (by cases e; rfl)) _

theorem moved_any (lo H hb ga ca : Nat) (v : Value) (M : List It) (ats : List Int) (w : World) (hq : QAt lo H hb ga ca v M ats w) (x : It) (h0 : 0 ≤ x.1) (h1 : x.1 < ats.length) (k : Nat) :
    Calls Try.prog 40 #[.agg #[.int .i64 x.1, .int .i64 x.2], .int .i64 k, .pointer (some ⟨hb, 0, none⟩)] w fun e w' => (∃ u, e = .returned u) ∧ QAt lo H hb ga ca v M (ats.set x.1.toNat k) w' ∧ Only (fun j => j = ga) w w' := by
  obtain ⟨a, b⟩ := x
  simp only at h0 h1 ⊢
  obtain ⟨n, rfl⟩ : ∃ n : Nat, a = n := ⟨a.toNat, by omega⟩
  have hn : n < ats.length := by omega
  have hbl : Below w.heap.size w (w.alloc (.cells #[.int .i64 n, .int .i64 b] 66)) := (Below.refl _ _).alloc (Nat.le_refl _) _
  have hq2 := hq.below hbl
  have c1 := hq2.c_box
  have c2 := hq2.c_at
  obtain ⟨u, c3, c4⟩ := hq2.at_cell hn
  have HQ := Lib.hid hq2
  have HO : Hid (Only (fun j => j = ga) w (w.alloc (.cells #[.int .i64 n, .int .i64 b] 66))) := (Only.refl _ _).alloc _
  have e1 : ((n : Int)).toNat = n := by simp
  rw [e1]
  obtain ⟨W, hW⟩ : ∃ W, W = w.alloc (.cells #[.int .i64 n, .int .i64 b] 66) := ⟨_, rfl⟩
  have c5 : W.cell? ⟨w.heap.size, 0, none⟩ = some (.int .i64 n) := by rw [hW]; simp
  rw [← hW] at c1 c2 c3 c4 HQ HO
  clear hq hbl hq2 e1
  have b1 : (0 : Int) ≤ (n : Int) := by omega
  have b2 : (n : Int) < (ats.length : Int) := by omega
  go_enter Try.func40, Try.ntmps40
  go_wp2
  rw [← hW]
  clear hW
  go_region
  go_end0
  exact ⟨⟨_, rfl⟩, (HQ.out.set_at hn (k : Int)).drew, (HO.out.setCell (p := ⟨ga, n, none⟩) (fun _ => rfl) _).drew⟩

set_option maxHeartbeats 2000000 in
theorem set_any (lo H hb ga ca : Nat) (v : Value) (M : List It) (ats : List Int) (w : World) (hq : QAt lo H hb ga ca v M ats w) (x : It) (h0 : 0 ≤ x.1) (h1 : x.1 < ats.length) (k : Nat) (hk : k < M.length) :
    Calls Try.prog 44 #[.pointer (some ⟨H, 0, none⟩), .agg #[.int .i64 x.1, .int .i64 x.2], .int .i64 k] w fun e w' => (∃ u, e = .returned u) ∧ QAt lo H hb ga ca v (M.set k x) (ats.set x.1.toNat k) w' ∧ Only (Ft H ga v) w w' := by
  obtain ⟨gv, cap, rfl, r1, r2, r3, r4, r5, -⟩ := row_cells hq.row rfl (by omega)
  obtain ⟨a, b⟩ := x
  simp only at h0 h1 ⊢
  have hbl : Below w.heap.size w (w.alloc (.cells #[.int .i64 a, .int .i64 b] 66)) := (Below.refl _ _).alloc (Nat.le_refl _) _
  have hq2 := hq.below hbl
  have HO : Hid (Only (Ft H ga (.slice (some ⟨gv, 0, none⟩) M.length cap)) w (w.alloc (.cells #[.int .i64 a, .int .i64 b] 66))) := (Only.refl _ _).alloc _
  obtain ⟨gv', cap', e, -, -, -, r6, r7, -⟩ := row_cells hq2.row rfl (by omega)
  obtain ⟨rfl, rfl⟩ : gv = gv' ∧ cap = cap' := by simpa using e
  have c1 := hq2.c_l
  obtain ⟨c2, c3⟩ := r6 k hk
  have c4 := r7 (k * 2)
  have c5 := r7 (k * 2 + 1)
  obtain ⟨W, hW⟩ : ∃ W, W = w.alloc (.cells #[.int .i64 a, .int .i64 b] 66) := ⟨_, rfl⟩
  have c6 : W.cell? ⟨w.heap.size, 0, none⟩ = some (.int .i64 a) := by rw [hW]; simp
  have c7 : W.cell? ⟨w.heap.size, 1, none⟩ = some (.int .i64 b) := by rw [hW]; simp
  have HQ := Lib.hid hq2
  have hgne : gv ≠ w.heap.size := by omega
  have hgane : ¬ w.heap.size = ga := by have := hq.ne.2.2.2.2.2.2.2.2.1; omega
  rw [← hW] at c1 c2 c3 c4 c5 HQ HO
  clear hq hbl hq2 r1 r2 r3 r4 r5 r6 r7 e
  have b1 : (0 : Int) ≤ (k : Int) := by omega
  have b2 : (k : Int) < (M.length : Int) := by omega
  go_enter Try.func44, Try.ntmps44
  go_wp2
  rw [← hW]
  clear hW
  go_region
  have HQ2 := Lib.hid ((HQ.out.set_row (n := k) (a, b)).drew)
  have HO2 : Hid (Only (Ft H ga (.slice (some ⟨gv, 0, none⟩) M.length cap)) w ((W.setCell ⟨gv, k * 2, none⟩ (.int .i64 a)).setCell ⟨gv, k * 2 + 1, none⟩ (.int .i64 b)).drew) :=
    ((HO.out.setCell (p := ⟨gv, k * 2, none⟩) (fun _ => .inr (.inr rfl)) _).setCell (p := ⟨gv, k * 2 + 1, none⟩) (fun _ => .inr (.inr rfl)) _).drew
  have d1 : ((W.setCell ⟨gv, k * 2, none⟩ (.int .i64 a)).setCell ⟨gv, k * 2 + 1, none⟩ (.int .i64 b)).drew.cell? ⟨w.heap.size, 0, none⟩ = some (.int .i64 a) := by
    refine (World.cell?_of_block (w := W) ?_).trans c6
    exact (Below.heap_setCell _ _ _ _ (by simpa using fun e => hgne e.symm)).trans (Below.heap_setCell _ _ _ _ (by simpa using fun e => hgne e.symm))
  have d2 : ((W.setCell ⟨gv, k * 2, none⟩ (.int .i64 a)).setCell ⟨gv, k * 2 + 1, none⟩ (.int .i64 b)).drew.cell? ⟨w.heap.size, 1, none⟩ = some (.int .i64 b) := by
    refine (World.cell?_of_block (w := W) ?_).trans c7
    exact (Below.heap_setCell _ _ _ _ (by simpa using fun e => hgne e.symm)).trans (Below.heap_setCell _ _ _ _ (by simpa using fun e => hgne e.symm))
  obtain ⟨W2, hW2⟩ : ∃ W2, W2 = ((W.setCell ⟨gv, k * 2, none⟩ (.int .i64 a)).setCell ⟨gv, k * 2 + 1, none⟩ (.int .i64 b)).drew := ⟨_, rfl⟩
  rw [← hW2] at HQ2 HO2 d1 d2 ⊢
  have d3 := HQ2.out.c_moved
  clear hW2 HQ HO c1 c2 c3 c4 c5 c6 c7
  have HM := Lib.hid (fun w' (hq : QAt lo H hb ga ca (.slice (some ⟨gv, 0, none⟩) M.length cap) (M.set k (a, b)) ats w') (hc1 : w'.cell? ⟨w.heap.size, 0, none⟩ = some (.int .i64 a)) (hc2 : w'.cell? ⟨w.heap.size, 1, none⟩ = some (.int .i64 b)) =>
    (moved_any lo H hb ga ca _ _ ats w' hq (a, b) h0 h1 k).mono fun e w3 h => (⟨h.1, h.2.1, h.2.2, h.2.1.c_moved, (h.2.2.cell (p := ⟨w.heap.size, 0, none⟩) (World.block_lt_of_cell? w' _ hc1) hgane).trans hc1, (h.2.2.cell (p := ⟨w.heap.size, 1, none⟩) (World.block_lt_of_cell? w' _ hc2) hgane).trans hc2⟩ :
      (∃ u, e = .returned u) ∧ QAt lo H hb ga ca (.slice (some ⟨gv, 0, none⟩) M.length cap) (M.set k (a, b)) (ats.set a.toNat k) w3 ∧ Only (fun j => j = ga) w' w3 ∧ w3.cell? ⟨H, 2, none⟩ = some (.func (.func 40) #[] #[.pointer (some ⟨hb, 0, none⟩)]) ∧ w3.cell? ⟨w.heap.size, 0, none⟩ = some (.int .i64 a) ∧ w3.cell? ⟨w.heap.size, 1, none⟩ = some (.int .i64 b)))
  have HF : Hid (∀ j, j = ga → Ft H ga (.slice (some ⟨gv, 0, none⟩) M.length cap) j) := fun j hj => .inr (.inl hj)
  clear h0 h1
  go_wp2
  go_region_held3 (fun w' => w'.cell? ⟨H, 2, none⟩ = some (.func (.func 40) #[] #[.pointer (some ⟨hb, 0, none⟩)]) ∧ w'.cell? ⟨w.heap.size, 0, none⟩ = some (.int .i64 a) ∧ w'.cell? ⟨w.heap.size, 1, none⟩ = some (.int .i64 b)) (go_keep) (first | (go_at_call 40; refine (HM.out _ ?_ ?_ ?_).mono ?_; (exact HQ2.out.drew); (simp [*]); (simp [*]); rintro e w3 ⟨⟨u, rfl⟩, hq3, ho3, k1, k2, k3⟩; (have HQ3 := Lib.hid hq3; have HO3 := Lib.hid ho3; clear hq3 ho3)))
  go_end0
  exact ⟨⟨_, rfl⟩, HQ3.out, HO2.out.drew.trans HO3.out (fun j _ hj => HF.out j hj)⟩

end Hp
end Go.Proofs.Ytkmgpajodbadmaa
