/- The document's heap, lineageref20: New, ahead, Key, Least, Pairs. -/
import Derived.Test.YtkmgpajodbadmaaDoorHpRef
import Derived.Test.YtkmgpajodbadmaaDoorHpPairs
namespace Go.Proofs.YtkmgpajodbadmaaDoor
open Go.RowKit
set_option linter.unusedVariables false
namespace Hp

def RNewPost (n : Nat) (w : World) (e : Ending) (w' : World) : Prop :=
  ∃ r, e = .returned (.tuple #[.pointer (some ⟨r, 0, none⟩), .int .i64 0]) ∧ RefAt w.heap.size r n [] (.slice none 0 0) w' ∧ Below w.heap.size w w'

theorem rnew_any (n : Nat) (h0 : 1 ≤ n) (hn : (n : Int) ≤ 65536) (w : World) : Calls Tryd.prog 7 #[.int .i64 n] w (RNewPost n w) := by
  have b0 : (1 : Int) ≤ (n : Int) := by omega
  have HR : Hid (RNewPost n w (.returned (.tuple #[.pointer (some ⟨w.heap.size, 0, none⟩), .int .i64 0])) (w.alloc (.cells #[.int .i64 n, .slice none 0 0] 43))) :=
    ⟨w.heap.size, rfl, ⟨Ut.alloc_at _ _, World.ownsRow_nil _ _ _ _, Nat.le_refl _⟩, (Below.refl _ _).alloc (Nat.le_refl _) _⟩
  clear h0
  go_enter Tryd.func7, Tryd.ntmps7
  go_wp2
  go_ret2
  exact HR.out

theorem rnew_no (n : Int) (h0 : n < 1 ∨ 65536 < n) (w : World) : Calls Tryd.prog 7 #[.int .i64 n] w fun e w' => e = .returned (.tuple #[.pointer none, .int .i64 1]) ∧ w = w' := by
  by_cases h : n < 1
  · clear h0
    go_enter Tryd.func7, Tryd.ntmps7
    go_wp2
    go_ret2
    exact ⟨rfl, rfl⟩
  · have h1 : 1 ≤ n := by omega
    have h2 : 65536 < n := by omega
    clear h0 h
    go_enter Tryd.func7, Tryd.ntmps7
    go_wp2
    go_ret2
    exact ⟨rfl, rfl⟩

theorem rahead_any (x y : It) (w : World) : Calls Tryd.prog 37 #[.agg #[.int .i64 x.1, .int .i64 x.2], .agg #[.int .i64 y.1, .int .i64 y.2]] w fun e w' => e = .returned (.bool (ahd x y)) ∧ Below w.heap.size w w' := by
  obtain ⟨a, b⟩ := x
  obtain ⟨c, d⟩ := y
  unfold ahd
  simp only
  have HB : Hid (Below w.heap.size w ((w.alloc (.cells #[.int .i64 a, .int .i64 b] 86)).alloc (.cells #[.int .i64 c, .int .i64 d] 86))) := ((Below.refl _ _).alloc (Nat.le_refl _) _).alloc (by simp) _
  by_cases h1 : b < d
  · go_enter Tryd.func37, Tryd.ntmps37
    go_wp2
    go_ret
    exact ⟨by simp [h1], HB.out⟩
  · by_cases h2 : b = d
    · subst h2
      have e1 : (b == b) = true := by simp
      go_enter Tryd.func37, Tryd.ntmps37
      go_wp2
      go_ret
      exact ⟨by simp, HB.out⟩
    · have e1 : (b == d) = false := by simp [h2]
      go_enter Tryd.func37, Tryd.ntmps37
      go_wp2
      go_ret
      exact ⟨by simp [h1], HB.out⟩

/-- The list's shape and one of its items. -/
theorem RefAt.shape {lo r n : Nat} {R : List It} {v : Value} {w : World} (h : RefAt lo r n R v w) : ∃ q c, v = .slice q R.length c := own_any_shape h.row
theorem RefAt.item {lo r n : Nat} {R : List It} {v : Value} {w : World} (h : RefAt lo r n R v w) {k : Nat} (hk : k < R.length) :
    ∃ gv cap, v = .slice (some ⟨gv, 0, none⟩) R.length cap ∧ w.cell? ⟨gv, k * 2, none⟩ = some (.int .i64 (g R k).1) ∧ w.cell? ⟨gv, k * 2 + 1, none⟩ = some (.int .i64 (g R k).2) := by
  obtain ⟨gv, cap, rfl, _, _, _, r4, _⟩ := row_cells h.row rfl (by omega)
  exact ⟨gv, cap, rfl, (r4 k hk).1, (r4 k hk).2⟩

theorem rleast_any (lo r n : Nat) (R : List It) (v : Value) (w : World) (h : RefAt lo r n R v w) :
    Calls Tryd.prog 39 #[.pointer (some ⟨r, 0, none⟩)] w fun e w' => e = .returned (.tuple #[.int .i64 (g R 0).1, .int .i64 (g R 0).2, .bool (decide (0 < R.length))]) ∧ Below w.heap.size w w' := by
  have c1 := h.c_l
  by_cases h0 : R.length = 0
  · obtain ⟨q, c, rfl⟩ := h.shape
    have hr : R = [] := List.eq_nil_of_length_eq_zero h0
    subst hr
    simp only [List.length_nil] at c1
    clear h
    go_enter Tryd.func39, Tryd.ntmps39
    go_wp2
    go_ret3
    exact ⟨rfl, Below.refl _ _⟩
  · obtain ⟨gv, cap, rfl, k1, k2⟩ := h.item (k := 0) (by omega)
    have hd : decide (0 < R.length) = true := by simp; omega
    rw [hd]
    obtain ⟨y, hy⟩ : ∃ y, y = g R 0 := ⟨_, rfl⟩
    rw [← hy] at k1 k2 ⊢
    have e0 : ((R.length : Int) == 0) = false := by rw [beq_eq_false_iff_ne]; omega
    have b1 : (0 : Int) < (R.length : Int) := by omega
    clear h hy h0 hd
    go_enter Tryd.func39, Tryd.ntmps39
    go_wp2
    go_quiet (fail)
    go_wp2
    go_ret3
    exact ⟨rfl, Ut.below_drewN (Below.refl _ _) _⟩

theorem find_next {R : List It} {k : Nat} (h : k < R.length) {i : Int} (hn : ∀ j, j < k → (g R j).1 ≠ i) (e : (g R k).1 = i) : keyOf R i = some (g R k).2 := by
  induction R generalizing k with
  | nil => simp at h
  | cons a r ih =>
    rw [keyOf_cons]
    cases k with
    | zero =>
      have : a.1 = i := e
      rw [if_pos this]; rfl
    | succ k =>
      have h0 : a.1 ≠ i := hn 0 (by omega)
      rw [if_neg h0]
      exact ih (by simpa using h) (fun j hj => hn (j + 1) (by omega)) e

def RKeyRel (R : List It) (i : Int) (w : World) (kv : Value) (wr : World) : Prop :=
  ∃ k : Nat, k ≤ R.length ∧ kv = .int .i64 k ∧ (∀ j, j < k → (g R j).1 ≠ i) ∧ Below w.heap.size w wr

theorem rkey_any (lo r n : Nat) (R : List It) (v : Value) (w : World) (h : RefAt lo r n R v w) (hl : (R.length : Int) ≤ 65536) (i : Int) :
    Calls Tryd.prog 41 #[.pointer (some ⟨r, 0, none⟩), .int .i64 i] w fun e w' => e = .returned (.tuple #[.int .i64 ((keyOf R i).getD 0), .bool (keyOf R i).isSome]) ∧ Below w.heap.size w w' := by
  have HR := Lib.hid h
  obtain ⟨q, c, rfl⟩ := h.shape
  clear h
  go_enter Tryd.func41, Tryd.ntmps41
  go_wp2
  go_loopw [6] (fun i' wr => RKeyRel R i w i' wr) (fun i' _ => R.length - (intOf i').toNat)
  case atStart => exact ⟨0, Nat.zero_le _, rfl, fun j hj => absurd hj (Nat.not_lt_zero _), Below.refl _ _⟩
  case round =>
    obtain ⟨k, hk, rfl, hn, hb⟩ := hrel
    have HN := Lib.hid hn; have HB := Lib.hid hb
    have c1 := (HR.out.below hb).c_l
    by_cases hlt : k < R.length
    · obtain ⟨gv, cap, e, k1, k2⟩ := (HR.out.below hb).item hlt
      obtain ⟨rfl, rfl⟩ : q = some ⟨gv, 0, none⟩ ∧ c = cap := by simpa using e
      have b1 : (0 : Int) ≤ (k : Int) := by omega
      have b2 : (k : Int) < (R.length : Int) := by omega
      have HF := Lib.hid (fun e => find_next hlt HN.out (i := i) e)
      have HNX : Hid ((g R k).1 ≠ i → ∀ j, j < k + 1 → (g R j).1 ≠ i) := fun e j hj => by
        by_cases h2 : j = k
        · rw [h2]; exact e
        · exact HN.out j (by omega)
      obtain ⟨y, hy⟩ : ∃ y, y = g R k := ⟨_, rfl⟩
      rw [← hy] at k1 k2 HF HNX
      clear hn hb hy e
      by_cases hq : y.1 = i
      · have HK := Lib.hid (HF.out hq)
        have e1 : (y.1 == i) = true := by simp [hq]
        clear hq
        go_wp2
        go_ret2
        exact ⟨by rw [HK.out]; rfl, HB.out⟩
      · have HX := Lib.hid (HNX.out hq)
        have e1 : (y.1 == i) = false := by simp [hq]
        clear hq
        go_wp2
        go_roundw
        case rel => exact ⟨k + 1, by omega, by go_num, HX.out, HB.out⟩
        case measure => simp [intOf]; omega
    · have hkl : k = R.length := by omega
      have b2 : (R.length : Int) ≤ (k : Int) := by omega
      have HK : Hid (keyOf R i = none) := keyOf_none fun x hx => by
        obtain ⟨j, hj, e⟩ := g_of_mem hx
        rw [← e]; exact HN.out j (by omega)
      clear hn hb hkl
      go_wp2
      go_ret2
      exact ⟨by rw [HK.out]; rfl, HB.out⟩

def RPairRel (R : List It) (w : World) (lv kv : Value) (wr : World) : Prop :=
  ∃ k : Nat, k ≤ R.length ∧ kv = .int .i64 k ∧ wr.ownsRow w.heap.size 3 1 lv (k * 2) ((flat (R.take k)).map vJ) ∧ Below w.heap.size w wr

set_option maxHeartbeats 2000000 in
theorem rpairs_any (lo r n : Nat) (R : List It) (v : Value) (w : World) (h : RefAt lo r n R v w) (hl : (R.length : Int) ≤ 65536) :
    Calls Tryd.prog 10 #[.pointer (some ⟨r, 0, none⟩)] w fun e w' => ∃ u, e = .returned u ∧ w'.ownsRow w.heap.size 3 1 u (R.length * 2) ((flat R).map vJ) ∧ Below w.heap.size w w' := by
  obtain ⟨i0, hi, hz0, hz1, hz2⟩ := info_parts hpj_info
  have HR := Lib.hid h
  obtain ⟨q, c, rfl⟩ := h.shape
  clear h
  go_enter Tryd.func10, Tryd.ntmps10
  go_wp2
  go_loopw [3, 4] (fun l i wr => RPairRel R w l i wr) (fun _ i _ => R.length - (intOf i).toNat)
  case atStart => exact ⟨0, Nat.zero_le _, rfl, World.ownsRow_nil _ _ _ _, Below.refl _ _⟩
  case round =>
    obtain ⟨k, hk, rfl, hrow, hb⟩ := hrel
    have HB := Lib.hid hb
    have c1 := (HR.out.below hb).c_l
    by_cases hlt : k < R.length
    · obtain ⟨gv, cap, e, k1, k2⟩ := (HR.out.below hb).item hlt
      obtain ⟨rfl, rfl⟩ : q = some ⟨gv, 0, none⟩ ∧ c = cap := by simpa using e
      have b1 : (0 : Int) ≤ (k : Int) := by omega
      have b2 : (k : Int) < (R.length : Int) := by omega
      have hfs : (flat (R.take (k + 1))).map vJ = (flat (R.take k)).map vJ ++ [.int .i64 (g R k).1, .int .i64 (g R k).2] := by rw [take_g hlt, flat_snoc]; simp [vJ]
      have HFS := Lib.hid hfs
      obtain ⟨y, hy⟩ : ∃ y, y = g R k := ⟨_, rfl⟩
      rw [← hy] at k1 k2 HFS
      obtain ⟨K, hK⟩ : ∃ K, K = k * 2 := ⟨_, rfl⟩
      have m1 : K + 2 ≤ maxLen := by unfold maxLen; omega
      have m2 : (K + 2) * 8 ≤ 140737488355328 := by omega
      have hsz := hb.size
      have hrk : wr.ownsRow w.heap.size 3 1 u3 K ((flat (R.take k)).map vJ) := by rw [hK]; exact hrow
      obtain ⟨qa, ra, rfl⟩ := own_any_shape hrk
      have HROW := Lib.hid hrk
      have HK2 : Hid ((k + 1) * 2 = K + 2) := by show _ = _; omega
      have HSZ := Lib.hid hsz
      have vk : IntKind.i64.wrap ((k : Int) + 1) = ((k + 1 : Nat) : Int) := by rw [IntWalk.i64_in _ (by omega)]; rfl
      clear hb hy e hfs hrow hK hrk hsz
      have m3 : w.heap.size ≤ (wr.drew.alloc (.cells #[.int .i64 y.1, .int .i64 y.2] 3)).heap.size := by simp; exact Nat.le_succ_of_le HSZ.out
      go_wp2
      go_region_law (first | (refine step_append_lies _ (by rfl) (.tmp 14) (.tmp 31) 35 (by rfl) w.heap.size 3 i0 (.int .i64 0) 1 8 Tryd.underlying35 hi hz0 hz1 hz2 rfl (by decide) _ _ _ (by rfl) (HROW.out.drew.alloc _) ⟨wr.heap.size, 0, none⟩ 2 2 [.int .i64 y.1, .int .i64 y.2] (by rfl) (by rfl) (World.news_of_block (Ut.alloc_at _ _)) (by intro u hu; simp at hu; rcases hu with rfl | rfl <;> rfl) (by decide) m1 m2 m3 (wr.heap.size + 1) (by simp) ?_; intro gg cap' w1 hown' hgrow hat hlt'))
      all_goals (
        have HBN : Hid (Below w.heap.size w w1) := Ut.below_app HB.out.drew HSZ.out HROW.out.drew hgrow
        have HON : Hid (w1.ownsRow w.heap.size 3 1 (.slice (some ⟨gg, 0, none⟩) (K + 2) cap') ((k + 1) * 2) ((flat (R.take (k + 1))).map vJ)) := by
          show World.ownsRow _ _ _ _ _ _ _
          rw [HK2.out, HFS.out]; exact hown'
        clear hown' hgrow hat hlt'
        go_wp2
        go_roundw
        case rel => exact ⟨k + 1, by omega, by go_num, HON.out, HBN.out⟩
        case measure => simp [intOf]; omega)
    · have hkl : k = R.length := by omega
      subst hkl
      have b2 : (R.length : Int) ≤ (R.length : Int) := by omega
      rw [List.take_length] at hrow
      have HROW := Lib.hid hrow
      clear hb hrow
      go_wp2
      go_ret
      exact ⟨_, rfl, HROW.out, HB.out⟩

end Hp
end Go.Proofs.YtkmgpajodbadmaaDoor
