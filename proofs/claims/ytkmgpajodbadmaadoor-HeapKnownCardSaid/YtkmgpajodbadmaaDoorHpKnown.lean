/- The law HeapKnown: knownEnds, knownRows. -/
import Derived.Test.YtkmgpajodbadmaaDoorHpPlays
import Derived.Test.YtkmgpajodbadmaaDoorHpOrder
import Derived.Test.YtkmgpajodbadmaaDoorHpLast
import Derived.Test.YtkmgpajodbadmaaDoorLit
namespace Go.Proofs.YtkmgpajodbadmaaDoor
open Go.RowKit Go.Proofs.Ar
set_option linter.unusedVariables false
namespace Hp

def encT (x : Tri) : List Value := [.int .i64 x.1, .int .i64 x.2.1, .int .i64 x.2.2]
def encTs (L : List Tri) : List Value := L.flatMap encT
theorem encTs_len (L : List Tri) : (encTs L).length = L.length * 3 := by
  induction L with
  | nil => rfl
  | cons a r ih => simp [encTs, encT] at ih ⊢; omega
theorem encTs_cons (a : Tri) (r : List Tri) : encTs (a :: r) = .int .i64 a.1 :: .int .i64 a.2.1 :: .int .i64 a.2.2 :: encTs r := rfl
theorem encTs_app (L M : List Tri) : encTs (L ++ M) = encTs L ++ encTs M := by simp [encTs]
theorem encTs_one (L : List Tri) : ∀ u ∈ encTs L, u.oneCell' = true := by
  intro u hu
  unfold encTs at hu
  obtain ⟨x, -, hx⟩ := List.mem_flatMap.1 hu
  simp [encT] at hx
  rcases hx with rfl | rfl | rfl <;> rfl
theorem encTs_at : ∀ (L : List Tri) (k : Nat) (h : k < L.length), (encTs L)[k * 3]? = some (.int .i64 L[k].1) ∧ (encTs L)[k * 3 + 1]? = some (.int .i64 L[k].2.1) ∧ (encTs L)[k * 3 + 2]? = some (.int .i64 L[k].2.2)
  | a :: r, 0, _ => ⟨rfl, rfl, rfl⟩
  | a :: r, k + 1, h => by
    have ih := encTs_at r k (by simpa using h)
    rw [encTs_cons, show (k + 1) * 3 = k * 3 + 1 + 1 + 1 by omega]
    exact ⟨by simpa using ih.1, by simpa using ih.2.1, by simpa using ih.2.2⟩
theorem lit_acts (w : World) (ps : List Tri) (t : TypeId) : TriArg (w.alloc (.cells (encTs ps).toArray t)) (.slice (some ⟨w.heap.size, 0, none⟩) ps.length ps.length) ps :=
  ⟨_, ps.length, rfl, fun j hj => ⟨w.heap.size, 0, rfl, by simp, by
    have h := encTs_at ps j hj
    refine ⟨?_, ?_, ?_⟩ <;> rw [cell_of_row _ _ _ _ _ _ (Ut.alloc_at w (.cells (encTs ps).toArray t))]
    · simpa using h.1
    · simpa using h.2.1
    · simpa using h.2.2⟩⟩
theorem own_acts {w : World} {base n : Nat} {v : Value} {ps : List Tri} (hn : n = ps.length) (h : w.ownsRow base 38 3 v n (encTs ps)) : TriArg w v ps := by
  subst hn
  rcases h.2 with ⟨rfl, h0⟩ | ⟨gg, cap, cur, rfl, h3, h4, h5, h6, h7, h8⟩
  · have e : ps = [] := List.eq_nil_of_length_eq_zero h0
    subst e
    exact ⟨none, 0, rfl, fun j hj => absurd hj (Nat.not_lt_zero _)⟩
  · refine ⟨_, cap, rfl, fun j hj => ⟨gg, 0, rfl, (Array.getElem?_eq_some_iff.1 h4).1, ?_⟩⟩
    have e := encTs_at ps j hj
    have hc : ∀ k, k < ps.length * 3 → w.cell? ⟨gg, k, none⟩ = (encTs ps)[k]? := fun k hk => World.ownsRow.cellAt (w := w) ⟨h.1, .inr ⟨gg, cap, cur, rfl, h3, h4, h5, h6, h7, h8⟩⟩ k hk
    rw [← e.1, ← e.2.1, ← e.2.2, Nat.zero_add]
    exact ⟨hc _ (by omega), hc _ (by omega), hc _ (by omega)⟩
theorem act_info : (Tryd.prog.info? 38).map (fun i => (i.zero, i.size, i.bytes)) = some (some (.agg #[.int .i64 0, .int .i64 0, .int .i64 0]), 3, 24) := by kernel_rfl
theorem nil_acts (w : World) : TriArg w (.slice none 0 0) [] := ⟨none, 0, rfl, fun j hj => absurd hj (Nat.not_lt_zero _)⟩

theorem bel_drew {a w : World} (h : Below a.heap.size a w) : Below a.heap.size a w.drew := h.drew
theorem bel_alloc {a w : World} (h : Below a.heap.size a w) (o : Obj) : Below a.heap.size a (w.alloc o) := h.alloc h.size o

def endsL : List Int := [-9223372036854775808, -1, 0, 1, 9223372036854775807]

/-- A call at a literal list that was laid last: it answers true, and leaves all else. -/
theorem ends_plays (n : Int) (x1 x2 x3 x4 : Tri) (w : World) (hg : erHandle w) :
    Calls Tryd.prog 3 #[.int .i64 n, .slice (some ⟨w.heap.size, 0, none⟩) 4 4] (w.alloc (.cells #[.int .i64 x1.1, .int .i64 x1.2.1, .int .i64 x1.2.2, .int .i64 x2.1, .int .i64 x2.2.1, .int .i64 x2.2.2, .int .i64 x3.1, .int .i64 x3.2.1, .int .i64 x3.2.2, .int .i64 x4.1, .int .i64 x4.2.1, .int .i64 x4.2.2] 38)) fun e w' => e = .returned (.bool true) ∧ Below w.heap.size w w' :=
  (heapPlays_core n _ [x1, x2, x3, x4] (by simp) _ (hg.below hg.lt ((Below.refl _ _).alloc (Nat.le_refl _) _)) (lit_acts w [x1, x2, x3, x4] 38)).mono fun e w' h => ⟨h.1, ((Below.refl _ w).alloc (Nat.le_refl _) _).trans (h.2.mono (by simp))⟩
theorem ends_taken (x1 x2 x3 : It) (w : World) :
    Calls Tryd.prog 44 #[.slice (some ⟨w.heap.size, 0, none⟩) 3 3] (w.alloc (.cells #[.int .i64 x1.1, .int .i64 x1.2, .int .i64 x2.1, .int .i64 x2.2, .int .i64 x3.1, .int .i64 x3.2] 96)).drew fun e w' => e = .returned (.bool true) ∧ Below w.heap.size w w' :=
  (heapTaken_core _ [x1, x2, x3] (by simp) _ ((lit_pairs w [x1, x2, x3] 96).below ((Below.refl _ _).drew))).mono fun e w' h => ⟨h.1, (((Below.refl _ w).alloc (Nat.le_refl _) _).drew).trans (h.2.mono (by simp))⟩

def EndRel (w0 : World) (g : Nat) (B : Nat) (i : Value) (wr : World) : Prop := ∃ k : Nat, k ≤ 5 ∧ i = .int .i64 k ∧ LitAt wr g (endsL.map (Value.int .i64)) ∧ Below B w0 wr

set_option maxRecDepth 100000 in
set_option maxHeartbeats 4000000 in
theorem knownEnds_any (w : World) (hg : erHandle w) : Calls Tryd.prog 21 #[] w fun e w' => e = .returned (.bool true) ∧ Below w.heap.size w w' := by
  have HG := Lib.hid hg
  have hl0 := lit0 w (endsL.map (Value.int .i64)) 3
  have hb0 : Below w.heap.size w (w.alloc (.cells (endsL.map (Value.int .i64)).toArray 3)) := (Below.refl _ _).alloc (Nat.le_refl _) _
  have hst : EndRel w w.heap.size w.heap.size (.int .i64 (0 : Nat)) (w.alloc (.cells (endsL.map (Value.int .i64)).toArray 3)) := ⟨0, by omega, rfl, hl0, hb0⟩
  have HST := Lib.hid hst
  clear hl0 hb0 hst hg
  go_enter Tryd.func21, Tryd.ntmps21
  go_wp2
  go_loopw [2] (fun i wr => EndRel w w.heap.size w.heap.size i wr) (fun i _ => 5 - (intOf i).toNat)
  case atStart => exact HST.out
  case round =>
    obtain ⟨k, hk, rfl, hl, hb⟩ := hrel
    have HL := Lib.hid hl; have HB := Lib.hid hb
    clear hl hb
    have b1 : (0 : Int) ≤ (k : Int) := by omega
    by_cases h : k < 5
    · have b2 : (k : Int) < 5 := by omega
      have hst2 : EndRel w w.heap.size w.heap.size (.int .i64 (0 : Nat)) wr := ⟨0, by omega, rfl, HL.out, HB.out⟩
      have HST2 := Lib.hid hst2
      clear hst2 h
      go_wp2
      go_loopw [3] (fun j wr => EndRel w w.heap.size w.heap.size j wr) (fun j _ => 5 - (intOf j).toNat)
      case atStart => exact HST2.out
      case round =>
        obtain ⟨j, hj, rfl, hl2, hb2⟩ := hrel
        have HL2 := Lib.hid hl2; have HB2 := Lib.hid hb2
        have c1 : (0 : Int) ≤ (j : Int) := by omega
        by_cases h : j < 5
        · have c2 : (j : Int) < 5 := by omega
          have HJ := Lib.hid h
          have k1 := hl2.get (k := k) (show k < endsL.length by show k < 5; omega) 0
          have k2 := hl2.get (k := j) (show j < endsL.length by show j < 5; omega) 0
          have hgl := hl2.lt
          obtain ⟨e1, he1⟩ : ∃ e1, e1 = endsL.getD k 0 := ⟨_, rfl⟩
          obtain ⟨e2, he2⟩ : ∃ e2, e2 = endsL.getD j 0 := ⟨_, rfl⟩
          rw [← he1] at k1
          rw [← he2] at k2
          have HKEEP : Hid (∀ w1 w2, (w1.cell? ⟨w.heap.size, k, none⟩ = some (.int .i64 e1) ∧ w1.cell? ⟨w.heap.size, j, none⟩ = some (.int .i64 e2) ∧ Below wr.heap.size wr w1) → Below w1.heap.size w1 w2 → (w2.cell? ⟨w.heap.size, k, none⟩ = some (.int .i64 e1) ∧ w2.cell? ⟨w.heap.size, j, none⟩ = some (.int .i64 e2) ∧ Below wr.heap.size wr w2)) := fun w1 w2 h1 h2 =>
            ⟨(h2.cell (p := ⟨w.heap.size, k, none⟩) (World.block_lt_of_cell? w1 _ h1.1)).trans h1.1, (h2.cell (p := ⟨w.heap.size, j, none⟩) (World.block_lt_of_cell? w1 _ h1.2.1)).trans h1.2.1, h1.2.2.trans (h2.mono h1.2.2.size)⟩
          have HTK := Lib.hid (fun w' (hs : w'.cell? ⟨w.heap.size, k, none⟩ = some (.int .i64 e1) ∧ w'.cell? ⟨w.heap.size, j, none⟩ = some (.int .i64 e2) ∧ Below wr.heap.size wr w') =>
            (ends_taken (1, e1) (2, e2) (3, 0) w').mono fun e w2 h2 => (⟨h2.1, HKEEP.out w' w2 hs h2.2⟩ : e = .returned (.bool true) ∧ (w2.cell? ⟨w.heap.size, k, none⟩ = some (.int .i64 e1) ∧ w2.cell? ⟨w.heap.size, j, none⟩ = some (.int .i64 e2) ∧ Below wr.heap.size wr w2)))
          have HHG := Lib.hid (fun w' (hs : w'.cell? ⟨w.heap.size, k, none⟩ = some (.int .i64 e1) ∧ w'.cell? ⟨w.heap.size, j, none⟩ = some (.int .i64 e2) ∧ Below wr.heap.size wr w') => HG.out.below HG.out.lt (HB2.out.trans (hs.2.2.mono HB2.out.size)))
          have HPY := Lib.hid (fun w' (hs : w'.cell? ⟨w.heap.size, k, none⟩ = some (.int .i64 e1) ∧ w'.cell? ⟨w.heap.size, j, none⟩ = some (.int .i64 e2) ∧ Below wr.heap.size wr w') =>
            (ends_plays 3 (0, e1, e2) (2, e2, 0) (0, 1, e1) (0, 2, e2) w' (HHG.out w' hs)).mono fun e w2 h2 => (⟨h2.1, HKEEP.out w' w2 hs h2.2⟩ : e = .returned (.bool true) ∧ (w2.cell? ⟨w.heap.size, k, none⟩ = some (.int .i64 e1) ∧ w2.cell? ⟨w.heap.size, j, none⟩ = some (.int .i64 e2) ∧ Below wr.heap.size wr w2)))
          have HPN := Lib.hid (fun w' (hs : w'.cell? ⟨w.heap.size, k, none⟩ = some (.int .i64 e1) ∧ w'.cell? ⟨w.heap.size, j, none⟩ = some (.int .i64 e2) ∧ Below wr.heap.size wr w') =>
            (heapPlays_core e1 _ [] (by decide) w' (HHG.out w' hs) (nil_acts w')).mono fun e w2 h2 => (⟨h2.1, HKEEP.out w' w2 hs h2.2⟩ : e = .returned (.bool true) ∧ (w2.cell? ⟨w.heap.size, k, none⟩ = some (.int .i64 e1) ∧ w2.cell? ⟨w.heap.size, j, none⟩ = some (.int .i64 e2) ∧ Below wr.heap.size wr w2)))
          have hbd : Below wr.heap.size wr wr.drew := (Below.refl _ _).drew
          clear hl2 hb2 hgl he1 he2 h hj
          go_wp2
          go_region_held3 (fun w' => w'.cell? ⟨w.heap.size, k, none⟩ = some (.int .i64 e1) ∧ w'.cell? ⟨w.heap.size, j, none⟩ = some (.int .i64 e2) ∧ Below wr.heap.size wr w') (simp [*, World.cell?_alloc_some, bel_alloc, bel_drew, Below.refl]) (first
            | (go_at_call 44; (with_reducible refine (HTK.out _ ?_).mono ?_); (simp [*, Below.refl]); rintro e w3 ⟨rfl, n1, n2, n3⟩)
            | (go_at_call 3; (with_reducible refine (HPY.out _ ?_).mono ?_); (simp [*]); rintro e w4 ⟨rfl, n4, n5, n6⟩)
            | (go_at_call 3; (with_reducible refine (HPN.out _ ?_).mono ?_); (simp [*]); rintro e w5 ⟨rfl, n7, n8, n9⟩))
          have HN9 := Lib.hid n9
          clear n9
          go_wp2
          go_roundw
          case rel => exact ⟨j + 1, by have := HJ.out; omega, by go_num, HL2.out.below HN9.out, HB2.out.trans (HN9.out.mono HB2.out.size)⟩
          case measure => have := HJ.out; simp [intOf]; omega
        · have c2 : (5 : Int) ≤ (j : Int) := by omega
          clear hl2 hb2
          go_wp2
          go_roundw
          case rel => exact ⟨k + 1, by omega, by go_num, HL2.out, HB2.out⟩
          case measure => simp [intOf]; omega
    · have b2 : (5 : Int) ≤ (k : Int) := by omega
      go_wp2
      go_ret
      exact ⟨rfl, HB.out⟩

end Hp
end Go.Proofs.YtkmgpajodbadmaaDoor
