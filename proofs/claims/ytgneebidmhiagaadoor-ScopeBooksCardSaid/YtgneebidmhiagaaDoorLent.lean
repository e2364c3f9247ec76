/- lineagekit.FullTexts, LentTexts, KeptTexts, KeptFullTexts: of any list of texts. -/
import Derived.Test.YtgneebidmhiagaaDoorMark
import Derived.Test.YtgneebidmhiagaaDoorTexts
import Derived.Test.YtgneebidmhiagaaDoorGrow
namespace Go.Proofs.YtgneebidmhiagaaDoor
open Go.RowKit Go.Proofs.Ar
set_option linter.unusedVariables false
namespace Lt

/-- The first k marks behind a lent list. -/
def mks (k : Nat) : List ByteArray := (List.range k).map (markB 90)
theorem mks_len (k : Nat) : (mks k).length = k := by simp [mks]
theorem mks_succ (k : Nat) : mks (k + 1) = mks k ++ [markB 90 k] := by simp [mks, List.range_succ]
theorem mks_at {k j : Nat} (h : j < k) : (mks k)[j]? = some (markB 90 j) := by simp [mks, h]

set_option maxHeartbeats 1000000 in
theorem markText_neg (i : Int) (h0 : -140737488355328 ≤ i) (h1 : i < 1099511627776) (w : World) :
    Calls Tryd.prog 50 #[.int .i64 90, .int .i64 i] w fun e w' => ∃ s, e = .returned (.string s) ∧ Below w.heap.size w w' := by
  have hcv := conv_five w 35 90 0 (i % 256) (i / 256 % 256)
  have hbl : Below w.heap.size w (w.alloc (.cells #[.int .u8 35, .int .u8 90, .int .u8 0, .int .u8 (i % 256), .int .u8 (i / 256 % 256)] 5)) := (Below.refl _ _).alloc (Nat.le_refl _) _
  go_enter Tryd.func50, Tryd.ntmps50
  go_wp2
  go_ret
  exact ⟨_, rfl, hbl⟩

set_option maxHeartbeats 1000000 in
theorem markTexts_neg (i : Int) (h0 : -140737488355328 ≤ i) (h1 : i < 1099511627776) (w : World) :
    Calls Tryd.prog 38 #[.int .i64 90, .int .i64 i] w fun e w' => ∃ s, e = .returned (.string s) ∧ Below w.heap.size w w' := by
  have hm := Lib.hid (markText_neg i h0 h1 w)
  clear h0 h1
  go_enter Tryd.func38, Tryd.ntmps38
  go_wp2_with fail
  refine hm.out.mono ?_
  rintro e w1 ⟨s, rfl, hb⟩
  go_wp2
  go_ret
  exact ⟨s, rfl, hb⟩

def F1 (ls : List ByteArray) (w : World) (l i : Value) (wr : World) : Prop :=
  ∃ k : Nat, k ≤ ls.length ∧ i = .int .i64 k ∧ wr.ownsRow w.heap.size 9 1 l k ((ls.take k).map Value.string) ∧ Below w.heap.size w wr
def F2 (ls : List ByteArray) (w : World) (l i : Value) (wr : World) : Prop :=
  ∃ k : Nat, k ≤ 16 ∧ i = .int .i64 k ∧ wr.ownsRow w.heap.size 9 1 l (ls.length + k) ((ls ++ mks k).map Value.string) ∧ Below w.heap.size w wr

theorem F1.push {ls : List ByteArray} {k : Nat} {w wr w1 : World} {l v' : Value} {o : Obj} (hk : k < ls.length) (hbl : Below w.heap.size w wr)
    (hown : wr.ownsRow w.heap.size 9 1 l k ((ls.take k).map Value.string))
    (hown' : w1.ownsRow w.heap.size 9 1 v' (k + 1) ((ls.take k).map Value.string ++ [.string ls[k]])) (hgrow : (wr.alloc o).grownBy w1 l.ownBlock) : F1 ls w v' (.int .i64 ((k : Int) + 1)) w1 := by
  refine ⟨k + 1, by omega, by go_num, ?_, Ut.below_app hbl hbl.size hown hgrow⟩
  rw [List.take_succ_eq_append_getElem hk, List.map_append]
  exact hown'
theorem F2.push {ls : List ByteArray} {k : Nat} {w wr w1 : World} {l v' : Value} {o : Obj} (hk : k < 16) (hbl : Below w.heap.size w wr)
    (hown : wr.ownsRow w.heap.size 9 1 l (ls.length + k) ((ls ++ mks k).map Value.string))
    (hown' : w1.ownsRow w.heap.size 9 1 v' (ls.length + k + 1) ((ls ++ mks k).map Value.string ++ [.string (markB 90 k)])) (hgrow : (wr.alloc o).grownBy w1 l.ownBlock) : F2 ls w v' (.int .i64 ((k : Int) + 1)) w1 := by
  refine ⟨k + 1, by omega, by go_num, ?_, Ut.below_app hbl hbl.size hown hgrow⟩
  rw [mks_succ]
  simpa [Nat.add_assoc] using hown'

set_option maxRecDepth 100000 in
set_option maxHeartbeats 4000000 in
theorem full_any (v : Value) (ls : List ByteArray) (hl : (ls.length + 16) * 16 ≤ 140737488355328) (w : World) (ht : TextArg w v ls) :
    Calls Tryd.prog 34 #[v] w fun e w' => ∃ v', e = .returned v' ∧ w'.ownsRow w.heap.size 9 1 v' (ls.length + 16) ((ls ++ mks 16).map Value.string) ∧ Below w.heap.size w w' := by
  obtain ⟨q, c, rfl, h1⟩ := ht
  have H1 := Lib.hid h1
  obtain ⟨i0, hi, hz0, hz1, hz2⟩ := info_parts mk_info
  clear h1
  have b0 : (ls.length : Int) ≤ 8796093022192 := by omega
  go_enter Tryd.func34, Tryd.ntmps34
  go_wp2
  go_loopw [3, 4] (fun l i wr => F1 ls w l i wr) (fun _ i _ => ls.length - (intOf i).toNat)
  case atStart => exact ⟨0, Nat.zero_le _, rfl, World.ownsRow_nil _ _ _ _, Below.refl _ _⟩
  case round =>
    obtain ⟨k, hk, rfl, hown, hbl⟩ := hrel
    have HO := Lib.hid hown; have HBL := Lib.hid hbl
    have hzw : w.heap.size ≤ wr.heap.size := hbl.size
    clear hown hbl
    have b2 : (0 : Int) ≤ (k : Int) := by omega
    by_cases h : k < ls.length
    · have b3 : (k : Int) < (ls.length : Int) := by omega
      obtain ⟨g1, o1, rfl, hg1, k1⟩ := H1.out k h
      have k1' : wr.cell? ⟨g1, o1 + k, none⟩ = some (.string ls[k]) := (HBL.out.cell (p := ⟨g1, o1 + k, none⟩) hg1).trans k1
      have am1 : k + 1 ≤ maxLen := by unfold maxLen; omega
      have am2 : (k + 1) * 16 ≤ 140737488355328 := by omega
      clear k1
      go_wp2_with (at_builtin; refine wpList_append_own _ rfl _ _ 22 rfl w.heap.size 9 i0 (.string ByteArray.empty) 1 16 Tryd.underlying22 hi hz0 hz1 hz2 rfl (by decide) _ _ _ rfl (HO.out.alloc _) ⟨wr.heap.size, 0, none⟩ 1 1 [.string ls[k]] rfl rfl (cell_one_new _ _ _) (by intro u hu; simp at hu; subst hu; rfl) am1 am2 (by simp; exact Nat.le_succ_of_le hzw) ?_; intro v' w1 hown' hgrow _)
      have HU := Lib.hid (F1.push h HBL.out HO.out hown' hgrow)
      clear hown' hgrow
      go_wp2
      go_roundw
      case rel => exact HU.out
      case measure => simp [intOf]; omega
    · have hkl : k = ls.length := by omega
      have b3 : (ls.length : Int) ≤ (k : Int) := by omega
      have HS : Hid (F2 ls w u3 (.int .i64 0) wr) := ⟨0, Nat.zero_le _, rfl, by have := HO.out; rw [hkl, List.take_length] at this; simpa [mks] using this, HBL.out⟩
      clear hkl
      go_wp2
      go_loopw [3, 5] (fun l i wr => F2 ls w l i wr) (fun _ i _ => 16 - (intOf i).toNat)
      case atStart => exact HS.out
      case round =>
        obtain ⟨m, hm, rfl, hown, hbl⟩ := hrel
        have HO2 := Lib.hid hown; have HBL2 := Lib.hid hbl
        have hzw2 : w.heap.size ≤ wr.heap.size := hbl.size
        clear hown hbl
        have b5 : (0 : Int) ≤ (m : Int) := by omega
        by_cases h2 : m < 16
        · have b6 : (m : Int) < 16 := by omega
          have hmt := Lib.hid (fun w' => markTexts_any 90 m (by omega) (by omega) w')
          have am1 : ls.length + m + 1 ≤ maxLen := by unfold maxLen; omega
          have am2 : (ls.length + m + 1) * 16 ≤ 140737488355328 := by omega
          go_wp2_with fail
          refine (hmt.out _).mono ?_
          rintro e w2 ⟨rfl, hb2⟩
          have HBL3 := Lib.hid (HBL2.out.trans (hb2.mono hzw2))
          have HO3 := Lib.hid (Ut.own_below HO2.out hb2)
          have hzw3 : w.heap.size ≤ w2.heap.size := HBL3.out.size
          clear hb2
          go_wp2_with (at_builtin; refine wpList_append_own _ rfl _ _ 22 rfl w.heap.size 9 i0 (.string ByteArray.empty) 1 16 Tryd.underlying22 hi hz0 hz1 hz2 rfl (by decide) _ _ _ rfl (HO3.out.alloc _) ⟨w2.heap.size, 0, none⟩ 1 1 [.string (markB 90 m)] rfl rfl (cell_one_new _ _ _) (by intro u hu; simp at hu; subst hu; rfl) am1 am2 (by simp; exact Nat.le_succ_of_le hzw3) ?_; intro v' w1 hown' hgrow _)
          have HU := Lib.hid (F2.push h2 HBL3.out HO3.out hown' hgrow)
          clear hown' hgrow
          go_wp2
          go_roundw
          case rel => exact HU.out
          case measure => simp [intOf]; omega
        · have b6 : (16 : Int) ≤ (m : Int) := by omega
          have hm16 : m = 16 := by omega
          have HR : Hid (wr.ownsRow w.heap.size 9 1 u3 (ls.length + 16) ((ls ++ mks 16).map Value.string)) := by rw [← hm16]; exact HO2
          clear hm16
          go_wp2
          go_ret
          exact ⟨_, rfl, HR.out, HBL2.out⟩

/-- A list that was lent lies in a block of its own, its marks behind it. -/
def Lent (base g c : Nat) (ls : List ByteArray) (w : World) : Prop :=
  w.ownsRow base 9 1 (.slice (some ⟨g, 0, none⟩) (ls.length + 16) c) (ls.length + 16) ((ls ++ mks 16).map Value.string)

theorem Lent.below {base g c : Nat} {ls : List ByteArray} {w w' : World} (h : Lent base g c ls w) (hb : Below w.heap.size w w') : Lent base g c ls w' := Ut.own_below h hb
theorem Lent.cells {base g c : Nat} {ls : List ByteArray} {w : World} (h : Lent base g c ls w) : base ≤ g ∧ g < w.heap.size ∧ ls.length + 16 ≤ c ∧ c ≤ maxLen ∧ (∀ j, j < ls.length + 16 → w.cell? ⟨g, j, none⟩ = ((ls ++ mks 16).map Value.string)[j]?) ∧ ∀ j, w.frozen? ⟨g, j, none⟩ = false := by
  obtain ⟨g', c', e, h1, h2, h3, h4, h5⟩ := Ut.own_cells h (by omega)
  obtain ⟨rfl, rfl⟩ : g = g' ∧ c = c' := by simpa using e
  exact ⟨h3, h4, h1, h2, h5, fun j => World.ownsRow.frozenAt h j⟩
theorem Lent.texts {base g c : Nat} {ls : List ByteArray} {w : World} (h : Lent base g c ls w) : TextArg w (.slice (some ⟨g, 0, none⟩) ls.length c) ls := by
  obtain ⟨h1, h2, _, _, h3, _⟩ := h.cells
  refine ⟨_, c, rfl, fun j hj => ⟨g, 0, rfl, h2, ?_⟩⟩
  rw [Nat.zero_add, h3 j (by omega), List.map_append, List.getElem?_append_left (by simpa using hj)]
  simp [hj]
theorem Lent.whole {base g c : Nat} {ls : List ByteArray} {w : World} (h : Lent base g c ls w) : TextArg w (.slice (some ⟨g, 0, none⟩) (ls.length + 16) c) (ls ++ mks 16) := by
  obtain ⟨h1, h2, _, _, h3, _⟩ := h.cells
  have e : (ls ++ mks 16).length = ls.length + 16 := by rw [List.length_append, mks_len]
  refine ⟨some ⟨g, 0, none⟩, c, by rw [e], fun j hj => ⟨g, 0, rfl, h2, ?_⟩⟩
  rw [Nat.zero_add, h3 j (by omega), List.getElem?_map, List.getElem?_eq_getElem hj]
  rfl

set_option maxHeartbeats 2000000 in
theorem lent_any (v : Value) (ls : List ByteArray) (hl : (ls.length + 16) * 16 ≤ 140737488355328) (w : World) (ht : TextArg w v ls) :
    Calls Tryd.prog 11 #[v] w fun e w' => ∃ g c, e = .returned (.slice (some ⟨g, 0, none⟩) ls.length c) ∧ Lent w.heap.size g c ls w' ∧ Below w.heap.size w w' := by
  have HF := Lib.hid (full_any v ls hl w ht)
  obtain ⟨q, cq, rfl, -⟩ := ht
  have b0 : (ls.length : Int) ≤ 8796093022192 := by omega
  clear hl
  go_enter Tryd.func11, Tryd.ntmps11
  go_wp2_with fail
  refine HF.out.mono ?_
  rintro e w1 ⟨v', rfl, h1, hb⟩
  obtain ⟨g, c, rfl, h2, h3, h4, h5, h6⟩ := Ut.own_cells h1 (by omega)
  have HL : Hid (Lent w.heap.size g c ls w1) := h1
  have c1 : (ls.length : Int) ≤ (c : Int) := by omega
  have c2 : (0 : Int) ≤ (ls.length : Int) := by omega
  clear h1 h2 h3 h4 h5 h6
  go_wp2
  go_ret
  exact ⟨g, c, rfl, HL.out, hb⟩

theorem all_at {ls : List ByteArray} {k : Nat} (h : k < (ls ++ mks 16).length) : (ls ++ mks 16)[k] = if h2 : k < ls.length then ls[k] else markB 90 (k - ls.length) := by
  rw [List.getElem_append]
  split
  · rfl
  · simp [mks]

set_option maxHeartbeats 4000000 in
theorem keptFull_any (v u : Value) (ls : List ByteArray) (hl : (ls.length + 16) * 16 ≤ 140737488355328) (w : World) (h1 : TextArg w v (ls ++ mks 16)) (h2 : TextArg w u ls) :
    Calls Tryd.prog 37 #[v, u] w fun e w' => e = .returned (.bool true) ∧ Below w.heap.size w w' := by
  have hlen : (ls ++ mks 16).length = ls.length + 16 := by rw [List.length_append, mks_len]
  obtain ⟨p, cp, rfl, h1⟩ := h1
  obtain ⟨q, cq, rfl, h2⟩ := h2
  rw [hlen]
  have H1 := Lib.hid h1; have H2 := Lib.hid h2
  have HLN := Lib.hid hlen
  clear h1 h2 hlen
  have b0 : (ls.length : Int) ≤ 8796093022192 := by omega
  have e0 : (((ls.length + 16 : Nat) : Int) != (ls.length : Int) + 16) = false := by rw [bne_eq_false_iff_eq]; omega
  have b1 : ((ls.length + 16 : Nat) : Int) ≤ 8796093022208 := by omega
  obtain ⟨n, hn⟩ : ∃ n, n = ls.length + 16 := ⟨_, rfl⟩
  have hn2 : ls.length ≤ n := by omega
  have HN := Lib.hid hn
  rw [← hn] at e0 b1 ⊢
  clear hl hn
  go_enter Tryd.func37, Tryd.ntmps37
  go_wp2
  go_loopw [5, 6] (fun i _ wr => ∃ k : Nat, k ≤ n ∧ i = .int .i64 k ∧ Below w.heap.size w wr) (fun i _ _ => n - (intOf i).toNat)
  case atStart => exact ⟨0, Nat.zero_le _, rfl, Below.refl _ _⟩
  case round =>
    obtain ⟨k, hk, rfl, hbl⟩ := hrel
    have HBL := Lib.hid hbl
    clear hbl
    have b2 : (0 : Int) ≤ (k : Int) := by omega
    by_cases h : k < n
    · have b3 : (k : Int) < (n : Int) := by omega
      have hk1 : k < (ls ++ mks 16).length := by rw [HLN.out, ← HN.out]; exact h
      obtain ⟨g1, o1, rfl, hg1, k1⟩ := H1.out k hk1
      rw [all_at hk1] at k1
      by_cases hs : k < ls.length
      · rw [dif_pos hs] at k1
        obtain ⟨g2, o2, rfl, hg2, k2⟩ := H2.out k hs
        have HC : Hid (∀ w', Below w.heap.size w w' → w'.cell? ⟨g1, o1 + k, none⟩ = some (.string ls[k]) ∧ w'.cell? ⟨g2, o2 + k, none⟩ = some (.string ls[k])) := fun w' hb => ⟨(hb.cell (p := ⟨g1, o1 + k, none⟩) hg1).trans k1, (hb.cell (p := ⟨g2, o2 + k, none⟩) hg2).trans k2⟩
        have b4 : (k : Int) < (ls.length : Int) := by omega
        have hmt := Lib.hid (fun w' => markTexts_neg ((k : Int) - (ls.length : Int)) (by omega) (by omega) w')
        obtain ⟨s, hs2⟩ : ∃ s, s = ls[k] := ⟨_, rfl⟩
        rw [← hs2] at HC
        have hq : (s.toList == s.toList) = true := by simp
        clear k1 k2 hs2 hk1
        go_wp2_with fail
        refine (hmt.out _).mono ?_
        rintro e w2 ⟨s2, rfl, hb2⟩
        have HB2 := Lib.hid (HBL.out.trans (hb2.mono HBL.out.size))
        obtain ⟨k1, k2⟩ := HC.out _ HB2.out
        clear hb2
        go_wp2
        go_roundw
        case rel => exact ⟨k + 1, by omega, by go_num, HB2.out⟩
        case measure => simp [intOf]; omega
      · rw [dif_neg hs] at k1
        have HC : Hid (∀ w', Below w.heap.size w w' → w'.cell? ⟨g1, o1 + k, none⟩ = some (.string (markB 90 (k - ls.length)))) := fun w' hb => (hb.cell (p := ⟨g1, o1 + k, none⟩) hg1).trans k1
        have b4 : (ls.length : Int) ≤ (k : Int) := by omega
        have hkn : k < ls.length + 16 := by rw [← HN.out]; exact h
        have e1 : (k : Int) - (ls.length : Int) = ((k - ls.length : Nat) : Int) := by omega
        have hmt := Lib.hid (fun w' => markTexts_any 90 (k - ls.length) (by omega) (by omega) w')
        rw [← e1] at hmt
        obtain ⟨s, hs2⟩ : ∃ s, s = markB 90 (k - ls.length) := ⟨_, rfl⟩
        rw [← hs2] at HC hmt
        have hq : (s.toList == s.toList) = true := by simp
        clear k1 hs2 hk1 hkn e1 hs
        go_wp2_with fail
        refine (hmt.out _).mono ?_
        rintro e w2 ⟨rfl, hb2⟩
        have HB2 := Lib.hid (HBL.out.trans (hb2.mono HBL.out.size))
        have k1 := HC.out _ HB2.out
        clear hb2
        go_wp2
        go_roundw
        case rel => exact ⟨k + 1, by omega, by go_num, HB2.out⟩
        case measure => simp [intOf]; omega
    · have b3 : (n : Int) ≤ (k : Int) := by omega
      go_wp2
      go_ret
      exact ⟨rfl, HBL.out⟩

set_option maxHeartbeats 2000000 in
theorem kept_any (base g c : Nat) (u : Value) (ls : List ByteArray) (hl : (ls.length + 16) * 16 ≤ 140737488355328) (w : World) (h1 : Lent base g c ls w) (h2 : TextArg w u ls) :
    Calls Tryd.prog 14 #[.slice (some ⟨g, 0, none⟩) ls.length c, u] w fun e w' => e = .returned (.bool true) ∧ Below w.heap.size w w' := by
  have HF := Lib.hid (keptFull_any _ u ls hl w h1.whole h2)
  obtain ⟨-, -, h3, h4, -, -⟩ := h1.cells
  obtain ⟨q, cq, rfl, -⟩ := h2
  have b0 : (ls.length : Int) ≤ 8796093022192 := by omega
  have e0 : ((ls.length : Int) != (ls.length : Int)) = false := by simp
  have c0 : (0 : Int) ≤ (ls.length : Int) + 16 := by omega
  have c1 : (ls.length : Int) + 16 ≤ (c : Int) := by omega
  have e1 : ((ls.length : Int) + 16).toNat = ls.length + 16 := by omega
  clear hl h3 h4 h1
  go_enter Tryd.func14, Tryd.ntmps14
  go_wp2_with fail
  refine HF.out.mono ?_
  rintro e w1 ⟨rfl, hb⟩
  go_wp2
  go_ret
  exact ⟨rfl, hb⟩

end Lt
end Go.Proofs.YtgneebidmhiagaaDoor
