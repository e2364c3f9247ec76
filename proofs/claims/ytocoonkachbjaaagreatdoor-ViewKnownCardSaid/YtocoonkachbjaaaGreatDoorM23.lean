/- Several texts in one: what each proves its own first comment says. -/
import Derived.Test.YtocoonkachbjaaaGreatDoorM22
import Derived.Deep.CutRange
import Derived.Test.YtocoonkachbjaaaGreatDoorM19
import Derived.Lib.ItoaNum
import Derived.Test.YtocoonkachbjaaaGreatDoorM4
import Derived.Test.YtocoonkachbjaaaGreatDoorM16
import Derived.BigQuiet
import Derived.Deep.QuietTactic
import Derived.Test.YtocoonkachbjaaaGreatDoorM18

/- knownWrong: each error ahead of the next (printed by wip/mkkn2.py). -/
namespace Go.Proofs.YtocoonkachbjaaaGreatDoor
open Go.RowKit Go.Maps Go.Proofs.NmPlain Go.Proofs.Ar Go.Proofs.YtocoonkachbjaaaGreatDoor.Sc
set_option linter.unusedVariables false
namespace Vw
theorem vbk_sm : ∀ s ∈ vbk, s.size ≤ 1048576 := by
  intro s hs
  simp only [vbk, List.mem_cons, List.not_mem_nil, or_false] at hs
  rcases hs with rfl | rfl | rfl <;> decide
theorem nil_text (w : World) : TextArg w (.slice none 0 0) [] := ⟨none, 0, rfl, fun j hj => absurd hj (Nat.not_lt_zero _)⟩
def Good (s : Sess) : Prop := SessOK s ∧ s.user.size ≤ 1048576 ∧ s.label.size ≤ 1048576
/-- The round's session lies in a block of its own. -/
def Own1 (T : Nat) (w0 wc : World) : Prop := ∃ s : Sess, wc.heap[T]? = some (.cells s.cells.toArray 30 (0, 0)) ∧ Good s ∧ Below T w0 wc
theorem Own1.set {T f : Nat} {w0 wc : World} {s s' : Sess} {v : Value} (h1 : wc.heap[T]? = some (.cells s.cells.toArray 30 (0, 0))) (hb : Below T w0 wc) (he : s.cells.toArray.setIfInBounds f v = s'.cells.toArray) (hg : Good s') : Own1 T w0 (wc.setCell ⟨T, f, none⟩ v) :=
  ⟨s', by rw [heap_setCell_same _ _ _ _ _ _ h1, he], hg, hb.setCell (p := ⟨T, f, none⟩) (Nat.le_refl _) _⟩
theorem Own1.cells {T : Nat} {wc : World} {s : Sess} (h1 : wc.heap[T]? = some (.cells s.cells.toArray 30 (0, 0))) (f : Nat) (hf : f < 12) : (∃ u, wc.cell? ⟨T, f, none⟩ = some u) ∧ wc.frozen? ⟨T, f, none⟩ = false :=
  ⟨⟨s.cells[f]'hf, by rw [block_cell h1]; simp; exact List.getElem?_eq_getElem hf⟩, block_free h1 _⟩

set_option maxRecDepth 100000 in
set_option maxHeartbeats 2000000 in
theorem knownWrong_any (w : World) (hg : erHandle w) (he : VEnv w) : Calls Tryz.prog 18 #[] w fun e w' => e = .returned (.bool true) ∧ Below w.heap.size w w' := by
  have HE := Lib.hid he; have HG := Lib.hid hg
  clear he hg
  obtain ⟨W1, hW1⟩ : ∃ W1, W1 = (w.alloc (.cells (vbk.map Value.string).toArray 9)).alloc (.cells #[.slice (some ⟨w.heap.size, 0, none⟩) 3 3, .int .i64 40] 24) := ⟨_, rfl⟩
  have hb1 : Below w.heap.size w W1 := by rw [hW1]; exact ((Below.refl _ _).alloc (Nat.le_refl _) _).alloc (by simp) _
  have hx1 : W1.heap[w.heap.size + 1]? = some (.cells #[.slice (some ⟨w.heap.size, 0, none⟩) 3 3, .int .i64 40] 24 (0, 0)) := by
    rw [hW1]
    have := Ut.alloc_at (w.alloc (.cells (vbk.map Value.string).toArray 9)) (.cells #[.slice (some ⟨w.heap.size, 0, none⟩) 3 3, .int .i64 40] 24)
    rwa [World.size_alloc] at this
  have ht1 : TextArg W1 (.slice (some ⟨w.heap.size, 0, none⟩) 3 3) vbk := by
    rw [hW1]
    exact (Tx.lit_arg w vbk 9).below ((Below.refl _ _).alloc (Nat.le_refl _) _)
  have HB1 := Lib.hid hb1; have HX1 := Lib.hid hx1; have HT1 := Lib.hid ht1
  clear hb1 hx1 ht1
  go_enter Tryz.func18, Tryz.ntmps18
  go_wp2_with fail
  change Code.wp _ _ _ _ ((w.alloc (.cells (vbk.map Value.string).toArray 9)).alloc (.cells #[.slice (some ⟨w.heap.size, 0, none⟩) 3 3, .int .i64 40] 24))
  rw [← hW1]
  clear hW1
  go_loopw [2] (fun t wr => ∃ k : Nat, k ≤ 128 ∧ t = .int .i64 k ∧ Below W1.heap.size W1 wr) (fun t _ => 128 - (intOf t).toNat)
  case atStart => exact ⟨0, Nat.zero_le _, rfl, Below.refl _ _⟩
  case round =>
    obtain ⟨k, hk, rfl, hb⟩ := hrel
    have HB := Lib.hid hb
    clear hb
    have z0 : (0 : Int) ≤ (k : Int) := by omega
    by_cases h : k < 128
    · have z1 : (k : Int) < 128 := by omega
      have HK := Lib.hid h
      clear h hk
      go_wp2_with fail
      refine (vfour_any wr).mono ?_
      rintro e w2 ⟨rfl, hw2⟩
      have hb2 : Below wr.heap.size wr w2 := by rw [hw2]; exact (Below.refl _ _).alloc (Nat.le_refl _) _
      obtain ⟨s1, hs1⟩ : ∃ s1, s1 = (⟨2, 5, 1, 3, 1, ⟨#[97, 110, 110]⟩, ⟨#[112, 104, 111, 110, 101]⟩, 1, 0, 0, 90, 1⟩ : Sess) := ⟨_, rfl⟩
      have hg1 : Good s1 := by rw [hs1]; exact ⟨⟨by decide, by decide, by decide, by decide, by decide, by decide⟩, by decide, by decide⟩
      have hr : w2.rangeAt wr.heap.size 12 s1.cells := fun j u hu => by
        have hrow : w2.heap[wr.heap.size]? = some (.cells fourCells.toArray 30 (0, 0)) := by rw [hw2]; exact Ut.alloc_at _ _
        rw [cell_of_row _ _ _ _ _ _ hrow]
        have hj := (List.getElem?_eq_some_iff.1 hu).1
        have e : fourCells = vfour0.cells ++ (s1.cells ++ (vfour.drop 2).flatMap Sess.cells) := by rw [hs1]; rfl
        have hl : vfour0.cells.length = 12 := rfl
        rw [e, List.getElem?_toArray, List.getElem?_append_right (by omega), hl, Nat.add_sub_cancel_left, List.getElem?_append_left hj]
        exact hu
      obtain ⟨cs, hcs⟩ : ∃ cs, cs = s1.cells := ⟨_, rfl⟩
      rw [← hcs] at hr
      have HRG := Lib.hid hr
      have HCL : Hid (cs.length = 12) := by show _ = _; rw [hcs]; rfl
      have HC1 : Hid (∀ u ∈ cs, u.oneCell' = true) := by show ∀ _, _; rw [hcs]; exact s1.one
      have HOW : Hid (Own1 w2.heap.size (w2.alloc (.cells cs.toArray 30)) (w2.alloc (.cells cs.toArray 30))) := ⟨s1, by rw [hcs]; exact Ut.alloc_at _ _, hg1, Below.refl _ _⟩
      have HB2 : Hid (Below W1.heap.size W1 w2) := HB.out.trans (hb2.mono HB.out.size)
      clear hw2 hb2 hr hcs hg1 hs1
      go_upto_if 16 with (first
        | (refine wpList_load_mid (by rfl) 30 _ (by rfl) _ _ (by rfl) cs _ HRG.out Tryz.underlying30 rfl (by rw [HCL.out]; kernel_rfl) ?_)
        | (refine Ag.wpList_store_new (by rfl) 30 (.tmp 3) (.tmp 13) (by rfl) cs (by rfl) (by rfl) (by rw [HCL.out]; kernel_rfl) (by rw [HCL.out]; rfl) HC1.out ?_))
      obtain ⟨w3, hw3⟩ : ∃ w3, w3 = w2.alloc (.cells cs.toArray 30) := ⟨_, rfl⟩
      rw [← hw3] at HOW ⊢
      have HB3 : Hid (Below W1.heap.size W1 w3) := by show Below _ _ _; rw [hw3]; exact HB2.out.alloc HB2.out.size _
      have HT : Hid (w2.heap.size < w3.heap.size ∧ W1.heap.size ≤ w2.heap.size) := ⟨by rw [hw3, World.size_alloc]; exact Nat.lt_succ_self _, HB2.out.size⟩
      clear hw3 HRG HCL HC1
      obtain ⟨s, h1, hgd, hbt⟩ := HOW.out
      obtain ⟨⟨u, x⟩, y⟩ := Own1.cells h1 1 (by decide)
      have HAF := Lib.hid (And.intro h1 (And.intro hgd hbt))
      clear h1 hgd hbt HOW
      go_cut [] from 14 to 71 (fun wc => Own1 w2.heap.size w3 wc)
      case first =>
        go_wp2
        all_goals go_meet
        · case rel => exact Own1.set (s' := { s with birth := 0 }) HAF.out.1 HAF.out.2.2 (by rfl) ⟨⟨(by show (Lit.int .i64 0).wf = true; decide), HAF.out.2.1.1.wu, HAF.out.2.1.1.sc, HAF.out.2.1.1.z1, HAF.out.2.1.1.z2, HAF.out.2.1.1.wd⟩, HAF.out.2.1.2.1, HAF.out.2.1.2.2⟩
        · case rel => exact ⟨s, HAF.out.1, HAF.out.2.1, HAF.out.2.2⟩
      obtain ⟨wq0, rfl⟩ : ∃ x, x = wc := ⟨_, rfl⟩
      have HOW := Lib.hid hcut
      clear hcut HAF x y u
      go_upto_if 20 with (fail)
      obtain ⟨s, h1, hgd, hbt⟩ := HOW.out
      obtain ⟨⟨u, x⟩, y⟩ := Own1.cells h1 5 (by decide)
      have HAF := Lib.hid (And.intro h1 (And.intro hgd hbt))
      clear h1 hgd hbt HOW
      go_cut [] from 14 to 71 (fun wc => Own1 w2.heap.size w3 wc)
      case first =>
        go_wp2
        all_goals go_meet
        · case rel => exact Own1.set (s' := { s with user := ⟨#[65, 110, 110]⟩ }) HAF.out.1 HAF.out.2.2 (by rfl) ⟨⟨HAF.out.2.1.1.wb, HAF.out.2.1.1.wu, HAF.out.2.1.1.sc, (by show ByteArray.size ⟨#[65, 110, 110]⟩ ≤ 9223372036854775807; decide), HAF.out.2.1.1.z2, HAF.out.2.1.1.wd⟩, (by show ByteArray.size ⟨#[65, 110, 110]⟩ ≤ 1048576; decide), HAF.out.2.1.2.2⟩
        · case rel => exact ⟨s, HAF.out.1, HAF.out.2.1, HAF.out.2.2⟩
      obtain ⟨wq1, rfl⟩ : ∃ x, x = wc := ⟨_, rfl⟩
      have HOW := Lib.hid hcut
      clear hcut HAF x y u
      go_upto_if 24 with (fail)
      obtain ⟨s, h1, hgd, hbt⟩ := HOW.out
      obtain ⟨⟨u, x⟩, y⟩ := Own1.cells h1 6 (by decide)
      have HAF := Lib.hid (And.intro h1 (And.intro hgd hbt))
      clear h1 hgd hbt HOW
      go_cut [] from 14 to 71 (fun wc => Own1 w2.heap.size w3 wc)
      case first =>
        go_wp2
        all_goals go_meet
        · case rel => exact Own1.set (s' := { s with label := ⟨#[120, 32, 121]⟩ }) HAF.out.1 HAF.out.2.2 (by rfl) ⟨⟨HAF.out.2.1.1.wb, HAF.out.2.1.1.wu, HAF.out.2.1.1.sc, HAF.out.2.1.1.z1, (by show ByteArray.size ⟨#[120, 32, 121]⟩ ≤ 9223372036854775807; decide), HAF.out.2.1.1.wd⟩, HAF.out.2.1.2.1, (by show ByteArray.size ⟨#[120, 32, 121]⟩ ≤ 1048576; decide)⟩
        · case rel => exact ⟨s, HAF.out.1, HAF.out.2.1, HAF.out.2.2⟩
      obtain ⟨wq2, rfl⟩ : ∃ x, x = wc := ⟨_, rfl⟩
      have HOW := Lib.hid hcut
      clear hcut HAF x y u
      go_upto_if 28 with (fail)
      obtain ⟨s, h1, hgd, hbt⟩ := HOW.out
      obtain ⟨⟨u, x⟩, y⟩ := Own1.cells h1 4 (by decide)
      have HAF := Lib.hid (And.intro h1 (And.intro hgd hbt))
      clear h1 hgd hbt HOW
      go_cut [] from 14 to 71 (fun wc => Own1 w2.heap.size w3 wc)
      case first =>
        go_wp2
        all_goals go_meet
        · case rel => exact Own1.set (s' := { s with kind := 3 }) HAF.out.1 HAF.out.2.2 (by rfl) ⟨⟨HAF.out.2.1.1.wb, HAF.out.2.1.1.wu, HAF.out.2.1.1.sc, HAF.out.2.1.1.z1, HAF.out.2.1.1.z2, HAF.out.2.1.1.wd⟩, HAF.out.2.1.2.1, HAF.out.2.1.2.2⟩
        · case rel => exact ⟨s, HAF.out.1, HAF.out.2.1, HAF.out.2.2⟩
      obtain ⟨wq3, rfl⟩ : ∃ x, x = wc := ⟨_, rfl⟩
      have HOW := Lib.hid hcut
      clear hcut HAF x y u
      go_upto_if 32 with (fail)
      obtain ⟨s, h1, hgd, hbt⟩ := HOW.out
      obtain ⟨⟨u, x⟩, y⟩ := Own1.cells h1 8 (by decide)
      have HAF := Lib.hid (And.intro h1 (And.intro hgd hbt))
      clear h1 hgd hbt HOW
      go_cut [] from 14 to 71 (fun wc => Own1 w2.heap.size w3 wc)
      case first =>
        go_wp2
        all_goals go_meet
        · case rel => exact Own1.set (s' := { s with level := 3 }) HAF.out.1 HAF.out.2.2 (by rfl) ⟨⟨HAF.out.2.1.1.wb, HAF.out.2.1.1.wu, HAF.out.2.1.1.sc, HAF.out.2.1.1.z1, HAF.out.2.1.1.z2, HAF.out.2.1.1.wd⟩, HAF.out.2.1.2.1, HAF.out.2.1.2.2⟩
        · case rel => exact ⟨s, HAF.out.1, HAF.out.2.1, HAF.out.2.2⟩
      obtain ⟨wq4, rfl⟩ : ∃ x, x = wc := ⟨_, rfl⟩
      have HOW := Lib.hid hcut
      clear hcut HAF x y u
      go_upto_if 36 with (fail)
      obtain ⟨s, h1, hgd, hbt⟩ := HOW.out
      obtain ⟨⟨u, x⟩, y⟩ := Own1.cells h1 7 (by decide)
      have HAF := Lib.hid (And.intro h1 (And.intro hgd hbt))
      clear h1 hgd hbt HOW
      go_cut [] from 14 to 71 (fun wc => Own1 w2.heap.size w3 wc)
      case first =>
        go_wp2
        all_goals go_meet
        · case rel => exact Own1.set (s' := { s with scopes := 8 }) HAF.out.1 HAF.out.2.2 (by rfl) ⟨⟨HAF.out.2.1.1.wb, HAF.out.2.1.1.wu, (by show (8 : Nat) < 18446744073709551616; decide), HAF.out.2.1.1.z1, HAF.out.2.1.1.z2, HAF.out.2.1.1.wd⟩, HAF.out.2.1.2.1, HAF.out.2.1.2.2⟩
        · case rel => exact ⟨s, HAF.out.1, HAF.out.2.1, HAF.out.2.2⟩
      obtain ⟨wq5, rfl⟩ : ∃ x, x = wc := ⟨_, rfl⟩
      have HOW := Lib.hid hcut
      clear hcut HAF x y u
      go_upto_if 40 with (fail)
      obtain ⟨s, h1, hgd, hbt⟩ := HOW.out
      obtain ⟨⟨u, x⟩, y⟩ := Own1.cells h1 10 (by decide)
      have HAF := Lib.hid (And.intro h1 (And.intro hgd hbt))
      clear h1 hgd hbt HOW
      go_cut [] from 14 to 71 (fun wc => Own1 w2.heap.size w3 wc)
      case first =>
        go_wp2
        all_goals go_meet
        · case rel => exact Own1.set (s' := { s with dl := 1099511627777 }) HAF.out.1 HAF.out.2.2 (by rfl) ⟨⟨HAF.out.2.1.1.wb, HAF.out.2.1.1.wu, HAF.out.2.1.1.sc, HAF.out.2.1.1.z1, HAF.out.2.1.1.z2, (by show (Lit.int .i64 1099511627777).wf = true; decide)⟩, HAF.out.2.1.2.1, HAF.out.2.1.2.2⟩
        · case rel => exact ⟨s, HAF.out.1, HAF.out.2.1, HAF.out.2.2⟩
      obtain ⟨wq6, rfl⟩ : ∃ x, x = wc := ⟨_, rfl⟩
      have HOW := Lib.hid hcut
      clear hcut HAF x y u
      go_wp2_with fail
      refine (vfour_any wq6).mono ?_
      rintro e w4 ⟨rfl, hw4⟩
      obtain ⟨r, hr⟩ : ∃ r : Nat, (k : Int).tmod 4 = (r : Int) := ⟨k % 4, by rw [Int.tmod_eq_emod_of_nonneg z0]; omega⟩
      have hr4 : r < 4 := by rw [Int.tmod_eq_emod_of_nonneg z0] at hr; omega
      obtain ⟨s, h1, hgd, hbt⟩ := HOW.out
      have hput : Ag.put fourCells.toArray (r * 12) s.cells = (allV (vfour.set r s)).toArray := put_allV vfour r hr4 s
      have hw5 : w4.setCells wq6.heap.size (r * 12) s.cells = wq6.alloc (.cells (allV (vfour.set r s)).toArray 30) := by rw [hw4, Ag.setCells_new, hput]
      have hlen : (vfour.set r s).length = 4 := by rw [List.length_set]; rfl
      have hgood : ∀ t ∈ vfour.set r s, Good t := fun t ht => by
        rcases List.mem_or_eq_of_mem_set ht with h | rfl
        · exact ⟨vfour_ok t h, by
            simp only [vfour, List.mem_cons, List.not_mem_nil, or_false] at h
            rcases h with rfl | rfl | rfl | rfl <;> exact ⟨by decide, by decide⟩⟩
        · exact hgd
      have hth : w4.there wq6.heap.size (r * 12) 12 := fun j hj => by
        have hrow : w4.heap[wq6.heap.size]? = some (.cells fourCells.toArray 30 (0, 0)) := by rw [hw4]; exact Ut.alloc_at _ _
        refine ⟨?_, block_free hrow _⟩
        rw [block_cell hrow]
        have h48 : fourCells.length = 48 := rfl
        have hlt : r * 12 + j < fourCells.length := by rw [h48]; omega
        rw [List.getElem?_toArray, List.getElem?_eq_getElem hlt]; rfl
      have hb46 : Below wq6.heap.size wq6 w4 := by rw [hw4]; exact (Below.refl _ _).alloc (Nat.le_refl _) _
      have h14 : w4.heap[w2.heap.size]? = some (.cells s.cells.toArray 30 (0, 0)) := (hb46.block _ (Array.getElem?_eq_some_iff.1 h1).1).trans h1
      obtain ⟨ds, hds⟩ : ∃ ds, ds = s.cells := ⟨_, rfl⟩
      have HDS := Lib.hid hds
      have HCL : Hid (ds.length = 12) := by show _ = _; rw [hds]; rfl
      have HC1 : Hid (∀ u ∈ ds, u.oneCell' = true) := by show ∀ _, _; rw [hds]; exact s.one
      have HRG : Hid (w4.rangeAt w2.heap.size 0 ds) := by show w4.rangeAt _ _ _; rw [hds]; exact box_range h14
      have HTC : Hid (w4.there wq6.heap.size (r * 12) ds.toArray.size) := by
        have e12 : ds.toArray.size = 12 := by rw [List.size_toArray]; exact HCL.out
        show w4.there _ _ _
        rw [e12]; exact hth
      have r0 : (0 : Int) ≤ (r : Int) := by omega
      have r1 : (r : Int) < 4 := by omega
      clear hput hth hw4 h14 hds hr4
      go_upto_region 22 with (first
        | (refine wpList_load_mid (by rfl) 30 _ (by rfl) _ _ (by rfl) ds _ HRG.out Tryz.underlying30 rfl (by rw [HCL.out]; kernel_rfl) ?_)
        | (refine wpList_store_mid (by rfl) 30 (.tmp 47) (.tmp 46) (by rfl) wq6.heap.size (r * 12) ds.toArray (by rfl) (by rw [HDS.out]; rfl) HTC.out (by rw [List.size_toArray, HCL.out]; kernel_rfl) (all_oneCell_toArray HC1.out) ?_))
      obtain ⟨W5, hW5⟩ : ∃ W5, W5 = wq6.alloc (.cells (allV (vfour.set r s)).toArray 30) := ⟨_, rfl⟩
      rw [← HDS.out, ← hW5] at hw5
      rw [hw5]
      have hb65 : Below wq6.heap.size wq6 W5 := by rw [hW5]; exact (Below.refl _ _).alloc (Nat.le_refl _) _
      have hsl : SessArg W5 (.slice (some ⟨wq6.heap.size, 0, none⟩) 4 4) (vfour.set r s) := by
        have h := sess_of_own (own_lit_sess wq6 (vfour.set r s) (by rw [hlen]; decide))
        rw [hlen, ← hW5] at h
        exact h
      have hB5 : Below W1.heap.size W1 W5 := by
        have h3 : Below w2.heap.size w3 W5 := hbt.trans (hb65.mono (Nat.le_trans (Nat.le_of_lt HT.out.1) hbt.size))
        exact HB3.out.trans (h3.mono HT.out.2)
      have HB5 := Lib.hid hB5; have HSL := Lib.hid hsl; have HGD := Lib.hid hgd; have HGS := Lib.hid hgood; have HLE := Lib.hid hlen
      have h15 : W5.heap[w2.heap.size]? = some (.cells s.cells.toArray 30 (0, 0)) := (hb65.block _ (Array.getElem?_eq_some_iff.1 h1).1).trans h1
      have HRO : Hid (∀ W, Below W5.heap.size W5 W → W.rangeAt w2.heap.size 0 ds) := fun W hb => by
        rw [HDS.out]; exact box_range ((hb.block _ (Array.getElem?_eq_some_iff.1 h15).1).trans h15)
      have HRM : Hid (∀ W, Below W5.heap.size W5 W → W.heap[w.heap.size + 1]? = some (.cells #[.slice (some ⟨w.heap.size, 0, none⟩) 3 3, .int .i64 40] 24 (0, 0))) := fun W hb => ((hb.block _ (Nat.lt_of_lt_of_le (Array.getElem?_eq_some_iff.1 HX1.out).1 hB5.size)).trans (hB5.block _ (Array.getElem?_eq_some_iff.1 HX1.out).1)).trans HX1.out
      clear hb65 h15 hsl hB5 hgd hgood hlen hW5 hw5 h1 hbt hb46
      have HVL : Hid (∀ (x : Value) (ls : List ByteArray) (now : Int), ls.length ≤ maxLen → (∀ s ∈ ls, s.size ≤ 1048576) → (Lit.int .i64 now).wf = true → ∀ W, Below W5.heap.size W5 W → TextArg W x ls → Calls Tryz.prog 3 #[.agg #[x, .int .i64 now], .agg ds.toArray] W fun e w' => e = .returned (.bool true) ∧ Below W5.heap.size W5 w') := fun x ls now h1 h2 h3 W hb ht => by
        rw [HDS.out]
        have hw : Below w.heap.size w W := HB1.out.trans ((HB5.out.trans (hb.mono HB5.out.size)).mono HB1.out.size)
        have hv := HE.out.below hw
        exact (viewLines_core x ls h1 h2 now h3 s HGD.out.1.sc HGD.out.2.1 HGD.out.2.2 HGD.out.1.wd W (HG.out.below HG.out.lt hw) hv.max hv.parts hv.tab ht).mono fun e w' h => ⟨h.1, hb.trans (h.2.mono hb.size)⟩
      have HVT : Hid (∀ W, Below W5.heap.size W5 W → Calls Tryz.prog 4 #[.agg #[.slice (some ⟨w.heap.size, 0, none⟩) 3 3, .int .i64 40], .slice (some ⟨wq6.heap.size, 0, none⟩) 4 4] W fun e w' => e = .returned (.bool true) ∧ Below W5.heap.size W5 w') := fun W hb => by
        have hw1 : Below W1.heap.size W1 W := HB5.out.trans (hb.mono HB5.out.size)
        have hw : Below w.heap.size w W := HB1.out.trans (hw1.mono HB1.out.size)
        exact (viewTrees_core _ vbk (by decide) vbk_sm 40 (by decide) _ (vfour.set r s) (by rw [HLE.out]; decide) (fun t ht => (HGS.out t ht).1) (fun t ht => (HGS.out t ht).2) W (HG.out.below HG.out.lt hw) (HE.out.below hw) (HT1.out.below hw1) (HSL.out.below hb)).mono fun e w' h => ⟨h.1, hb.trans (h.2.mono hb.size)⟩
      have HTW : Hid (∀ W, Below W5.heap.size W5 W → TextArg W (.slice (some ⟨w.heap.size, 0, none⟩) 3 3) vbk) := fun W hb => HT1.out.below (HB5.out.trans (hb.mono HB5.out.size))
      have hro := HRO.out W5 (Below.refl _ _)
      have hrm := HRM.out W5 (Below.refl _ _)
      go_wp2_with (first
        | (refine wpList_load_row rfl 24 _ rfl _ rfl 24 _ (0, 0) _ hrm Tryz.underlying24 rfl (by kernel_rfl) ?_)
        | (refine wpList_load_mid (by rfl) 30 _ (by rfl) _ _ (by rfl) ds _ hro Tryz.underlying30 rfl (by rw [HCL.out]; kernel_rfl) ?_))
      refine (HVL.out _ vbk 40 (by decide) vbk_sm (by decide) W5 (Below.refl _ _) (HTW.out _ (Below.refl _ _))).mono ?_
      rintro e w6 ⟨rfl, hb6⟩
      have hrm6 := HRM.out w6 hb6
      have HB6 := Lib.hid hb6
      clear hb6 hro hrm
      go_wp2_with (first
        | (refine Gd.load_row (by rfl) 24 _ rfl _ rfl 24 _ (0, 0) _ hrm6 Tryz.underlying24 rfl (by kernel_rfl) ?_))
      refine (HVT.out w6 HB6.out).mono ?_
      rintro e w7 ⟨rfl, hb7⟩
      have hro7 := HRO.out w7 hb7
      have hc7 : w7.cell? ⟨w.heap.size + 1, 0, none⟩ = some (.slice (some ⟨w.heap.size, 0, none⟩) 3 3) := by rw [cell_of_row _ _ _ _ _ _ (HRM.out w7 hb7)]; rfl
      have HB7 := Lib.hid hb7
      clear hb7 hrm6
      go_wp2_with (first
        | (refine Gd.load_mid (by rfl) 30 _ (by rfl) _ _ (by rfl) ds _ hro7 Tryz.underlying30 rfl (by rw [HCL.out]; kernel_rfl) ?_))
      refine (HVL.out _ vbk (-1) (by decide) vbk_sm (by decide) w7 HB7.out (HTW.out _ HB7.out)).mono ?_
      rintro e w8 ⟨rfl, hb8⟩
      have hro8 := HRO.out w8 hb8
      have HB8 := Lib.hid hb8
      clear hb8 hro7 hc7
      go_wp2_with (first
        | (refine Gd.load_mid (by rfl) 30 _ (by rfl) _ _ (by rfl) ds _ hro8 Tryz.underlying30 rfl (by rw [HCL.out]; kernel_rfl) ?_))
      refine (HVL.out _ [] 1099511627776 (by decide) (by simp) (by decide) w8 HB8.out (nil_text w8)).mono ?_
      rintro e w9 ⟨rfl, hb9⟩
      have HB9 : Hid (Below W1.heap.size W1 w9) := HB5.out.trans (hb9.mono HB5.out.size)
      clear hb9 hro8
      go_wp2
      go_roundw
      case rel => exact ⟨k + 1, HK.out, by go_num, HB9.out⟩
      case measure => have := HK.out; simp [intOf]; omega
    · have z1 : (128 : Int) ≤ (k : Int) := by omega
      have hd : decide (k < 128) = false := decide_eq_false h
      clear h hk
      go_wp2
      go_ret
      exact ⟨rfl, HB1.out.trans (HB.out.mono HB1.out.size)⟩
end Vw
end Go.Proofs.YtocoonkachbjaaaGreatDoor

/- ViewWhole's plain law: a tree's lines are the sessions' own, each as often; no line is more than one step below the one above it. -/
namespace Go.Proofs.YtocoonkachbjaaaGreatDoor
open Go.RowKit Go.Proofs.NmPlain Go.Proofs.YtocoonkachbjaaaGreatDoor.Sc
set_option linter.unusedVariables false
namespace Vw
/-- No one is more than one step below the one ahead of it. -/
def stepB : Nat → List (Nat × Nat) → Prop
  | _, [] => True
  | a, x :: r => x.1 ≤ a + 1 ∧ stepB x.1 r
theorem stepB_mono {a b : Nat} (h : a ≤ b) : ∀ {l : List (Nat × Nat)}, stepB a l → stepB b l
  | [], _ => trivial
  | x :: r, h2 => ⟨Nat.le_trans h2.1 (by omega), h2.2⟩
theorem stepB_append {m : Nat} {l2 : List (Nat × Nat)} (h2 : stepB m l2) : ∀ (l1 : List (Nat × Nat)) (a : Nat), m ≤ a → (∀ x ∈ l1, m ≤ x.1) → stepB a l1 → stepB a (l1 ++ l2)
  | [], a, ha, _, _ => stepB_mono ha h2
  | x :: r, a, ha, hm, h1 => ⟨h1.1, stepB_append h2 r x.1 (hm x List.mem_cons_self) (fun y hy => hm y (List.mem_cons_of_mem _ hy)) h1.2⟩
theorem pre_steps (kids : Nat → List Nat) : ∀ (f far : Nat) (l : List Nat) (a : Nat), far ≤ a + 1 → far ≤ a ∨ a + 1 = far → stepB a (Vt.pre kids f far l)
  | 0, far, l, a, _, _ => by
    have e : Vt.pre kids 0 far l = [] := rfl
    rw [e]; trivial
  | f + 1, far, [], a, h, _ => by rw [Vt.pre_nil]; trivial
  | f + 1, far, i :: l, a, h, _ => by
    rw [Vt.pre_cons]
    exact ⟨h, stepB_append (m := far) (pre_steps kids (f + 1) far l far (Nat.le_succ _) (.inl (Nat.le_refl _))) _ far (Nat.le_refl _) (fun x hx => Nat.le_of_succ_le (Vt.pre_far kids f (far + 1) _ x hx)) (pre_steps kids f (far + 1) (kids i) far (Nat.le_refl _) (.inr rfl))⟩
theorem stepB_at : ∀ (l : List (Nat × Nat)) (a k : Nat), stepB a l → ∀ (h : k + 1 < l.length), l[k + 1].1 ≤ l[k].1 + 1
  | [], _, _, _, h => absurd h (Nat.not_lt_zero _)
  | [x], _, k, _, h => absurd h (by simp)
  | x :: y :: r, a, 0, h1, h => h1.2.1
  | x :: y :: r, a, k + 1, h1, h => stepB_at (y :: r) x.1 k h1.2 (by simpa using h)
theorem ordV_step (ss : List Sess) (k : Nat) (h : k + 1 < (ordV ss).length) : (ordV ss)[k + 1].1 ≤ (ordV ss)[k].1 + 1 := stepB_at _ 0 k (pre_steps _ _ _ _ 0 (Nat.zero_le _) (.inl (Nat.le_refl _))) h
theorem ordV_zero (ss : List Sess) (h : 0 < (ordV ss).length) : (ordV ss)[0].1 = 0 := Vt.pre_head _ _ _ _ _ (by rw [List.head?_eq_getElem?]; exact List.getElem?_eq_getElem h)

/-- A line's first byte is no blank. -/
theorem dec_head : ∀ n : Nat, ∃ c r, Lib.decDigits n = c :: r ∧ c ≠ 32 := by
  intro n
  induction n using Nat.strongRecOn with
  | _ n ih =>
    rw [Lib.decDigits]
    by_cases h : n < 10
    · rw [dif_pos h]
      refine ⟨_, [], rfl, fun e => ?_⟩
      have h1 := congrArg UInt8.toNat e
      have h2 : (UInt8.ofNat (48 + n)).toNat = 48 + n := by simp; omega
      have h3 : (32 : UInt8).toNat = 32 := rfl
      omega
    · rw [dif_neg h]
      obtain ⟨c, r, e, hc⟩ := ih (n / 10) (by omega)
      rw [e]
      exact ⟨c, r ++ [UInt8.ofNat (48 + n % 10)], rfl, hc⟩
theorem text_head (ls : List ByteArray) (s : Sess) (now : Int) (h : 1 ≤ s.birth) : ∃ c r, textL ls s now = c :: r ∧ c ≠ 32 := by
  obtain ⟨c, r, e, hc⟩ := dec_head s.birth.toNat
  have e2 : Lib.itoa s.birth = c :: r := by unfold Lib.itoa; rw [if_neg (by omega)]; exact e
  refine ⟨c, r ++ ?_, ?_, hc⟩
  rotate_left
  · unfold textL Lib.join
    simp only [List.intercalate, List.intersperse_cons_cons, List.flatten_cons, e2, List.cons_append]
    rfl
theorem lineAt_head {ls : List ByteArray} {ss : List Sess} {now : Int} {i : Nat} (hi : i < ss.length) (h0 : (lineAt ls ss now i).2 = 0) : ∃ c r, (lineAt ls ss now i).1 = c :: r ∧ c ≠ 32 := by
  rw [lineAt_at hi] at h0 ⊢
  unfold lineL at h0 ⊢
  split at h0
  · simp at h0
  rename_i hb
  rw [if_neg hb]
  split at h0
  · simp at h0
  rename_i h1
  rw [if_neg h1]
  split at h0
  · simp at h0
  rename_i h2
  rw [if_neg h2]
  split at h0
  · simp at h0
  rename_i h3
  rw [if_neg h3]
  split at h0
  · simp at h0
  rename_i h4
  rw [if_neg h4]
  split at h0
  · simp at h0
  rename_i h5
  rw [if_neg h5]
  exact text_head ls _ now (by omega)
theorem padS_list (far : Nat) : (padS far).data.toList = List.replicate (2 * far) 32 := by
  have h := Lib.repeatL_replicate 32 2 far
  rw [Nat.mul_comm]
  exact h
theorem treeS_list {ls : List ByteArray} {ss : List Sess} {now : Int} {x : Nat × Nat} (hi : x.2 < ss.length) (h0 : (lineAt ls ss now x.2).2 = 0) : ∃ c r, (treeS ls ss now x).data.toList = List.replicate (2 * x.1) 32 ++ c :: r ∧ c ≠ 32 ∧ (lineS ls ss now x.2).data.toList = c :: r := by
  obtain ⟨c, r, e, hc⟩ := lineAt_head hi h0
  refine ⟨c, r, ?_, hc, e⟩
  unfold treeS
  rw [ByteArray.data_append, Array.toList_append, padS_list]
  congr 1
theorem treeS_cut {ls : List ByteArray} {ss : List Sess} {now : Int} {x : Nat × Nat} : (treeS ls ss now x).extract (2 * x.1) (treeS ls ss now x).size = lineS ls ss now x.2 := by
  have h1 : (padS x.1).data.toList.length = 2 * x.1 := by rw [padS_list, List.length_replicate]
  have h2 : (treeS ls ss now x).data.toList = (padS x.1).data.toList ++ (lineS ls ss now x.2).data.toList := by unfold treeS; rw [ByteArray.data_append, Array.toList_append]
  have h3 : ((treeS ls ss now x).extract (2 * x.1) (treeS ls ss now x).size).data.toList = (lineS ls ss now x.2).data.toList := by
    rw [extract_list, h2, ← h1, List.drop_left]
    refine List.take_of_length_le ?_
    have h4 : (treeS ls ss now x).size = (treeS ls ss now x).data.toList.length := rfl
    rw [h4, h2, List.length_append]; omega
  exact ByteArray.ext (Array.toList_inj.1 h3)

/-- How often a text stands among the lines that were seen; among the first of the tree. -/
def cSeen (T : Nat → ByteArray) (seen : Nat → Bool) (n : Nat) (x : ByteArray) : Nat := (List.range n).countP fun k => seen k && decide (T k = x)
def cTree (T : Nat → ByteArray) (l : List (Nat × Nat)) (x : ByteArray) : Nat := l.countP fun y => decide (T y.2 = x)
theorem cSeen_all {T : Nat → ByteArray} {seen : Nat → Bool} {n : Nat} {x : ByteArray} (h : ∀ k, k < n → seen k = true ∨ T k ≠ x) : cSeen T seen n x = (List.range n).countP fun k => decide (T k = x) := by
  unfold cSeen
  refine List.countP_congr fun k hk => ?_
  rcases h k (List.mem_range.1 hk) with h1 | h1
  · simp [h1]
  · simp [h1]
theorem cTree_all (T : Nat → ByteArray) (ss : List Sess) (x : ByteArray) : cTree T (ordV ss) x = (List.range ss.length).countP fun k => decide (T k = x) := by
  have h := Vt.ord_perm (bu ss) ss.length
  rw [← h.countP_eq, List.countP_map, ← ordV_ordL]
  rfl
/-- There is one that wasn't seen. -/
theorem cSeen_some {T : Nat → ByteArray} {seen : Nat → Bool} {ss : List Sess} {i : Nat} (hi : i < (ordV ss).length) (h : ∀ x, cSeen T seen ss.length x = cTree T ((ordV ss).take i) x) (ha : ∀ k, k < ss.length → seen k = true ∨ T k ≠ T (ordV ss)[i].2) : False := by
  obtain ⟨y, hy⟩ : ∃ y, y = T (ordV ss)[i].2 := ⟨_, rfl⟩
  rw [← hy] at ha
  have h1 := cSeen_all ha
  rw [h, ← cTree_all] at h1
  have h2 : ordV ss = (ordV ss).take i ++ ((ordV ss)[i] :: (ordV ss).drop (i + 1)) := by
    rw [← List.drop_eq_getElem_cons hi, List.take_append_drop]
  have h3 : cTree T (ordV ss) y = cTree T ((ordV ss).take i) y + (1 + cTree T ((ordV ss).drop (i + 1)) y) := by
    unfold cTree
    conv => lhs; rw [h2]
    rw [List.countP_append, List.countP_cons_of_pos (by simp [hy])]
    omega
  omega
theorem countP_set (f g : Nat → Bool) (k : Nat) (hf : f k = false) (hg : g k = true) (he : ∀ j, j ≠ k → g j = f j) : ∀ n, (List.range n).countP g = (List.range n).countP f + if k < n then 1 else 0
  | 0 => by simp
  | n + 1 => by
    rw [List.range_succ, List.countP_append, List.countP_append, countP_set f g k hf hg he n]
    by_cases h : n = k
    · subst h
      rw [if_neg (Nat.lt_irrefl _), if_pos (Nat.lt_succ_self _)]
      simp [hf, hg]
    · have h1 := he n h
      have h2 : (k < n + 1) ↔ (k < n) := by omega
      simp [h1, h2]
      omega
theorem cSeen_next {T : Nat → ByteArray} {seen : Nat → Bool} {ss : List Sess} {i k : Nat} (hi : i < (ordV ss).length) (hk : k < ss.length) (h : ∀ x, cSeen T seen ss.length x = cTree T ((ordV ss).take i) x) (hs : seen k = false) (ht : T k = T (ordV ss)[i].2) (x : ByteArray) :
    cSeen T (fun j => if j = k then true else seen j) ss.length x = cTree T ((ordV ss).take (i + 1)) x := by
  have h2 : (ordV ss).take (i + 1) = (ordV ss).take i ++ [(ordV ss)[i]] := (List.take_append_getElem hi).symm
  have h3 : cTree T ((ordV ss).take (i + 1)) x = cTree T ((ordV ss).take i) x + if T (ordV ss)[i].2 = x then 1 else 0 := by
    unfold cTree
    rw [h2, List.countP_append]
    by_cases hx : T (ordV ss)[i].2 = x <;> simp [hx]
  rw [h3, ← h]
  unfold cSeen
  by_cases hx : T k = x
  · rw [countP_set (fun j => seen j && decide (T j = x)) (fun j => (if j = k then true else seen j) && decide (T j = x)) k (by simp [hs]) (by simp [hx]) (fun j hj => by simp [hj]) ss.length, if_pos hk, if_pos (by rw [← ht]; exact hx)]
  · rw [if_neg (by rw [← ht]; exact hx), Nat.add_zero]
    refine List.countP_congr fun j _ => ?_
    by_cases hj : j = k
    · subst hj; simp [hx]
    · simp [hj]

set_option maxHeartbeats 2000000 in
theorem blanks_any (T : ByteArray) (m : Nat) (hm : m ≤ 65536) (c : UInt8) (r : List UInt8) (hT : T.data.toList = List.replicate m 32 ++ c :: r) (hc : c ≠ 32) (w : World) :
    Calls Tryz.prog 98 #[.string T] w fun e w' => e = .returned (.int .i64 m) ∧ Below w.heap.size w w' := by
  have hsz : T.size = m + 1 + r.length := by
    have h1 : T.size = T.data.toList.length := rfl
    rw [h1, hT, List.length_append, List.length_replicate, List.length_cons]; omega
  have hat : ∀ (k : Nat) (hk : k < T.size), T[k] = (List.replicate m 32 ++ c :: r)[k]'(by rw [← hT]; exact hk) := fun k hk => by
    have h1 : T[k] = T.data.toList[k]'hk := rfl
    rw [h1]
    simp only [hT]
  have HAT := Lib.hid hat; have HSZ := Lib.hid hsz
  clear hat hsz
  go_enter Tryz.func98, Tryz.ntmps98
  go_wp2
  go_loopw [3] (fun i wr => ∃ k : Nat, k ≤ m ∧ i = .int .i64 k ∧ Below w.heap.size w wr) (fun i _ => m - (intOf i).toNat)
  case atStart => exact ⟨0, Nat.zero_le _, rfl, Below.refl _ _⟩
  case round =>
    obtain ⟨k, hk, rfl, hb⟩ := hrel
    have HB := Lib.hid hb
    clear hb
    have hks : k < T.size := by have := HSZ.out; omega
    have b1 : (0 : Int) ≤ (k : Int) := by omega
    have b2 : (k : Int) < (T.size : Int) := by omega
    have hq0 := HAT.out k hks
    by_cases h : k < m
    · have hq : ((T[k].toNat : Int) == 32) = true := by
        rw [hq0, List.getElem_append_left (by simpa using h), List.getElem_replicate]; rfl
      have HH := Lib.hid h
      clear h hq0
      go_wp2
      go_roundw
      case rel => have := HH.out; exact ⟨k + 1, by omega, by go_num, HB.out⟩
      case measure => have := HH.out; simp [intOf]; omega
    · obtain rfl : k = m := by omega
      have hq : ((T[k].toNat : Int) == 32) = false := by
        rw [beq_eq_false_iff_ne]
        intro h1
        rw [hq0, List.getElem_append_right (by simp)] at h1
        simp at h1
        exact hc (UInt8.toNat_inj.1 (by have : (32 : UInt8).toNat = 32 := rfl; omega))
      clear h hq0
      go_wp2
      go_ret
      exact ⟨rfl, HB.out⟩
end Vw
end Go.Proofs.YtocoonkachbjaaaGreatDoor

/- ViewWhole: the law's walk. -/
namespace Go.Proofs.YtocoonkachbjaaaGreatDoor
open Go.RowKit Go.Maps Go.Proofs.NmPlain Go.Proofs.Ar Go.Proofs.YtocoonkachbjaaaGreatDoor.Sc
set_option linter.unusedVariables false
namespace Vw
attribute [local go_sem] Oper.semAt_some

theorem line_post {ls : List ByteArray} {ss : List Sess} {now : Int} {i : Nat} (hi : i < ss.length) {e : Ending} (h : LinePost ls ss[i] now e) : e = .returned (.tuple #[.string (lineS ls ss now i), errVal (lineAt ls ss now i).2]) := by
  unfold LinePost at h
  rw [h]; unfold lineS; rw [lineAt_at hi]
/-- How far the k-th line of the tree is in; what 'last' holds ahead of it. -/
def farK (ss : List Sess) (k : Nat) : Nat := match (ordV ss)[k]? with
  | some x => x.1
  | none => 0
def lastF (ss : List Sess) : Nat → Int
  | 0 => -2
  | k + 1 => 2 * (farK ss k : Int)
theorem farK_at {ss : List Sess} {k : Nat} (h : k < (ordV ss).length) : farK ss k = (ordV ss)[k].1 := by unfold farK; rw [List.getElem?_eq_getElem h]
theorem farK_le {ss : List Sess} {k : Nat} (h : k < (ordV ss).length) : farK ss k ≤ ss.length := by
  rw [farK_at h]; exact ordV_far ss _ (List.getElem_mem h)
theorem lastF_step {ss : List Sess} {k : Nat} (h : k < (ordV ss).length) : 2 * (farK ss k : Int) ≤ lastF ss k + 2 := by
  cases k with
  | zero => rw [farK_at h, ordV_zero ss h]; show (2 : Int) * ((0 : Nat) : Int) ≤ -2 + 2; omega
  | succ k =>
    show _ ≤ 2 * (farK ss k : Int) + 2
    rw [farK_at h, farK_at (Nat.lt_of_succ_lt h)]
    have := ordV_step ss k h
    omega
theorem lastF_bd {ss : List Sess} {k : Nat} (h : k ≤ (ordV ss).length) : -2 ≤ lastF ss k ∧ lastF ss k ≤ 2 * (ss.length : Int) := by
  cases k with
  | zero => exact ⟨Int.le_refl _, by show (-2 : Int) ≤ _; omega⟩
  | succ k =>
    have := farK_le (ss := ss) (k := k) h
    show (-2 : Int) ≤ 2 * (farK ss k : Int) ∧ 2 * (farK ss k : Int) ≤ _
    omega
/-- Which lines were seen, where the law notes it. -/
def SeenAt (sb : Nat) (seen : Nat → Bool) (A : World) : Prop := A.heap[sb]? = some (.cells (arr 100 fun j => .bool (seen j)) 150 (0, 0))
structure WO (T : Nat → ByteArray) (ss : List Sess) (sb : Nat) (W4 : World) (k : Nat) (seen : Nat → Bool) (A : World) : Prop where
  le : k ≤ ss.length
  cnt : ∀ x, cSeen T seen ss.length x = cTree T ((ordV ss).take k) x
  at_ : SeenAt sb seen A
  only : Only (fun x => x = sb) W4 A
theorem SeenAt.set {sb k : Nat} {seen : Nat → Bool} {A : World} (h : SeenAt sb seen A) : SeenAt sb (fun j => if j = k then true else seen j) (A.setCell ⟨sb, k, none⟩ (.bool true)) := by
  unfold SeenAt
  rw [heap_setCell_same _ _ _ _ _ _ h, arr_set]
  have e : (fun i => if i = k then Value.bool true else Value.bool (seen i)) = fun j => .bool (if j = k then true else seen j) := by
    funext i; by_cases hi : i = k <;> simp [hi]
  rw [e]
set_option maxRecDepth 100000 in
set_option maxHeartbeats 2000000 in
theorem viewWhole_core (v : Value) (ss : List Sess) (hlm : (ss.length : Int) ≤ 9223372036854775807) (hok : ∀ s ∈ ss, SessOK s) (now : Int) (wn : (Lit.int .i64 now).wf = true) (w : World) (he : VEnv w) (h1 : SessArg w v ss) :
    Calls Tryz.prog 58 #[v, .int .i64 now] w fun e w' => e = .returned (.bool true) ∧ Below w.heap.size w w' := by
  obtain ⟨p0, c0, rfl, -⟩ := id h1
  have HA := Lib.hid h1
  have HWK := Lib.hid (fun (w' : World) (hb : Below w.heap.size w w') => vworks_any w' (he.below hb))
  have HBK := Lib.hid (vbook_any w he.max)
  have HE := Lib.hid he; have HOK := Lib.hid hok
  clear he h1 hok
  by_cases hbig : 100 < ss.length
  · have b1 : (100 : Int) < (ss.length : Int) := by omega
    clear hbig
    go_enter Tryz.func58, Tryz.ntmps58
    go_wp2_with fail
    refine HBK.out.mono ?_
    rintro e w1 ⟨lo, B, rfl, hB, hb1⟩
    have HB1 := Lib.hid hb1
    clear hB hb1
    go_wp2_with fail
    refine (HWK.out _ HB1.out).mono ?_
    rintro e w2 ⟨rfl, hb2⟩
    have HB2 : Hid (Below w.heap.size w w2) := HB1.out.trans (hb2.mono HB1.out.size)
    clear hb2
    go_wp2_with fail
    refine (HWK.out _ HB2.out).mono ?_
    rintro e w3 ⟨rfl, hb3⟩
    have HB3 : Hid (Below w.heap.size w w3) := HB2.out.trans (hb3.mono HB2.out.size)
    clear hb3
    go_wp2
    go_ret
    exact ⟨rfl, HB3.out⟩
  have b1 : (ss.length : Int) ≤ 100 := by omega
  have HLN := Lib.hid (show ss.length ≤ 100 by omega)
  clear hbig hlm
  go_enter Tryz.func58, Tryz.ntmps58
  go_wp2_with fail
  refine HBK.out.mono ?_
  rintro e w1 ⟨lo, B, rfl, hB, hb1⟩
  have HB1 := Lib.hid hb1; have HB := Lib.hid hB
  clear hB hb1
  go_wp2_with fail
  refine (HWK.out _ HB1.out).mono ?_
  rintro e w2 ⟨rfl, hb2⟩
  have HB12 := Lib.hid hb2
  have HB2 : Hid (Below w.heap.size w w2) := HB1.out.trans (hb2.mono HB1.out.size)
  have HTR := Lib.hid (tree_any vbk_book now wn _ ss (by have := HLN.out; omega) HOK.out w2 (HE.out.below HB2.out) (HB.out.below hb2) (HA.out.below HB2.out))
  clear hb2
  go_wp2_with fail
  refine HTR.out.mono ?_
  rintro e w3 ⟨hp, hb3⟩
  have HB23 := Lib.hid hb3
  have HB3 : Hid (Below w.heap.size w w3) := HB2.out.trans (hb3.mono HB2.out.size)
  clear hb3 HTR
  rcases hp with ⟨i, hi, -, -, rfl⟩ | ⟨hall, d, rfl, hown⟩
  · clear hi
    go_wp2
    go_ret
    exact ⟨rfl, HB3.out⟩
  rw [ordV_len] at hown
  obtain ⟨q, cd, rfl, -⟩ := own_any_shape hown
  have HOWN := Lib.hid hown; have HALL := Lib.hid hall
  clear hown hall
  have hne : ((ss.length : Int) != (ss.length : Int)) = false := by simp
  go_wp2_with fail
  -- THE LOOPS
  have hzc : Tryz.zeroCells150 = arr 100 (fun _ => .bool false) := by kernel_rfl
  rw [hzc]
  clear hzc
  obtain ⟨W4, hW4⟩ : ∃ W4, W4 = w3.alloc (.cells (arr 100 (fun _ => .bool false)) 150) := ⟨_, rfl⟩
  have hwo : WO (lineS vbk ss now) ss w3.heap.size W4 0 (fun _ => false) W4 := ⟨Nat.zero_le _, fun x => by simp [cSeen, cTree], by rw [hW4]; exact Ut.alloc_at _ _, Only.refl _ _⟩
  have hb34 : Below w3.heap.size w3 W4 := by rw [hW4]; exact (Below.refl _ _).alloc (Nat.le_refl _) _
  have HW0 := Lib.hid hwo
  have HON : Hid (∀ A, Only (fun x => x = w3.heap.size) W4 A → Below w3.heap.size w3 A) := fun A h => hb34.trans (h.below hb34.size (fun i hi e => by omega))
  rw [← hW4]
  clear hW4 hwo hb34
  go_loopw [9, 10] (fun la i wr => ∃ (k : Nat) (seen : Nat → Bool), i = .int .i64 k ∧ la = .int .i64 (lastF ss k) ∧ WO (lineS vbk ss now) ss w3.heap.size W4 k seen wr) (fun _ i _ => ss.length - (intOf i).toNat)
  case atStart => exact ⟨0, _, rfl, rfl, HW0.out⟩
  case round =>
    obtain ⟨k, seen, rfl, rfl, hwo⟩ := hrel
    have HWO := Lib.hid hwo
    have hk := hwo.le
    have hbr := HON.out wr hwo.only
    have HBR := Lib.hid hbr
    clear hwo
    have z0 : (0 : Int) ≤ (k : Int) := by omega
    by_cases h : k < ss.length
    · have z1 : (k : Int) < (ss.length : Int) := by omega
      have hko : k < (ordV ss).length := by rw [ordV_len]; exact h
      obtain ⟨pl, hpl⟩ : ∃ pl, pl = (ordV ss)[k] := ⟨_, rfl⟩
      have hpi : pl.2 < ss.length := by rw [hpl]; exact ordV_lt ss _ (List.getElem_mem hko)
      have hfk : farK ss k = pl.1 := by rw [farK_at hko, hpl]
      have hfl := farK_le hko
      have hst := lastF_step hko
      have hbd := lastF_bd (Nat.le_of_lt hko)
      obtain ⟨L, hL⟩ : ∃ L, L = lastF ss k := ⟨_, rfl⟩
      rw [← hL] at hst hbd ⊢
      obtain ⟨c, r, hT, hc, hLs⟩ := treeS_list (ls := vbk) (now := now) (x := pl) hpi (HALL.out _ hpi)
      have hcut := treeS_cut (ls := vbk) (ss := ss) (now := now) (x := pl)
      obtain ⟨TS, hTS⟩ : ∃ TS, TS = treeS vbk ss now pl := ⟨_, rfl⟩
      obtain ⟨X, hX⟩ : ∃ X, X = lineS vbk ss now pl.2 := ⟨_, rfl⟩
      rw [← hTS] at hT hcut
      rw [← hX] at hcut
      obtain ⟨m, hm⟩ : ∃ m : Nat, m = 2 * pl.1 := ⟨_, rfl⟩
      rw [← hm] at hT hcut
      have hsz : m ≤ TS.size := by
        have h1 : TS.size = TS.data.toList.length := rfl
        rw [h1, hT, List.length_append, List.length_replicate]; omega
      have HBL := Lib.hid (fun (W : World) => blanks_any TS m (by have := HLN.out; omega) c r hT hc W)
      have hta : ∀ A, Below w3.heap.size w3 A → ∃ g o, q = some ⟨g, o, none⟩ ∧ A.cell? ⟨g, o + k, none⟩ = some (.string TS) := fun A hb => by
        have h1 : TextArg A (.slice q ss.length cd) ((ordV ss).map (treeS vbk ss now)) := by
          have h2 := Tx.own_arg (ps := (ordV ss).map (treeS vbk ss now)) (w := w3) (v := .slice q ss.length cd) (base := w2.heap.size) (by rw [List.length_map, ordV_len, List.map_map]; exact HOWN.out)
          exact h2.below hb
        obtain ⟨p, cap, e, h3⟩ := h1
        obtain ⟨rfl, -, -⟩ := Value.slice.inj e
        obtain ⟨g, o, h4, -, h5⟩ := h3 k (by rw [List.length_map]; exact hko)
        refine ⟨g, o, h4, ?_⟩
        rw [h5, List.getElem_map, ← hpl, ← hTS]
      obtain ⟨g, o, rfl, x1⟩ := hta wr HBR.out
      have HTA : Hid (∀ A, Below w3.heap.size w3 A → A.cell? ⟨g, o + k, none⟩ = some (.string TS)) := fun A hb => by
        obtain ⟨g', o', e, h9⟩ := hta A hb
        cases e; exact h9
      have q1 : (m : Int).tmod 2 = 0 := by rw [hm]; show ((2 * pl.1 : Nat) : Int).tmod 2 = 0; rw [Int.tmod_eq_emod_of_nonneg (by omega)]; omega
      have q2 : decide (L + 2 < (m : Int)) = false := decide_eq_false (by omega)
      have wL : IntKind.i64.wrap (L + 2) = L + 2 := IntWalk.i64_in _ (by omega)
      have HK := Lib.hid h; have HKO := Lib.hid hko; have HPL := Lib.hid hpl; have HXX := Lib.hid hX
      have HM : Hid ((m : Int) = lastF ss (k + 1)) := by
        show (m : Int) = 2 * (farK ss k : Int)
        rw [hfk, hm]; omega
      have hmz : (m : Int) ≤ (TS.size : Int) := by omega
      have m0 : (0 : Int) ≤ (m : Int) := by omega
      clear h hpi hfk hfl hst hbd hL hT hc hLs hTS hX hm hta hbr
      go_wp2_with fail
      refine (HBL.out wr).mono ?_
      rintro e w5 ⟨rfl, hb5⟩
      have HB45 : Hid (Only (fun x => x = w3.heap.size) W4 w5 ∧ SeenAt w3.heap.size seen w5) := by
        refine ⟨HWO.out.only.trans (Only.of_below hb5) (fun i _ hi => hi), ?_⟩
        have h9 := HWO.out.at_
        exact (hb5.block _ (Array.getElem?_eq_some_iff.1 h9).1).trans h9
      clear hb5 HBL x1
      go_wp2_with fail
      have hd1 : decide (k < ss.length) = true := decide_eq_true HK.out
      go_loopw [12, 13] (fun f j wr => ∃ (mj : Nat) (fb : Bool), mj ≤ ss.length ∧ j = .int .i64 mj ∧ f = .bool fb ∧ Only (fun x => x = w3.heap.size) W4 wr ∧ ((fb = false ∧ (∀ t, t < mj → seen t = true ∨ lineS vbk ss now t ≠ X) ∧ SeenAt w3.heap.size seen wr) ∨ (fb = true ∧ ∃ t, t < ss.length ∧ seen t = false ∧ lineS vbk ss now t = X ∧ SeenAt w3.heap.size (fun j => if j = t then true else seen j) wr))) (fun _ j _ => ss.length - (intOf j).toNat)
      case atStart => exact ⟨0, false, Nat.zero_le _, rfl, rfl, HB45.out.1, .inl ⟨rfl, fun t ht => absurd ht (Nat.not_lt_zero _), HB45.out.2⟩⟩
      case round =>
        obtain ⟨mj, fb, hmj, rfl, rfl, hon, hca⟩ := hrel
        have HON6 := Lib.hid hon; have HCA := Lib.hid hca
        have HB6 := Lib.hid (HON.out wr hon)
        clear hon hca
        have y0 : (0 : Int) ≤ (mj : Int) := by omega
        cases fb with
        | true =>
          have HNX : Hid (∃ seen', WO (lineS vbk ss now) ss w3.heap.size W4 (k + 1) seen' wr) := by
            rcases HCA.out with ⟨h, -⟩ | ⟨-, t, ht, hs, hx, hsa⟩
            · cases h
            · exact ⟨_, HK.out, fun x => cSeen_next HKO.out ht HWO.out.cnt hs (by rw [hx, HXX.out, HPL.out]) x, hsa, HON6.out⟩
          clear HCA
          by_cases h : mj < ss.length
          · have y1 : (mj : Int) < (ss.length : Int) := by omega
            clear h hmj
            obtain ⟨seen', hnx⟩ := HNX.out
            have HNX := Lib.hid hnx
            clear hnx
            go_wp2
            go_roundw
            case rel => exact ⟨k + 1, _, by go_num, by rw [HM.out], HNX.out⟩
            case measure => have := HK.out; simp [intOf]; omega
          · have y1 : (ss.length : Int) ≤ (mj : Int) := by omega
            clear h hmj
            obtain ⟨seen', hnx⟩ := HNX.out
            have HNX := Lib.hid hnx
            clear hnx
            go_wp2
            go_roundw
            case rel => exact ⟨k + 1, _, by go_num, by rw [HM.out], HNX.out⟩
            case measure => have := HK.out; simp [intOf]; omega
        | false =>
          have hne : (∀ t, t < mj → seen t = true ∨ lineS vbk ss now t ≠ X) ∧ SeenAt w3.heap.size seen wr := by
            rcases HCA.out with ⟨-, h⟩ | ⟨h, -⟩
            · exact h
            · cases h
          clear HCA
          by_cases h : mj < ss.length
          · have y1 : (mj : Int) < (ss.length : Int) := by omega
            have hd2 : decide (mj < ss.length) = true := decide_eq_true h
            have HMJ := Lib.hid h
            obtain ⟨g1, o1, rfl, hg1, k1⟩ := HA.out.at HMJ.out
            obtain ⟨cs, hcs⟩ : ∃ cs, cs = ss[mj].cells := ⟨_, rfl⟩
            have hbw : Below w.heap.size w wr := HB3.out.trans (HB6.out.mono HB3.out.size)
            have HRG : Hid (wr.rangeAt g1 (o1 + mj * 12) cs) := fun j u hu => (hbw.cell (p := ⟨g1, o1 + mj * 12 + j, none⟩) hg1).trans (k1 j u (by rw [hcs] at hu; exact hu))
            have HCL : Hid (cs.length = 12) := by show _ = _; rw [hcs]; rfl
            have hlnc : Calls Tryz.prog 7 #[.pointer (some ⟨B, 0, none⟩), .agg cs.toArray, .int .i64 now] wr fun e w' => (e = .returned (.tuple #[.string (lineS vbk ss now mj), .nilIface])) ∧ Below wr.heap.size wr w' := by
              rw [hcs]
              refine (vline_any vbk_book now wn ss[mj] (HOK.out _ (List.getElem_mem HMJ.out)) wr (HE.out.below hbw) (HB.out.below (HB12.out.trans ((HB23.out.trans (HB6.out.mono HB23.out.size)).mono HB12.out.size)))).mono fun e w' hp => ⟨?_, hp.2⟩
              have h3 := line_post HMJ.out hp.1
              rw [HALL.out mj HMJ.out] at h3
              exact h3
            have HLC := Lib.hid hlnc
            have HNE := Lib.hid hne
            obtain ⟨LS, hLS⟩ : ∃ LS, LS = lineS vbk ss now mj := ⟨_, rfl⟩
            rw [← hLS] at HLC
            have HLS := Lib.hid hLS
            clear hlnc hcs k1 hg1 hbw hne h hmj hLS
            go_wp2_with (refine wpList_load_mid (by rfl) 30 _ (by rfl) _ _ (by rfl) cs _ HRG.out Tryz.underlying30 rfl (by rw [HCL.out]; kernel_rfl) ?_)
            refine HLC.out.mono ?_
            rintro e w7 ⟨rfl, hb7⟩
            have HON7 : Hid (Only (fun x => x = w3.heap.size) W4 w7) := HON6.out.trans (Only.of_below hb7) (fun i _ hi => hi)
            have hsa7 : SeenAt w3.heap.size seen w7 := (hb7.block _ (Array.getElem?_eq_some_iff.1 HNE.out.2).1).trans HNE.out.2
            have x4 := HTA.out w7 (HON.out w7 HON7.out)
            have x5 : w7.cell? ⟨w3.heap.size, mj, none⟩ = some (.bool (seen mj)) := by rw [block_cell hsa7, arr_at (by have := HMJ.out; have := HLN.out; omega)]
            have x6 : w7.frozen? ⟨w3.heap.size, mj, none⟩ = false := block_free hsa7 _
            have y2 : (mj : Int) < 100 := by have := HMJ.out; have := HLN.out; omega
            have HSA7 := Lib.hid hsa7
            clear hb7 hsa7 HLC
            cases hs : seen mj with
            | true =>
              rw [hs] at x5
              have HREL : Hid (∀ t, t < mj + 1 → seen t = true ∨ lineS vbk ss now t ≠ X) := fun t ht => by
                rcases Nat.lt_succ_iff_lt_or_eq.1 ht with h9 | rfl
                · exact HNE.out.1 t h9
                · exact .inl hs
              clear hs
              go_wp2
              go_roundw
              case rel => exact ⟨mj + 1, false, HMJ.out, by go_num, rfl, HON7.out, .inl ⟨rfl, HREL.out, HSA7.out⟩⟩
              case measure => have := HMJ.out; simp [intOf]; omega
            | false =>
              rw [hs] at x5
              have HS := Lib.hid hs
              clear hs
              by_cases hx : LS = X
              · have hq : (LS.toList == X.toList) = true := by rw [hx]; simp
                have HEQ : Hid (lineS vbk ss now mj = X) := HLS.out.symm.trans hx
                have HSA8 := Lib.hid (HSA7.out.set (k := mj))
                have HON8 : Hid (Only (fun x => x = w3.heap.size) W4 (w7.setCell ⟨w3.heap.size, mj, none⟩ (.bool true))) := HON7.out.setCell (p := ⟨w3.heap.size, mj, none⟩) (fun _ => rfl) _
                clear hx
                go_wp2
                go_roundw
                case rel => exact ⟨mj + 1, true, HMJ.out, by go_num, rfl, HON8.out, .inr ⟨rfl, mj, HMJ.out, HS.out, HEQ.out, HSA8.out⟩⟩
                case measure => have := HMJ.out; simp [intOf]; omega
              · have hq : (LS.toList == X.toList) = false := by
                  rw [beq_eq_false_iff_ne]; intro h9; exact hx (by rw [Lib.toList_data, Lib.toList_data] at h9; exact ByteArray.ext (Array.toList_inj.1 h9))
                have HREL : Hid (∀ t, t < mj + 1 → seen t = true ∨ lineS vbk ss now t ≠ X) := fun t ht => by
                  rcases Nat.lt_succ_iff_lt_or_eq.1 ht with h9 | rfl
                  · exact HNE.out.1 t h9
                  · exact .inr (by rw [← HLS.out]; exact hx)
                clear hx
                go_wp2
                go_roundw
                case rel => exact ⟨mj + 1, false, HMJ.out, by go_num, rfl, HON7.out, .inl ⟨rfl, HREL.out, HSA7.out⟩⟩
                case measure => have := HMJ.out; simp [intOf]; omega
          · exact (cSeen_some (T := lineS vbk ss now) HKO.out HWO.out.cnt (fun t ht => by
              rw [← HPL.out, ← HXX.out]
              exact hne.1 t (by omega))).elim
    · have z1 : (ss.length : Int) ≤ (k : Int) := by omega
      obtain rfl : k = ss.length := by omega
      clear h
      go_wp2
      go_ret
      exact ⟨rfl, HB3.out.trans (HBR.out.mono HB3.out.size)⟩
end Vw
end Go.Proofs.YtocoonkachbjaaaGreatDoor

/- twice: have two sessions one birth number? -/
namespace Go.Proofs.YtocoonkachbjaaaGreatDoor
open Go.RowKit
set_option linter.unusedVariables false
namespace Vw
/-- The first n have birth numbers of their own. -/
def Own (ss : List Sess) (n : Nat) : Prop := ∀ (i k : Nat) (hi : i < ss.length) (hk : k < ss.length), i < n → k < i → ss[i].birth ≠ ss[k].birth

set_option maxRecDepth 100000 in
set_option maxHeartbeats 2000000 in
theorem twice_any (v : Value) (ss : List Sess) (hl : (ss.length : Int) ≤ 9223372036854775806) (w : World) (h1 : SessArg w v ss) :
    Calls Tryz.prog 99 #[v] w fun e w' => (∃ q : Bool, e = .returned (.bool q) ∧ (q = false → Own ss ss.length)) ∧ Below w.heap.size w w' := by
  obtain ⟨p, cp, rfl, -⟩ := id h1
  have H1 := Lib.hid h1
  clear h1
  go_enter Tryz.func99, Tryz.ntmps99
  go_wp2
  go_loopw [3] (fun i wr => ∃ m : Nat, m ≤ ss.length ∧ i = .int .i64 m ∧ Own ss m ∧ Below w.heap.size w wr) (fun i _ => ss.length - (intOf i).toNat)
  case atStart => exact ⟨0, Nat.zero_le _, rfl, fun i k _ _ h => absurd h (Nat.not_lt_zero _), Below.refl _ _⟩
  case round =>
    obtain ⟨m, hm, rfl, hown, hb1⟩ := hrel
    have HO := Lib.hid hown; have HB1 := Lib.hid hb1
    clear hown hb1
    have b0 : (0 : Int) ≤ (m : Int) := by omega
    by_cases h : m < ss.length
    · have b1 : (m : Int) < (ss.length : Int) := by omega
      have hd1 : decide (m < ss.length) = true := decide_eq_true h
      have HM := Lib.hid h
      obtain ⟨g1, o1, rfl, hg1, k1⟩ := H1.out.at HM.out
      have HK1 := Lib.hid k1; have HG1 := Lib.hid hg1
      clear k1 h hg1
      go_wp2
      obtain ⟨wq, rfl⟩ : ∃ x, x = wr := ⟨_, rfl⟩
      go_loopw [4] (fun i wr => ∃ k : Nat, k ≤ m ∧ i = .int .i64 k ∧ (∀ (j : Nat) (hj : j < ss.length) (hmm : m < ss.length), j < k → ss[m].birth ≠ ss[j].birth) ∧ Below w.heap.size w wr) (fun i _ => m - (intOf i).toNat)
      case atStart => exact ⟨0, Nat.zero_le _, rfl, fun j _ _ h => absurd h (Nat.not_lt_zero _), HB1.out⟩
      case round =>
        obtain ⟨k, hk, rfl, hne, hb2⟩ := hrel
        have HN := Lib.hid hne; have HB2 := Lib.hid hb2
        clear hne
        have c0 : (0 : Int) ≤ (k : Int) := by omega
        by_cases h2 : k < m
        · have hkl : k < ss.length := Nat.lt_trans h2 HM.out
          have c1 : (k : Int) < (m : Int) := by omega
          have c2 : (k : Int) < (ss.length : Int) := by omega
          have hd2 : decide (k < m) = true := decide_eq_true h2
          have HKL := Lib.hid hkl
          obtain ⟨g2, o2, e2, hg2, k2⟩ := H1.out.at HKL.out
          obtain ⟨rfl, rfl⟩ : g1 = g2 ∧ o1 = o2 := by simpa using e2
          have x1 : wr.cell? ⟨g1, o1 + m * 12 + 1, none⟩ = some (.int .i64 (ss[m]'HM.out).birth) := (hb2.cell (p := ⟨g1, o1 + m * 12 + 1, none⟩) hg2).trans (HK1.out 1 _ rfl)
          have x2 : wr.cell? ⟨g1, o1 + k * 12 + 1, none⟩ = some (.int .i64 (ss[k]'HKL.out).birth) := (hb2.cell (p := ⟨g1, o1 + k * 12 + 1, none⟩) hg2).trans (k2 1 _ rfl)
          obtain ⟨bm, hbm⟩ : ∃ bm, bm = (ss[m]'HM.out).birth := ⟨_, rfl⟩
          obtain ⟨bk, hbk⟩ : ∃ bk, bk = (ss[k]'HKL.out).birth := ⟨_, rfl⟩
          rw [← hbm] at x1; rw [← hbk] at x2
          have HNX : Hid (bm ≠ bk → ∀ (j : Nat) (hj : j < ss.length) (hmm : m < ss.length), j < k + 1 → ss[m].birth ≠ ss[j].birth) := fun hne j hj hmm hlt => by
            rcases Nat.lt_succ_iff_lt_or_eq.1 hlt with h9 | rfl
            · exact HN.out j hj hmm h9
            · rw [← hbm, ← hbk]; exact hne
          have HH2 := Lib.hid h2
          clear hbm hbk k2 h2 hkl e2 hg2
          by_cases he : bm = bk
          · subst he
            have hq : (bm == bm) = true := by simp
            go_wp2
            go_quiet (fail)
            go_wp2
            go_ret
            exact ⟨⟨true, rfl, fun h => by cases h⟩, Ut.below_drewN hb2 _⟩
          · have hq : (bm == bk) = false := by rw [beq_eq_false_iff_ne]; exact he
            have HE := Lib.hid he
            clear he
            go_wp2
            go_quiet (fail)
            go_wp2
            go_roundw
            case rel => have := HH2.out; exact ⟨k + 1, by omega, by go_num, HNX.out HE.out, Ut.below_drewN hb2 _⟩
            case measure => have := HH2.out; simp [intOf]; omega
        · have c1 : (m : Int) ≤ (k : Int) := by omega
          have hd2 : decide (k < m) = false := decide_eq_false h2
          have hkm : k = m := by omega
          have HOX : Hid (Own ss (m + 1)) := fun i j hi hj him hji => by
            rcases Nat.lt_succ_iff_lt_or_eq.1 him with h9 | rfl
            · exact HO.out i j hi hj h9 hji
            · exact HN.out j hj hi (by omega)
          clear h2 hkm
          go_wp2
          go_roundw
          case rel => have := HM.out; exact ⟨m + 1, by omega, by go_num, HOX.out, HB2.out⟩
          case measure => have := HM.out; simp [intOf]; omega
    · have b1 : (ss.length : Int) ≤ (m : Int) := by omega
      have e : m = ss.length := by omega
      have HO3 : Hid (Own ss ss.length) := by have := HO.out; rw [e] at this; exact this
      clear h e
      go_wp2
      go_ret
      exact ⟨⟨false, rfl, fun _ => HO3.out⟩, HB1.out⟩
end Vw
end Go.Proofs.YtocoonkachbjaaaGreatDoor

/- ViewKids' plain law: of those below one, the ones a step below are its children. No program in sight. -/
namespace Go.Proofs.YtocoonkachbjaaaGreatDoor
open Go.RowKit
set_option linter.unusedVariables false
namespace Vw
theorem pre_level (kids : Nat → List Nat) (f far : Nat) : ∀ l : List Nat, ((Vt.pre kids (f + 1) far l).filter fun x => decide (x.1 = far)).map Prod.snd = l
  | [] => rfl
  | i :: r => by
    have h1 : (Vt.pre kids f (far + 1) (kids i)).filter (fun x => decide (x.1 = far)) = [] := by
      rw [List.filter_eq_nil_iff]
      intro x hx
      have := Vt.pre_far kids f (far + 1) (kids i) x hx
      simp; omega
    rw [Vt.pre_cons, List.filter_cons_of_pos (by simp), List.filter_append, h1, List.nil_append, List.map_cons, pre_level kids f far r]
theorem pre_one (kids : Nat → List Nat) (f p : Nat) : ((Vt.pre kids (f + 2) 0 [p]).filter fun x => decide (x.1 = 1)).map Prod.snd = kids p := by
  rw [Vt.pre_cons, Vt.pre_nil, List.append_nil, List.filter_cons_of_neg (by simp)]
  exact pre_level kids f 1 (kids p)
theorem preL_one {ss : List Sess} {b : Int} (hb : b ≠ 0) : ((preL ss b).filter fun x => decide (x.1 = 1)).map Prod.snd = kidsOf ss b := by
  rw [preL_pre]
  unfold kidsOf
  rw [if_neg hb]
  cases hf : firstL ss b with
  | none => rfl
  | some p =>
    have hp := firstL_lt hf
    obtain ⟨f, hf2⟩ : ∃ f, ss.length + 1 = f + 2 := ⟨ss.length - 1, by omega⟩
    show ((Vt.pre (kidsF ss) (ss.length + 1) 0 [p]).filter _).map _ = _
    rw [hf2, pre_one]
    rfl
theorem firstL_birth {ss : List Sess} {b : Int} {p : Nat} (h : firstL ss b = some p) : (ss[p]'(firstL_lt h)).birth = b := by
  unfold firstL at h
  obtain ⟨hlt, h1, -⟩ := List.findIdx?_eq_some_iff_getElem.1 h
  simpa using h1
theorem preL_zero {ss : List Sess} {b : Int} (x : Nat × Nat) (hx : x ∈ preL ss b) (h0 : x.1 = 0) : firstL ss b = some x.2 := by
  rw [preL_pre] at hx
  cases hf : firstL ss b with
  | none => rw [hf] at hx; cases hx
  | some p =>
    rw [hf] at hx
    have hx2 : x ∈ Vt.pre (kidsF ss) (ss.length + 1) 0 [p] := hx
    rw [Vt.pre_cons, Vt.pre_nil, List.append_nil] at hx2
    rcases List.mem_cons.1 hx2 with rfl | h
    · rfl
    · have := Vt.pre_far _ _ _ _ x h
      omega
end Vw
end Go.Proofs.YtocoonkachbjaaaGreatDoor
