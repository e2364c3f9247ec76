/- lineagekit.Place and At of a Fault of package api. -/
import Derived.Test.YtocoonkachbjaaaGreatDoorErrA2
import Derived.Deep.RegionWith
namespace Go.Proofs.YtocoonkachbjaaaGreatDoor
open Go.RowKit Go.Extern.Stop Go.Stop Go.Extern
set_option linter.unusedVariables false
namespace Fl

theorem Hit.below {w w' : World} {N B : Nat} {n a : Int} (h : Hit w N n a w') (hN : B ≤ N) (hB : B ≤ w.heap.size) : Below B w w' :=
  (Below.refl B w).grown h.2 hB (fun j hj => by cases hj; exact hN)

set_option maxHeartbeats 2000000 in
theorem place_flt (a n : Int) (h1 : 1 ≤ n) (h2 : n ≤ 24) (w : World) (hg : erHandle w) :
    Calls Tryz.prog 46 #[.iface 62 (fv a n)] w fun e w' => e = .returned (.tuple #[.int .i64 a, .bool true]) ∧ Below w.heap.size w w' := by
  have hA := as_hit a n 0 0 w.heap.size (w.alloc (.cells #[.int .i64 0, .int .i64 0] 62)) (hg.below hg.lt ((Below.refl _ w).alloc (Nat.le_refl _) _)) (Ut.alloc_at _ _)
  have hN := Lib.hid (fun w' => num_fault a n h1 h2 w')
  obtain ⟨v, hv⟩ : ∃ v, v = fv a n := ⟨_, rfl⟩
  rw [← hv] at hA hN ⊢
  have HA := Lib.hid hA
  have hq : (n == n) = true := by simp
  clear hv hA hg
  go_enter Tryz.func46, Tryz.ntmps46
  go_wp2_with fail
  refine HA.out.mono ?_
  rintro e w1 ⟨rfl, hh⟩
  have hbl : Below w.heap.size w w1 := ((Below.refl _ w).alloc (Nat.le_refl _) _).trans (hh.below (Nat.le_refl _) (by simp))
  have c0 : w1.cell? ⟨w.heap.size, 0, none⟩ = some (.int .i64 n) := by rw [cell_of_row w1 _ 0 _ _ _ hh.1]; rfl
  have c1 : w1.cell? ⟨w.heap.size, 1, none⟩ = some (.int .i64 a) := by rw [cell_of_row w1 _ 1 _ _ _ hh.1]; rfl
  have hz : w.heap.size < w1.heap.size := (Array.getElem?_eq_some_iff.1 hh.1).1
  have HB := Lib.hid hbl
  clear hh hbl
  go_wp2_with fail
  go_region_with (go_at_call 37; refine (hN.out _).mono ?_; rintro e w2 ⟨rfl, hb2⟩; have k0 := (hb2.cell (p := ⟨w.heap.size, 0, none⟩) hz).trans c0; have k1 := (hb2.cell (p := ⟨w.heap.size, 1, none⟩) hz).trans c1)
  all_goals
    go_wp2
    go_ret2
    exact ⟨rfl, HB.out.trans ((Ut.below_drewN (Below.refl _ _) 1).trans (hb2.mono HB.out.size))⟩

set_option maxHeartbeats 2000000 in
theorem at_flt (a n : Int) (h1 : 1 ≤ n) (h2 : n ≤ 24) (w : World) (hg : erHandle w) :
    Calls Tryz.prog 14 #[.iface 62 (fv a n), .int .i64 n, .int .i64 a] w fun e w' => e = .returned (.bool true) ∧ Below w.heap.size w w' := by
  have hP := place_flt a n h1 h2 w hg
  have hN := Lib.hid (fun w' => num_fault a n h1 h2 w')
  obtain ⟨v, hv⟩ : ∃ v, v = fv a n := ⟨_, rfl⟩
  rw [← hv] at hP hN ⊢
  have HP := Lib.hid hP
  have hq : (n == n) = true := by simp
  have hq2 : (a == a) = true := by simp
  have hq3 : (n == 0) = false := by rw [beq_eq_false_iff_ne]; omega
  clear hv hP hg
  go_enter Tryz.func14, Tryz.ntmps14
  go_wp2_with fail
  refine HP.out.mono ?_
  rintro e w1 ⟨rfl, hb1⟩
  go_wp2_with fail
  refine (hN.out _).mono ?_
  rintro e w2 ⟨rfl, hb2⟩
  go_wp2
  go_ret
  exact ⟨rfl, hb1.trans (hb2.mono hb1.size)⟩

end Fl
end Go.Proofs.YtocoonkachbjaaaGreatDoor
