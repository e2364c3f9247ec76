/- NamesUnder, NamesAbove, NamesOrder: the laws' walks. -/
import Derived.Test.YtmodhjbkgohoiaaDoorNmUnder
import Derived.Test.YtmodhjbkgohoiaaDoorNmWalk
namespace Go.Proofs.YtmodhjbkgohoiaaDoor
open Go.RowKit Go.Proofs.NmPlain
set_option linter.unusedVariables false

/-- names.Compare with what it leaves said by 'Below'. -/
theorem compare_below (a b : ByteArray) (ha : (a.size : Int) ≤ 16777216) (hb : (b.size : Int) ≤ 16777216) (w : World) (hm : MaxAt w) :
    Calls Tryd.prog 20 #[.string a, .string b] w fun e w' => e = .returned (.int .i64 (ncmp a.data.toList b.data.toList)) ∧ Below w.heap.size w w' := by
  obtain ⟨m, hm⟩ := hm
  exact (compare_any a b m w (by omega) (by omega) hm).mono fun e w' ⟨h1, n, h2⟩ => ⟨h1, by rw [h2]; exact Ut.below_drewN (Below.refl _ _) n⟩

theorem wk1 : dotB [109, 97, 105, 108, 46, 114, 101, 97, 100] = true := by decide +kernel
theorem wk2 : underB [109, 97, 105, 108, 46, 114, 101, 97, 100] [109, 97, 105, 108] = true := by decide +kernel
theorem wk3 : underB [109, 97, 105, 108] [109, 97, 105, 108, 46, 114, 101, 97, 100] = false := by decide +kernel
theorem wk4 : ncmp [97] [97, 46, 98] = -1 := by decide +kernel
theorem wk5 : ncmp [98] [97] = 1 := by decide +kernel

set_option maxHeartbeats 1000000 in
theorem works_any (w : World) (hm : MaxAt w) :
    Calls Tryd.prog 19 #[] w fun e w' => e = .returned (.bool true) ∧ Below w.heap.size w w' := by
  have h1 := fun (w' : World) (hb : Below w.heap.size w w') => dotted_any ⟨#[109, 97, 105, 108, 46, 114, 101, 97, 100]⟩ (by decide) w' (hm.below hb)
  have h2 := fun (w' : World) (hb : Below w.heap.size w w') => under_any ⟨#[109, 97, 105, 108, 46, 114, 101, 97, 100]⟩ ⟨#[109, 97, 105, 108]⟩ (by decide) (by decide) w' (hm.below hb)
  have h3 := fun (w' : World) (hb : Below w.heap.size w w') => under_any ⟨#[109, 97, 105, 108]⟩ ⟨#[109, 97, 105, 108, 46, 114, 101, 97, 100]⟩ (by decide) (by decide) w' (hm.below hb)
  have h4 := fun (w' : World) (hb : Below w.heap.size w w') => compare_below ⟨#[97]⟩ ⟨#[97, 46, 98]⟩ (by decide) (by decide) w' (hm.below hb)
  have h5 := fun (w' : World) (hb : Below w.heap.size w w') => compare_below ⟨#[98]⟩ ⟨#[97]⟩ (by decide) (by decide) w' (hm.below hb)
  simp only [wk1, wk2, wk3, wk4, wk5] at h1 h2 h3 h4 h5
  have H1 := Lib.hid h1; have H2 := Lib.hid h2; have H3 := Lib.hid h3; have H4 := Lib.hid h4; have H5 := Lib.hid h5
  clear h1 h2 h3 h4 h5 hm
  go_enter Tryd.func19, Tryd.ntmps19
  go_wp2_with fail
  refine (H1.out _ (Below.refl _ _)).mono ?_
  rintro e w1 ⟨rfl, b1⟩
  go_wp2_with fail
  refine (H2.out _ b1).mono ?_
  rintro e w2 ⟨rfl, b2⟩
  have c2 := b1.trans (b2.mono b1.size)
  go_wp2_with fail
  refine (H3.out _ c2).mono ?_
  rintro e w3 ⟨rfl, b3⟩
  have c3 := c2.trans (b3.mono c2.size)
  go_wp2_with fail
  refine (H4.out _ c3).mono ?_
  rintro e w4 ⟨rfl, b4⟩
  have c4 := c3.trans (b4.mono c3.size)
  go_wp2_with fail
  refine (H5.out _ c4).mono ?_
  rintro e w5 ⟨rfl, b5⟩
  go_wp2
  go_ret
  exact ⟨rfl, c4.trans (b5.mono c4.size)⟩

end Go.Proofs.YtmodhjbkgohoiaaDoor
