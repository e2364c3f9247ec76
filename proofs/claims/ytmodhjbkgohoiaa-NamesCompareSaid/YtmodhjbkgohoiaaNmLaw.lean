/- NamesCompare: the law's walk: of any two texts names.Compare and the reference's Compare answer the same. -/
import Derived.Test.YtmodhjbkgohoiaaNmRef
namespace Go.Proofs.Ytmodhjbkgohoiaa
open Go.RowKit Go.Proofs.NmPlain
set_option linter.unusedVariables false

set_option maxHeartbeats 1000000 in
theorem namesCompare_walk (a : ByteArray) (wa : a.size ≤ maxLen) (b : ByteArray) (wb : b.size ≤ maxLen) (w : World) (hsh : w.ShapedOpen Try.prog) :
    Calls Try.prog 3 #[.string a, .string b] w fun e w' => e = .returned (.bool true) ∧ Below w.heap.size w w' := by
  obtain ⟨m, hm⟩ := Try.laysM145.s1_3 w hsh
  have hg : 0 < w.heap.size := World.block_lt_of_cell? w _ hm
  unfold maxLen at wa wb
  by_cases ha : a.size ≤ 16777216
  · by_cases hb : b.size ≤ 16777216
    · go_enter Try.func3, Try.ntmps3
      go_wp2_with fail
      refine (compare_any a b m _ (by omega) (by omega) hm).mono ?_
      rintro e w' ⟨rfl, n, rfl⟩
      go_wp2_with fail
      refine (refcompare_any a b _ ha hb).mono ?_
      rintro e w' ⟨rfl, hbx⟩
      go_wp2
      go_ret
      exact ⟨rfl, (Ut.below_drewN (Below.refl _ w) n).trans hbx⟩
    · have hb' : (16777216 : Int) < (b.size : Int) := by omega
      go_enter Try.func3, Try.ntmps3
      go_wp2
      go_ret
      exact ⟨rfl, Below.refl _ _⟩
  · have ha' : (16777216 : Int) < (a.size : Int) := by omega
    go_enter Try.func3, Try.ntmps3
    go_wp2
    go_ret
    exact ⟨rfl, Below.refl _ _⟩

end Go.Proofs.Ytmodhjbkgohoiaa
