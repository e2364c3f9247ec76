/- lineagekit.Pick, of any two numbers. -/
import Derived.Test.YtocoonkachbjaaaProg
import Derived.Test.YtocoonkachbjaaaUtil
import Derived.WalkLawsBesides
import Derived.Outline
namespace Go.Proofs.Ytocoonkachbjaaa
open Go.RowKit
set_option linter.unusedVariables false
namespace Pk

theorem tmod_emod (k n : Int) (hn : 0 < n) : (k.tmod n < 0 → k.tmod n + n = k % n) ∧ (0 ≤ k.tmod n → k.tmod n = k % n) ∧ -n < k.tmod n ∧ k.tmod n < n := by
  have h1 := Int.tmod_add_tdiv_mul k n
  have h2 : -n < k.tmod n := Int.lt_tmod_of_pos k hn
  have h3 := Int.tmod_lt_of_pos k hn
  have e : (k.tmod n + k.tdiv n * n) % n = k.tmod n % n := by rw [Int.add_mul_emod_self_right]
  rw [h1] at e
  refine ⟨fun h => ?_, fun h => ?_, h2, h3⟩
  · rw [e, ← Int.add_emod_right]
    exact (Int.emod_eq_of_lt (by omega) (by omega)).symm
  · rw [e]; exact (Int.emod_eq_of_lt h h3).symm

theorem pick_any (k n : Int) (hn : 0 < n) (hb : n ≤ 4611686018427387904) (w : World) : Calls Try.prog 14 #[.int .i64 k, .int .i64 n] w fun e w' => e = .returned (.int .i64 (k % n)) ∧ w = w' := by
  obtain ⟨h1, h2, h3, h4⟩ := tmod_emod k n hn
  have n0 : (n == 0) = false := by rw [beq_eq_false_iff_ne]; omega
  have n1 : (n == -1) = false := by rw [beq_eq_false_iff_ne]; omega
  have n2 : 1 ≤ n := by omega
  have H1 := Lib.hid h1; have H2 := Lib.hid h2
  clear h1 h2
  by_cases h : k.tmod n < 0
  · go_enter Try.func14, Try.ntmps14
    go_wp2
    go_ret
    exact ⟨Ut.ret_int (H1.out h), rfl⟩
  · have h' : 0 ≤ k.tmod n := by omega
    go_enter Try.func14, Try.ntmps14
    go_wp2
    go_ret
    exact ⟨Ut.ret_int (H2.out h'), rfl⟩

/-- Of no room nothing is picked. -/
theorem pick_none (k n : Int) (hn : n < 1) (w : World) : Calls Try.prog 14 #[.int .i64 k, .int .i64 n] w fun e w' => e = .returned (.int .i64 0) ∧ w = w' := by
  go_enter Try.func14, Try.ntmps14
  go_wp2
  go_ret
  exact ⟨rfl, rfl⟩

end Pk
end Go.Proofs.Ytocoonkachbjaaa
