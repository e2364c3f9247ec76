/- lineagekit.Num and lineagekit.Plain, of a number of package api and of no error. -/
import Derived.Test.YtocoonkachbjaaaGreatDoorErrs
import Derived.Test.YtocoonkachbjaaaGreatDoorUtil
namespace Go.Proofs.YtocoonkachbjaaaGreatDoor
open Go.RowKit
set_option linter.unusedVariables false

set_option maxHeartbeats 1000000 in
theorem num_errno (k : Int) (h1 : 1 ≤ k) (h2 : k ≤ 24) (w : World) :
    Calls Tryz.prog 37 #[.iface 55 (.int .i64 k)] w fun e w' => e = .returned (.int .i64 k) ∧ w = w' := by
  have hk0 : (k == 0) = false := by rw [beq_eq_false_iff_ne]; omega
  go_enter Tryz.func37, Tryz.ntmps37
  go_wp2
  go_loop [3, 4] (fun f n => ∃ m : Int, 1 ≤ m ∧ m ≤ 25 ∧ n = .int .i64 m ∧ ((m ≤ k ∧ f = .int .i64 0) ∨ (k < m ∧ f = .int .i64 k))) (fun _ n => (25 - intOf n).toNat)
  case atStart => exact ⟨1, by omega, by omega, rfl, .inl ⟨h1, rfl⟩⟩
  case round =>
    obtain ⟨m, hm1, hm2, rfl, hf⟩ := hrel
    by_cases hm : m ≤ 24
    · rcases hf with ⟨hle, rfl⟩ | ⟨hlt, rfl⟩
      · by_cases he : k = m
        · subst he
          have hq : (k == k) = true := by simp
          go_wp2_with fail
          refine (is_errno k k _).mono ?_
          rintro e w' ⟨rfl, rfl⟩
          go_wp2
          go_round
          case rel => exact ⟨k + 1, by omega, by omega, rfl, .inr ⟨by omega, rfl⟩⟩
          case measure => simp [intOf]; omega
        · have hq : (k == m) = false := by rw [beq_eq_false_iff_ne]; exact he
          go_wp2_with fail
          refine (is_errno k m _).mono ?_
          rintro e w' ⟨rfl, rfl⟩
          go_wp2
          go_round
          case rel => exact ⟨m + 1, by omega, by omega, rfl, .inl ⟨by omega, rfl⟩⟩
          case measure => simp [intOf]; omega
      · have hq : (k == m) = false := by rw [beq_eq_false_iff_ne]; omega
        go_wp2_with fail
        refine (is_errno k m _).mono ?_
        rintro e w' ⟨rfl, rfl⟩
        go_wp2
        go_round
        case rel => exact ⟨m + 1, by omega, by omega, rfl, .inr ⟨by omega, rfl⟩⟩
        case measure => simp [intOf]; omega
    · rcases hf with ⟨hle, rfl⟩ | ⟨hlt, rfl⟩
      · omega
      · go_wp2_with fail
        refine (is_errno k 0 _).mono ?_
        rintro e w' ⟨rfl, rfl⟩
        go_wp2
        go_ret
        exact ⟨rfl, rfl⟩

theorem num_nil (w : World) : Calls Tryz.prog 37 #[.nilIface] w fun e w' => e = .returned (.int .i64 0) ∧ w = w' := by
  go_enter Tryz.func37, Tryz.ntmps37
  go_wp2
  go_ret
  exact ⟨rfl, rfl⟩

/-- An error that is nil, or a number of package api. -/
def errVal (k : Int) : Value := if k = 0 then .nilIface else .iface 55 (.int .i64 k)

set_option maxHeartbeats 1000000 in
theorem plain_errno (k n : Int) (h1 : 1 ≤ k) (h2 : k ≤ 24) (w : World) (hg : erHandle w) :
    Calls Tryz.prog 9 #[.iface 55 (.int .i64 k), .int .i64 n] w fun e w' => e = .returned (.bool (k == n)) ∧ Below w.heap.size w w' := by
  have hh : ∀ o, erHandle (w.alloc o) := fun o => hg.below hg.lt ((Below.refl _ w).alloc (Nat.le_refl _) o)
  by_cases he : k = n
  · subst he
    have hq : (k == k) = true := by simp
    rw [hq]
    go_enter Tryz.func9, Tryz.ntmps9
    go_wp2_with (first | (go_at_call 37; refine (num_errno k h1 h2 _).mono ?_; rintro e w' ⟨rfl, rfl⟩) | (go_at_call 38; refine (as_errno k _ _ (hh _)).mono ?_; rintro e w' ⟨rfl, hb⟩))
    go_ret
    exact ⟨rfl, ((Below.refl w.heap.size w).alloc (Nat.le_refl _) _).trans (hb.mono (by simp))⟩
  · have hq : (k == n) = false := by rw [beq_eq_false_iff_ne]; exact he
    rw [hq]
    go_enter Tryz.func9, Tryz.ntmps9
    go_wp2_with (first | (go_at_call 37; refine (num_errno k h1 h2 _).mono ?_; rintro e w' ⟨rfl, rfl⟩))
    go_ret
    exact ⟨rfl, (Below.refl w.heap.size w).alloc (Nat.le_refl _) _⟩

set_option maxHeartbeats 1000000 in
theorem plain_nil (n : Int) (w : World) :
    Calls Tryz.prog 9 #[.nilIface, .int .i64 n] w fun e w' => e = .returned (.bool ((0 : Int) == n)) ∧ Below w.heap.size w w' := by
  by_cases he : (0 : Int) = n
  · subst he
    go_enter Tryz.func9, Tryz.ntmps9
    go_wp2_with (first | (go_at_call 37; refine (num_nil _).mono ?_; rintro e w' ⟨rfl, rfl⟩))
    go_ret
    exact ⟨rfl, (Below.refl w.heap.size w).alloc (Nat.le_refl _) _⟩
  · have hq : ((0 : Int) == n) = false := by rw [beq_eq_false_iff_ne]; exact he
    rw [hq]
    go_enter Tryz.func9, Tryz.ntmps9
    go_wp2_with (first | (go_at_call 37; refine (num_nil _).mono ?_; rintro e w' ⟨rfl, rfl⟩))
    go_ret
    exact ⟨rfl, (Below.refl w.heap.size w).alloc (Nat.le_refl _) _⟩

/-- lineagekit.Plain of a number 0 (no error) to 24. -/
theorem plain_any (k n : Int) (h1 : 0 ≤ k) (h2 : k ≤ 24) (w : World) (hg : erHandle w) :
    Calls Tryz.prog 9 #[errVal k, .int .i64 n] w fun e w' => e = .returned (.bool (k == n)) ∧ Below w.heap.size w w' := by
  unfold errVal
  by_cases h : k = 0
  · rw [if_pos h, h]; exact plain_nil n w
  · rw [if_neg h]; exact plain_errno k n (by omega) h2 w hg

end Go.Proofs.YtocoonkachbjaaaGreatDoor
