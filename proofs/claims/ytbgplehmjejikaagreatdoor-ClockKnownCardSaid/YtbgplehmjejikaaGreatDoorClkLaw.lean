/- ClockAfter, ClockUntil: the laws' walks. -/
import Derived.Test.YtbgplehmjejikaaGreatDoorClk
import Derived.Test.YtbgplehmjejikaaGreatDoorHandle
namespace Go.Proofs.YtbgplehmjejikaaGreatDoor
open Go.RowKit
set_option linter.unusedVariables false

set_option maxHeartbeats 1000000 in
theorem clockAfter_core (now : Int) (w1 : (Lit.int .i64 now).wf = true) (ticks : Int) (wt : (Lit.int .i64 ticks).wf = true) (w : World) (hg : erHandle w) :
    Calls Tryz.prog 8 #[.int .i64 now, .int .i64 ticks] w fun e w' => e = .returned (.bool true) ∧ Below w.heap.size w w' := by
  by_cases h : aft now ticks = true
  · have q1 : ((now + ticks) == (now + ticks)) = true := by simp
    have q2 : (lft now ticks == lft now ticks) = true := by simp
    go_enter Tryz.func8, Tryz.ntmps8
    go_wp2_with fail
    refine (after_yes now ticks h _).mono ?_
    rintro e w' ⟨rfl, rfl⟩
    go_wp2_with fail
    refine (refafter_yes now ticks h _).mono ?_
    rintro e w' ⟨rfl, rfl⟩
    go_wp2_with fail
    refine (plain_nil 0 _).mono ?_
    rintro e w2 ⟨rfl, hb⟩
    go_wp2_with fail
    refine (left_any now ticks w1 wt _).mono ?_
    rintro e w' ⟨rfl, rfl⟩
    go_wp2_with fail
    refine (refleft_any now ticks w1 wt _).mono ?_
    rintro e w' ⟨rfl, rfl⟩
    go_wp2
    go_ret
    exact ⟨rfl, hb⟩
  · have h' : aft now ticks = false := by simpa using h
    have q2 : (lft now ticks == lft now ticks) = true := by simp
    clear h
    go_enter Tryz.func8, Tryz.ntmps8
    go_wp2_with fail
    refine (after_no now ticks h' _).mono ?_
    rintro e w' ⟨rfl, rfl⟩
    go_wp2_with fail
    refine (refafter_no now ticks h' _).mono ?_
    rintro e w' ⟨rfl, rfl⟩
    go_wp2_with fail
    refine (plain_errno 12 12 (by omega) (by omega) _ hg).mono ?_
    rintro e w2 ⟨rfl, hb⟩
    go_wp2_with fail
    refine (left_any now ticks w1 wt _).mono ?_
    rintro e w' ⟨rfl, rfl⟩
    go_wp2_with fail
    refine (refleft_any now ticks w1 wt _).mono ?_
    rintro e w' ⟨rfl, rfl⟩
    go_wp2
    go_ret
    exact ⟨rfl, hb⟩

set_option maxHeartbeats 1000000 in
theorem clockUntil_core (now life most : Int) (w : World) (hg : erHandle w) :
    Calls Tryz.prog 10 #[.int .i64 now, .int .i64 life, .int .i64 most] w fun e w' => e = .returned (.bool true) ∧ Below w.heap.size w w' := by
  by_cases h : unt now life most = true
  · have q1 : (untV now life most == untV now life most) = true := by simp
    go_enter Tryz.func10, Tryz.ntmps10
    go_wp2_with fail
    refine (until_yes now life most h _).mono ?_
    rintro e w' ⟨rfl, rfl⟩
    go_wp2_with fail
    refine (refuntil_yes now life most h _).mono ?_
    rintro e w' ⟨rfl, rfl⟩
    go_wp2_with fail
    refine (plain_nil 0 _).mono ?_
    rintro e w2 ⟨rfl, hb⟩
    go_wp2
    go_ret
    exact ⟨rfl, hb⟩
  · have h' : unt now life most = false := by simpa using h
    clear h
    go_enter Tryz.func10, Tryz.ntmps10
    go_wp2_with fail
    refine (until_no now life most h' _).mono ?_
    rintro e w' ⟨rfl, rfl⟩
    go_wp2_with fail
    refine (refuntil_no now life most h' _).mono ?_
    rintro e w' ⟨rfl, rfl⟩
    go_wp2_with fail
    refine (plain_errno 12 12 (by omega) (by omega) _ hg).mono ?_
    rintro e w2 ⟨rfl, hb⟩
    go_wp2
    go_ret
    exact ⟨rfl, hb⟩



end Go.Proofs.YtbgplehmjejikaaGreatDoor
