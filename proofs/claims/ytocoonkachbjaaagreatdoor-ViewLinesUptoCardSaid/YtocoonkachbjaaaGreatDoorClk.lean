/- clock.After, Until, Left and the reference's, at every number. -/
import Derived.Test.YtocoonkachbjaaaGreatDoorErrs2
import Derived.OpenShut
import Derived.BigQuiet
import Derived.Deep.QuietTactic
import Derived.Deep.RegionWith
namespace Go.Proofs.YtocoonkachbjaaaGreatDoor
open Go.RowKit
set_option linter.unusedVariables false

/-- Is a number a time? -/
def tm (n : Int) : Bool := decide (0 ≤ n ∧ n ≤ 1099511627776)
theorem tm_yes {n : Int} (h : tm n = true) : 0 ≤ n ∧ n ≤ 1099511627776 := of_decide_eq_true h
theorem tm_no {n : Int} (h : tm n = false) : n < 0 ∨ 1099511627776 < n := by have := of_decide_eq_false h; omega

theorem time_any (n : Int) (w : World) : Calls Tryz.prog 66 #[.int .i64 n] w fun e w' => e = .returned (.bool (tm n)) ∧ w = w' := by
  by_cases h : tm n = true
  · have hb := tm_yes h
    rw [h]
    obtain ⟨b1, b2⟩ := hb
    clear h
    go_enter Tryz.func66, Tryz.ntmps66
    go_wp2
    go_ret
    exact ⟨rfl, rfl⟩
  · have h' : tm n = false := by simpa using h
    have hb := tm_no h'
    rw [h']
    clear h h'
    by_cases h0 : 0 ≤ n
    · have h2 : ¬ n ≤ 1099511627776 := by omega
      clear hb
      go_enter Tryz.func66, Tryz.ntmps66
      go_wp2
      go_ret
      exact ⟨rfl, rfl⟩
    · clear hb
      go_enter Tryz.func66, Tryz.ntmps66
      go_wp2
      go_ret
      exact ⟨rfl, rfl⟩

theorem reftime_any (n : Int) (w : World) : Calls Tryz.prog 73 #[.int .i64 n] w fun e w' => e = .returned (.bool (tm n)) ∧ w = w' := by
  by_cases h : tm n = true
  · have hb := tm_yes h
    rw [h]
    obtain ⟨b1, b2⟩ := hb
    clear h
    go_enter Tryz.func73, Tryz.ntmps73
    go_wp2
    go_ret
    exact ⟨rfl, rfl⟩
  · have h' : tm n = false := by simpa using h
    have hb := tm_no h'
    rw [h']
    clear h h'
    by_cases h0 : 0 ≤ n
    · have h2 : ¬ n ≤ 1099511627776 := by omega
      clear hb
      go_enter Tryz.func73, Tryz.ntmps73
      go_wp2
      go_ret
      exact ⟨rfl, rfl⟩
    · clear hb
      go_enter Tryz.func73, Tryz.ntmps73
      go_wp2
      go_ret
      exact ⟨rfl, rfl⟩

/-- May a time come so much later? -/
def aft (now ticks : Int) : Bool := tm now && decide (0 ≤ ticks ∧ ticks ≤ 1073741824) && tm (now + ticks)

theorem aft_yes {now ticks : Int} (h : aft now ticks = true) : tm now = true ∧ 0 ≤ ticks ∧ ticks ≤ 1073741824 ∧ tm (now + ticks) = true := by
  simp only [aft, Bool.and_eq_true, decide_eq_true_eq] at h
  exact ⟨h.1.1, h.1.2.1, h.1.2.2, h.2⟩

theorem u64_sub (a b : Int) (h1 : b < a) (h2 : a - b < 18446744073709551616) : IntKind.u64.wrap (IntKind.u64.wrap a - IntKind.u64.wrap b) = a - b := by
  simp only [IntKind.wrap_u64]; omega

/-- How much is left. -/
def lft (now at_ : Int) : Int := if at_ ≤ now then 0 else if at_ - now < 1099511627776 then at_ - now else 1099511627776

theorem left_any (now at_ : Int) (w1 : (Lit.int .i64 now).wf = true) (w2 : (Lit.int .i64 at_).wf = true) (w : World) :
    Calls Tryz.prog 27 #[.int .i64 now, .int .i64 at_] w fun e w' => e = .returned (.int .i64 (lft now at_)) ∧ w = w' := by
  by_cases h : at_ ≤ now
  · have e : lft now at_ = 0 := if_pos h
    rw [e]; clear e
    go_enter Tryz.func27, Tryz.ntmps27
    go_wp2
    go_ret
    exact ⟨rfl, rfl⟩
  · have h1 := Go.bounds_i64 w1
    have h2 := Go.bounds_i64 w2
    have hd := u64_sub at_ now (by omega) (by omega)
    by_cases hs : at_ - now < 1099511627776
    · have e : lft now at_ = at_ - now := by unfold lft; rw [if_neg h, if_pos hs]
      have hw : wrap64 (at_ - now) = at_ - now := IntWalk.wrap64_in _ (by omega)
      rw [e]
      have HW := Lib.hid hw; have HD := Lib.hid hd
      have hq : IntKind.u64.wrap (IntKind.u64.wrap at_ - IntKind.u64.wrap now) < 1099511627776 := by rw [hd]; exact hs
      clear e hw hd h1 h2 hs
      go_enter Tryz.func27, Tryz.ntmps27
      go_wp2
      go_ret
      exact ⟨Ut.ret_int (by rw [HD.out, HW.out]), rfl⟩
    · have e : lft now at_ = 1099511627776 := by unfold lft; rw [if_neg h, if_neg hs]
      rw [e]
      have hq : ¬ IntKind.u64.wrap (IntKind.u64.wrap at_ - IntKind.u64.wrap now) < 1099511627776 := by rw [hd]; exact hs
      clear e hd h1 h2 hs
      go_enter Tryz.func27, Tryz.ntmps27
      go_wp2
      go_ret
      exact ⟨rfl, rfl⟩

theorem refleft_any (now at_ : Int) (w1 : (Lit.int .i64 now).wf = true) (w2 : (Lit.int .i64 at_).wf = true) (w : World) :
    Calls Tryz.prog 35 #[.int .i64 now, .int .i64 at_] w fun e w' => e = .returned (.int .i64 (lft now at_)) ∧ w = w' := by
  by_cases h : at_ ≤ now
  · have e : lft now at_ = 0 := if_pos h
    rw [e]; clear e
    go_enter Tryz.func35, Tryz.ntmps35
    go_wp2
    go_ret
    exact ⟨rfl, rfl⟩
  · have h1 := Go.bounds_i64 w1
    have h2 := Go.bounds_i64 w2
    have hd := u64_sub at_ now (by omega) (by omega)
    by_cases hs : at_ - now ≤ 1099511627776
    · have e : lft now at_ = at_ - now := by unfold lft; rw [if_neg h]; split <;> omega
      have hw : wrap64 (at_ - now) = at_ - now := IntWalk.wrap64_in _ (by omega)
      rw [e]
      have HW := Lib.hid hw; have HD := Lib.hid hd
      have hq : ¬ 1099511627776 < IntKind.u64.wrap (IntKind.u64.wrap at_ - IntKind.u64.wrap now) := by rw [hd]; omega
      clear e hw hd h1 h2 hs
      go_enter Tryz.func35, Tryz.ntmps35
      go_wp2
      go_ret
      exact ⟨Ut.ret_int (by rw [HD.out, HW.out]), rfl⟩
    · have e : lft now at_ = 1099511627776 := by unfold lft; rw [if_neg h, if_neg (by omega)]
      rw [e]
      have hq : 1099511627776 < IntKind.u64.wrap (IntKind.u64.wrap at_ - IntKind.u64.wrap now) := by rw [hd]; omega
      clear e hd h1 h2 hs
      go_enter Tryz.func35, Tryz.ntmps35
      go_wp2
      go_ret
      exact ⟨rfl, rfl⟩

/-- Is there a deadline? -/
def unt (now life most : Int) : Bool := tm now && tm most && decide (1 ≤ life ∧ life ≤ 1073741824) && decide (now < most)

theorem unt_yes {now life most : Int} (h : unt now life most = true) : tm now = true ∧ tm most = true ∧ 1 ≤ life ∧ life ≤ 1073741824 ∧ now < most := by
  simp only [unt, Bool.and_eq_true, decide_eq_true_eq] at h
  exact ⟨h.1.1.1, h.1.1.2, h.1.2.1, h.1.2.2, h.2⟩

def untV (now life most : Int) : Int := if most < now + life then most else now + life

end Go.Proofs.YtocoonkachbjaaaGreatDoor
