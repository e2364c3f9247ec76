/- ClockPrints, ClockLives, ClockLeft: the laws' walks. -/
import Derived.Test.YtbgplehmjejikaaGreatDoorClkLaid
import Derived.Test.YtbgplehmjejikaaGreatDoorClkLaw
namespace Go.Proofs.YtbgplehmjejikaaGreatDoor
open Go.RowKit
set_option linter.unusedVariables false

theorem prt61 : prt 61 = [49, 109, 49, 115] := by
  simp [prt, accAt, dpart, remAt, worthOf, letterOf, Lib.itoa, Lib.decDigits]

set_option maxHeartbeats 1000000 in
theorem works_any (w : World) (hp : PartsAt w) (htab : Lib.TabIs Tryz.prog w "internal/strconv.uint64pow10" .u64 Lib.pow10Tab) :
    Calls Tryz.prog 14 #[] w fun e w' => e = .returned (.bool true) ∧ Below w.heap.size w w' := by
  have hpr := print_yes 61 rfl (by decide) w hp htab
  rw [prt61] at hpr
  have haf := fun W => after_yes 5 3 rfl W
  have HPR := Lib.hid hpr; have HAF := Lib.hid haf
  clear hpr haf hp htab
  go_enter Tryz.func14, Tryz.ntmps14
  go_wp2_with fail
  refine HPR.out.mono ?_
  rintro e w1 ⟨rfl, hb1⟩
  go_wp2_with fail
  refine (HAF.out _).mono ?_
  rintro e w' ⟨rfl, rfl⟩
  go_wp2
  go_ret
  exact ⟨rfl, hb1⟩

set_option maxHeartbeats 1000000 in
theorem clockPrints_core (t : Int) (w : World) (hg : erHandle w) (hp : PartsAt w) (htab : Lib.TabIs Tryz.prog w "internal/strconv.uint64pow10" .u64 Lib.pow10Tab) :
    Calls Tryz.prog 6 #[.int .i64 t] w fun e w' => e = .returned (.bool true) ∧ Below w.heap.size w w' := by
  by_cases h : tm t = true
  · by_cases h0 : t = 0
    · subst h0
      have hq : ((⟨(prt 0).toArray⟩ : ByteArray).toList == (⟨(prt 0).toArray⟩ : ByteArray).toList) = true := by simp
      have e1 := fun W => print_zero W
      have e2 := fun W => refprint_zero W
      obtain ⟨S, hS⟩ : ∃ S, S = (⟨(prt 0).toArray⟩ : ByteArray) := ⟨_, rfl⟩
      rw [← hS] at hq
      simp only [← hS] at e1 e2
      have E1 := Lib.hid e1; have E2 := Lib.hid e2
      clear e1 e2 hS h
      go_enter Tryz.func6, Tryz.ntmps6
      go_wp2_with fail
      refine (E1.out _).mono ?_
      rintro e w1 ⟨rfl, rfl⟩
      go_wp2_with fail
      refine (E2.out _).mono ?_
      rintro e w1 ⟨rfl, rfl⟩
      go_wp2_with fail
      refine (plain_nil 0 _).mono ?_
      rintro e w2 ⟨rfl, hb⟩
      go_wp2
      go_ret
      exact ⟨rfl, hb⟩
    · have e1 := print_yes t h h0 w hp htab
      have e2 := fun W => refprint_yes t h h0 W
      obtain ⟨S, hS⟩ : ∃ S, S = (⟨(prt t).toArray⟩ : ByteArray) := ⟨_, rfl⟩
      rw [← hS] at e1
      simp only [← hS] at e2
      have hq : (S.toList == S.toList) = true := by simp
      have E1 := Lib.hid e1; have E2 := Lib.hid e2
      clear e1 e2 hS h htab hp
      go_enter Tryz.func6, Tryz.ntmps6
      go_wp2_with fail
      refine E1.out.mono ?_
      rintro e w1 ⟨rfl, hb1⟩
      go_wp2_with fail
      refine (E2.out _).mono ?_
      rintro e w2 ⟨rfl, hb2⟩
      go_wp2_with fail
      refine (plain_nil 0 _).mono ?_
      rintro e w3 ⟨rfl, hb3⟩
      go_wp2
      go_ret
      have hb12 := hb1.trans (hb2.mono hb1.size)
      exact ⟨rfl, hb12.trans (hb3.mono hb12.size)⟩
  · have h' : tm t = false := by simpa using h
    clear h
    go_enter Tryz.func6, Tryz.ntmps6
    go_wp2_with fail
    refine (print_no t h' _).mono ?_
    rintro e w1 ⟨rfl, rfl⟩
    go_wp2_with fail
    refine (refprint_no t h' _).mono ?_
    rintro e w1 ⟨rfl, rfl⟩
    go_wp2_with fail
    refine (plain_errno 12 12 (by omega) (by omega) _ hg).mono ?_
    rintro e w2 ⟨rfl, hb⟩
    go_wp2
    go_ret
    exact ⟨rfl, hb⟩


theorem PartsAt.below {w w' : World} (h : PartsAt w) (hb : Below w.heap.size w w') : PartsAt w' := by
  have hl := h.lt
  obtain ⟨t, fr, h⟩ := h
  exact ⟨t, fr, by rw [hb.block _ hl]; exact h⟩

theorem lft_after {now ticks : Int} (h1 : 0 ≤ ticks) (h2 : ticks ≤ 1073741824) : lft now (now + ticks) = ticks := by
  unfold lft
  by_cases h : ticks = 0
  · subst h; rw [if_pos (by omega)]
  · rw [if_neg (by omega), if_pos (by omega)]; omega

set_option maxHeartbeats 1000000 in
theorem clockLeft_core (now : Int) (w1 : (Lit.int .i64 now).wf = true) (ticks : Int) (wt : (Lit.int .i64 ticks).wf = true) (w : World) (hp : PartsAt w) (htab : Lib.TabIs Tryz.prog w "internal/strconv.uint64pow10" .u64 Lib.pow10Tab) :
    Calls Tryz.prog 9 #[.int .i64 now, .int .i64 ticks] w fun e w' => e = .returned (.bool true) ∧ Below w.heap.size w w' := by
  have hw1 := works_any w hp htab
  have hw2 := fun w' (hb : Below w.heap.size w w') => works_any w' (hp.below hb) (tab_below gPow htab (tab_lt gPow htab) hb)
  have HW1 := Lib.hid hw1; have HW2 := Lib.hid hw2
  clear hw1 hw2 hp htab
  by_cases h : aft now ticks = true
  · obtain ⟨ha, h0, h2, h3⟩ := aft_yes h
    obtain ⟨b1, b2⟩ := tm_yes ha
    obtain ⟨b3, b4⟩ := tm_yes h3
    have l1 := left_any now (now + ticks) w1 (WalkArith.wf_i64 (by omega))
    have l2 := left_any (now + ticks) now (WalkArith.wf_i64 (by omega)) w1
    rw [lft_after h0 h2] at l1
    have e2 : lft (now + ticks) now = 0 := if_pos (by omega)
    rw [e2] at l2
    have hq : (ticks == ticks) = true := by simp
    have L1 := Lib.hid l1; have L2 := Lib.hid l2
    clear l1 l2 e2
    go_enter Tryz.func9, Tryz.ntmps9
    go_wp2_with fail
    refine (after_yes now ticks h _).mono ?_
    rintro e w' ⟨rfl, rfl⟩
    go_wp2_with fail
    refine HW1.out.mono ?_
    rintro e w1 ⟨rfl, hb1⟩
    go_wp2_with fail
    refine (L1.out _).mono ?_
    rintro e w' ⟨rfl, rfl⟩
    go_wp2_with fail
    refine (L2.out _).mono ?_
    rintro e w' ⟨rfl, rfl⟩
    go_wp2
    go_ret
    exact ⟨rfl, hb1⟩
  · have h' : aft now ticks = false := by simpa using h
    clear h
    go_enter Tryz.func9, Tryz.ntmps9
    go_wp2_with fail
    refine (after_no now ticks h' _).mono ?_
    rintro e w' ⟨rfl, rfl⟩
    go_wp2_with fail
    refine HW1.out.mono ?_
    rintro e w1 ⟨rfl, hb1⟩
    go_wp2_with fail
    refine (HW2.out _ hb1).mono ?_
    rintro e w2 ⟨rfl, hb2⟩
    go_wp2
    go_ret
    exact ⟨rfl, hb1.trans (hb2.mono hb1.size)⟩


theorem unt_next {now life most : Int} (h : unt now life most = true) (hl : life ≠ 1073741824) : unt now (life + 1) most = true := by
  obtain ⟨ha, hb, h0, h2, h3⟩ := unt_yes h
  simp only [unt, ha, hb, Bool.true_and, Bool.and_eq_true, decide_eq_true_eq]
  exact ⟨⟨by omega, by omega⟩, h3⟩

theorem untV_bd {now life most : Int} (h : unt now life most = true) : now < untV now life most ∧ untV now life most ≤ most ∧ untV now life most - now ≤ life ∧ untV now life most ≤ untV now (life + 1) most ∧ untV now (life + 1) most ≤ untV now life most + 1 := by
  obtain ⟨ha, hb, h0, h2, h3⟩ := unt_yes h
  unfold untV
  by_cases c1 : most < now + life
  · rw [if_pos c1, if_pos (by omega)]; omega
  · rw [if_neg c1]
    by_cases c2 : most < now + (life + 1)
    · rw [if_pos c2]; omega
    · rw [if_neg c2]; omega

set_option maxHeartbeats 1000000 in
theorem clockLives_core (now life most : Int) (w : World) (hp : PartsAt w) (htab : Lib.TabIs Tryz.prog w "internal/strconv.uint64pow10" .u64 Lib.pow10Tab) :
    Calls Tryz.prog 11 #[.int .i64 now, .int .i64 life, .int .i64 most] w fun e w' => e = .returned (.bool true) ∧ Below w.heap.size w w' := by
  have hw1 := works_any w hp htab
  have HW1 := Lib.hid hw1
  clear hw1 hp htab
  by_cases h : unt now life most = true
  · obtain ⟨ha, hb, h0, h2, h3⟩ := unt_yes h
    obtain ⟨b1, b2⟩ := tm_yes ha
    obtain ⟨b3, b4⟩ := tm_yes hb
    obtain ⟨v1, v2, v3, v4, v5⟩ := untV_bd h
    have u1 := until_yes now life most h
    by_cases hl : life = 1073741824
    · have hq : (life == 1073741824) = true := by rw [hl]; rfl
      have HL := Lib.hid hl
      have U1 := Lib.hid u1
      obtain ⟨d, hd⟩ : ∃ d, d = untV now life most := ⟨_, rfl⟩
      rw [← hd] at v1 v2 v3 U1
      clear hd v4 v5 hl u1 h
      go_enter Tryz.func11, Tryz.ntmps11
      go_wp2_with fail
      refine (U1.out _).mono ?_
      rintro e w' ⟨rfl, rfl⟩
      go_wp2_with fail
      refine HW1.out.mono ?_
      rintro e w1 ⟨rfl, hb1⟩
      go_wp2
      go_ret
      exact ⟨rfl, hb1⟩
    · have hq : (life == 1073741824) = false := by rw [beq_eq_false_iff_ne]; exact hl
      have u2 := until_yes now (life + 1) most (unt_next h hl)
      have U1 := Lib.hid u1; have U2 := Lib.hid u2
      obtain ⟨d, hd⟩ : ∃ d, d = untV now life most := ⟨_, rfl⟩
      obtain ⟨c, hc⟩ : ∃ c, c = untV now (life + 1) most := ⟨_, rfl⟩
      rw [← hd] at v1 v2 v3 v4 v5 U1
      rw [← hc] at v4 v5 U2
      clear hd hc hl u1 u2 h
      go_enter Tryz.func11, Tryz.ntmps11
      go_wp2_with fail
      refine (U1.out _).mono ?_
      rintro e w' ⟨rfl, rfl⟩
      go_wp2_with fail
      refine HW1.out.mono ?_
      rintro e w1 ⟨rfl, hb1⟩
      go_wp2_with fail
      refine (U2.out _).mono ?_
      rintro e w' ⟨rfl, rfl⟩
      go_wp2
      go_ret
      exact ⟨rfl, hb1⟩
  · have h' : unt now life most = false := by simpa using h
    clear h
    go_enter Tryz.func11, Tryz.ntmps11
    go_wp2_with fail
    refine (until_no now life most h' _).mono ?_
    rintro e w' ⟨rfl, rfl⟩
    go_wp2_with fail
    refine HW1.out.mono ?_
    rintro e w1 ⟨rfl, hb1⟩
    go_wp2
    go_ret
    exact ⟨rfl, hb1⟩


end Go.Proofs.YtbgplehmjejikaaGreatDoor
