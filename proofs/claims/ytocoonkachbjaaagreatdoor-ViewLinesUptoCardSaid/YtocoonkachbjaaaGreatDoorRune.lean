/- strings.ContainsRune in the signs of a name, of every rune. -/
import Derived.Test.YtocoonkachbjaaaGreatDoorUtil
import Derived.Test.YtocoonkachbjaaaGreatDoorShelf
import Derived.WalkLawsBesides
import Derived.WalkSpells
import Derived.BigQuiet
import Derived.Deep.QuietTactic
import Derived.Laws.Runes
import Derived.Laws.RangeAny
namespace Go.Proofs.YtocoonkachbjaaaGreatDoor
open Go.RowKit
set_option linter.unusedVariables false

/-- The signs of a name besides letters. -/
def signs : ByteArray := ⟨#[48, 49, 50, 51, 52, 53, 54, 55, 56, 57, 45, 95]⟩

theorem enc_two (r : Int) (h1 : 128 ≤ r) (h2 : r < 2048) : ∃ x y : UInt8, Utf8.encode r = ⟨#[x, y]⟩ ∧ 128 ≤ y.toNat := by
  have hv : Utf8.valid r = true := by simp [Utf8.valid]; omega
  refine ⟨UInt8.ofNat (0xC0 + r.toNat / 64), UInt8.ofNat (0x80 + r.toNat % 64), ?_, by simp; omega⟩
  unfold Utf8.encode; rw [hv]; simp only [if_true]; rw [if_neg (by omega), if_pos (by omega)]
theorem enc_three (r : Int) (h1 : 2048 ≤ r) (h2 : r < 65536) (hv : Utf8.valid r = true) : ∃ x y z : UInt8, Utf8.encode r = ⟨#[x, y, z]⟩ ∧ 128 ≤ z.toNat := by
  refine ⟨UInt8.ofNat (0xE0 + r.toNat / 4096), UInt8.ofNat (0x80 + r.toNat / 64 % 64), UInt8.ofNat (0x80 + r.toNat % 64), ?_, by simp; omega⟩
  unfold Utf8.encode; rw [hv]; simp only [if_true]; rw [if_neg (by omega), if_neg (by omega), if_pos (by omega)]
theorem enc_four (r : Int) (h1 : 65536 ≤ r) (hv : Utf8.valid r = true) : ∃ x y z u : UInt8, Utf8.encode r = ⟨#[x, y, z, u]⟩ ∧ 128 ≤ u.toNat := by
  refine ⟨UInt8.ofNat (0xF0 + r.toNat / 262144), UInt8.ofNat (0x80 + r.toNat / 4096 % 64), UInt8.ofNat (0x80 + r.toNat / 64 % 64), UInt8.ofNat (0x80 + r.toNat % 64), ?_, by simp; omega⟩
  unfold Utf8.encode; rw [hv]; simp only [if_true]; rw [if_neg (by omega), if_neg (by omega), if_neg (by omega)]

theorem indexByte_high (l : List UInt8) (c : UInt8) (h : ∀ b ∈ l, b.toNat < 128) (hc : 128 ≤ c.toNat) : Lib.indexByte l c = -1 := by
  induction l with
  | nil => rfl
  | cons b l ih =>
    have hb := h b (by simp)
    have hne : ¬ b = c := fun e => by rw [e] at hb; omega
    have := ih (fun x hx => h x (by simp [hx]))
    unfold Lib.indexByte
    simp [hne, this]

/-- strings.IndexByte of a byte beyond ASCII in an ASCII text. -/
theorem indexByte_none (S : ByteArray) (y : UInt8) (hy : 128 ≤ y.toNat) (hS : (S.data.toList.all fun b => decide (b.toNat < 128)) = true) (w : World) :
    Calls Tryz.prog 117 #[.string S, .int .u8 y.toNat] w fun e w' => e = .returned (.int .i64 (-1)) ∧ w' = w := by
  have h := Tryz.strings_IndexByte S y.toNat w
  rw [show Lib.indexByte S.data.toList (y.toNat : Int).toNat.toUInt8 = -1 from indexByte_high _ _ (fun b hb => of_decide_eq_true (List.all_eq_true.1 hS b hb)) (by simpa using hy)] at h
  exact h

set_option maxRecDepth 100000 in
set_option maxHeartbeats 1000000 in
theorem indexRune_two (r : Int) (h1 : 128 ≤ r) (h2 : r < 2048) (w : World) :
    Calls Tryz.prog 102 #[.string ⟨#[48, 49, 50, 51, 52, 53, 54, 55, 56, 57, 45, 95]⟩, .int .i32 r] w fun e w' => e = .returned (.int .i64 (-1)) ∧ ∃ n, w' = w.drewN n := by
  obtain ⟨x, y, hR, hy⟩ := enc_two r h1 h2
  have q1 : (r == 65533) = false := by rw [beq_eq_false_iff_ne]; omega
  have hvr : Lib.validRune r = true := by simp [Lib.validRune]; omega
  have hcv : ∀ w, (convert 21 9 (.int .i32 r)).run Tryz.prog w = .ok (.string ⟨#[x, y]⟩) w := fun w => by
    rw [← hR]; exact run_convert_int_string w _ _ _ _ (by rw [Tryz.underlying21]; rfl) Tryz.underlying9
  have q2 : (((⟨#[48, 49, 50, 51, 52, 53, 54, 55, 56, 57, 45, 95]⟩ : ByteArray)[1].toNat : Int) != (((⟨#[x, y]⟩ : ByteArray)[1]'(by show 1 < 2; decide)).toNat : Int)) = true := by
    show ((49 : Int) != (y.toNat : Int)) = true
    rw [bne_iff_ne]; omega
  have h0 : 128 ≤ r := by omega
  have HVR := Lib.hid hvr
  clear hvr hR
  go_enter Tryz.func102, Tryz.ntmps102
  go_wp2_with (go_at_call 118; refine (Tryz.utf8_ValidRune r _).mono ?_; rintro e w' ⟨rfl, rfl⟩; rw [HVR.out])
  go_step3
  go_wp2_with fail
  refine wp_loop_rounds 1 ?_
  rw [rounds_succ]
  go_wp2_with fail
  go_step3
  go_wp2_with fail
  go_quiet (fail)
  go_wp2_with fail
  generalize hw2 : w'.drewN _ = w2
  have HW2 := Lib.hid hw2
  clear hw2
  go_quiet ((go_at_call 117; exact Calls.quiet_of_same (indexByte_none _ y hy (by decide) _)))
  go_wp2
  rw [Exit.noGoto_ret]
  go_wp2
  rw [Exit.noGoto_ret]
  go_ret
  exact ⟨rfl, _, by rw [← HW2.out, World.drewN_drewN]⟩

set_option maxRecDepth 100000 in
set_option maxHeartbeats 1000000 in
theorem indexRune_three (r : Int) (h1 : 2048 ≤ r) (h2 : r < 65536) (h3 : r ≠ 65533) (hv : Utf8.valid r = true) (w : World) :
    Calls Tryz.prog 102 #[.string ⟨#[48, 49, 50, 51, 52, 53, 54, 55, 56, 57, 45, 95]⟩, .int .i32 r] w fun e w' => e = .returned (.int .i64 (-1)) ∧ ∃ n, w' = w.drewN n := by
  obtain ⟨x, y, z, hR, hy⟩ := enc_three r h1 h2 hv
  have q1 : (r == 65533) = false := by rw [beq_eq_false_iff_ne]; omega
  have hvr : Lib.validRune r = true := by simp [Utf8.valid] at hv; simp [Lib.validRune]; omega
  have hcv : ∀ w, (convert 21 9 (.int .i32 r)).run Tryz.prog w = .ok (.string ⟨#[x, y, z]⟩) w := fun w => by
    rw [← hR]; exact run_convert_int_string w _ _ _ _ (by rw [Tryz.underlying21]; rfl) Tryz.underlying9
  have q2 : (((⟨#[48, 49, 50, 51, 52, 53, 54, 55, 56, 57, 45, 95]⟩ : ByteArray)[2].toNat : Int) != (((⟨#[x, y, z]⟩ : ByteArray)[2]'(by show 2 < 3; decide)).toNat : Int)) = true := by
    show ((50 : Int) != (z.toNat : Int)) = true
    rw [bne_iff_ne]; omega
  have h0 : 128 ≤ r := by omega
  have HVR := Lib.hid hvr
  clear hvr hR
  go_enter Tryz.func102, Tryz.ntmps102
  go_wp2_with (go_at_call 118; refine (Tryz.utf8_ValidRune r _).mono ?_; rintro e w' ⟨rfl, rfl⟩; rw [HVR.out])
  go_step3
  go_wp2_with fail
  refine wp_loop_rounds 1 ?_
  rw [rounds_succ]
  go_wp2_with fail
  go_step3
  go_wp2_with fail
  go_quiet (fail)
  go_wp2_with fail
  generalize hw2 : w'.drewN _ = w2
  have HW2 := Lib.hid hw2
  clear hw2
  go_quiet ((go_at_call 117; exact Calls.quiet_of_same (indexByte_none _ z hy (by decide) _)))
  go_wp2
  rw [Exit.noGoto_ret]
  go_wp2
  rw [Exit.noGoto_ret]
  go_ret
  exact ⟨rfl, _, by rw [← HW2.out, World.drewN_drewN]⟩

set_option maxRecDepth 100000 in
set_option maxHeartbeats 1000000 in
theorem indexRune_four (r : Int) (h1 : 65536 ≤ r) (hv : Utf8.valid r = true) (w : World) :
    Calls Tryz.prog 102 #[.string ⟨#[48, 49, 50, 51, 52, 53, 54, 55, 56, 57, 45, 95]⟩, .int .i32 r] w fun e w' => e = .returned (.int .i64 (-1)) ∧ ∃ n, w' = w.drewN n := by
  obtain ⟨x, y, z, u, hR, hy⟩ := enc_four r h1 hv
  have q1 : (r == 65533) = false := by rw [beq_eq_false_iff_ne]; omega
  have hvr : Lib.validRune r = true := by simp [Utf8.valid] at hv; simp [Lib.validRune]; omega
  have hcv : ∀ w, (convert 21 9 (.int .i32 r)).run Tryz.prog w = .ok (.string ⟨#[x, y, z, u]⟩) w := fun w => by
    rw [← hR]; exact run_convert_int_string w _ _ _ _ (by rw [Tryz.underlying21]; rfl) Tryz.underlying9
  have q2 : (((⟨#[48, 49, 50, 51, 52, 53, 54, 55, 56, 57, 45, 95]⟩ : ByteArray)[3].toNat : Int) != (((⟨#[x, y, z, u]⟩ : ByteArray)[3]'(by show 3 < 4; decide)).toNat : Int)) = true := by
    show ((51 : Int) != (u.toNat : Int)) = true
    rw [bne_iff_ne]; omega
  have h0 : 128 ≤ r := by omega
  have HVR := Lib.hid hvr
  clear hvr hR
  go_enter Tryz.func102, Tryz.ntmps102
  go_wp2_with (go_at_call 118; refine (Tryz.utf8_ValidRune r _).mono ?_; rintro e w' ⟨rfl, rfl⟩; rw [HVR.out])
  go_step3
  go_wp2_with fail
  refine wp_loop_rounds 1 ?_
  rw [rounds_succ]
  go_wp2_with fail
  go_step3
  go_wp2_with fail
  go_quiet (fail)
  go_wp2_with fail
  generalize hw2 : w'.drewN _ = w2
  have HW2 := Lib.hid hw2
  clear hw2
  go_quiet ((go_at_call 117; exact Calls.quiet_of_same (indexByte_none _ u hy (by decide) _)))
  go_wp2
  rw [Exit.noGoto_ret]
  go_wp2
  rw [Exit.noGoto_ret]
  go_ret
  exact ⟨rfl, _, by rw [← HW2.out, World.drewN_drewN]⟩


end Go.Proofs.YtocoonkachbjaaaGreatDoor
