/- The law ClockKnown: texts; the law. -/
import Derived.Test.YtbgplehmjejikaaGreatDoorCkKnown
namespace Go.Proofs.YtbgplehmjejikaaGreatDoor
open Go.RowKit
set_option linter.unusedVariables false
namespace Ck

theorem cat_run {a b : ByteArray} (h : a.size + b.size ≤ 1000) : ∀ W, (binOp .add 9 (.string a) (.string b)).run Tryz.prog W = .ok (.string (a ++ b)) W := fun W => by
  simp [binOp, run_string_add_sum W a b (by omega)]

def kx : List ByteArray := [⟨#[]⟩, ⟨#[48, 115]⟩, ⟨#[49, 115]⟩, ⟨#[48, 49, 115]⟩, ⟨#[48, 100]⟩, ⟨#[54, 48, 115]⟩, ⟨#[53, 57, 115]⟩, ⟨#[54, 48, 109]⟩, ⟨#[53, 57, 109]⟩, ⟨#[50, 52, 104]⟩, ⟨#[50, 51, 104]⟩, ⟨#[49, 100]⟩, ⟨#[57, 57, 57, 57, 57, 57, 57, 57, 57, 57, 57, 57, 57, 57, 57, 57, 57, 57, 57, 57, 100]⟩, ⟨#[49, 50, 55, 50, 53, 56, 51, 48, 100]⟩, ⟨#[49]⟩, ⟨#[115]⟩, ⟨#[49, 120]⟩, ⟨#[45, 49, 115]⟩, ⟨#[43, 49, 115]⟩, ⟨#[32, 49, 115]⟩, ⟨#[49, 115, 32]⟩, ⟨#[49, 68]⟩, ⟨#[48, 104]⟩]
theorem kx_size : ∀ k, k < 23 → (kx.getD k ByteArray.empty).size ≤ 21 := by decide +kernel
theorem at_kx {w : World} {gg : Nat} (h : LitAt w gg (kx.map Value.string)) {k : Nat} (hk : k < 23) : w.cell? ⟨gg, k, none⟩ = some (.string (kx.getD k ByteArray.empty)) := h.get hk _

set_option maxRecDepth 100000 in
set_option maxHeartbeats 8000000 in
theorem knownTexts_any (w : World) (hk : KC w w) : Calls Tryz.prog 5 #[] w fun e w' => e = .returned (.bool true) ∧ Below w.heap.size w w' := by
  have hb0 : Below w.heap.size w (w.alloc (.cells (kx.map Value.string).toArray 9)) := (Below.refl _ _).alloc (Nat.le_refl _) _
  have HS : Hid (R1 w w.heap.size (kx.map Value.string) 23 (.int .i64 0) (w.alloc (.cells (kx.map Value.string).toArray 9))) := ⟨0, Nat.zero_le _, rfl, hk.step hb0, lit0 _ _ _⟩
  clear hb0 hk
  go_enter Tryz.func5, Tryz.ntmps5
  go_wp2
  go_loopw [2] (fun i wr => R1 w w.heap.size (kx.map Value.string) 23 i wr) (fun i _ => 23 - (intOf i).toNat)
  case atStart => exact HS.out
  case round =>
    obtain ⟨i, hi, rfl, hc, hl⟩ := hrel
    have HC := Lib.hid hc; have HL := Lib.hid hl
    clear hc hl HS
    have b1 : (0 : Int) ≤ (i : Int) := by omega
    by_cases h : i < 23
    · have b2 : (i : Int) < 23 := by omega
      have hsx := kx_size i h
      have HX := Lib.hid (fun w' (hl : LitAt w' w.heap.size (kx.map Value.string)) => at_kx hl h)
      obtain ⟨x, hx⟩ : ∃ x, x = kx.getD i ByteArray.empty := ⟨_, rfl⟩
      rw [← hx] at HX hsx
      have zx : (x.size : Int) ≤ 21 := by omega
      clear hx
      go_wp2
      go_loopw [3] (fun i wr => R1 w w.heap.size (kx.map Value.string) 23 i wr) (fun i _ => 23 - (intOf i).toNat)
      case atStart => exact ⟨0, Nat.zero_le _, rfl, HC.out, HL.out⟩
      case round =>
        obtain ⟨k, hk, rfl, hc, hl⟩ := hrel
        have HC2 := Lib.hid hc; have HL2 := Lib.hid hl
        clear hc hl HC HL
        have b3 : (0 : Int) ≤ (k : Int) := by omega
        by_cases h2 : k < 23
        · have b4 : (k : Int) < 23 := by omega
          have hsy := kx_size k h2
          have HY := Lib.hid (fun w' (hl : LitAt w' w.heap.size (kx.map Value.string)) => at_kx hl h2)
          obtain ⟨y, hy⟩ : ∃ x, x = kx.getD k ByteArray.empty := ⟨_, rfl⟩
          rw [← hy] at HY hsy
          have zy : (y.size : Int) ≤ 21 := by omega
          have c1 := HX.out _ HL2.out
          have c2 := HY.out _ HL2.out
          have HA := Lib.hid (fun (s : ByteArray) (hs : s.size ≤ 281474976710656) w' (hk : KC w w') (hl : LitAt w' w.heap.size (kx.map Value.string)) =>
            (yes_of hk hl (clockParses_core s hs w' hk.ctx hk.hg)).mono fun e w2 h => (⟨h.1, h.2.1, h.2.2.1, HX.out _ h.2.2.1, HY.out _ h.2.2.1⟩ : e = .returned (.bool true) ∧ KC w w2 ∧ LitAt w2 w.heap.size (kx.map Value.string) ∧ w2.cell? ⟨w.heap.size, i, none⟩ = some (.string x) ∧ w2.cell? ⟨w.heap.size, k, none⟩ = some (.string y)))
          have HF := Lib.hid (fun (s : ByteArray) (hs : s.size ≤ 281474976710656) w' (hk : KC w w') (hl : LitAt w' w.heap.size (kx.map Value.string)) =>
            (yes_of hk hl (clockBack_core s hs w' hk.ctx)).mono fun e w2 h => (⟨h.1, h.2.1, h.2.2.1, HX.out _ h.2.2.1, HY.out _ h.2.2.1⟩ : e = .returned (.bool true) ∧ KC w w2 ∧ LitAt w2 w.heap.size (kx.map Value.string) ∧ w2.cell? ⟨w.heap.size, i, none⟩ = some (.string x) ∧ w2.cell? ⟨w.heap.size, k, none⟩ = some (.string y)))
          have s1 : (x ++ y).size ≤ 281474976710656 := by rw [ByteArray.size_append]; omega
          have s2 : (x ++ y ++ ⟨#[53, 115]⟩).size ≤ 281474976710656 := by rw [ByteArray.size_append, ByteArray.size_append]; have e : (⟨#[53, 115]⟩ : ByteArray).size = 2 := rfl; omega
          have s3 : (⟨#[55, 100]⟩ ++ x ++ y).size ≤ 281474976710656 := by rw [ByteArray.size_append, ByteArray.size_append]; have e : (⟨#[55, 100]⟩ : ByteArray).size = 2 := rfl; omega
          have S1 := Lib.hid s1; have S2 := Lib.hid s2; have S3 := Lib.hid s3
          have HD : Hid (KC w wr.drew ∧ LitAt wr.drew w.heap.size (kx.map Value.string)) := ⟨HC2.out.step ((Below.refl _ _).drew), HL2.out.below ((Below.refl _ _).drew)⟩
          have f1 : ¬ (9223372036854775807 < x.size + y.size) := by omega
          have f2 : ¬ (9223372036854775807 < x.size + y.size + 2) := by omega
          have f3 : ¬ (9223372036854775807 < 2 + x.size) := by omega
          have f4 : ¬ (9223372036854775807 < 2 + x.size + y.size) := by omega
          have q1 := cat_run (a := x) (b := y) (by omega)
          have q2 := cat_run (a := x ++ y) (b := ⟨#[53, 115]⟩) (by rw [ByteArray.size_append]; have e : (⟨#[53, 115]⟩ : ByteArray).size = 2 := rfl; omega)
          have q3 := cat_run (a := ⟨#[55, 100]⟩) (b := x) (by have e : (⟨#[55, 100]⟩ : ByteArray).size = 2 := rfl; omega)
          have q4 := cat_run (a := ⟨#[55, 100]⟩ ++ x) (b := y) (by rw [ByteArray.size_append]; have e : (⟨#[55, 100]⟩ : ByteArray).size = 2 := rfl; omega)
          have HKc := Lib.hid HD.out.1; have HLc := Lib.hid HD.out.2
          clear HD
          clear hy s1 s2 s3 hsy
          go_wp2
          go_region_held3 (fun w' => w'.cell? ⟨w.heap.size, i, none⟩ = some (.string x) ∧ w'.cell? ⟨w.heap.size, k, none⟩ = some (.string y)) (go_keep) (first
            | (go_at_call 16; refine (HA.out _ ?_ _ ?_ ?_).mono ?_; (first | exact S1.out | exact S2.out | exact S3.out); (exact HKc.out); (exact HLc.out); rintro e w3 ⟨rfl, hk3, hl3, d1, d2⟩; (have HKc := Lib.hid hk3; have HLc := Lib.hid hl3; clear hk3 hl3))
            | (go_at_call 17; refine (HF.out _ ?_ _ ?_ ?_).mono ?_; (first | exact S1.out | exact S2.out | exact S3.out); (exact HKc.out); (exact HLc.out); rintro e w3 ⟨rfl, hk3, hl3, d1, d2⟩; (have HKc := Lib.hid hk3; have HLc := Lib.hid hl3; clear hk3 hl3)))
          go_wp2
          go_roundw
          case rel => exact ⟨k + 1, by omega, by go_num, HKc.out, HLc.out⟩
          case measure => simp [intOf]; omega
        · have b4 : (23 : Int) ≤ (k : Int) := by omega
          go_wp2
          go_roundw
          case rel => exact ⟨i + 1, by omega, by go_num, HC2.out, HL2.out⟩
          case measure => simp [intOf]; omega
    · have b2 : (23 : Int) ≤ (i : Int) := by omega
      go_wp2
      go_ret
      exact ⟨rfl, HC.out.bel⟩

theorem clockKnown_core (w : World) (hk : KC w w) : Calls Tryz.prog 3 #[] w fun e w' => e = .returned (.bool true) ∧ Below w.heap.size w w' := by
  have H1 := Lib.hid (knownEnds_any w hk)
  have H2 := Lib.hid (fun w' (hb : Below w.heap.size w w') => knownTexts_any w' ⟨hk.ctx.below hb, hk.hg.below hk.hg.lt hb, Below.refl _ _⟩)
  clear hk
  go_enter Tryz.func3, Tryz.ntmps3
  go_wp2_with fail
  refine H1.out.mono ?_
  rintro e w1 ⟨rfl, hb1⟩
  go_wp2_with fail
  refine (H2.out _ hb1).mono ?_
  rintro e w2 ⟨rfl, hb2⟩
  go_wp2
  go_ret
  exact ⟨rfl, hb1.trans (hb2.mono hb1.size)⟩

end Ck

theorem clockKnown_walk (w : World) (hL : laidMetH Tryz.prog Rows.clockKnownRow.laid w) : Calls Tryz.prog 3 #[] w fun e w' => e = .returned (.bool true) ∧ Below w.heap.size w w' :=
  Ck.clockKnown_core w ⟨⟨parts_of_laid hL (by kernel_rfl), pow_of_laid hL (by kernel_rfl), Ck.err_of_laid hL (by kernel_rfl)⟩, handle_of_laid hL (by kernel_rfl), Below.refl _ _⟩

end Go.Proofs.YtbgplehmjejikaaGreatDoor
