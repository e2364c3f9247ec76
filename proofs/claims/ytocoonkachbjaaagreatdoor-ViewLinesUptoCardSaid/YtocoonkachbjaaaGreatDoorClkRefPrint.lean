/- The reference's Print. -/
import Derived.Test.YtocoonkachbjaaaGreatDoorClkRef
namespace Go.Proofs.YtocoonkachbjaaaGreatDoor
open Go.RowKit
set_option linter.unusedVariables false

theorem refprint_no (t : Int) (h : tm t = false) (w : World) :
    Calls Tryz.prog 34 #[.int .i64 t] w fun e w' => e = .returned (.tuple #[.string ⟨#[]⟩, .int .i64 12]) ∧ w = w' := by
  go_enter Tryz.func34, Tryz.ntmps34
  go_wp2_with (go_at_call 73; refine (reftime_any _ _).mono ?_; rintro e w' ⟨rfl, rfl⟩)
  go_ret2
  exact ⟨rfl, rfl⟩

theorem refprint_zero (w : World) :
    Calls Tryz.prog 34 #[.int .i64 0] w fun e w' => e = .returned (.tuple #[.string ⟨(prt 0).toArray⟩, .int .i64 0]) ∧ w = w' := by
  have h : tm 0 = true := rfl
  go_enter Tryz.func34, Tryz.ntmps34
  go_wp2_with (go_at_call 73; refine (reftime_any _ _).mono ?_; rintro e w' ⟨rfl, rfl⟩)
  go_ret2
  exact ⟨rfl, rfl⟩

def DigIs (n : Int) (d : ByteArray) : Prop := d.data.toList = Lib.itoa n

theorem digits_int (n : Int) (h0 : 0 ≤ n) (h1 : n ≤ 1099511627776) (w : World) :
    Calls Tryz.prog 75 #[.int .i64 n] w fun e w' => ∃ d : ByteArray, e = .returned (.string d) ∧ DigIs n d ∧ d.size ≤ 21 ∧ Below w.heap.size w w' := by
  obtain ⟨m, rfl⟩ := Int.eq_ofNat_of_zero_le h0
  have e : Lib.itoa (m : Int) = Lib.decDigits m := by unfold Lib.itoa; rw [if_neg (by omega), Int.toNat_natCast]
  have hl := Lib.itoa_length_le (m : Int) (by omega) (by omega)
  refine (digits_any m h1 w).mono fun e' w' ⟨he, hb⟩ => ⟨_, he, e.symm, ?_, hb⟩
  rw [e] at hl; simpa [ByteArray.size] using hl

def RPRel (t : Int) (w : World) (r s i : Value) (wr : World) : Prop :=
  ∃ (k : Nat) (x : ByteArray), k ≤ 4 ∧ i = .int .i64 k ∧ r = .int .i64 (remAt t k) ∧ s = .string x ∧ x.data.toList = accAt t k ∧ x.size ≤ 24 * k ∧ Below w.heap.size w wr

def LetIs (k : Nat) (L : ByteArray) : Prop := L.data.toList = [UInt8.ofNat (letterOf k).toNat]
set_option maxRecDepth 100000 in
theorem letters_slice (k : Nat) (hk : k < 4) : ∃ L : ByteArray, LetIs k L ∧ L.size ≤ 1 ∧ ∀ w, (Instr.slice 9 (.string ⟨#[100, 104, 109, 115]⟩) (some (.int .i64 (k : Int))) (some (.int .i64 ((k : Int) + 1))) none).run Tryz.prog w = .ok (.string L) w := by
  match k, hk with
  | 0, _ => exact ⟨⟨#[100]⟩, rfl, Nat.le_refl _, fun w => by kernel_rfl⟩
  | 1, _ => exact ⟨⟨#[104]⟩, rfl, Nat.le_refl _, fun w => by kernel_rfl⟩
  | 2, _ => exact ⟨⟨#[109]⟩, rfl, Nat.le_refl _, fun w => by kernel_rfl⟩
  | 3, _ => exact ⟨⟨#[115]⟩, rfl, Nat.le_refl _, fun w => by kernel_rfl⟩

set_option maxHeartbeats 1000000 in
set_option maxRecDepth 100000 in
theorem refprint_yes (t : Int) (h : tm t = true) (hne : t ≠ 0) (w : World) :
    Calls Tryz.prog 34 #[.int .i64 t] w fun e w' => e = .returned (.tuple #[.string ⟨(prt t).toArray⟩, .int .i64 0]) ∧ Below w.heap.size w w' := by
  obtain ⟨b0, b1⟩ := tm_yes h
  have hq : (t == 0) = false := by rw [beq_eq_false_iff_ne]; exact hne
  go_enter Tryz.func34, Tryz.ntmps34
  go_wp2_with (go_at_call 73; refine (reftime_any _ _).mono ?_; rintro e w' ⟨rfl, rfl⟩)
  go_loopw [0, 4, 5] (fun r s i wr => RPRel t w r s i wr) (fun _ _ i _ => 4 - (intOf i).toNat)
  case atStart => exact ⟨0, ByteArray.empty, by omega, rfl, rfl, rfl, rfl, by simp, Below.refl _ _⟩
  case round =>
    obtain ⟨k, x, hk, rfl, rfl, rfl, hx, hxl, hbl⟩ := hrel
    by_cases hk4 : k < 4
    · obtain ⟨c1, c2⟩ := worth_pos k
      obtain ⟨r1, r2⟩ := remAt_bd t b0 b1 k
      have hrs : remAt t (k + 1) = remAt t k % worthOf k := rfl
      have has : accAt t (k + 1) = accAt t k ++ dpart (remAt t k / worthOf k) (letterOf k) := rfl
      obtain ⟨L, hla, hll, hsl⟩ := letters_slice k hk4
      have hwk := worth_any k hk4
      obtain ⟨W, hW⟩ : ∃ W, W = worthOf k := ⟨_, rfl⟩
      obtain ⟨R, hR⟩ : ∃ R, R = remAt t k := ⟨_, rfl⟩
      rw [← hW] at c1 c2 hrs has hwk
      rw [← hR] at r1 r2 hrs has ⊢
      have HRS := Lib.hid hrs; have HAS := Lib.hid has; have HX := Lib.hid hx; have HWK := Lib.hid hwk
      clear hW hR hrs has hx hwk
      have hdiv : 0 ≤ R / W := Int.ediv_nonneg r1 (by omega)
      have hdle : R / W ≤ R := Int.ediv_le_self _ r1
      by_cases hn : 0 < R / W
      · have k0 : (0 : Int) ≤ (k : Int) := by omega
        have k1 : (k : Int) + 1 ≤ 4 := by omega
        have k2 : (k : Int) ≤ (k : Int) + 1 := by omega
        have k3 : (0 : Int) ≤ (k : Int) + 1 := by omega
        have hdc := digits_int (R / W) hdiv (by omega)
        have HDC := Lib.hid hdc
        clear hdc
        go_wp2_with (go_at_call 74; refine (HWK.out _).mono ?_; rintro e w' ⟨rfl, rfl⟩)
        have hwr : IntKind.i64.wrap ((k : Int) + 1) = (k : Int) + 1 := IntWalk.i64_in _ (by omega)
        go_region_with (go_at_call 75; refine (HDC.out _).mono ?_; rintro e w1 ⟨d, rfl, hd, hdl, hb1⟩)
        all_goals
          clear hwr
          go_wp2
          go_roundw
          case rel =>
            have ed : dpart (R / W) (letterOf k) = Lib.itoa (R / W) ++ [UInt8.ofNat (letterOf k).toNat] := if_pos hn
            refine ⟨k + 1, _, by omega, by go_num, by rw [HRS.out], rfl, ?_, ?_, ?_⟩
            · rw [HAS.out, ed, ← HX.out, ← hla, ← hd]; simp
            · rw [ByteArray.size_append, ByteArray.size_append]; omega
            · exact hbl.trans (((Below.refl wr.heap.size wr).drew.trans hb1).mono hbl.size)
          case measure => simp [intOf]; omega
      · have hd0 : R / W = 0 := by omega
        have HD := Lib.hid hd0
        clear hd0
        go_wp2_with (go_at_call 74; refine (HWK.out _).mono ?_; rintro e w' ⟨rfl, rfl⟩)
        go_roundw
        case rel =>
          have ed : dpart (R / W) (letterOf k) = [] := if_neg (by omega)
          refine ⟨k + 1, x, by omega, by go_num, by rw [HRS.out], rfl, ?_, by omega, hbl⟩
          rw [HAS.out, ed, List.append_nil, HX.out]
        case measure => simp [intOf]; omega
    · obtain rfl : k = 4 := by omega
      have hpr : prt t = accAt t 4 := if_neg hne
      have HPR := Lib.hid hpr; have HX := Lib.hid hx
      clear hpr hx
      go_wp2
      go_ret2
      exact ⟨congrArg (fun x : ByteArray => Ending.returned (Value.tuple #[Value.string x, Value.int .i64 0])) (show x = ⟨(prt t).toArray⟩ by rw [HPR.out, ← HX.out]), hbl⟩

end Go.Proofs.YtocoonkachbjaaaGreatDoor
