/- Several texts in one: what each proves its own first comment says. -/
import Derived.Test.YtocoonkachbjaaaGreatDoorM2
import Derived.Laws.Concat
import Derived.Laws.BytesString
import Derived.Laws.BytesArg
import Derived.WalkLawsBesides
import Derived.WalkSpells
import Derived.Test.YtocoonkachbjaaaGreatDoorM1
import Derived.Test.YtocoonkachbjaaaGreatDoorProg
import Derived.BigQuiet
import Derived.Deep.QuietTactic
import Derived.Laws.Runes
import Derived.Laws.RangeAny
import Derived.Laws.RangeString
import Derived.Lib.OthersKept
import Derived.Lib.RangeT
import Derived.Lib.IndexMore
import Derived.Lib.CutLaws
import Derived.Lib.PathFns
import GoSem.Op.String

/- The reference's worth, digits and Print. -/
namespace Go.Proofs.YtocoonkachbjaaaGreatDoor
open Go.RowKit
set_option linter.unusedVariables false

theorem worth_any (k : Nat) (hk : k < 4) (w : World) : Calls Tryz.prog 74 #[.int .i64 k] w fun e w' => e = .returned (.int .i64 (worthOf k)) ∧ w = w' := by
  match k, hk with
  | 0, _ => go_enter Tryz.func74, Tryz.ntmps74; go_wp2; go_ret; exact ⟨rfl, rfl⟩
  | 1, _ => go_enter Tryz.func74, Tryz.ntmps74; go_wp2; go_ret; exact ⟨rfl, rfl⟩
  | 2, _ => go_enter Tryz.func74, Tryz.ntmps74; go_wp2; go_ret; exact ⟨rfl, rfl⟩
  | 3, _ => go_enter Tryz.func74, Tryz.ntmps74; go_wp2; go_ret; exact ⟨rfl, rfl⟩

theorem conv_one (w : World) (x : Int) : (convert 108 9 (.slice (some ⟨w.heap.size, 0, none⟩) 1 1)).run Tryz.prog (w.alloc (.cells #[.int .u8 x] 5)) = .ok (.string (strOfNums [x])) (w.alloc (.cells #[.int .u8 x] 5)) :=
  run_convert_bytes_arg (w.alloc (.cells #[.int .u8 x] 5)) 108 5 Tryz.underlying108 Tryz.underlying5 w.heap.size 0 1 1 [x] rfl (fun i hi => by
    obtain rfl : i = 0 := by omega
    simp) 9 Tryz.underlying9

theorem strOfNums_one (x : Int) : (strOfNums [x]).data.toList = [UInt8.ofNat x.toNat] := rfl

/-- The digits that have been made, and what is left. -/
def DInv (n : Nat) (i nn : Nat) (s : ByteArray) : Prop :=
  (i = 0 ∧ nn = n ∧ s.data.toList = []) ∨ (0 < i ∧ 0 < nn ∧ Lib.decDigits n = Lib.decDigits nn ++ s.data.toList) ∨ (0 < i ∧ nn = 0 ∧ Lib.decDigits n = s.data.toList)

set_option maxHeartbeats 1000000 in
theorem DInv.step {n i nn : Nat} {t : ByteArray} (h : DInv n i nn t) (hgo : i = 0 ∨ 0 < nn) : DInv n (i + 1) (nn / 10) (strOfNums [48 + (nn : Int) % 10] ++ t) := by
  have e : (strOfNums [48 + (nn : Int) % 10] ++ t).data.toList = UInt8.ofNat (48 + nn % 10) :: t.data.toList := by
    rw [ByteArray.data_append, Array.toList_append, strOfNums_one]
    have : (48 + (nn : Int) % 10).toNat = 48 + nn % 10 := by omega
    rw [this]; rfl
  have base : Lib.decDigits n = Lib.decDigits nn ++ t.data.toList := by
    rcases h with ⟨_, rfl, h⟩ | ⟨_, _, h⟩ | ⟨h1, h2, _⟩
    · rw [h, List.append_nil]
    · exact h
    · omega
  by_cases hlt : nn < 10
  · refine .inr (.inr ⟨by omega, by omega, ?_⟩)
    rw [e, base, Lib.decDigits_one hlt, Nat.mod_eq_of_lt hlt]; rfl
  · refine .inr (.inl ⟨by omega, by omega, ?_⟩)
    rw [e, base, Lib.decDigits, dif_neg hlt]; simp

def DRel (n : Nat) (w : World) (r s i : Value) (wr : World) : Prop :=
  ∃ (i' nn : Nat) (t : ByteArray), i = .int .i64 i' ∧ i' ≤ 20 ∧ r = .int .i64 nn ∧ nn * 10 ^ i' ≤ 1099511627776 ∧ (nn : Int) ≤ 1099511627776 ∧ s = .string t ∧ t.size ≤ i' ∧ DInv n i' nn t ∧ Below w.heap.size w wr

set_option maxRecDepth 100000 in
theorem digits_any (n : Nat) (hn : (n : Int) ≤ 1099511627776) (w : World) :
    Calls Tryz.prog 75 #[.int .i64 n] w fun e w' => e = .returned (.string ⟨(Lib.decDigits n).toArray⟩) ∧ Below w.heap.size w w' := by
  go_enter Tryz.func75, Tryz.ntmps75
  go_wp2
  go_loopw [0, 3, 4] (fun r s i wr => DRel n w r s i wr) (fun _ _ i _ => 20 - (intOf i).toNat)
  case atStart => exact ⟨0, n, ByteArray.empty, rfl, by omega, rfl, (show n * 10 ^ 0 ≤ 1099511627776 by omega), hn, rfl, by simp, .inl ⟨rfl, rfl, rfl⟩, Below.refl _ _⟩
  case round =>
    obtain ⟨i, nn, t, rfl, hi, rfl, hp, hb, rfl, ht, hd, hbl⟩ := hrel
    have hcv := conv_one wr (48 + (nn : Int) % 10)
    have hbr := hbl.size
    have hone : (strOfNums [48 + (nn : Int) % 10]).size ≤ 1 := Nat.le_refl 1
    by_cases hgo : i = 0 ∨ 0 < nn
    · have hi20 : i < 20 := by
        rcases Nat.lt_or_ge i 20 with h | h
        · exact h
        · obtain rfl : i = 20 := by omega
          have h1 : 0 < nn := by omega
          have h2 : nn * 10 ^ 20 ≤ 1099511627776 := hp
          omega
      have hnext := DInv.step hd hgo
      have hsz : (strOfNums [48 + (nn : Int) % 10] ++ t).size ≤ i + 1 := by
        have : (strOfNums [48 + (nn : Int) % 10]).size = 1 := rfl
        rw [ByteArray.size_append]; omega
      have hpw : nn / 10 * 10 ^ (i + 1) ≤ 1099511627776 := by
        have h2 : nn * 10 ^ i ≤ 1099511627776 := hp
        have h3 : nn / 10 * 10 ≤ nn := Nat.div_mul_le_self nn 10
        calc nn / 10 * 10 ^ (i + 1) = (nn / 10 * 10) * 10 ^ i := by rw [Nat.pow_succ, Nat.mul_comm (10 ^ i) 10, Nat.mul_assoc]
          _ ≤ nn * 10 ^ i := Nat.mul_le_mul_right _ h3
          _ ≤ 1099511627776 := h2
      have HN := Lib.hid hnext; have HS := Lib.hid hsz; have HPW := Lib.hid hpw
      clear hnext hsz hpw hd hp
      by_cases h0 : i = 0
      · have q0 : ((i : Int) == 0) = true := by rw [h0]; rfl
        have HI := Lib.hid h0
        clear h0 hgo
        go_wp2
        go_roundw
        case rel => exact ⟨i + 1, nn / 10, _, by go_num, by omega, by go_num, HPW, by omega, rfl, HS.out, HN.out, hbl.alloc hbr _⟩
        case measure => simp [intOf]; omega
      · have q0 : ((i : Int) == 0) = false := by rw [beq_eq_false_iff_ne]; omega
        have q1 : 0 < nn := by omega
        clear hgo
        go_wp2
        go_roundw
        case rel => exact ⟨i + 1, nn / 10, _, by go_num, by omega, by go_num, HPW, by omega, rfl, HS.out, HN.out, hbl.alloc hbr _⟩
        case measure => simp [intOf]; omega
    · have q0 : ((i : Int) == 0) = false := by rw [beq_eq_false_iff_ne]; omega
      obtain rfl : nn = 0 := by omega
      have hfin : Lib.decDigits n = t.data.toList := by
        rcases hd with ⟨h, _⟩ | ⟨_, h, _⟩ | ⟨_, _, h⟩
        · omega
        · omega
        · exact h
      have HF := Lib.hid hfin
      clear hfin hd hgo hp hcv
      go_wp2
      all_goals
        go_ret
        exact ⟨congrArg (fun x : ByteArray => Ending.returned (Value.string x)) (show t = ⟨(Lib.decDigits n).toArray⟩ by rw [HF.out]), hbl⟩

end Go.Proofs.YtocoonkachbjaaaGreatDoor

/- The reference's Print. -/
namespace Go.Proofs.YtocoonkachbjaaaGreatDoor
open Go.RowKit
set_option linter.unusedVariables false

theorem refprint_zero (w : World) :
    Calls Tryz.prog 34 #[.int .i64 0] w fun e w' => e = .returned (.tuple #[.string ⟨(prt 0).toArray⟩, .int .i64 0]) ∧ w = w' := by
  have h : tm 0 = true := rfl
  go_enter Tryz.func34, Tryz.ntmps34
  go_wp2_with (go_at_call 73; refine (reftime_any _ _).mono ?_; rintro e w' ⟨rfl, rfl⟩)
  go_ret2
  exact ⟨rfl, rfl⟩

def DigIs (n : Int) (d : ByteArray) : Prop := d.data.toList = Lib.itoa n

theorem digits_int (n : Int) (h0 : 0 ≤ n) (h1 : n ≤ 1099511627776) (w : World) :
    Calls Tryz.prog 75 #[.int .i64 n] w fun e w' => ∃ d : ByteArray, e = .returned (.string d) ∧ DigIs n d ∧ d.size ≤ 21 ∧ Below w.heap.size w w' := by
  obtain ⟨m, rfl⟩ := Int.eq_ofNat_of_zero_le h0
  have e : Lib.itoa (m : Int) = Lib.decDigits m := by unfold Lib.itoa; rw [if_neg (by omega), Int.toNat_natCast]
  have hl := Lib.itoa_length_le (m : Int) (by omega) (by omega)
  refine (digits_any m h1 w).mono fun e' w' ⟨he, hb⟩ => ⟨_, he, e.symm, ?_, hb⟩
  rw [e] at hl; simpa [ByteArray.size] using hl

def RPRel (t : Int) (w : World) (r s i : Value) (wr : World) : Prop :=
  ∃ (k : Nat) (x : ByteArray), k ≤ 4 ∧ i = .int .i64 k ∧ r = .int .i64 (remAt t k) ∧ s = .string x ∧ x.data.toList = accAt t k ∧ x.size ≤ 24 * k ∧ Below w.heap.size w wr

def LetIs (k : Nat) (L : ByteArray) : Prop := L.data.toList = [UInt8.ofNat (letterOf k).toNat]
set_option maxRecDepth 100000 in
theorem letters_slice (k : Nat) (hk : k < 4) : ∃ L : ByteArray, LetIs k L ∧ L.size ≤ 1 ∧ ∀ w, (Instr.slice 9 (.string ⟨#[100, 104, 109, 115]⟩) (some (.int .i64 (k : Int))) (some (.int .i64 ((k : Int) + 1))) none).run Tryz.prog w = .ok (.string L) w := by
  match k, hk with
  | 0, _ => exact ⟨⟨#[100]⟩, rfl, Nat.le_refl _, fun w => by kernel_rfl⟩
  | 1, _ => exact ⟨⟨#[104]⟩, rfl, Nat.le_refl _, fun w => by kernel_rfl⟩
  | 2, _ => exact ⟨⟨#[109]⟩, rfl, Nat.le_refl _, fun w => by kernel_rfl⟩
  | 3, _ => exact ⟨⟨#[115]⟩, rfl, Nat.le_refl _, fun w => by kernel_rfl⟩

set_option maxHeartbeats 1000000 in
set_option maxRecDepth 100000 in
theorem refprint_yes (t : Int) (h : tm t = true) (hne : t ≠ 0) (w : World) :
    Calls Tryz.prog 34 #[.int .i64 t] w fun e w' => e = .returned (.tuple #[.string ⟨(prt t).toArray⟩, .int .i64 0]) ∧ Below w.heap.size w w' := by
  obtain ⟨b0, b1⟩ := tm_yes h
  have hq : (t == 0) = false := by rw [beq_eq_false_iff_ne]; exact hne
  go_enter Tryz.func34, Tryz.ntmps34
  go_wp2_with (go_at_call 73; refine (reftime_any _ _).mono ?_; rintro e w' ⟨rfl, rfl⟩)
  go_loopw [0, 4, 5] (fun r s i wr => RPRel t w r s i wr) (fun _ _ i _ => 4 - (intOf i).toNat)
  case atStart => exact ⟨0, ByteArray.empty, by omega, rfl, rfl, rfl, rfl, by simp, Below.refl _ _⟩
  case round =>
    obtain ⟨k, x, hk, rfl, rfl, rfl, hx, hxl, hbl⟩ := hrel
    by_cases hk4 : k < 4
    · obtain ⟨c1, c2⟩ := worth_pos k
      obtain ⟨r1, r2⟩ := remAt_bd t b0 b1 k
      have hrs : remAt t (k + 1) = remAt t k % worthOf k := rfl
      have has : accAt t (k + 1) = accAt t k ++ dpart (remAt t k / worthOf k) (letterOf k) := rfl
      obtain ⟨L, hla, hll, hsl⟩ := letters_slice k hk4
      have hwk := worth_any k hk4
      obtain ⟨W, hW⟩ : ∃ W, W = worthOf k := ⟨_, rfl⟩
      obtain ⟨R, hR⟩ : ∃ R, R = remAt t k := ⟨_, rfl⟩
      rw [← hW] at c1 c2 hrs has hwk
      rw [← hR] at r1 r2 hrs has ⊢
      have HRS := Lib.hid hrs; have HAS := Lib.hid has; have HX := Lib.hid hx; have HWK := Lib.hid hwk
      clear hW hR hrs has hx hwk
      have hdiv : 0 ≤ R / W := Int.ediv_nonneg r1 (by omega)
      have hdle : R / W ≤ R := Int.ediv_le_self _ r1
      by_cases hn : 0 < R / W
      · have k0 : (0 : Int) ≤ (k : Int) := by omega
        have k1 : (k : Int) + 1 ≤ 4 := by omega
        have k2 : (k : Int) ≤ (k : Int) + 1 := by omega
        have k3 : (0 : Int) ≤ (k : Int) + 1 := by omega
        have hdc := digits_int (R / W) hdiv (by omega)
        have HDC := Lib.hid hdc
        clear hdc
        go_wp2_with (go_at_call 74; refine (HWK.out _).mono ?_; rintro e w' ⟨rfl, rfl⟩)
        have hwr : IntKind.i64.wrap ((k : Int) + 1) = (k : Int) + 1 := IntWalk.i64_in _ (by omega)
        go_region_with (go_at_call 75; refine (HDC.out _).mono ?_; rintro e w1 ⟨d, rfl, hd, hdl, hb1⟩)
        all_goals
          clear hwr
          go_wp2
          go_roundw
          case rel =>
            have ed : dpart (R / W) (letterOf k) = Lib.itoa (R / W) ++ [UInt8.ofNat (letterOf k).toNat] := if_pos hn
            refine ⟨k + 1, _, by omega, by go_num, by rw [HRS.out], rfl, ?_, ?_, ?_⟩
            · rw [HAS.out, ed, ← HX.out, ← hla, ← hd]; simp
            · rw [ByteArray.size_append, ByteArray.size_append]; omega
            · exact hbl.trans (((Below.refl wr.heap.size wr).drew.trans hb1).mono hbl.size)
          case measure => simp [intOf]; omega
      · have hd0 : R / W = 0 := by omega
        have HD := Lib.hid hd0
        clear hd0
        go_wp2_with (go_at_call 74; refine (HWK.out _).mono ?_; rintro e w' ⟨rfl, rfl⟩)
        go_roundw
        case rel =>
          have ed : dpart (R / W) (letterOf k) = [] := if_neg (by omega)
          refine ⟨k + 1, x, by omega, by go_num, by rw [HRS.out], rfl, ?_, by omega, hbl⟩
          rw [HAS.out, ed, List.append_nil, HX.out]
        case measure => simp [intOf]; omega
    · obtain rfl : k = 4 := by omega
      have hpr : prt t = accAt t 4 := if_neg hne
      have HPR := Lib.hid hpr; have HX := Lib.hid hx
      clear hpr hx
      go_wp2
      go_ret2
      exact ⟨congrArg (fun x : ByteArray => Ending.returned (Value.tuple #[Value.string x, Value.int .i64 0])) (show x = ⟨(prt t).toArray⟩ by rw [HPR.out, ← HX.out]), hbl⟩

end Go.Proofs.YtocoonkachbjaaaGreatDoor

/- A session's line: the words of a kind and of a level, and the digits of a number; the program's and the document's. -/
namespace Go.Proofs.YtocoonkachbjaaaGreatDoor
open Go.RowKit
set_option linter.unusedVariables false
namespace Vw
abbrev Bs := List UInt8

/-- A kind's word; a level's. -/
def kindL (k : Int) : Bs := if k = 0 then [108, 111, 103, 105, 110] else if k = 1 then [100, 101, 108, 101, 103, 97, 116, 101, 100] else if k = 2 then [114, 97, 105, 115, 101, 100] else []
def levL (l : Int) : Bs := if l = 0 then [108, 111, 119] else if l = 1 then [109, 105, 100] else if l = 2 then [104, 105, 103, 104] else []
theorem kind_len (k : Int) : (kindL k).length ≤ 9 := by unfold kindL; (repeat' split) <;> simp
theorem lev_len (l : Int) : (levL l).length ≤ 4 := by unfold levL; (repeat' split) <;> simp

theorem vword_any (k : Int) (w : World) : Calls Tryz.prog 23 #[.int .i64 k] w fun e w' => e = .returned (.string ⟨(kindL k).toArray⟩) ∧ w = w' := by
  by_cases h0 : k = 0
  · subst h0
    go_enter Tryz.func23, Tryz.ntmps23; go_wp2; go_ret; exact ⟨rfl, rfl⟩
  · by_cases h1 : k = 1
    · subst h1
      go_enter Tryz.func23, Tryz.ntmps23; go_wp2; go_ret; exact ⟨rfl, rfl⟩
    · by_cases h2 : k = 2
      · subst h2
        go_enter Tryz.func23, Tryz.ntmps23; go_wp2; go_ret; exact ⟨rfl, rfl⟩
      · have e : kindL k = [] := by unfold kindL; rw [if_neg h0, if_neg h1, if_neg h2]
        rw [e]
        have g0 : (k == 0) = false := by simp [h0]
        have g1 : (k == 1) = false := by simp [h1]
        have g2 : (k == 2) = false := by simp [h2]
        clear h0 h1 h2 e
        go_enter Tryz.func23, Tryz.ntmps23; go_wp2; go_ret; exact ⟨rfl, rfl⟩
theorem rkind_any (k : Int) (w : World) : Calls Tryz.prog 31 #[.int .i64 k] w fun e w' => e = .returned (.string ⟨(kindL k).toArray⟩) ∧ w = w' := by
  by_cases h0 : k = 0
  · subst h0
    go_enter Tryz.func31, Tryz.ntmps31; go_wp2; go_ret; exact ⟨rfl, rfl⟩
  · by_cases h1 : k = 1
    · subst h1
      go_enter Tryz.func31, Tryz.ntmps31; go_wp2; go_ret; exact ⟨rfl, rfl⟩
    · by_cases h2 : k = 2
      · subst h2
        go_enter Tryz.func31, Tryz.ntmps31; go_wp2; go_ret; exact ⟨rfl, rfl⟩
      · have e : kindL k = [] := by unfold kindL; rw [if_neg h0, if_neg h1, if_neg h2]
        rw [e]
        have g0 : (k == 0) = false := by simp [h0]
        have g1 : (k == 1) = false := by simp [h1]
        have g2 : (k == 2) = false := by simp [h2]
        clear h0 h1 h2 e
        go_enter Tryz.func31, Tryz.ntmps31; go_wp2; go_ret; exact ⟨rfl, rfl⟩

theorem is_yes (l : Int) (h0 : 0 ≤ l) (h1 : l ≤ 2) (w : World) : Calls Tryz.prog 63 #[.int .i64 l] w fun e w' => e = .returned (.bool true) ∧ w = w' := by
  go_enter Tryz.func63, Tryz.ntmps63
  go_wp2
  go_ret
  exact ⟨by simp, rfl⟩
theorem is_no (l : Int) (h : l < 0 ∨ 2 < l) (w : World) : Calls Tryz.prog 63 #[.int .i64 l] w fun e w' => e = .returned (.bool false) ∧ w = w' := by
  by_cases h1 : l < 0
  · have g : decide (0 ≤ l) = false := by simp; omega
    clear h
    go_enter Tryz.func63, Tryz.ntmps63
    go_wp2
    go_ret
    exact ⟨by simp, rfl⟩
  · have h2 : 0 ≤ l := by omega
    have h3 : 2 < l := by omega
    have g : decide (l ≤ 2) = false := by simp; omega
    clear h h1
    go_enter Tryz.func63, Tryz.ntmps63
    go_wp2
    go_ret
    exact ⟨by simp, rfl⟩
theorem names_any3 (w : World) : Calls Tryz.prog 64 #[] w fun e w' => e = .returned (.agg #[.string ⟨#[108, 111, 119]⟩, .string ⟨#[109, 105, 100]⟩, .string ⟨#[104, 105, 103, 104]⟩]) ∧ Below w.heap.size w w' := by
  go_enter Tryz.func64, Tryz.ntmps64
  go_wp2
  refine bodyPost_ret (v := .agg #[.string ⟨#[108, 111, 119]⟩, .string ⟨#[109, 105, 100]⟩, .string ⟨#[104, 105, 103, 104]⟩]) (by simp [results, Tryz.results64, go_sem]) rfl ⟨rfl, ?_⟩
  exact (Below.refl _ _).alloc (Nat.le_refl _) _
set_option maxRecDepth 100000 in
theorem lev_index (l : Int) (h0 : 0 ≤ l) (h1 : l ≤ 2) : ∀ w, (Instr.index 104 (.agg #[.string ⟨#[108, 111, 119]⟩, .string ⟨#[109, 105, 100]⟩, .string ⟨#[104, 105, 103, 104]⟩]) (.int .i64 l)).run Tryz.prog w = .ok (.string ⟨(levL l).toArray⟩) w := by
  have h : l = 0 ∨ l = 1 ∨ l = 2 := by omega
  rcases h with rfl | rfl | rfl <;> exact fun w => by kernel_rfl
theorem level_yes (l : Int) (h0 : 0 ≤ l) (h1 : l ≤ 2) (w : World) : Calls Tryz.prog 24 #[.int .i64 l] w fun e w' => e = .returned (.tuple #[.string ⟨(levL l).toArray⟩, .nilIface]) ∧ Below w.heap.size w w' := by
  have HI := Lib.hid (fun w' => is_yes l h0 h1 w')
  have HN := Lib.hid (fun w' => names_any3 w')
  have hix := lev_index l h0 h1
  clear h0 h1
  go_enter Tryz.func24, Tryz.ntmps24
  go_wp2_with fail
  refine (HI.out _).mono ?_
  rintro e w1 ⟨rfl, rfl⟩
  go_wp2_with fail
  refine (HN.out _).mono ?_
  rintro e w2 ⟨rfl, hb⟩
  go_wp2
  go_ret2
  exact ⟨rfl, hb⟩
theorem level_no (l : Int) (h : l < 0 ∨ 2 < l) (w : World) : Calls Tryz.prog 24 #[.int .i64 l] w fun e w' => e = .returned (.tuple #[.string ⟨#[]⟩, .iface 55 (.int .i64 13)]) ∧ w = w' := by
  have HI := Lib.hid (fun w' => is_no l h w')
  clear h
  go_enter Tryz.func24, Tryz.ntmps24
  go_wp2_with fail
  refine (HI.out _).mono ?_
  rintro e w1 ⟨rfl, rfl⟩
  go_wp2
  go_ret2
  exact ⟨rfl, rfl⟩
theorem rlevel_any (l : Int) (w : World) : Calls Tryz.prog 32 #[.int .i64 l] w fun e w' => e = .returned (.tuple #[.string ⟨(levL l).toArray⟩, .int .i64 (if 0 ≤ l ∧ l ≤ 2 then 0 else 13)]) ∧ w = w' := by
  by_cases h0 : l = 0
  · subst h0
    go_enter Tryz.func32, Tryz.ntmps32; go_wp2; go_ret2; exact ⟨rfl, rfl⟩
  · by_cases h1 : l = 1
    · subst h1
      go_enter Tryz.func32, Tryz.ntmps32; go_wp2; go_ret2; exact ⟨rfl, rfl⟩
    · by_cases h2 : l = 2
      · subst h2
        go_enter Tryz.func32, Tryz.ntmps32; go_wp2; go_ret2; exact ⟨rfl, rfl⟩
      · have e : levL l = [] := by unfold levL; rw [if_neg h0, if_neg h1, if_neg h2]
        rw [e, if_neg (show ¬ (0 ≤ l ∧ l ≤ 2) by omega)]
        have g0 : (l == 0) = false := by simp [h0]
        have g1 : (l == 1) = false := by simp [h1]
        have g2 : (l == 2) = false := by simp [h2]
        clear h0 h1 h2 e
        go_enter Tryz.func32, Tryz.ntmps32; go_wp2; go_ret2; exact ⟨rfl, rfl⟩

set_option maxRecDepth 100000 in
theorem vdigits_any (n : Nat) (h1 : 1 ≤ n) (hn : (n : Int) ≤ 1099511627776) (w : World) :
    Calls Tryz.prog 36 #[.int .i64 n] w fun e w' => e = .returned (.string ⟨(Lib.decDigits n).toArray⟩) ∧ Below w.heap.size w w' := by
  go_enter Tryz.func36, Tryz.ntmps36
  go_wp2
  go_loopw [0, 3, 4] (fun r s i wr => DRel n w r s i wr) (fun _ _ i _ => 20 - (intOf i).toNat)
  case atStart => exact ⟨0, n, ByteArray.empty, rfl, by omega, rfl, (show n * 10 ^ 0 ≤ 1099511627776 by omega), hn, rfl, by simp, .inl ⟨rfl, rfl, rfl⟩, Below.refl _ _⟩
  case round =>
    obtain ⟨i, nn, t, rfl, hi, rfl, hp, hb, rfl, ht, hd, hbl⟩ := hrel
    have hcv := conv_one wr (48 + (nn : Int) % 10)
    have hbr := hbl.size
    have hone : (strOfNums [48 + (nn : Int) % 10]).size ≤ 1 := Nat.le_refl 1
    by_cases hgo : 0 < nn
    · have hi20 : i < 20 := by
        rcases Nat.lt_or_ge i 20 with h | h
        · exact h
        · obtain rfl : i = 20 := by omega
          have h2 : nn * 10 ^ 20 ≤ 1099511627776 := hp
          omega
      have hnext := DInv.step hd (.inr hgo)
      have hsz : (strOfNums [48 + (nn : Int) % 10] ++ t).size ≤ i + 1 := by
        have : (strOfNums [48 + (nn : Int) % 10]).size = 1 := rfl
        rw [ByteArray.size_append]; omega
      have hpw : nn / 10 * 10 ^ (i + 1) ≤ 1099511627776 := by
        have h2 : nn * 10 ^ i ≤ 1099511627776 := hp
        have h3 : nn / 10 * 10 ≤ nn := Nat.div_mul_le_self nn 10
        calc nn / 10 * 10 ^ (i + 1) = (nn / 10 * 10) * 10 ^ i := by rw [Nat.pow_succ, Nat.mul_comm (10 ^ i) 10, Nat.mul_assoc]
          _ ≤ nn * 10 ^ i := Nat.mul_le_mul_right _ h3
          _ ≤ 1099511627776 := h2
      have HN := Lib.hid hnext; have HS := Lib.hid hsz; have HPW := Lib.hid hpw
      clear hnext hsz hpw hd hp
      go_wp2
      go_roundw
      case rel => exact ⟨i + 1, nn / 10, _, by go_num, by omega, by go_num, HPW, by omega, rfl, HS.out, HN.out, hbl.alloc hbr _⟩
      case measure => simp [intOf]; omega
    · obtain rfl : nn = 0 := by omega
      have hfin : Lib.decDigits n = t.data.toList := by
        rcases hd with ⟨_, h, _⟩ | ⟨_, h, _⟩ | ⟨_, _, h⟩
        · omega
        · omega
        · exact h
      have HF := Lib.hid hfin
      clear hfin hd hgo hp hcv
      go_wp2
      all_goals
        go_ret
        exact ⟨congrArg (fun x : ByteArray => Ending.returned (Value.string x)) (show t = ⟨(Lib.decDigits n).toArray⟩ by rw [HF.out]), hbl⟩

end Vw
end Go.Proofs.YtocoonkachbjaaaGreatDoor

/- A session as its cells say it. No program's code is walked here. -/
namespace Go.Proofs.YtocoonkachbjaaaGreatDoor
set_option linter.unusedVariables false
namespace Vw
structure Sess where
  slot : Int
  birth : Int
  us : Int
  ub : Int
  kind : Int
  user : ByteArray
  label : ByteArray
  scopes : Nat
  level : Int
  born : Int
  dl : Int
  depth : Int
def Sess.cells (s : Sess) : List Value := [.int .i64 s.slot, .int .i64 s.birth, .int .i64 s.us, .int .i64 s.ub, .int .i64 s.kind, .string s.user, .string s.label, .int .u64 (s.scopes : Int), .int .i64 s.level, .int .i64 s.born, .int .i64 s.dl, .int .i64 s.depth]
end Vw
end Go.Proofs.YtocoonkachbjaaaGreatDoor

/- strings.ContainsRune in the signs of a name, of every rune. -/
namespace Go.Proofs.YtocoonkachbjaaaGreatDoor
open Go.RowKit
set_option linter.unusedVariables false

theorem enc_two (r : Int) (h1 : 128 ≤ r) (h2 : r < 2048) : ∃ x y : UInt8, Utf8.encode r = ⟨#[x, y]⟩ ∧ 128 ≤ y.toNat := by
  have hv : Utf8.valid r = true := by simp [Utf8.valid]; omega
  refine ⟨UInt8.ofNat (0xC0 + r.toNat / 64), UInt8.ofNat (0x80 + r.toNat % 64), ?_, by simp; omega⟩
  unfold Utf8.encode; rw [hv]; simp only [if_true]; rw [if_neg (by omega), if_pos (by omega)]
theorem enc_three (r : Int) (h1 : 2048 ≤ r) (h2 : r < 65536) (hv : Utf8.valid r = true) : ∃ x y z : UInt8, Utf8.encode r = ⟨#[x, y, z]⟩ ∧ 128 ≤ z.toNat := by
  refine ⟨UInt8.ofNat (0xE0 + r.toNat / 4096), UInt8.ofNat (0x80 + r.toNat / 64 % 64), UInt8.ofNat (0x80 + r.toNat % 64), ?_, by simp; omega⟩
  unfold Utf8.encode; rw [hv]; simp only [if_true]; rw [if_neg (by omega), if_neg (by omega), if_pos (by omega)]
theorem enc_four (r : Int) (h1 : 65536 ≤ r) (hv : Utf8.valid r = true) : ∃ x y z u : UInt8, Utf8.encode r = ⟨#[x, y, z, u]⟩ ∧ 128 ≤ u.toNat := by
  refine ⟨UInt8.ofNat (0xF0 + r.toNat / 262144), UInt8.ofNat (0x80 + r.toNat / 4096 % 64), UInt8.ofNat (0x80 + r.toNat / 64 % 64), UInt8.ofNat (0x80 + r.toNat % 64), ?_, by simp; omega⟩
  unfold Utf8.encode; rw [hv]; simp only [if_true]; rw [if_neg (by omega), if_neg (by omega), if_neg (by omega)]

theorem indexByte_high (l : List UInt8) (c : UInt8) (h : ∀ b ∈ l, b.toNat < 128) (hc : 128 ≤ c.toNat) : Lib.indexByte l c = -1 := by
  induction l with
  | nil => rfl
  | cons b l ih =>
    have hb := h b (by simp)
    have hne : ¬ b = c := fun e => by rw [e] at hb; omega
    have := ih (fun x hx => h x (by simp [hx]))
    unfold Lib.indexByte
    simp [hne, this]

/-- strings.IndexByte of a byte beyond ASCII in an ASCII text. -/
theorem indexByte_none (S : ByteArray) (y : UInt8) (hy : 128 ≤ y.toNat) (hS : (S.data.toList.all fun b => decide (b.toNat < 128)) = true) (w : World) :
    Calls Tryz.prog 117 #[.string S, .int .u8 y.toNat] w fun e w' => e = .returned (.int .i64 (-1)) ∧ w' = w := by
  have h := Tryz.strings_IndexByte S y.toNat w
  rw [show Lib.indexByte S.data.toList (y.toNat : Int).toNat.toUInt8 = -1 from indexByte_high _ _ (fun b hb => of_decide_eq_true (List.all_eq_true.1 hS b hb)) (by simpa using hy)] at h
  exact h

set_option maxRecDepth 100000 in
set_option maxHeartbeats 1000000 in
theorem indexRune_two (r : Int) (h1 : 128 ≤ r) (h2 : r < 2048) (w : World) :
    Calls Tryz.prog 102 #[.string ⟨#[48, 49, 50, 51, 52, 53, 54, 55, 56, 57, 45, 95]⟩, .int .i32 r] w fun e w' => e = .returned (.int .i64 (-1)) ∧ ∃ n, w' = w.drewN n := by
  obtain ⟨x, y, hR, hy⟩ := enc_two r h1 h2
  have q1 : (r == 65533) = false := by rw [beq_eq_false_iff_ne]; omega
  have hvr : Lib.validRune r = true := by simp [Lib.validRune]; omega
  have hcv : ∀ w, (convert 21 9 (.int .i32 r)).run Tryz.prog w = .ok (.string ⟨#[x, y]⟩) w := fun w => by
    rw [← hR]; exact run_convert_int_string w _ _ _ _ (by rw [Tryz.underlying21]; rfl) Tryz.underlying9
  have q2 : (((⟨#[48, 49, 50, 51, 52, 53, 54, 55, 56, 57, 45, 95]⟩ : ByteArray)[1].toNat : Int) != (((⟨#[x, y]⟩ : ByteArray)[1]'(by show 1 < 2; decide)).toNat : Int)) = true := by
    show ((49 : Int) != (y.toNat : Int)) = true
    rw [bne_iff_ne]; omega
  have h0 : 128 ≤ r := by omega
  have HVR := Lib.hid hvr
  clear hvr hR
  go_enter Tryz.func102, Tryz.ntmps102
  go_wp2_with (go_at_call 118; refine (Tryz.utf8_ValidRune r _).mono ?_; rintro e w' ⟨rfl, rfl⟩; rw [HVR.out])
  go_step3
  go_wp2_with fail
  refine wp_loop_rounds 1 ?_
  rw [rounds_succ]
  go_wp2_with fail
  go_step3
  go_wp2_with fail
  go_quiet (fail)
  go_wp2_with fail
  generalize hw2 : w'.drewN _ = w2
  have HW2 := Lib.hid hw2
  clear hw2
  go_quiet ((go_at_call 117; exact Calls.quiet_of_same (indexByte_none _ y hy (by decide) _)))
  go_wp2
  rw [Exit.noGoto_ret]
  go_wp2
  rw [Exit.noGoto_ret]
  go_ret
  exact ⟨rfl, _, by rw [← HW2.out, World.drewN_drewN]⟩

set_option maxRecDepth 100000 in
set_option maxHeartbeats 1000000 in
theorem indexRune_three (r : Int) (h1 : 2048 ≤ r) (h2 : r < 65536) (h3 : r ≠ 65533) (hv : Utf8.valid r = true) (w : World) :
    Calls Tryz.prog 102 #[.string ⟨#[48, 49, 50, 51, 52, 53, 54, 55, 56, 57, 45, 95]⟩, .int .i32 r] w fun e w' => e = .returned (.int .i64 (-1)) ∧ ∃ n, w' = w.drewN n := by
  obtain ⟨x, y, z, hR, hy⟩ := enc_three r h1 h2 hv
  have q1 : (r == 65533) = false := by rw [beq_eq_false_iff_ne]; omega
  have hvr : Lib.validRune r = true := by simp [Utf8.valid] at hv; simp [Lib.validRune]; omega
  have hcv : ∀ w, (convert 21 9 (.int .i32 r)).run Tryz.prog w = .ok (.string ⟨#[x, y, z]⟩) w := fun w => by
    rw [← hR]; exact run_convert_int_string w _ _ _ _ (by rw [Tryz.underlying21]; rfl) Tryz.underlying9
  have q2 : (((⟨#[48, 49, 50, 51, 52, 53, 54, 55, 56, 57, 45, 95]⟩ : ByteArray)[2].toNat : Int) != (((⟨#[x, y, z]⟩ : ByteArray)[2]'(by show 2 < 3; decide)).toNat : Int)) = true := by
    show ((50 : Int) != (z.toNat : Int)) = true
    rw [bne_iff_ne]; omega
  have h0 : 128 ≤ r := by omega
  have HVR := Lib.hid hvr
  clear hvr hR
  go_enter Tryz.func102, Tryz.ntmps102
  go_wp2_with (go_at_call 118; refine (Tryz.utf8_ValidRune r _).mono ?_; rintro e w' ⟨rfl, rfl⟩; rw [HVR.out])
  go_step3
  go_wp2_with fail
  refine wp_loop_rounds 1 ?_
  rw [rounds_succ]
  go_wp2_with fail
  go_step3
  go_wp2_with fail
  go_quiet (fail)
  go_wp2_with fail
  generalize hw2 : w'.drewN _ = w2
  have HW2 := Lib.hid hw2
  clear hw2
  go_quiet ((go_at_call 117; exact Calls.quiet_of_same (indexByte_none _ z hy (by decide) _)))
  go_wp2
  rw [Exit.noGoto_ret]
  go_wp2
  rw [Exit.noGoto_ret]
  go_ret
  exact ⟨rfl, _, by rw [← HW2.out, World.drewN_drewN]⟩

set_option maxRecDepth 100000 in
set_option maxHeartbeats 1000000 in
theorem indexRune_four (r : Int) (h1 : 65536 ≤ r) (hv : Utf8.valid r = true) (w : World) :
    Calls Tryz.prog 102 #[.string ⟨#[48, 49, 50, 51, 52, 53, 54, 55, 56, 57, 45, 95]⟩, .int .i32 r] w fun e w' => e = .returned (.int .i64 (-1)) ∧ ∃ n, w' = w.drewN n := by
  obtain ⟨x, y, z, u, hR, hy⟩ := enc_four r h1 hv
  have q1 : (r == 65533) = false := by rw [beq_eq_false_iff_ne]; omega
  have hvr : Lib.validRune r = true := by simp [Utf8.valid] at hv; simp [Lib.validRune]; omega
  have hcv : ∀ w, (convert 21 9 (.int .i32 r)).run Tryz.prog w = .ok (.string ⟨#[x, y, z, u]⟩) w := fun w => by
    rw [← hR]; exact run_convert_int_string w _ _ _ _ (by rw [Tryz.underlying21]; rfl) Tryz.underlying9
  have q2 : (((⟨#[48, 49, 50, 51, 52, 53, 54, 55, 56, 57, 45, 95]⟩ : ByteArray)[3].toNat : Int) != (((⟨#[x, y, z, u]⟩ : ByteArray)[3]'(by show 3 < 4; decide)).toNat : Int)) = true := by
    show ((51 : Int) != (u.toNat : Int)) = true
    rw [bne_iff_ne]; omega
  have h0 : 128 ≤ r := by omega
  have HVR := Lib.hid hvr
  clear hvr hR
  go_enter Tryz.func102, Tryz.ntmps102
  go_wp2_with (go_at_call 118; refine (Tryz.utf8_ValidRune r _).mono ?_; rintro e w' ⟨rfl, rfl⟩; rw [HVR.out])
  go_step3
  go_wp2_with fail
  refine wp_loop_rounds 1 ?_
  rw [rounds_succ]
  go_wp2_with fail
  go_step3
  go_wp2_with fail
  go_quiet (fail)
  go_wp2_with fail
  generalize hw2 : w'.drewN _ = w2
  have HW2 := Lib.hid hw2
  clear hw2
  go_quiet ((go_at_call 117; exact Calls.quiet_of_same (indexByte_none _ u hy (by decide) _)))
  go_wp2
  rw [Exit.noGoto_ret]
  go_wp2
  rw [Exit.noGoto_ret]
  go_ret
  exact ⟨rfl, _, by rw [← HW2.out, World.drewN_drewN]⟩


end Go.Proofs.YtocoonkachbjaaaGreatDoor

/- strings.ContainsRune in the signs of a name, of every rune beyond ASCII. -/
namespace Go.Proofs.YtocoonkachbjaaaGreatDoor
open Go.RowKit
set_option linter.unusedVariables false

theorem signs_ascii : ∀ p : Fin 12, ((⟨#[48, 49, 50, 51, 52, 53, 54, 55, 56, 57, 45, 95]⟩ : ByteArray).data.toList[p.val]'(p.isLt)).toNat < 128 := by decide

def SRel (w : World) (wr : World) : Prop := ∃ p : Nat, p ≤ 12 ∧ wr.heap[w.heap.size]? = some (.stringIter ⟨#[48, 49, 50, 51, 52, 53, 54, 55, 56, 57, 45, 95]⟩ p) ∧ Below w.heap.size w wr

set_option maxRecDepth 100000 in
set_option maxHeartbeats 1000000 in
theorem indexRune_err (w : World) :
    Calls Tryz.prog 102 #[.string ⟨#[48, 49, 50, 51, 52, 53, 54, 55, 56, 57, 45, 95]⟩, .int .i32 65533] w fun e w' => e = .returned (.int .i64 (-1)) ∧ Below w.heap.size w w' := by
  go_enter Tryz.func102, Tryz.ntmps102
  go_wp2
  go_loopw [5, 6] (fun _ _ wr => SRel w wr) (fun _ _ wr => 12 - wr.iterPos w.heap.size)
  case atStart => exact ⟨0, by omega, World.iter_heap _ _ _, (Below.refl _ _).alloc (Nat.le_refl _) _⟩
  case round =>
    obtain ⟨p, hp, hit, hbw⟩ := hrel
    have hsz : w.heap.size < wr.heap.size := (Array.getElem?_eq_some_iff.1 hit).1
    by_cases h : p < 12
    · have hb : p < (⟨#[48, 49, 50, 51, 52, 53, 54, 55, 56, 57, 45, 95]⟩ : ByteArray).size := h
      have ha : ((⟨#[48, 49, 50, 51, 52, 53, 54, 55, 56, 57, 45, 95]⟩ : ByteArray)[p]'hb).toNat < 128 := signs_ascii ⟨p, h⟩
      obtain ⟨c, hc⟩ : ∃ c, c = ((⟨#[48, 49, 50, 51, 52, 53, 54, 55, 56, 57, 45, 95]⟩ : ByteArray)[p]'hb).toNat := ⟨_, rfl⟩
      have hnx : ∀ ty, (Instr.next (.pointer (some ⟨w.heap.size, 0, none⟩)) true ty).run Tryz.prog wr = .ok (.tuple #[.bool true, .int .i64 p, .int .i32 c]) (wr.iterAt w.heap.size ⟨#[48, 49, 50, 51, 52, 53, 54, 55, 56, 57, 45, 95]⟩ (p + 1)) := fun ty => by
        have := Lib.run_next_any_at (P := Tryz.prog) (ty := ty) wr w.heap.size ⟨#[48, 49, 50, 51, 52, 53, 54, 55, 56, 57, 45, 95]⟩ p hit hb
        rw [decode_ascii _ _ hb ha, ← hc] at this
        exact this
      rw [← hc] at ha
      have q : ((c : Int) == 65533) = false := by rw [beq_eq_false_iff_ne]; omega
      have hit2 := Lib.iterAt_heap wr w.heap.size _ p (p + 1) hit
      have hbw2 := Lib.below_iterAt hbw (k := w.heap.size) (by omega) ⟨#[48, 49, 50, 51, 52, 53, 54, 55, 56, 57, 45, 95]⟩ (p + 1)
      clear hc hb
      go_wp2
      go_roundw
      case rel => exact ⟨p + 1, by omega, hit2, hbw2⟩
      case measure =>
        simp only [World.iterPos, hit2, hit]
        omega
    · have hnx : ∀ ty, (Instr.next (.pointer (some ⟨w.heap.size, 0, none⟩)) true ty).run Tryz.prog wr = _ := fun ty => Lib.run_next_end_at wr w.heap.size ⟨#[48, 49, 50, 51, 52, 53, 54, 55, 56, 57, 45, 95]⟩ p ty hit h
      go_wp2
      go_ret
      exact ⟨rfl, hbw⟩

/-- Of every rune beyond ASCII: it is no sign of a name. -/
theorem containsRune_high (r : Int) (h0 : 128 ≤ r) (hv : Utf8.valid r = true) (w : World) :
    Calls Tryz.prog 62 #[.string ⟨#[48, 49, 50, 51, 52, 53, 54, 55, 56, 57, 45, 95]⟩, .int .i32 r] w fun e w' => e = .returned (.bool false) ∧ Below w.heap.size w w' := by
  have hix : Calls Tryz.prog 102 #[.string ⟨#[48, 49, 50, 51, 52, 53, 54, 55, 56, 57, 45, 95]⟩, .int .i32 r] w fun e w' => e = .returned (.int .i64 (-1)) ∧ Below w.heap.size w w' := by
    have q : ∀ W : World, (∃ n, W = w.drewN n) → Below w.heap.size w W := fun W ⟨n, h⟩ => by rw [h]; exact Ut.below_drewN (Below.refl _ _) _
    by_cases he : r = 65533
    · subst he; exact indexRune_err w
    · by_cases h2 : r < 2048
      · exact (indexRune_two r h0 h2 w).mono fun e W ⟨a, b⟩ => ⟨a, q W b⟩
      · by_cases h3 : r < 65536
        · exact (indexRune_three r (by omega) h3 he hv w).mono fun e W ⟨a, b⟩ => ⟨a, q W b⟩
        · exact (indexRune_four r (by omega) hv w).mono fun e W ⟨a, b⟩ => ⟨a, q W b⟩
  have HIX := Lib.hid hix
  clear hix
  go_enter Tryz.func62, Tryz.ntmps62
  go_wp2_with fail
  refine HIX.out.mono ?_
  rintro e w1 ⟨rfl, hb⟩
  go_wp2
  go_ret
  exact ⟨rfl, hb⟩

/-- Of every ASCII rune: is it one of the signs? -/
def isSign (c : Nat) : Bool := (48 ≤ c && c ≤ 57) || c == 45 || c == 95
theorem sign_ix : ∀ c : Fin 128, decide (0 ≤ Lib.indexByte [48, 49, 50, 51, 52, 53, 54, 55, 56, 57, 45, 95] (UInt8.ofNat c.val)) = isSign c.val := by decide +kernel
theorem containsRune_ascii (c : Nat) (h : c < 128) (w : World) :
    Calls Tryz.prog 62 #[.string ⟨#[48, 49, 50, 51, 52, 53, 54, 55, 56, 57, 45, 95]⟩, .int .i32 c] w fun e w' => e = .returned (.bool (isSign c)) ∧ w' = w := by
  have e := Tryz.strings_ContainsRune_ascii ⟨#[48, 49, 50, 51, 52, 53, 54, 55, 56, 57, 45, 95]⟩ c w (by omega) (by omega)
  have e2 : decide (0 ≤ Lib.indexByte (⟨#[48, 49, 50, 51, 52, 53, 54, 55, 56, 57, 45, 95]⟩ : ByteArray).data.toList (c : Int).toNat.toUInt8) = isSign c := sign_ix ⟨c, h⟩
  rw [e2] at e
  exact e

end Go.Proofs.YtocoonkachbjaaaGreatDoor

/- The plain part of the names' comparison: a text cut at its dots, two lists of texts compared piece by piece. No program in sight. -/
namespace Go.Proofs.NmPlain

abbrev Bs := List UInt8

/-- The pieces of a text between its dots. -/
def split : Bs → List Bs
  | [] => [[]]
  | b :: l => if b = 46 then [] :: split l else match split l with
    | [] => [[b]]
    | p :: ps => (b :: p) :: ps

theorem split_ne (s : Bs) : split s ≠ [] := by
  cases s with
  | nil => simp [split]
  | cons b l => unfold split; split <;> (try simp); split <;> simp

theorem index_nil : Lib.index [] [46] = -1 := rfl

theorem index_dot (l : Bs) : Lib.index (46 :: l) [46] = 0 := by
  unfold Lib.index; rw [if_pos (by simp [List.isPrefixOf])]

theorem index_other (b : UInt8) (l : Bs) (h : b ≠ 46) : Lib.index (b :: l) [46] = if Lib.index l [46] = -1 then -1 else Lib.index l [46] + 1 := by
  rw [Lib.index, if_neg (by simp [List.isPrefixOf]; exact fun h' => h h'.symm)]
  by_cases c : Lib.index l [46] = -1
  · simp [c]
  · simp [c]

theorem split_none : ∀ s : Bs, Lib.index s [46] = -1 → split s = [s]
  | [], _ => rfl
  | b :: l, h => by
    by_cases hb : b = 46
    · subst hb; rw [index_dot] at h; cases h
    · rw [index_other b l hb] at h
      have hg := Lib.index_ge l [46]
      by_cases c : Lib.index l [46] = -1
      · rw [split, if_neg hb, split_none l c]
      · rw [if_neg c] at h; omega

theorem split_some : ∀ (s : Bs) (i : Nat), Lib.index s [46] = i → split s = s.take i :: split (s.drop (i + 1))
  | [], i, h => by rw [index_nil] at h; omega
  | b :: l, i, h => by
    by_cases hb : b = 46
    · subst hb; rw [index_dot] at h
      obtain rfl : i = 0 := by omega
      rw [split, if_pos rfl]; simp
    · rw [index_other b l hb] at h
      by_cases c : Lib.index l [46] = -1
      · rw [if_pos c] at h; omega
      · rw [if_neg c] at h
        obtain ⟨j, rfl⟩ : ∃ j, i = j + 1 := ⟨i - 1, by have := Lib.index_ge l [46]; omega⟩
        rw [split, if_neg hb, split_some l j (by omega)]
        simp

theorem size_toList (s : ByteArray) : s.size = s.data.toList.length := Lib.size_eq s

theorem split_len : ∀ (s : Bs), ∀ p ∈ split s, p.length ≤ s.length
  | [], p, h => by simp [split] at h; rw [h]; simp
  | b :: l, p, h => by
    unfold split at h
    split at h
    · rcases List.mem_cons.1 h with rfl | h'
      · simp
      · have := split_len l p h'; simp; omega
    · split at h
      · simp at h; rw [h]; simp
      · rename_i q qs hq
        rcases List.mem_cons.1 h with rfl | h'
        · have := split_len l q (by rw [hq]; simp); simp; omega
        · have := split_len l p (by rw [hq]; simp [h']); simp; omega

/-! ### the reference's own ways: the pieces gathered, one by one -/
def PInv (s : ByteArray) (done : List ByteArray) (j k : Nat) : Prop :=
  split s.data.toList = done.map (·.data.toList) ++ split (s.data.toList.drop j) ∧ (∀ c ∈ (s.data.toList.drop j).take (k - j), c ≠ 46) ∧ done.length ≤ j

theorem PInv.start (s : ByteArray) : PInv s [] 0 0 := ⟨by simp, by simp, by simp⟩

theorem split_plain : ∀ (p : Bs), (∀ c ∈ p, c ≠ 46) → split p = [p]
  | [], _ => rfl
  | b :: p, h => by
    rw [split, if_neg (h b (by simp)), split_plain p (fun c hc => h c (by simp [hc]))]

theorem extract_list (s : ByteArray) (j k : Nat) : (s.extract j k).data.toList = (s.data.toList.drop j).take (k - j) := by
  simp [ByteArray.data_extract, Array.toList_extract, List.extract_eq_take_drop]

end Go.Proofs.NmPlain

/- names.Name and the reference's Name, of any text. -/
namespace Go.Proofs.YtocoonkachbjaaaGreatDoor
open Go.RowKit Go.Proofs.NmPlain
set_option linter.unusedVariables false

/-- May a byte stand at a place of a name? -/
def okAt (i : Nat) (b : UInt8) : Bool := (decide (97 ≤ b.toNat) && decide (b.toNat ≤ 122)) || (decide (i ≠ 0) && isSign b.toNat)
def nameAux : Nat → Bs → Bool
  | _, [] => true
  | i, b :: l => okAt i b && nameAux (i + 1) l
/-- Is a text a name? -/
def nameB (l : Bs) : Bool := decide (1 ≤ l.length ∧ l.length ≤ 32) && nameAux 0 l

theorem nameAux_drop {l : Bs} {p : Nat} (h : p < l.length) : nameAux p (l.drop p) = (okAt p l[p] && nameAux (p + 1) (l.drop (p + 1))) := by
  rw [List.drop_eq_getElem_cons h, nameAux]

theorem nameB_len {l : Bs} (h : ¬ (1 ≤ l.length ∧ l.length ≤ 32)) : nameB l = false := by unfold nameB; rw [decide_eq_false h]; rfl
theorem nameB_aux {l : Bs} (h : 1 ≤ l.length ∧ l.length ≤ 32) : nameB l = nameAux 0 l := by unfold nameB; rw [decide_eq_true h]; rfl

theorem isSign_high {c : Nat} (h : 128 ≤ c) : isSign c = false := by
  unfold isSign
  have a : decide (c ≤ 57) = false := by simp; omega
  have b : (c == 45) = false := by rw [beq_eq_false_iff_ne]; omega
  have d : (c == 95) = false := by rw [beq_eq_false_iff_ne]; omega
  rw [a, b, d]; simp

theorem okAt_letter {i : Nat} {b : UInt8} (h1 : 97 ≤ b.toNat) (h2 : b.toNat ≤ 122) : okAt i b = true := by simp [okAt, h1, h2]
theorem okAt_zero {b : UInt8} (h : b.toNat < 97 ∨ 122 < b.toNat) : okAt 0 b = false := by
  unfold okAt
  have : (decide (97 ≤ b.toNat) && decide (b.toNat ≤ 122)) = false := by
    rcases h with h | h
    · rw [decide_eq_false (by omega)]; rfl
    · rw [decide_eq_false (p := b.toNat ≤ 122) (by omega), Bool.and_false]
  rw [this]; simp
theorem okAt_sign {i : Nat} {b : UInt8} (hi : i ≠ 0) (h : b.toNat < 97 ∨ 122 < b.toNat) : okAt i b = isSign b.toNat := by
  unfold okAt
  have : (decide (97 ≤ b.toNat) && decide (b.toNat ≤ 122)) = false := by
    rcases h with h | h
    · rw [decide_eq_false (by omega)]; rfl
    · rw [decide_eq_false (p := b.toNat ≤ 122) (by omega), Bool.and_false]
  rw [this, decide_eq_true hi]; simp

theorem decode_valid (s : ByteArray) (p : Nat) (h : p < s.size) (ha : 128 ≤ (s[p]'h).toNat) : Utf8.valid ((Utf8.decode s p).1 : Int) = true := by
  unfold Utf8.decode
  dsimp only
  have hnot : ¬ (s.get! (p + 0)).toNat < 128 := by rw [get_at s p h]; omega
  rw [if_neg hnot]
  have hve : Utf8.valid ((Utf8.runeError : Nat) : Int) = true := by decide
  split
  · split
    · rename_i h1 h2
      have h3 : (s.get! (p + 0)).toNat % 32 < 32 := Nat.mod_lt _ (by omega)
      have h4 : (s.get! (p + 1)).toNat % 64 < 64 := Nat.mod_lt _ (by omega)
      generalize (s.get! (p + 0)).toNat % 32 = a at *
      generalize (s.get! (p + 1)).toNat % 64 = b at *
      simp only [Utf8.valid, Bool.or_eq_true, Bool.and_eq_true, decide_eq_true_eq]; left; constructor <;> omega
    · exact hve
  · split
    · split
      · rename_i h1 h2 h3
        simp only [Bool.and_eq_true] at h3; exact h3.2
      · exact hve
    · split
      · split
        · rename_i h1 h2 h3 h4
          simp only [Bool.and_eq_true] at h4; exact h4.2
        · exact hve
      · exact hve

/-- What the round knows: the rune at a place, and what the signs say of it. -/
structure RuneAt (s : ByteArray) (p : Nat) (h : p < s.size) (c d : Nat) (q : Bool) : Prop where
  dec : Utf8.decode s p = (c, d)
  pos : 1 ≤ d
  small : (s[p]'h).toNat < 97 → c < 97
  letter : 97 ≤ (s[p]'h).toNat → (s[p]'h).toNat ≤ 122 → 97 ≤ c ∧ c ≤ 122 ∧ d = 1
  great : 122 < (s[p]'h).toNat → 122 < c
  le : c ≤ 2147483647
  one : q = true → d = 1
  sign : isSign (s[p]'h).toNat = q
  says : ∀ W : World, Calls Tryz.prog 62 #[.string ⟨#[48, 49, 50, 51, 52, 53, 54, 55, 56, 57, 45, 95]⟩, .int .i32 c] W fun e w' => e = .returned (.bool q) ∧ Below W.heap.size W w'

theorem rune_at (s : ByteArray) (p : Nat) (h : p < s.size) : ∃ c d q, RuneAt s p h c d q := by
  by_cases ha : (s[p]'h).toNat < 128
  · have e := decode_ascii s p h ha
    refine ⟨_, _, isSign (s[p]'h).toNat, e, Nat.le_refl _, fun h => h, fun a b => ⟨a, b, rfl⟩, fun h => h, by omega, fun _ => rfl, rfl, fun W => ?_⟩
    exact (containsRune_ascii _ ha W).mono fun e w' ⟨a, b⟩ => ⟨a, by rw [b]; exact Below.refl _ _⟩
  · have hd := decode_high s p h (by omega)
    have hv := decode_valid s p h (by omega)
    refine ⟨(Utf8.decode s p).1, (Utf8.decode s p).2, false, rfl, hd.2, (fun h => by omega), (fun a b => by omega), (fun _ => by omega), decode_le s p, (fun h => by cases h), isSign_high (by omega), fun W => ?_⟩
    exact containsRune_high _ (by omega) hv W

def NRel (s : ByteArray) (w wr : World) : Prop :=
  ∃ p : Nat, p ≤ s.size ∧ wr.heap[w.heap.size]? = some (.stringIter s p) ∧ nameAux 0 s.data.toList = nameAux p (s.data.toList.drop p) ∧ Below w.heap.size w wr

set_option maxHeartbeats 1000000 in
theorem name_any (s : ByteArray) (hs : s.size ≤ 9223372036854775807) (w : World) :
    Calls Tryz.prog 22 #[.string s] w fun e w' => e = .returned (.bool (nameB s.data.toList)) ∧ Below w.heap.size w w' := by
  by_cases hl : 1 ≤ s.size ∧ s.size ≤ 32
  · have hnb : nameB s.data.toList = nameAux 0 s.data.toList := nameB_aux (by rw [← size_toList]; exact hl)
    have hne : s.toList.isEmpty = false := by
      rw [Lib.toList_data]
      have : s.data.toList.length ≠ 0 := by rw [← size_toList]; omega
      cases h : s.data.toList with
      | nil => rw [h] at this; simp at this
      | cons _ _ => rfl
    obtain ⟨l1, l2⟩ := hl
    rw [hnb]
    clear hnb
    go_enter Tryz.func22, Tryz.ntmps22
    go_wp2
    go_loopw [3, 4, 5] (fun _ _ _ wr => NRel s w wr) (fun _ _ _ wr => s.size - wr.iterPos w.heap.size)
    case atStart => exact ⟨0, Nat.zero_le _, World.iter_heap _ _ _, rfl, (Below.refl _ _).alloc (Nat.le_refl _) _⟩
    case round =>
      obtain ⟨p, hp, hit, haux, hbw⟩ := hrel
      have hsz : w.heap.size < wr.heap.size := (Array.getElem?_eq_some_iff.1 hit).1
      have HA := Lib.hid haux
      clear haux
      by_cases h : p < s.size
      · obtain ⟨c, d, q, hr⟩ := rune_at s p h
        have hnx : ∀ ty, (Instr.next (.pointer (some ⟨w.heap.size, 0, none⟩)) true ty).run Tryz.prog wr = .ok (.tuple #[.bool true, .int .i64 p, .int .i32 c]) (wr.iterAt w.heap.size s (p + d)) := fun ty => by
          have := Lib.run_next_any_at (P := Tryz.prog) (ty := ty) wr w.heap.size s p hit h
          rw [hr.dec] at this; exact this
        have hit2 := Lib.iterAt_heap wr w.heap.size s p (p + d) hit
        have hbw2 := Lib.below_iterAt hbw (k := w.heap.size) (Nat.le_refl _) s (p + d)
        have hsz2 : w.heap.size < (wr.iterAt w.heap.size s (p + d)).heap.size := by rw [Lib.iterAt_size]; exact hsz
        have hle := hr.le
        have hstep : nameAux p (s.data.toList.drop p) = (okAt p s[p] && nameAux (p + 1) (s.data.toList.drop (p + 1))) := nameAux_drop (by rw [← size_toList]; exact h)
        by_cases hlet : 97 ≤ (s[p]'h).toNat ∧ (s[p]'h).toNat ≤ 122
        · obtain ⟨c1, c2, rfl⟩ := hr.letter hlet.1 hlet.2
          have hok := okAt_letter (i := p) hlet.1 hlet.2
          have HN : Hid (nameAux 0 s.data.toList = nameAux (p + 1) (s.data.toList.drop (p + 1))) := by
            show _ = _; rw [HA.out, hstep, hok, Bool.true_and]
          clear hstep hok hr hlet
          go_wp2
          go_roundw
          case rel => exact ⟨p + 1, by omega, hit2, HN, hbw2⟩
          case measure =>
            simp only [World.iterPos, hit2, hit]
            omega
        · have hnl : (s[p]'h).toNat < 97 ∨ 122 < (s[p]'h).toNat := by omega
          have hcnl : c < 97 ∨ 122 < c := hnl.elim (fun h => .inl (hr.small h)) (fun h => .inr (hr.great h))
          by_cases hp0 : p = 0
          · subst hp0
            have hok := okAt_zero hnl
            have HN : Hid (nameAux 0 s.data.toList = false) := by
              show _ = _; rw [HA.out, hstep, hok, Bool.false_and]
            clear hstep hok hr hlet hnl
            simp only [Nat.zero_add] at hbw2
            rcases hcnl with hcc | hcc
            · go_wp2
              go_ret
              exact ⟨Ut.ret_bool HN.out.symm, hbw2⟩
            · have hd1 : decide ((c : Int) ≤ 122) = false := by simp; omega
              go_wp2
              go_ret
              exact ⟨Ut.ret_bool HN.out.symm, hbw2⟩
          · have hok := okAt_sign hp0 hnl
            rw [hr.sign] at hok
            have hq0 : ((p : Int) == 0) = false := by rw [beq_eq_false_iff_ne]; omega
            have HS := Lib.hid hr.says
            cases q
            · have HN : Hid (nameAux 0 s.data.toList = false) := by
                show _ = _; rw [HA.out, hstep, hok, Bool.false_and]
              clear hstep hok hr hlet hnl
              rcases hcnl with hcc | hcc
              · go_wp2_with (go_at_call 62; refine (HS.out _).mono ?_; rintro e w2 ⟨rfl, hb2⟩)
                go_ret
                exact ⟨Ut.ret_bool HN.out.symm, hbw2.trans (hb2.mono (Nat.le_of_lt hsz2))⟩
              · have hd1 : decide ((c : Int) ≤ 122) = false := by simp; omega
                go_wp2_with (go_at_call 62; refine (HS.out _).mono ?_; rintro e w2 ⟨rfl, hb2⟩)
                go_ret
                exact ⟨Ut.ret_bool HN.out.symm, hbw2.trans (hb2.mono (Nat.le_of_lt hsz2))⟩
            · obtain rfl := hr.one rfl
              have HN : Hid (nameAux 0 s.data.toList = nameAux (p + 1) (s.data.toList.drop (p + 1))) := by
                show _ = _; rw [HA.out, hstep, hok, Bool.true_and]
              clear hstep hok hr hlet hnl
              rcases hcnl with hcc | hcc
              · go_wp2_with (go_at_call 62; refine (HS.out _).mono ?_; rintro e w2 ⟨rfl, hb2⟩)
                have hit3 : w2.heap[w.heap.size]? = some (.stringIter s (p + 1)) := (hb2.block _ hsz2).trans hit2
                go_roundw
                case rel => exact ⟨p + 1, by omega, hit3, HN, hbw2.trans (hb2.mono (Nat.le_of_lt hsz2))⟩
                case measure =>
                  simp only [World.iterPos, hit3, hit]
                  omega
              · have hd1 : decide ((c : Int) ≤ 122) = false := by simp; omega
                go_wp2_with (go_at_call 62; refine (HS.out _).mono ?_; rintro e w2 ⟨rfl, hb2⟩)
                have hit3 : w2.heap[w.heap.size]? = some (.stringIter s (p + 1)) := (hb2.block _ hsz2).trans hit2
                go_roundw
                case rel => exact ⟨p + 1, by omega, hit3, HN, hbw2.trans (hb2.mono (Nat.le_of_lt hsz2))⟩
                case measure =>
                  simp only [World.iterPos, hit3, hit]
                  omega
      · have hnx : ∀ ty, (Instr.next (.pointer (some ⟨w.heap.size, 0, none⟩)) true ty).run Tryz.prog wr = _ := fun ty => Lib.run_next_end_at wr w.heap.size s p ty hit h
        have HN : Hid (nameAux 0 s.data.toList = true) := by
          show _ = _; rw [HA.out, List.drop_of_length_le (by rw [← size_toList]; omega)]; rfl
        go_wp2
        go_ret
        exact ⟨Ut.ret_bool HN.out.symm, hbw⟩
  · have hnb : nameB s.data.toList = false := nameB_len (by rw [← size_toList]; exact hl)
    rw [hnb]
    clear hnb
    by_cases h0 : s.size = 0
    · have hem : s.toList.isEmpty = true := by
        rw [Lib.toList_data, List.isEmpty_iff_length_eq_zero, ← size_toList]; exact h0
      have H0 := Lib.hid h0
      clear h0 hl
      go_enter Tryz.func22, Tryz.ntmps22
      go_wp2
      go_ret
      exact ⟨rfl, Below.refl _ _⟩
    · have hem : s.toList.isEmpty = false := by
        rw [Lib.toList_data]
        have : s.data.toList.length ≠ 0 := by rw [← size_toList]; omega
        cases h : s.data.toList with
        | nil => rw [h] at this; simp at this
        | cons _ _ => rfl
      have h2 : (32 : Int) < (s.size : Int) := by omega
      clear hl h0
      go_enter Tryz.func22, Tryz.ntmps22
      go_wp2
      go_ret
      exact ⟨rfl, Below.refl _ _⟩

end Go.Proofs.YtocoonkachbjaaaGreatDoor
