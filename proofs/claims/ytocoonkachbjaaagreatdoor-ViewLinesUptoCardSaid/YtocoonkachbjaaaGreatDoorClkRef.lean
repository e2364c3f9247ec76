/- The reference's worth, digits and Print. -/
import Derived.Test.YtocoonkachbjaaaGreatDoorClkPrint
import Derived.Laws.Concat
import Derived.Laws.BytesString
import Derived.Laws.BytesArg
import Derived.WalkLawsBesides
import Derived.WalkSpells
namespace Go.Proofs.YtocoonkachbjaaaGreatDoor
open Go.RowKit
set_option linter.unusedVariables false

theorem worth_any (k : Nat) (hk : k < 4) (w : World) : Calls Tryz.prog 74 #[.int .i64 k] w fun e w' => e = .returned (.int .i64 (worthOf k)) ∧ w = w' := by
  match k, hk with
  | 0, _ => go_enter Tryz.func74, Tryz.ntmps74; go_wp2; go_ret; exact ⟨rfl, rfl⟩
  | 1, _ => go_enter Tryz.func74, Tryz.ntmps74; go_wp2; go_ret; exact ⟨rfl, rfl⟩
  | 2, _ => go_enter Tryz.func74, Tryz.ntmps74; go_wp2; go_ret; exact ⟨rfl, rfl⟩
  | 3, _ => go_enter Tryz.func74, Tryz.ntmps74; go_wp2; go_ret; exact ⟨rfl, rfl⟩

theorem conv_one (w : World) (x : Int) : (convert 108 9 (.slice (some ⟨w.heap.size, 0, none⟩) 1 1)).run Tryz.prog (w.alloc (.cells #[.int .u8 x] 5)) = .ok (.string (strOfNums [x])) (w.alloc (.cells #[.int .u8 x] 5)) :=
  run_convert_bytes_arg (w.alloc (.cells #[.int .u8 x] 5)) 108 5 Tryz.underlying108 Tryz.underlying5 w.heap.size 0 1 1 [x] rfl (fun i hi => by
    obtain rfl : i = 0 := by omega
    simp) 9 Tryz.underlying9

theorem strOfNums_one (x : Int) : (strOfNums [x]).data.toList = [UInt8.ofNat x.toNat] := rfl

/-- The digits that have been made, and what is left. -/
def DInv (n : Nat) (i nn : Nat) (s : ByteArray) : Prop :=
  (i = 0 ∧ nn = n ∧ s.data.toList = []) ∨ (0 < i ∧ 0 < nn ∧ Lib.decDigits n = Lib.decDigits nn ++ s.data.toList) ∨ (0 < i ∧ nn = 0 ∧ Lib.decDigits n = s.data.toList)

set_option maxHeartbeats 1000000 in
theorem DInv.step {n i nn : Nat} {t : ByteArray} (h : DInv n i nn t) (hgo : i = 0 ∨ 0 < nn) : DInv n (i + 1) (nn / 10) (strOfNums [48 + (nn : Int) % 10] ++ t) := by
  have e : (strOfNums [48 + (nn : Int) % 10] ++ t).data.toList = UInt8.ofNat (48 + nn % 10) :: t.data.toList := by
    rw [ByteArray.data_append, Array.toList_append, strOfNums_one]
    have : (48 + (nn : Int) % 10).toNat = 48 + nn % 10 := by omega
    rw [this]; rfl
  have base : Lib.decDigits n = Lib.decDigits nn ++ t.data.toList := by
    rcases h with ⟨_, rfl, h⟩ | ⟨_, _, h⟩ | ⟨h1, h2, _⟩
    · rw [h, List.append_nil]
    · exact h
    · omega
  by_cases hlt : nn < 10
  · refine .inr (.inr ⟨by omega, by omega, ?_⟩)
    rw [e, base, Lib.decDigits_one hlt, Nat.mod_eq_of_lt hlt]; rfl
  · refine .inr (.inl ⟨by omega, by omega, ?_⟩)
    rw [e, base, Lib.decDigits, dif_neg hlt]; simp

def DRel (n : Nat) (w : World) (r s i : Value) (wr : World) : Prop :=
  ∃ (i' nn : Nat) (t : ByteArray), i = .int .i64 i' ∧ i' ≤ 20 ∧ r = .int .i64 nn ∧ nn * 10 ^ i' ≤ 1099511627776 ∧ (nn : Int) ≤ 1099511627776 ∧ s = .string t ∧ t.size ≤ i' ∧ DInv n i' nn t ∧ Below w.heap.size w wr

set_option maxRecDepth 100000 in
theorem digits_any (n : Nat) (hn : (n : Int) ≤ 1099511627776) (w : World) :
    Calls Tryz.prog 75 #[.int .i64 n] w fun e w' => e = .returned (.string ⟨(Lib.decDigits n).toArray⟩) ∧ Below w.heap.size w w' := by
  go_enter Tryz.func75, Tryz.ntmps75
  go_wp2
  go_loopw [0, 3, 4] (fun r s i wr => DRel n w r s i wr) (fun _ _ i _ => 20 - (intOf i).toNat)
  case atStart => exact ⟨0, n, ByteArray.empty, rfl, by omega, rfl, (show n * 10 ^ 0 ≤ 1099511627776 by omega), hn, rfl, by simp, .inl ⟨rfl, rfl, rfl⟩, Below.refl _ _⟩
  case round =>
    obtain ⟨i, nn, t, rfl, hi, rfl, hp, hb, rfl, ht, hd, hbl⟩ := hrel
    have hcv := conv_one wr (48 + (nn : Int) % 10)
    have hbr := hbl.size
    have hone : (strOfNums [48 + (nn : Int) % 10]).size ≤ 1 := Nat.le_refl 1
    by_cases hgo : i = 0 ∨ 0 < nn
    · have hi20 : i < 20 := by
        rcases Nat.lt_or_ge i 20 with h | h
        · exact h
        · obtain rfl : i = 20 := by omega
          have h1 : 0 < nn := by omega
          have h2 : nn * 10 ^ 20 ≤ 1099511627776 := hp
          omega
      have hnext := DInv.step hd hgo
      have hsz : (strOfNums [48 + (nn : Int) % 10] ++ t).size ≤ i + 1 := by
        have : (strOfNums [48 + (nn : Int) % 10]).size = 1 := rfl
        rw [ByteArray.size_append]; omega
      have hpw : nn / 10 * 10 ^ (i + 1) ≤ 1099511627776 := by
        have h2 : nn * 10 ^ i ≤ 1099511627776 := hp
        have h3 : nn / 10 * 10 ≤ nn := Nat.div_mul_le_self nn 10
        calc nn / 10 * 10 ^ (i + 1) = (nn / 10 * 10) * 10 ^ i := by rw [Nat.pow_succ, Nat.mul_comm (10 ^ i) 10, Nat.mul_assoc]
          _ ≤ nn * 10 ^ i := Nat.mul_le_mul_right _ h3
          _ ≤ 1099511627776 := h2
      have HN := Lib.hid hnext; have HS := Lib.hid hsz; have HPW := Lib.hid hpw
      clear hnext hsz hpw hd hp
      by_cases h0 : i = 0
      · have q0 : ((i : Int) == 0) = true := by rw [h0]; rfl
        have HI := Lib.hid h0
        clear h0 hgo
        go_wp2
        go_roundw
        case rel => exact ⟨i + 1, nn / 10, _, by go_num, by omega, by go_num, HPW, by omega, rfl, HS.out, HN.out, hbl.alloc hbr _⟩
        case measure => simp [intOf]; omega
      · have q0 : ((i : Int) == 0) = false := by rw [beq_eq_false_iff_ne]; omega
        have q1 : 0 < nn := by omega
        clear hgo
        go_wp2
        go_roundw
        case rel => exact ⟨i + 1, nn / 10, _, by go_num, by omega, by go_num, HPW, by omega, rfl, HS.out, HN.out, hbl.alloc hbr _⟩
        case measure => simp [intOf]; omega
    · have q0 : ((i : Int) == 0) = false := by rw [beq_eq_false_iff_ne]; omega
      obtain rfl : nn = 0 := by omega
      have hfin : Lib.decDigits n = t.data.toList := by
        rcases hd with ⟨h, _⟩ | ⟨_, h, _⟩ | ⟨_, _, h⟩
        · omega
        · omega
        · exact h
      have HF := Lib.hid hfin
      clear hfin hd hgo hp hcv
      go_wp2
      all_goals
        go_ret
        exact ⟨congrArg (fun x : ByteArray => Ending.returned (Value.string x)) (show t = ⟨(Lib.decDigits n).toArray⟩ by rw [HF.out]), hbl⟩

end Go.Proofs.YtocoonkachbjaaaGreatDoor
