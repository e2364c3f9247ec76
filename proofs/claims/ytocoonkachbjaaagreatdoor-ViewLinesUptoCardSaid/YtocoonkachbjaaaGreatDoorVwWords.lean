/- A session's line: the words of a kind and of a level, and the digits of a number; the program's and the document's. -/
import Derived.Test.YtocoonkachbjaaaGreatDoorClkRefPrint
import Derived.Test.YtocoonkachbjaaaGreatDoorErrs2
namespace Go.Proofs.YtocoonkachbjaaaGreatDoor
open Go.RowKit
set_option linter.unusedVariables false
namespace Vw
abbrev Bs := List UInt8

/-- A kind's word; a level's. -/
def kindL (k : Int) : Bs := if k = 0 then [108, 111, 103, 105, 110] else if k = 1 then [100, 101, 108, 101, 103, 97, 116, 101, 100] else if k = 2 then [114, 97, 105, 115, 101, 100] else []
def levL (l : Int) : Bs := if l = 0 then [108, 111, 119] else if l = 1 then [109, 105, 100] else if l = 2 then [104, 105, 103, 104] else []
theorem kind_len (k : Int) : (kindL k).length ≤ 9 := by unfold kindL; (repeat' split) <;> simp
theorem lev_len (l : Int) : (levL l).length ≤ 4 := by unfold levL; (repeat' split) <;> simp

theorem vword_any (k : Int) (w : World) : Calls Tryz.prog 23 #[.int .i64 k] w fun e w' => e = .returned (.string ⟨(kindL k).toArray⟩) ∧ w = w' := by
  by_cases h0 : k = 0
  · subst h0
    go_enter Tryz.func23, Tryz.ntmps23; go_wp2; go_ret; exact ⟨rfl, rfl⟩
  · by_cases h1 : k = 1
    · subst h1
      go_enter Tryz.func23, Tryz.ntmps23; go_wp2; go_ret; exact ⟨rfl, rfl⟩
    · by_cases h2 : k = 2
      · subst h2
        go_enter Tryz.func23, Tryz.ntmps23; go_wp2; go_ret; exact ⟨rfl, rfl⟩
      · have e : kindL k = [] := by unfold kindL; rw [if_neg h0, if_neg h1, if_neg h2]
        rw [e]
        have g0 : (k == 0) = false := by simp [h0]
        have g1 : (k == 1) = false := by simp [h1]
        have g2 : (k == 2) = false := by simp [h2]
        clear h0 h1 h2 e
        go_enter Tryz.func23, Tryz.ntmps23; go_wp2; go_ret; exact ⟨rfl, rfl⟩
theorem rkind_any (k : Int) (w : World) : Calls Tryz.prog 31 #[.int .i64 k] w fun e w' => e = .returned (.string ⟨(kindL k).toArray⟩) ∧ w = w' := by
  by_cases h0 : k = 0
  · subst h0
    go_enter Tryz.func31, Tryz.ntmps31; go_wp2; go_ret; exact ⟨rfl, rfl⟩
  · by_cases h1 : k = 1
    · subst h1
      go_enter Tryz.func31, Tryz.ntmps31; go_wp2; go_ret; exact ⟨rfl, rfl⟩
    · by_cases h2 : k = 2
      · subst h2
        go_enter Tryz.func31, Tryz.ntmps31; go_wp2; go_ret; exact ⟨rfl, rfl⟩
      · have e : kindL k = [] := by unfold kindL; rw [if_neg h0, if_neg h1, if_neg h2]
        rw [e]
        have g0 : (k == 0) = false := by simp [h0]
        have g1 : (k == 1) = false := by simp [h1]
        have g2 : (k == 2) = false := by simp [h2]
        clear h0 h1 h2 e
        go_enter Tryz.func31, Tryz.ntmps31; go_wp2; go_ret; exact ⟨rfl, rfl⟩

theorem is_yes (l : Int) (h0 : 0 ≤ l) (h1 : l ≤ 2) (w : World) : Calls Tryz.prog 63 #[.int .i64 l] w fun e w' => e = .returned (.bool true) ∧ w = w' := by
  go_enter Tryz.func63, Tryz.ntmps63
  go_wp2
  go_ret
  exact ⟨by simp, rfl⟩
theorem is_no (l : Int) (h : l < 0 ∨ 2 < l) (w : World) : Calls Tryz.prog 63 #[.int .i64 l] w fun e w' => e = .returned (.bool false) ∧ w = w' := by
  by_cases h1 : l < 0
  · have g : decide (0 ≤ l) = false := by simp; omega
    clear h
    go_enter Tryz.func63, Tryz.ntmps63
    go_wp2
    go_ret
    exact ⟨by simp, rfl⟩
  · have h2 : 0 ≤ l := by omega
    have h3 : 2 < l := by omega
    have g : decide (l ≤ 2) = false := by simp; omega
    clear h h1
    go_enter Tryz.func63, Tryz.ntmps63
    go_wp2
    go_ret
    exact ⟨by simp, rfl⟩
theorem names_any3 (w : World) : Calls Tryz.prog 64 #[] w fun e w' => e = .returned (.agg #[.string ⟨#[108, 111, 119]⟩, .string ⟨#[109, 105, 100]⟩, .string ⟨#[104, 105, 103, 104]⟩]) ∧ Below w.heap.size w w' := by
  go_enter Tryz.func64, Tryz.ntmps64
  go_wp2
  refine bodyPost_ret (v := .agg #[.string ⟨#[108, 111, 119]⟩, .string ⟨#[109, 105, 100]⟩, .string ⟨#[104, 105, 103, 104]⟩]) (by simp [results, Tryz.results64, go_sem]) rfl ⟨rfl, ?_⟩
  exact (Below.refl _ _).alloc (Nat.le_refl _) _
set_option maxRecDepth 100000 in
theorem lev_index (l : Int) (h0 : 0 ≤ l) (h1 : l ≤ 2) : ∀ w, (Instr.index 104 (.agg #[.string ⟨#[108, 111, 119]⟩, .string ⟨#[109, 105, 100]⟩, .string ⟨#[104, 105, 103, 104]⟩]) (.int .i64 l)).run Tryz.prog w = .ok (.string ⟨(levL l).toArray⟩) w := by
  have h : l = 0 ∨ l = 1 ∨ l = 2 := by omega
  rcases h with rfl | rfl | rfl <;> exact fun w => by kernel_rfl
theorem level_yes (l : Int) (h0 : 0 ≤ l) (h1 : l ≤ 2) (w : World) : Calls Tryz.prog 24 #[.int .i64 l] w fun e w' => e = .returned (.tuple #[.string ⟨(levL l).toArray⟩, .nilIface]) ∧ Below w.heap.size w w' := by
  have HI := Lib.hid (fun w' => is_yes l h0 h1 w')
  have HN := Lib.hid (fun w' => names_any3 w')
  have hix := lev_index l h0 h1
  clear h0 h1
  go_enter Tryz.func24, Tryz.ntmps24
  go_wp2_with fail
  refine (HI.out _).mono ?_
  rintro e w1 ⟨rfl, rfl⟩
  go_wp2_with fail
  refine (HN.out _).mono ?_
  rintro e w2 ⟨rfl, hb⟩
  go_wp2
  go_ret2
  exact ⟨rfl, hb⟩
theorem level_no (l : Int) (h : l < 0 ∨ 2 < l) (w : World) : Calls Tryz.prog 24 #[.int .i64 l] w fun e w' => e = .returned (.tuple #[.string ⟨#[]⟩, .iface 55 (.int .i64 13)]) ∧ w = w' := by
  have HI := Lib.hid (fun w' => is_no l h w')
  clear h
  go_enter Tryz.func24, Tryz.ntmps24
  go_wp2_with fail
  refine (HI.out _).mono ?_
  rintro e w1 ⟨rfl, rfl⟩
  go_wp2
  go_ret2
  exact ⟨rfl, rfl⟩
theorem rlevel_any (l : Int) (w : World) : Calls Tryz.prog 32 #[.int .i64 l] w fun e w' => e = .returned (.tuple #[.string ⟨(levL l).toArray⟩, .int .i64 (if 0 ≤ l ∧ l ≤ 2 then 0 else 13)]) ∧ w = w' := by
  by_cases h0 : l = 0
  · subst h0
    go_enter Tryz.func32, Tryz.ntmps32; go_wp2; go_ret2; exact ⟨rfl, rfl⟩
  · by_cases h1 : l = 1
    · subst h1
      go_enter Tryz.func32, Tryz.ntmps32; go_wp2; go_ret2; exact ⟨rfl, rfl⟩
    · by_cases h2 : l = 2
      · subst h2
        go_enter Tryz.func32, Tryz.ntmps32; go_wp2; go_ret2; exact ⟨rfl, rfl⟩
      · have e : levL l = [] := by unfold levL; rw [if_neg h0, if_neg h1, if_neg h2]
        rw [e, if_neg (show ¬ (0 ≤ l ∧ l ≤ 2) by omega)]
        have g0 : (l == 0) = false := by simp [h0]
        have g1 : (l == 1) = false := by simp [h1]
        have g2 : (l == 2) = false := by simp [h2]
        clear h0 h1 h2 e
        go_enter Tryz.func32, Tryz.ntmps32; go_wp2; go_ret2; exact ⟨rfl, rfl⟩

set_option maxRecDepth 100000 in
theorem vdigits_any (n : Nat) (h1 : 1 ≤ n) (hn : (n : Int) ≤ 1099511627776) (w : World) :
    Calls Tryz.prog 36 #[.int .i64 n] w fun e w' => e = .returned (.string ⟨(Lib.decDigits n).toArray⟩) ∧ Below w.heap.size w w' := by
  go_enter Tryz.func36, Tryz.ntmps36
  go_wp2
  go_loopw [0, 3, 4] (fun r s i wr => DRel n w r s i wr) (fun _ _ i _ => 20 - (intOf i).toNat)
  case atStart => exact ⟨0, n, ByteArray.empty, rfl, by omega, rfl, (show n * 10 ^ 0 ≤ 1099511627776 by omega), hn, rfl, by simp, .inl ⟨rfl, rfl, rfl⟩, Below.refl _ _⟩
  case round =>
    obtain ⟨i, nn, t, rfl, hi, rfl, hp, hb, rfl, ht, hd, hbl⟩ := hrel
    have hcv := conv_one wr (48 + (nn : Int) % 10)
    have hbr := hbl.size
    have hone : (strOfNums [48 + (nn : Int) % 10]).size ≤ 1 := Nat.le_refl 1
    by_cases hgo : 0 < nn
    · have hi20 : i < 20 := by
        rcases Nat.lt_or_ge i 20 with h | h
        · exact h
        · obtain rfl : i = 20 := by omega
          have h2 : nn * 10 ^ 20 ≤ 1099511627776 := hp
          omega
      have hnext := DInv.step hd (.inr hgo)
      have hsz : (strOfNums [48 + (nn : Int) % 10] ++ t).size ≤ i + 1 := by
        have : (strOfNums [48 + (nn : Int) % 10]).size = 1 := rfl
        rw [ByteArray.size_append]; omega
      have hpw : nn / 10 * 10 ^ (i + 1) ≤ 1099511627776 := by
        have h2 : nn * 10 ^ i ≤ 1099511627776 := hp
        have h3 : nn / 10 * 10 ≤ nn := Nat.div_mul_le_self nn 10
        calc nn / 10 * 10 ^ (i + 1) = (nn / 10 * 10) * 10 ^ i := by rw [Nat.pow_succ, Nat.mul_comm (10 ^ i) 10, Nat.mul_assoc]
          _ ≤ nn * 10 ^ i := Nat.mul_le_mul_right _ h3
          _ ≤ 1099511627776 := h2
      have HN := Lib.hid hnext; have HS := Lib.hid hsz; have HPW := Lib.hid hpw
      clear hnext hsz hpw hd hp
      go_wp2
      go_roundw
      case rel => exact ⟨i + 1, nn / 10, _, by go_num, by omega, by go_num, HPW, by omega, rfl, HS.out, HN.out, hbl.alloc hbr _⟩
      case measure => simp [intOf]; omega
    · obtain rfl : nn = 0 := by omega
      have hfin : Lib.decDigits n = t.data.toList := by
        rcases hd with ⟨_, h, _⟩ | ⟨_, h, _⟩ | ⟨_, _, h⟩
        · omega
        · omega
        · exact h
      have HF := Lib.hid hfin
      clear hfin hd hgo hp hcv
      go_wp2
      all_goals
        go_ret
        exact ⟨congrArg (fun x : ByteArray => Ending.returned (Value.string x)) (show t = ⟨(Lib.decDigits n).toArray⟩ by rw [HF.out]), hbl⟩

end Vw
end Go.Proofs.YtocoonkachbjaaaGreatDoor
