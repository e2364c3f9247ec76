/- console.isBlank, console.hex, console.unquote: of any byte, of any text. -/
import Derived.Test.YtnkjalladhmffaaDoorProg
import Derived.Test.YtnkjalladhmffaaDoorCwPlain
import Derived.Test.YtnkjalladhmffaaDoorUtil
import Derived.Laws.BytesArg
import Derived.WalkLawsBesides
import Derived.WalkSpells
import Derived.OwnWalk
import Derived.BigQuiet
import Derived.Deep.QuietTactic
import Derived.Deep.AppendLies
import Derived.Deep.RegionLaw
import Derived.Outline
import Derived.OneCell
namespace Go.Proofs.YtnkjalladhmffaaDoor
open Go.RowKit Go.Proofs.CwPlain
set_option linter.unusedVariables false
namespace Cw

/-- A byte as a value. -/
def bv (c : UInt8) : Value := .int .u8 (c.toNat : Int)

theorem byte_ne {c : UInt8} {n : UInt8} (h : c ≠ n) : c.toNat ≠ n.toNat := fun e => h (UInt8.toNat_inj.1 e)

theorem blank_any (c : UInt8) (w : World) : Calls Tryd.prog 11 #[.int .u8 (c.toNat : Int)] w fun e w' => e = .returned (.bool (blB c)) ∧ w = w' := by
  obtain ⟨r, hr⟩ : ∃ r, r = blB c := ⟨_, rfl⟩
  rw [← hr]
  by_cases h1 : c = 32
  · have q1 : ((c.toNat : Int) == 32) = true := by rw [h1]; rfl
    have HR : Hid (r = true) := by rw [hr, h1]; rfl
    clear hr h1
    go_enter Tryd.func11, Tryd.ntmps11
    go_wp2
    go_ret
    exact ⟨Ut.ret_bool HR.out.symm, rfl⟩
  · have q1 : ((c.toNat : Int) == 32) = false := by have := byte_ne h1; rw [beq_eq_false_iff_ne]; show (c.toNat : Int) ≠ 32; have : (32 : UInt8).toNat = 32 := rfl; omega
    by_cases h2 : c = 9
    · have q2 : ((c.toNat : Int) == 9) = true := by rw [h2]; rfl
      have HR : Hid (r = true) := by rw [hr, h2]; rfl
      clear hr h1 h2
      go_enter Tryd.func11, Tryd.ntmps11
      go_wp2
      go_ret
      exact ⟨Ut.ret_bool HR.out.symm, rfl⟩
    · have q2 : ((c.toNat : Int) == 9) = false := by have := byte_ne h2; rw [beq_eq_false_iff_ne]; show (c.toNat : Int) ≠ 9; have : (9 : UInt8).toNat = 9 := rfl; omega
      by_cases h3 : c = 13
      · have q3 : ((c.toNat : Int) == 13) = true := by rw [h3]; rfl
        have HR : Hid (r = true) := by rw [hr, h3]; rfl
        clear hr h1 h2 h3
        go_enter Tryd.func11, Tryd.ntmps11
        go_wp2
        go_ret
        exact ⟨Ut.ret_bool HR.out.symm, rfl⟩
      · have q3 : ((c.toNat : Int) == 13) = false := by have := byte_ne h3; rw [beq_eq_false_iff_ne]; show (c.toNat : Int) ≠ 13; have : (13 : UInt8).toNat = 13 := rfl; omega
        have HR : Hid (r = false) := by rw [hr]; show (c == 32 || c == 9 || c == 13) = false; simp [h1, h2, h3]
        clear hr h1 h2 h3
        go_enter Tryd.func11, Tryd.ntmps11
        go_wp2
        go_ret
        exact ⟨Ut.ret_bool HR.out.symm, rfl⟩

theorem hexv_le (c : UInt8) : (hexv c).toNat ≤ 16 := by
  have h : ∀ n : Fin 256, (hexv (UInt8.ofNat n.val)).toNat ≤ 16 := by decide +kernel
  have := h ⟨c.toNat, c.toNat_lt⟩
  simpa using this

theorem hexv_is (c : UInt8) : ((hexv c).toNat : Int) = if 48 ≤ (c.toNat : Int) ∧ (c.toNat : Int) ≤ 57 then (c.toNat : Int) - 48 else if 97 ≤ (c.toNat : Int) ∧ (c.toNat : Int) ≤ 102 then (c.toNat : Int) - 87 else if 65 ≤ (c.toNat : Int) ∧ (c.toNat : Int) ≤ 70 then (c.toNat : Int) - 55 else 16 := by
  have h : ∀ n : Fin 256, ((hexv (UInt8.ofNat n.val)).toNat : Int) = if 48 ≤ ((UInt8.ofNat n.val).toNat : Int) ∧ ((UInt8.ofNat n.val).toNat : Int) ≤ 57 then ((UInt8.ofNat n.val).toNat : Int) - 48 else if 97 ≤ ((UInt8.ofNat n.val).toNat : Int) ∧ ((UInt8.ofNat n.val).toNat : Int) ≤ 102 then ((UInt8.ofNat n.val).toNat : Int) - 87 else if 65 ≤ ((UInt8.ofNat n.val).toNat : Int) ∧ ((UInt8.ofNat n.val).toNat : Int) ≤ 70 then ((UInt8.ofNat n.val).toNat : Int) - 55 else 16 := by decide +kernel
  have := h ⟨c.toNat, c.toNat_lt⟩
  simpa using this

theorem hex_any (c : UInt8) (w : World) : Calls Tryd.prog 17 #[.int .u8 (c.toNat : Int)] w fun e w' => e = .returned (.int .u8 ((hexv c).toNat : Int)) ∧ w = w' := by
  have hv := hexv_is c
  obtain ⟨r, hr⟩ : ∃ r : Int, r = ((hexv c).toNat : Int) := ⟨_, rfl⟩
  rw [← hr] at hv ⊢
  have b0 : (0 : Int) ≤ (c.toNat : Int) := by omega
  have b1 : (c.toNat : Int) ≤ 255 := by have := c.toNat_lt; omega
  clear hr
  obtain ⟨x, hx⟩ : ∃ x : Int, x = (c.toNat : Int) := ⟨_, rfl⟩
  rw [← hx] at hv b0 b1 ⊢
  clear hx
  have hways : x < 48 ∨ (48 ≤ x ∧ x ≤ 57) ∨ (57 < x ∧ x < 65) ∨ (65 ≤ x ∧ x ≤ 70) ∨ (70 < x ∧ x < 97) ∨ (97 ≤ x ∧ x ≤ 102) ∨ 102 < x := by omega
  rcases hways with h | ⟨h, h2⟩ | ⟨h, h2⟩ | ⟨h, h2⟩ | ⟨h, h2⟩ | ⟨h, h2⟩ | h
  · have HV : Hid (r = 16) := by show _ = _; rw [hv, if_neg (by omega), if_neg (by omega), if_neg (by omega)]
    clear hv
    go_enter Tryd.func17, Tryd.ntmps17
    go_wp2
    go_ret
    exact ⟨Ut.ret_int HV.out.symm, rfl⟩
  · have HV : Hid (r = x - 48) := by show _ = _; rw [hv, if_pos (by omega)]
    clear hv
    go_enter Tryd.func17, Tryd.ntmps17
    go_wp2
    go_ret
    exact ⟨Ut.ret_int HV.out.symm, rfl⟩
  · have HV : Hid (r = 16) := by show _ = _; rw [hv, if_neg (by omega), if_neg (by omega), if_neg (by omega)]
    have h3 : 48 ≤ x := by omega
    clear hv
    go_enter Tryd.func17, Tryd.ntmps17
    go_wp2
    go_ret
    exact ⟨Ut.ret_int HV.out.symm, rfl⟩
  · have HV : Hid (r = x - 55) := by show _ = _; rw [hv, if_neg (by omega), if_neg (by omega), if_pos (by omega)]
    have h3 : 48 ≤ x := by omega
    have h4 : 57 < x := by omega
    have h5 : x < 97 := by omega
    clear hv
    go_enter Tryd.func17, Tryd.ntmps17
    go_wp2
    go_ret
    exact ⟨Ut.ret_int (by rw [HV.out]; omega), rfl⟩
  · have HV : Hid (r = 16) := by show _ = _; rw [hv, if_neg (by omega), if_neg (by omega), if_neg (by omega)]
    have h3 : 48 ≤ x := by omega
    have h4 : 57 < x := by omega
    have h5 : 65 ≤ x := by omega
    clear hv
    go_enter Tryd.func17, Tryd.ntmps17
    go_wp2
    go_ret
    exact ⟨Ut.ret_int HV.out.symm, rfl⟩
  · have HV : Hid (r = x - 87) := by show _ = _; rw [hv, if_neg (by omega), if_pos (by omega)]
    have h3 : 48 ≤ x := by omega
    have h4 : 57 < x := by omega
    clear hv
    go_enter Tryd.func17, Tryd.ntmps17
    go_wp2
    go_ret
    exact ⟨Ut.ret_int (by rw [HV.out]; omega), rfl⟩
  · have HV : Hid (r = 16) := by show _ = _; rw [hv, if_neg (by omega), if_neg (by omega), if_neg (by omega)]
    have h3 : 48 ≤ x := by omega
    have h4 : 57 < x := by omega
    have h5 : 65 ≤ x := by omega
    have h6 : 70 < x := by omega
    have h7 : 97 ≤ x := by omega
    clear hv
    go_enter Tryd.func17, Tryd.ntmps17
    go_wp2
    go_ret
    exact ⟨Ut.ret_int HV.out.symm, rfl⟩

end Cw
end Go.Proofs.YtnkjalladhmffaaDoor
