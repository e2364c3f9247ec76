/- The reference's Name and Dotted, of any text. -/
import Derived.Test.YtocoonkachbjaaaGreatDoorNmUnder
import Derived.Test.YtocoonkachbjaaaGreatDoorNsPieces
namespace Go.Proofs.YtocoonkachbjaaaGreatDoor
open Go.RowKit Go.Proofs.NmPlain
set_option linter.unusedVariables false

/-- What a byte is to the reference's Name, told by ranges. -/
theorem sign_low {n : Nat} (h : n < 48) (h2 : n ≠ 45) : isSign n = false := by
  unfold isSign
  have a : decide (48 ≤ n) = false := by simp; omega
  have b : (n == 45) = false := by rw [beq_eq_false_iff_ne]; omega
  have d : (n == 95) = false := by rw [beq_eq_false_iff_ne]; omega
  rw [a, b, d]; simp
theorem sign_mid {n : Nat} (h : 57 < n) (h2 : n ≠ 95) : isSign n = false := by
  unfold isSign
  have a : decide (n ≤ 57) = false := by simp; omega
  have b : (n == 45) = false := by rw [beq_eq_false_iff_ne]; omega
  have d : (n == 95) = false := by rw [beq_eq_false_iff_ne]; omega
  rw [a, b, d]; simp
theorem sign_digit {n : Nat} (h : 48 ≤ n) (h2 : n ≤ 57) : isSign n = true := by
  unfold isSign
  rw [decide_eq_true h, decide_eq_true h2]; simp

set_option maxHeartbeats 2000000 in
theorem refname_any (s : ByteArray) (hs : s.size ≤ 16777216) (w : World) :
    Calls Tryz.prog 30 #[.string s] w fun e w' => e = .returned (.bool (nameB s.data.toList)) ∧ Below w.heap.size w w' := by
  by_cases hl : 1 ≤ s.size ∧ s.size ≤ 32
  · have hnb : nameB s.data.toList = nameAux 0 s.data.toList := nameB_aux (by rw [← size_toList]; exact hl)
    obtain ⟨l1, l2⟩ := hl
    rw [hnb]
    clear hnb
    go_enter Tryz.func30, Tryz.ntmps30
    go_wp2
    go_loopw [3] (fun i wr => ∃ k : Nat, k ≤ s.size ∧ i = .int .i64 k ∧ nameAux 0 s.data.toList = nameAux k (s.data.toList.drop k) ∧ Below w.heap.size w wr) (fun i _ => s.size - (intOf i).toNat)
    case atStart => exact ⟨0, Nat.zero_le _, rfl, rfl, Below.refl _ _⟩
    case round =>
      obtain ⟨k, hk, rfl, haux, hbw⟩ := hrel
      have HA := Lib.hid haux
      clear haux
      by_cases h : k < s.size
      · have b1 : (0 : Int) ≤ (k : Int) := by omega
        have b2 : (k : Int) < (s.size : Int) := by omega
        have hstep : nameAux k (s.data.toList.drop k) = (okAt k s[k] && nameAux (k + 1) (s.data.toList.drop (k + 1))) := nameAux_drop (by rw [← size_toList]; exact h)
        have HST := Lib.hid hstep
        clear hstep
        by_cases hlet : 97 ≤ s[k].toNat ∧ s[k].toNat ≤ 122
        · have g1 : (97 : Int) ≤ (s[k].toNat : Int) := by omega
          have g2 : (s[k].toNat : Int) ≤ 122 := by omega
          have HN : Hid (nameAux 0 s.data.toList = nameAux (k + 1) (s.data.toList.drop (k + 1))) := by
            show _ = _; rw [HA.out, HST.out, okAt_letter hlet.1 hlet.2, Bool.true_and]
          clear HST HA hlet
          go_wp2
          go_roundw
          case rel => exact ⟨k + 1, by omega, by go_num, HN, hbw⟩
          case measure => simp [intOf]; omega
        · have hnl : s[k].toNat < 97 ∨ 122 < s[k].toNat := by omega
          by_cases hk0 : k = 0
          · have hok : okAt k s[k] = false := by subst hk0; exact okAt_zero hnl
            have hq0 : ((k : Int) == 0) = true := by subst hk0; rfl
            clear hk0
            clear hlet
            rcases hnl with hcc | hcc
            · have g1 : (s[k].toNat : Int) < 97 := by omega
              have HN : Hid (nameAux 0 s.data.toList = false) := by
                show _ = _; rw [HA.out, HST.out, hok, Bool.false_and]
              clear HST HA hok hcc
              go_wp2
              go_ret
              exact ⟨Ut.ret_bool HN.out.symm, hbw⟩
            · have g1 : (97 : Int) ≤ (s[k].toNat : Int) := by omega
              have g2 : decide ((s[k].toNat : Int) ≤ 122) = false := by simp; omega
              have HN : Hid (nameAux 0 s.data.toList = false) := by
                show _ = _; rw [HA.out, HST.out, hok, Bool.false_and]
              clear HST HA hok hcc
              go_wp2
              go_ret
              exact ⟨Ut.ret_bool HN.out.symm, hbw⟩
          · have hok := okAt_sign hk0 hnl
            have hq0 : ((k : Int) == 0) = false := by rw [beq_eq_false_iff_ne]; omega
            clear hlet
            by_cases r1 : s[k].toNat < 48
            · have g1 : (s[k].toNat : Int) < 97 := by omega
              have g2 : (s[k].toNat : Int) < 48 := by omega
              by_cases r2 : s[k].toNat = 45
              · have hsg : isSign s[k].toNat = true := by rw [r2]; rfl
                have q0 : ((s[k].toNat : Int) != 45) = false := by rw [r2]; rfl
                have HN : Hid (nameAux 0 s.data.toList = nameAux (k + 1) (s.data.toList.drop (k + 1))) := by
                  show _ = _; rw [HA.out, HST.out, hok, hsg, Bool.true_and]
                clear HST HA hok hsg r1 r2 hnl
                go_wp2
                go_roundw
                case rel => exact ⟨k + 1, by omega, by go_num, HN, hbw⟩
                case measure => simp [intOf]; omega
              · have hsg : isSign s[k].toNat = false := sign_low r1 r2
                have q0 : ((s[k].toNat : Int) != 45) = true := by rw [bne_iff_ne]; omega
                have q1 : ((s[k].toNat : Int) != 95) = true := by rw [bne_iff_ne]; omega
                have HN : Hid (nameAux 0 s.data.toList = false) := by
                  show _ = _; rw [HA.out, HST.out, hok, hsg, Bool.false_and]
                clear HST HA hok hsg r1 r2 hnl
                go_wp2
                go_ret
                exact ⟨Ut.ret_bool HN.out.symm, hbw⟩
            · by_cases r2 : s[k].toNat ≤ 57
              · have g1 : (s[k].toNat : Int) < 97 := by omega
                have g2 : (48 : Int) ≤ (s[k].toNat : Int) := by omega
                have g3 : (s[k].toNat : Int) ≤ 57 := by omega
                have g4 : decide ((s[k].toNat : Int) < 48) = false := by simp; omega
                have hsg : isSign s[k].toNat = true := sign_digit (by omega) r2
                have HN : Hid (nameAux 0 s.data.toList = nameAux (k + 1) (s.data.toList.drop (k + 1))) := by
                  show _ = _; rw [HA.out, HST.out, hok, hsg, Bool.true_and]
                clear HST HA hok hsg r1 r2 hnl
                go_wp2
                go_roundw
                case rel => exact ⟨k + 1, by omega, by go_num, HN, hbw⟩
                case measure => simp [intOf]; omega
              · have g2 : decide ((s[k].toNat : Int) < 48) = false := by simp; omega
                have g3 : 57 < (s[k].toNat : Int) := by omega
                have q0 : ((s[k].toNat : Int) != 45) = true := by rw [bne_iff_ne]; omega
                by_cases r3 : s[k].toNat = 95
                · have g1 : (s[k].toNat : Int) < 97 := by omega
                  have hsg : isSign s[k].toNat = true := by rw [r3]; rfl
                  have q1 : ((s[k].toNat : Int) != 95) = false := by rw [r3]; rfl
                  have HN : Hid (nameAux 0 s.data.toList = nameAux (k + 1) (s.data.toList.drop (k + 1))) := by
                    show _ = _; rw [HA.out, HST.out, hok, hsg, Bool.true_and]
                  clear HST HA hok hsg r1 r2 r3 hnl
                  go_wp2
                  go_roundw
                  case rel => exact ⟨k + 1, by omega, by go_num, HN, hbw⟩
                  case measure => simp [intOf]; omega
                · have hsg : isSign s[k].toNat = false := sign_mid (by omega) r3
                  have q1 : ((s[k].toNat : Int) != 95) = true := by rw [bne_iff_ne]; omega
                  rcases hnl with hcc | hcc
                  · have g1 : (s[k].toNat : Int) < 97 := by omega
                    have HN : Hid (nameAux 0 s.data.toList = false) := by
                      show _ = _; rw [HA.out, HST.out, hok, hsg, Bool.false_and]
                    clear HST HA hok hsg r1 r2 r3 hcc
                    go_wp2
                    go_ret
                    exact ⟨Ut.ret_bool HN.out.symm, hbw⟩
                  · have g1 : (97 : Int) ≤ (s[k].toNat : Int) := by omega
                    have g4 : decide ((s[k].toNat : Int) ≤ 122) = false := by simp; omega
                    have HN : Hid (nameAux 0 s.data.toList = false) := by
                      show _ = _; rw [HA.out, HST.out, hok, hsg, Bool.false_and]
                    clear HST HA hok hsg r1 r2 r3 hcc
                    go_wp2
                    go_ret
                    exact ⟨Ut.ret_bool HN.out.symm, hbw⟩
      · have HN : Hid (nameAux 0 s.data.toList = true) := by
          show _ = _; rw [HA.out, List.drop_of_length_le (by rw [← size_toList]; omega)]; rfl
        obtain rfl : k = s.size := by omega
        clear HA h
        go_wp2
        go_ret
        exact ⟨Ut.ret_bool HN.out.symm, hbw⟩
  · have hnb : nameB s.data.toList = false := nameB_len (by rw [← size_toList]; exact hl)
    rw [hnb]
    clear hnb
    by_cases h0 : s.size < 1
    · have h1 : (s.size : Int) < 1 := by omega
      clear hl h0
      go_enter Tryz.func30, Tryz.ntmps30
      go_wp2
      go_ret
      exact ⟨rfl, Below.refl _ _⟩
    · have h1 : decide ((s.size : Int) < 1) = false := by simp; omega
      have h2 : (32 : Int) < (s.size : Int) := by omega
      clear hl h0
      go_enter Tryz.func30, Tryz.ntmps30
      go_wp2
      go_ret
      exact ⟨rfl, Below.refl _ _⟩

end Go.Proofs.YtocoonkachbjaaaGreatDoor
