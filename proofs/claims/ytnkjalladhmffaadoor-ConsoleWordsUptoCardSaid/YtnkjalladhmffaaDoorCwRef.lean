/- lineageref31.blank, hex, quoted: of any byte, of any text. -/
import Derived.Test.YtnkjalladhmffaaDoorCwUnq
namespace Go.Proofs.YtnkjalladhmffaaDoor
open Go.RowKit Go.Proofs.CwPlain
set_option linter.unusedVariables false
namespace Cw

theorem rblank_any (c : UInt8) (w : World) : Calls Tryd.prog 9 #[.int .u8 (c.toNat : Int)] w fun e w' => e = .returned (.bool (blB c)) ∧ w = w' := by
  obtain ⟨r, hr⟩ : ∃ r, r = blB c := ⟨_, rfl⟩
  rw [← hr]
  by_cases h1 : c = 32
  · have q1 : ((c.toNat : Int) == 32) = true := by rw [h1]; rfl
    have HR : Hid (r = true) := by rw [hr, h1]; rfl
    clear hr h1
    go_enter Tryd.func9, Tryd.ntmps9
    go_wp2
    go_ret
    exact ⟨Ut.ret_bool HR.out.symm, rfl⟩
  · have q1 : ((c.toNat : Int) == 32) = false := by have := byte_ne h1; rw [beq_eq_false_iff_ne]; show (c.toNat : Int) ≠ 32; have : (32 : UInt8).toNat = 32 := rfl; omega
    by_cases h2 : c = 9
    · have q2 : ((c.toNat : Int) == 9) = true := by rw [h2]; rfl
      have HR : Hid (r = true) := by rw [hr, h2]; rfl
      clear hr h1 h2
      go_enter Tryd.func9, Tryd.ntmps9
      go_wp2
      go_ret
      exact ⟨Ut.ret_bool HR.out.symm, rfl⟩
    · have q2 : ((c.toNat : Int) == 9) = false := by have := byte_ne h2; rw [beq_eq_false_iff_ne]; show (c.toNat : Int) ≠ 9; have : (9 : UInt8).toNat = 9 := rfl; omega
      by_cases h3 : c = 13
      · have q3 : ((c.toNat : Int) == 13) = true := by rw [h3]; rfl
        have HR : Hid (r = true) := by rw [hr, h3]; rfl
        clear hr h1 h2 h3
        go_enter Tryd.func9, Tryd.ntmps9
        go_wp2
        go_ret
        exact ⟨Ut.ret_bool HR.out.symm, rfl⟩
      · have q3 : ((c.toNat : Int) == 13) = false := by have := byte_ne h3; rw [beq_eq_false_iff_ne]; show (c.toNat : Int) ≠ 13; have : (13 : UInt8).toNat = 13 := rfl; omega
        have HR : Hid (r = false) := by rw [hr]; show (c == 32 || c == 9 || c == 13) = false; simp [h1, h2, h3]
        clear hr h1 h2 h3
        go_enter Tryd.func9, Tryd.ntmps9
        go_wp2
        go_ret
        exact ⟨Ut.ret_bool HR.out.symm, rfl⟩

theorem rhex_any (c : UInt8) (w : World) : Calls Tryd.prog 16 #[.int .u8 (c.toNat : Int)] w fun e w' => e = .returned (.int .i64 ((hexv c).toNat : Int)) ∧ w = w' := by
  have hv := hexv_is c
  obtain ⟨r, hr⟩ : ∃ r : Int, r = ((hexv c).toNat : Int) := ⟨_, rfl⟩
  rw [← hr] at hv ⊢
  have b0 : (0 : Int) ≤ (c.toNat : Int) := by omega
  have b1 : (c.toNat : Int) ≤ 255 := by have := c.toNat_lt; omega
  clear hr
  obtain ⟨x, hx⟩ : ∃ x : Int, x = (c.toNat : Int) := ⟨_, rfl⟩
  rw [← hx] at hv b0 b1 ⊢
  clear hx
  have hways : x < 48 ∨ (48 ≤ x ∧ x ≤ 57) ∨ (57 < x ∧ x < 65) ∨ (65 ≤ x ∧ x ≤ 70) ∨ (70 < x ∧ x < 97) ∨ (97 ≤ x ∧ x ≤ 102) ∨ 102 < x := by omega
  rcases hways with h | ⟨h, h2⟩ | ⟨h, h2⟩ | ⟨h, h2⟩ | ⟨h, h2⟩ | ⟨h, h2⟩ | h
  · have HV : Hid (r = 16) := by show _ = _; rw [hv, if_neg (by omega), if_neg (by omega), if_neg (by omega)]
    clear hv
    go_enter Tryd.func16, Tryd.ntmps16
    go_wp2
    go_ret
    exact ⟨Ut.ret_int HV.out.symm, rfl⟩
  · have HV : Hid (r = x - 48) := by show _ = _; rw [hv, if_pos (by omega)]
    clear hv
    go_enter Tryd.func16, Tryd.ntmps16
    go_wp2
    go_ret
    exact ⟨Ut.ret_int HV.out.symm, rfl⟩
  · have HV : Hid (r = 16) := by show _ = _; rw [hv, if_neg (by omega), if_neg (by omega), if_neg (by omega)]
    have h3 : 48 ≤ x := by omega
    clear hv
    go_enter Tryd.func16, Tryd.ntmps16
    go_wp2
    go_ret
    exact ⟨Ut.ret_int HV.out.symm, rfl⟩
  · have HV : Hid (r = x - 55) := by show _ = _; rw [hv, if_neg (by omega), if_neg (by omega), if_pos (by omega)]
    have h3 : 48 ≤ x := by omega
    have h4 : 57 < x := by omega
    have h5 : x < 97 := by omega
    clear hv
    go_enter Tryd.func16, Tryd.ntmps16
    go_wp2
    go_ret
    exact ⟨Ut.ret_int HV.out.symm, rfl⟩
  · have HV : Hid (r = 16) := by show _ = _; rw [hv, if_neg (by omega), if_neg (by omega), if_neg (by omega)]
    have h3 : 48 ≤ x := by omega
    have h4 : 57 < x := by omega
    have h5 : 65 ≤ x := by omega
    clear hv
    go_enter Tryd.func16, Tryd.ntmps16
    go_wp2
    go_ret
    exact ⟨Ut.ret_int HV.out.symm, rfl⟩
  · have HV : Hid (r = x - 87) := by show _ = _; rw [hv, if_neg (by omega), if_pos (by omega)]
    have h3 : 48 ≤ x := by omega
    have h4 : 57 < x := by omega
    clear hv
    go_enter Tryd.func16, Tryd.ntmps16
    go_wp2
    go_ret
    exact ⟨Ut.ret_int HV.out.symm, rfl⟩
  · have HV : Hid (r = 16) := by show _ = _; rw [hv, if_neg (by omega), if_neg (by omega), if_neg (by omega)]
    have h3 : 48 ≤ x := by omega
    have h4 : 57 < x := by omega
    have h5 : 65 ≤ x := by omega
    have h6 : 70 < x := by omega
    have h7 : 97 ≤ x := by omega
    clear hv
    go_enter Tryd.func16, Tryd.ntmps16
    go_wp2
    go_ret
    exact ⟨Ut.ret_int HV.out.symm, rfl⟩

/-- While a text is unquoted. -/
def RQ (s : ByteArray) (at_ : Nat) (w : World) (b i : Value) (wr : World) : Prop :=
  ∃ (k : Nat) (acc : Bs), at_ + 1 ≤ k ∧ k ≤ s.size ∧ i = .int .i64 k ∧ wr.ownsRow w.heap.size 5 1 b acc.length (acc.map bv) ∧ acc.length ≤ k ∧ quotedL (s.data.toList.drop k) acc = quotedL (s.data.toList.drop (at_ + 1)) [] ∧ Below w.heap.size w wr

/-- What the reference's quoted hands back. -/
def RQPost (s : ByteArray) (at_ : Nat) (e : Ending) : Prop :=
  match quotedL (s.data.toList.drop (at_ + 1)) [] with
  | none => e = .returned (.tuple #[.string ⟨#[]⟩, .int .i64 (-1)])
  | some (x, r) => ∃ n : Nat, e = .returned (.tuple #[.string ⟨x.toArray⟩, .int .i64 n]) ∧ at_ + 2 ≤ n ∧ n ≤ s.size ∧ r = s.data.toList.drop n

theorem RQPost.no {s : ByteArray} {at_ : Nat} (h : quotedL (s.data.toList.drop (at_ + 1)) [] = none) : RQPost s at_ (.returned (.tuple #[.string ⟨#[]⟩, .int .i64 (-1)])) := by
  unfold RQPost; rw [h]
theorem RQPost.yes {s : ByteArray} {at_ : Nat} {x : Bs} {k : Nat} (h : quotedL (s.data.toList.drop (at_ + 1)) [] = some (x, s.data.toList.drop (k + 1))) (h1 : at_ + 1 ≤ k) (h2 : k < s.size) :
    RQPost s at_ (.returned (.tuple #[.string ⟨x.toArray⟩, .int .i64 ((k + 1 : Nat) : Int)])) := by
  unfold RQPost; rw [h]
  exact ⟨k + 1, rfl, by omega, by omega, rfl⟩

theorem RQ.push {s : ByteArray} {at_ : Nat} {w wr w1 : World} {b v' : Value} {acc : Bs} {o : Obj} {x : UInt8} (k' : Nat) (hown : wr.ownsRow w.heap.size 5 1 b acc.length (acc.map bv)) (hbl : Below w.heap.size w wr)
    (hown' : w1.ownsRow w.heap.size 5 1 v' (acc.length + 1) (acc.map bv ++ [bv x])) (hgrow : (wr.alloc o).grownBy w1 b.ownBlock) (h1 : at_ + 1 ≤ k') (h2 : k' ≤ s.size) (h3 : acc.length + 1 ≤ k')
    (hq : quotedL (s.data.toList.drop k') (acc ++ [x]) = quotedL (s.data.toList.drop (at_ + 1)) []) : RQ s at_ w v' (.int .i64 (k' : Nat)) w1 :=
  ⟨k', acc ++ [x], h1, h2, rfl, by simpa using hown', by simpa using h3, hq, Ut.below_app hbl hbl.size hown hgrow⟩

theorem hex_sum {x y : UInt8} (h1 : hexv x < 16) (h2 : hexv y < 16) : 16 * ((hexv x).toNat : Int) + ((hexv y).toNat : Int) = ((16 * hexv x + hexv y).toNat : Int) := by
  have h : ∀ a b : Fin 16, 16 * ((UInt8.ofNat a.val).toNat : Int) + ((UInt8.ofNat b.val).toNat : Int) = ((16 * UInt8.ofNat a.val + UInt8.ofNat b.val).toNat : Int) := by decide +kernel
  have e : (16 : UInt8).toNat = 16 := rfl
  rw [UInt8.lt_iff_toNat_lt, e] at h1 h2
  have := h ⟨(hexv x).toNat, h1⟩ ⟨(hexv y).toNat, h2⟩
  simpa using this

set_option maxHeartbeats 4000000 in
set_option maxRecDepth 100000 in
theorem rquoted_any (s : ByteArray) (hs : s.size ≤ 1099511627776) (at_ : Nat) (ha : at_ < s.size) (w : World) :
    Calls Tryd.prog 10 #[.string s, .int .i64 at_] w fun e w' => RQPost s at_ e ∧ Below w.heap.size w w' := by
  obtain ⟨i0, hi, hz0, hz1, hz2⟩ := info_parts info_u8
  have s1 : (s.size : Int) ≤ 1099511627776 := by omega
  have s2 : (at_ : Int) < (s.size : Int) := by omega
  have s3 : (0 : Int) ≤ (at_ : Int) := by omega
  go_enter Tryd.func10, Tryd.ntmps10
  go_wp2
  go_loopw [6, 7] (fun b i wr => RQ s at_ w b i wr) (fun _ i _ => s.size - (intOf i).toNat)
  case atStart => exact ⟨at_ + 1, [], Nat.le_refl _, ha, by go_num, World.ownsRow_nil _ _ _ _, by simp, rfl, Below.refl _ _⟩
  case round =>
    obtain ⟨k, acc, k1, k2, rfl, hown, hal, hq, hbl⟩ := hrel
    have HO := Lib.hid hown; have HQ := Lib.hid hq; have HB := Lib.hid hbl
    have hz : w.heap.size ≤ wr.heap.size := hbl.size
    clear hown hq hbl
    have b0 : (0 : Int) ≤ (k : Int) := by omega
    have am1 : acc.length + 1 ≤ maxLen := by unfold maxLen; omega
    have am2 : (acc.length + 1) * 1 ≤ 140737488355328 := by omega
    by_cases hk : k < s.size
    · have b1 : (k : Int) < (s.size : Int) := by omega
      have hd := drop_at s k hk
      by_cases c1 : s[k] = 34
      · have q1 : ((s[k].toNat : Int) == 34) = true := by rw [c1]; rfl
        have HN : Hid (quotedL (s.data.toList.drop (at_ + 1)) [] = some (acc, s.data.toList.drop (k + 1))) := by show _ = _; rw [← HQ.out, hd, c1, q_end]
        have hcv := conv_own HO.out
        clear hd c1
        go_wp2
        go_ret2
        exact ⟨RQPost.yes HN.out k1 hk, HB.out⟩
      have q1 : ((s[k].toNat : Int) == 34) = false := at_no (n := 34) c1
      by_cases c2 : s[k] = 10
      · have q2 : ((s[k].toNat : Int) == 10) = true := by rw [c2]; rfl
        have HN : Hid (quotedL (s.data.toList.drop (at_ + 1)) [] = none) := by show _ = _; rw [← HQ.out, hd, c2, q_line]
        clear hd c1 c2
        go_wp2
        go_ret2
        exact ⟨RQPost.no HN.out, HB.out⟩
      have q2 : ((s[k].toNat : Int) == 10) = false := at_no (n := 10) c2
      by_cases c3 : s[k] = 92
      · have q3 : ((s[k].toNat : Int) != 92) = false := by rw [c3]; rfl
        clear c1 c2
        rw [c3] at hd
        clear c3
        by_cases hk2 : k + 1 < s.size
        · have b2 : (k : Int) + 1 < (s.size : Int) := by omega
          have b3 : (0 : Int) ≤ (k : Int) + 1 := by omega
          have hd2 := drop_at s (k + 1) hk2
          by_cases d1 : s[k + 1] = 34
          · have r1 : ((s[k + 1].toNat : Int) == 34) = true := by rw [d1]; rfl
            have HN : Hid (quotedL (s.data.toList.drop (k + 2)) (acc ++ [s[k + 1]]) = quotedL (s.data.toList.drop (at_ + 1)) []) := by show _ = _; rw [← HQ.out, hd, hd2, q_e1 _ _ _ (.inl d1)]
            clear hd hd2 d1
            go_wp2_with (at_builtin; refine wpList_append_own _ rfl _ _ 48 rfl w.heap.size 5 i0 (.int .u8 0) 1 1 Tryd.underlying48 hi hz0 hz1 hz2 rfl (by decide) _ _ _ rfl (HO.out.alloc _) ⟨wr.heap.size, 0, none⟩ 1 1 [bv s[k + 1]] rfl rfl (cell_one_new _ _ _) (by intro u hu; simp at hu; subst hu; rfl) am1 am2 (by simp; exact Nat.le_succ_of_le hz) ?_; intro v' w1 hown' hgrow _)
            have HU := Lib.hid (RQ.push (s := s) (at_ := at_) (x := s[k + 1]) (k + 2) HO.out HB.out hown' hgrow (by omega) (by omega) (by omega) HN.out)
            clear hown' hgrow
            go_wp2
            go_roundw
            case rel => exact HU.out
            case measure => simp [intOf]; omega

          have r1 : ((s[k + 1].toNat : Int) == 34) = false := at_no (n := 34) d1
          by_cases d2 : s[k + 1] = 92
          · have r2 : ((s[k + 1].toNat : Int) == 92) = true := by rw [d2]; rfl
            have HN : Hid (quotedL (s.data.toList.drop (k + 2)) (acc ++ [s[k + 1]]) = quotedL (s.data.toList.drop (at_ + 1)) []) := by show _ = _; rw [← HQ.out, hd, hd2, q_e1 _ _ _ (.inr d2)]
            clear hd hd2 d1 d2
            go_wp2_with (at_builtin; refine wpList_append_own _ rfl _ _ 48 rfl w.heap.size 5 i0 (.int .u8 0) 1 1 Tryd.underlying48 hi hz0 hz1 hz2 rfl (by decide) _ _ _ rfl (HO.out.alloc _) ⟨wr.heap.size, 0, none⟩ 1 1 [bv s[k + 1]] rfl rfl (cell_one_new _ _ _) (by intro u hu; simp at hu; subst hu; rfl) am1 am2 (by simp; exact Nat.le_succ_of_le hz) ?_; intro v' w1 hown' hgrow _)
            have HU := Lib.hid (RQ.push (s := s) (at_ := at_) (x := s[k + 1]) (k + 2) HO.out HB.out hown' hgrow (by omega) (by omega) (by omega) HN.out)
            clear hown' hgrow
            go_wp2
            go_roundw
            case rel => exact HU.out
            case measure => simp [intOf]; omega

          have r2 : ((s[k + 1].toNat : Int) == 92) = false := at_no (n := 92) d2
          by_cases d3 : s[k + 1] = 110
          · have r3 : ((s[k + 1].toNat : Int) == 110) = true := by rw [d3]; rfl
            have HN : Hid (quotedL (s.data.toList.drop (k + 2)) (acc ++ [10]) = quotedL (s.data.toList.drop (at_ + 1)) []) := by show _ = _; rw [← HQ.out, hd, hd2, d3, q_e2]
            clear hd hd2 d1 d2 d3
            go_wp2_with (at_builtin; refine wpList_append_own _ rfl _ _ 48 rfl w.heap.size 5 i0 (.int .u8 0) 1 1 Tryd.underlying48 hi hz0 hz1 hz2 rfl (by decide) _ _ _ rfl (HO.out.alloc _) ⟨wr.heap.size, 0, none⟩ 1 1 [bv 10] rfl rfl (cell_one_new _ _ _) (by intro u hu; simp at hu; subst hu; rfl) am1 am2 (by simp; exact Nat.le_succ_of_le hz) ?_; intro v' w1 hown' hgrow _)
            have HU := Lib.hid (RQ.push (s := s) (at_ := at_) (x := 10) (k + 2) HO.out HB.out hown' hgrow (by omega) (by omega) (by omega) HN.out)
            clear hown' hgrow
            go_wp2
            go_roundw
            case rel => exact HU.out
            case measure => simp [intOf]; omega

          have r3 : ((s[k + 1].toNat : Int) == 110) = false := at_no (n := 110) d3
          by_cases d4 : s[k + 1] = 120
          · have r4 : ((s[k + 1].toNat : Int) == 120) = true := by rw [d4]; rfl
            by_cases hk4 : k + 3 < s.size
            · have b4 : (k : Int) + 2 + 1 < (s.size : Int) := by omega
              have b6 : (k : Int) + 2 < (s.size : Int) := by omega
              have b7 : (0 : Int) ≤ (k : Int) + 2 := by omega
              have b8 : (0 : Int) ≤ (k : Int) + 2 + 1 := by omega
              have hd3 := drop_at s (k + 2) (by omega)
              have hd4 := drop_at s (k + 3) hk4
              have hyes : hexv (s[k + 2]'(by omega)) < 16 ∧ hexv (s[k + 2 + 1]'(by omega)) < 16 → quotedL (s.data.toList.drop (k + 4)) (acc ++ [16 * hexv (s[k + 2]'(by omega)) + hexv (s[k + 2 + 1]'(by omega))]) = quotedL (s.data.toList.drop (at_ + 1)) [] := fun hg => by
                rw [← HQ.out, hd, hd2, d4, hd3, hd4, q_e3 _ _ _ _ hg]
              have hno : ¬ (hexv (s[k + 2]'(by omega)) < 16 ∧ hexv (s[k + 2 + 1]'(by omega)) < 16) → quotedL (s.data.toList.drop (at_ + 1)) [] = none := fun hg => by
                rw [← HQ.out, hd, hd2, d4, hd3, hd4, q_e4 _ _ _ _ hg]
              clear hd hd2 d1 d2 d3 d4 hd3 hd4
              have HY := Lib.hid hyes; have HNO := Lib.hid hno
              clear hyes hno
              have l1 := hexv_lt (s[k + 2]'(by omega)); have l2 := hexv_lt (s[k + 2 + 1]'(by omega))
              by_cases g1 : hexv (s[k + 2]'(by omega)) < 16
              · have g1' := l1.1 g1
                by_cases g2 : hexv (s[k + 2 + 1]'(by omega)) < 16
                · have g2' := l2.1 g2
                  have HN := Lib.hid (HY.out ⟨g1, g2⟩)
                  have hor := hex_sum g1 g2
                  have HV := Lib.hid hor
                  clear l1 l2 g1 g2 HY HNO hor
                  have z1 : (0 : Int) ≤ ((hexv (s[k + 2]'(by omega))).toNat : Int) := by omega
                  have z2 : (0 : Int) ≤ ((hexv (s[k + 2 + 1]'(by omega))).toNat : Int) := by omega
                  have a3 : at_ + 1 ≤ k + 4 := by omega
                  have a4 : k + 4 ≤ s.size := by omega
                  have a5 : acc.length + 1 ≤ k + 4 := by omega
                  have u1 : IntKind.i64.wrap (16 * ((hexv (s[k + 2]'(by omega))).toNat : Int)) = 16 * ((hexv (s[k + 2]'(by omega))).toNat : Int) := IntWalk.i64_in _ (by omega)
                  have u2 : IntKind.i64.wrap (16 * ((hexv (s[k + 2]'(by omega))).toNat : Int) + ((hexv (s[k + 2 + 1]'(by omega))).toNat : Int)) = 16 * ((hexv (s[k + 2]'(by omega))).toNat : Int) + ((hexv (s[k + 2 + 1]'(by omega))).toNat : Int) := IntWalk.i64_in _ (by omega)
                  have u3 : IntKind.u8.wrap (16 * ((hexv (s[k + 2]'(by omega))).toNat : Int) + ((hexv (s[k + 2 + 1]'(by omega))).toNat : Int)) = 16 * ((hexv (s[k + 2]'(by omega))).toNat : Int) + ((hexv (s[k + 2 + 1]'(by omega))).toNat : Int) := by simp only [IntKind.wrap_u8]; omega
                  have t1 : ((k : Int) + 2).toNat = k + 2 := by omega
                  have t2 : ((k : Int) + 2 + 1).toNat = k + 2 + 1 := by omega
                  have v2 : IntKind.i64.wrap ((k : Int) + 2 + 1) = (k : Int) + 2 + 1 := IntWalk.i64_in _ (by omega)
                  go_wp2_with (go_at_call 16; refine (rhex_any _ _).mono ?_; rintro e w' ⟨rfl, rfl⟩)
                  go_region_law (first | (refine step_append_lies _ (by rfl) (.tmp 85) (.tmp 98) 48 (by rfl) w.heap.size 5 i0 (.int .u8 0) 1 1 Tryd.underlying48 hi hz0 hz1 hz2 rfl (by decide) _ _ _ (by rfl) (HO.out.drew.alloc _) ⟨wr.heap.size, 0, none⟩ 1 1 [_] (by rfl) (by rfl) (cell_one_new _ _ _) (by intro u hu; simp at hu; subst hu; rfl) Nat.one_pos am1 am2 (by simp; exact Nat.le_succ_of_le hz) (wr.heap.size + 1) (by simp) ?_; intro g cap w1 hown' hgrow hat hlt) | (go_simp; go_at_call 16; refine (rhex_any _ _).mono ?_; rintro e w' ⟨rfl, rfl⟩))
                  all_goals
                    have hown2 : w1.ownsRow w.heap.size 5 1 (.slice (some ⟨g, 0, none⟩) (acc.length + 1) cap) (acc.length + 1) (acc.map bv ++ [bv (16 * hexv (s[k + 2]'(by omega)) + hexv (s[k + 2 + 1]'(by omega)))]) := by
                      unfold bv; rw [← HV.out]; exact hown'
                    have HU := Lib.hid (RQ.push (s := s) (at_ := at_) (k + 4) (wr := wr.drew) HO.out.drew (HB.out.drew) hown2 hgrow a3 a4 a5 HN.out)
                    clear hown' hown2 hgrow hat hlt
                    clear v2
                    go_wp2
                    go_roundw
                    case rel => exact HU.out
                    case measure => simp [intOf]; omega
                · have g2' := l2.2 g2
                  have HN := Lib.hid (HNO.out fun h => g2 h.2)
                  clear l1 l2 g1 g2 HY HNO
                  go_wp2_with (go_at_call 16; refine (rhex_any _ _).mono ?_; rintro e w' ⟨rfl, rfl⟩)
                  go_ret2
                  exact ⟨RQPost.no HN.out, HB.out⟩
              · have g1' := l1.2 g1
                have HN := Lib.hid (HNO.out fun h => g1 h.1)
                clear l1 l2 g1 HY HNO
                go_wp2_with (go_at_call 16; refine (rhex_any _ _).mono ?_; rintro e w' ⟨rfl, rfl⟩)
                go_ret2
                exact ⟨RQPost.no HN.out, HB.out⟩
            · have HN : Hid (quotedL (s.data.toList.drop (at_ + 1)) [] = none) := by
                show _ = _
                rw [← HQ.out, hd, hd2, d4]
                by_cases e2 : k + 2 < s.size
                · rw [drop_at s (k + 2) e2, drop_end s (k + 3) (by omega), q_e5]
                · rw [drop_end s (k + 2) (by omega), q_e6]
              have b4 : (s.size : Int) ≤ (k : Int) + 2 + 1 := by omega
              clear hd hd2 d1 d2 d3 d4
              go_wp2
              go_ret2
              exact ⟨RQPost.no HN.out, HB.out⟩
          have r4 : ((s[k + 1].toNat : Int) == 120) = false := at_no (n := 120) d4
          have HN : Hid (quotedL (s.data.toList.drop (at_ + 1)) [] = none) := by show _ = _; rw [← HQ.out, hd, hd2, q_e7 _ _ _ d1 d2 d3 d4]
          clear hd hd2 d1 d2 d3 d4
          go_wp2
          go_ret2
          exact ⟨RQPost.no HN.out, HB.out⟩
        · have p0 : (s.size : Int) ≤ (k : Int) + 1 := by omega
          have HN : Hid (quotedL (s.data.toList.drop (at_ + 1)) [] = none) := by show _ = _; rw [← HQ.out, hd, drop_end s (k + 1) (by omega), q_e0]
          clear hd
          go_wp2
          go_ret2
          exact ⟨RQPost.no HN.out, HB.out⟩
      have q3 : ((s[k].toNat : Int) != 92) = true := by rw [bne_iff_ne]; intro e; exact c3 (UInt8.toNat_inj.1 (by have h92 : (92 : UInt8).toNat = 92 := rfl; omega))
      have HN : Hid (quotedL (s.data.toList.drop (k + 1)) (acc ++ [s[k]]) = quotedL (s.data.toList.drop (at_ + 1)) []) := by show _ = _; rw [← HQ.out, hd, q_plain _ _ _ c1 c2 c3]
      clear hd c1 c2 c3
      go_wp2_with (at_builtin; refine wpList_append_own _ rfl _ _ 48 rfl w.heap.size 5 i0 (.int .u8 0) 1 1 Tryd.underlying48 hi hz0 hz1 hz2 rfl (by decide) _ _ _ rfl (HO.out.alloc _) ⟨wr.heap.size, 0, none⟩ 1 1 [bv s[k]] rfl rfl (cell_one_new _ _ _) (by intro u hu; simp at hu; subst hu; rfl) am1 am2 (by simp; exact Nat.le_succ_of_le hz) ?_; intro v' w1 hown' hgrow _)
      have HU := Lib.hid (RQ.push (s := s) (at_ := at_) (x := s[k]) (k + 1) HO.out HB.out hown' hgrow (by omega) (by omega) (by omega) HN.out)
      clear hown' hgrow
      go_wp2
      go_roundw
      case rel => exact HU.out
      case measure => simp [intOf]; omega

    · have b1 : ¬ (k : Int) < (s.size : Int) := by omega
      have HN : Hid (quotedL (s.data.toList.drop (at_ + 1)) [] = none) := by show _ = _; rw [← HQ.out, drop_end s k (by omega), q_nil]
      go_wp2
      go_ret2
      exact ⟨RQPost.no HN.out, HB.out⟩

end Cw
end Go.Proofs.YtnkjalladhmffaaDoor
