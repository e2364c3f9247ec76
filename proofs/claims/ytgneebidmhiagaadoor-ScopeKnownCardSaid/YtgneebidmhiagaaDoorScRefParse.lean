/- lineageref03.Parse: of any book's names and any text. -/
import Derived.Test.YtgneebidmhiagaaDoorScRefWord
import Derived.Test.YtgneebidmhiagaaDoorScWords
namespace Go.Proofs.YtgneebidmhiagaaDoor
open Go.RowKit Go.Proofs.NmPlain Go.Proofs.Ar
set_option linter.unusedVariables false
namespace Sc

theorem at_no {c : UInt8} {n : UInt8} (h : c ≠ n) : ((c.toNat : Int) == (n.toNat : Int)) = false := by
  rw [beq_eq_false_iff_ne]; intro e; exact h (UInt8.toNat_inj.1 (by omega))
theorem at_no' {c : UInt8} {n : UInt8} (h : c ≠ n) : ((c.toNat : Int) != (n.toNat : Int)) = true := by
  rw [bne_iff_ne]; intro e; exact h (UInt8.toNat_inj.1 (by omega))
theorem ret3 {a : Nat} {b c : Int} {p : Nat × Int × Int} (h : p = (a, b, c)) : Ending.returned (.tuple #[.int .u64 (a : Int), .int .i64 b, .int .i64 c]) = .returned (.tuple #[.int .u64 (p.1 : Int), .int .i64 p.2.1, .int .i64 p.2.2]) := by
  subst h; rfl

/-- While a text is read. -/
def PRel (ls : List ByteArray) (t : ByteArray) (w : World) (s i : Value) (wr : World) : Prop :=
  ∃ k S : Nat, k ≤ t.size ∧ i = .int .i64 k ∧ s = .int .u64 (S : Int) ∧ S < 18446744073709551616 ∧ parseW ls (wordsAt k (t.data.toList.drop k)) S = parseL ls t.data.toList ∧ Below w.heap.size w wr

theorem word_u64 {ls : List ByteArray} (hl : ls.length ≤ 64) (l : Bs) : (wordL ls l).1 < 18446744073709551616 := by
  rcases wordL_cases ls l with ⟨h, _⟩ | ⟨_, h⟩
  · rw [h]; omega
  · have : 2 ^ ls.length ≤ 2 ^ 64 := Nat.pow_le_pow_right (by omega) hl
    omega

set_option maxHeartbeats 4000000 in
theorem refparse_any (v : Value) (ls : List ByteArray) (hl : ls.length ≤ 64) (hz : ∀ s ∈ ls, s.size ≤ 16777216) (t : ByteArray) (ht : t.size ≤ 140737488351232) (w : World) (h1 : TextArg w v ls) :
    Calls Tryd.prog 26 #[v, .string t] w fun e w' => e = .returned (.tuple #[.int .u64 ((parseL ls t.data.toList).1 : Nat), .int .i64 (parseL ls t.data.toList).2.1, .int .i64 (parseL ls t.data.toList).2.2]) ∧ Below w.heap.size w w' := by
  have hz0 : t.data.toList.length = t.size := by simp
  by_cases hb : 4096 < t.size
  · have HP : Hid (parseL ls t.data.toList = (0, 3, -1)) := by show _ = _; unfold parseL; rw [if_pos (by rw [hz0]; exact hb)]
    have b1 : (4096 : Int) < (t.size : Int) := by omega
    clear hb hz0
    obtain ⟨p, cp, rfl, -⟩ := h1
    go_enter Tryd.func26, Tryd.ntmps26
    go_wp2
    go_ret3
    exact ⟨ret3 HP.out, Below.refl _ _⟩
  · have HP : Hid (parseW ls (wordsAt 0 t.data.toList) 0 = parseL ls t.data.toList) := by show _ = _; unfold parseL; rw [if_neg (by rw [hz0]; exact hb)]
    have b1 : (t.size : Int) ≤ 4096 := by omega
    have H1 := Lib.hid h1
    have HW := Lib.hid (fun (x : ByteArray) (hx : x.size ≤ 16777216) (w' : World) (hb : Below w.heap.size w w') => refword_any v ls hl hz x hx w' (h1.below hb))
    have HU := Lib.hid (word_u64 hl)
    clear hb hz0 ht hz hl h1
    obtain ⟨p, cp, rfl, -⟩ := H1.out
    clear H1
    go_enter Tryd.func26, Tryd.ntmps26
    go_wp2
    go_loopw [7, 8] (fun s i wr => PRel ls t w s i wr) (fun _ i _ => t.size - (intOf i).toNat)
    case atStart => exact ⟨0, 0, Nat.zero_le _, rfl, rfl, by omega, HP.out, Below.refl _ _⟩
    case round =>
      obtain ⟨k, S, hk, rfl, rfl, hS, hq, hbr⟩ := hrel
      have HQ := Lib.hid hq; have HS := Lib.hid hS
      clear hq hS
      have b2 : (0 : Int) ≤ (k : Int) := by omega
      by_cases h : k < t.size
      · have b3 : (k : Int) < (t.size : Int) := by omega
        by_cases hc : t[k] = 32
        · have q1 : ((t[k].toNat : Int) == 32) = true := by rw [hc]; rfl
          have HN : Hid (parseW ls (wordsAt (k + 1) (t.data.toList.drop (k + 1))) S = parseL ls t.data.toList) := by
            show _ = _; rw [← HQ.out, drop_at t k h, hc, wordsAt_blank]
          clear hc
          go_wp2
          go_roundw
          case rel => exact ⟨k + 1, S, by omega, by go_num, rfl, HS.out, HN.out, hbr⟩
          case measure => simp [intOf]; omega
        · have q1 : ((t[k].toNat : Int) == 32) = false := at_no (n := 32) hc
          obtain ⟨n, hn, hn1, hn2, hn3⟩ := word_end t k (by omega)
          obtain ⟨n0, hw1, hw2⟩ := word_step h hc hn
          rw [hw2] at HQ
          obtain ⟨X, hX⟩ : ∃ X, X = t.extract k (k + n) := ⟨_, rfl⟩
          have hxs : X.size ≤ 16777216 := by rw [hX]; simp; omega
          rw [← hX] at HQ
          have HX := Lib.hid hX; have HXS := Lib.hid hxs
          have HN2 := Lib.hid hn2; have HN3 := Lib.hid hn3
          clear hc hn hn2 hn3 hw1 hw2 hX hxs
          go_wp2
          go_loopw [9] (fun e9 wy => ∃ m : Nat, e9 = .int .i64 m ∧ k ≤ m ∧ m ≤ k + n ∧ wy = wr) (fun e9 _ => t.size - (intOf e9).toNat)
          case atStart => exact ⟨k, rfl, Nat.le_refl _, by omega, rfl⟩
          case round =>
            obtain ⟨m, rfl, hm1, hm2, rfl⟩ := hrel
            have m0 : (0 : Int) ≤ (m : Int) := by omega
            by_cases hmn : m < k + n
            · have m1 : (m : Int) < (t.size : Int) := by omega
              have q2 : (((t[m]'(by omega)).toNat : Int) != 32) = true := at_no' (n := 32) (HN2.out m (by omega) hm1 hmn)
              go_wp2
              go_roundw
              case rel => exact ⟨m + 1, by go_num, by omega, by omega, by first | rfl | trivial⟩
              case measure => simp [intOf]; omega
            · obtain rfl : m = k + n := by omega
              have m2 : (k : Int) + (n : Int) ≤ (t.size : Int) := by omega
              have m3 : (k : Int) ≤ (k : Int) + (n : Int) := by omega
              have m4 : ((k : Int) + (n : Int)).toNat = k + n := by omega
              by_cases hkn : k + n < t.size
              · have m1 : (k : Int) + (n : Int) < (t.size : Int) := by omega
                have q2 : (((t[k + n]'hkn).toNat : Int) != 32) = false := by rw [HN3.out hkn]; rfl
                go_wp2_with fail
                rw [← HX.out]
                refine (HW.out X HXS.out _ hbr).mono ?_
                rintro e w1 ⟨rfl, hb1⟩
                have hb2 : Below w.heap.size w w1 := hbr.trans (hb1.mono hbr.size)
                have hus := HU.out X.data.toList
                have hcs := wordL_cases ls X.data.toList
                have hno := @parseW_no ls k X.data.toList (wordsAt (k + n) (t.data.toList.drop (k + n))) S
                have hok := @parseW_ok ls k X.data.toList (wordsAt (k + n) (t.data.toList.drop (k + n))) S
                rw [HQ.out] at hno hok
                obtain ⟨⟨x, no⟩, hx⟩ : ∃ x, x = wordL ls X.data.toList := ⟨_, rfl⟩
                rw [← hx] at hus hcs hno hok ⊢
                clear hx hb1 HW HU HP
                simp only at hus hcs hno hok ⊢
                rcases hcs with ⟨rfl, h4⟩ | ⟨rfl, -⟩
                · have q3 : (no != 0) = true := by rw [bne_iff_ne]; omega
                  have HF := Lib.hid (hno (by omega))
                  clear hno hok h4
                  go_wp2
                  go_ret3
                  exact ⟨ret3 HF.out, hb2⟩
                · have HF := Lib.hid (hok rfl)
                  have HOR := Lib.hid (u64_or_nat S x HS.out hus)
                  have HLT := Lib.hid (or_u64 HS.out hus)
                  clear hno hok hus
                  go_wp2
                  go_roundw
                  case rel => exact ⟨k + n, S ||| x, by omega, by go_num, by rw [HOR.out], HLT.out, HF.out.symm, hb2⟩
                  case measure => simp [intOf]; omega
              · have m1 : ¬ (k : Int) + (n : Int) < (t.size : Int) := by omega
                go_wp2_with fail
                rw [← HX.out]
                refine (HW.out X HXS.out _ hbr).mono ?_
                rintro e w1 ⟨rfl, hb1⟩
                have hb2 : Below w.heap.size w w1 := hbr.trans (hb1.mono hbr.size)
                have hus := HU.out X.data.toList
                have hcs := wordL_cases ls X.data.toList
                have hno := @parseW_no ls k X.data.toList (wordsAt (k + n) (t.data.toList.drop (k + n))) S
                have hok := @parseW_ok ls k X.data.toList (wordsAt (k + n) (t.data.toList.drop (k + n))) S
                rw [HQ.out] at hno hok
                obtain ⟨⟨x, no⟩, hx⟩ : ∃ x, x = wordL ls X.data.toList := ⟨_, rfl⟩
                rw [← hx] at hus hcs hno hok ⊢
                clear hx hb1 HW HU HP
                simp only at hus hcs hno hok ⊢
                rcases hcs with ⟨rfl, h4⟩ | ⟨rfl, -⟩
                · have q3 : (no != 0) = true := by rw [bne_iff_ne]; omega
                  have HF := Lib.hid (hno (by omega))
                  clear hno hok h4
                  go_wp2
                  go_ret3
                  exact ⟨ret3 HF.out, hb2⟩
                · have HF := Lib.hid (hok rfl)
                  have HOR := Lib.hid (u64_or_nat S x HS.out hus)
                  have HLT := Lib.hid (or_u64 HS.out hus)
                  clear hno hok hus
                  go_wp2
                  go_roundw
                  case rel => exact ⟨k + n, S ||| x, by omega, by go_num, by rw [HOR.out], HLT.out, HF.out.symm, hb2⟩
                  case measure => simp [intOf]; omega
      · have HF : Hid (parseL ls t.data.toList = (S, 0, -1)) := by
          show _ = _; rw [← HQ.out, drop_end t k (by omega), wordsAt_nil, parseW]
        have b3 : ¬ (k : Int) < (t.size : Int) := by omega
        clear h
        go_wp2
        go_ret3
        exact ⟨ret3 HF.out, hbr⟩

end Sc
end Go.Proofs.YtgneebidmhiagaaDoor
