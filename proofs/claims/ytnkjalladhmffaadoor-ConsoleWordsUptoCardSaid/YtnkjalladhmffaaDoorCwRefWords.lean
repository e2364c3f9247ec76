/- The reference's Words, of any line. -/
import Derived.Test.YtnkjalladhmffaaDoorCwRef
import Derived.Test.YtnkjalladhmffaaDoorCwWords
namespace Go.Proofs.YtnkjalladhmffaaDoor
open Go.RowKit Go.Proofs.CwPlain
set_option linter.unusedVariables false
namespace Cw

/-- What the reference's Words hands back. -/
def RWPost (s : ByteArray) (w : World) (e : Ending) (w' : World) : Prop :=
  match wordsOf s.data.toList with
  | none => e = .returned (.tuple #[.slice none 0 0, .int .i64 6])
  | some ws => ∃ v, e = .returned (.tuple #[v, .int .i64 0]) ∧ w'.ownsRow w.heap.size 9 1 v ws.length (ws.map sv) ∧ ws.length ≤ s.size

theorem RWPost.no {s : ByteArray} {w w' : World} (h : wordsOf s.data.toList = none) : RWPost s w (.returned (.tuple #[.slice none 0 0, .int .i64 6])) w' := by
  unfold RWPost; rw [h]
theorem RWPost.yes {s : ByteArray} {w w' : World} {v : Value} {ws : List Bs} (h : wordsOf s.data.toList = some ws) (ho : w'.ownsRow w.heap.size 9 1 v ws.length (ws.map sv)) (hl : ws.length ≤ s.size) : RWPost s w (.returned (.tuple #[v, .int .i64 0])) w' := by
  unfold RWPost; rw [h]; exact ⟨v, rfl, ho, hl⟩

set_option maxHeartbeats 4000000 in
set_option maxRecDepth 100000 in
theorem rwords_any (s : ByteArray) (hs : s.size ≤ 1099511627776) (w : World) :
    Calls Tryd.prog 4 #[.string s] w fun e w' => RWPost s w e w' ∧ Below w.heap.size w w' := by
  obtain ⟨i0, hi, hz0, hz1, hz2⟩ := info_parts info_str
  have s1 : (s.size : Int) ≤ 1099511627776 := by omega
  go_enter Tryd.func4, Tryd.ntmps4
  go_wp2
  go_loopw [4, 5] (fun l i wr => WRel s w l i wr) (fun _ i _ => s.size - (intOf i).toNat)
  case atStart => exact ⟨0, [], Nat.zero_le _, rfl, World.ownsRow_nil _ _ _ _, Nat.le_refl _, by unfold wordsOf; simp, Below.refl _ _⟩
  case round =>
    obtain ⟨k, acc, k2, rfl, hown, hal, hq, hbl⟩ := hrel
    have HO := Lib.hid hown; have HQ := Lib.hid hq; have HB := Lib.hid hbl
    have hz : w.heap.size ≤ wr.heap.size := hbl.size
    clear hown hq hbl
    have b0 : (0 : Int) ≤ (k : Int) := by omega
    have am1 : acc.length + 1 ≤ maxLen := by unfold maxLen; omega
    have am2 : (acc.length + 1) * 16 ≤ 140737488355328 := by omega
    by_cases hk : k < s.size
    · have b1 : (k : Int) < (s.size : Int) := by omega
      have hd := drop_at s k hk
      have hbk := Lib.hid (fun w' => rblank_any s[k] w')
      obtain ⟨q, hq⟩ : ∃ q, q = blB s[k] := ⟨_, rfl⟩
      rw [← hq] at hbk
      obtain ⟨f, hf⟩ : ∃ f, s.size - k = f + 1 := ⟨s.size - k - 1, by omega⟩
      have hf2 : s.size - (k + 1) = f := by omega
      cases q with
      | true =>
        have HN : Hid (wordsL (s.size - (k + 1) + 1) (s.data.toList.drop (k + 1)) acc = wordsOf s.data.toList) := by
          show _ = _
          rw [← HQ.out, hd, hf, w_blank _ _ _ _ hq.symm, hf2]
        clear hd hq hf hf2
        go_wp2_with fail
        refine (hbk.out _).mono ?_
        rintro e w' ⟨rfl, rfl⟩
        go_wp2
        go_roundw
        case rel => exact ⟨k + 1, acc, by omega, by go_num, HO.out, by omega, HN.out, HB.out⟩
        case measure => simp [intOf]; omega
      | false =>
        by_cases c1 : s[k] = 35
        · have q1 : ((s[k].toNat : Int) == 35) = true := by rw [c1]; rfl
          have HN : Hid (wordsOf s.data.toList = some acc) := by show _ = _; rw [← HQ.out, hd, c1, w_hash]
          clear hd hq hf hf2 c1
          go_wp2_with fail
          refine (hbk.out _).mono ?_
          rintro e w' ⟨rfl, rfl⟩
          go_wp2
          go_ret2
          exact ⟨RWPost.yes HN.out HO.out (by omega), HB.out⟩
        have q1 : ((s[k].toNat : Int) == 35) = false := at_no (n := 35) c1
        by_cases c2 : s[k] = 34
        · have q2 : ((s[k].toNat : Int) == 34) = true := by rw [c2]; rfl
          have hun := rquoted_any s hs k hk wr
          unfold RQPost at hun
          cases hqq : quotedL (s.data.toList.drop (k + 1)) [] with
          | none =>
            rw [hqq] at hun
            have HN : Hid (wordsOf s.data.toList = none) := by show _ = _; rw [← HQ.out, hd, c2, w_q0 _ _ _ hqq]
            have HU := Lib.hid hun
            clear hun hqq hd hq hf hf2 c2
            go_wp2_with fail
            refine (hbk.out _).mono ?_
            rintro e w' ⟨rfl, rfl⟩
            go_wp2_with fail
            refine HU.out.mono ?_
            rintro e w1 ⟨rfl, hb1⟩
            go_wp2
            go_ret2
            exact ⟨RWPost.no HN.out, HB.out.trans (hb1.mono HB.out.size)⟩
          | some xr =>
            obtain ⟨x, r⟩ := xr
            rw [hqq] at hun
            have HU := Lib.hid hun
            have hstep := fun (hr : ∀ d u, r = d :: u → blB d = true) => w_q1 (s.size - k) (s.data.toList.drop (k + 1)) x r acc hqq hr
            have hstop := fun (d : UInt8) (u : Bs) (hr : r = d :: u) (hbd : blB d = false) => w_q2 (s.size - k) (s.data.toList.drop (k + 1)) x u d acc (by rw [hqq, hr]) hbd
            rw [← c2, ← hd, HQ.out] at hstep hstop
            have HST := Lib.hid hstep; have HSO := Lib.hid hstop
            clear hun hqq hd hq hf hf2 c2 hstep hstop
            go_wp2_with fail
            refine (hbk.out _).mono ?_
            rintro e w' ⟨rfl, rfl⟩
            go_wp2_with fail
            refine HU.out.mono ?_
            rintro e w2 ⟨⟨n, rfl, hn1, hn2, hr⟩, hb1⟩
            have HR := Lib.hid hr
            have HB2 := Lib.hid (HB.out.trans (hb1.mono HB.out.size))
            have HO2 := Lib.hid (Ut.own_below HO.out hb1)
            have hzw : w.heap.size ≤ w2.heap.size := HB2.out.size
            clear hr hb1
            have b2 : (0 : Int) ≤ (n : Int) := by omega
            have b3 : (n : Int) ≤ (s.size : Int) := by omega
            by_cases hkn : n < s.size
            · have b4 : (n : Int) < (s.size : Int) := by omega
              have hbk2 := Lib.hid (fun w' => rblank_any (s[n]'hkn) w')
              obtain ⟨q3, hq3⟩ : ∃ q, q = blB (s[n]'hkn) := ⟨_, rfl⟩
              rw [← hq3] at hbk2
              have hdr : r = (s[n]'hkn) :: s.data.toList.drop (n + 1) := by rw [HR.out, drop_at s n hkn]
              cases q3 with
              | false =>
                have HN : Hid (wordsOf s.data.toList = none) := HSO.out _ _ hdr hq3.symm
                clear hdr hq3
                go_wp2_with fail
                refine (hbk2.out _).mono ?_
                rintro e w' ⟨rfl, rfl⟩
                go_wp2
                go_ret2
                exact ⟨RWPost.no HN.out, HB2.out⟩
              | true =>
                have HN : Hid (wordsL (s.size - n + 1) (s.data.toList.drop n) (acc ++ [x]) = wordsOf s.data.toList) := by
                  show _ = _
                  rw [HST.out (fun d u e => by rw [hdr] at e; rw [← (List.cons.inj e).1]; exact hq3.symm), HR.out]
                  exact words_fuel _ _ _ _ (by rw [drop_len]; omega) (by rw [drop_len]; omega)
                clear hdr hq3
                go_wp2_with fail
                refine (hbk2.out _).mono ?_
                rintro e w' ⟨rfl, rfl⟩
                go_wp2_with (at_builtin; refine wpList_append_own _ rfl _ _ 22 rfl w.heap.size 9 i0 (.string ByteArray.empty) 1 16 Tryd.underlying22 hi hz0 hz1 hz2 rfl (by decide) _ _ _ rfl (HO2.out.alloc _) ⟨w2.heap.size, 0, none⟩ 1 1 [Value.string ⟨x.toArray⟩] rfl rfl (cell_one_new _ _ _) (by intro u hu; simp at hu; subst hu; rfl) am1 am2 (by simp; exact Nat.le_succ_of_le hzw) ?_; intro v' w1 hown' hgrow _)
                have HU := Lib.hid (WRel.push (s := s) (k := k) (x := x) n HO2.out HB2.out hown' hgrow (by omega) (by omega) HN.out)
                clear hown' hgrow
                go_wp2
                go_roundw
                case rel => exact HU.out
                case measure => simp [intOf]; omega

            · have b4 : (s.size : Int) ≤ (n : Int) := by omega
              have HN : Hid (wordsL (s.size - n + 1) (s.data.toList.drop n) (acc ++ [x]) = wordsOf s.data.toList) := by
                show _ = _
                have hdr : s.data.toList.drop n = [] := drop_end s n (by omega)
                rw [HST.out (fun d u e => by rw [HR.out, hdr] at e; cases e), HR.out]
                exact words_fuel _ _ _ _ (by rw [drop_len]; omega) (by rw [drop_len]; omega)
              go_wp2_with (at_builtin; refine wpList_append_own _ rfl _ _ 22 rfl w.heap.size 9 i0 (.string ByteArray.empty) 1 16 Tryd.underlying22 hi hz0 hz1 hz2 rfl (by decide) _ _ _ rfl (HO2.out.alloc _) ⟨w2.heap.size, 0, none⟩ 1 1 [Value.string ⟨x.toArray⟩] rfl rfl (cell_one_new _ _ _) (by intro u hu; simp at hu; subst hu; rfl) am1 am2 (by simp; exact Nat.le_succ_of_le hzw) ?_; intro v' w1 hown' hgrow _)
              have HU := Lib.hid (WRel.push (s := s) (k := k) (x := x) n HO2.out HB2.out hown' hgrow (by omega) (by omega) HN.out)
              clear hown' hgrow
              go_wp2
              go_roundw
              case rel => exact HU.out
              case measure => simp [intOf]; omega

        have q2 : ((s[k].toNat : Int) == 34) = false := at_no (n := 34) c2
        have hw := w_word (s.size - k) s[k] (s.data.toList.drop (k + 1)) acc hq.symm c1 c2
        rw [← hd, HQ.out] at hw
        obtain ⟨n, hn, hn1, hn2, hn3⟩ := word_end s k (by omega)
        have hn0 : 0 < n := by
          rw [hn, hd, List.takeWhile_cons, if_pos (by rw [← hq]; rfl)]; simp
        have HW := Lib.hid hw
        have HNN := Lib.hid hn; have HN2 := Lib.hid hn2; have HN3 := Lib.hid hn3
        clear hd hq hf hf2 c1 c2 hw hn hn2 hn3
        go_wp2_with fail
        refine (hbk.out _).mono ?_
        rintro e w' ⟨rfl, rfl⟩
        go_wp2_with fail
        go_loopw [8] (fun e9 wy => ∃ m : Nat, e9 = .int .i64 m ∧ k ≤ m ∧ m ≤ k + n ∧ wy = wr) (fun e9 _ => s.size - (intOf e9).toNat)
        case atStart => exact ⟨k, rfl, Nat.le_refl _, by omega, rfl⟩
        case round =>
          obtain ⟨m, rfl, hm1, hm2, rfl⟩ := hrel
          have m0 : (0 : Int) ≤ (m : Int) := by omega
          by_cases hmn : m < k + n
          · have m1 : (m : Int) < (s.size : Int) := by omega
            have hbk2 := Lib.hid (fun w' => rblank_any (s[m]'(by omega)) w')
            rw [HN2.out m (by omega) hm1 hmn] at hbk2
            go_wp2_with fail
            refine (hbk2.out _).mono ?_
            rintro e w' ⟨rfl, rfl⟩
            go_wp2
            go_roundw
            case rel => exact ⟨m + 1, by go_num, by omega, by omega, by first | rfl | trivial⟩
            case measure => simp [intOf]; omega
          · obtain rfl : m = k + n := by omega
            have hword : (s.extract k (k + n)).data.toList = (s.data.toList.drop k).takeWhile fun d => !blB d := by
              rw [Lib.extract_data, Nat.add_sub_cancel_left, HNN.out, take_tw]
            have HV := Lib.hid (str_of_data hword)
            have HN : Hid (wordsL (s.size - (k + n) + 1) (s.data.toList.drop (k + n)) (acc ++ [(s.data.toList.drop k).takeWhile fun d => !blB d]) = wordsOf s.data.toList) := by
              show _ = _
              rw [HW.out, dw_drop, ← HNN.out, List.drop_drop]
              exact words_fuel _ _ _ _ (by rw [drop_len]; omega) (by rw [drop_len]; omega)
            clear hword
            have m2 : (k : Int) + (n : Int) ≤ (s.size : Int) := by omega
            have m3 : (k : Int) ≤ (k : Int) + (n : Int) := by omega
            by_cases hkn : k + n < s.size
            · have m1 : (k : Int) + (n : Int) < (s.size : Int) := by omega
              have hbk2 := Lib.hid (fun w' => rblank_any (s[k + n]'hkn) w')
              rw [HN3.out hkn] at hbk2
              go_wp2_with fail
              refine (hbk2.out _).mono ?_
              rintro e w' ⟨rfl, rfl⟩
              go_wp2_with (at_builtin; refine wpList_append_own _ rfl _ _ 22 rfl w.heap.size 9 i0 (.string ByteArray.empty) 1 16 Tryd.underlying22 hi hz0 hz1 hz2 rfl (by decide) _ _ _ rfl (HO.out.alloc _) ⟨wr.heap.size, 0, none⟩ 1 1 [.string (s.extract k (k + n))] rfl rfl (cell_one_new _ _ _) (by intro u hu; simp at hu; subst hu; rfl) am1 am2 (by simp; exact Nat.le_succ_of_le hz) ?_; intro v' w1 hown' hgrow _)
              have HU := Lib.hid (WRel.push (s := s) (k := k) (x := (s.data.toList.drop k).takeWhile fun d => !blB d) (k + n) HO.out HB.out (HV.out ▸ hown') hgrow (by omega) (by omega) HN.out)
              clear hown' hgrow
              go_wp2
              go_roundw
              case rel => exact HU.out
              case measure => simp [intOf]; omega

            · have m1 : (s.size : Int) ≤ (k : Int) + (n : Int) := by omega
              go_wp2_with (at_builtin; refine wpList_append_own _ rfl _ _ 22 rfl w.heap.size 9 i0 (.string ByteArray.empty) 1 16 Tryd.underlying22 hi hz0 hz1 hz2 rfl (by decide) _ _ _ rfl (HO.out.alloc _) ⟨wr.heap.size, 0, none⟩ 1 1 [.string (s.extract k (k + n))] rfl rfl (cell_one_new _ _ _) (by intro u hu; simp at hu; subst hu; rfl) am1 am2 (by simp; exact Nat.le_succ_of_le hz) ?_; intro v' w1 hown' hgrow _)
              have HU := Lib.hid (WRel.push (s := s) (k := k) (x := (s.data.toList.drop k).takeWhile fun d => !blB d) (k + n) HO.out HB.out (HV.out ▸ hown') hgrow (by omega) (by omega) HN.out)
              clear hown' hgrow
              go_wp2
              go_roundw
              case rel => exact HU.out
              case measure => simp [intOf]; omega

    · have b1 : ¬ (k : Int) < (s.size : Int) := by omega
      have HN : Hid (wordsOf s.data.toList = some acc) := by show _ = _; rw [← HQ.out, drop_end s k (by omega), w_nil]
      go_wp2
      go_ret2
      exact ⟨RWPost.yes HN.out HO.out (by omega), HB.out⟩

end Cw
end Go.Proofs.YtnkjalladhmffaaDoor
