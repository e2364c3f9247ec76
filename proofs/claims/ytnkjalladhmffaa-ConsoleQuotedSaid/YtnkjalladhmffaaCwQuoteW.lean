/- lineagelaw31.hex, quote, wide. -/
import Derived.Test.YtnkjalladhmffaaCwQuote
import Derived.Test.YtnkjalladhmffaaTexts
import Derived.Test.YtnkjalladhmffaaPick
namespace Go.Proofs.Ytnkjalladhmffaa
open Go.RowKit Go.Proofs.CwPlain Go.Proofs.Ar
set_option linter.unusedVariables false
namespace Cw

theorem news_new (w : World) (l : List Value) (T : TypeId) : ∀ j u, l[j]? = some u → (w.alloc (.cells l.toArray T)).cell? ((⟨w.heap.size, 0, none⟩ : Addr).add j) = some u := by
  intro j u h
  rw [Ar.add_plain_]
  unfold World.cell?
  rw [Ut.alloc_at]
  simpa using h

theorem hx_is (n : UInt8) : ((hx n).toNat : Int) = if (n.toNat : Int) < 10 then 48 + (n.toNat : Int) else (97 + (n.toNat : Int) - 10) % 256 := by
  have h : ∀ k : Fin 256, ((hx (UInt8.ofNat k.val)).toNat : Int) = if ((UInt8.ofNat k.val).toNat : Int) < 10 then 48 + ((UInt8.ofNat k.val).toNat : Int) else (97 + ((UInt8.ofNat k.val).toNat : Int) - 10) % 256 := by decide +kernel
  have := h ⟨n.toNat, n.toNat_lt⟩
  simpa using this

theorem lhex_any (n : UInt8) (hn : n.toNat < 16) (x : Int) (hx0 : x = (n.toNat : Int)) (w : World) : Calls Try.prog 11 #[.int .u8 x] w fun e w' => e = .returned (.int .u8 ((hx n).toNat : Int)) ∧ w = w' := by
  have hv := hx_is n
  obtain ⟨r, hr⟩ : ∃ r : Int, r = ((hx n).toNat : Int) := ⟨_, rfl⟩
  rw [← hr] at hv ⊢
  rw [← hx0] at hv
  have b0 : (0 : Int) ≤ x := by omega
  have b1 : x ≤ 15 := by omega
  clear hr hx0
  by_cases h : x < 10
  · have HV : Hid (r = 48 + x) := by show _ = _; rw [hv, if_pos h]
    clear hv
    go_enter Try.func11, Try.ntmps11
    go_wp2
    go_ret
    exact ⟨Ut.ret_int HV.out.symm, rfl⟩
  · have HV : Hid (r = 97 + x - 10) := by show _ = _; rw [hv, if_neg h]; omega
    have h' : 10 ≤ x := by omega
    clear hv h
    go_enter Try.func11, Try.ntmps11
    go_wp2
    go_ret
    exact ⟨Ut.ret_int HV.out.symm, rfl⟩

/-- While a text is quoted. -/
def QRel (s : ByteArray) (w : World) (b i : Value) (wr : World) : Prop :=
  ∃ (k : Nat) (acc : Bs), k ≤ s.size ∧ i = .int .i64 k ∧ acc = 34 :: escL (s.data.toList.take k) ∧ wr.ownsRow w.heap.size 5 1 b acc.length (acc.map bv) ∧ acc.length ≤ 4 * k + 1 ∧ Below w.heap.size w wr

theorem QRel.push {s : ByteArray} {w wr w1 : World} {b v' : Value} {acc news : Bs} {o : Obj} {k : Nat} (hk : k < s.size) (hacc : acc = 34 :: escL (s.data.toList.take k)) (hown : wr.ownsRow w.heap.size 5 1 b acc.length (acc.map bv)) (hbl : Below w.heap.size w wr)
    (hown' : w1.ownsRow w.heap.size 5 1 v' (acc.length + news.length) (acc.map bv ++ news.map bv)) (hgrow : (wr.alloc o).grownBy w1 b.ownBlock) (hl : acc.length ≤ 4 * k + 1) (hn : escC s[k] = news) : QRel s w v' (.int .i64 ((k + 1 : Nat) : Int)) w1 := by
  refine ⟨k + 1, acc ++ news, hk, rfl, ?_, by rw [List.length_append, List.map_append]; exact hown', ?_, Ut.below_app hbl hbl.size hown hgrow⟩
  · rw [List.take_succ_eq_append_getElem (by simpa using hk)]
    unfold escL
    rw [List.flatMap_append, hacc]
    have : [s.data.toList[k]'(by simpa using hk)].flatMap escC = escC s[k] := by simp; rfl
    rw [this, hn]; rfl
  · have := escC_len s[k]
    rw [hn] at this
    rw [List.length_append]; omega

theorem own_one (w : World) : (w.alloc (.cells #[.int .u8 34] 5)).ownsRow w.heap.size 5 1 (.slice (some ⟨w.heap.size, 0, none⟩) 1 1) 1 [.int .u8 34] :=
  ⟨rfl, .inr ⟨w.heap.size, 1, _, rfl, Nat.le_refl _, Ut.alloc_at _ _, Nat.le_refl _, by unfold maxLen; omega, rfl, rfl⟩⟩

set_option maxHeartbeats 4000000 in
set_option maxRecDepth 100000 in
theorem quote_any (s : ByteArray) (hs : s.size ≤ 1048576) (w : World) :
    Calls Try.prog 8 #[.string s] w fun e w' => e = .returned (.string ⟨(34 :: (escL s.data.toList ++ [34])).toArray⟩) ∧ Below w.heap.size w w' := by
  obtain ⟨i0, hi, hz0, hz1, hz2⟩ := info_parts info_u8
  have s1 : (s.size : Int) ≤ 1048576 := by omega
  have ho1 := own_one w
  have hbl1 : Below w.heap.size w (w.alloc (.cells #[.int .u8 34] 5)) := (Below.refl _ _).alloc (Nat.le_refl _) _
  have HO1 := Lib.hid ho1
  clear ho1
  go_enter Try.func8, Try.ntmps8
  go_wp2
  go_loopw [3, 4] (fun b i wr => QRel s w b i wr) (fun _ i _ => s.size - (intOf i).toNat)
  case atStart => exact ⟨0, [34], Nat.zero_le _, rfl, by simp [escL], HO1.out, by simp, hbl1⟩
  case round =>
    obtain ⟨k, acc, k2, rfl, hacc, hown, hal, hbl⟩ := hrel
    clear hbl1
    have HO := Lib.hid hown; have HA := Lib.hid hacc; have HB := Lib.hid hbl
    have hz : w.heap.size ≤ wr.heap.size := hbl.size
    clear hown hacc hbl
    have b0 : (0 : Int) ≤ (k : Int) := by omega
    by_cases hk : k < s.size
    · have b1 : (k : Int) < (s.size : Int) := by omega
      have am1 : acc.length + 1 ≤ maxLen := by unfold maxLen; omega
      have am2 : (acc.length + 1) * 1 ≤ 140737488355328 := by omega
      have an1 : acc.length + 2 ≤ maxLen := by unfold maxLen; omega
      have an2 : (acc.length + 2) * 1 ≤ 140737488355328 := by omega
      have ao1 : acc.length + 4 ≤ maxLen := by unfold maxLen; omega
      have ao2 : (acc.length + 4) * 1 ≤ 140737488355328 := by omega
      by_cases c1 : s[k] = 34 ∨ s[k] = 92
      · have HE : Hid (escC s[k] = [92, s[k]]) := by show _ = _; unfold escC; rw [if_pos c1]
        rcases c1 with c1 | c1
        · have q1 : ((s[k].toNat : Int) == 34) = true := by rw [c1]; rfl
          clear c1
          go_wp2_with (at_builtin; refine wpList_append_own _ rfl _ _ 38 rfl w.heap.size 5 i0 (.int .u8 0) 1 1 Try.underlying38 hi hz0 hz1 hz2 rfl (by decide) _ _ _ rfl (HO.out.alloc _) ⟨wr.heap.size, 0, none⟩ 2 2 [bv 92, bv s[k]] rfl rfl (news_new _ [bv 92, bv s[k]] _) (by intro u hu; simp at hu; rcases hu with rfl | rfl <;> rfl) an1 an2 (by simp; exact Nat.le_succ_of_le hz) ?_; intro v' w1 hown' hgrow _)
          have HU := Lib.hid (QRel.push (s := s) (news := [92, s[k]]) hk HA.out HO.out HB.out hown' hgrow hal HE.out)
          clear hown' hgrow
          go_wp2
          go_roundw
          case rel => exact HU.out
          case measure => simp [intOf]; omega
        · have q1 : ((s[k].toNat : Int) == 34) = false := by rw [c1]; rfl
          have q2 : ((s[k].toNat : Int) == 92) = true := by rw [c1]; rfl
          clear c1
          go_wp2_with (at_builtin; refine wpList_append_own _ rfl _ _ 38 rfl w.heap.size 5 i0 (.int .u8 0) 1 1 Try.underlying38 hi hz0 hz1 hz2 rfl (by decide) _ _ _ rfl (HO.out.alloc _) ⟨wr.heap.size, 0, none⟩ 2 2 [bv 92, bv s[k]] rfl rfl (news_new _ [bv 92, bv s[k]] _) (by intro u hu; simp at hu; rcases hu with rfl | rfl <;> rfl) an1 an2 (by simp; exact Nat.le_succ_of_le hz) ?_; intro v' w1 hown' hgrow _)
          have HU := Lib.hid (QRel.push (s := s) (news := [92, s[k]]) hk HA.out HO.out HB.out hown' hgrow hal HE.out)
          clear hown' hgrow
          go_wp2
          go_roundw
          case rel => exact HU.out
          case measure => simp [intOf]; omega
      have q1 : ((s[k].toNat : Int) == 34) = false := at_no (n := 34) fun e => c1 (.inl e)
      have q2 : ((s[k].toNat : Int) == 92) = false := at_no (n := 92) fun e => c1 (.inr e)
      by_cases c2 : s[k] = 10
      · have HE : Hid (escC s[k] = [92, 110]) := by show _ = _; unfold escC; rw [if_neg c1, if_pos c2]
        have q3 : ((s[k].toNat : Int) == 10) = true := by rw [c2]; rfl
        clear c1 c2
        go_wp2_with (at_builtin; refine wpList_append_own _ rfl _ _ 38 rfl w.heap.size 5 i0 (.int .u8 0) 1 1 Try.underlying38 hi hz0 hz1 hz2 rfl (by decide) _ _ _ rfl (HO.out.alloc _) ⟨wr.heap.size, 0, none⟩ 2 2 [bv 92, bv 110] rfl rfl (news_new _ [bv 92, bv 110] _) (by intro u hu; simp at hu; rcases hu with rfl | rfl <;> rfl) an1 an2 (by simp; exact Nat.le_succ_of_le hz) ?_; intro v' w1 hown' hgrow _)
        have HU := Lib.hid (QRel.push (s := s) (news := [92, 110]) hk HA.out HO.out HB.out hown' hgrow hal HE.out)
        clear hown' hgrow
        go_wp2
        go_roundw
        case rel => exact HU.out
        case measure => simp [intOf]; omega
      have q3 : ((s[k].toNat : Int) == 10) = false := at_no (n := 10) c2
      have e32 : (32 : UInt8).toNat = 32 := rfl
      have e126 : (126 : UInt8).toNat = 126 := rfl
      by_cases c3 : s[k] < 32 ∨ 126 < s[k]
      · have HE : Hid (escC s[k] = [92, 120, hx (s[k] / 16), hx (s[k] % 16)]) := by show _ = _; unfold escC; rw [if_neg c1, if_neg c2, if_pos c3]
        have hd16 : (s[k] / 16).toNat = s[k].toNat / 16 := by rw [UInt8.toNat_div]; rfl
        have hm16 : (s[k] % 16).toNat = s[k].toNat % 16 := by rw [UInt8.toNat_mod]; rfl
        have hlt := s[k].toNat_lt
        have h1 := Lib.hid (fun (x : Int) (he : x = ((s[k] / 16).toNat : Int)) (w' : World) => lhex_any (s[k] / 16) (by omega) x he w')
        have h2 := Lib.hid (fun (x : Int) (he : x = ((s[k] % 16).toNat : Int)) (w' : World) => lhex_any (s[k] % 16) (by omega) x he w')
        have HD := Lib.hid hd16; have HM := Lib.hid hm16; have HL := Lib.hid hlt
        rw [UInt8.lt_iff_toNat_lt, UInt8.lt_iff_toNat_lt, e32, e126] at c3
        clear c1 c2 hd16 hm16 hlt e32 e126
        rcases c3 with c3 | c3
        · have q4 : (s[k].toNat : Int) < 32 := by omega
          clear c3
          go_wp2_with fail
          refine (h1.out _ (by have := HD.out; have := HL.out; omega) _).mono ?_
          rintro e w' ⟨rfl, rfl⟩
          go_wp2_with fail
          refine (h2.out _ (by have := HM.out; have := HL.out; omega) _).mono ?_
          rintro e w' ⟨rfl, rfl⟩
          go_wp2_with (at_builtin; refine wpList_append_own _ rfl _ _ 38 rfl w.heap.size 5 i0 (.int .u8 0) 1 1 Try.underlying38 hi hz0 hz1 hz2 rfl (by decide) _ _ _ rfl (HO.out.alloc _) ⟨wr.heap.size, 0, none⟩ 4 4 [bv 92, bv 120, bv (hx (s[k] / 16)), bv (hx (s[k] % 16))] rfl rfl (news_new _ [bv 92, bv 120, bv (hx (s[k] / 16)), bv (hx (s[k] % 16))] _) (by intro u hu; simp at hu; rcases hu with rfl | rfl | rfl | rfl <;> rfl) ao1 ao2 (by simp; exact Nat.le_succ_of_le hz) ?_; intro v' w1 hown' hgrow _)
          have HU := Lib.hid (QRel.push (s := s) (news := [92, 120, hx (s[k] / 16), hx (s[k] % 16)]) hk HA.out HO.out HB.out hown' hgrow hal HE.out)
          clear hown' hgrow
          go_wp2
          go_roundw
          case rel => exact HU.out
          case measure => simp [intOf]; omega
        · have q4 : (126 : Int) < (s[k].toNat : Int) := by omega
          have q5 : (32 : Int) ≤ (s[k].toNat : Int) := by omega
          clear c3
          go_wp2_with fail
          refine (h1.out _ (by have := HD.out; have := HL.out; omega) _).mono ?_
          rintro e w' ⟨rfl, rfl⟩
          go_wp2_with fail
          refine (h2.out _ (by have := HM.out; have := HL.out; omega) _).mono ?_
          rintro e w' ⟨rfl, rfl⟩
          go_wp2_with (at_builtin; refine wpList_append_own _ rfl _ _ 38 rfl w.heap.size 5 i0 (.int .u8 0) 1 1 Try.underlying38 hi hz0 hz1 hz2 rfl (by decide) _ _ _ rfl (HO.out.alloc _) ⟨wr.heap.size, 0, none⟩ 4 4 [bv 92, bv 120, bv (hx (s[k] / 16)), bv (hx (s[k] % 16))] rfl rfl (news_new _ [bv 92, bv 120, bv (hx (s[k] / 16)), bv (hx (s[k] % 16))] _) (by intro u hu; simp at hu; rcases hu with rfl | rfl | rfl | rfl <;> rfl) ao1 ao2 (by simp; exact Nat.le_succ_of_le hz) ?_; intro v' w1 hown' hgrow _)
          have HU := Lib.hid (QRel.push (s := s) (news := [92, 120, hx (s[k] / 16), hx (s[k] % 16)]) hk HA.out HO.out HB.out hown' hgrow hal HE.out)
          clear hown' hgrow
          go_wp2
          go_roundw
          case rel => exact HU.out
          case measure => simp [intOf]; omega
      · have HE : Hid (escC s[k] = [s[k]]) := by show _ = _; unfold escC; rw [if_neg c1, if_neg c2, if_neg c3]
        rw [UInt8.lt_iff_toNat_lt, UInt8.lt_iff_toNat_lt, e32, e126] at c3
        have q4 : (32 : Int) ≤ (s[k].toNat : Int) := by omega
        have q5 : (s[k].toNat : Int) ≤ 126 := by omega
        clear c1 c2 c3 e32 e126
        go_wp2_with (at_builtin; refine wpList_append_own _ rfl _ _ 38 rfl w.heap.size 5 i0 (.int .u8 0) 1 1 Try.underlying38 hi hz0 hz1 hz2 rfl (by decide) _ _ _ rfl (HO.out.alloc _) ⟨wr.heap.size, 0, none⟩ 1 1 [bv s[k]] rfl rfl (cell_one_new _ _ _) (by intro u hu; simp at hu; subst hu; rfl) am1 am2 (by simp; exact Nat.le_succ_of_le hz) ?_; intro v' w1 hown' hgrow _)
        have HU := Lib.hid (QRel.push (s := s) (news := [s[k]]) hk HA.out HO.out HB.out hown' hgrow hal HE.out)
        clear hown' hgrow
        go_wp2
        go_roundw
        case rel => exact HU.out
        case measure => simp [intOf]; omega
    · have b1 : ¬ (k : Int) < (s.size : Int) := by omega
      have am1 : acc.length + 1 ≤ maxLen := by unfold maxLen; omega
      have am2 : (acc.length + 1) * 1 ≤ 140737488355328 := by omega
      have hfin : acc ++ [34] = 34 :: (escL s.data.toList ++ [34]) := by
        rw [HA.out, List.take_of_length_le (by simp; omega)]; rfl
      have HF := Lib.hid hfin
      clear hfin
      go_wp2_with (at_builtin; refine wpList_append_own _ rfl _ _ 38 rfl w.heap.size 5 i0 (.int .u8 0) 1 1 Try.underlying38 hi hz0 hz1 hz2 rfl (by decide) _ _ _ rfl (HO.out.alloc _) ⟨wr.heap.size, 0, none⟩ 1 1 [bv 34] rfl rfl (cell_one_new _ _ _) (by intro u hu; simp at hu; subst hu; rfl) am1 am2 (by simp; exact Nat.le_succ_of_le hz) ?_; intro v' w1 hown' hgrow _)
      have hown2 : w1.ownsRow w.heap.size 5 1 v' (acc ++ [34]).length ((acc ++ [34]).map bv) := by rw [List.length_append, List.map_append]; exact hown'
      have hcv := conv_own hown2
      have HBL := Lib.hid (Ut.below_app HB.out hz HO.out hgrow)
      rw [HF.out] at hcv
      obtain ⟨S, hS⟩ : ∃ S : ByteArray, S = ⟨(34 :: (escL s.data.toList ++ [34])).toArray⟩ := ⟨_, rfl⟩
      rw [← hS] at hcv
      have HS := Lib.hid hS
      clear hown' hown2 hgrow hS
      rw [hcv]
      go_wp2
      go_ret
      exact ⟨by rw [HS.out]; rfl, HBL.out⟩

end Cw
end Go.Proofs.Ytnkjalladhmffaa
