/- clock.number, of any text. -/
import Derived.Test.YtbgplehmjejikaaGreatDoorCkNum
namespace Go.Proofs.YtbgplehmjejikaaGreatDoor
open Go.RowKit
set_option linter.unusedVariables false
namespace Ck

/-- What strconv.ErrRange holds is an error. -/
def ErrAt (w : World) : Prop := ∃ te pe, w.cell? ⟨4, 0, none⟩ = some (.iface te pe)

theorem ErrAt.lt {w : World} (h : ErrAt w) : 4 < w.heap.size := by
  obtain ⟨te, pe, h⟩ := h
  rcases Nat.lt_or_ge 4 w.heap.size with h0 | h0
  · exact h0
  · simp [World.cell?, Array.getElem?_eq_none h0] at h

theorem ErrAt.below {w w' : World} (h : ErrAt w) (hb : Below w.heap.size w w') : ErrAt w' := by
  have hlt := h.lt
  obtain ⟨te, pe, h⟩ := h
  exact ⟨te, pe, (hb.cell (p := ⟨4, 0, none⟩) hlt).trans h⟩

/-- strings.TrimLeft at the digits. -/
theorem trim_any (s : ByteArray) (w : World) : Calls Tryz.prog 39 #[.string s, .string ⟨#[48, 49, 50, 51, 52, 53, 54, 55, 56, 57]⟩] w fun e w' => e = .returned (.string ⟨(s.data.toList.dropWhile dig).toArray⟩) ∧ Below w.heap.size w w' := by
  have h := Any.strings_TrimLeft_laid Tryz.lays161 (by kernel_rfl) s ⟨#[48, 49, 50, 51, 52, 53, 54, 55, 56, 57]⟩ w (by decide) (ascii_of_all (by decide))
  have e : Lib.trimLeftS s.data.toList [48, 49, 50, 51, 52, 53, 54, 55, 56, 57] = s.data.toList.dropWhile dig := by
    unfold Lib.trimLeftS; congr 1; funext c; exact contains_dig c
  have h' : Calls Tryz.prog 39 #[.string s, .string ⟨#[48, 49, 50, 51, 52, 53, 54, 55, 56, 57]⟩] w fun e w' => e = .returned (.string ⟨(Lib.trimLeftS s.data.toList [48, 49, 50, 51, 52, 53, 54, 55, 56, 57]).toArray⟩) ∧ Below w.heap.size w w' := h
  rw [e] at h'
  exact h'

/-- strconv.Atoi of digits: the number, or an error. -/
def AtoiPost (d : Bs) (e : Ending) : Prop :=
  e = .returned (.tuple #[.int .i64 (val 0 d : Nat), .nilIface]) ∨ (1099511627776 < val 0 d ∧ ∃ x t p, e = .returned (.tuple #[.int .i64 x, .iface t p]))

def big : Nat := 9223372036854775808
theorem big_gt : 1099511627776 < big := by decide +kernel

theorem atoi_any (s : ByteArray) (hs : s.size ≤ 281474976710656) (hne : s.data.toList ≠ []) (hd : s.data.toList.all dig = true) (w : World) (he : ErrAt w) :
    Calls Tryz.prog 40 #[.string s] w fun e w' => AtoiPost s.data.toList e ∧ Below w.heap.size w w' := by
  have ha : Lib.atoiAll s.data.toList = if val 0 s.data.toList < big then .ok ((val 0 s.data.toList : Nat) : Int) else .range := atoi_dig s.data.toList hne hd
  have hb := big_gt
  generalize hv : val 0 s.data.toList = v at ha
  generalize big = b at ha hb
  by_cases h : v < b
  · rw [if_pos h] at ha
    refine (Tryz.strconv_Atoi_ok s (by omega) _ ha w).mono ?_
    intro e w' hw
    obtain ⟨he, hw⟩ := hw
    refine ⟨.inl (by rw [he, hv]), ?_⟩
    rcases hw with hw | ⟨t, hw⟩
    · rw [hw]; exact Below.refl _ _
    · rw [hw]; exact Lib.bytesWorld_below w 5 t
  · rw [if_neg h] at ha
    obtain ⟨te, pe, hc⟩ := he
    refine (Tryz.strconv_Atoi_range s hs ha _ w hc (.inr ⟨te, pe, rfl⟩)).mono ?_
    intro e w' hw
    obtain ⟨N, he, _, _, hb⟩ := hw
    exact ⟨.inr ⟨by rw [hv]; omega, _, _, _, he⟩, hb⟩

/-- What clock.number hands back. -/
def CPost (s : ByteArray) (e : Ending) : Prop :=
  match num s.data.toList with
  | none => e = .returned (.tuple #[.int .i64 0, .string ByteArray.empty, .bool false])
  | some (v, r) => e = .returned (.tuple #[.int .i64 v, .string ⟨r.toArray⟩, .bool true])

set_option maxHeartbeats 2000000 in
theorem cnumber_any (s : ByteArray) (hs : s.size ≤ 281474976710656) (w : World) (he : ErrAt w) :
    Calls Tryz.prog 30 #[.string s] w fun e w' => CPost s e ∧ Below w.heap.size w w' := by
  have ht := trim_any s w
  obtain ⟨R, hR⟩ : ∃ R : ByteArray, R = ⟨(s.data.toList.dropWhile dig).toArray⟩ := ⟨_, rfl⟩
  rw [← hR] at ht
  have hRl : R.data.toList = s.data.toList.dropWhile dig := by rw [hR]
  have hsp : s.data.toList = s.data.toList.takeWhile dig ++ R.data.toList := by rw [hRl, List.takeWhile_append_dropWhile]
  have hsl : s.size = (s.data.toList.takeWhile dig).length + R.size := by
    have := congrArg List.length hsp
    rw [List.length_append] at this
    simpa using this
  obtain ⟨D, hD⟩ : ∃ D : ByteArray, D = s.extract 0 (s.size - R.size) := ⟨_, rfl⟩
  have hDl : D.data.toList = s.data.toList.takeWhile dig := by
    rw [hD, Lib.extract_data, List.drop_zero, Nat.sub_zero]
    have e : s.size - R.size = (s.data.toList.takeWhile dig).length := by omega
    rw [e]
    exact (List.prefix_iff_eq_take.1 (List.takeWhile_prefix dig)).symm
  have hDz : D.size = (s.data.toList.takeWhile dig).length := by rw [← hDl]; simp
  have hall : D.data.toList.all dig = true := by rw [hDl]; exact List.all_takeWhile
  have hnum : num s.data.toList = numOf D.data.toList R.data.toList := by unfold num; rw [hDl, hRl]
  have hDs : D.size ≤ 281474976710656 := by omega
  have HT := Lib.hid ht; have HN := Lib.hid hnum; have HA := Lib.hid hall; have HD := Lib.hid hD
  have b1 : (R.size : Int) ≤ (s.size : Int) := by omega
  have b2 : (s.size : Int) ≤ 281474976710656 := by omega
  have hlz : D.size = s.size - R.size := by omega
  clear ht hnum hall hR hRl hsp hsl hDl hDz hD
  by_cases hd0 : D.data.toList = []
  · have hno : Hid (num s.data.toList = none) := by show _ = _; rw [HN.out, hd0]; rfl
    have e1 : (s.extract 0 (s.size - R.size)).toList = [] := by rw [← HD.out, Lib.toList_data]; exact hd0
    have e2 : (s.extract 0 (s.size - R.size)).toList.isEmpty = true := by rw [e1]; rfl
    clear hd0
    go_enter Tryz.func30, Tryz.ntmps30
    go_wp2_with fail
    refine HT.out.mono ?_
    rintro e w1 ⟨rfl, hb⟩
    go_wp2
    go_ret3
    exact ⟨by unfold CPost; rw [hno.out]; rfl, hb⟩
  · obtain ⟨c, t, hct⟩ : ∃ c t, D.data.toList = c :: t := by cases h : D.data.toList with | nil => exact absurd h hd0 | cons c t => exact ⟨c, t, rfl⟩
    have hz : 0 < s.size - R.size := by
      have := congrArg List.length hct
      simp at this; omega
    have hzD : 0 < D.size := by omega
    have hc0 : D[0]'hzD = c := by
      show D.data.toList[0]'(by simpa using hzD) = c
      simp only [hct]; rfl
    have e1 : (s.extract 0 (s.size - R.size)).toList.isEmpty = false := by rw [← HD.out, Lib.toList_data, hct]; rfl
    have e2 : (!(s.extract 0 (s.size - R.size)).toList.isEmpty) = true := by rw [e1]; rfl
    by_cases h48 : c = 48
    · have hno : Hid (num s.data.toList = none) := by show _ = _; rw [HN.out, hct]; unfold numOf; simp only []; rw [if_pos h48]
      have q : (((D[0]'hzD).toNat : Int) == 48) = true := by rw [hc0, h48]; rfl
      have hD := HD.out
      clear hc0 hd0 hct h48 hlz HD
      subst hD
      go_enter Tryz.func30, Tryz.ntmps30
      go_wp2_with fail
      refine HT.out.mono ?_
      rintro e w1 ⟨rfl, hb⟩
      go_wp2
      go_ret3
      exact ⟨by unfold CPost; rw [hno.out]; rfl, hb⟩
    · have hyes : Hid (num s.data.toList = some (sat (val 0 D.data.toList), R.data.toList)) := by show _ = _; rw [HN.out, hct]; unfold numOf; simp only []; rw [if_neg h48]
      have q : (((D[0]'hzD).toNat : Int) == 48) = false := by
        rw [hc0, beq_eq_false_iff_ne]; intro e; apply h48; exact UInt8.toNat_inj.1 (by have : (48 : UInt8).toNat = 48 := rfl; omega)
      have HC := Lib.hid (atoi_any D hDs hd0 HA.out)
      have HE := Lib.hid he
      clear he
      have hD := HD.out
      clear hc0 hd0 hct h48 hlz HD
      subst hD
      go_enter Tryz.func30, Tryz.ntmps30
      go_wp2_with fail
      refine HT.out.mono ?_
      rintro e w1 ⟨rfl, hb⟩
      go_wp2_with fail
      refine (HC.out _ (HE.out.below hb)).mono ?_
      rintro e w2 ⟨hp, hb2⟩
      have hb3 := hb.trans (hb2.mono hb.size)
      rcases hp with he2 | ⟨hbig, x, t, p, he2⟩
      · obtain ⟨v, hv⟩ : ∃ v, v = val 0 (s.extract 0 (s.size - R.size)).data.toList := ⟨_, rfl⟩
        rw [← hv] at he2 hyes
        clear hv
        subst he2
        by_cases hm : (1099511627776 : Int) < (v : Int)
        · have hs : Hid (sat v = 1099511627777) := by show _ = _; unfold sat; omega
          go_wp2
          go_ret3
          exact ⟨by unfold CPost; rw [hyes.out, hs.out]; rfl, hb3⟩
        · have hs : Hid (sat v = v) := by show _ = _; unfold sat; omega
          go_wp2
          go_ret3
          exact ⟨by unfold CPost; rw [hyes.out, hs.out]; rfl, hb3⟩
      · have hs : Hid (sat (val 0 (s.extract 0 (s.size - R.size)).data.toList) = 1099511627777) := by show _ = _; unfold sat; omega
        clear hbig
        subst he2
        go_wp2
        go_ret3
        exact ⟨by unfold CPost; rw [hyes.out, hs.out]; rfl, hb3⟩

end Ck
end Go.Proofs.YtbgplehmjejikaaGreatDoor
