/- clock.number and the reference's number, of any text. -/
import Derived.Test.YtbgplehmjejikaaGreatDoorCkPlain
import Derived.Test.YtbgplehmjejikaaGreatDoorShelf
import Derived.Test.YtbgplehmjejikaaGreatDoorUtil
import Derived.Shelf.Strings.SlTrimAscii
import Derived.BigQuiet
import Derived.Deep.QuietTactic
import Derived.Outline
import Derived.Lib.Hide
import Derived.WalkLawsBesides
import Derived.WalkSpells
namespace Go.Proofs.YtbgplehmjejikaaGreatDoor
open Go.RowKit
set_option linter.unusedVariables false
namespace Ck

theorem contains_dig (c : UInt8) : [48, 49, 50, 51, 52, 53, 54, 55, 56, 57].contains c = dig c := by
  have h : ∀ n : Fin 256, ([48, 49, 50, 51, 52, 53, 54, 55, 56, 57] : List UInt8).contains (UInt8.ofNat n.val) = dig (UInt8.ofNat n.val) := by decide +kernel
  have := h ⟨c.toNat, c.toNat_lt⟩
  simpa using this

theorem cut_app {ds r : Bs} (hd : ds.all dig = true) (hr : ∀ c t, r = c :: t → dig c = false) : (ds ++ r).takeWhile dig = ds ∧ (ds ++ r).dropWhile dig = r := by
  induction ds with
  | nil =>
    cases r with
    | nil => exact ⟨rfl, rfl⟩
    | cons c t =>
      have := hr c t rfl
      constructor
      · rw [List.nil_append, List.takeWhile_cons, this]; rfl
      · rw [List.nil_append, List.dropWhile_cons, this]; rfl
  | cons c t ih =>
    simp only [List.all_cons, Bool.and_eq_true] at hd
    obtain ⟨h1, h2⟩ := ih hd.2
    constructor
    · rw [List.cons_append, List.takeWhile_cons, if_pos hd.1, h1]
    · rw [List.cons_append, List.dropWhile_cons, if_pos hd.1, h2]

theorem num_app {ds r : Bs} (hd : ds.all dig = true) (hr : ∀ c t, r = c :: t → dig c = false) : num (ds ++ r) = numOf ds r := by
  unfold num
  obtain ⟨h1, h2⟩ := cut_app hd hr
  rw [h1, h2]

theorem num_split {l : Bs} {v : Nat} {r : Bs} (h : num l = some (v, r)) : ∃ ds, l = ds ++ r ∧ ds.all dig = true ∧ 0 < ds.length ∧ v = sat (val 0 ds) ∧ ds.head? ≠ some 48 := by
  unfold num numOf at h
  obtain ⟨ds, hds⟩ : ∃ ds, ds = l.takeWhile dig := ⟨_, rfl⟩
  have hall : ds.all dig = true := by rw [hds]; exact List.all_takeWhile
  have happ : l = ds ++ l.dropWhile dig := by rw [hds, List.takeWhile_append_dropWhile]
  rw [← hds] at h
  cases ds with
  | nil => cases h
  | cons c t =>
    simp only [] at h
    split at h
    · cases h
    · rename_i hc
      simp only [Option.some.injEq, Prod.mk.injEq] at h
      obtain ⟨h1, h2⟩ := h
      exact ⟨c :: t, by rw [← h2]; exact happ, hall, by simp, h1.symm, by simpa using hc⟩

theorem all_snoc {ds : Bs} {c : UInt8} (h : ds.all dig = true) (hc : dig c = true) : (ds ++ [c]).all dig = true := by simp [List.all_append, h, hc]
theorem val_snoc (ds : Bs) (c : UInt8) : val 0 (ds ++ [c]) = 10 * val 0 ds + (c.toNat - 48) := by rw [val_app, val_cons, val_nil]; rfl

/-- What the reference's number has behind some digits. -/
def RNum (s : ByteArray) (at_ : Nat) (n i : Value) : Prop :=
  ∃ (k : Nat) (ds : Bs), k = at_ + ds.length ∧ k ≤ s.size ∧ i = .int .i64 k ∧ ds.all dig = true ∧ s.data.toList.drop at_ = ds ++ s.data.toList.drop k ∧ n = .int .i64 (sat (val 0 ds) : Nat)

theorem drop_at (s : ByteArray) (k : Nat) (h : k < s.size) : s.data.toList.drop k = s[k] :: s.data.toList.drop (k + 1) := by
  rw [List.drop_eq_getElem_cons (by simpa using h)]; rfl
theorem drop_end (s : ByteArray) (k : Nat) (h : s.size ≤ k) : s.data.toList.drop k = [] := List.drop_eq_nil_of_le (by simpa using h)
theorem drop_len (s : ByteArray) (k : Nat) : (s.data.toList.drop k).length = s.size - k := by rw [List.length_drop]; simp

/-- What the reference's number hands back. -/
def RPost (s : ByteArray) (at_ : Nat) (e : Ending) : Prop :=
  match num (s.data.toList.drop at_) with
  | none => ∃ a b : Int, e = .returned (.tuple #[.int .i64 a, .int .i64 b, .bool false])
  | some (v, r) => e = .returned (.tuple #[.int .i64 v, .int .i64 (s.size - r.length : Nat), .bool true]) ∧ r = s.data.toList.drop (s.size - r.length) ∧ at_ < s.size - r.length

theorem RNum.step {s : ByteArray} {at_ k : Nat} {ds : Bs} (hk : k = at_ + ds.length) (h : k < s.size) (hd : ds.all dig = true) (hl : s.data.toList.drop at_ = ds ++ s.data.toList.drop k) (hc : dig s[k] = true) (n : Value)
    (hn : n = .int .i64 (sat (10 * sat (val 0 ds) + (s[k].toNat - 48)) : Nat)) : RNum s at_ n (.int .i64 (k + 1 : Nat)) := by
  refine ⟨k + 1, ds ++ [s[k]], by simp; omega, h, rfl, all_snoc hd hc, ?_, ?_⟩
  · rw [hl, drop_at s k h, List.append_assoc]; rfl
  · rw [hn, val_snoc, sat_step]

theorem RNum.post {s : ByteArray} {at_ k : Nat} {ds : Bs} (hk : k = at_ + ds.length) (hks : k ≤ s.size) (hd : ds.all dig = true) (hl : s.data.toList.drop at_ = ds ++ s.data.toList.drop k)
    (he : ∀ h : k < s.size, dig s[k] = false) : num (s.data.toList.drop at_) = numOf ds (s.data.toList.drop k) := by
  rw [hl, num_app hd]
  intro c t hct
  by_cases h : k < s.size
  · rw [drop_at s k h] at hct
    have := (List.cons.inj hct).1
    rw [← this]; exact he h
  · rw [drop_end s k (by omega)] at hct; cases hct

theorem RPost.no {s : ByteArray} {at_ k : Nat} {n : Int} (hnum : num (s.data.toList.drop at_) = none) : RPost s at_ (.returned (.tuple #[.int .i64 n, .int .i64 k, .bool false])) := by
  unfold RPost; rw [hnum]; exact ⟨_, _, rfl⟩
theorem RPost.yes {s : ByteArray} {at_ k v : Nat} (hnum : num (s.data.toList.drop at_) = some (v, s.data.toList.drop k)) (hk : k ≤ s.size) (ha : at_ < k) : RPost s at_ (.returned (.tuple #[.int .i64 v, .int .i64 k, .bool true])) := by
  unfold RPost; rw [hnum]
  have e : s.size - (s.data.toList.drop k).length = k := by rw [drop_len]; omega
  simp only [e]
  exact ⟨trivial, trivial, ha⟩

theorem int_geq {a b : Int} (h : b ≤ a) : (decide (b ≤ a)) = true := decide_eq_true h

set_option maxHeartbeats 2000000 in
theorem refnumber_any (s : ByteArray) (hs : s.size ≤ 9223372036854775806) (at_ : Nat) (ha : at_ ≤ s.size) (w : World) :
    Calls Tryz.prog 46 #[.string s, .int .i64 at_] w fun e w' => RPost s at_ e ∧ Below w.heap.size w w' := by
  have hsz : (s.size : Int) ≤ 9223372036854775806 := by omega
  have h0 : (0 : Int) ≤ (at_ : Int) := by omega
  have h1 : (at_ : Int) ≤ (s.size : Int) := by omega
  go_enter Tryz.func46, Tryz.ntmps46
  go_wp2
  go_loop [7, 8] (fun n i => RNum s at_ n i) (fun _ i => s.size - (intOf i).toNat)
  case atStart => exact ⟨at_, [], rfl, ha, rfl, rfl, rfl, by rw [val_nil]; rfl⟩
  case round =>
    obtain ⟨k, ds, hk, hks, rfl, hd, hl, rfl⟩ := hrel
    have HK := Lib.hid hk; have HL := Lib.hid hl; have HD := Lib.hid hd
    clear hk hl hd
    have b0 : (0 : Int) ≤ (k : Int) := by omega
    have hle := sat_le (val 0 ds)
    obtain ⟨v, hv⟩ : ∃ v, v = sat (val 0 ds) := ⟨_, rfl⟩
    rw [← hv] at hle ⊢
    have HV := Lib.hid hv
    clear hv
    have b1 : (v : Int) ≤ 1099511627777 := by omega
    have b2 : (0 : Int) ≤ (v : Int) := by omega
    clear hle
    by_cases hgo : ∃ h : k < s.size, dig s[k] = true
    · obtain ⟨h, hdg⟩ := hgo
      have b3 : (k : Int) < (s.size : Int) := by omega
      have hcd : 48 ≤ s[k].toNat ∧ s[k].toNat ≤ 57 := of_decide_eq_true hdg
      have b4 : (48 : Int) ≤ (s[k].toNat : Int) := by omega
      have b5 : (s[k].toNat : Int) ≤ 57 := by omega
      have HS := fun n => RNum.step HK.out h HD.out HL.out hdg n
      rw [← HV.out] at HS
      have HS' := Lib.hid HS
      clear HS hdg hcd
      have hv2 : Hid (((sat (10 * v + (s[k].toNat - 48)) : Nat) : Int) = min (10 * (v : Int) + ((s[k].toNat : Int) - 48)) 1099511627777) := by show _ = _; unfold sat; omega
      go_wp2
      go_round
      case rel => exact HS'.out _ (by rw [hv2.out])
      case measure => simp [intOf]; omega
    · have hex : ∀ h : k < s.size, dig s[k] = false := fun h => by
        cases hq : dig s[k] with
        | false => rfl
        | true => exact absurd ⟨h, hq⟩ hgo
      have hnum := RNum.post HK.out hks HD.out HL.out hex
      have hkd := HK.out
      -- what the text says there
      have hways : (s.size ≤ k) ∨ (∃ h : k < s.size, (s[k].toNat : Int) < 48) ∨ (∃ h : k < s.size, (48 : Int) ≤ (s[k].toNat : Int) ∧ 57 < (s[k].toNat : Int)) := by
        by_cases h : k < s.size
        · have := of_decide_eq_false (hex h)
          by_cases h48 : s[k].toNat < 48
          · exact .inr (.inl ⟨h, by omega⟩)
          · exact .inr (.inr ⟨h, by omega, by omega⟩)
        · exact .inl (by omega)
      clear hex hgo
      have HN := Lib.hid hnum
      clear hnum hkd
      by_cases hds : ds = []
      · have hka : k = at_ := by rw [HK.out, hds]; rfl
        have hno : Hid (num (s.data.toList.drop at_) = none) := by show _ = _; rw [HN.out, hds]; rfl
        subst hka
        clear hds HL HD HV
        rcases hways with h | ⟨h, h48⟩ | ⟨h, h48, h57⟩
        · have b3 : (s.size : Int) ≤ (k : Int) := by omega
          go_wp2
          go_quiet (fail)
          go_wp2
          go_ret3
          exact ⟨RPost.no hno.out, Ut.below_drewN (Below.refl _ _) _⟩
        · have b3 : (k : Int) < (s.size : Int) := by omega
          go_wp2
          go_quiet (fail)
          go_wp2
          go_ret3
          exact ⟨RPost.no hno.out, Ut.below_drewN (Below.refl _ _) _⟩
        · have b3 : (k : Int) < (s.size : Int) := by omega
          go_wp2
          go_quiet (fail)
          go_wp2
          go_ret3
          exact ⟨RPost.no hno.out, Ut.below_drewN (Below.refl _ _) _⟩
      · obtain ⟨c, t, hct⟩ : ∃ c t, ds = c :: t := by cases ds with | nil => exact absurd rfl hds | cons c t => exact ⟨c, t, rfl⟩
        have hlt : at_ < k := by rw [HK.out, hct]; simp
        have hat : at_ < s.size := by omega
        have hc : c = s[at_] := by
          have := HL.out
          rw [drop_at s at_ hat, hct] at this
          exact ((List.cons.inj this).1).symm
        have b6 : (at_ : Int) < (k : Int) := by omega
        have b7 : (at_ : Int) < (s.size : Int) := by omega
        by_cases h48 : c = 48
        · have hno : Hid (num (s.data.toList.drop at_) = none) := by show _ = _; rw [HN.out, hct]; unfold numOf; simp only []; rw [if_pos h48]
          have b8 : ((s[at_].toNat : Int) != 48) = false := by rw [← hc, h48]; rfl
          clear hds HL HD HV hct hc h48
          rcases hways with h | ⟨h, h48⟩ | ⟨h, h48, h57⟩
          · have b3 : (s.size : Int) ≤ (k : Int) := by omega
            go_wp2
            go_quiet (fail)
            go_wp2
            go_ret3
            exact ⟨RPost.no hno.out, Ut.below_drewN (Below.refl _ _) _⟩
          · have b3 : (k : Int) < (s.size : Int) := by omega
            go_wp2
            go_quiet (fail)
            go_wp2
            go_ret3
            exact ⟨RPost.no hno.out, Ut.below_drewN (Below.refl _ _) _⟩
          · have b3 : (k : Int) < (s.size : Int) := by omega
            go_wp2
            go_quiet (fail)
            go_wp2
            go_ret3
            exact ⟨RPost.no hno.out, Ut.below_drewN (Below.refl _ _) _⟩
        · have hyes : Hid (num (s.data.toList.drop at_) = some (v, s.data.toList.drop k)) := by show _ = _; rw [HN.out, HV.out, hct]; unfold numOf; simp only []; rw [if_neg h48]
          have b8 : ((s[at_].toNat : Int) != 48) = true := by
            rw [bne_iff_ne]; intro e; apply h48; rw [hc]; exact UInt8.toNat_inj.1 (by have : (48 : UInt8).toNat = 48 := rfl; omega)
          clear hds HL HD HV hct hc h48
          rcases hways with h | ⟨h, h48⟩ | ⟨h, h48, h57⟩
          · have b3 : (s.size : Int) ≤ (k : Int) := by omega
            go_wp2
            go_quiet (fail)
            go_wp2
            go_ret3
            exact ⟨RPost.yes hyes.out hks hlt, Ut.below_drewN (Below.refl _ _) _⟩
          · have b3 : (k : Int) < (s.size : Int) := by omega
            go_wp2
            go_quiet (fail)
            go_wp2
            go_ret3
            exact ⟨RPost.yes hyes.out hks hlt, Ut.below_drewN (Below.refl _ _) _⟩
          · have b3 : (k : Int) < (s.size : Int) := by omega
            go_wp2
            go_quiet (fail)
            go_wp2
            go_ret3
            exact ⟨RPost.yes hyes.out hks hlt, Ut.below_drewN (Below.refl _ _) _⟩

end Ck
end Go.Proofs.YtbgplehmjejikaaGreatDoor
