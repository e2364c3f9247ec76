/- (*scope.Book).All, Names, below: of any Book. -/
import Derived.Test.YtgneebidmhiagaaDoorScNew
namespace Go.Proofs.YtgneebidmhiagaaDoor
open Go.RowKit Go.Maps Go.ChangeMaps Go.Proofs.NmPlain Go.Proofs.Ar
set_option linter.unusedVariables false
namespace Sc

/-- A Book taken apart. -/
theorem BookAt.out {lo : Nat} {w : World} {B : Nat} {ls : List ByteArray} (h : BookAt lo w B ls) : ∃ q c bm, w.cell? ⟨B, 0, none⟩ = some (.slice q ls.length c) ∧ w.cell? ⟨B, 1, none⟩ = some (.map (some bm)) ∧
    TextArg w (.slice q ls.length c) ls ∧ w.ownsMap Tryd.prog 9 (plainElem Tryd.prog 3) bm ls.length (mapL ls ls.length) := by
  obtain ⟨v, bm, h1, h2, h3, h4, h5⟩ := h
  obtain ⟨q, c, rfl⟩ := own_shape h4
  exact ⟨q, c, bm, by rw [cell_of_row w _ 0 _ _ _ h1]; rfl, by rw [cell_of_row w _ 1 _ _ _ h1]; rfl, Tx.own_arg h4, h5⟩

theorem all_64 {ls : List ByteArray} (h : ls.length = 64) : ((allS ls : Nat) : Int) = 18446744073709551615 := by unfold allS; rw [h]; rfl
theorem all_lt {ls : List ByteArray} (h : ls.length < 64) : IntKind.u64.wrap (IntKind.u64.wrap ((2 : Int) ^ ls.length) - 1) = ((allS ls : Nat) : Int) := by
  have h1 := pow_u64 h
  have h2 : 0 < 2 ^ ls.length := Nat.pow_pos (by omega)
  have e : ((2 ^ ls.length : Nat) : Int) - 1 = ((2 ^ ls.length - 1 : Nat) : Int) := by omega
  rw [wrap_pow h, e, IntWalk.u64_in _ ⟨Int.natCast_nonneg _, Int.ofNat_le.2 (show 2 ^ ls.length - 1 ≤ 18446744073709551615 by omega)⟩]
  rfl

set_option maxHeartbeats 2000000 in
theorem all_any (lo B : Nat) (ls : List ByteArray) (hl : ls.length ≤ 64) (w : World) (hb : BookAt lo w B ls) :
    Calls Tryd.prog 17 #[.pointer (some ⟨B, 0, none⟩)] w fun e w' => e = .returned (.int .u64 (allS ls : Nat)) ∧ w = w' := by
  obtain ⟨q, c, bm, c0, c1, ht, hm⟩ := hb.out
  clear c1 ht hm hb
  by_cases h : ls.length = 64
  · have HA := Lib.hid (all_64 h)
    have e1 : ((ls.length : Int) == 64) = true := by rw [h]; rfl
    clear h
    go_enter Tryd.func17, Tryd.ntmps17
    go_wp2
    go_ret
    exact ⟨by rw [HA.out]; rfl, rfl⟩
  · have HA := Lib.hid (all_lt (ls := ls) (by omega))
    have e1 : ((ls.length : Int) == 64) = false := by rw [beq_eq_false_iff_ne]; omega
    have e2 : (0 : Int) ≤ (ls.length : Int) := by omega
    have e3 : (ls.length : Int) ≤ 63 := by omega
    clear h
    go_enter Tryd.func17, Tryd.ntmps17
    go_wp2
    go_ret
    exact ⟨by rw [← HA.out]; rfl, rfl⟩

theorem names_any (lo B : Nat) (ls : List ByteArray) (hl : ls.length ≤ 64) (w : World) (hb : BookAt lo w B ls) :
    Calls Tryd.prog 15 #[.pointer (some ⟨B, 0, none⟩)] w (Cloned ls w) := by
  obtain ⟨q, c, bm, c0, c1, ht, hm⟩ := hb.out
  have HC := Lib.hid (clone_out _ ls (by omega) w ht)
  clear c1 ht hm hb
  go_enter Tryd.func15, Tryd.ntmps15
  go_wp2_with fail
  refine HC.out.mono ?_
  rintro e w1 ⟨q2, c2, rfl, h1, h2⟩
  have H1 := Lib.hid h1
  clear h1
  go_wp2
  go_ret
  exact ⟨q2, c2, rfl, H1.out, h2⟩

set_option maxHeartbeats 4000000 in
theorem below_any (lo B : Nat) (ls : List ByteArray) (hl : ls.length ≤ 64) (hz : ∀ s ∈ ls, s.size ≤ 16777216) (t : ByteArray) (ht : t.size ≤ 16777216) (w : World) (hm : MaxAt w) (hb : BookAt lo w B ls) :
    Calls Tryd.prog 56 #[.pointer (some ⟨B, 0, none⟩), .string t] w fun e w' => e = .returned (.int .u64 (setBy (belAt ls t.data.toList) ls.length : Nat)) ∧ Below w.heap.size w w' := by
  obtain ⟨q, c, bm, c0, c1, h1, hmp⟩ := hb.out
  obtain ⟨p, c', e, h1⟩ := h1
  cases e
  have H1 := Lib.hid h1; have HM := Lib.hid hm
  have b0 : (ls.length : Int) ≤ 64 := by omega
  clear c1 hmp hb h1 hm
  obtain ⟨l, hlt⟩ : ∃ l, l = t.data.toList := ⟨_, rfl⟩
  rw [← hlt]
  have HL := Lib.hid hlt.symm
  clear hlt
  go_enter Tryd.func56, Tryd.ntmps56
  go_wp2
  go_loopw [5, 13] (fun s i wr => ∃ k : Nat, k ≤ ls.length ∧ i = .int .i64 k ∧ s = .int .u64 (setBy (belAt ls l) k : Nat) ∧ Below w.heap.size w wr) (fun _ i _ => ls.length - (intOf i).toNat)
  case atStart => exact ⟨0, Nat.zero_le _, rfl, rfl, Below.refl _ _⟩
  case round =>
    obtain ⟨k, hk, rfl, rfl, hbr⟩ := hrel
    by_cases h : k < ls.length
    · obtain ⟨g1, o1, rfl, hg1, k1⟩ := H1.out k h
      have k1' : wr.cell? ⟨g1, o1 + k, none⟩ = some (.string ls[k]) := (hbr.cell (p := ⟨g1, o1 + k, none⟩) hg1).trans k1
      have b5 : (0 : Int) ≤ (k : Int) := by omega
      have b6 : (k : Int) < (ls.length : Int) := by omega
      have b7 : (k : Int) ≤ 63 := by omega
      have hea := belAt_at (l := l) h
      have hxs : ls[k].size ≤ 16777216 := hz _ (List.getElem_mem h)
      obtain ⟨x, hx⟩ : ∃ x, x = ls[k] := ⟨_, rfl⟩
      rw [← hx] at hea k1' hxs
      clear k1 hx
      by_cases he : x.data.toList = l
      · have HO := Lib.hid (set_no (p := belAt ls l) (k := k) (by rw [hea]; simp [he]))
        have q1 := bytes_yes HL.out he
        clear hea he
        go_wp2
        go_roundw
        case rel => exact ⟨k + 1, by omega, by go_num, by rw [HO.out], hbr⟩
        case measure => simp [intOf]; omega
      · have q1 := bytes_ne HL.out he
        have HR := Lib.hid (under_any x t (by omega) (by omega) wr (HM.out.below hbr))
        rw [HL.out] at HR
        cases hun : underB x.data.toList l with
        | true =>
          have HO := Lib.hid (or_set (p := belAt ls l) (k := k) (by omega) (by rw [hea]; simp [he, hun]))
          rw [hun] at HR
          clear hea he hun
          go_wp2_with fail
          refine HR.out.mono ?_
          rintro e w3 ⟨rfl, hb3⟩
          go_wp2
          go_roundw
          case rel => exact ⟨k + 1, by omega, by go_num, by rw [HO.out], hbr.trans (hb3.mono hbr.size)⟩
          case measure => simp [intOf]; omega
        | false =>
          have HO := Lib.hid (set_no (p := belAt ls l) (k := k) (by rw [hea]; simp [he, hun]))
          rw [hun] at HR
          clear hea he hun
          go_wp2_with fail
          refine HR.out.mono ?_
          rintro e w3 ⟨rfl, hb3⟩
          go_wp2
          go_roundw
          case rel => exact ⟨k + 1, by omega, by go_num, by rw [HO.out], hbr.trans (hb3.mono hbr.size)⟩
          case measure => simp [intOf]; omega
    · obtain rfl : k = ls.length := by omega
      go_wp2
      go_ret
      exact ⟨rfl, hbr⟩

end Sc
end Go.Proofs.YtgneebidmhiagaaDoor
