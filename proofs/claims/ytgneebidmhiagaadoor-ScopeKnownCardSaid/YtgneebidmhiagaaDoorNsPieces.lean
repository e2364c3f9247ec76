/- (Without the names' comparison.) The reference's pieces of a text: a new list of texts, of the call's own. -/
import Derived.WalkKit
import Derived.WalkLawsBesides
import Derived.WalkSpells
import Derived.Lib.Hide
import Derived.BigQuiet
import Derived.Deep.QuietTactic
import Derived.Deep.RegionWith
import Derived.Test.YtgneebidmhiagaaDoorProg
import Derived.Test.YtgneebidmhiagaaDoorNmPlain
import Derived.Maps.AppendAt
namespace Go.Proofs.YtgneebidmhiagaaDoor
open Go.RowKit Go.Proofs.NmPlain
set_option linter.unusedVariables false

theorem nm_info : (Tryd.prog.info? 9).map (fun i => (i.zero, i.size, i.bytes)) = some (some (.string ByteArray.empty), 1, 16) := by kernel_rfl

/-- Behind an append of one element to a list of the call's own. -/
theorem below_app {B : Nat} {w wr w1 : World} {e size n : Nat} {v : Value} {xs : List Value} {o : Obj} (hnx : Below B w wr) (hB : B ≤ wr.heap.size) (hown : wr.ownsRow B e size v n xs) (hgrow : (wr.alloc o).grownBy w1 v.ownBlock) : Below B w w1 :=
  (hnx.alloc hB o).grown hgrow (by simp; omega) (fun j hj => (hown.lt j hj).1)

set_option maxHeartbeats 1000000 in
theorem pieces_any (s : ByteArray) (w : World) (hs : s.size ≤ 16777216) :
    Calls Tryd.prog 48 #[.string s] w fun e w' => ∃ (v : Value) (ps : List ByteArray), e = .returned v ∧ ps.map (·.data.toList) = split s.data.toList ∧ ps.length ≤ s.size + 1 ∧
      w'.ownsRow w.heap.size 9 1 v ps.length (ps.map Value.string) ∧ Below w.heap.size w w' := by
  obtain ⟨i0, hi, hz0, hz1, hz2⟩ := info_parts nm_info
  go_enter Tryd.func48, Tryd.ntmps48
  go_wp2
  go_loopw [3, 4, 5] (fun l f i wr => ∃ (k j : Nat) (done : List ByteArray), k ≤ s.size ∧ j ≤ k ∧ i = .int .i64 k ∧ f = .int .i64 j ∧ PInv s done j k ∧ wr.ownsRow w.heap.size 9 1 l done.length (done.map Value.string) ∧ Below w.heap.size w wr) (fun _ _ i _ => s.size - (intOf i).toNat)
  case atStart => exact ⟨0, 0, [], Nat.zero_le _, Nat.le_refl _, rfl, rfl, PInv.start s, World.ownsRow_nil _ _ _ _, Below.refl _ _⟩
  case round =>
    obtain ⟨k, j, done, hk, hj, rfl, rfl, hp, hown, hnx⟩ := hrel
    have hdl := hp.2.2
    have HP := Lib.hid hp
    clear hp
    by_cases h1 : k < s.size
    · have b1 : (0 : Int) ≤ (k : Int) := by omega
      have b2 : (k : Int) < (s.size : Int) := by omega
      by_cases hd : s[k] = 46
      · have hq : ((s[k].toNat : Int) == 46) = true := by rw [hd]; rfl
        have HD := Lib.hid hd
        clear hd
        go_wp2_with (at_builtin; refine wpList_append_own _ rfl _ _ 22 rfl w.heap.size 9 i0 (.string ByteArray.empty) 1 16 Tryd.underlying22 hi hz0 hz1 hz2 rfl (by decide) _ _ _ rfl (hown.alloc _) ⟨wr.heap.size, 0, none⟩ 1 1 [.string (s.extract j k)] rfl rfl ?c1 ?c2 ?c3 ?c4 ?c5 ?_)
        case c1 => exact cell_one_new _ _ _
        case c2 => intro u hu; simp at hu; subst hu; rfl
        case c3 => unfold maxLen; omega
        case c4 => omega
        case c5 => have := hnx.size; simp; omega
        intro v' w1 hown' hgrow _
        have hb1 := below_app hnx hnx.size hown hgrow
        clear hgrow
        go_wp2
        go_roundw
        case rel => exact ⟨k + 1, k + 1, done ++ [s.extract j k], by omega, by omega, by go_num, by go_num, HP.out.dot hj h1 HD.out, by simpa using hown', hb1⟩
        case measure => simp [intOf]; omega
      · have hq : ((s[k].toNat : Int) == 46) = false := by
          rw [beq_eq_false_iff_ne]; intro h; exact hd (UInt8.toNat_inj.1 (by have : (46 : UInt8).toNat = 46 := rfl; omega))
        have HD := Lib.hid hd
        clear hd
        go_wp2
        go_roundw
        case rel => exact ⟨k + 1, j, done, by omega, by omega, by go_num, rfl, HP.out.other hj h1 HD.out, hown, hnx⟩
        case measure => simp [intOf]; omega
    · obtain rfl : k = s.size := by omega
      go_wp2_with (at_builtin; refine wpList_append_own _ rfl _ _ 22 rfl w.heap.size 9 i0 (.string ByteArray.empty) 1 16 Tryd.underlying22 hi hz0 hz1 hz2 rfl (by decide) _ _ _ rfl (hown.alloc _) ⟨wr.heap.size, 0, none⟩ 1 1 [.string (s.extract j s.size)] rfl rfl ?d1 ?d2 ?d3 ?d4 ?d5 ?_)
      case d1 => exact cell_one_new _ _ _
      case d2 => intro u hu; simp at hu; subst hu; rfl
      case d3 => unfold maxLen; omega
      case d4 => omega
      case d5 => have := hnx.size; simp; omega
      intro v' w1 hown' hgrow _
      have hb1 := below_app hnx hnx.size hown hgrow
      clear hgrow
      go_wp2
      go_ret
      exact ⟨_, done ++ [s.extract j s.size], rfl, HP.out.last, by simp; omega, by simpa using hown', hb1⟩

end Go.Proofs.YtgneebidmhiagaaDoor
