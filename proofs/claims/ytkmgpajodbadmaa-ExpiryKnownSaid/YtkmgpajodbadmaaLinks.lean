/- lineageref0.SameLinks of any two lists of links, wherever they lie. -/
import Derived.Test.YtkmgpajodbadmaaProg
import Derived.Test.YtkmgpajodbadmaaUtil
import Derived.Test.YtkmgpajodbadmaaArgPairs
import Derived.BigQuiet
import Derived.Deep.QuietTactic
import Derived.Outline
import Derived.WalkLawsBesides
import Derived.WalkSpells
namespace Go.Proofs.Ytkmgpajodbadmaa
open Go.RowKit
set_option linter.unusedVariables false
namespace Lk
open Go.Proofs.Ar (PairArg)

def SameRel (ps qs : List (Int × Int)) (w : World) (i : Value) (wr : World) : Prop :=
  ∃ k : Nat, k ≤ ps.length ∧ i = .int .i64 k ∧ ps.take k = qs.take k ∧ Below w.heap.size w wr

set_option maxHeartbeats 1000000 in
theorem same_any (v u : Value) (ps qs : List (Int × Int)) (hp : (ps.length : Int) ≤ 9223372036854775807) (hq : (qs.length : Int) ≤ 9223372036854775807) (w : World) (h1 : PairArg w v ps) (h2 : PairArg w u qs) :
    Calls Try.prog 25 #[v, u] w fun e w' => e = .returned (.bool (decide (ps = qs))) ∧ Below w.heap.size w w' := by
  obtain ⟨p, cp, rfl, h1⟩ := h1
  obtain ⟨q, cq, rfl, h2⟩ := h2
  have H1 := Lib.hid h1; have H2 := Lib.hid h2
  clear h1 h2
  by_cases hl : ps.length = qs.length
  · have e1 : ((ps.length : Int) != (qs.length : Int)) = false := by rw [hl]; simp
    have HL := Lib.hid hl
    clear hl
    go_enter Try.func25, Try.ntmps25
    go_wp2
    go_loopw [5] (fun i wr => SameRel ps qs w i wr) (fun i _ => ps.length - (intOf i).toNat)
    case atStart => exact ⟨0, Nat.zero_le _, rfl, by simp, Below.refl _ _⟩
    case round =>
      obtain ⟨k, hk, rfl, heq, hbr⟩ := hrel
      have HE := Lib.hid heq; clear heq
      by_cases h : k < ps.length
      · have hlt : k < qs.length := by rw [← HL.out]; exact h
        obtain ⟨g1, o1, rfl, hg1, k1, k3⟩ := H1.out k h
        obtain ⟨g2, o2, rfl, hg2, k2, k4⟩ := H2.out k hlt
        have k1' : wr.cell? ⟨g1, o1 + k * 2, none⟩ = some (.int .i64 ps[k].1) := (hbr.cell (p := ⟨g1, o1 + k * 2, none⟩) hg1).trans k1
        have k2' : wr.cell? ⟨g2, o2 + k * 2, none⟩ = some (.int .i64 qs[k].1) := (hbr.cell (p := ⟨g2, o2 + k * 2, none⟩) hg2).trans k2
        have k3' : wr.cell? ⟨g1, o1 + k * 2 + 1, none⟩ = some (.int .i64 ps[k].2) := (hbr.cell (p := ⟨g1, o1 + k * 2 + 1, none⟩) hg1).trans k3
        have k4' : wr.cell? ⟨g2, o2 + k * 2 + 1, none⟩ = some (.int .i64 qs[k].2) := (hbr.cell (p := ⟨g2, o2 + k * 2 + 1, none⟩) hg2).trans k4
        have hyes : ps[k] = qs[k] → ps.take (k + 1) = qs.take (k + 1) := fun e => by
          rw [List.take_succ_eq_append_getElem h, List.take_succ_eq_append_getElem hlt, HE.out, e]
        have hno : ps[k] ≠ qs[k] → decide (ps = qs) = false := fun e => by
          rw [decide_eq_false_iff_not]; intro e2; apply e
          have : ps[k]? = qs[k]? := by rw [e2]
          rw [List.getElem?_eq_getElem h, List.getElem?_eq_getElem hlt] at this
          exact Option.some.inj this
        obtain ⟨p, hpk⟩ : ∃ p, p = ps[k] := ⟨_, rfl⟩
        obtain ⟨q, hqk⟩ : ∃ q, q = qs[k] := ⟨_, rfl⟩
        clear k1 k2 k3 k4 H1 H2
        rw [← hpk] at k1' k3' hyes hno; rw [← hqk] at k2' k4' hyes hno
        have HY := Lib.hid hyes; have HN := Lib.hid hno
        clear hyes hno hpk hqk
        have b1 : (0 : Int) ≤ (k : Int) := by omega
        have b2 : (k : Int) < (ps.length : Int) := by omega
        have b3 : (k : Int) < (qs.length : Int) := by omega
        by_cases hz : p = q
        · have HT : Hid (ps.take (k + 1) = qs.take (k + 1)) := HY.out hz
          subst hz
          have hn : (p.1 == p.1) = true := by simp
          have hn2 : (p.2 == p.2) = true := by simp
          go_wp2
          go_quiet (fail)
          go_wp2
          go_roundw
          case rel => exact ⟨k + 1, by omega, by go_num, HT, Ut.below_drewN hbr _⟩
          case measure => simp [intOf]; omega
        · have HZ := Lib.hid hz
          by_cases h1 : p.1 = q.1
          · have h2 : p.2 ≠ q.2 := fun h2 => hz (Prod.ext h1 h2)
            have hn : (p.1 == q.1) = true := by simp [h1]
            have hn2 : (p.2 == q.2) = false := by simp [h2]
            clear hz h1 h2
            go_wp2
            go_quiet (fail)
            go_wp2
            go_ret
            exact ⟨Ut.ret_bool (by rw [HN.out HZ.out]), Ut.below_drewN hbr _⟩
          · have hn : (p.1 == q.1) = false := by simp [h1]
            clear hz h1
            go_wp2
            go_quiet (fail)
            go_wp2
            go_ret
            exact ⟨Ut.ret_bool (by rw [HN.out HZ.out]), Ut.below_drewN hbr _⟩
      · obtain rfl : k = ps.length := by omega
        have HG : Hid (decide (ps = qs) = true) := by
          show _ = _
          have e := HE.out
          rw [List.take_length, HL.out, List.take_length] at e
          rw [decide_eq_true_eq]; exact e
        clear HE HL
        go_wp2
        go_ret
        exact ⟨Ut.ret_bool HG.out.symm, hbr⟩
  · have e1 : ((ps.length : Int) != (qs.length : Int)) = true := by rw [bne_iff_ne]; omega
    have HG : Hid (decide (ps = qs) = false) := by
      show _ = _; rw [decide_eq_false_iff_not]; intro e; exact hl (by rw [e])
    clear hl
    go_enter Try.func25, Try.ntmps25
    go_wp2
    go_ret
    exact ⟨Ut.ret_bool HG.out.symm, Below.refl _ _⟩

end Lk
end Go.Proofs.Ytkmgpajodbadmaa
