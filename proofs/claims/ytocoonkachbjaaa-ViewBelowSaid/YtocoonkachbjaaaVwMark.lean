/- lineagekit.markSessions. -/
import Derived.Test.YtocoonkachbjaaaVwSame
import Derived.Test.YtocoonkachbjaaaMark
import Derived.Test.YtocoonkachbjaaaAgg
import Derived.Deep.MidRow
namespace Go.Proofs.Ytocoonkachbjaaa
open Go.RowKit
set_option linter.unusedVariables false
namespace Vw
/-- A mark with this text. -/
def mkT (t : ByteArray) : Sess := ⟨0, -97, 0, 0, 0, .empty, t, 0, 0, 0, 0, 0⟩
def mkS (i : Nat) : Sess := mkT (markB 90 i)

set_option maxHeartbeats 1000000 in
theorem markText_neg (i : Int) (h0 : -140737488355328 ≤ i) (h1 : i < 1099511627776) (w : World) :
    Calls Try.prog 33 #[.int .i64 90, .int .i64 i] w fun e w' => ∃ s, e = .returned (.string s) ∧ Below w.heap.size w w' := by
  have hcv := conv_five w 35 90 0 (i % 256) (i / 256 % 256)
  have hbl : Below w.heap.size w (w.alloc (.cells #[.int .u8 35, .int .u8 90, .int .u8 0, .int .u8 (i % 256), .int .u8 (i / 256 % 256)] 5)) := (Below.refl _ _).alloc (Nat.le_refl _) _
  go_enter Try.func33, Try.ntmps33
  go_wp2
  go_ret
  exact ⟨_, rfl, hbl⟩

set_option maxHeartbeats 1000000 in
theorem markS_of (i : Int) (F : ByteArray → Prop) (w : World) (hm : ∀ w1, Calls Try.prog 33 #[.int .i64 90, .int .i64 i] w1 fun e w' => ∃ s, e = .returned (.string s) ∧ F s ∧ Below w1.heap.size w1 w') :
    Calls Try.prog 26 #[.int .i64 90, .int .i64 i] w fun e w' => ∃ s, e = .returned (.agg (mkT s).cells.toArray) ∧ F s ∧ Below w.heap.size w w' := by
  have HM := Lib.hid hm
  clear hm
  go_enter Try.func26, Try.ntmps26
  go_wp2_with fail
  refine (HM.out _).mono ?_
  rintro e w1 ⟨s, rfl, hF, hb⟩
  have hz := (hb.block w.heap.size (by simp)).trans (Ut.alloc_at w _)
  obtain ⟨cs, hcs⟩ : ∃ cs, cs = (mkT s).cells := ⟨_, rfl⟩
  have HCS := Lib.hid hcs
  have HCL : Hid (cs.length = 12) := by show _ = _; rw [hcs]; rfl
  have HC1 : Hid (∀ v ∈ cs, v.oneCell' = true) := by
    intro v hv
    rw [hcs] at hv
    simp [Sess.cells] at hv
    rcases hv with rfl | rfl | rfl | rfl | rfl | rfl | rfl | rfl | rfl | rfl | rfl | rfl <;> rfl
  have HT := Lib.hid (Ag.there_row hz cs.toArray.size (by simp; rw [HCL.out]; decide))
  have he := Ag.setCells_row _ _ cs 0 _ _ hz
  rw [Ag.put_all (by rw [HCL.out]; rfl)] at he
  have HE := Lib.hid he
  have HB : Hid (Below w.heap.size w (w1.setCells w.heap.size 0 cs)) := Ag.below_setCells (Nat.le_refl _) _ _ _ (((Below.refl _ _).alloc (Nat.le_refl _) _).trans (hb.mono (by simp)))
  clear hz hb he hcs
  go_wp2_with (refine wpList_store_mid (by rfl) 40 (.tmp 4) (.tmp 10) (by rfl) w.heap.size 0 cs.toArray rfl (by rw [HCS.out]; rfl) HT.out (by rw [List.size_toArray, HCL.out]; kernel_rfl) (all_oneCell_toArray HC1.out) ?_)
  refine bodyPost_ret (results_cell_row rfl _ _ w.heap.size _ cs.toArray (0, 0) _ rfl HE.out Try.underlying40 rfl (by rw [List.size_toArray, HCL.out]; kernel_rfl)) rfl ?_
  exact ⟨s, by rw [HCS.out], hF, HB.out⟩
theorem markS_neg (i : Int) (h0 : -140737488355328 ≤ i) (h1 : i < 1099511627776) (w : World) :
    Calls Try.prog 26 #[.int .i64 90, .int .i64 i] w fun e w' => ∃ s, e = .returned (.agg (mkT s).cells.toArray) ∧ Below w.heap.size w w' :=
  (markS_of i (fun _ => True) w fun w1 => (markText_neg i h0 h1 w1).mono fun e w' ⟨s, h, hb⟩ => ⟨s, h, trivial, hb⟩).mono fun e w' ⟨s, h, _, hb⟩ => ⟨s, h, hb⟩
theorem markS_any (i : Nat) (hi : (i : Int) < 1099511627776) (w : World) :
    Calls Try.prog 26 #[.int .i64 90, .int .i64 i] w fun e w' => e = .returned (.agg (mkS i).cells.toArray) ∧ Below w.heap.size w w' :=
  (markS_of i (fun s => s = markB 90 i) w fun w1 => (markText_any 90 i (by decide) hi w1).mono fun e w' ⟨h, hb⟩ => ⟨_, h, rfl, hb⟩).mono fun e w' ⟨s, h, hs, hb⟩ => ⟨by rw [h, hs]; rfl, hb⟩
end Vw
end Go.Proofs.Ytocoonkachbjaaa
