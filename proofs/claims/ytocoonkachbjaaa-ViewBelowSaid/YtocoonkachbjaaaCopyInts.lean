/- lineageref0.CopyInts of any list of numbers, wherever it lies. -/
import Derived.Test.YtocoonkachbjaaaInts
import Derived.Maps.Own
namespace Go.Proofs.Ytocoonkachbjaaa
open Go.RowKit Go.Maps
set_option linter.unusedVariables false
namespace In
theorem cinfo_int : (Try.prog.info? 3).map (fun i => (i.zero, i.size, i.bytes)) = some (some (.int .i64 0), 1, 8) := by kernel_rfl
def CpRel (ps : List Int) (w : World) (d i : Value) (wr : World) : Prop :=
  ∃ k : Nat, k ≤ ps.length ∧ i = .int .i64 k ∧ wr.ownsRow w.heap.size 3 1 d k ((ps.take k).map (Value.int .i64)) ∧ Below w.heap.size w wr
theorem CpRel.push {ps : List Int} {w wr w1 : World} {d v' : Value} {k : Nat} {o : Obj} (hown : wr.ownsRow w.heap.size 3 1 d k ((ps.take k).map (Value.int .i64))) (hbl : Below w.heap.size w wr) (h : k < ps.length)
    (hown' : w1.ownsRow w.heap.size 3 1 v' (k + 1) ((ps.take k).map (Value.int .i64) ++ [Value.int .i64 ps[k]])) (hgrow : (wr.alloc o).grownBy w1 d.ownBlock) : CpRel ps w v' (.int .i64 ((k + 1 : Nat) : Int)) w1 :=
  ⟨k + 1, by omega, rfl, by rw [List.take_succ_eq_append_getElem h, List.map_append]; exact hown', Ut.below_app hbl hbl.size hown hgrow⟩

set_option maxHeartbeats 2000000 in
theorem rcopy_any (v : Value) (ps : List Int) (hl : ps.length ≤ 65536) (w : World) (h1 : IntArg w v ps) :
    Calls Try.prog 32 #[v] w fun e w' => (∃ d, e = .returned d ∧ w'.ownsRow w.heap.size 3 1 d ps.length (ps.map (Value.int .i64))) ∧ Below w.heap.size w w' := by
  obtain ⟨p, cap, rfl, h1⟩ := h1
  have H1 := Lib.hid h1
  clear h1
  obtain ⟨i0, hi, hz0, hz1, hz2⟩ := info_parts cinfo_int
  go_enter Try.func32, Try.ntmps32
  go_wp2
  go_loopw [3, 4] (fun d i wr => CpRel ps w d i wr) (fun _ i _ => ps.length - (intOf i).toNat)
  case atStart => exact ⟨0, Nat.zero_le _, rfl, World.ownsRow_nil _ _ _ _, Below.refl _ _⟩
  case round =>
    obtain ⟨k, hk, rfl, hown, hbr⟩ := hrel
    have HO := Lib.hid hown; have HB := Lib.hid hbr
    have hzw : w.heap.size ≤ wr.heap.size := hbr.size
    clear hown
    have b0 : (0 : Int) ≤ (k : Int) := by omega
    by_cases h : k < ps.length
    · have b1 : (k : Int) < (ps.length : Int) := by omega
      obtain ⟨g1, o1, rfl, hg1, k1⟩ := H1.out k h
      have k1' : wr.cell? ⟨g1, o1 + k, none⟩ = some (.int .i64 ps[k]) := (hbr.cell (p := ⟨g1, o1 + k, none⟩) hg1).trans k1
      have am1 : k + 1 ≤ maxLen := by unfold maxLen; omega
      have am2 : (k + 1) * 8 ≤ 140737488355328 := by omega
      have w1' : IntKind.i64.wrap ((k : Int) + 1) = ((k + 1 : Nat) : Int) := by rw [IntWalk.i64_in _ (by omega)]; rfl
      have HP := Lib.hid (fun (v' : Value) (w1 : World) (d : Value) (o : Obj) (a1 : wr.ownsRow w.heap.size 3 1 d k ((ps.take k).map (Value.int .i64))) (a2 : Below w.heap.size w wr) => CpRel.push (ps := ps) (w := w) (wr := wr) (w1 := w1) (d := d) (v' := v') (k := k) (o := o) a1 a2 h)
      obtain ⟨X, hX⟩ : ∃ X, X = ps[k] := ⟨_, rfl⟩
      rw [← hX] at k1' HP
      clear k1 hX h
      go_wp2_with (at_builtin; refine wpList_append_own _ rfl _ _ 31 rfl w.heap.size 3 i0 (.int .i64 0) 1 8 Try.underlying31 hi hz0 hz1 hz2 rfl (by decide) _ _ _ rfl (HO.out.alloc _) ⟨wr.heap.size, 0, none⟩ 1 1 [Value.int .i64 X] rfl rfl (cell_one_new _ _ _) (by intro u hu; simp at hu; subst hu; rfl) am1 am2 (by simp; exact Nat.le_succ_of_le hzw) ?_; intro v' w3 hown' hgrow _)
      have HU := Lib.hid (HP.out _ _ _ _ HO.out HB.out hown' hgrow)
      clear hown' hgrow
      go_wp2
      go_roundw
      case rel => exact HU.out
      case measure => simp [intOf]; omega
    · have b1 : (ps.length : Int) ≤ (k : Int) := by omega
      have e : k = ps.length := by omega
      have h3 := HO.out
      rw [e, List.take_length] at h3
      have HO3 := Lib.hid h3
      clear h h3
      go_wp2
      go_ret
      exact ⟨⟨_, rfl, HO3.out⟩, HB.out⟩
end In
end Go.Proofs.Ytocoonkachbjaaa
