/- What (*Heap).All hands back: its iterator's contract. -/
import Derived.RangeFuncBox
import Derived.RangeFuncLeaves
import Derived.Shelf.Abstract
import Derived.WalkKit
import Derived.OwnWalkIn
import Derived.TacticsInMore
import Derived.LoopNIn
import Derived.LoopIn
import Derived.Test.YtkmgpajodbadmaaHpPlain
import Derived.Test.YtkmgpajodbadmaaProg
namespace Go.Proofs.Ytkmgpajodbadmaa
open Go.RowKit Go.Shelf
set_option linter.unusedVariables false
namespace Hp

attribute [local go_sem] Oper.semAt_some

/-- A slice value holds these items, in a block below n₀; or it is nil and there are none. -/
def Items (n₀ : Nat) (W : World) (sv : Value) (zs : List It) : Prop :=
  (sv = .slice none 0 0 ∧ zs = []) ∨ ∃ b cap, sv = .slice (some ⟨b, 0, none⟩) zs.length cap ∧ b < n₀ ∧ ∀ j, j < zs.length → W.cell? ⟨b, j * 2, none⟩ = some (.int .i64 (g zs j).1) ∧ W.cell? ⟨b, j * 2 + 1, none⟩ = some (.int .i64 (g zs j).2)
theorem Items.below {n₀ : Nat} {A B : World} (h : Below n₀ A B) {sv : Value} {zs : List It} : Items n₀ A sv zs → Items n₀ B sv zs
  | .inl e => .inl e
  | .inr ⟨b, cap, e, hb, hc⟩ => .inr ⟨b, cap, e, hb, fun j hj => ⟨(h.cell (p := ⟨b, j * 2, none⟩) hb).trans (hc j hj).1, (h.cell (p := ⟨b, j * 2 + 1, none⟩) hb).trans (hc j hj).2⟩⟩

theorem take_g {zs : List It} {k : Nat} (h : k < zs.length) : zs.take (k + 1) = zs.take k ++ [g zs k] := by
  rw [List.take_succ_eq_append_getElem h, g_eq h]

set_option maxRecDepth 100000 in
set_option maxHeartbeats 2000000 in
theorem all2_in (F : Fence) (n : Nat) (hf : F.fn 32) (hro : F.round = none) (hn : 1 ≤ n) (l Bs n₀ b cap : Nat) (zs : List It) (hreach : (zs.length : Int) ≤ 1048576) (hb : b < n₀) (J Jx : List It → World → Prop)
    (hY : ∀ pre x W, J pre W → pre.length < zs.length → YieldAt F (n - 1) Try.prog l #[.int .i64 x.1, .int .i64 x.2] W fun e W' =>
      (e = .returned (.bool true) ∧ J (pre ++ [x]) W' ∧ Below n₀ W W') ∨ (e = .returned (.bool false) ∧ Jx (pre ++ [x]) W'))
    (W : World) (hn₀ : n₀ ≤ W.heap.size) (hJ : AbidesFrom W.heap.size J) (hBs : W.cell? ⟨Bs, 0, none⟩ = some (.slice (some ⟨b, 0, none⟩) zs.length cap)) (hc : ∀ j, j < zs.length → W.cell? ⟨b, j * 2, none⟩ = some (.int .i64 (g zs j).1) ∧ W.cell? ⟨b, j * 2 + 1, none⟩ = some (.int .i64 (g zs j).2)) (h0 : J [] W) :
    CallsIn F n Try.prog 32 #[.func (.yield l) #[] #[], .pointer (some ⟨Bs, 0, none⟩)] W fun e W' => (∃ v, e = .returned v) ∧ ((∃ ys, ys = zs ∧ J ys W') ∨ (∃ pre, pre <+: zs ∧ Jx pre W')) := by
  refine callsIn_of_wp Try.func32 rfl hf ?_ hro
  simp only [Try.ntmps32, List.size_toArray, List.length_cons, List.length_nil, Nat.reduceAdd, Nat.reduceSub, Array.replicate_succ, Array.replicate_zero, List.push_toArray, List.append_toArray, List.nil_append, List.cons_append]
  gi_wp2
  gi_loopw [7] (fun i wr => ∃ k : Nat, k ≤ zs.length ∧ i = .int .i64 k ∧ J (zs.take k) wr ∧ Below n₀ W wr) (fun i _ => zs.length - (intOf i).toNat)
  case atStart => exact ⟨0, Nat.zero_le _, rfl, h0, Below.refl _ _⟩
  case round =>
    obtain ⟨k, hk, rfl, hJs, hnx⟩ := hrel
    by_cases hlt : k < zs.length
    · have hc1 := (hnx.cell (p := ⟨b, k * 2, none⟩) hb).trans (hc k hlt).1
      have hc2 := (hnx.cell (p := ⟨b, k * 2 + 1, none⟩) hb).trans (hc k hlt).2
      have htk := take_g hlt
      obtain ⟨y, hy0⟩ : ∃ y, y = g zs k := ⟨_, rfl⟩
      rw [← hy0] at hc1 hc2 htk
      have hJ2 : J (zs.take k) (wr.alloc (.cells #[.int .i64 y.1, .int .i64 y.2] 66)) := hJ _ _ _ none hJs (World.grownBy_alloc _ _ _) (fun r e => by cases e)
      obtain ⟨fn, tmps, assign, body, hy, hR⟩ := hY _ y _ hJ2 (by rw [List.length_take]; omega)
      have HTK : Hid (zs.take (k + 1) = zs.take k ++ [y]) := htk
      have hbl : Below n₀ W (wr.alloc (.cells #[.int .i64 y.1, .int .i64 y.2] 66)) := hnx.alloc (Nat.le_trans hn₀ hnx.size) _
      clear htk hy0 hJs hJ2
      gi_wp2
      refine hR.mono ?_
      rintro e W3 (⟨rfl, hJ3, hk3⟩ | ⟨rfl, hJx3⟩)
      · gi_wp2
        go_roundw
        case rel => exact ⟨k + 1, by omega, by simp, by rw [HTK.out]; exact hJ3, hbl.trans hk3⟩
        case measure => simp [intOf]; omega
      · gi_wp2
        refine bodyPost_ret (results_none rfl _ _ _) rfl ?_
        exact ⟨⟨_, rfl⟩, .inr ⟨zs.take (k + 1), List.take_prefix _ _, by rw [HTK.out]; exact hJx3⟩⟩
    · have hkl : k = zs.length := by omega
      have hR : Hid (J zs wr) := by rw [hkl, List.take_length] at hJs; exact hJs
      subst hkl
      gi_wp2
      go_end0
      exact ⟨⟨_, rfl⟩, .inl ⟨_, rfl, hR.out⟩⟩

set_option maxRecDepth 100000 in
set_option maxHeartbeats 1000000 in
theorem all2_nil_in (F : Fence) (n : Nat) (hf : F.fn 32) (hro : F.round = none) (l Bs : Nat) (J : List It → World → Prop) (W : World) (hBs : W.cell? ⟨Bs, 0, none⟩ = some (.slice none 0 0)) (h0 : J [] W) :
    CallsIn F n Try.prog 32 #[.func (.yield l) #[] #[], .pointer (some ⟨Bs, 0, none⟩)] W fun e W' => (∃ v, e = .returned v) ∧ J [] W' := by
  refine callsIn_of_wp Try.func32 rfl hf ?_ hro
  simp only [Try.ntmps32, List.size_toArray, List.length_cons, List.length_nil, Nat.reduceAdd, Nat.reduceSub, Array.replicate_succ, Array.replicate_zero, List.push_toArray, List.append_toArray, List.nil_append, List.cons_append]
  gi_wp2
  gi_loopw [7] (fun i wr => i = .int .i64 0 ∧ J [] wr) (fun _ _ => 0)
  case atStart => exact ⟨rfl, h0⟩
  case round =>
    obtain ⟨rfl, hJs⟩ := hrel
    gi_wp2
    go_end0
    exact ⟨⟨_, rfl⟩, hJs⟩

/-- **The iterator**: all items in order, or a prefix. -/
theorem all2_stops (F : Fence) (n : Nat) (hf : F.fn 32) (hro : F.round = none) (hn : 1 ≤ n) (Bs n₀ : Nat) (sv : Value) (zs : List It) (hreach : (zs.length : Int) ≤ 1048576) (w : World) (hBs : Bs < w.heap.size) (hn₀ : n₀ ≤ w.heap.size)
    (hc : w.cell? ⟨Bs, 0, none⟩ = some sv) (hI : Items n₀ w sv zs) :
    SeqStopsK F n Try.prog 32 #[.pointer (some ⟨Bs, 0, none⟩)] (fun x : It => #[Value.int .i64 x.1, Value.int .i64 x.2]) (Below n₀) (fun ys => ys = zs) (fun pre => pre <+: zs) zs.length w := fun l J Jx W hW hJ _ hY h0 => by
  have hc' := (hW.cell (p := ⟨Bs, 0, none⟩) hBs).trans hc
  rcases hI.below (hW.mono hn₀) with ⟨rfl, rfl⟩ | ⟨b, cap, rfl, hb, hcs⟩
  · exact (all2_nil_in F n hf hro l Bs J W hc' h0).mono fun e W' ⟨he, hj⟩ => ⟨he, .inl ⟨_, rfl, hj⟩⟩
  · exact all2_in F n hf hro hn l Bs n₀ b cap zs hreach hb J Jx hY W (Nat.le_trans hn₀ hW.size) hJ hc' hcs h0

end Hp
end Go.Proofs.Ytkmgpajodbadmaa
