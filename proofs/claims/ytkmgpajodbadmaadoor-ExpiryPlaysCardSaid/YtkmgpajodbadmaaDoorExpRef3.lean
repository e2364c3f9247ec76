/- The document's expiry, lineageref21: Due. -/
import Derived.Test.YtkmgpajodbadmaaDoorExpRef2
namespace Go.Proofs.YtkmgpajodbadmaaDoor
open Go.RowKit
set_option linter.unusedVariables false
namespace Ex

def RDueNo (w : World) (e : Ending) (w' : World) : Prop := e = .returned (.tuple #[.agg #[.int .i64 0, .int .i64 0], .bool false]) ∧ Below w.heap.size w w'
def RDueYes (lo r : Nat) (S : List Ent) (x : Ent) (w : World) (e : Ending) (w' : World) : Prop :=
  e = .returned (.tuple #[.agg #[.int .i64 x.1, .int .i64 x.2.1], .bool true]) ∧ ∃ v', RefE lo r (wo S x.1) v' w' ∧ Only (fun b => b = r) w w' ∧ ∀ b, v'.ownBlock = some b → w.heap.size ≤ b

set_option maxHeartbeats 2000000 in
theorem rdue_no (lo r : Nat) (S : List Ent) (v : Value) (w : World) (h : RefE lo r S v w) (now : Int) (hn : S = [] ∨ ∃ x t, S = x :: t ∧ now < x.2.2) :
    Calls Tryd.prog 68 #[.pointer (some ⟨r, 0, none⟩), .int .i64 now] w (RDueNo w) := by
  have hb : Below w.heap.size w (w.alloc (.cells #[.int .i64 0, .int .i64 0] 59)) := (Below.refl _ _).alloc (Nat.le_refl _) _
  have h2 := h.below hb
  have c1 := h2.c_l
  have r0 : (w.alloc (.cells #[.int .i64 0, .int .i64 0] 59)).heap[w.heap.size]? = some (.cells #[.int .i64 0, .int .i64 0] 59 (0, 0)) := Ut.alloc_at _ _
  have d0 : (w.alloc (.cells #[.int .i64 0, .int .i64 0] 59)).cell? ⟨w.heap.size, 0, none⟩ = some (.int .i64 0) := by rw [cell_of_row _ _ _ _ _ _ r0]; rfl
  have d1 : (w.alloc (.cells #[.int .i64 0, .int .i64 0] 59)).cell? ⟨w.heap.size, 1, none⟩ = some (.int .i64 0) := by rw [cell_of_row _ _ _ _ _ _ r0]; rfl
  have f0 : ∀ j, (w.alloc (.cells #[.int .i64 0, .int .i64 0] 59)).frozen? ⟨w.heap.size, j, none⟩ = false := fun j => by unfold World.frozen?; rw [r0]; rfl
  have HB := Lib.hid hb
  rcases hn with rfl | ⟨x, t, rfl, hx⟩
  · obtain ⟨q, c, rfl⟩ := own_shape h.row
    simp only [List.length_nil] at c1
    clear h h2 hb r0
    go_enter Tryd.func68, Tryd.ntmps68
    go_wp2
    refine bodyPost_ret (v := .tuple #[.agg #[.int .i64 0, .int .i64 0], .bool false]) (by simp [results, Tryd.results68, go_sem]) rfl ⟨rfl, ?_⟩
    exact HB.out
  · obtain ⟨gv, cap, rfl, k1, k2, k3⟩ := h2.item (k := 0) (by simp)
    simp only [List.getElem_cons_zero] at k1 k2 k3
    obtain ⟨n, hn⟩ : ∃ n, n = (x :: t).length := ⟨_, rfl⟩
    have hn0 : 0 < n := by rw [hn]; simp
    rw [← hn] at c1
    have e0 : ((n : Int) == 0) = false := by rw [beq_eq_false_iff_ne]; omega
    have b1 : (0 : Int) < (n : Int) := by omega
    clear h h2 hb r0 hn
    go_enter Tryd.func68, Tryd.ntmps68
    go_wp2
    refine bodyPost_ret (v := .tuple #[.agg #[.int .i64 0, .int .i64 0], .bool false]) (by simp [results, Tryd.results68, go_sem]) rfl ⟨rfl, ?_⟩
    exact HB.out

set_option maxHeartbeats 2000000 in
theorem rdue_yes (lo r : Nat) (x : Ent) (t : List Ent) (v : Value) (w : World) (h : RefE lo r (x :: t) v w) (hl : ((x :: t).length : Int) ≤ 65536) (hlo : lo ≤ w.heap.size) (now : Int) (hx : x.2.2 ≤ now) :
    Calls Tryd.prog 68 #[.pointer (some ⟨r, 0, none⟩), .int .i64 now] w (RDueYes lo r (x :: t) x w) := by
  obtain ⟨W1, hW1⟩ : ∃ W1, W1 = w.alloc (.cells #[.int .i64 0, .int .i64 0] 59) := ⟨_, rfl⟩
  have hb : Below w.heap.size w W1 := by rw [hW1]; exact (Below.refl _ _).alloc (Nat.le_refl _) _
  have h2 := h.below hb
  have c1 := h2.c_l
  obtain ⟨gv, cap, rfl, k1, k2, k3⟩ := h2.item (k := 0) (by simp)
  simp only [List.getElem_cons_zero] at k1 k2 k3
  obtain ⟨W2, hW2⟩ : ∃ W2, W2 = W1.alloc (.cells #[.int .i64 x.1, .int .i64 x.2.1] 59) := ⟨_, rfl⟩
  have hb2 : Below W1.heap.size W1 W2 := by rw [hW2]; exact (Below.refl _ _).alloc (Nat.le_refl _) _
  have hs1 : w.heap.size < W1.heap.size := by rw [hW1]; simp
  have hs2 : W1.heap.size < W2.heap.size := by rw [hW2]; simp
  have hbw : Below w.heap.size w W2 := hb.trans (hb2.mono hb.size)
  have r0 : W2.heap[w.heap.size]? = some (.cells #[.int .i64 0, .int .i64 0] 59 (0, 0)) := (hb2.block _ hs1).trans (by rw [hW1]; exact Ut.alloc_at _ _)
  have l0 : W2.heap[W1.heap.size]? = some (.cells #[.int .i64 x.1, .int .i64 x.2.1] 59 (0, 0)) := by rw [hW2]; exact Ut.alloc_at _ _
  have z0 : W2.cell? ⟨W1.heap.size, 0, none⟩ = some (.int .i64 x.1) := by rw [cell_of_row _ _ _ _ _ _ l0]; rfl
  have z1 : W2.cell? ⟨W1.heap.size, 1, none⟩ = some (.int .i64 x.2.1) := by rw [cell_of_row _ _ _ _ _ _ l0]; rfl
  have HWO := Lib.hid (wo_any lo r (x :: t) _ W2 (h2.below hb2) hl x.1 (Nat.le_trans hlo hbw.size))
  have hrl := h.lt
  have HRL := Lib.hid hrl; have HR0 := Lib.hid r0; have HL0 := Lib.hid l0; have HBW := Lib.hid hbw; have HS1 := Lib.hid hs1; have HS2 := Lib.hid hs2
  obtain ⟨n, hn⟩ : ∃ n, n = (x :: t).length := ⟨_, rfl⟩
  have hn0 : 0 < n := by rw [hn]; simp
  rw [← hn] at c1
  have e0 : ((n : Int) == 0) = false := by rw [beq_eq_false_iff_ne]; omega
  have b1 : (0 : Int) < (n : Int) := by omega
  have ew : W1.heap.size = w.heap.size + 1 := by rw [hW1]; simp
  have hW2' := hW2
  rw [hW1] at c1 k1 k2 k3 hW2'
  clear h h2 hb hb2 hs1 hs2 hbw r0 l0 hn hrl hl hlo
  go_enter Tryd.func68, Tryd.ntmps68
  go_upto_region 4 with (fail)
  rw [← hW1, ← hW2]
  rw [ew] at z0 z1
  have HW1 := Lib.hid hW1; have HW2 := Lib.hid hW2; have HEW := Lib.hid ew; have HZ0 := Lib.hid z0; have HZ1 := Lib.hid z1
  clear hW1 hW2 hW2' c1 k1 k2 k3 ew
  go_wp2_with fail
  refine HWO.out.mono ?_
  rintro e w3 ⟨rfl, v3, hr3, ho3, hn3⟩
  have hne0 : w.heap.size ≠ r := by have := HRL.out; omega
  have hne1 : w.heap.size + 1 ≠ r := by have := HRL.out; omega
  have hw1 : w.heap.size < W2.heap.size := Nat.lt_trans HS1.out HS2.out
  have hw2 : w.heap.size + 1 < W2.heap.size := by have := HEW.out; have := HS2.out; omega
  have q0 : w3.heap[w.heap.size]? = some (.cells #[.int .i64 0, .int .i64 0] 59 (0, 0)) := (ho3.block _ hw1 hne0).trans HR0.out
  have t0 : w3.cell? ⟨w.heap.size + 1, 0, none⟩ = some (.int .i64 x.1) := (ho3.cell (p := ⟨w.heap.size + 1, 0, none⟩) hw2 hne1).trans HZ0.out
  have t1 : w3.cell? ⟨w.heap.size + 1, 1, none⟩ = some (.int .i64 x.2.1) := (ho3.cell (p := ⟨w.heap.size + 1, 1, none⟩) hw2 hne1).trans HZ1.out
  have d0 : w3.cell? ⟨w.heap.size, 0, none⟩ = some (.int .i64 0) := by rw [cell_of_row _ _ _ _ _ _ q0]; rfl
  have d1 : w3.cell? ⟨w.heap.size, 1, none⟩ = some (.int .i64 0) := by rw [cell_of_row _ _ _ _ _ _ q0]; rfl
  have f0 : ∀ j, w3.frozen? ⟨w.heap.size, j, none⟩ = false := fun j => by unfold World.frozen?; rw [q0]; rfl
  have hR : RDueYes lo r (x :: t) x w (.returned (.tuple #[.agg #[.int .i64 x.1, .int .i64 x.2.1], .bool true])) ((w3.setCell ⟨w.heap.size, 0, none⟩ (.int .i64 x.1)).setCell ⟨w.heap.size, 1, none⟩ (.int .i64 x.2.1)) := by
    have hoS : Only (fun b => b = w.heap.size) w3 ((w3.setCell ⟨w.heap.size, 0, none⟩ (.int .i64 x.1)).setCell ⟨w.heap.size, 1, none⟩ (.int .i64 x.2.1)) :=
      ((Only.refl (fun b => b = w.heap.size) w3).setCell (p := ⟨w.heap.size, 0, none⟩) (fun _ => rfl) _).setCell (p := ⟨w.heap.size, 1, none⟩) (fun _ => rfl) _
    refine ⟨rfl, v3, hr3.only hoS (fun e => hne0 e.symm) (fun b e e2 => by have := hn3 b e; omega), ?_, fun b e => Nat.le_trans HBW.out.size (hn3 b e)⟩
    have h1 : Only (fun b => b = r) w w3 := (Only.of_below (F := fun b => b = r) HBW.out).trans ho3 (fun _ _ h => h)
    exact h1.trans hoS (fun i hi e => by omega)
  have HR := Lib.hid hR
  clear hr3 ho3 hn3 hne0 hne1 hw1 hw2 q0 hR
  go_wp2
  refine bodyPost_ret (v := .tuple #[.agg #[.int .i64 x.1, .int .i64 x.2.1], .bool true]) (by simp [results, Tryd.results68, go_sem, d0, d1]) rfl HR.out

end Ex
end Go.Proofs.YtkmgpajodbadmaaDoor
