/- Literal lists where they lie. -/
import Derived.Test.YtkmgpajodbadmaaDoorUtil
namespace Go.Proofs.YtkmgpajodbadmaaDoor
open Go.RowKit
set_option linter.unusedVariables false

/-- A block of cells that hold these values. -/
def LitAt (w : World) (g : Nat) (vs : List Value) : Prop := ∃ t f, w.heap[g]? = some (.cells vs.toArray t f)
theorem LitAt.lt {w : World} {g : Nat} {vs : List Value} (h : LitAt w g vs) : g < w.heap.size := by
  obtain ⟨t, f, h⟩ := h
  exact (Array.getElem?_eq_some_iff.1 h).1
theorem LitAt.below {w w' : World} {g : Nat} {vs : List Value} (h : LitAt w g vs) (hb : Below w.heap.size w w') : LitAt w' g vs := by
  have hl := h.lt
  obtain ⟨t, f, h⟩ := h
  exact ⟨t, f, (hb.block g hl).trans h⟩
theorem LitAt.cell {w : World} {g : Nat} {vs : List Value} (h : LitAt w g vs) (k : Nat) : w.cell? ⟨g, k, none⟩ = vs[k]? := by
  obtain ⟨t, f, h⟩ := h
  simp [World.cell?, h]
theorem LitAt.get {α : Type} {f : α → Value} {l : List α} {w : World} {g : Nat} (h : LitAt w g (l.map f)) {k : Nat} (hk : k < l.length) (d : α) : w.cell? ⟨g, k, none⟩ = some (f (l.getD k d)) := by
  rw [h.cell, List.getElem?_map, List.getD_eq_getElem?_getD, List.getElem?_eq_getElem hk]
  rfl
theorem LitAt.alloc {w : World} {g : Nat} {vs : List Value} (h : LitAt w g vs) (o : Obj) : LitAt (w.alloc o) g vs :=
  h.below ((Below.refl _ _).alloc (Nat.le_refl _) o)
theorem lit0 (w : World) (vs : List Value) (t : TypeId) : LitAt (w.alloc (.cells vs.toArray t)) w.heap.size vs := ⟨t, _, Ut.alloc_at _ _⟩
theorem lit1 (w : World) (o : Obj) (vs : List Value) (t : TypeId) : LitAt ((w.alloc o).alloc (.cells vs.toArray t)) (w.heap.size + 1) vs := by
  have h := lit0 (w.alloc o) vs t
  rw [show (w.alloc o).heap.size = w.heap.size + 1 by simp] at h
  exact h
theorem lit2 (w : World) (o o2 : Obj) (vs : List Value) (t : TypeId) : LitAt (((w.alloc o).alloc o2).alloc (.cells vs.toArray t)) (w.heap.size + 2) vs := by
  have h := lit1 (w.alloc o) o2 vs t
  rw [show (w.alloc o).heap.size = w.heap.size + 1 by simp] at h
  exact h

end Go.Proofs.YtkmgpajodbadmaaDoor
