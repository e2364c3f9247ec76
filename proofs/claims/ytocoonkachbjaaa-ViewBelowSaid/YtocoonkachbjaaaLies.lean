/- Blocks of the call's own that lie where they lay. No program's code. -/
import Derived.Test.YtocoonkachbjaaaOnly
import Derived.RangeFuncWrites
namespace Go.Proofs.Ytocoonkachbjaaa
open Go.RowKit
set_option linter.unusedVariables false

/-- Blocks and what lies in them. -/
def Lies (Bx : List (Nat × Obj)) (W : World) : Prop := ∀ p ∈ Bx, W.heap[p.1]? = some p.2
theorem Lies.nil (W : World) : Lies [] W := fun p h => by cases h
theorem Lies.head {k : Nat} {o : Obj} {Bx : List (Nat × Obj)} {W : World} (h : Lies ((k, o) :: Bx) W) : W.heap[k]? = some o := h _ List.mem_cons_self
theorem Lies.tail {p : Nat × Obj} {Bx : List (Nat × Obj)} {W : World} (h : Lies (p :: Bx) W) : Lies Bx W := fun q hq => h q (List.mem_cons_of_mem _ hq)
theorem Lies.cons {k : Nat} {o : Obj} {Bx : List (Nat × Obj)} {W : World} (h1 : W.heap[k]? = some o) (h : Lies Bx W) : Lies ((k, o) :: Bx) W := fun q hq => by
  rcases List.mem_cons.1 hq with rfl | hq
  · exact h1
  · exact h q hq
theorem Lies.lt {Bx : List (Nat × Obj)} {W : World} (h : Lies Bx W) {p : Nat × Obj} (hp : p ∈ Bx) : p.1 < W.heap.size := (Array.getElem?_eq_some_iff.1 (h p hp)).1
theorem Lies.only {G : Nat → Prop} {Bx : List (Nat × Obj)} {W W' : World} (h : Lies Bx W) (ho : Only G W W') (hG : ∀ p ∈ Bx, ¬ G p.1) : Lies Bx W' := fun p hp => (ho.block p.1 (h.lt hp) (hG p hp)).trans (h p hp)
theorem Lies.below {Bx : List (Nat × Obj)} {W W' : World} (h : Lies Bx W) (hb : Below W.heap.size W W') : Lies Bx W' := fun p hp => (hb.block p.1 (h.lt hp)).trans (h p hp)
theorem Lies.below_of {B : Nat} {Bx : List (Nat × Obj)} {W W' : World} (h : Lies Bx W) (hb : Below B W W') (hB : ∀ p ∈ Bx, p.1 < B) : Lies Bx W' := fun p hp => (hb.block p.1 (hB p hp)).trans (h p hp)
theorem Lies.alloc {Bx : List (Nat × Obj)} {W : World} (h : Lies Bx W) (o : Obj) : Lies ((W.heap.size, o) :: Bx) (W.alloc o) := Lies.cons (Ut.alloc_at _ _) (h.below ((Below.refl _ _).alloc (Nat.le_refl _) _))
/-- The turn of a block that is no cells. -/
theorem Lies.turned {Bx : List (Nat × Obj)} {W W' : World} {row : Option Nat} (h : Lies Bx W) (hc : ∀ p ∈ Bx, p.2.isCells = true) (hg : W.grownBy W' row) (hr : ∀ k, row = some k → ∃ o : Obj, W.heap[k]? = some o ∧ o.isCells = false) : Lies Bx W' := fun p hp =>
  (hg.block p.1 (h.lt hp) (fun e => by
    obtain ⟨o, h1, h2⟩ := hr _ e.symm
    rw [h p hp] at h1; cases h1
    rw [hc p hp] at h2; cases h2)).trans (h p hp)
/-- A store into one of them. -/
theorem Lies.set {k : Nat} {cs : Array Value} {t : TypeId} {Bx : List (Nat × Obj)} {W : World} (h : Lies ((k, .cells cs t (0, 0)) :: Bx) W) (hk : ∀ p ∈ Bx, p.1 ≠ k) (j : Nat) (v : Value) : Lies ((k, .cells (cs.setIfInBounds j v) t (0, 0)) :: Bx) (W.setCell ⟨k, j, none⟩ v) := by
  refine Lies.cons ?_ (fun p hp => (Below.heap_setCell _ _ _ _ (hk p hp)).trans (h.tail p hp))
  rw [heap_setCell_same W k j _ _ v h.head]
theorem Lies.perm {Bx By : List (Nat × Obj)} {W : World} (h : Lies Bx W) (hp : ∀ p ∈ By, p ∈ Bx) : Lies By W := fun p hq => h p (hp p hq)
theorem block_cell {W : World} {b : Nat} {cs : Array Value} {t : TypeId} (h : W.heap[b]? = some (.cells cs t (0, 0))) (j : Nat) : W.cell? ⟨b, j, none⟩ = cs[j]? := cell_of_row _ _ _ _ _ _ h
theorem block_free {W : World} {b : Nat} {cs : Array Value} {t : TypeId} (h : W.heap[b]? = some (.cells cs t (0, 0))) (j : Nat) : W.frozen? ⟨b, j, none⟩ = false := by unfold World.frozen?; rw [h]; rfl

/-- 32 cells that are told by their place. -/
def arr (n : Nat) (f : Nat → Value) : Array Value := ((List.range n).map f).toArray
theorem arr_at {n : Nat} {f : Nat → Value} {j : Nat} (h : j < n) : (arr n f)[j]? = some (f j) := by simp [arr, h]
theorem arr_set {n : Nat} {f : Nat → Value} {j : Nat} (v : Value) : (arr n f).setIfInBounds j v = arr n (fun i => if i = j then v else f i) := by
  apply Array.ext_getElem?
  intro i
  unfold arr
  rw [Array.getElem?_setIfInBounds]
  by_cases hi : i < n
  · by_cases e : j = i
    · subst e; simp [hi]
    · have e2 : ¬ i = j := fun h => e h.symm
      simp [hi, e, e2]
  · by_cases e : j = i
    · subst e; simp [hi]
    · simp [hi, e]

end Go.Proofs.Ytocoonkachbjaaa
