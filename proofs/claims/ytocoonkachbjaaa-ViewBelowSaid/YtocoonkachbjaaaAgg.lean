/- Structs whose cells are letters: a slice of one of them. No program's code. -/
import Derived.Great.BuildSlice
import Derived.Deep.MidRow
import Derived.Deep.AppendLies
import Derived.WalkKit
import Derived.Laws.NewBlocks
import Derived.Test.YtocoonkachbjaaaUtil
namespace Go.Proofs.Ytocoonkachbjaaa
open Go.RowKit
set_option linter.unusedVariables false
namespace Ag

/-- '[]T{v}', v's cells letters. -/
theorem one_slice {P : Program} (t e : TypeId) (ie : TypeInfo) (z : Value) (cs : List Value) (hu : P.underlying t = some (.slice e)) (hie : P.info? e = some ie) (hz : ie.zero = some z) (hzs : z.cells.size = ie.size) (hn : cs.length = ie.size) (h0 : 0 < ie.size) (hs : ie.size ≤ 16777216) (w : World) :
    (Instr.buildSlice t 1 #[(0, .agg cs.toArray)]).run P w = .ok (.slice (some ⟨w.heap.size, 0, none⟩) 1 1) (w.alloc (.cells cs.toArray e)) := by
  refine Go.run_buildSlice w t e 1 _ _ ie z hu hie hz (by omega) (by omega) ?_
  have h := Go.Great.fill_whole (s := ie.size) h0 [Value.agg cs.toArray] ((Array.range (1 * ie.size)).map (z.cells[· % z.cells.size]!)) (by simp [Value.cells, hn]) (by simp)
  simpa [Value.cells] using h
theorem fill_one (ie : TypeInfo) (z : Value) (cs : List Value) (hn : cs.length = ie.size) (h0 : 0 < ie.size) : Instr.fill (fun i => some (i * ie.size, ie.size)) ((Array.range (1 * ie.size)).map (z.cells[· % z.cells.size]!)) [(0, .agg cs.toArray)] = some cs.toArray := by
  have h := Go.Great.fill_whole (s := ie.size) h0 [Value.agg cs.toArray] ((Array.range (1 * ie.size)).map (z.cells[· % z.cells.size]!)) (by simp [Value.cells, hn]) (by simp)
  simpa [Value.cells] using h
/-- The same where the walk stands. -/
theorem wpList_one {P : Program} {ops : Array Oper} {rest : List Oper} {o : Oper} {a : Act} {w : World} {Q : Exit → Act → World → Prop} (hg : o.guard = none) (t e : TypeId) (x : Operand) (ho : o.op = .buildSlice t 1 #[(0, x)])
    (cs : List Value) (hx : a.eval x = .agg cs.toArray) (ie : TypeInfo) (z : Value) (hu : P.underlying t = some (.slice e)) (hie : P.info? e = some ie) (hz : ie.zero = some z) (hn : cs.length = ie.size) (h0 : 0 < ie.size) (hs : ie.size ≤ 16777216)
    (h : wpList P ops Q rest (a.put o.dst (.slice (some ⟨w.heap.size, 0, none⟩) 1 1)) (w.alloc (.cells cs.toArray e))) : wpList P ops Q (o :: rest) a w := by
  refine Go.wpList_buildSlice hg t e 1 #[(0, x)] ho cs.toArray ie z hu hie hz (by omega) (by omega) ?_ h
  have h := fill_one ie z cs hn h0
  simpa [hx] using h
/-- Cells set one behind the other. -/
def put (Z : Array Value) : Nat → List Value → Array Value
  | _, [] => Z
  | o, v :: r => put (Z.setIfInBounds o v) (o + 1) r
theorem put_size : ∀ (vs : List Value) (o : Nat) (Z : Array Value), (put Z o vs).size = Z.size
  | [], _, _ => rfl
  | v :: r, o, Z => by rw [put, put_size r]; simp
theorem put_at : ∀ (vs : List Value) (o : Nat) (Z : Array Value) (i : Nat), (put Z o vs)[i]? = if o ≤ i ∧ i < o + vs.length ∧ i < Z.size then vs[i - o]? else Z[i]?
  | [], o, Z, i => by rw [if_neg (by simp; omega)]; rfl
  | v :: r, o, Z, i => by
    rw [put, put_at r]
    by_cases h1 : o = i
    · subst h1
      rw [if_neg (by omega)]
      by_cases h2 : o < Z.size
      · rw [if_pos (by simp; omega)]; simp [h2]
      · rw [if_neg (by simp; omega)]; simp [h2]
    · by_cases h2 : o + 1 ≤ i ∧ i < o + 1 + r.length ∧ i < Z.size
      · rw [if_pos (by simpa using h2), if_pos (by simp; omega), show i - o = (i - (o + 1)) + 1 by omega, List.getElem?_cons_succ]
      · rw [if_neg (by simpa using h2), if_neg (by simp; omega), Array.getElem?_setIfInBounds, if_neg h1]
theorem put_all {Z : Array Value} {cs : List Value} (h : Z.size = cs.length) : put Z 0 cs = cs.toArray := by
  apply Array.ext_getElem?
  intro i
  rw [put_at]
  by_cases h1 : i < cs.length
  · rw [if_pos (by omega)]; simp
  · rw [if_neg (by omega)]
    simp [h1, h]
theorem setCells_new (w : World) (t : TypeId) : ∀ (vs : List Value) (o : Nat) (Z : Array Value), (w.alloc (.cells Z t)).setCells w.heap.size o vs = w.alloc (.cells (put Z o vs) t)
  | [], _, _ => rfl
  | v :: r, o, Z => by
    rw [World.setCells, World.setCell_alloc_at (hn := rfl), setCells_new w t r]; rfl
theorem there_new (w : World) (t : TypeId) (Z : Array Value) (n : Nat) (h : n ≤ Z.size) : (w.alloc (.cells Z t)).there w.heap.size 0 n := fun j hj => by
  refine ⟨?_, World.frozen?_alloc_new w Z t _⟩
  rw [cell_of_row _ _ _ _ _ _ (Ut.alloc_at w (.cells Z t)), Nat.zero_add]
  have h2 : j < Z.size := by omega
  simp [h2]
/-- A struct stored into a variable that was just made. -/
theorem wpList_store_new {P : Program} {ops : Array Oper} {rest : List Oper} {o : Oper} {a : Act} {w : World} {Q : Exit → Act → World → Prop} {t : TypeId} {Z : Array Value} (hg : o.guard = none) (ty : TypeId) (x y : Operand) (ho : o.op = .store ty x y) (cs : List Value)
    (hx : a.eval x = .pointer (some ⟨w.heap.size, 0, none⟩)) (hy : a.eval y = .agg cs.toArray) (hi : (P.info? ty).map (·.size) = some cs.length) (hZ : Z.size = cs.length) (h1 : ∀ v ∈ cs, v.oneCell' = true)
    (h : wpList P ops Q rest (a.put o.dst undef) (w.alloc (.cells cs.toArray t))) : wpList P ops Q (o :: rest) a (w.alloc (.cells Z t)) := by
  refine wpList_store_mid hg ty x y ho w.heap.size 0 cs.toArray hx hy (there_new w t Z _ (by simp [hZ])) (by simpa using hi) (all_oneCell_toArray h1) ?_
  rw [setCells_new, List.toList_toArray, put_all hZ]
  exact h
theorem setCells_row (b : Nat) (t : TypeId) : ∀ (vs : List Value) (o : Nat) (Z : Array Value) (w : World), w.heap[b]? = some (.cells Z t (0, 0)) → (w.setCells b o vs).heap[b]? = some (.cells (put Z o vs) t (0, 0))
  | [], _, _, _, h => h
  | v :: r, o, Z, w, h => by
    rw [World.setCells, put]
    exact setCells_row b t r _ _ _ (heap_setCell_same w b o _ _ v h)
theorem there_row {w : World} {b : Nat} {t : TypeId} {Z : Array Value} (h : w.heap[b]? = some (.cells Z t (0, 0))) (n : Nat) (hn : n ≤ Z.size) : w.there b 0 n := fun j hj => by
  refine ⟨?_, by unfold World.frozen?; rw [h]; rfl⟩
  rw [cell_of_row _ _ _ _ _ _ h, Nat.zero_add]
  have h2 : j < Z.size := by omega
  simp [h2]
theorem below_setCells {B : Nat} {a : World} {b : Nat} (hb : B ≤ b) : ∀ (vs : List Value) (o : Nat) (w : World), Below B a w → Below B a (w.setCells b o vs)
  | [], _, _, h => h
  | v :: r, o, w, h => by
    rw [World.setCells]
    exact below_setCells hb r _ _ (h.setCell (p := ⟨b, o, none⟩) hb v)
end Ag
end Go.Proofs.Ytocoonkachbjaaa
