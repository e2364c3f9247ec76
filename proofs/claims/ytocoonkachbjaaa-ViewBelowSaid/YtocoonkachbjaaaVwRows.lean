/- The program's forest while it grows: rows of children, the map of births. -/
import Derived.Test.YtocoonkachbjaaaVwKrow
import Derived.Test.YtocoonkachbjaaaVwRPre
import Derived.Test.YtocoonkachbjaaaLies
import Derived.Maps.OwnSet
import Derived.Maps.OwnOps
namespace Go.Proofs.Ytocoonkachbjaaa
open Go.RowKit Go.Maps
set_option linter.unusedVariables false
namespace Vw

theorem own_keep {w w' : World} {base e size n : Nat} {v : Value} {xs : List Value} (h : w.ownsRow base e size v n xs) (hk : ∀ b, v.ownBlock = some b → w'.heap[b]? = w.heap[b]?) : w'.ownsRow base e size v n xs := by
  refine ⟨h.1, ?_⟩
  rcases h.2 with h2 | ⟨g, cap, cur, rfl, h2, h3, h4⟩
  · exact .inl h2
  · exact .inr ⟨g, cap, cur, rfl, h2, (hk g rfl).trans h3, h4⟩

/-- Rows of numbers: an outer block, a block of its own for each row. -/
structure RowsAt (L g m : Nat) (f : Nat → List Nat) (vs : Nat → Value) (w : World) : Prop where
  top : w.heap[g]? = some (.cells (arr m vs) 31 (0, 0))
  row : ∀ j, j < m → w.ownsRow L 3 1 (vs j) (f j).length ((f j).map nv)
  apart : ∀ i j b, i < m → j < m → i ≠ j → (vs i).ownBlock = some b → (vs j).ownBlock ≠ some b
theorem RowsAt.keep {L g m : Nat} {f : Nat → List Nat} {vs : Nat → Value} {w w' : World} (h : RowsAt L g m f vs w) (hg : w'.heap[g]? = w.heap[g]?) (hL : ∀ b, L ≤ b → b < w.heap.size → w'.heap[b]? = w.heap[b]?) : RowsAt L g m f vs w' :=
  ⟨hg.trans h.top, fun j hj => own_keep (h.row j hj) (fun b e => hL b ((h.row j hj).lt b e).1 ((h.row j hj).lt b e).2), h.apart⟩
theorem RowsAt.below {L g m : Nat} {f : Nat → List Nat} {vs : Nat → Value} {w w' : World} (h : RowsAt L g m f vs w) (hb : Below w.heap.size w w') : RowsAt L g m f vs w' :=
  h.keep (hb.block g (Array.getElem?_eq_some_iff.1 h.top).1) (fun b _ hlt => hb.block b hlt)
def upd (f : Nat → List Nat) (r n : Nat) : Nat → List Nat := fun j => if j = r then f j ++ [n] else f j
theorem RowsAt.app {L g m r n : Nat} {f : Nat → List Nat} {vs : Nat → Value} {w w3 : World} {o : Obj} {v' : Value} (h : RowsAt L g m f vs w) (hgL : g < L) (hr : r < m) (hown : w3.ownsRow L 3 1 v' ((f r).length + 1) ((f r).map nv ++ [nv n])) (hgrow : (w.alloc o).grownBy w3 (vs r).ownBlock)
    (hat : v'.ownBlock = (vs r).ownBlock ∨ v'.ownBlock = some (w.heap.size + 1)) : RowsAt L g m (upd f r n) (fun i => if i = r then v' else vs i) (w3.setCell ⟨g, r, none⟩ v') := by
  have hrow := h.row r hr
  have hgl := (Array.getElem?_eq_some_iff.1 h.top).1
  have hsz : w.heap.size + 1 ≤ w3.heap.size := by have := hgrow.size; simpa using this
  have ht3 : w3.heap[g]? = some (.cells (arr m vs) 31 (0, 0)) := by
    rw [hgrow.block g (by simp; omega) (fun e => by have := (hrow.lt g e.symm).1; omega)]
    exact (Below.heap_alloc _ _ _ hgl).trans h.top
  refine ⟨?_, fun j hj => ?_, fun i j b hi hj hij e1 e2 => ?_⟩
  · rw [heap_setCell_same w3 g r _ _ v' ht3, arr_set]
  · by_cases e : j = r
    · subst e
      have e2 : (upd f j n j) = f j ++ [n] := by unfold upd; rw [if_pos rfl]
      rw [e2, if_pos rfl, List.length_append, List.map_append]
      exact own_keep hown (fun b e3 => Below.heap_setCell _ _ _ _ (fun e4 => by have := (hown.lt b e3).1; simp only at e4; omega))
    · have e2 : (upd f r n j) = f j := by unfold upd; rw [if_neg e]
      rw [e2, if_neg e]
      have h0 := h.row j hj
      refine own_keep h0 (fun b e3 => ?_)
      have hb := h0.lt b e3
      rw [Below.heap_setCell _ _ _ _ (fun e4 => by simp only at e4; omega), hgrow.block b (by simp; omega) (fun e4 => h.apart j r b hj hr e e3 e4.symm), Below.heap_alloc _ _ _ hb.2]
  · have key : ∀ i, i < m → i ≠ r → ∀ b, v'.ownBlock = some b → (vs i).ownBlock ≠ some b := fun i hi hir b e3 e4 => by
      rcases hat with h1 | h1
      · exact h.apart i r b hi hr hir e4 (h1 ▸ e3)
      · rw [h1] at e3
        have h2 := Option.some.inj e3
        have h3 := ((h.row i hi).lt b e4).2
        omega
    by_cases ei : i = r
    · rw [if_pos ei] at e1
      by_cases ej : j = r
      · exact hij (ei.trans ej.symm)
      · rw [if_neg ej] at e2
        exact key j hj ej b e1 e2
    · rw [if_neg ei] at e1
      by_cases ej : j = r
      · rw [if_pos ej] at e2
        exact key i hi ei b e2 e1
      · rw [if_neg ej] at e2
        exact h.apart i j b hi hj hij e1 e2
theorem RowsAt.ext {L g m : Nat} {f f' : Nat → List Nat} {vs : Nat → Value} {w : World} (h : RowsAt L g m f vs w) (he : ∀ j, j < m → f' j = f j) : RowsAt L g m f' vs w :=
  ⟨h.top, fun j hj => by rw [he j hj]; exact h.row j hj, h.apart⟩

abbrev lk (s : Int) : Lit := .int .i64 s
theorem isKey (s : Int) : WideAt.IsKeyLit (lk s) := by unfold WideAt.IsKeyLit; trivial
theorem lk_ne {s t : Int} (h : s ≠ t) : lk s ≠ lk t := fun e => h (by injection e)
/-- A map's datum holds just the nearest one ahead, of each birth. -/
def MapL (D : DataW Unit) (l : List (Int × Int)) (n : Nat) : Prop := IsMap D ∧ ∀ s : Int, Maps.has D (lk s) = (Vt.lastTo l s n).isSome ∧ D.atKey (lk s) (.lit (.int .i64 0)) = .lit (.int .i64 (((Vt.lastTo l s n).getD 0 : Nat) : Int))
theorem MapL.nil (l : List (Int × Int)) : MapL (.map []) l 0 := ⟨isMap_empty, fun s => ⟨rfl, rfl⟩⟩
theorem MapL.put {D : DataW Unit} {l : List (Int × Int)} {n : Nat} {x : Int × Int} (h : MapL D l n) (hx : l[n]? = some x) : MapL (D.put (lk x.1) (.lit (.int .i64 (n : Int)))) l (n + 1) := by
  refine ⟨h.1.put _ _, fun s => ?_⟩
  rw [Vt.lastTo_succ, hx]
  by_cases e : x.1 = s
  · subst e
    simp only [Option.map_some, if_true]
    rw [has_put_same h.1 (isKey _), atKey_put_same h.1 (isKey _)]
    exact ⟨rfl, rfl⟩
  · have e2 : ¬ (Option.map (fun x : Int × Int => x.1) (some x) = some s) := by simpa using e
    rw [if_neg e2, has_put_other (lk_ne (fun h => e h.symm)), atKey_put_other (lk_ne (fun h => e h.symm))]
    exact h.2 s

/-- All cells of all sessions. -/
def allV (ss : List Sess) : List Value := ss.flatMap Sess.cells
theorem allV_len (ss : List Sess) : (allV ss).length = ss.length * 12 := by
  unfold allV
  induction ss with
  | nil => rfl
  | cons s r ih => rw [List.flatMap_cons, List.length_append, ih, List.length_cons]; simp [Sess.cells]; omega

/-- All that there is while the forest grows: behind i sessions. -/
structure GrAt (ss : List Sess) (lo L F bm g : Nat) (d : Value) (i : Nat) (w : World) : Prop where
  box : w.heap[F]? = some (.cells #[d, .slice (some ⟨g, 0, none⟩) (ss.length + 1) (ss.length + 1)] 48 (0, 0))
  clone : w.ownsRow lo 40 12 d ss.length (allV ss)
  rows : ∃ vs, RowsAt L g (ss.length + 1) (Vt.krow (bu ss) i) vs w
  map : ∃ k D, w.ownsMap Try.prog 3 (plainElem Try.prog 3) bm k D ∧ k ≤ i ∧ MapL D (bu ss) i
  lF : lo ≤ F ∧ F < L
  lg : lo ≤ g ∧ g < L
  lm : lo ≤ bm ∧ bm < L
  nFg : F ≠ g
  nFm : F ≠ bm
  ngm : g ≠ bm
  cl : ∀ b, d.ownBlock = some b → b < L ∧ b ≠ F ∧ b ≠ g ∧ b ≠ bm
  lL : lo ≤ L ∧ L ≤ w.heap.size
theorem vmap_keep {w w' : World} {k : TypeId} {R : Value → Option (DataW Unit × List MemPlace)} {b n : Nat} {D : DataW Unit} (h : w.ownsMap Try.prog k R b n D) (ho : w'.heap[b]? = w.heap[b]?) : w'.ownsMap Try.prog k R b n D := by
  obtain ⟨es, clock, hb, hF, hs, hD⟩ := h
  exact ⟨es, clock, ho.trans hb, hF, hs, hD⟩
theorem GrAt.below {ss : List Sess} {lo L F bm g : Nat} {d : Value} {i : Nat} {w w' : World} (h : GrAt ss lo L F bm g d i w) (hb : Below w.heap.size w w') : GrAt ss lo L F bm g d i w' := by
  obtain ⟨vs, hv⟩ := h.rows
  obtain ⟨k, D, hm, hk⟩ := h.map
  exact ⟨(hb.block F (Array.getElem?_eq_some_iff.1 h.box).1).trans h.box, own_keep h.clone (fun b e => hb.block b (h.clone.lt b e).2), ⟨vs, hv.below hb⟩, ⟨k, D, vmap_keep hm (hb.block bm hm.lt), hk⟩, h.lF, h.lg, h.lm, h.nFg, h.nFm, h.ngm, h.cl, h.lL.1, Nat.le_trans h.lL.2 hb.size⟩
/-- One more round: behind the append, the store into its row, the map's store. -/
theorem GrAt.step {ss : List Sess} {lo L F bm g r : Nat} {d : Value} {i : Nat} {w w3 w5 : World} {o : Obj} {v' : Value} {vs : Nat → Value} {k : Nat} {D : DataW Unit} (h : GrAt ss lo L F bm g d i w) (hi : i < ss.length) (hr : r = Vt.upN (bu ss) i) (hv : RowsAt L g (ss.length + 1) (Vt.krow (bu ss) i) vs w) (hM : MapL D (bu ss) i) (hk : k ≤ i)
    (hown : w3.ownsRow L 3 1 v' ((Vt.krow (bu ss) i r).length + 1) ((Vt.krow (bu ss) i r).map nv ++ [nv i])) (hgrow : (w.alloc o).grownBy w3 (vs r).ownBlock) (hat : v'.ownBlock = (vs r).ownBlock ∨ v'.ownBlock = some (w.heap.size + 1))
    (hmap : w5.ownsMap Try.prog 3 (plainElem Try.prog 3) bm (k + 1) (D.put (lk ss[i].birth) (.lit (.int .i64 (i : Int))))) (hg5 : (w3.setCell ⟨g, r, none⟩ v').grownBy w5 (some bm)) : GrAt ss lo L F bm g d (i + 1) w5 ∧ Below lo w w5 := by
  have hrn : r < ss.length + 1 := by rw [hr]; have := Vt.upN_le (bu ss) i; omega
  have hrow := hv.row r hrn
  have hra := hv.app h.lg.2 hrn hown hgrow hat
  have hw3 : w.heap.size + 1 ≤ w3.heap.size := by have := hgrow.size; simpa using this
  have hw4 : (w3.setCell ⟨g, r, none⟩ v').heap.size = w3.heap.size := by simp [World.setCell]
  have old : ∀ b, b < w.heap.size → b < L → b ≠ g → b ≠ bm → w5.heap[b]? = w.heap[b]? := fun b h1 h2 h3 h4 => by
    rw [hg5.block b (by rw [hw4]; omega) (fun e => h4 (Option.some.inj e)), Below.heap_setCell _ _ _ _ (fun e => h3 e), hgrow.block b (by simp; omega) (fun e => by have := (hrow.lt b e.symm).1; omega), Below.heap_alloc _ _ _ h1]
  have hra5 := hra.keep (w' := w5) (hg5.block g (by rw [hw4]; have := (Array.getElem?_eq_some_iff.1 hv.top).1; omega) (fun e => h.ngm (Option.some.inj e))) (fun b h1 h2 => hg5.block b h2 (fun e => by have := Option.some.inj e; have := h.lm.2; omega))
  refine ⟨⟨(old F (Array.getElem?_eq_some_iff.1 h.box).1 h.lF.2 h.nFg h.nFm).trans h.box, own_keep h.clone (fun b e => old b (h.clone.lt b e).2 (h.cl b e).1 (h.cl b e).2.2.1 (h.cl b e).2.2.2), ⟨_, hra5.ext (fun j hj => ?_)⟩, ⟨k + 1, _, hmap, by omega, hM.put (bu_at hi)⟩, h.lF, h.lg, h.lm, h.nFg, h.nFm, h.ngm, h.cl, h.lL.1, ?_⟩, ?_⟩
  · rw [Vt.krow_succ, ← hr]
    unfold upd
    by_cases e : j = r
    · subst e; simp
    · simp [e]
  · have := hg5.size; have := h.lL.2; omega
  · have h1 := h.lL; have h2 := h.lg.1; have h3 := h.lm.1
    have b1 : Below lo w w3 := ((Below.refl lo w).alloc (by omega) o).grown hgrow (by simp; omega) (fun j hj => by have := (hrow.lt j hj).1; omega)
    have b2 : Below lo w (w3.setCell ⟨g, r, none⟩ v') := b1.setCell h2 v'
    exact b2.grown hg5 (by rw [hw4]; omega) (fun j hj => by have := Option.some.inj hj; omega)
end Vw
end Go.Proofs.Ytocoonkachbjaaa
