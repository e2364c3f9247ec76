/- Arguments that are lists of pairs of numbers. Of any program. -/
import Derived.Test.YtkmgpajodbadmaaArgs
import Derived.Deep.SlicePairs
namespace Go.Proofs.Ar
open Go.RowKit Go.ChangeShapes Go.WideShapes Go.Deep
set_option linter.unusedVariables false

/-- A value is a list of pairs of numbers, wherever it lies. -/
def PairArg (w : World) (v : Value) (ps : List (Int × Int)) : Prop :=
  ∃ p cap, v = .slice p ps.length cap ∧ ∀ j (hj : j < ps.length), ∃ g o, p = some ⟨g, o, none⟩ ∧ g < w.heap.size ∧ w.cell? ⟨g, o + j * 2, none⟩ = some (.int .i64 ps[j].1) ∧ w.cell? ⟨g, o + j * 2 + 1, none⟩ = some (.int .i64 ps[j].2)

theorem PairArg.below {w w' : World} {v : Value} {ps : List (Int × Int)} (h : PairArg w v ps) (hb : Below w.heap.size w w') : PairArg w' v ps := by
  obtain ⟨p, cap, rfl, h⟩ := h
  refine ⟨p, cap, rfl, fun j hj => ?_⟩
  obtain ⟨g, o, h1, h2, h3, h4⟩ := h j hj
  exact ⟨g, o, h1, Nat.lt_of_lt_of_le h2 hb.size, (hb.cell (p := ⟨g, o + j * 2, none⟩) h2).trans h3, (hb.cell (p := ⟨g, o + j * 2 + 1, none⟩) h2).trans h4⟩

theorem arg_pairs {H : Type} {enc : TypeId × Value → H} {P : Program} {w : World} {t e : TypeId} {f0 f1 : Field} {r : Reach} {b0 : Nat} {v : Value} {d : DataW H} {p : List MemPlace} (ht : P.underlying t = some (.slice e)) (he : P.underlying e = some (.struct #[f0, f1]))
    (ce : P.cellsOf e = 2) (o0 : f0.offset = 0) (o1 : f1.offset = 1) (c0 : P.cellsOf f0.type = 1) (c1 : P.cellsOf f1.type = 1) (u0 : P.underlying f0.type = some (.int .i64)) (u1 : P.underlying f1.type = some (.int .i64))
    (hv : Value.okWide P w r b0 t v) (h : DataW.Trod enc P w 0 (fun _ => true) true t v d p) :
    ∃ ps : List (Int × Int), PairArg w v ps ∧ (∀ s ∈ ps, (Lit.int .i64 s.1).wf = true ∧ (Lit.int .i64 s.2).wf = true) ∧ ps.length ≤ maxLen := by
  obtain ⟨a0, len, cap, rfl⟩ := okWide_slice ht hv
  obtain ⟨fuel, hf⟩ := h
  rcases open_slice_pairs ht he ce o0 o1 c0 c1 hf with ⟨hcs, hx⟩ | ⟨a, len', cap', m, n, V0, V1, D0, D1, P0, P1, hcs, _, hl, hm, hmm, hx, hcell⟩
  · simp [Value.cells] at hcs
    obtain ⟨rfl, rfl, rfl⟩ := hcs
    exact ⟨[], ⟨none, 0, rfl, fun j hj => absurd hj (Nat.not_lt_zero _)⟩, by simp, by simp⟩
  · simp [Value.cells] at hcs
    obtain ⟨rfl, rfl, rfl⟩ := hcs
    simp only [if_true] at hmm
    subst hmm
    have each : ∀ i, i < m → ∃ q : Int × Int, V0 i = .int .i64 q.1 ∧ V1 i = .int .i64 q.2 ∧ (Lit.int .i64 q.1).wf = true ∧ (Lit.int .i64 q.2).wf = true := fun i hi => by
      obtain ⟨_, _, h3, h4⟩ := hcell i hi
      obtain ⟨q0, e0, _, w0⟩ := DataW.trod_int u0 h3
      obtain ⟨q1, e1, _, w1⟩ := DataW.trod_int u1 h4
      exact ⟨(q0, q1), by simpa using e0, by simpa using e1, w0, w1⟩
    obtain ⟨S, hS⟩ := choose_lt each
    refine ⟨(List.range len).map S, ⟨some a, m, by simp, fun j hj => ?_⟩, fun s hs => ?_, by simp; omega⟩
    · have hj' : j < len := by simpa using hj
      have h0 := (hcell 0 (by omega)).1
      have hp := plain_of_cell (w := w) (a := a) (by simpa [Addr.add] using h0)
      obtain ⟨k1, k2, _, _⟩ := hcell j (by omega)
      obtain ⟨s1, s2, _, _⟩ := hS j (by omega)
      refine ⟨a.block, a.off, by rw [← hp], lt_of_cell (w := w) (a := a) (by simpa [Addr.add] using h0), ?_, ?_⟩
      · rw [hp, add_plain_, s1] at k1
        simpa using k1
      · rw [hp, add_plain_, s2] at k2
        simpa [Nat.add_assoc] using k2
    · obtain ⟨i, hi, rfl⟩ := List.mem_map.1 hs
      have := hS i (by have := List.mem_range.1 hi; omega)
      exact ⟨this.2.2.1, this.2.2.2⟩

end Go.Proofs.Ar
