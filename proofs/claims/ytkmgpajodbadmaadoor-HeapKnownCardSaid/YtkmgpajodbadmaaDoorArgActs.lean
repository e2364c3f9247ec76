/- Arguments that are lists of triples of numbers. Of any program. -/
import Derived.Test.YtkmgpajodbadmaaDoorArgs
import Derived.Deep.SlicePairs
import Derived.Deep.Strs
namespace Go.Proofs.Ar
open Go.RowKit Go.ChangeShapes Go.WideShapes Go.Deep
set_option linter.unusedVariables false

abbrev Tri := Int × Int × Int
/-- A value is a list of triples of numbers, wherever it lies. -/
def TriArg (w : World) (v : Value) (ps : List Tri) : Prop :=
  ∃ p cap, v = .slice p ps.length cap ∧ ∀ j (hj : j < ps.length), ∃ g o, p = some ⟨g, o, none⟩ ∧ g < w.heap.size ∧ w.cell? ⟨g, o + j * 3, none⟩ = some (.int .i64 ps[j].1) ∧ w.cell? ⟨g, o + j * 3 + 1, none⟩ = some (.int .i64 ps[j].2.1) ∧ w.cell? ⟨g, o + j * 3 + 2, none⟩ = some (.int .i64 ps[j].2.2)

theorem TriArg.below {w w' : World} {v : Value} {ps : List Tri} (h : TriArg w v ps) (hb : Below w.heap.size w w') : TriArg w' v ps := by
  obtain ⟨p, cap, rfl, h⟩ := h
  refine ⟨p, cap, rfl, fun j hj => ?_⟩
  obtain ⟨g, o, h1, h2, h3, h4, h5⟩ := h j hj
  exact ⟨g, o, h1, Nat.lt_of_lt_of_le h2 hb.size, (hb.cell (p := ⟨g, o + j * 3, none⟩) h2).trans h3, (hb.cell (p := ⟨g, o + j * 3 + 1, none⟩) h2).trans h4, (hb.cell (p := ⟨g, o + j * 3 + 2, none⟩) h2).trans h5⟩

theorem arg_acts {H : Type} {enc : TypeId × Value → H} {P : Program} {w : World} {t e : TypeId} {f0 f1 f2 : Field} {r : Reach} {b0 : Nat} {v : Value} {d : DataW H} {p : List MemPlace} (ht : P.underlying t = some (.slice e)) (he : P.underlying e = some (.struct #[f0, f1, f2]))
    (ce : P.cellsOf e = 3) (o0 : f0.offset = 0) (o1 : f1.offset = 1) (o2 : f2.offset = 2) (c0 : P.cellsOf f0.type = 1) (c1 : P.cellsOf f1.type = 1) (c2 : P.cellsOf f2.type = 1) (u0 : P.underlying f0.type = some (.int .i64)) (u1 : P.underlying f1.type = some (.int .i64)) (u2 : P.underlying f2.type = some (.int .i64))
    (hv : Value.okWide P w r b0 t v) (h : DataW.Trod enc P w 0 (fun _ => true) true t v d p) :
    ∃ ps : List Tri, TriArg w v ps ∧ (∀ s ∈ ps, (Lit.int .i64 s.1).wf = true ∧ (Lit.int .i64 s.2.1).wf = true ∧ (Lit.int .i64 s.2.2).wf = true) ∧ ps.length ≤ maxLen := by
  obtain ⟨a0, len, cap, rfl⟩ := okWide_slice ht hv
  obtain ⟨fuel, hf⟩ := h
  rcases open_slice ht hf with ⟨hcs, hx⟩ | ⟨a, len', cap', m, n, D, Pl, hcs, _, hl, hm, hmm, hx, hcell⟩
  · simp [Value.cells] at hcs
    obtain ⟨rfl, rfl, rfl⟩ := hcs
    exact ⟨[], ⟨none, 0, rfl, fun j hj => absurd hj (Nat.not_lt_zero _)⟩, by simp, by simp⟩
  · simp [Value.cells] at hcs
    obtain ⟨rfl, rfl, rfl⟩ := hcs
    simp only [if_true] at hmm
    subst hmm
    have each : ∀ i, i < m → ∃ q : Tri, w.cell? (a.add (i * 3)) = some (.int .i64 q.1) ∧ w.cell? (a.add (i * 3 + 1)) = some (.int .i64 q.2.1) ∧ w.cell? (a.add (i * 3 + 2)) = some (.int .i64 q.2.2) ∧ (Lit.int .i64 q.1).wf = true ∧ (Lit.int .i64 q.2.1).wf = true ∧ (Lit.int .i64 q.2.2).wf = true := fun i hi => by
      obtain ⟨cs', h1, h2⟩ := hcell i hi
      rw [ce] at h1
      obtain ⟨_, hlen, hc⟩ := World.cells?_some h1
      obtain ⟨y0, y1, y2, k, _, _, t0, t1, t2⟩ := trod_struct3 he h2
      match cs', hlen with
      | [v0, v1, v2], _ =>
        simp only [o0, o1, o2, c0, c1, c2, List.drop_zero, List.take_succ_cons, List.take_zero, List.drop_succ_cons] at t0 t1 t2
        obtain ⟨q0, e0, _, w0⟩ := DataW.trod_int u0 t0
        obtain ⟨q1, e1, _, w1⟩ := DataW.trod_int u1 t1
        obtain ⟨q2, e2, _, w2⟩ := DataW.trod_int u2 t2
        have g0 := hc 0 (by omega)
        have g1 := hc 1 (by omega)
        have g2 := hc 2 (by omega)
        rw [add_add] at g0 g1 g2
        have e0' : v0 = .int .i64 q0 := by simpa using e0
        have e1' : v1 = .int .i64 q1 := by simpa using e1
        have e2' : v2 = .int .i64 q2 := by simpa using e2
        subst e0' e1' e2'
        exact ⟨(q0, q1, q2), by simpa using g0, by simpa using g1, by simpa using g2, w0, w1, w2⟩
    obtain ⟨S, hS⟩ := choose_lt each
    refine ⟨(List.range len).map S, ⟨some a, m, by simp, fun j hj => ?_⟩, fun s hs => ?_, by simp; omega⟩
    · have hj' : j < len := by simpa using hj
      have h0 := (hS 0 (by omega)).1
      have hp := plain_of_cell (w := w) (a := a) (by simpa [Addr.add] using h0)
      obtain ⟨k1, k2, k3, _⟩ := hS j (by omega)
      refine ⟨a.block, a.off, by rw [← hp], lt_of_cell (w := w) (a := a) (by simpa [Addr.add] using h0), ?_, ?_, ?_⟩
      · rw [hp, add_plain_] at k1
        simpa using k1
      · rw [hp, add_plain_] at k2
        simpa [Nat.add_assoc] using k2
      · rw [hp, add_plain_] at k3
        simpa [Nat.add_assoc] using k3
    · obtain ⟨i, hi, rfl⟩ := List.mem_map.1 hs
      have := hS i (by have := List.mem_range.1 hi; omega)
      exact ⟨this.2.2.2.1, this.2.2.2.2.1, this.2.2.2.2.2⟩

end Go.Proofs.Ar
