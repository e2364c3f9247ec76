/- An argument that is a pair of numbers. Of any program. -/
import Derived.Test.YtkmgpajodbadmaaArgPairs
namespace Go.Proofs.Ar
open Go.RowKit Go.ChangeShapes Go.WideShapes Go.Deep
set_option linter.unusedVariables false

theorem arg_pair {H : Type} {enc : TypeId × Value → H} {P : Program} {w : World} {t : TypeId} {f0 f1 : Field} {r : Reach} {b0 : Nat} {v : Value} {d : DataW H} {p : List MemPlace} (ht : P.underlying t = some (.struct #[f0, f1]))
    (ce : P.cellsOf t = 2) (o0 : f0.offset = 0) (o1 : f1.offset = 1) (c0 : P.cellsOf f0.type = 1) (c1 : P.cellsOf f1.type = 1) (u0 : P.underlying f0.type = some (.int .i64)) (u1 : P.underlying f1.type = some (.int .i64))
    (hv : Value.okWide P w r b0 t v) (h : DataW.Trod enc P w 0 (fun _ => true) true t v d p) :
    ∃ x : Int × Int, v = .agg #[.int .i64 x.1, .int .i64 x.2] ∧ (Lit.int .i64 x.1).wf = true ∧ (Lit.int .i64 x.2).wf = true := by
  obtain ⟨cs, rfl, hsz⟩ := okWide_struct ht hv
  obtain ⟨fuel, hf⟩ := h
  obtain ⟨y0, y1, n, -, hl, h0, h1⟩ := trod_struct2 ht hf
  rw [ce] at hsz
  obtain ⟨l⟩ := cs
  match l, hsz with
  | [a, b], _ =>
    simp only [Value.cells, o0, o1, c0, c1] at h0 h1
    obtain ⟨q0, e0, _, w0⟩ := DataW.trod_int u0 h0
    obtain ⟨q1, e1, _, w1⟩ := DataW.trod_int u1 h1
    refine ⟨(q0, q1), ?_, w0, w1⟩
    have e0' : a = .int .i64 q0 := by simpa using e0
    have e1' : b = .int .i64 q1 := by simpa using e1
    rw [e0', e1']

end Go.Proofs.Ar
