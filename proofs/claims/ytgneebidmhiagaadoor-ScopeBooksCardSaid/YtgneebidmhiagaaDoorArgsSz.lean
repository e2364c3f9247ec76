/- Lists of texts among the arguments, with the list's size. -/
import Derived.Test.YtgneebidmhiagaaDoorArgs
import Derived.SizedLaws
namespace Go.Proofs.YtgneebidmhiagaaDoor
open Go.RowKit Go.ChangeShapes Go.WideShapes Go.Deep Go.Proofs.Ar
set_option linter.unusedVariables false

theorem arg_texts_sz {H : Type} {enc : TypeId × Value → H} {P : Program} {w : World} {t e : TypeId} {r : Reach} {b0 : Nat} {v : Value} {d : DataW H} {p : List MemPlace} (ht : P.underlying t = some (.slice e)) (he : P.underlying e = some .string) (hc : P.cellsOf e = 1)
    (hv : Value.okWide P w r b0 t v) (h : DataW.Trod enc P w 0 (fun _ => true) true t v d p) :
    ∃ ps : List ByteArray, TextArg w v ps ∧ (∀ s ∈ ps, s.size ≤ maxLen) ∧ ps.length ≤ maxLen ∧ (ps = [] ∨ ∃ elems spare, d = .slice elems spare ∧ elems.length = ps.length) := by
  obtain ⟨a0, len, cap, rfl⟩ := okWide_slice ht hv
  obtain ⟨fuel, hf⟩ := h
  rcases open_strs ht he hc hf with ⟨hcs, hx⟩ | ⟨a, len', cap', m, Sx, hcs, _, hl, hm, hmm, hx, hcell⟩
  · simp [Value.cells] at hcs
    obtain ⟨rfl, rfl, rfl⟩ := hcs
    exact ⟨[], ⟨none, 0, rfl, fun j hj => absurd hj (Nat.not_lt_zero _)⟩, by simp, by simp, .inl rfl⟩
  · simp [Value.cells] at hcs
    obtain ⟨rfl, rfl, rfl⟩ := hcs
    simp only [if_true] at hmm
    subst hmm
    refine ⟨(List.range len).map Sx, ⟨some a, m, by simp, fun j hj => ?_⟩, fun s hs => ?_, by simp; omega, .inr ⟨_, _, congrArg Prod.fst hx, by simp⟩⟩
    · have hj' : j < len := by simpa using hj
      have h0 := (hcell 0 (by omega)).1
      have hp := plain_of_cell (w := w) (a := a) (by simpa [Addr.add] using h0)
      have hjc := (hcell j (by omega)).1
      refine ⟨a.block, a.off, by rw [← hp], lt_of_cell (w := w) (a := a) (by simpa [Addr.add] using h0), ?_⟩
      rw [hp, add_plain_] at hjc
      simpa using hjc
    · obtain ⟨i, hi, rfl⟩ := List.mem_map.1 hs
      exact (hcell i (by have := List.mem_range.1 hi; omega)).2

/-- How long a list of texts is that the row's size lets in. -/
theorem sized_texts {H : Type} {P : Program} {ts : List TypeId} {ds : List (DataW H)} (h : (DataW.weightsEach P ts ds).all (· ≤ reachBytes) = true) {j : Nat} {t e : TypeId} {d : DataW H} {ps : List ByteArray}
    (ht : ts[j]? = some t) (hd : ds[j]? = some d) (hu : P.underlying t = some (.slice e)) (hb : P.bytesOf e = 16) (hp : ps = [] ∨ ∃ elems spare, d = .slice elems spare ∧ elems.length = ps.length) : ps.length * 16 ≤ 140737488351232 := by
  rcases hp with rfl | ⟨es, sp, rfl, h2⟩
  · simp
  · have h3 := sized_slice h ht hd hu
    rw [hb, h2] at h3
    have e : reachBytes = 140737488351232 := by decide
    rw [e] at h3
    have h4 : ps.length * 16 ≤ (ps.length + sp.length) * 16 := Nat.mul_le_mul_right _ (Nat.le_add_right _ _)
    omega

end Go.Proofs.YtgneebidmhiagaaDoor
