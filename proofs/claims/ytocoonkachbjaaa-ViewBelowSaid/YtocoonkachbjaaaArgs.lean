/- Arguments that are lists of texts: what a walk is told of them. Of any program. -/
import Derived.Deep.Strs
import Derived.Carry
import Derived.WalkKit
import Derived.Deep.Draws
namespace Go.Proofs.Ar
open Go.RowKit Go.ChangeShapes Go.WideShapes Go.Deep
set_option linter.unusedVariables false

/-- A value is a list of texts, wherever it lies. -/
def TextArg (w : World) (v : Value) (ps : List ByteArray) : Prop :=
  ∃ p cap, v = .slice p ps.length cap ∧ ∀ j (hj : j < ps.length), ∃ g o, p = some ⟨g, o, none⟩ ∧ g < w.heap.size ∧ w.cell? ⟨g, o + j, none⟩ = some (.string ps[j])

theorem TextArg.below {w w' : World} {v : Value} {ps : List ByteArray} (h : TextArg w v ps) (hb : Below w.heap.size w w') : TextArg w' v ps := by
  obtain ⟨p, cap, rfl, h⟩ := h
  refine ⟨p, cap, rfl, fun j hj => ?_⟩
  obtain ⟨g, o, h1, h2, h3⟩ := h j hj
  exact ⟨g, o, h1, Nat.lt_of_lt_of_le h2 hb.size, (hb.cell (p := ⟨g, o + j, none⟩) h2).trans h3⟩

theorem plain_of_cell {w : World} {a : Addr} {u : Value} (h : w.cell? a = some u) : a = ⟨a.block, a.off, none⟩ := by
  obtain ⟨b, o, s⟩ := a
  cases s with
  | none => rfl
  | some x =>
    unfold World.cell? at h
    split at h
    · simp at h
    · cases h

theorem lt_of_cell {w : World} {a : Addr} {u : Value} (h : w.cell? a = some u) : a.block < w.heap.size := by
  rcases Nat.lt_or_ge a.block w.heap.size with h0 | h0
  · exact h0
  · unfold World.cell? at h
    rw [Array.getElem?_eq_none h0] at h; cases h

theorem add_plain_ (b o j : Nat) : (⟨b, o, none⟩ : Addr).add j = ⟨b, o + j, none⟩ := by
  unfold Addr.add
  by_cases h : j = 0 <;> simp [h]

section
variable {H : Type} {enc : TypeId × Value → H} {P : Program} {w : World}

theorem arg_texts {t e : TypeId} {r : Reach} {b0 : Nat} {v : Value} {d : DataW H} {p : List MemPlace} (ht : P.underlying t = some (.slice e)) (he : P.underlying e = some .string) (hc : P.cellsOf e = 1)
    (hv : Value.okWide P w r b0 t v) (h : DataW.Trod enc P w 0 (fun _ => true) true t v d p) :
    ∃ ps : List ByteArray, TextArg w v ps ∧ (∀ s ∈ ps, s.size ≤ maxLen) ∧ ps.length ≤ maxLen := by
  obtain ⟨a0, len, cap, rfl⟩ := okWide_slice ht hv
  obtain ⟨fuel, hf⟩ := h
  rcases open_strs ht he hc hf with ⟨hcs, hx⟩ | ⟨a, len', cap', m, Sx, hcs, _, hl, hm, hmm, hx, hcell⟩
  · simp [Value.cells] at hcs
    obtain ⟨rfl, rfl, rfl⟩ := hcs
    exact ⟨[], ⟨none, 0, rfl, fun j hj => absurd hj (Nat.not_lt_zero _)⟩, by simp, by simp⟩
  · simp [Value.cells] at hcs
    obtain ⟨rfl, rfl, rfl⟩ := hcs
    simp only [if_true] at hmm
    subst hmm
    refine ⟨(List.range len).map Sx, ⟨some a, m, by simp, fun j hj => ?_⟩, fun s hs => ?_, by simp; omega⟩
    · have hj' : j < len := by simpa using hj
      have h0 := (hcell 0 (by omega)).1
      have hp := plain_of_cell (w := w) (a := a) (by simpa [Addr.add] using h0)
      have hjc := (hcell j (by omega)).1
      refine ⟨a.block, a.off, by rw [← hp], lt_of_cell (w := w) (a := a) (by simpa [Addr.add] using h0), ?_⟩
      rw [hp, add_plain_] at hjc
      simpa using hjc
    · obtain ⟨i, hi, rfl⟩ := List.mem_map.1 hs
      exact (hcell i (by have := List.mem_range.1 hi; omega)).2
end

end Go.Proofs.Ar
