/- Lists of texts among the arguments, with the bulk of their reading. -/
import Derived.Test.YtocoonkachbjaaaGreatDoorRows
import Derived.Test.YtocoonkachbjaaaGreatDoorArgs
namespace Go.Proofs.YtocoonkachbjaaaGreatDoor
open Go.RowKit Go.ChangeShapes Go.WideShapes Go.Deep Go.Proofs.Ar
set_option linter.unusedVariables false

theorem bulk_mem {H : Type} : ∀ (l : List (DataW H)) (x : DataW H), x ∈ l → Rows.uptoBulk x ≤ Rows.uptoBulkAll l
  | [], x, h => by simp at h
  | a :: r, x, h => by
    rw [Rows.uptoBulkAll]
    rcases List.mem_cons.1 h with rfl | h
    · omega
    · have := bulk_mem r x h; omega

theorem arg_texts_up {H : Type} {enc : TypeId × Value → H} {P : Program} {w : World} {t e : TypeId} {r : Reach} {b0 : Nat} {v : Value} {d : DataW H} {p : List MemPlace} (ht : P.underlying t = some (.slice e)) (he : P.underlying e = some .string) (hc : P.cellsOf e = 1)
    (hv : Value.okWide P w r b0 t v) (h : DataW.Trod enc P w 0 (fun _ => true) true t v d p) :
    ∃ ps : List ByteArray, TextArg w v ps ∧ (∀ s ∈ ps, s.size ≤ maxLen) ∧ ps.length ≤ maxLen ∧ ∀ s ∈ ps, s.size ≤ Rows.uptoBulk d := by
  obtain ⟨a0, len, cap, rfl⟩ := okWide_slice ht hv
  obtain ⟨fuel, hf⟩ := h
  rcases open_strs ht he hc hf with ⟨hcs, hx⟩ | ⟨a, len', cap', m, Sx, hcs, _, hl, hm, hmm, hx, hcell⟩
  · simp [Value.cells] at hcs
    obtain ⟨rfl, rfl, rfl⟩ := hcs
    exact ⟨[], ⟨none, 0, rfl, fun j hj => absurd hj (Nat.not_lt_zero _)⟩, by simp, by simp, by simp⟩
  · simp [Value.cells] at hcs
    obtain ⟨rfl, rfl, rfl⟩ := hcs
    simp only [if_true] at hmm
    subst hmm
    refine ⟨(List.range len).map Sx, ⟨some a, m, by simp, fun j hj => ?_⟩, fun s hs => ?_, by simp; omega, fun s hs => ?_⟩
    · have hj' : j < len := by simpa using hj
      have h0 := (hcell 0 (by omega)).1
      have hp := plain_of_cell (w := w) (a := a) (by simpa [Addr.add] using h0)
      have hjc := (hcell j (by omega)).1
      refine ⟨a.block, a.off, by rw [← hp], lt_of_cell (w := w) (a := a) (by simpa [Addr.add] using h0), ?_⟩
      rw [hp, add_plain_] at hjc
      simpa using hjc
    · obtain ⟨i, hi, rfl⟩ := List.mem_map.1 hs
      exact (hcell i (by have := List.mem_range.1 hi; omega)).2
    · obtain ⟨i, hi, rfl⟩ := List.mem_map.1 hs
      have hd := congrArg Prod.fst hx
      simp only at hd
      subst hd
      rw [Rows.uptoBulk]
      have hb := bulk_mem ((List.range len).map fun i => (DataW.lit (.string (Sx i).data.toList) : DataW H)) (.lit (.string (Sx i).data.toList)) (List.mem_map.2 ⟨i, hi, rfl⟩)
      rw [Rows.uptoBulk] at hb
      have e : (Sx i).data.toList.length = (Sx i).size := by simp
      omega

end Go.Proofs.YtocoonkachbjaaaGreatDoor
