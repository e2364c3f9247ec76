/- A family of lists, each in a block of its own: what stores, growth and calls leave of it. -/
import Derived.Test.YtgneebidmhiagaaDoorUtil
import Derived.OneCell
import Derived.Laws.OwnMore
namespace Go.Proofs.YtgneebidmhiagaaDoor
open Go.RowKit
set_option linter.unusedVariables false

/-- Lists in blocks of their own, from the block B on. -/
structure Fam (B : Nat) (w : World) (e : TypeId) (vs : List Value) (Z : Nat → List Value) : Prop where
  own : ∀ k (h : k < vs.length), w.ownsRow B e 1 vs[k] (Z k).length (Z k)
  apart : ∀ j k (hj : j < vs.length) (hk : k < vs.length), j ≠ k → ∀ g, vs[j].ownBlock = some g → vs[k].ownBlock ≠ some g

theorem Fam.below {B : Nat} {w w' : World} {e : TypeId} {vs : List Value} {Z : Nat → List Value} (h : Fam B w e vs Z) (hb : Below w.heap.size w w') : Fam B w' e vs Z :=
  ⟨fun k hk => Ut.own_below (h.own k hk) hb, h.apart⟩

/-- A family's row with one cell written anew. -/
def setZ (Z : Nat → List Value) (k i : Nat) (u : Value) : Nat → List Value := fun j => if j = k then (Z k).set i u else Z j

theorem setZ_len (Z : Nat → List Value) (k i : Nat) (u : Value) (j : Nat) : (setZ Z k i u j).length = (Z j).length := by
  unfold setZ
  by_cases h : j = k
  · rw [if_pos h, List.length_set, h]
  · rw [if_neg h]

theorem Fam.store {B : Nat} {w : World} {e : TypeId} {vs : List Value} {Z : Nat → List Value} (h : Fam B w e vs Z) {k : Nat} (hk : k < vs.length) {g n cap : Nat} (hv : vs[k] = .slice (some ⟨g, 0, none⟩) n cap) (i : Nat) (u : Value) :
    Fam B (w.setCell ⟨g, i, none⟩ u) e vs (setZ Z k i u) := by
  have hob : vs[k].ownBlock = some g := by rw [hv]; rfl
  refine ⟨fun j hj => ?_, h.apart⟩
  rw [setZ_len]
  by_cases hjk : j = k
  · subst hjk
    have ho := h.own j hj
    have hn : (Z j).length = n := by
      have := ho.2
      rcases this with ⟨h1, h2⟩ | ⟨g', cap', cur, h1, _⟩
      · rw [hv] at h1; cases h1
      · rw [hv] at h1
        have := (Value.slice.inj h1).2.1
        exact this.symm
    rw [hv, hn] at ho ⊢
    have := (World.ownsRow.stored ho i u).1
    unfold setZ
    rw [if_pos rfl]
    exact this
  · have hz : setZ Z k i u j = Z j := by unfold setZ; rw [if_neg hjk]
    rw [hz]
    exact ownsRow_setCell_other (h.own j hj) (h.apart k j hk hj (fun e => hjk e.symm) g hob) u

theorem Fam.slice {B : Nat} {w : World} {e : TypeId} {vs : List Value} {Z : Nat → List Value} (h : Fam B w e vs Z) {k : Nat} (hk : k < vs.length) (hn : 0 < (Z k).length) :
    ∃ g cap, vs[k] = .slice (some ⟨g, 0, none⟩) (Z k).length cap ∧ (Z k).length ≤ cap ∧ cap ≤ maxLen ∧ B ≤ g ∧ g < w.heap.size ∧ (∀ j, j < (Z k).length → w.cell? ⟨g, j, none⟩ = (Z k)[j]?) ∧ ∀ j, w.frozen? ⟨g, j, none⟩ = false := by
  have ho := h.own k hk
  obtain ⟨g, cap, e1, e2, e3, e4, e5, e6⟩ := Ut.own_cells ho hn
  exact ⟨g, cap, e1, e2, e3, e4, e5, e6, fun j => World.ownsRow.frozenAt (e1 ▸ ho) j⟩

end Go.Proofs.YtgneebidmhiagaaDoor
