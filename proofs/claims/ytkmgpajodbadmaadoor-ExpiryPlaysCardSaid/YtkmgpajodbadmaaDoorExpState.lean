/- An expiry and the document's one beside it: how they lie. No program's code is walked here. -/
import Derived.Test.YtkmgpajodbadmaaDoorExpRef3
import Derived.Test.YtkmgpajodbadmaaDoorExpDue
import Derived.Test.YtkmgpajodbadmaaDoorExpNext
namespace Go.Proofs.YtkmgpajodbadmaaDoor
open Go.RowKit
set_option linter.unusedVariables false
namespace Ex

/-- An expiry of S and the document's one of R. -/
structure EBoth (lo E r N : Nat) (S R : List Ent) (F : Nat → Prop) (v : Value) (w : World) : Prop where
  exp : ExpAt lo E N S F w
  ref : RefE lo r R v w
  far : ¬ F r
  farv : ∀ b, v.ownBlock = some b → ¬ F b

/-- Behind a call that writes the expiry alone. -/
theorem EBoth.exps {lo E r N N' : Nat} {S R S' : List Ent} {F F' : Nat → Prop} {v : Value} {w w' : World} (h : EBoth lo E r N S R F v w) (hh : ExpAt lo E N' S' F' w') (ho : Only F w w') (hn : ∀ k, F' k → F k ∨ w.heap.size ≤ k) : EBoth lo E r N' S' R F' v w' :=
  ⟨hh, h.ref.only ho h.far h.farv, fun hf => by
    rcases hn r hf with e | e
    · exact h.far e
    · have := h.ref.lt; omega, fun b e hf => by
    rcases hn b hf with e2 | e2
    · exact h.farv b e e2
    · have := (h.ref.row.lt b e).2; omega⟩
/-- Behind a call that writes the document's one alone. -/
theorem EBoth.refs {lo E r N : Nat} {S R R' : List Ent} {F : Nat → Prop} {v v' : Value} {w w' : World} (h : EBoth lo E r N S R F v w) (hr : RefE lo r R' v' w') (ho : Only (fun b => b = r) w w') (hn : ∀ b, v'.ownBlock = some b → w.heap.size ≤ b) : EBoth lo E r N S R' F v' w' :=
  ⟨h.exp.only ho (fun k hk e => h.far (e ▸ hk)), hr, h.far, fun b e hf => by
    have := (h.exp.lt b hf).2; have := hn b e; omega⟩
theorem EBoth.below {lo E r N : Nat} {S R : List Ent} {F : Nat → Prop} {v : Value} {w w' : World} (h : EBoth lo E r N S R F v w) (hb : Below w.heap.size w w') : EBoth lo E r N S R F v w' :=
  ⟨h.exp.below hb, h.ref.below hb, h.far, h.farv⟩
theorem EBoth.only {G : Nat → Prop} {lo E r N : Nat} {S R : List Ent} {F : Nat → Prop} {v : Value} {w w' : World} (h : EBoth lo E r N S R F v w) (ho : Only G w w') (h1 : ∀ k, F k → ¬ G k) (h2 : ¬ G r) (h3 : ∀ b, v.ownBlock = some b → ¬ G b) : EBoth lo E r N S R F v w' :=
  ⟨h.exp.only ho h1, h.ref.only ho h2 h3, h.far, h.farv⟩
theorem EBoth.eq {lo E r N : Nat} {S R S' R' : List Ent} {F : Nat → Prop} {v : Value} {w : World} (h : EBoth lo E r N S R F v w) (e1 : S = S') (e2 : R = R') : EBoth lo E r N S' R' F v w := by subst e1; subst e2; exact h
/-- The turn of a block that is no cells, and lies behind the expiry's. -/
theorem EBoth.turned {lo E r N : Nat} {S R : List Ent} {F : Nat → Prop} {v : Value} {w w' : World} {row : Option Nat} (h : EBoth lo E r N S R F v w) (hg : w.grownBy w' row) (hr : ∀ k, row = some k → E ≤ k ∧ ∃ o : Obj, w.heap[k]? = some o ∧ o.isCells = false) : EBoth lo E r N S R F v w' := by
  have ho : Only (fun k => row = some k) w w' := (Only.refl (fun k => row = some k) w).grown hg (fun k _ e => e)
  refine h.only ho (fun k hk e => ?_) (fun e => ?_) (fun b eb e => ?_)
  · obtain ⟨hE, o, h1, h2⟩ := hr k e
    obtain ⟨o', h3, h4⟩ := h.exp.isCells hk hE
    rw [h1] at h3; cases h3; rw [h2] at h4; cases h4
  · obtain ⟨_, o, h1, h2⟩ := hr r e
    have := h.ref.top
    rw [h1] at this; cases this; cases h2
  · obtain ⟨_, o, h1, h2⟩ := hr b e
    obtain ⟨o', h3, h4⟩ := own_isCells h.ref.row eb
    rw [h1] at h3; cases h3; rw [h2] at h4; cases h4
/-- A step that writes the expiry alone keeps what is no cells, from the expiry's own block on. -/
theorem ExpAt.keeps {lo E N B : Nat} {S : List Ent} {F : Nat → Prop} {w w' : World} (h : ExpAt lo E N S F w) (ho : Only F w w') (hE : E ≤ B) : KeepsFrom B w w' :=
  ⟨ho.size, fun k o hB hk hc => (ho.block k (Array.getElem?_eq_some_iff.1 hk).1 (fun hf => by
    obtain ⟨o', h3, h4⟩ := h.isCells hf (Nat.le_trans hE hB)
    rw [hk] at h3; cases h3; rw [hc] at h4; cases h4)).trans hk⟩
theorem keeps_ref {lo r B : Nat} {R : List Ent} {v : Value} {w w' : World} (h : RefE lo r R v w) (ho : Only (fun b => b = r) w w') : KeepsFrom B w w' :=
  ⟨ho.size, fun k o hB hk hc => (ho.block k (Array.getElem?_eq_some_iff.1 hk).1 (fun hf => by
    subst hf
    have := h.top
    rw [hk] at this; cases this; cases hc)).trans hk⟩
theorem keeps_below {B : Nat} {w w' : World} (hb : Below w.heap.size w w') : KeepsFrom B w w' :=
  ⟨hb.size, fun k o hB hk hc => (hb.block k (Array.getElem?_eq_some_iff.1 hk).1).trans hk⟩
theorem only_turned {B : Nat} {G : Nat → Prop} {w0 w w' : World} {row : Option Nat} (h : Only G w0 w) (hB : w0.heap.size ≤ B) (hg : w.grownBy w' row) (hr : ∀ k, row = some k → B ≤ k ∧ ∃ o : Obj, w.heap[k]? = some o ∧ o.isCells = false) : Only G w0 w' :=
  h.grown hg (fun k hk e => by have := (hr k e).1; omega)

theorem wo_head {x : Ent} {t : List Ent} (h : Inv (x :: t)) : wo (x :: t) x.1 = t := by
  have h1 := List.nodup_cons.1 (show (x.1 :: (items t).map Prod.fst).Nodup from h.good.nodup)
  unfold wo
  rw [List.filter_cons, if_neg (by simp), List.filter_eq_self]
  intro e he
  have : e.1 ≠ x.1 := fun e2 => h1.1 (List.mem_map.2 ⟨itm e, List.mem_map.2 ⟨e, he, rfl⟩, e2⟩)
  simpa using this
theorem put_len (S : List Ent) (x : Ent) : (put S x).length = S.length + 1 := by rw [(put_perm S x).length_eq]; rfl

end Ex
end Go.Proofs.YtkmgpajodbadmaaDoor
