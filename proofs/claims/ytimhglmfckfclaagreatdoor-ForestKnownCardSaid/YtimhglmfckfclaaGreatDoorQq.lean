/- Short names for the walk's simp list, and a pure operation taken first in a region that draws. No program's code. -/
import Derived.OrdersHeld
import Derived.WalkKit
import Derived.Deep.RegionHeld
import Derived.Laws.Rows
import Derived.Lib.Hide
namespace Go.Proofs.YtimhglmfckfclaaGreatDoor
open Go.RowKit
theorem q1 : type_of% @List.getElem_toArray := @List.getElem_toArray
theorem q2 : type_of% @List.getElem_cons_zero := @List.getElem_cons_zero
theorem q3 : type_of% @List.getElem_cons_succ := @List.getElem_cons_succ
theorem q4 : type_of% @List.setIfInBounds_toArray := @List.setIfInBounds_toArray
theorem q5 : type_of% @List.set_cons_zero := @List.set_cons_zero
theorem q6 : type_of% @List.set_cons_succ := @List.set_cons_succ
theorem tk {P : Program} {md : Region.Mode} {ops : Array Oper} {Q : Exit → Act → World → Prop} {S : World → Prop} {fuel : Nat} {listed : Array Bool} {a : Act} {w : World} {oi : Oper} (i : Nat) (hi : ops[i]? = some oi) (v : Value)
    (hy : ∀ wq, S wq → (execOp a.eval oi).run P wq = .ok (.value v) wq) (hS : S w) (h : wpAnyH P md ops Q S fuel (listed.setIfInBounds i true) (a.put oi.dst v) w)
    (hw : Region.wanted oi (yielded ops a.tmps) = true := by rfl) (hs : Region.noSelect ops = true := by kernel_rfl) (hf : Region.free md ops listed i = true := by kernel_rfl) (hr : (Region.ready md ops listed).contains i = true := by kernel_rfl)
    (hQ : ∀ c a w, Q (.panic c) (a.put oi.dst v) w → Q (.panic c) a w := by exact fun _ _ _ h => h) : wpAnyH P md ops Q S (fuel + 1) listed a w := wpAnyH_take hi hs hf hr hQ (.inl ⟨hw, hy⟩) hS h
theorem tq {P : Program} {md : Region.Mode} {ops : Array Oper} {Q : Exit → Act → World → Prop} {S : World → Prop} {fuel : Nat} {listed : Array Bool} {a : Act} {w : World} {oi : Oper} (i : Nat) (hi : ops[i]? = some oi) (v : Value)
    (hS : S w) (h : wpAnyH P md ops Q S fuel (listed.setIfInBounds i true) (a.put oi.dst v) w) (hy : ∀ wq, S wq → (execOp a.eval oi).run P wq = .ok (.value v) wq := by intro wq hq; (repeat obtain ⟨_, hq⟩ := hq); go_simp)
    (hw : Region.wanted oi (yielded ops a.tmps) = true := by rfl) (hs : Region.noSelect ops = true := by kernel_rfl) (hf : Region.free md ops listed i = true := by kernel_rfl) (hr : (Region.ready md ops listed).contains i = true := by kernel_rfl)
    (hQ : ∀ c a w, Q (.panic c) (a.put oi.dst v) w → Q (.panic c) a w := by exact fun _ _ _ h => h) : wpAnyH P md ops Q S (fuel + 1) listed a w := wpAnyH_take hi hs hf hr hQ (.inl ⟨hw, hy⟩) hS h
theorem zq : (∀ (a : Act) (d : Option Tmp) (v : Value), a.put d v = match d with | some d => { a with tmps := a.tmps.setIfInBounds d v } | none => a) ∧ type_of% @q1.{0} ∧ type_of% @q2.{0} ∧ type_of% @q3.{0} ∧ type_of% @q4.{0} ∧ type_of% @q5.{0} ∧ type_of% @q6.{0} := ⟨fun a d v => by cases d <;> rfl, @q1.{0}, @q2.{0}, @q3.{0}, @q4.{0}, @q5.{0}, @q6.{0}⟩
theorem zr {P : Program} {md : Region.Mode} {ops : Array Oper} {Q : Exit → Act → World → Prop} {S : World → Prop} {fuel : Nat} {listed : Array Bool} {a : Act} {w : World} (i : Nat) {o : Oper} (ho : ops[i]? = some o)
    (h : ∀ K' : Act → World → Prop, Shut (∀ a w, S w → (S w → wpAnyH P md ops Q S fuel (listed.setIfInBounds i true) a w) → K' a w) → if Region.wanted o (yielded ops a.tmps) = true then Oper.wp P o a w K' Q else K' (a.put o.dst undef) w) (hr : Region.ready md ops listed = [i] := by kernel_rfl) : wpAnyH P md ops Q S (fuel + 1) listed a w := wpAnyH_ready hr (by simp) (AllReadyH.cons ho h AllReadyH.nil)
theorem tu {P : Program} {md : Region.Mode} {ops : Array Oper} {Q : Exit → Act → World → Prop} {S : World → Prop} {fuel : Nat} {listed : Array Bool} {a : Act} {w : World} {oi : Oper} (i : Nat) (hi : ops[i]? = some oi) (hS : S w) (h : wpAnyH P md ops Q S fuel (listed.setIfInBounds i true) (a.put oi.dst undef) w)
    (hw : Region.wanted oi (yielded ops a.tmps) = false := by rfl) (hs : Region.noSelect ops = true := by kernel_rfl) (hf : Region.free md ops listed i = true := by kernel_rfl) (hr : (Region.ready md ops listed).contains i = true := by kernel_rfl)
    (hQ : ∀ c a w, Q (.panic c) (a.put oi.dst undef) w → Q (.panic c) a w := by exact fun _ _ _ h => h) : wpAnyH P md ops Q S (fuel + 1) listed a w := wpAnyH_take hi hs hf hr hQ (.inr ⟨hw, rfl⟩) hS h
theorem zh {p : Prop} (h : p) : RowKit.Hid p := h
theorem zc {w : World} {g j : Nat} {cs : Array Value} {t : TypeId} {fr : Nat × Nat} (hg : w.heap[g]? = some (.cells cs t fr)) : w.cell? ⟨g, j, none⟩ = cs[j]? := cell_of_row _ _ _ _ _ _ hg
theorem zl {w : World} {g j : Nat} {cs : Array Value} {t : TypeId} {fr : Nat × Nat} {v : Value} (hg : w.heap[g]? = some (.cells cs t fr)) (h : cs[j]? = some v) : w.cell? ⟨g, j, none⟩ = some v := (cell_of_row _ _ _ _ _ _ hg).trans h
theorem zx {α : Type} {xs : Array α} {i : Nat} {o : α} (h : xs[i]? = some o) : i < xs.size := (Array.getElem?_eq_some_iff.1 h).1
end Go.Proofs.YtimhglmfckfclaaGreatDoor
