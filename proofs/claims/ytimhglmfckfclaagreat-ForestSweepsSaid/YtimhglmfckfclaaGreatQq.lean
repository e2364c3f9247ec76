/- Short names for the walk's simp list, and a pure operation taken first in a region that draws. No program's code. -/
import Derived.OrdersHeld
import Derived.WalkKit
namespace Go.Proofs.YtimhglmfckfclaaGreat
open Go.RowKit
theorem q1 : type_of% @List.getElem_toArray := @List.getElem_toArray
theorem q2 : type_of% @List.getElem_cons_zero := @List.getElem_cons_zero
theorem q3 : type_of% @List.getElem_cons_succ := @List.getElem_cons_succ
theorem q4 : type_of% @List.setIfInBounds_toArray := @List.setIfInBounds_toArray
theorem q5 : type_of% @List.set_cons_zero := @List.set_cons_zero
theorem q6 : type_of% @List.set_cons_succ := @List.set_cons_succ
theorem tk {P : Program} {md : Region.Mode} {ops : Array Oper} {Q : Exit → Act → World → Prop} {S : World → Prop} {fuel : Nat} {listed : Array Bool} {a : Act} {w : World} {oi : Oper} (i : Nat) (hi : ops[i]? = some oi) (v : Value)
    (hy : ∀ wq, S wq → (execOp a.eval oi).run P wq = .ok (.value v) wq) (hS : S w) (h : wpAnyH P md ops Q S fuel (listed.setIfInBounds i true) (a.put oi.dst v) w)
    (hw : Region.wanted oi (yielded ops a.tmps) = true := by rfl) (hs : Region.noSelect ops = true := by kernel_rfl) (hf : Region.free md ops listed i = true := by kernel_rfl) (hr : (Region.ready md ops listed).contains i = true := by kernel_rfl)
    (hQ : ∀ c a w, Q (.panic c) (a.put oi.dst v) w → Q (.panic c) a w := by exact fun _ _ _ h => h) : wpAnyH P md ops Q S (fuel + 1) listed a w := wpAnyH_take hi hs hf hr hQ (.inl ⟨hw, hy⟩) hS h
theorem tq {P : Program} {md : Region.Mode} {ops : Array Oper} {Q : Exit → Act → World → Prop} {S : World → Prop} {fuel : Nat} {listed : Array Bool} {a : Act} {w : World} {oi : Oper} (i : Nat) (hi : ops[i]? = some oi) (v : Value)
    (hS : S w) (h : wpAnyH P md ops Q S fuel (listed.setIfInBounds i true) (a.put oi.dst v) w) (hy : ∀ wq, S wq → (execOp a.eval oi).run P wq = .ok (.value v) wq := by intro wq hq; (repeat obtain ⟨_, hq⟩ := hq); go_simp)
    (hw : Region.wanted oi (yielded ops a.tmps) = true := by rfl) (hs : Region.noSelect ops = true := by kernel_rfl) (hf : Region.free md ops listed i = true := by kernel_rfl) (hr : (Region.ready md ops listed).contains i = true := by kernel_rfl)
    (hQ : ∀ c a w, Q (.panic c) (a.put oi.dst v) w → Q (.panic c) a w := by exact fun _ _ _ h => h) : wpAnyH P md ops Q S (fuel + 1) listed a w := wpAnyH_take hi hs hf hr hQ (.inl ⟨hw, hy⟩) hS h
end Go.Proofs.YtimhglmfckfclaaGreat
