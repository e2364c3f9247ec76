/- A region that draws its order in a round of a range over an iterator: what is shown of it outside a round serves. No program's code. -/
import Derived.Deep.RegionHeld3
import Derived.OrdersIn
import Derived.RangeFuncCalls
import Derived.WalkKit
namespace Go.Proofs.Ytocoonkachbjaaa
open Go.RowKit
set_option linter.unusedVariables false
namespace Mu
variable {P : Program} {ops : Array Oper} {Q : Exit → Act → World → Prop} {l n : Nat}

theorem rowsIn_wide {row : String} {args : Array Value} {w : World} {R : Value → World → Prop} (h : Rows P row args w R) : RowsIn (Fence.wide.inRound l) n P row args w R :=
  fun c cs _ => let ⟨v, w', r, s⟩ := h c cs; ⟨v, w', r, stepsIn_wide.2 s⟩
theorem oper_round {o : Oper} {a : Act} {w : World} {K : Act → World → Prop} (hd : ∀ c, o.op ≠ .defer c) (h : o.wp P a w K Q) : o.wpIn (Fence.wide.inRound l) n P a w K Q := by
  refine ⟨fun _ _ => trivial, ?_⟩
  unfold Oper.wp at h
  rw [Oper.semAt_eq _ _ _ hd]
  generalize (execOp a.eval o).run P w = r at *
  cases r with
  | ok x w' =>
    cases x <;> simp only [Oper.upon, Oper.uponIn] at h ⊢ <;>
      first
        | exact h
        | exact ⟨fun hh => by simp [Fence.wide] at hh, CallsIn.inRound l (callsIn_wide.2 h)⟩
        | exact ⟨fun hh => by simp [Fence.wide] at hh, rowsIn_wide h⟩
  | halt x w' => cases x <;> simp only [Oper.upon, Oper.uponIn] at h ⊢ <;> exact h

theorem any_round {md : Region.Mode} (hno : ¬ LetsOut Q) (hd : ∀ o ∈ ops, ∀ c, o.op ≠ .defer c) : ∀ (fuel : Nat) (listed : Array Bool) (a : Act) (w : World), wpAny P md ops Q fuel listed a w → wpAnyIn (Fence.wide.inRound l) n P md ops Q fuel listed a w
  | 0, listed, a, w, h => h
  | fuel + 1, listed, a, w, h => by
    refine ⟨h.1, fun i hi => ?_⟩
    have h2 := h.2 i hi
    unfold wpOp at h2
    unfold wpOpIn
    cases ho : ops[i]? with
    | none => simp only [ho] at h2 ⊢; exact any_round hno hd fuel _ _ _ h2
    | some o =>
      simp only [ho] at h2 ⊢
      have hdo : ∀ c, o.op ≠ .defer c := hd o (by
        obtain ⟨hlt, e⟩ := Array.getElem?_eq_some_iff.1 ho
        rw [← e]; exact Array.getElem_mem hlt)
      by_cases hw : Region.wanted o (yielded ops a.tmps) = true
      · rw [if_pos hw] at h2 ⊢
        rcases h2 with h2 | ⟨_, h2⟩
        · exact Oper.wpIn_mono (fun a w h => any_round hno hd fuel _ a w h) (oper_round hdo h2)
        · exact absurd h2 hno
      · rw [if_neg hw] at h2 ⊢
        exact ⟨fun _ _ => trivial, any_round hno hd fuel _ _ _ h2⟩

/-- **The statement.** -/
theorem region_round {S : World → Prop} {id : Nat} {a : Act} {w : World} (hm : P.follows .mixedOrders = true) (hno : ¬ LetsOut Q) (hd : ∀ o ∈ ops, ∀ c, o.op ≠ .defer c) (hS : S w.drew)
    (h : S w.drew → wpAnyH P .any ops Q S ops.size (Array.replicate ops.size false) a w.drew) : (Code.region id ops true).wpIn (Fence.wide.inRound l) n P Q a w :=
  wpIn_region_any hm (any_round hno hd _ _ _ _ (wpAny_of_held _ _ _ _ (h hS)))

/-- An operation taken first whose slot is named. -/
theorem take_some {md : Region.Mode} {S : World → Prop} {i k : Nat} {oi : Oper} {v : Value} {fuel : Nat} {listed : Array Bool} {t : List Value} {d : List Deferred} {w : World} (hi : ops[i]? = some oi) (hk : oi.dst = some k)
    (hs : Region.noSelect ops = true) (hf : Region.free md ops listed i = true) (hr : (Region.ready md ops listed).contains i = true)
    (hQ : ∀ c a w, Q (.panic c) (a.put (some k) v) w → Q (.panic c) a w) (hy : YieldsIf P ops S oi v { tmps := t.toArray, defers := d }) (hS : S w)
    (h : wpAnyH P md ops Q S fuel (listed.setIfInBounds i true) { tmps := (t.set k v).toArray, defers := d } w) : wpAnyH P md ops Q S (fuel + 1) listed { tmps := t.toArray, defers := d } w := by
  refine wpAnyH_take hi hs hf hr (fun c a w h => hQ c a w (by rwa [hk] at h)) hy hS ?_
  rw [hk]
  have e : Act.put { tmps := t.toArray, defers := d } (some k) v = { tmps := (t.set k v).toArray, defers := d } := by simp [Act.put]
  rw [e]; exact h

/-- The one call that may come up. -/
theorem call_step {md : Region.Mode} {S : World → Prop} {i k : Nat} {oi : Oper} {fuel : Nat} {listed : Array Bool} {t : List Value} {d : List Deferred} {w : World} {f : FuncId} {args : Array Value} (hi : ops[i]? = some oi) (hk : oi.dst = some k)
    (hr : Region.ready md ops listed = [i]) (hw : Region.wanted oi (yielded ops t.toArray) = true) (hrun : (execOp (Act.eval { tmps := t.toArray, defers := d }) oi).run P w = .ok (.enter f args) w)
    (hc : Calls P f args w fun e w' => ∃ v, e = .returned v ∧ S w' ∧ (S w' → wpAnyH P md ops Q S fuel (listed.setIfInBounds i true) { tmps := (t.set k v).toArray, defers := d } w')) : wpAnyH P md ops Q S (fuel + 1) listed { tmps := t.toArray, defers := d } w := by
  refine wpAnyH_all hr (by simp) (fun j hj => ?_)
  obtain rfl : j = i := by simpa using hj
  unfold wpOp
  simp only [hi]
  rw [if_pos hw]
  left
  unfold Oper.wp
  rw [hrun]
  unfold Oper.upon
  refine Calls.mono hc ?_
  rintro e w' ⟨v, rfl, h1, h2⟩
  refine ⟨h1, ?_⟩
  rw [hk]
  have e : Act.put { tmps := t.toArray, defers := d } (some k) v = { tmps := (t.set k v).toArray, defers := d } := by simp [Act.put]
  rw [e]; exact h2 h1

end Mu
end Go.Proofs.Ytocoonkachbjaaa
