/- Several texts in one: what each proves its own first comment says. -/
import Derived.Test.YtocoonkachbjaaaGreatDoorM14
import Derived.RangeFuncKeeps
import Derived.Sort.LoopGhostIn
import Derived.Maps.OwnIn
import Derived.RangeFuncWrites
import Derived.RangeFuncBound
import Derived.WalkKit

/- A region that draws its order, inside a fence of any function (in a round of a range over an iterator too): what yields its value in every world that meets S is taken first; a call of yield is met by its contract. No program's code. -/
namespace Go.Proofs.YtocoonkachbjaaaGreatDoor
open Go.RowKit
set_option linter.unusedVariables false
namespace Hi
variable {F : Fence} {n : Nat} {P : Program} {ops : Array Oper} {Q : Exit → Act → World → Prop} {md : Region.Mode} {S : World → Prop} {Z : Nat → Bool}

/-- Whatever order is picked, S holds behind each operation. -/
def AnyH (F : Fence) (n : Nat) (P : Program) (md : Region.Mode) (ops : Array Oper) (Q : Exit → Act → World → Prop) (S : World → Prop) (Z : Nat → Bool) : Nat → Array Bool → Act → World → Prop
  | 0, listed, a, w => Region.ready md ops listed = [] ∧ Q .normal a w
  | fuel + 1, listed, a, w => (Region.ready md ops listed = [] → Q .normal a w) ∧ ∀ i ∈ Region.ready md ops listed, wpOpIn F n P ops Q i (fun a' w' => (Z i = false → S w') ∧ AnyH F n P md ops Q S Z fuel (listed.setIfInBounds i true) a' w') a w

theorem any_of : ∀ (fuel : Nat) (listed : Array Bool) (a : Act) (w : World), AnyH F n P md ops Q S Z fuel listed a w → wpAnyIn F n P md ops Q fuel listed a w
  | 0, _, _, _, h => h
  | fuel + 1, _, _, _, h => ⟨h.1, fun i hi => wpOpIn_mono (fun a' w' h' => any_of fuel _ a' w' h'.2) (h.2 i hi)⟩

theorem yields_op {i : Nat} {o : Oper} {v : Value} {a : Act} (hF : ∀ f, F.fn f) (hi : ops[i]? = some o) (hd : ∀ c, o.op ≠ .defer c) (hy : YieldsIf P ops S o v a) {K : Act → World → Prop} {w : World} (hS : S w) (h : K (a.put o.dst v) w) : wpOpIn F n P ops Q i K a w := by
  unfold wpOpIn
  simp only [hi]
  rcases hy with ⟨hw, hv⟩ | ⟨hw, rfl⟩
  · rw [if_pos hw]
    refine ⟨fun f _ => hF f, ?_⟩
    rw [Oper.semAt_eq _ _ _ hd, hv w hS]
    exact h
  · rw [if_neg (by rw [hw]; exact Bool.false_ne_true)]
    exact ⟨fun f _ => hF f, h⟩

theorem op_putIf {j : Nat} {oi oj : Oper} {v : Value} (hF : ∀ f, F.fn f) (hj : ops[j]? = some oj) (hd : ∀ c, oj.op ≠ .defer c) (hap : oi.apart ops oj = true) (hsi : ∀ cs b, oi.op ≠ .select cs b) (hsj : ∀ cs b, oj.op ≠ .select cs b)
    (hQ : ∀ c a w, Q (.panic c) (a.put oi.dst v) w → Q (.panic c) a w) {K : Act → World → Prop} {a : Act} {w : World} (hy : YieldsIf P ops S oi v a) (h : wpOpIn F n P ops Q j K (a.put oi.dst v) w) :
    wpOpIn F n P ops Q j (fun a' w' => YieldsIf P ops S oi v a' ∧ K (a'.put oi.dst v) w') a w := by
  obtain ⟨h1, h2, h3⟩ := Oper.apart_spec hap
  have keep : ∀ (a : Act), YieldsIf P ops S oi v a → ∀ u, YieldsIf P ops S oi v (a.put oj.dst u) := fun a hy u => hy.of_same (execOp_put oi hsi a oj.dst u h3) (wanted_put oi a oj.dst u h3)
  unfold wpOpIn at *
  simp only [hj] at *
  rw [wanted_put oj a oi.dst v h1] at h
  by_cases hw : Region.wanted oj (yielded ops a.tmps) = true
  · rw [if_pos hw] at h ⊢
    refine ⟨fun f _ => hF f, ?_⟩
    have h := h.2
    rw [Oper.semAt_eq _ _ _ hd, execOp_put oj hsj a oi.dst v h1] at h
    rw [Oper.semAt_eq _ _ _ hd]
    generalize (execOp a.eval oj).run P w = r at *
    cases r with
    | ok x w' =>
      cases x <;> simp only [Oper.uponIn] at h ⊢
      case value u => exact ⟨keep a hy u, by rw [← Act.put_comm a v u h2]; exact h⟩
      case skip => exact ⟨keep a hy _, by rw [← Act.put_comm a v undef h2]; exact h⟩
      case defer d => exact ⟨(hy.of_same (a' := { a with defers := d :: a.defers }) rfl rfl).of_same (execOp_put oi hsi _ oj.dst undef h3) (wanted_put oi _ oj.dst undef h3), by rw [← Act.put_comm _ v undef h2, ← Act.put_defers]; exact h⟩
      case enter f args =>
        refine ⟨h.1, CallsIn.mono h.2 fun e w'' he => ?_⟩
        cases e with
        | returned u => exact ⟨keep a hy u, by rw [← Act.put_comm a v u h2]; exact he⟩
        | panicked c => exact hQ _ _ _ he
        | outgrown => exact he
      case row row args => exact ⟨h.1, RowsIn.mono h.2 fun u w'' he => ⟨keep a hy u, by rw [← Act.put_comm a v u h2]; exact he⟩⟩
      case round l f tmps assign body =>
        refine ⟨h.1, RoundIn.mono h.2 fun e w'' he => ?_⟩
        cases e with
        | returned u => exact ⟨keep a hy u, by rw [← Act.put_comm a v u h2]; exact he⟩
        | panicked c => exact hQ _ _ _ he
        | outgrown => exact he
    | halt x w' =>
      cases x <;> simp only [Oper.uponIn] at h ⊢
      case panic u => exact hQ _ _ _ h
  · rw [if_neg hw] at h ⊢
    exact ⟨fun f _ => hF f, keep a hy _, by rw [← Act.put_comm a v undef h2]; exact h.2⟩

/-- What is listed has what it waits for listed. -/
def Closed (md : Region.Mode) (ops : Array Oper) (listed : Array Bool) : Prop := ∀ (j : Nat) (oj : Oper), ops[j]? = some oj → listed.getD j false = true → ∀ e ∈ oj.after, Region.binds md e = true → listed.getD e.on false = true
def closedB (md : Region.Mode) (ops : Array Oper) (listed : Array Bool) : Bool := (List.range ops.size).all fun j => match ops[j]? with
  | some oj => !listed.getD j false || oj.after.all fun e => !Region.binds md e || listed.getD e.on false
  | none => true
theorem closed_of {listed : Array Bool} (h : closedB md ops listed = true) : Closed md ops listed := fun j oj hj hl e he hb => by
  have h1 := (List.all_eq_true.1 h) j (List.mem_range.2 (Array.getElem?_eq_some_iff.1 hj).1)
  simp only [hj, hl, Bool.not_true, Bool.false_or] at h1
  have h2 := (Array.all_eq_true_iff_forall_mem.1 h1) e he
  rw [hb] at h2
  simpa using h2
theorem Closed.set {listed : Array Bool} {j : Nat} (h : Closed md ops listed) (hj : j ∈ Region.ready md ops listed) : Closed md ops (listed.setIfInBounds j true) := fun k ok hk hl e he hb => by
  by_cases hjk : j = k
  · subst hjk
    obtain ⟨_, o, ho, hall⟩ := mem_ready.1 hj
    rw [hk] at ho
    cases ho
    exact getD_set_true (hall e he hb)
  · rw [getD_set_ne false hjk] at hl
    exact getD_set_true (h k ok hk hl e he hb)
/-- Does z wait for i, by whatever ways? -/
def must (md : Region.Mode) (ops : Array Oper) (i : Nat) : Nat → Nat → Bool
  | 0, _ => false
  | f + 1, z => match ops[z]? with
    | some oz => oz.after.any fun e => Region.binds md e && (e.on == i || must md ops i f e.on)
    | none => false
theorem must_listed {i : Nat} {listed : Array Bool} (hc : Closed md ops listed) : ∀ (f z : Nat), must md ops i f z = true → listed.getD z false = true → listed.getD i false = true
  | 0, z, h, _ => by cases h
  | f + 1, z, h, hz => by
    unfold must at h
    split at h
    · rename_i oz ho
      obtain ⟨e, he, hb⟩ := Array.any_eq_true'.1 h
      simp only [Bool.and_eq_true, Bool.or_eq_true, beq_iff_eq] at hb
      have h1 := hc z oz ho hz e he hb.1
      rcases hb.2 with h2 | h2
      · rw [← h2]; exact h1
      · exact must_listed hc f e.on h2 h1
    · cases h
theorem must_ready {i z : Nat} {listed : Array Bool} (hc : Closed md ops listed) (f : Nat) (h : must md ops i f z = true) (hz : z ∈ Region.ready md ops listed) : listed.getD i false = true := by
  cases f with
  | zero => cases h
  | succ f =>
    obtain ⟨_, o, ho, hall⟩ := mem_ready.1 hz
    unfold must at h
    rw [ho] at h
    obtain ⟨e, he, hb⟩ := Array.any_eq_true'.1 h
    simp only [Bool.and_eq_true, Bool.or_eq_true, beq_iff_eq] at hb
    have h1 := hall e he hb.1
    rcases hb.2 with h2 | h2
    · rw [← h2]; exact h1
    · exact must_listed hc f e.on h2 h1
theorem unlisted {i : Nat} {listed : Array Bool} (hi : listed.getD i true = false) : ¬ listed.getD i false = true := fun h => by
  rcases Nat.lt_or_ge i listed.size with h' | h'
  · simp [h'] at hi h; rw [hi] at h; cases h
  · simp [Array.getElem?_eq_none h'] at h
/-- All of Z wait for i. -/
def waitB (md : Region.Mode) (ops : Array Oper) (Z : Nat → Bool) (i : Nat) (listed : Array Bool) : Bool := (List.range ops.size).all fun z => (!Z z || z == i) || (must md ops i ops.size z || listed.getD z false)
theorem wait_of {i z : Nat} {listed : Array Bool} (h : waitB md ops Z i listed = true) (hz : z < ops.size) (hZ : Z z = true) (hne : z ≠ i) : must md ops i ops.size z = true ∨ listed.getD z false = true := by
  have h1 := (List.all_eq_true.1 h) z (List.mem_range.2 hz)
  rw [hZ] at h1
  simpa [hne] using h1

theorem first {i : Nat} {oi : Oper} {v : Value} (hF : ∀ f, F.fn f) (hd : ∀ (j : Nat) (o : Oper) c, ops[j]? = some o → o.op ≠ .defer c) (hi : ops[i]? = some oi) (hsel : ∀ (j : Nat) (o : Oper) cs b, ops[j]? = some o → o.op ≠ .select cs b)
    (hQ : ∀ c a w, Q (.panic c) (a.put oi.dst v) w → Q (.panic c) a w) :
    ∀ (fuel : Nat) (listed : Array Bool) (a : Act) (w : World),
      (∀ j oj, ops[j]? = some oj → j ≠ i → listed.getD j true = false → (∀ e ∈ oj.after, Region.binds md e = true → e.on ≠ i) → oi.apart ops oj = true) →
      (∀ z, z < ops.size → Z z = true → z ≠ i → must md ops i ops.size z = true ∨ listed.getD z false = true) → Closed md ops listed → i ∈ Region.ready md ops listed → YieldsIf P ops S oi v a → S w →
      AnyH F n P md ops Q S Z fuel (listed.setIfInBounds i true) (a.put oi.dst v) w → AnyH F n P md ops Q S Z (fuel + 1) listed a w
  | 0, listed, a, w, _, _, _, hr, hy, hS, H => by
    refine ⟨fun h => (by rw [h] at hr; cases hr), fun j hj => ?_⟩
    by_cases hji : j = i
    · subst hji; exact yields_op hF hi (hd _ _ · hi) hy hS ⟨fun _ => hS, H⟩
    · have := ready_mono hj hji
      rw [H.1] at this
      cases this
  | fuel + 1, listed, a, w, hfree, hwt, hcl, hr, hy, hS, H => by
    refine ⟨fun h => (by rw [h] at hr; cases hr), fun j hj => ?_⟩
    by_cases hji : j = i
    · subst hji; exact yields_op hF hi (hd _ _ · hi) hy hS ⟨fun _ => hS, H⟩
    · have h1 := H.2 j (ready_mono hj hji)
      obtain ⟨hjun, oj, hoj, hall⟩ := mem_ready.1 hj
      have hnot : ∀ e ∈ oj.after, Region.binds md e = true → e.on ≠ i := fun e he hb heq => by
        have h1 := hall e he hb
        have h0 := (mem_ready.1 hr).1
        rw [heq] at h1
        rcases Nat.lt_or_ge i listed.size with h' | h'
        · simp [h'] at h0 h1; rw [h0] at h1; cases h1
        · simp [Array.getElem?_eq_none h'] at h1
      have h2 := op_putIf hF hoj (hd _ _ · hoj) (hfree j oj hoj hji hjun hnot) (fun cs b => hsel i oi cs b hi) (fun cs b => hsel j oj cs b hoj) hQ hy h1
      have hfree' : ∀ k ok, ops[k]? = some ok → k ≠ i → (listed.setIfInBounds j true).getD k true = false → (∀ e ∈ ok.after, Region.binds md e = true → e.on ≠ i) → oi.apart ops ok = true := fun k ok hk hki hun hno => by
        refine hfree k ok hk hki ?_ hno
        by_cases hjk : j = k
        · subst hjk; exact hjun
        · rw [getD_set_ne true hjk] at hun; exact hun
      have hzj : Z j = false := by
        cases hz : Z j with
        | false => rfl
        | true =>
          rcases hwt j (Array.getElem?_eq_some_iff.1 hoj).1 hz hji with h5 | h5
          · exact absurd (must_ready hcl ops.size h5 hj) (unlisted (mem_ready.1 hr).1)
          · exact absurd h5 (unlisted hjun)
      refine wpOpIn_mono (fun a' w' h3 => ⟨h3.2.1, first hF hd hi hsel hQ fuel (listed.setIfInBounds j true) a' w' hfree' (fun z h6 h7 h8 => (hwt z h6 h7 h8).imp id getD_set_true) (hcl.set hj) (ready_mono hr (Ne.symm hji)) h3.1 (h3.2.1 hzj) ?_⟩) h2
      rw [Array.setIfInBounds_comm _ _ hji]
      exact h3.2.2

/-- Is no operation a defer statement? -/
def noDefer (ops : Array Oper) : Bool := ops.all fun o => match o.op with | .defer _ => false | _ => true
theorem noDefer_spec (h : noDefer ops = true) (j : Nat) (o : Oper) (c) (ho : ops[j]? = some o) : o.op ≠ .defer c := fun e => by
  obtain ⟨hlt, e2⟩ := Array.getElem?_eq_some_iff.1 ho
  have := (Array.all_eq_true_iff_forall_mem.1 h) o (by rw [← e2]; exact Array.getElem_mem hlt)
  rw [e] at this
  cases this

/-- **The beginning.** -/
theorem begin_ {id : Nat} {a : Act} {w : World} (hm : P.follows .mixedOrders = true) (hS : S w.drew) (h : S w.drew → AnyH F n P .any ops Q S Z ops.size (Array.replicate ops.size false) a w.drew) : (Code.region id ops true).wpIn F n P Q a w :=
  wpIn_region_any hm (any_of _ _ _ _ (h hS))
/-- An operation taken first whose slot is named. -/
theorem take {i k : Nat} {oi : Oper} {v : Value} {fuel : Nat} {listed : Array Bool} {t : List Value} {d : List Deferred} {w : World} (hF : ∀ f, F.fn f) (hnd : noDefer ops = true) (hi : ops[i]? = some oi) (hk : oi.dst = some k)
    (hs : Region.noSelect ops = true) (hf : Region.free md ops listed i = true) (hr : (Region.ready md ops listed).contains i = true)
    (hQ : ∀ c a w, Q (.panic c) (a.put (some k) v) w → Q (.panic c) a w) (hwt : waitB md ops Z i listed = true) (hcl : closedB md ops listed = true) (hy : YieldsIf P ops S oi v { tmps := t.toArray, defers := d }) (hS : S w)
    (h : AnyH F n P md ops Q S Z fuel (listed.setIfInBounds i true) { tmps := (t.set k v).toArray, defers := d } w) : AnyH F n P md ops Q S Z (fuel + 1) listed { tmps := t.toArray, defers := d } w := by
  refine first hF (noDefer_spec hnd) hi (Region.noSelect_spec hs) (fun c a w h => hQ c a w (by rwa [hk] at h)) fuel listed _ w (Region.free_spec hi hf) (fun z h6 h7 h8 => wait_of hwt h6 h7 h8) (closed_of hcl) (by simpa using hr) hy hS ?_
  rw [hk]
  have e : Act.put { tmps := t.toArray, defers := d } (some k) v = { tmps := (t.set k v).toArray, defers := d } := by simp [Act.put]
  rw [e]; exact h
theorem room {i k : Nat} {oi : Oper} {fuel : Nat} {listed : Array Bool} {t : List Value} {d : List Deferred} {w : World} (hi : ops[i]? = some oi) (hr : Region.ready md ops listed = [i]) (hw : Region.wanted oi (yielded ops t.toArray) = true) (h : oi.wpIn F n P { tmps := t.toArray, defers := d } w (fun a' w' => (Z i = false → S w') ∧ AnyH F n P md ops Q S Z fuel (listed.setIfInBounds i true) a' w') Q) :
    AnyH F n P md ops Q S Z (fuel + 1) listed { tmps := t.toArray, defers := d } w := by
  refine ⟨fun h0 => (by rw [hr] at h0; cases h0), fun j hj => ?_⟩
  rw [hr] at hj
  obtain rfl : j = i := by simpa using hj
  unfold wpOpIn
  simp only [hi]
  rw [if_pos hw]
  exact h
/-- The one call that may come up. -/
theorem call_ {i k : Nat} {oi : Oper} {fuel : Nat} {listed : Array Bool} {t : List Value} {d : List Deferred} {w : World} {f : FuncId} {args : Array Value} (hF : ∀ f, F.fn f) (hdp : F.depth.isSome = true → 1 ≤ n) (hnd : ∀ c, oi.op ≠ .defer c) (hi : ops[i]? = some oi) (hk : oi.dst = some k)
    (hr : Region.ready md ops listed = [i]) (hw : Region.wanted oi (yielded ops t.toArray) = true) (hrun : (execOp (Act.eval { tmps := t.toArray, defers := d }) oi).run P w = .ok (.enter f args) w)
    (hc : CallsIn F (n - 1) P f args w fun e w' => ∃ v, e = .returned v ∧ (Z i = false → S w') ∧ ((Z i = false → S w') → AnyH F n P md ops Q S Z fuel (listed.setIfInBounds i true) { tmps := (t.set k v).toArray, defers := d } w')) : AnyH F n P md ops Q S Z (fuel + 1) listed { tmps := t.toArray, defers := d } w := by
  refine room (k := k) hi hr hw ⟨fun f _ => hF f, ?_⟩
  rw [Oper.semAt_eq _ _ _ hnd, hrun]
  refine ⟨hdp, CallsIn.mono hc ?_⟩
  rintro e w' ⟨v, rfl, h1, h2⟩
  refine ⟨h1, ?_⟩
  rw [hk]
  have e : Act.put { tmps := t.toArray, defers := d } (some k) v = { tmps := (t.set k v).toArray, defers := d } := by simp [Act.put]
  rw [e]; exact h2 h1
/-- The one call of yield that may come up. -/
theorem yield_ {i k l : Nat} {oi : Oper} {fuel : Nat} {listed : Array Bool} {t : List Value} {d : List Deferred} {w : World} {fn : FuncId} {tmps : Array Value} {assign body : Code} (hF : ∀ f, F.fn f) (hdp : F.depth.isSome = true → 1 ≤ n) (hnd : ∀ c, oi.op ≠ .defer c) (hi : ops[i]? = some oi) (hk : oi.dst = some k)
    (hr : Region.ready md ops listed = [i]) (hw : Region.wanted oi (yielded ops t.toArray) = true) (hrun : (execOp (Act.eval { tmps := t.toArray, defers := d }) oi).run P w = .ok (.round l fn tmps assign body) w)
    (hc : RoundIn F (n - 1) P l fn tmps assign body w fun e w' => ∃ v, e = .returned v ∧ (Z i = false → S w') ∧ ((Z i = false → S w') → AnyH F n P md ops Q S Z fuel (listed.setIfInBounds i true) { tmps := (t.set k v).toArray, defers := d } w')) : AnyH F n P md ops Q S Z (fuel + 1) listed { tmps := t.toArray, defers := d } w := by
  refine room (k := k) hi hr hw ⟨fun f _ => hF f, ?_⟩
  rw [Oper.semAt_eq _ _ _ hnd, hrun]
  refine ⟨hdp, RoundIn.mono hc ?_⟩
  rintro e w' ⟨v, rfl, h1, h2⟩
  refine ⟨h1, ?_⟩
  rw [hk]
  have e : Act.put { tmps := t.toArray, defers := d } (some k) v = { tmps := (t.set k v).toArray, defers := d } := by simp [Act.put]
  rw [e]; exact h2 h1
/-- The one operation that may come up. -/
theorem val_ {i k : Nat} {oi : Oper} {fuel : Nat} {listed : Array Bool} {t : List Value} {d : List Deferred} {w w' : World} {v : Value} (hF : ∀ f, F.fn f) (hnd : ∀ c, oi.op ≠ .defer c) (hi : ops[i]? = some oi) (hk : oi.dst = some k)
    (hr : Region.ready md ops listed = [i]) (hw : Region.wanted oi (yielded ops t.toArray) = true) (hrun : (execOp (Act.eval { tmps := t.toArray, defers := d }) oi).run P w = .ok (.value v) w') (hS : Z i = false → S w')
    (h : AnyH F n P md ops Q S Z fuel (listed.setIfInBounds i true) { tmps := (t.set k v).toArray, defers := d } w') : AnyH F n P md ops Q S Z (fuel + 1) listed { tmps := t.toArray, defers := d } w := by
  refine room (k := k) hi hr hw ⟨fun f _ => hF f, ?_⟩
  rw [Oper.semAt_eq _ _ _ hnd, hrun]
  refine ⟨hS, ?_⟩
  rw [hk]
  have e : Act.put { tmps := t.toArray, defers := d } (some k) v = { tmps := (t.set k v).toArray, defers := d } := by simp [Act.put]
  rw [e]; exact h
/-- More may be held from here on. -/
theorem more {S' : World → Prop} (hSS : ∀ w, S' w → S w) : ∀ (fuel : Nat) (listed : Array Bool) (a : Act) (w : World), AnyH F n P md ops Q S' Z fuel listed a w → AnyH F n P md ops Q S Z fuel listed a w
  | 0, _, _, _, h => h
  | fuel + 1, _, _, _, h => ⟨h.1, fun i hi => wpOpIn_mono (fun a' w' h' => ⟨fun hz => hSS _ (h'.1 hz), more hSS fuel _ a' w' h'.2⟩) (h.2 i hi)⟩
theorem done_ {listed : Array Bool} {a : Act} {w : World} (hr : Region.ready md ops listed = []) (h : Q .normal a w) : ∀ fuel, AnyH F n P md ops Q S Z fuel listed a w
  | 0 => ⟨hr, h⟩
  | _ + 1 => ⟨fun _ => h, by rw [hr]; simp⟩
/-- In a fence of any function and any depth the count says nothing. -/
theorem round_any {l m m' : Nat} {f : FuncId} {tmps : Array Value} {assign body : Code} {w : World} {R : Ending → World → Prop} (h : RoundIn Fence.wide m P l f tmps assign body w R) : RoundIn Fence.wide m' P l f tmps assign body w R :=
  ⟨h.1, fun c cs _ => h.2 c cs (room_wide _)⟩
theorem calls_any {m m' : Nat} {f : FuncId} {args : Array Value} {w : World} {R : Ending → World → Prop} (h : CallsIn Fence.wide m P f args w R) : CallsIn Fence.wide m' P f args w R :=
  ⟨h.1, fun cs _ => h.2 cs (room_wide _)⟩
end Hi
end Go.Proofs.YtocoonkachbjaaaGreatDoor

/- The walk's recursive closure: it hands out each one ahead of those below it (printed by wip/mkdown.py). -/
namespace Go.Proofs.YtocoonkachbjaaaGreatDoor
open Go.RowKit Go.Maps
set_option linter.unusedVariables false
namespace Vw
attribute [local go_sem] Oper.semAt_some
def ints (l : List Nat) : List Int := l.map fun (x : Nat) => (x : Int)
/-- The forest as its readers want it. -/
structure FW (ss : List Sess) (d : Value) (g : Nat) (vs : Nat → Value) (w : World) : Prop where
  sess : SessArg w d ss
  top : w.heap[g]? = some (.cells (arr (ss.length + 1) vs) 82 (0, 0))
  row : ∀ j, j < ss.length + 1 → In.IntArg w (vs j) (ints (Vt.krow (bu ss) ss.length j))
theorem FW.below {ss : List Sess} {d : Value} {g : Nat} {vs : Nat → Value} {w w' : World} (h : FW ss d g vs w) (hb : Below w.heap.size w w') : FW ss d g vs w' :=
  ⟨h.sess.below hb, (hb.block g (Array.getElem?_eq_some_iff.1 h.top).1).trans h.top, fun j hj => (h.row j hj).below hb⟩
theorem nv_ints {base n : Nat} {w : World} {v : Value} {l : List Nat} (h : w.ownsRow base 3 1 v n (l.map nv)) : In.IntArg w v (ints l) := by
  have hl : l.length = n := by have := h.1; simpa using this
  refine In.own_ints (f := Value.int .i64) (fun _ => rfl) (n := n) (by unfold ints; rw [List.length_map, hl]) (base := base) ?_
  unfold ints
  rw [List.map_map]
  exact h
def kidsF (ss : List Sess) : Nat → List Nat := Vt.kidsN (bu ss) ss.length
def encF (x : Nat × Nat) : Array Value := #[.int .i64 (x.1 : Int), .int .i64 (x.2 : Int)]
theorem pre_take_succ {kids : Nat → List Nat} {f far k i : Nat} {l : List Nat} (h : l[k]? = some i) : Vt.pre kids (f + 1) far (l.take (k + 1)) = Vt.pre kids (f + 1) far (l.take k) ++ (far, i) :: Vt.pre kids f (far + 1) (kids i) := by
  have hlt := (List.getElem?_eq_some_iff.1 h).1
  have e : l[k] = i := (List.getElem?_eq_some_iff.1 h).2
  rw [List.take_succ_eq_append_getElem hlt, Vt.pre_append, e, Vt.pre_cons, Vt.pre_nil, List.append_nil]
theorem pre_prefix {kids : Nat → List Nat} {f far k : Nat} {l : List Nat} : Vt.pre kids f far (l.take k) <+: Vt.pre kids f far l := by
  have e : Vt.pre kids f far l = Vt.pre kids f far (l.take k) ++ Vt.pre kids f far (l.drop k) := by rw [← Vt.pre_append, List.take_append_drop]
  rw [e]; exact List.prefix_append _ _

section
variable (ss : List Sess) (hl : ss.length ≤ 65536) (d : Value) (g : Nat) (vs : Nat → Value) (l bY bd bf : Nat) (G : World → Prop) (hGd : ∀ W, G W → G W.drew) (hFW : ∀ W, G W → FW ss d g vs W ∧ W.cell? ⟨bY, 0, none⟩ = some (.func (.yield l) #[] #[]) ∧
    W.cell? ⟨bd, 0, none⟩ = some (.func (.func 84) #[] #[.pointer (some ⟨bY, 0, none⟩), .pointer (some ⟨bd, 0, none⟩), .pointer (some ⟨bf, 0, none⟩)]) ∧ W.cell? ⟨bf, 1, none⟩ = some (.slice (some ⟨g, 0, none⟩) (ss.length + 1) (ss.length + 1)))
  (J Jx : List (Nat × Nat) → World → Prop) (hJ : ∀ pre W, J pre W → J pre W.drew) (L : List (Nat × Nat))
  (hY : ∀ pre x W, J pre W → G W → (pre ++ [x]) <+: L → YieldAt Fence.wide 8 Tryz.prog l (encF x) W fun e W' => (e = .returned (.bool true) ∧ J (pre ++ [x]) W' ∧ G W') ∨ (e = .returned (.bool false) ∧ Jx (pre ++ [x]) W'))
include hl hGd hFW hJ hY

/-- What the closure does. -/
def DownP (f far : Nat) (v : Value) (ls : List Nat) (pre : List (Nat × Nat)) (W : World) : Prop :=
  CallsIn Fence.wide 9 Tryz.prog 84 #[v, .int .i64 (far : Int), .pointer (some ⟨bY, 0, none⟩), .pointer (some ⟨bd, 0, none⟩), .pointer (some ⟨bf, 0, none⟩)] W fun e W' =>
    (e = .returned (.bool true) ∧ J (pre ++ Vt.pre (kidsF ss) f far ls) W' ∧ G W') ∨ (e = .returned (.bool false) ∧ ∃ p, p <+: Vt.pre (kidsF ss) f far ls ∧ Jx (pre ++ p) W')

set_option maxRecDepth 100000 in
set_option maxHeartbeats 8000000 in
theorem down_in : ∀ (f far : Nat) (v : Value) (ls : List Nat) (pre : List (Nat × Nat)) (W : World), ls.length ≤ 65536 → far + f ≤ 200000 → (∀ W, G W → In.IntArg W v (ints ls)) → (∀ i ∈ ls, i < ss.length ∧ ss.length ≤ f + i) → J pre W → G W → (pre ++ Vt.pre (kidsF ss) f far ls) <+: L →
    DownP ss bY bd bf G J Jx f far v ls pre W := by
  intro f
  induction f with
  | zero =>
    intro far v ls pre W hlen hff hv hls hj hb hN
    have e : ls = [] := by
      cases ls with
      | nil => rfl
      | cons i r => have := hls i List.mem_cons_self; omega
    subst e
    obtain ⟨p, c, rfl, -⟩ := hv W hb
    unfold DownP
    rw [Vt.pre_nil, List.append_nil]
    clear hls hN hFW hY
    refine callsIn_of_wp Tryz.func84 rfl trivial ?_ rfl
    simp only [Tryz.ntmps84, List.size_toArray, List.length_cons, List.length_nil, Nat.reduceAdd, Nat.reduceSub, Array.replicate_succ, Array.replicate_zero, List.push_toArray, List.append_toArray, List.nil_append, List.cons_append, ints, List.map_nil]
    gi_wp2
    gi_loopw [12] (fun i wr => i = .int .i64 0 ∧ wr = W) (fun _ _ => 0)
    case atStart => exact ⟨rfl, rfl⟩
    case round =>
      obtain ⟨rfl, rfl⟩ := hrel
      gi_wp2
      go_ret
      exact .inl ⟨rfl, hj, hb⟩
  | succ f ih =>
    intro far v ls pre W hlen hff hv hls hj hb hN
    have HVV := Lib.hid hv
    obtain ⟨p, c, rfl, -⟩ := hv W hb
    clear hv
    have hil : (ints ls).length = ls.length := by unfold ints; rw [List.length_map]
    rw [hil]
    have HV : Hid (∀ (j i : Nat) (W : World), ls[j]? = some i → G W → ∃ ga oa, p = some ⟨ga, oa, none⟩ ∧ W.cell? ⟨ga, oa + j, none⟩ = some (.int .i64 (i : Int))) := fun j i W hji hG => by
      have hlt := (List.getElem?_eq_some_iff.1 hji).1
      obtain ⟨p2, c2, e2, hc⟩ := HVV.out W hG
      obtain ⟨ga, oa, h1, h2, h3⟩ := hc j (by rw [hil]; exact hlt)
      injection e2 with e3 e4 e5
      refine ⟨ga, oa, e3.trans h1, ?_⟩
      rw [h3]
      have e : ls[j] = i := (List.getElem?_eq_some_iff.1 hji).2
      simp [ints, e]
    have HLS := Lib.hid hls; have HB := Lib.hid hb; have HN := Lib.hid hN; have HIH := Lib.hid ih; have HFWH := Lib.hid hFW; have HJ := Lib.hid hJ; have HY := Lib.hid hY; have HJ0 := Lib.hid hj
    have HGD := Lib.hid hGd; have HFF := Lib.hid hff
    have hsub : ∀ k i, ls[k]? = some i → (pre ++ Vt.pre (kidsF ss) (f + 1) far (ls.take k) ++ ((far, i) :: Vt.pre (kidsF ss) f (far + 1) (kidsF ss i))) <+: L := fun k i hi => by
      have h1 := pre_take_succ (kids := kidsF ss) (f := f) (far := far) hi
      have h2 := pre_prefix (kids := kidsF ss) (f := f + 1) (far := far) (k := k + 1) (l := ls)
      rw [h1] at h2
      rw [List.append_assoc]
      exact ((List.prefix_append_right_inj _).2 h2).trans hN
    have HSUB := Lib.hid hsub
    have hll : (ls.length : Int) ≤ 9223372036854775807 := by omega
    unfold DownP
    clear hil hls hb hN ih hFW hJ hY hj hGd hff hsub HVV
    refine callsIn_of_wp Tryz.func84 rfl trivial ?_ rfl
    simp only [Tryz.ntmps84, List.size_toArray, List.length_cons, List.length_nil, Nat.reduceAdd, Nat.reduceSub, Array.replicate_succ, Array.replicate_zero, List.push_toArray, List.append_toArray, List.nil_append, List.cons_append]
    gi_wp2
    gi_loopw [12] (fun i wr => ∃ k : Nat, k ≤ ls.length ∧ i = .int .i64 k ∧ J (pre ++ Vt.pre (kidsF ss) (f + 1) far (ls.take k)) wr ∧ G wr) (fun i _ => ls.length - (intOf i).toNat)
    case atStart => exact ⟨0, Nat.zero_le _, rfl, by rw [List.take_zero, Vt.pre_nil, List.append_nil]; exact HJ0.out, HB.out⟩
    case round =>
      obtain ⟨k, hk, rfl, hjr, hbr⟩ := hrel
      have b0 : (0 : Int) ≤ (k : Int) := by omega
      by_cases hlt : k < ls.length
      · have b1 : (k : Int) < (ls.length : Int) := by omega
        have w1' : IntKind.i64.wrap ((k : Int) + 1) = ((k + 1 : Nat) : Int) := by rw [IntWalk.i64_in _ (by omega)]; rfl
        obtain ⟨i, hi⟩ : ∃ i, ls[k]? = some i := ⟨_, List.getElem?_eq_getElem hlt⟩
        obtain ⟨ga, oa, rfl, c1⟩ := HV.out k i wr hi hbr
        have hin := HLS.out i (List.mem_of_getElem? hi)
        have hsz := HFF.out
        have w2' : IntKind.i64.wrap ((i : Int) + 1) = ((i + 1 : Nat) : Int) := by rw [IntWalk.i64_in _ (by omega)]; rfl
        have w3' : IntKind.i64.wrap ((far : Int) + 1) = ((far + 1 : Nat) : Int) := by rw [IntWalk.i64_in _ (by omega)]; rfl
        have hjd := HJ.out _ _ hjr
        have hB0 := HGD.out _ hbr
        obtain ⟨fn, tmps, assign, body, hy, hR⟩ := HY.out _ (far, i) wr.drew hjd hB0 ((List.prefix_append_right_inj _).2 (by simp) |>.trans (HSUB.out k i hi))
        unfold encF at hy
        have HR := Lib.hid hR; have HI := Lib.hid hi; have HLT := Lib.hid hlt; have HIN := Lib.hid hin; have HBR := Lib.hid hbr
        obtain ⟨vi, hvi⟩ : ∃ vi, vi = vs (i + 1) := ⟨_, rfl⟩
        have HC : Hid (∀ W', G W' → W'.cell? ⟨bY, 0, none⟩ = some (.func (.yield l) #[] #[]) ∧ W'.cell? ⟨bd, 0, none⟩ = some (.func (.func 84) #[] #[.pointer (some ⟨bY, 0, none⟩), .pointer (some ⟨bd, 0, none⟩), .pointer (some ⟨bf, 0, none⟩)]) ∧
            W'.cell? ⟨bf, 1, none⟩ = some (.slice (some ⟨g, 0, none⟩) (ss.length + 1) (ss.length + 1)) ∧ W'.cell? ⟨g, i + 1, none⟩ = some vi) := fun W' hW => by
          obtain ⟨h1, h2, h3, h4⟩ := HFWH.out W' hW
          exact ⟨h2, h3, h4, by rw [block_cell h1.top, arr_at (by have := HIN.out; omega), hvi]⟩
        have HVI : Hid (∀ W', G W' → In.IntArg W' vi (ints (kidsF ss i))) := fun W' hW => by
          have := (HFWH.out W' hW).1.row (i + 1) (by have := HIN.out; omega)
          rw [← hvi] at this; exact this
        have i0 : (0 : Int) ≤ ((i + 1 : Nat) : Int) := by omega
        have i1 : ((i + 1 : Nat) : Int) < (ss.length : Int) + 1 := by omega
        have i2 : ((i + 1 : Nat) : Int) < ((ss.length + 1 : Nat) : Int) := by omega
        have i3 : i < ss.length := HIN.out.1
        have i4 : (0 : Int) ≤ (i : Int) + 1 := by omega
        clear hR hi hlt hin hjr hjd hvi hsz
        gi_wp2
        refine Hi.begin_ (S := fun _ => True) (Z := fun z => Nat.ble 15 z) (by kernel_rfl) trivial (fun hT => ?_)
        refine Hi.take (i := 1) (k := 17) (v := ?_) (fun _ => trivial) (by kernel_rfl) rfl rfl (by kernel_rfl) (by kernel_rfl) (by kernel_rfl) (fun _ _ _ h => h) (by kernel_rfl) (by kernel_rfl) (Or.inl ⟨by rfl, ?_⟩) (by assumption) ?_
        rotate_left
        · intro wq hSw; (try dsimp only at hSw); go_split_ands; go_simp; (try with_reducible rfl)
        simp only [List.set_cons_succ, List.set_cons_zero]
        refine Hi.take (i := 2) (k := 18) (v := ?_) (fun _ => trivial) (by kernel_rfl) rfl rfl (by kernel_rfl) (by kernel_rfl) (by kernel_rfl) (fun _ _ _ h => h) (by kernel_rfl) (by kernel_rfl) (Or.inl ⟨by rfl, ?_⟩) (by assumption) ?_
        rotate_left
        · intro wq hSw; (try dsimp only at hSw); go_split_ands; go_simp; (try with_reducible rfl)
        simp only [List.set_cons_succ, List.set_cons_zero]
        obtain ⟨cy, -, -, -⟩ := HC.out _ hB0
        refine Hi.val_ (i := 0) (k := 16) (v := .func (.yield l) #[] #[]) (w' := wr.drew) (fun _ => trivial) (by intro c h; cases h) rfl rfl (by kernel_rfl) (by rfl) ?_ (fun _ => trivial) ?_
        · go_simp
        simp only [List.set_cons_succ, List.set_cons_zero]
        refine Hi.yield_ (i := 3) (k := 19) (l := l) (fn := fn) (tmps := tmps) (assign := assign) (body := body) (fun _ => trivial) (fun _ => by omega) (by intro c h; cases h) rfl rfl (by kernel_rfl) (by rfl) ?_ ((Hi.round_any HR.out).mono ?_)
        · go_simp
        rintro e W3 (⟨rfl, hJ3, hb3⟩ | ⟨rfl, hJx3⟩)
        · have hB3 := hb3
          refine ⟨_, rfl, fun _ => trivial, fun _ => ?_⟩
          simp only [List.set_cons_succ, List.set_cons_zero]
          refine Hi.more (S' := fun w' => w'.cell? ⟨bd, 0, none⟩ = some (.func (.func 84) #[] #[.pointer (some ⟨bY, 0, none⟩), .pointer (some ⟨bd, 0, none⟩), .pointer (some ⟨bf, 0, none⟩)]) ∧
            w'.cell? ⟨bf, 1, none⟩ = some (.slice (some ⟨g, 0, none⟩) (ss.length + 1) (ss.length + 1)) ∧ w'.cell? ⟨g, i + 1, none⟩ = some vi) (fun _ _ => trivial) _ _ _ _ ?_
          obtain ⟨-, x1, x2, x3⟩ := HC.out _ hB3
          have hHeld : W3.cell? ⟨bd, 0, none⟩ = some (.func (.func 84) #[] #[.pointer (some ⟨bY, 0, none⟩), .pointer (some ⟨bd, 0, none⟩), .pointer (some ⟨bf, 0, none⟩)]) ∧
            W3.cell? ⟨bf, 1, none⟩ = some (.slice (some ⟨g, 0, none⟩) (ss.length + 1) (ss.length + 1)) ∧ W3.cell? ⟨g, i + 1, none⟩ = some vi := ⟨x1, x2, x3⟩
          refine Hi.take (i := 4) (k := 20) (v := ?_) (fun _ => trivial) (by kernel_rfl) rfl rfl (by kernel_rfl) (by kernel_rfl) (by kernel_rfl) (fun _ _ _ h => h) (by kernel_rfl) (by kernel_rfl) (Or.inl ⟨by rfl, ?_⟩) (by assumption) ?_
          rotate_left
          · intro wq hSw; (try dsimp only at hSw); go_split_ands; go_simp; (try with_reducible rfl)
          simp only [List.set_cons_succ, List.set_cons_zero]
          refine Hi.take (i := 5) (k := 21) (v := ?_) (fun _ => trivial) (by kernel_rfl) rfl rfl (by kernel_rfl) (by kernel_rfl) (by kernel_rfl) (fun _ _ _ h => h) (by kernel_rfl) (by kernel_rfl) (Or.inl ⟨by rfl, ?_⟩) (by assumption) ?_
          rotate_left
          · intro wq hSw; (try dsimp only at hSw); go_split_ands; go_simp; (try with_reducible rfl)
          simp only [List.set_cons_succ, List.set_cons_zero]
          refine Hi.take (i := 6) (k := 22) (v := ?_) (fun _ => trivial) (by kernel_rfl) rfl rfl (by kernel_rfl) (by kernel_rfl) (by kernel_rfl) (fun _ _ _ h => h) (by kernel_rfl) (by kernel_rfl) (Or.inl ⟨by rfl, ?_⟩) (by assumption) ?_
          rotate_left
          · intro wq hSw; (try dsimp only at hSw); go_split_ands; go_simp; (try with_reducible rfl)
          simp only [List.set_cons_succ, List.set_cons_zero]
          refine Hi.take (i := 7) (k := 23) (v := ?_) (fun _ => trivial) (by kernel_rfl) rfl rfl (by kernel_rfl) (by kernel_rfl) (by kernel_rfl) (fun _ _ _ h => h) (by kernel_rfl) (by kernel_rfl) (Or.inl ⟨by rfl, ?_⟩) (by assumption) ?_
          rotate_left
          · intro wq hSw; (try dsimp only at hSw); go_split_ands; go_simp; (try with_reducible rfl)
          simp only [List.set_cons_succ, List.set_cons_zero]
          refine Hi.take (i := 8) (k := 24) (v := ?_) (fun _ => trivial) (by kernel_rfl) rfl rfl (by kernel_rfl) (by kernel_rfl) (by kernel_rfl) (fun _ _ _ h => h) (by kernel_rfl) (by kernel_rfl) (Or.inl ⟨by rfl, ?_⟩) (by assumption) ?_
          rotate_left
          · intro wq hSw; (try dsimp only at hSw); go_split_ands; go_simp; (try with_reducible rfl)
          simp only [List.set_cons_succ, List.set_cons_zero]
          refine Hi.take (i := 9) (k := 25) (v := ?_) (fun _ => trivial) (by kernel_rfl) rfl rfl (by kernel_rfl) (by kernel_rfl) (by kernel_rfl) (fun _ _ _ h => h) (by kernel_rfl) (by kernel_rfl) (Or.inl ⟨by rfl, ?_⟩) (by assumption) ?_
          rotate_left
          · intro wq hSw; (try dsimp only at hSw); go_split_ands; go_simp; (try with_reducible rfl)
          simp only [List.set_cons_succ, List.set_cons_zero]
          refine Hi.take (i := 10) (k := 26) (v := ?_) (fun _ => trivial) (by kernel_rfl) rfl rfl (by kernel_rfl) (by kernel_rfl) (by kernel_rfl) (fun _ _ _ h => h) (by kernel_rfl) (by kernel_rfl) (Or.inl ⟨by rfl, ?_⟩) (by assumption) ?_
          rotate_left
          · intro wq hSw; (try dsimp only at hSw); go_split_ands; go_simp; (try with_reducible rfl)
          simp only [List.set_cons_succ, List.set_cons_zero]
          refine Hi.take (i := 11) (k := 27) (v := ?_) (fun _ => trivial) (by kernel_rfl) rfl rfl (by kernel_rfl) (by kernel_rfl) (by kernel_rfl) (fun _ _ _ h => h) (by kernel_rfl) (by kernel_rfl) (Or.inl ⟨by rfl, ?_⟩) (by assumption) ?_
          rotate_left
          · intro wq hSw; (try dsimp only at hSw); go_split_ands; go_simp; (try with_reducible rfl)
          simp only [List.set_cons_succ, List.set_cons_zero]
          refine Hi.take (i := 12) (k := 28) (v := ?_) (fun _ => trivial) (by kernel_rfl) rfl rfl (by kernel_rfl) (by kernel_rfl) (by kernel_rfl) (fun _ _ _ h => h) (by kernel_rfl) (by kernel_rfl) (Or.inl ⟨by rfl, ?_⟩) (by assumption) ?_
          rotate_left
          · intro wq hSw; (try dsimp only at hSw); go_split_ands; go_simp; (try with_reducible rfl)
          simp only [List.set_cons_succ, List.set_cons_zero]
          refine Hi.take (i := 13) (k := 29) (v := ?_) (fun _ => trivial) (by kernel_rfl) rfl rfl (by kernel_rfl) (by kernel_rfl) (by kernel_rfl) (fun _ _ _ h => h) (by kernel_rfl) (by kernel_rfl) (Or.inl ⟨by rfl, ?_⟩) (by assumption) ?_
          rotate_left
          · intro wq hSw; (try dsimp only at hSw); go_split_ands; go_simp; (try with_reducible rfl)
          simp only [List.set_cons_succ, List.set_cons_zero]
          refine Hi.take (i := 14) (k := 30) (v := ?_) (fun _ => trivial) (by kernel_rfl) rfl rfl (by kernel_rfl) (by kernel_rfl) (by kernel_rfl) (fun _ _ _ h => h) (by kernel_rfl) (by kernel_rfl) (Or.inl ⟨by rfl, ?_⟩) (by assumption) ?_
          rotate_left
          · intro wq hSw; (try dsimp only at hSw); go_split_ands; go_simp; (try with_reducible rfl)
          simp only [List.set_cons_succ, List.set_cons_zero]
          have HB3 := Lib.hid hB3
          have hkl : (kidsF ss i).length ≤ 65536 := Nat.le_trans (by have := Vt.krow_len (bu ss) ss.length (i + 1); exact this) hl
          have hIH := HIH.out (far + 1) vi (kidsF ss i) (pre ++ Vt.pre (kidsF ss) (f + 1) far (ls.take k) ++ [(far, i)]) W3 hkl (by have := HFF.out; omega) HVI.out (fun j hj => by
            have h1 := Vt.kids_up (bu ss) ss.length i j hj
            have h2 := HIN.out
            omega) hJ3 hB3 (by have h1 := HSUB.out k i HI.out; simpa using h1)
          unfold DownP at hIH
          refine Hi.call_ (i := 15) (k := 31) (fun _ => trivial) (fun _ => by omega) (by intro c h; cases h) rfl rfl (by kernel_rfl) (by rfl) (by go_simp) ((Hi.calls_any hIH).mono ?_)
          rintro e W4 (⟨rfl, hJ4, hb4⟩ | ⟨rfl, q, hq, hJx4⟩)
          · refine ⟨_, rfl, fun h => absurd h (by decide), fun _ => ?_⟩
            simp only [List.set_cons_succ, List.set_cons_zero]
            refine Hi.val_ (i := 16) (k := 32) (v := .bool false) (w' := W4) (fun _ => trivial) (by intro c h; cases h) rfl rfl (by kernel_rfl) (by rfl) (by go_simp) (fun h => absurd h (by decide)) ?_
            simp only [List.set_cons_succ, List.set_cons_zero]
            refine Hi.val_ (i := 17) (k := 33) (v := .bool false) (w' := W4) (fun _ => trivial) (by intro c h; cases h) rfl rfl (by kernel_rfl) (by rfl) (by go_simp) (fun h => absurd h (by decide)) ?_
            simp only [List.set_cons_succ, List.set_cons_zero]
            refine Hi.done_ (by kernel_rfl) ?_ _
            have HU : Hid (J (pre ++ Vt.pre (kidsF ss) (f + 1) far (ls.take (k + 1))) W4) := by
              have h1 := pre_take_succ (kids := kidsF ss) (f := f) (far := far) HI.out
              show J _ _
              rw [h1]
              simpa using hJ4
            gi_wp2
            go_roundw
            case rel => have := HLT.out; exact ⟨k + 1, by omega, rfl, HU.out, hb4⟩
            case measure => have := HLT.out; simp [intOf]; omega
          · refine ⟨_, rfl, fun h => absurd h (by decide), fun _ => ?_⟩
            simp only [List.set_cons_succ, List.set_cons_zero]
            refine Hi.val_ (i := 16) (k := 32) (v := .bool true) (w' := W4) (fun _ => trivial) (by intro c h; cases h) rfl rfl (by kernel_rfl) (by rfl) (by go_simp) (fun h => absurd h (by decide)) ?_
            simp only [List.set_cons_succ, List.set_cons_zero]
            refine Hi.val_ (i := 17) (k := 33) (v := .bool true) (w' := W4) (fun _ => trivial) (by intro c h; cases h) rfl rfl (by kernel_rfl) (by rfl) (by go_simp) (fun h => absurd h (by decide)) ?_
            simp only [List.set_cons_succ, List.set_cons_zero]
            refine Hi.done_ (by kernel_rfl) ?_ _
            have HU : Hid (Jx (pre ++ (Vt.pre (kidsF ss) (f + 1) far (ls.take k) ++ (far, i) :: q)) W4) := by
              show Jx _ _
              simpa using hJx4
            gi_wp2
            go_ret
            exact .inr ⟨rfl, _, by
              have h1 := pre_take_succ (kids := kidsF ss) (f := f) (far := far) HI.out
              have h2 := pre_prefix (kids := kidsF ss) (f := f + 1) (far := far) (k := k + 1) (l := ls)
              rw [h1] at h2
              exact ((List.prefix_append_right_inj _).2 ((List.cons_prefix_cons).2 ⟨rfl, hq⟩)).trans h2, HU.out⟩
        · refine ⟨_, rfl, fun _ => trivial, fun _ => ?_⟩
          simp only [List.set_cons_succ, List.set_cons_zero]
          refine Hi.take (i := 4) (k := 20) (v := ?_) (fun _ => trivial) (by kernel_rfl) rfl rfl (by kernel_rfl) (by kernel_rfl) (by kernel_rfl) (fun _ _ _ h => h) (by kernel_rfl) (by kernel_rfl) (Or.inl ⟨by rfl, ?_⟩) (by assumption) ?_
          rotate_left
          · intro wq hSw; (try dsimp only at hSw); go_split_ands; go_simp; (try with_reducible rfl)
          simp only [List.set_cons_succ, List.set_cons_zero]
          refine Hi.take (i := 5) (k := 21) (v := ?_) (fun _ => trivial) (by kernel_rfl) rfl rfl (by kernel_rfl) (by kernel_rfl) (by kernel_rfl) (fun _ _ _ h => h) (by kernel_rfl) (by kernel_rfl) (Or.inl ⟨by rfl, ?_⟩) (by assumption) ?_
          rotate_left
          · intro wq hSw; (try dsimp only at hSw); go_split_ands; go_simp; (try with_reducible rfl)
          simp only [List.set_cons_succ, List.set_cons_zero]
          refine Hi.take (i := 6) (k := 22) (v := undef) (fun _ => trivial) (by kernel_rfl) rfl rfl (by kernel_rfl) (by kernel_rfl) (by kernel_rfl) (fun _ _ _ h => h) (by kernel_rfl) (by kernel_rfl) (Or.inr ⟨by rfl, rfl⟩) (by assumption) ?_
          simp only [List.set_cons_succ, List.set_cons_zero]
          refine Hi.take (i := 7) (k := 23) (v := undef) (fun _ => trivial) (by kernel_rfl) rfl rfl (by kernel_rfl) (by kernel_rfl) (by kernel_rfl) (fun _ _ _ h => h) (by kernel_rfl) (by kernel_rfl) (Or.inr ⟨by rfl, rfl⟩) (by assumption) ?_
          simp only [List.set_cons_succ, List.set_cons_zero]
          refine Hi.take (i := 8) (k := 24) (v := undef) (fun _ => trivial) (by kernel_rfl) rfl rfl (by kernel_rfl) (by kernel_rfl) (by kernel_rfl) (fun _ _ _ h => h) (by kernel_rfl) (by kernel_rfl) (Or.inr ⟨by rfl, rfl⟩) (by assumption) ?_
          simp only [List.set_cons_succ, List.set_cons_zero]
          refine Hi.take (i := 9) (k := 25) (v := undef) (fun _ => trivial) (by kernel_rfl) rfl rfl (by kernel_rfl) (by kernel_rfl) (by kernel_rfl) (fun _ _ _ h => h) (by kernel_rfl) (by kernel_rfl) (Or.inr ⟨by rfl, rfl⟩) (by assumption) ?_
          simp only [List.set_cons_succ, List.set_cons_zero]
          refine Hi.take (i := 10) (k := 26) (v := undef) (fun _ => trivial) (by kernel_rfl) rfl rfl (by kernel_rfl) (by kernel_rfl) (by kernel_rfl) (fun _ _ _ h => h) (by kernel_rfl) (by kernel_rfl) (Or.inr ⟨by rfl, rfl⟩) (by assumption) ?_
          simp only [List.set_cons_succ, List.set_cons_zero]
          refine Hi.take (i := 11) (k := 27) (v := undef) (fun _ => trivial) (by kernel_rfl) rfl rfl (by kernel_rfl) (by kernel_rfl) (by kernel_rfl) (fun _ _ _ h => h) (by kernel_rfl) (by kernel_rfl) (Or.inr ⟨by rfl, rfl⟩) (by assumption) ?_
          simp only [List.set_cons_succ, List.set_cons_zero]
          refine Hi.take (i := 12) (k := 28) (v := undef) (fun _ => trivial) (by kernel_rfl) rfl rfl (by kernel_rfl) (by kernel_rfl) (by kernel_rfl) (fun _ _ _ h => h) (by kernel_rfl) (by kernel_rfl) (Or.inr ⟨by rfl, rfl⟩) (by assumption) ?_
          simp only [List.set_cons_succ, List.set_cons_zero]
          refine Hi.take (i := 13) (k := 29) (v := undef) (fun _ => trivial) (by kernel_rfl) rfl rfl (by kernel_rfl) (by kernel_rfl) (by kernel_rfl) (fun _ _ _ h => h) (by kernel_rfl) (by kernel_rfl) (Or.inr ⟨by rfl, rfl⟩) (by assumption) ?_
          simp only [List.set_cons_succ, List.set_cons_zero]
          refine Hi.take (i := 14) (k := 30) (v := undef) (fun _ => trivial) (by kernel_rfl) rfl rfl (by kernel_rfl) (by kernel_rfl) (by kernel_rfl) (fun _ _ _ h => h) (by kernel_rfl) (by kernel_rfl) (Or.inr ⟨by rfl, rfl⟩) (by assumption) ?_
          simp only [List.set_cons_succ, List.set_cons_zero]
          refine Hi.take (i := 15) (k := 31) (v := undef) (fun _ => trivial) (by kernel_rfl) rfl rfl (by kernel_rfl) (by kernel_rfl) (by kernel_rfl) (fun _ _ _ h => h) (by kernel_rfl) (by kernel_rfl) (Or.inr ⟨by rfl, rfl⟩) (by assumption) ?_
          simp only [List.set_cons_succ, List.set_cons_zero]
          refine Hi.take (i := 16) (k := 32) (v := undef) (fun _ => trivial) (by kernel_rfl) rfl rfl (by kernel_rfl) (by kernel_rfl) (by kernel_rfl) (fun _ _ _ h => h) (by kernel_rfl) (by kernel_rfl) (Or.inr ⟨by rfl, rfl⟩) (by assumption) ?_
          simp only [List.set_cons_succ, List.set_cons_zero]
          refine Hi.take (i := 17) (k := 33) (v := ?_) (fun _ => trivial) (by kernel_rfl) rfl rfl (by kernel_rfl) (by kernel_rfl) (by kernel_rfl) (fun _ _ _ h => h) (by kernel_rfl) (by kernel_rfl) (Or.inl ⟨by rfl, ?_⟩) (by assumption) ?_
          rotate_left
          · intro wq hSw; (try dsimp only at hSw); go_split_ands; go_simp; (try with_reducible rfl)
          simp only [List.set_cons_succ, List.set_cons_zero]
          refine Hi.done_ (by kernel_rfl) ?_ _
          gi_wp2
          go_ret
          exact .inr ⟨rfl, Vt.pre (kidsF ss) (f + 1) far (ls.take k) ++ [(far, i)], by
            have h1 := pre_take_succ (kids := kidsF ss) (f := f) (far := far) HI.out
            have h2 := pre_prefix (kids := kidsF ss) (f := f + 1) (far := far) (k := k + 1) (l := ls)
            rw [h1] at h2
            exact (List.prefix_append_right_inj _).2 (by simp) |>.trans h2, by rw [← List.append_assoc]; exact hJx3⟩
      · have b1 : (ls.length : Int) ≤ (k : Int) := by omega
        have e : ls.take k = ls := List.take_of_length_le (by omega)
        rw [e] at hjr
        clear hlt
        gi_wp2
        go_ret
        exact .inl ⟨rfl, hjr, hbr⟩
end
end Vw
end Go.Proofs.YtocoonkachbjaaaGreatDoor

/- A range over an iterator that turns memory of its own between two rounds. No program's code. -/
namespace Go.Proofs.YtocoonkachbjaaaGreatDoor
open Go.RowKit
set_option linter.unusedVariables false
namespace Mu
variable {F : Fence} {n : Nat} {P : Program}

/-- How a round may be left. -/
def Left {α : Type} (B : Nat) (U : List α → World → Prop) (Ux : Code → List α → World → Prop) (xs : List α) (W : World) : Exit → Act → World → Prop
  | .normal, _, W' => KeepsFrom B W W' ∧ U xs W'
  | .ret, _, W' => KeepsFrom B W W' ∧ Ux .ret xs W'
  | .exit id, _, W' => KeepsFrom B W W' ∧ Ux (.exit id) xs W'
  | .goto t, _, W' => KeepsFrom B W W' ∧ Ux (.goto t) xs W'
  | .panic _, _, _ => False
  | .outgrown, _, _ => False

end Mu
end Go.Proofs.YtocoonkachbjaaaGreatDoor
