/- Several texts in one: what each proves its own first comment says. -/
import Derived.Test.YtocoonkachbjaaaGreatDoorM18

/- A region that draws its order, inside a fence of any function (in a round of a range over an iterator too): what yields its value in every world that meets S is taken first; a call of yield is met by its contract. No program's code. -/
namespace Go.Proofs.YtocoonkachbjaaaGreatDoor
open Go.RowKit
set_option linter.unusedVariables false
namespace Hi
variable {F : Fence} {n : Nat} {P : Program} {ops : Array Oper} {Q : Exit → Act → World → Prop} {md : Region.Mode} {S : World → Prop} {Z : Nat → Bool}

/-- Whatever order is picked, S holds behind each operation. -/
def AnyH (F : Fence) (n : Nat) (P : Program) (md : Region.Mode) (ops : Array Oper) (Q : Exit → Act → World → Prop) (S : World → Prop) (Z : Nat → Bool) : Nat → Array Bool → Act → World → Prop
  | 0, listed, a, w => Region.ready md ops listed = [] ∧ Q .normal a w
  | fuel + 1, listed, a, w => (Region.ready md ops listed = [] → Q .normal a w) ∧ ∀ i ∈ Region.ready md ops listed, wpOpIn F n P ops Q i (fun a' w' => (Z i = false → S w') ∧ AnyH F n P md ops Q S Z fuel (listed.setIfInBounds i true) a' w') a w

theorem any_of : ∀ (fuel : Nat) (listed : Array Bool) (a : Act) (w : World), AnyH F n P md ops Q S Z fuel listed a w → wpAnyIn F n P md ops Q fuel listed a w
  | 0, _, _, _, h => h
  | fuel + 1, _, _, _, h => ⟨h.1, fun i hi => wpOpIn_mono (fun a' w' h' => any_of fuel _ a' w' h'.2) (h.2 i hi)⟩

theorem yields_op {i : Nat} {o : Oper} {v : Value} {a : Act} (hF : ∀ f, F.fn f) (hi : ops[i]? = some o) (hd : ∀ c, o.op ≠ .defer c) (hy : YieldsIf P ops S o v a) {K : Act → World → Prop} {w : World} (hS : S w) (h : K (a.put o.dst v) w) : wpOpIn F n P ops Q i K a w := by
  unfold wpOpIn
  simp only [hi]
  rcases hy with ⟨hw, hv⟩ | ⟨hw, rfl⟩
  · rw [if_pos hw]
    refine ⟨fun f _ => hF f, ?_⟩
    rw [Oper.semAt_eq _ _ _ hd, hv w hS]
    exact h
  · rw [if_neg (by rw [hw]; exact Bool.false_ne_true)]
    exact ⟨fun f _ => hF f, h⟩

theorem op_putIf {j : Nat} {oi oj : Oper} {v : Value} (hF : ∀ f, F.fn f) (hj : ops[j]? = some oj) (hd : ∀ c, oj.op ≠ .defer c) (hap : oi.apart ops oj = true) (hsi : ∀ cs b, oi.op ≠ .select cs b) (hsj : ∀ cs b, oj.op ≠ .select cs b)
    (hQ : ∀ c a w, Q (.panic c) (a.put oi.dst v) w → Q (.panic c) a w) {K : Act → World → Prop} {a : Act} {w : World} (hy : YieldsIf P ops S oi v a) (h : wpOpIn F n P ops Q j K (a.put oi.dst v) w) :
    wpOpIn F n P ops Q j (fun a' w' => YieldsIf P ops S oi v a' ∧ K (a'.put oi.dst v) w') a w := by
  obtain ⟨h1, h2, h3⟩ := Oper.apart_spec hap
  have keep : ∀ (a : Act), YieldsIf P ops S oi v a → ∀ u, YieldsIf P ops S oi v (a.put oj.dst u) := fun a hy u => hy.of_same (execOp_put oi hsi a oj.dst u h3) (wanted_put oi a oj.dst u h3)
  unfold wpOpIn at *
  simp only [hj] at *
  rw [wanted_put oj a oi.dst v h1] at h
  by_cases hw : Region.wanted oj (yielded ops a.tmps) = true
  · rw [if_pos hw] at h ⊢
    refine ⟨fun f _ => hF f, ?_⟩
    have h := h.2
    rw [Oper.semAt_eq _ _ _ hd, execOp_put oj hsj a oi.dst v h1] at h
    rw [Oper.semAt_eq _ _ _ hd]
    generalize (execOp a.eval oj).run P w = r at *
    cases r with
    | ok x w' =>
      cases x <;> simp only [Oper.uponIn] at h ⊢
      case value u => exact ⟨keep a hy u, by rw [← Act.put_comm a v u h2]; exact h⟩
      case skip => exact ⟨keep a hy _, by rw [← Act.put_comm a v undef h2]; exact h⟩
      case defer d => exact ⟨(hy.of_same (a' := { a with defers := d :: a.defers }) rfl rfl).of_same (execOp_put oi hsi _ oj.dst undef h3) (wanted_put oi _ oj.dst undef h3), by rw [← Act.put_comm _ v undef h2, ← Act.put_defers]; exact h⟩
      case enter f args =>
        refine ⟨h.1, CallsIn.mono h.2 fun e w'' he => ?_⟩
        cases e with
        | returned u => exact ⟨keep a hy u, by rw [← Act.put_comm a v u h2]; exact he⟩
        | panicked c => exact hQ _ _ _ he
        | outgrown => exact he
      case row row args => exact ⟨h.1, RowsIn.mono h.2 fun u w'' he => ⟨keep a hy u, by rw [← Act.put_comm a v u h2]; exact he⟩⟩
      case round l f tmps assign body =>
        refine ⟨h.1, RoundIn.mono h.2 fun e w'' he => ?_⟩
        cases e with
        | returned u => exact ⟨keep a hy u, by rw [← Act.put_comm a v u h2]; exact he⟩
        | panicked c => exact hQ _ _ _ he
        | outgrown => exact he
    | halt x w' =>
      cases x <;> simp only [Oper.uponIn] at h ⊢
      case panic u => exact hQ _ _ _ h
  · rw [if_neg hw] at h ⊢
    exact ⟨fun f _ => hF f, keep a hy _, by rw [← Act.put_comm a v undef h2]; exact h.2⟩

/-- What is listed has what it waits for listed. -/
def Closed (md : Region.Mode) (ops : Array Oper) (listed : Array Bool) : Prop := ∀ (j : Nat) (oj : Oper), ops[j]? = some oj → listed.getD j false = true → ∀ e ∈ oj.after, Region.binds md e = true → listed.getD e.on false = true
def closedB (md : Region.Mode) (ops : Array Oper) (listed : Array Bool) : Bool := (List.range ops.size).all fun j => match ops[j]? with
  | some oj => !listed.getD j false || oj.after.all fun e => !Region.binds md e || listed.getD e.on false
  | none => true
theorem closed_of {listed : Array Bool} (h : closedB md ops listed = true) : Closed md ops listed := fun j oj hj hl e he hb => by
  have h1 := (List.all_eq_true.1 h) j (List.mem_range.2 (Array.getElem?_eq_some_iff.1 hj).1)
  simp only [hj, hl, Bool.not_true, Bool.false_or] at h1
  have h2 := (Array.all_eq_true_iff_forall_mem.1 h1) e he
  rw [hb] at h2
  simpa using h2
theorem Closed.set {listed : Array Bool} {j : Nat} (h : Closed md ops listed) (hj : j ∈ Region.ready md ops listed) : Closed md ops (listed.setIfInBounds j true) := fun k ok hk hl e he hb => by
  by_cases hjk : j = k
  · subst hjk
    obtain ⟨_, o, ho, hall⟩ := mem_ready.1 hj
    rw [hk] at ho
    cases ho
    exact getD_set_true (hall e he hb)
  · rw [getD_set_ne false hjk] at hl
    exact getD_set_true (h k ok hk hl e he hb)
/-- Does z wait for i, by whatever ways? -/
def must (md : Region.Mode) (ops : Array Oper) (i : Nat) : Nat → Nat → Bool
  | 0, _ => false
  | f + 1, z => match ops[z]? with
    | some oz => oz.after.any fun e => Region.binds md e && (e.on == i || must md ops i f e.on)
    | none => false
theorem must_listed {i : Nat} {listed : Array Bool} (hc : Closed md ops listed) : ∀ (f z : Nat), must md ops i f z = true → listed.getD z false = true → listed.getD i false = true
  | 0, z, h, _ => by cases h
  | f + 1, z, h, hz => by
    unfold must at h
    split at h
    · rename_i oz ho
      obtain ⟨e, he, hb⟩ := Array.any_eq_true'.1 h
      simp only [Bool.and_eq_true, Bool.or_eq_true, beq_iff_eq] at hb
      have h1 := hc z oz ho hz e he hb.1
      rcases hb.2 with h2 | h2
      · rw [← h2]; exact h1
      · exact must_listed hc f e.on h2 h1
    · cases h
theorem must_ready {i z : Nat} {listed : Array Bool} (hc : Closed md ops listed) (f : Nat) (h : must md ops i f z = true) (hz : z ∈ Region.ready md ops listed) : listed.getD i false = true := by
  cases f with
  | zero => cases h
  | succ f =>
    obtain ⟨_, o, ho, hall⟩ := mem_ready.1 hz
    unfold must at h
    rw [ho] at h
    obtain ⟨e, he, hb⟩ := Array.any_eq_true'.1 h
    simp only [Bool.and_eq_true, Bool.or_eq_true, beq_iff_eq] at hb
    have h1 := hall e he hb.1
    rcases hb.2 with h2 | h2
    · rw [← h2]; exact h1
    · exact must_listed hc f e.on h2 h1
theorem unlisted {i : Nat} {listed : Array Bool} (hi : listed.getD i true = false) : ¬ listed.getD i false = true := fun h => by
  rcases Nat.lt_or_ge i listed.size with h' | h'
  · simp [h'] at hi h; rw [hi] at h; cases h
  · simp [Array.getElem?_eq_none h'] at h
/-- All of Z wait for i. -/
def waitB (md : Region.Mode) (ops : Array Oper) (Z : Nat → Bool) (i : Nat) (listed : Array Bool) : Bool := (List.range ops.size).all fun z => (!Z z || z == i) || (must md ops i ops.size z || listed.getD z false)
theorem wait_of {i z : Nat} {listed : Array Bool} (h : waitB md ops Z i listed = true) (hz : z < ops.size) (hZ : Z z = true) (hne : z ≠ i) : must md ops i ops.size z = true ∨ listed.getD z false = true := by
  have h1 := (List.all_eq_true.1 h) z (List.mem_range.2 hz)
  rw [hZ] at h1
  simpa [hne] using h1

theorem first {i : Nat} {oi : Oper} {v : Value} (hF : ∀ f, F.fn f) (hd : ∀ (j : Nat) (o : Oper) c, ops[j]? = some o → o.op ≠ .defer c) (hi : ops[i]? = some oi) (hsel : ∀ (j : Nat) (o : Oper) cs b, ops[j]? = some o → o.op ≠ .select cs b)
    (hQ : ∀ c a w, Q (.panic c) (a.put oi.dst v) w → Q (.panic c) a w) :
    ∀ (fuel : Nat) (listed : Array Bool) (a : Act) (w : World),
      (∀ j oj, ops[j]? = some oj → j ≠ i → listed.getD j true = false → (∀ e ∈ oj.after, Region.binds md e = true → e.on ≠ i) → oi.apart ops oj = true) →
      (∀ z, z < ops.size → Z z = true → z ≠ i → must md ops i ops.size z = true ∨ listed.getD z false = true) → Closed md ops listed → i ∈ Region.ready md ops listed → YieldsIf P ops S oi v a → S w →
      AnyH F n P md ops Q S Z fuel (listed.setIfInBounds i true) (a.put oi.dst v) w → AnyH F n P md ops Q S Z (fuel + 1) listed a w
  | 0, listed, a, w, _, _, _, hr, hy, hS, H => by
    refine ⟨fun h => (by rw [h] at hr; cases hr), fun j hj => ?_⟩
    by_cases hji : j = i
    · subst hji; exact yields_op hF hi (hd _ _ · hi) hy hS ⟨fun _ => hS, H⟩
    · have := ready_mono hj hji
      rw [H.1] at this
      cases this
  | fuel + 1, listed, a, w, hfree, hwt, hcl, hr, hy, hS, H => by
    refine ⟨fun h => (by rw [h] at hr; cases hr), fun j hj => ?_⟩
    by_cases hji : j = i
    · subst hji; exact yields_op hF hi (hd _ _ · hi) hy hS ⟨fun _ => hS, H⟩
    · have h1 := H.2 j (ready_mono hj hji)
      obtain ⟨hjun, oj, hoj, hall⟩ := mem_ready.1 hj
      have hnot : ∀ e ∈ oj.after, Region.binds md e = true → e.on ≠ i := fun e he hb heq => by
        have h1 := hall e he hb
        have h0 := (mem_ready.1 hr).1
        rw [heq] at h1
        rcases Nat.lt_or_ge i listed.size with h' | h'
        · simp [h'] at h0 h1; rw [h0] at h1; cases h1
        · simp [Array.getElem?_eq_none h'] at h1
      have h2 := op_putIf hF hoj (hd _ _ · hoj) (hfree j oj hoj hji hjun hnot) (fun cs b => hsel i oi cs b hi) (fun cs b => hsel j oj cs b hoj) hQ hy h1
      have hfree' : ∀ k ok, ops[k]? = some ok → k ≠ i → (listed.setIfInBounds j true).getD k true = false → (∀ e ∈ ok.after, Region.binds md e = true → e.on ≠ i) → oi.apart ops ok = true := fun k ok hk hki hun hno => by
        refine hfree k ok hk hki ?_ hno
        by_cases hjk : j = k
        · subst hjk; exact hjun
        · rw [getD_set_ne true hjk] at hun; exact hun
      have hzj : Z j = false := by
        cases hz : Z j with
        | false => rfl
        | true =>
          rcases hwt j (Array.getElem?_eq_some_iff.1 hoj).1 hz hji with h5 | h5
          · exact absurd (must_ready hcl ops.size h5 hj) (unlisted (mem_ready.1 hr).1)
          · exact absurd h5 (unlisted hjun)
      refine wpOpIn_mono (fun a' w' h3 => ⟨h3.2.1, first hF hd hi hsel hQ fuel (listed.setIfInBounds j true) a' w' hfree' (fun z h6 h7 h8 => (hwt z h6 h7 h8).imp id getD_set_true) (hcl.set hj) (ready_mono hr (Ne.symm hji)) h3.1 (h3.2.1 hzj) ?_⟩) h2
      rw [Array.setIfInBounds_comm _ _ hji]
      exact h3.2.2

/-- Is no operation a defer statement? -/
def noDefer (ops : Array Oper) : Bool := ops.all fun o => match o.op with | .defer _ => false | _ => true
theorem noDefer_spec (h : noDefer ops = true) (j : Nat) (o : Oper) (c) (ho : ops[j]? = some o) : o.op ≠ .defer c := fun e => by
  obtain ⟨hlt, e2⟩ := Array.getElem?_eq_some_iff.1 ho
  have := (Array.all_eq_true_iff_forall_mem.1 h) o (by rw [← e2]; exact Array.getElem_mem hlt)
  rw [e] at this
  cases this

/-- **The beginning.** -/
theorem begin_ {id : Nat} {a : Act} {w : World} (hm : P.follows .mixedOrders = true) (hS : S w.drew) (h : S w.drew → AnyH F n P .any ops Q S Z ops.size (Array.replicate ops.size false) a w.drew) : (Code.region id ops true).wpIn F n P Q a w :=
  wpIn_region_any hm (any_of _ _ _ _ (h hS))
/-- An operation taken first whose slot is named. -/
theorem take {i k : Nat} {oi : Oper} {v : Value} {fuel : Nat} {listed : Array Bool} {t : List Value} {d : List Deferred} {w : World} (hF : ∀ f, F.fn f) (hnd : noDefer ops = true) (hi : ops[i]? = some oi) (hk : oi.dst = some k)
    (hs : Region.noSelect ops = true) (hf : Region.free md ops listed i = true) (hr : (Region.ready md ops listed).contains i = true)
    (hQ : ∀ c a w, Q (.panic c) (a.put (some k) v) w → Q (.panic c) a w) (hwt : waitB md ops Z i listed = true) (hcl : closedB md ops listed = true) (hy : YieldsIf P ops S oi v { tmps := t.toArray, defers := d }) (hS : S w)
    (h : AnyH F n P md ops Q S Z fuel (listed.setIfInBounds i true) { tmps := (t.set k v).toArray, defers := d } w) : AnyH F n P md ops Q S Z (fuel + 1) listed { tmps := t.toArray, defers := d } w := by
  refine first hF (noDefer_spec hnd) hi (Region.noSelect_spec hs) (fun c a w h => hQ c a w (by rwa [hk] at h)) fuel listed _ w (Region.free_spec hi hf) (fun z h6 h7 h8 => wait_of hwt h6 h7 h8) (closed_of hcl) (by simpa using hr) hy hS ?_
  rw [hk]
  have e : Act.put { tmps := t.toArray, defers := d } (some k) v = { tmps := (t.set k v).toArray, defers := d } := by simp [Act.put]
  rw [e]; exact h
theorem room {i k : Nat} {oi : Oper} {fuel : Nat} {listed : Array Bool} {t : List Value} {d : List Deferred} {w : World} (hi : ops[i]? = some oi) (hr : Region.ready md ops listed = [i]) (hw : Region.wanted oi (yielded ops t.toArray) = true) (h : oi.wpIn F n P { tmps := t.toArray, defers := d } w (fun a' w' => (Z i = false → S w') ∧ AnyH F n P md ops Q S Z fuel (listed.setIfInBounds i true) a' w') Q) :
    AnyH F n P md ops Q S Z (fuel + 1) listed { tmps := t.toArray, defers := d } w := by
  refine ⟨fun h0 => (by rw [hr] at h0; cases h0), fun j hj => ?_⟩
  rw [hr] at hj
  obtain rfl : j = i := by simpa using hj
  unfold wpOpIn
  simp only [hi]
  rw [if_pos hw]
  exact h
/-- The one call that may come up. -/
theorem call_ {i k : Nat} {oi : Oper} {fuel : Nat} {listed : Array Bool} {t : List Value} {d : List Deferred} {w : World} {f : FuncId} {args : Array Value} (hF : ∀ f, F.fn f) (hdp : F.depth.isSome = true → 1 ≤ n) (hnd : ∀ c, oi.op ≠ .defer c) (hi : ops[i]? = some oi) (hk : oi.dst = some k)
    (hr : Region.ready md ops listed = [i]) (hw : Region.wanted oi (yielded ops t.toArray) = true) (hrun : (execOp (Act.eval { tmps := t.toArray, defers := d }) oi).run P w = .ok (.enter f args) w)
    (hc : CallsIn F (n - 1) P f args w fun e w' => ∃ v, e = .returned v ∧ (Z i = false → S w') ∧ ((Z i = false → S w') → AnyH F n P md ops Q S Z fuel (listed.setIfInBounds i true) { tmps := (t.set k v).toArray, defers := d } w')) : AnyH F n P md ops Q S Z (fuel + 1) listed { tmps := t.toArray, defers := d } w := by
  refine room (k := k) hi hr hw ⟨fun f _ => hF f, ?_⟩
  rw [Oper.semAt_eq _ _ _ hnd, hrun]
  refine ⟨hdp, CallsIn.mono hc ?_⟩
  rintro e w' ⟨v, rfl, h1, h2⟩
  refine ⟨h1, ?_⟩
  rw [hk]
  have e : Act.put { tmps := t.toArray, defers := d } (some k) v = { tmps := (t.set k v).toArray, defers := d } := by simp [Act.put]
  rw [e]; exact h2 h1
/-- The one call of yield that may come up. -/
theorem yield_ {i k l : Nat} {oi : Oper} {fuel : Nat} {listed : Array Bool} {t : List Value} {d : List Deferred} {w : World} {fn : FuncId} {tmps : Array Value} {assign body : Code} (hF : ∀ f, F.fn f) (hdp : F.depth.isSome = true → 1 ≤ n) (hnd : ∀ c, oi.op ≠ .defer c) (hi : ops[i]? = some oi) (hk : oi.dst = some k)
    (hr : Region.ready md ops listed = [i]) (hw : Region.wanted oi (yielded ops t.toArray) = true) (hrun : (execOp (Act.eval { tmps := t.toArray, defers := d }) oi).run P w = .ok (.round l fn tmps assign body) w)
    (hc : RoundIn F (n - 1) P l fn tmps assign body w fun e w' => ∃ v, e = .returned v ∧ (Z i = false → S w') ∧ ((Z i = false → S w') → AnyH F n P md ops Q S Z fuel (listed.setIfInBounds i true) { tmps := (t.set k v).toArray, defers := d } w')) : AnyH F n P md ops Q S Z (fuel + 1) listed { tmps := t.toArray, defers := d } w := by
  refine room (k := k) hi hr hw ⟨fun f _ => hF f, ?_⟩
  rw [Oper.semAt_eq _ _ _ hnd, hrun]
  refine ⟨hdp, RoundIn.mono hc ?_⟩
  rintro e w' ⟨v, rfl, h1, h2⟩
  refine ⟨h1, ?_⟩
  rw [hk]
  have e : Act.put { tmps := t.toArray, defers := d } (some k) v = { tmps := (t.set k v).toArray, defers := d } := by simp [Act.put]
  rw [e]; exact h2 h1
/-- The one operation that may come up. -/
theorem val_ {i k : Nat} {oi : Oper} {fuel : Nat} {listed : Array Bool} {t : List Value} {d : List Deferred} {w w' : World} {v : Value} (hF : ∀ f, F.fn f) (hnd : ∀ c, oi.op ≠ .defer c) (hi : ops[i]? = some oi) (hk : oi.dst = some k)
    (hr : Region.ready md ops listed = [i]) (hw : Region.wanted oi (yielded ops t.toArray) = true) (hrun : (execOp (Act.eval { tmps := t.toArray, defers := d }) oi).run P w = .ok (.value v) w') (hS : Z i = false → S w')
    (h : AnyH F n P md ops Q S Z fuel (listed.setIfInBounds i true) { tmps := (t.set k v).toArray, defers := d } w') : AnyH F n P md ops Q S Z (fuel + 1) listed { tmps := t.toArray, defers := d } w := by
  refine room (k := k) hi hr hw ⟨fun f _ => hF f, ?_⟩
  rw [Oper.semAt_eq _ _ _ hnd, hrun]
  refine ⟨hS, ?_⟩
  rw [hk]
  have e : Act.put { tmps := t.toArray, defers := d } (some k) v = { tmps := (t.set k v).toArray, defers := d } := by simp [Act.put]
  rw [e]; exact h
/-- More may be held from here on. -/
theorem more {S' : World → Prop} (hSS : ∀ w, S' w → S w) : ∀ (fuel : Nat) (listed : Array Bool) (a : Act) (w : World), AnyH F n P md ops Q S' Z fuel listed a w → AnyH F n P md ops Q S Z fuel listed a w
  | 0, _, _, _, h => h
  | fuel + 1, _, _, _, h => ⟨h.1, fun i hi => wpOpIn_mono (fun a' w' h' => ⟨fun hz => hSS _ (h'.1 hz), more hSS fuel _ a' w' h'.2⟩) (h.2 i hi)⟩
theorem done_ {listed : Array Bool} {a : Act} {w : World} (hr : Region.ready md ops listed = []) (h : Q .normal a w) : ∀ fuel, AnyH F n P md ops Q S Z fuel listed a w
  | 0 => ⟨hr, h⟩
  | _ + 1 => ⟨fun _ => h, by rw [hr]; simp⟩
/-- In a fence of any function and any depth the count says nothing. -/
theorem round_any {l m m' : Nat} {f : FuncId} {tmps : Array Value} {assign body : Code} {w : World} {R : Ending → World → Prop} (h : RoundIn Fence.wide m P l f tmps assign body w R) : RoundIn Fence.wide m' P l f tmps assign body w R :=
  ⟨h.1, fun c cs _ => h.2 c cs (room_wide _)⟩
theorem calls_any {m m' : Nat} {f : FuncId} {args : Array Value} {w : World} {R : Ending → World → Prop} (h : CallsIn Fence.wide m P f args w R) : CallsIn Fence.wide m' P f args w R :=
  ⟨h.1, fun cs _ => h.2 cs (room_wide _)⟩
end Hi
end Go.Proofs.YtocoonkachbjaaaGreatDoor
