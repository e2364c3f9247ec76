/- Several texts in one: what each proves its own first comment says. -/
import Derived.Test.YtocoonkachbjaaaDoorProg
import Derived.WalkKit
import Derived.LaidEql
import Derived.Stop.Asserts
import Derived.RowKitTokens
import Derived.Lib.Hide
import Derived.Maps.AppendAt
import Derived.RangeFuncBox
import Derived.Deep.Draws
import Derived.OpenShut
import Derived.BigQuiet
import Derived.Deep.QuietTactic
import Derived.Deep.RegionWith

/- What lineagekit.Num and lineagekit.Plain answer of an error that is a number of package api, and of no error: errors.Is, errors.As by Go's own text, at the types of this program. -/
namespace Go.Proofs.YtocoonkachbjaaaDoor
open Go.RowKit Go.Extern.Stop Go.Stop Go.Extern

section
variable {P : Program} (w : World)

theorem eqIn_iface_int (d : Nat) {ti tn : TypeId} {ms : Array (String × TypeId)} {i : TypeInfo} {k : IntKind} (a b : Int)
    (hi : P.underlying ti = some (.interface ms)) (hn : P.underlying tn = some (.int k)) (hinfo : P.info? tn = some i) (hcomp : i.comparable = true) :
    (Op.equalIn (d + 2) ti (.iface tn (.int k a)) (.iface tn (.int k b))).run P w = .ok (a == b) w := by
  simp [Op.equalIn, run_underlying hi, run_underlying hn, typeInfo, hinfo, hcomp]

theorem eql_iface_int {ti tn : TypeId} {ms : Array (String × TypeId)} {i : TypeInfo} {k : IntKind} (a b : Int)
    (hi : P.underlying ti = some (.interface ms)) (hn : P.underlying tn = some (.int k)) (hinfo : P.info? tn = some i) (hcomp : i.comparable = true) :
    (binOp .eql ti (.iface tn (.int k a)) (.iface tn (.int k b))).run P w = .ok (.bool (a == b)) w := by
  simp only [binOp]
  simp [Op.equal, Op.maxDepth, eqIn_iface_int w 9998 a b hi hn hinfo hcomp]
end

/-! closed facts at this program's types -/
def cmpFn : Array Value → Sem Value := Extern.ReflectliteType.method fun t => do Extern.Rtype.noPackHeld "Comparable" t; pure (.bool (← typeInfo t).comparable)
theorem er_comparable (w : World) : (cmpFn #[.agg #[.pointer (some ⟨7, 69, none⟩)]]).run Tryd.prog w = .ok (.bool true) w := by kernel_rfl
theorem er_comp : (Tryd.prog.info? 69).map (·.comparable) = some true := by kernel_rfl
theorem er_kindF (w : World) : ((ReflectliteType.abiMethod fun t => (fun a : Nat => Value.int IntKind.u8 (a : Int)) <$> Rtype.kind t) #[.pointer (some ⟨7, 86, none⟩)]).run Tryd.prog w = .ok (.int .u8 25) w := by kernel_rfl
theorem er_rlm (z : Sem Value) (f : TypeId → Addr → Nat → Nat → Sem Value) (v : Value) :
    ReflectliteValue.method z f #[v] = (do match ← ReflectliteValue.parts v with | none => z | some (t, a, fl) => f t a fl (fl % 32)) := rfl
end Go.Proofs.YtocoonkachbjaaaDoor

/- Small lemmas on worlds and on lists of the call's own. No program in sight. -/
namespace Go.Proofs.Ut
open Go.RowKit

theorem ret_int {k : IntKind} {a b : Int} (h : a = b) : Ending.returned (.int k a) = .returned (.int k b) := by rw [h]
theorem ret_bool {a b : Bool} (h : a = b) : Ending.returned (.bool a) = .returned (.bool b) := by rw [h]

theorem below_drewN {B : Nat} {a w : World} (h : Below B a w) (n : Nat) : Below B a (w.drewN n) := h.trans ⟨rfl, rfl, rfl, Nat.le_refl _, fun _ _ => rfl⟩

/-- Behind an append of one element to a list of the call's own. -/
theorem below_app {B : Nat} {w wr w1 : World} {e size n : Nat} {v : Value} {xs : List Value} {o : Obj} (hnx : Below B w wr) (hB : B ≤ wr.heap.size) (hown : wr.ownsRow B e size v n xs) (hgrow : (wr.alloc o).grownBy w1 v.ownBlock) : Below B w w1 :=
  (hnx.alloc hB o).grown hgrow (by simp; omega) (fun j hj => (hown.lt j hj).1)

/-- What is owned stays owned where all that was there stays. -/
theorem own_below {w w' : World} {base e size n : Nat} {v : Value} {xs : List Value} (h : w.ownsRow base e size v n xs) (hb : Below w.heap.size w w') : w'.ownsRow base e size v n xs := by
  refine ⟨h.1, ?_⟩
  rcases h.2 with h2 | ⟨g, cap, cur, h1, h2, h3, h4⟩
  · exact .inl h2
  · refine .inr ⟨g, cap, cur, h1, h2, ?_, h4⟩
    rw [hb.block g (Array.getElem?_eq_some_iff.1 h3).1]; exact h3

theorem own_base {w : World} {base base' e size n : Nat} {v : Value} {xs : List Value} (h : w.ownsRow base e size v n xs) (hb : base' ≤ base) : w.ownsRow base' e size v n xs := by
  refine ⟨h.1, ?_⟩
  rcases h.2 with h2 | ⟨g, cap, cur, h1, h2, h3⟩
  · exact .inl h2
  · exact .inr ⟨g, cap, cur, h1, Nat.le_trans hb h2, h3⟩

/-- A list of the call's own with an element at least, written out: its address, its cells. -/
theorem own_cells {w : World} {base e n : Nat} {v : Value} {xs : List Value} (h : w.ownsRow base e 1 v n xs) (hn : 0 < n) :
    ∃ g cap, v = .slice (some ⟨g, 0, none⟩) n cap ∧ n ≤ cap ∧ cap ≤ maxLen ∧ base ≤ g ∧ g < w.heap.size ∧ ∀ j, j < n → w.cell? ⟨g, j, none⟩ = xs[j]? := by
  obtain ⟨hl, h0⟩ := h
  rcases h0 with ⟨_, h0⟩ | ⟨g, cap, cur, rfl, h2, h3, h4, h5, h6⟩
  · omega
  · exact ⟨g, cap, rfl, h4, h5, h2, (Array.getElem?_eq_some_iff.1 h3).1, fun j hj => World.ownsRow.cellAt (w := w) ⟨hl, .inr ⟨g, cap, cur, rfl, h2, h3, h4, h5, h6⟩⟩ j (by omega)⟩

theorem alloc_at (w : World) (o : Obj) : (w.alloc o).heap[w.heap.size]? = some o := by
  show (w.heap.push o)[w.heap.size]? = some o
  simp

end Go.Proofs.Ut

/- lineagekit.Num and lineagekit.Plain, of a number of package api and of no error. -/
namespace Go.Proofs.YtocoonkachbjaaaDoor
open Go.RowKit
set_option linter.unusedVariables false

/-- An error that is nil, or a number of package api. -/
def errVal (k : Int) : Value := if k = 0 then .nilIface else .iface 69 (.int .i64 k)

end Go.Proofs.YtocoonkachbjaaaDoor

/- clock.After, Until, Left and the reference's, at every number. -/
namespace Go.Proofs.YtocoonkachbjaaaDoor
open Go.RowKit
set_option linter.unusedVariables false

/-- Is a number a time? -/
def tm (n : Int) : Bool := decide (0 ≤ n ∧ n ≤ 1099511627776)
theorem tm_yes {n : Int} (h : tm n = true) : 0 ≤ n ∧ n ≤ 1099511627776 := of_decide_eq_true h
theorem tm_no {n : Int} (h : tm n = false) : n < 0 ∨ 1099511627776 < n := by have := of_decide_eq_false h; omega

theorem time_any (n : Int) (w : World) : Calls Tryd.prog 52 #[.int .i64 n] w fun e w' => e = .returned (.bool (tm n)) ∧ w = w' := by
  by_cases h : tm n = true
  · have hb := tm_yes h
    rw [h]
    obtain ⟨b1, b2⟩ := hb
    clear h
    go_enter Tryd.func52, Tryd.ntmps52
    go_wp2
    go_ret
    exact ⟨rfl, rfl⟩
  · have h' : tm n = false := by simpa using h
    have hb := tm_no h'
    rw [h']
    clear h h'
    by_cases h0 : 0 ≤ n
    · have h2 : ¬ n ≤ 1099511627776 := by omega
      clear hb
      go_enter Tryd.func52, Tryd.ntmps52
      go_wp2
      go_ret
      exact ⟨rfl, rfl⟩
    · clear hb
      go_enter Tryd.func52, Tryd.ntmps52
      go_wp2
      go_ret
      exact ⟨rfl, rfl⟩

/-- May a time come so much later? -/
def aft (now ticks : Int) : Bool := tm now && decide (0 ≤ ticks ∧ ticks ≤ 1073741824) && tm (now + ticks)

theorem aft_yes {now ticks : Int} (h : aft now ticks = true) : tm now = true ∧ 0 ≤ ticks ∧ ticks ≤ 1073741824 ∧ tm (now + ticks) = true := by
  simp only [aft, Bool.and_eq_true, decide_eq_true_eq] at h
  exact ⟨h.1.1, h.1.2.1, h.1.2.2, h.2⟩

theorem u64_sub (a b : Int) (h1 : b < a) (h2 : a - b < 18446744073709551616) : IntKind.u64.wrap (IntKind.u64.wrap a - IntKind.u64.wrap b) = a - b := by
  simp only [IntKind.wrap_u64]; omega

/-- How much is left. -/
def lft (now at_ : Int) : Int := if at_ ≤ now then 0 else if at_ - now < 1099511627776 then at_ - now else 1099511627776

theorem left_any (now at_ : Int) (w1 : (Lit.int .i64 now).wf = true) (w2 : (Lit.int .i64 at_).wf = true) (w : World) :
    Calls Tryd.prog 32 #[.int .i64 now, .int .i64 at_] w fun e w' => e = .returned (.int .i64 (lft now at_)) ∧ w = w' := by
  by_cases h : at_ ≤ now
  · have e : lft now at_ = 0 := if_pos h
    rw [e]; clear e
    go_enter Tryd.func32, Tryd.ntmps32
    go_wp2
    go_ret
    exact ⟨rfl, rfl⟩
  · have h1 := Go.bounds_i64 w1
    have h2 := Go.bounds_i64 w2
    have hd := u64_sub at_ now (by omega) (by omega)
    by_cases hs : at_ - now < 1099511627776
    · have e : lft now at_ = at_ - now := by unfold lft; rw [if_neg h, if_pos hs]
      have hw : wrap64 (at_ - now) = at_ - now := IntWalk.wrap64_in _ (by omega)
      rw [e]
      have HW := Lib.hid hw; have HD := Lib.hid hd
      have hq : IntKind.u64.wrap (IntKind.u64.wrap at_ - IntKind.u64.wrap now) < 1099511627776 := by rw [hd]; exact hs
      clear e hw hd h1 h2 hs
      go_enter Tryd.func32, Tryd.ntmps32
      go_wp2
      go_ret
      exact ⟨Ut.ret_int (by rw [HD.out, HW.out]), rfl⟩
    · have e : lft now at_ = 1099511627776 := by unfold lft; rw [if_neg h, if_neg hs]
      rw [e]
      have hq : ¬ IntKind.u64.wrap (IntKind.u64.wrap at_ - IntKind.u64.wrap now) < 1099511627776 := by rw [hd]; exact hs
      clear e hd h1 h2 hs
      go_enter Tryd.func32, Tryd.ntmps32
      go_wp2
      go_ret
      exact ⟨rfl, rfl⟩

/-- Is there a deadline? -/
def unt (now life most : Int) : Bool := tm now && tm most && decide (1 ≤ life ∧ life ≤ 1073741824) && decide (now < most)

theorem unt_yes {now life most : Int} (h : unt now life most = true) : tm now = true ∧ tm most = true ∧ 1 ≤ life ∧ life ≤ 1073741824 ∧ now < most := by
  simp only [unt, Bool.and_eq_true, decide_eq_true_eq] at h
  exact ⟨h.1.1.1, h.1.1.2, h.1.2.1, h.1.2.2, h.2⟩

def untV (now life most : Int) : Int := if most < now + life then most else now + life

end Go.Proofs.YtocoonkachbjaaaDoor
