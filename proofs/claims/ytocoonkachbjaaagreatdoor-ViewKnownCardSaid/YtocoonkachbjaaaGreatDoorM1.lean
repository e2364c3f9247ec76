/- Several texts in one: what each proves its own first comment says. -/
import Derived.Test.YtocoonkachbjaaaGreatDoorProg
import Derived.WalkKit
import Derived.LaidEql
import Derived.Stop.Asserts
import Derived.RowKitTokens
import Derived.Lib.Hide
import Derived.Maps.AppendAt
import Derived.RangeFuncBox
import Derived.Deep.Draws
import Derived.OpenShut
import Derived.BigQuiet
import Derived.Deep.QuietTactic
import Derived.Deep.RegionWith

/- What lineagekit.Num and lineagekit.Plain answer of an error that is a number of package api, and of no error: errors.Is, errors.As by Go's own text, at the types of this program. -/
namespace Go.Proofs.YtocoonkachbjaaaGreatDoor
open Go.RowKit Go.Extern.Stop Go.Stop Go.Extern

section
variable {P : Program} (w : World)

theorem eqIn_iface_int (d : Nat) {ti tn : TypeId} {ms : Array (String × TypeId)} {i : TypeInfo} {k : IntKind} (a b : Int)
    (hi : P.underlying ti = some (.interface ms)) (hn : P.underlying tn = some (.int k)) (hinfo : P.info? tn = some i) (hcomp : i.comparable = true) :
    (Op.equalIn (d + 2) ti (.iface tn (.int k a)) (.iface tn (.int k b))).run P w = .ok (a == b) w := by
  simp [Op.equalIn, run_underlying hi, run_underlying hn, typeInfo, hinfo, hcomp]

theorem eql_iface_int {ti tn : TypeId} {ms : Array (String × TypeId)} {i : TypeInfo} {k : IntKind} (a b : Int)
    (hi : P.underlying ti = some (.interface ms)) (hn : P.underlying tn = some (.int k)) (hinfo : P.info? tn = some i) (hcomp : i.comparable = true) :
    (binOp .eql ti (.iface tn (.int k a)) (.iface tn (.int k b))).run P w = .ok (.bool (a == b)) w := by
  simp only [binOp]
  simp [Op.equal, Op.maxDepth, eqIn_iface_int w 9998 a b hi hn hinfo hcomp]
end

/-! closed facts at this program's types -/
theorem er_typeOf (v : Value) (w : World) : (Extern.ReflectliteType.typeOf #[.iface 55 v]).run Tryz.prog w = .ok (.iface 161 (.agg #[.pointer (some ⟨8, 55, none⟩)])) w := by kernel_rfl
def cmpFn : Array Value → Sem Value := Extern.ReflectliteType.method fun t => do Extern.Rtype.noPackHeld "Comparable" t; pure (.bool (← typeInfo t).comparable)
theorem er_comparable (w : World) : (cmpFn #[.agg #[.pointer (some ⟨8, 55, none⟩)]]).run Tryz.prog w = .ok (.bool true) w := by kernel_rfl
theorem er_methodComparable (v : Value) (w : World) : (Go.method 334 161 v "Comparable").run Tryz.prog w = .ok (172, v) w := by kernel_rfl
theorem er_comp : (Tryz.prog.info? 55).map (·.comparable) = some true := by kernel_rfl
theorem er_noIs (v : Value) (xT : TypeId) (w : World) : (Instr.typeAssert (.iface 55 v) xT 190 true).run Tryz.prog w = .ok (.tuple #[.nilIface, .bool false]) w := run_typeAssert_lacksB Tryz.underlying190 (by kernel_rfl) (by kernel_rfl) v xT w
theorem er_noUnwrap (v : Value) (xT : TypeId) (w : World) : (Instr.typeAssert (.iface 55 v) xT 168 true).run Tryz.prog w = .ok (.tuple #[.nilIface, .bool false]) w := run_typeAssert_lacksB Tryz.underlying168 (by kernel_rfl) (by kernel_rfl) v xT w
theorem er_noUnwraps (v : Value) (xT : TypeId) (w : World) : (Instr.typeAssert (.iface 55 v) xT 170 true).run Tryz.prog w = .ok (.tuple #[.nilIface, .bool false]) w := run_typeAssert_lacksB Tryz.underlying170 (by kernel_rfl) (by kernel_rfl) v xT w
theorem er_noAs (v : Value) (xT : TypeId) (w : World) : (Instr.typeAssert (.iface 55 v) xT 165 true).run Tryz.prog w = .ok (.tuple #[.nilIface, .bool false]) w := run_typeAssert_lacksB Tryz.underlying165 (by kernel_rfl) (by kernel_rfl) v xT w

set_option maxHeartbeats 1000000 in
/-- errors.Is of two numbers of package api. -/
theorem is_errno (a b : Int) (w : World) :
    Calls Tryz.prog 76 #[.iface 55 (.int .i64 a), .iface 55 (.int .i64 b)] w fun e w' => e = .returned (.bool (a == b)) ∧ w = w' := by
  obtain ⟨i, hi, hcmp⟩ := Option.map_eq_some_iff.1 er_comp
  have h8 := @run_callFunc_extern Tryz.prog 106 _ Extern.ReflectliteType.typeOf Tryz.func106 (by kernel_rfl) (by kernel_rfl) (by kernel_rfl) (by kernel_rfl)
  have h32 := @run_callFunc_extern Tryz.prog 172 _ cmpFn Tryz.func172 (by kernel_rfl) (by kernel_rfl) (by kernel_rfl) (by kernel_rfl)
  have tT := er_typeOf
  have cT := er_comparable
  have mR := er_methodComparable
  have nE := er_noIs
  have uE := er_noUnwrap
  have vE := er_noUnwraps
  have heq := eql_iface_int (P := Tryz.prog) w a b Tryz.underlying33 Tryz.underlying55 hi hcmp
  by_cases hab : (a == b) = true
  · rw [hab] at heq ⊢
    go_enter Tryz.func76, Tryz.ntmps76
    go_wp2
    refine wp_loop_rounds 1 ?_
    rw [rounds_succ]
    go_wp2
    go_ret
    exact ⟨rfl, rfl⟩
  · simp only [Bool.not_eq_true] at hab
    rw [hab] at heq ⊢
    go_enter Tryz.func76, Tryz.ntmps76
    go_wp2
    refine wp_loop_rounds 1 ?_
    rw [rounds_succ]
    go_wp2
    go_ret
    exact ⟨rfl, rfl⟩


theorem er_valueOfPF (t : Addr) (w : World) : (ReflectliteValue.unpack (.iface 73 (.pointer (some t)))).run Tryz.prog w
    = .ok (.agg #[.pointer (some ⟨8, 73, none⟩), .pointer (some ⟨w.heap.size, 0, none⟩), .int .u64 150]) (w.alloc (.cells #[.pointer (some t)] 73)) := by kernel_rfl
theorem er_typePF (a : Addr) (w : World) : (ReflectliteValue.methodAny (ReflectliteValue.valueError "reflectlite.Value.Type" 0) (fun t _ _ _ => ReflectliteType.toType t) #[.agg #[.pointer (some ⟨8, 73, none⟩), .pointer (some a), .int .u64 150]]).run Tryz.prog w
    = .ok (.iface 161 (.agg #[.pointer (some ⟨8, 73, none⟩)])) w := by kernel_rfl
theorem er_methodKind (h : Value) (w : World) : (Go.method 334 161 (.agg #[h]) "Kind").run Tryz.prog w = .ok (160, h) w := by kernel_rfl
theorem er_kindPF (w : World) : ((ReflectliteType.abiMethod fun t => (fun a : Nat => Value.int IntKind.u8 (a : Int)) <$> Rtype.kind t) #[.pointer (some ⟨8, 73, none⟩)]).run Tryz.prog w = .ok (.int .u8 22) w := by kernel_rfl
theorem er_kindF (w : World) : ((ReflectliteType.abiMethod fun t => (fun a : Nat => Value.int IntKind.u8 (a : Int)) <$> Rtype.kind t) #[.pointer (some ⟨8, 62, none⟩)]).run Tryz.prog w = .ok (.int .u8 25) w := by kernel_rfl
theorem er_rlm (z : Sem Value) (f : TypeId → Addr → Nat → Nat → Sem Value) (v : Value) :
    ReflectliteValue.method z f #[v] = (do match ← ReflectliteValue.parts v with | none => z | some (t, a, fl) => f t a fl (fl % 32)) := rfl
theorem er_partsPF (a : Addr) (w : World) : (ReflectliteValue.parts (.agg #[.pointer (some ⟨8, 73, none⟩), .pointer (some a), .int .u64 150])).run Tryz.prog w = .ok (some (73, a, 150)) w := by kernel_rfl
theorem er_isNilPF (a p : Addr) (W : World) (ha : W.cell? a = some (.pointer (some p))) :
    (ReflectliteValue.method (ReflectliteValue.valueError "reflectlite.Value.IsNil" 0) ReflectliteValue.isNil #[.agg #[.pointer (some ⟨8, 73, none⟩), .pointer (some a), .int .u64 150]]).run Tryz.prog W = .ok (.bool false) W := by
  rw [er_rlm]
  simp only [Sem.run_bind, er_partsPF, Result.andThen]
  simp [ReflectliteValue.isNil, loadVar, isAgg, underlying, Tryz.underlying73, ha, Result.andThen]
theorem er_methodElem (h : Value) (w : World) : (Go.method 334 161 (.agg #[h]) "Elem").run Tryz.prog w = .ok (173, .agg #[h]) w := by kernel_rfl
theorem er_methodImplements (h : Value) (w : World) : (Go.method 334 161 (.agg #[h]) "Implements").run Tryz.prog w = .ok (174, .agg #[h]) w := by kernel_rfl
theorem er_methodAssignableTo (h : Value) (w : World) : (Go.method 334 161 (.agg #[h]) "AssignableTo").run Tryz.prog w = .ok (171, .agg #[h]) w := by kernel_rfl
theorem er_elemPF (w : World) : (ReflectliteType.method ReflectliteType.elem #[.agg #[.pointer (some ⟨8, 73, none⟩)]]).run Tryz.prog w = .ok (.iface 161 (.agg #[.pointer (some ⟨8, 62, none⟩)])) w := by kernel_rfl
theorem er_implementsF (w : World) : (ReflectliteType.relation "Implements" ReflectliteType.implements_ #[.agg #[.pointer (some ⟨8, 62, none⟩)], .iface 161 (.agg #[.pointer (some ⟨8, 33, none⟩)])]).run Tryz.prog w = .ok (.bool true) w := by kernel_rfl
theorem er_assignE (w : World) : (ReflectliteType.relation "AssignableTo" ReflectliteType.assignableTo #[.agg #[.pointer (some ⟨8, 55, none⟩)], .iface 161 (.agg #[.pointer (some ⟨8, 62, none⟩)])]).run Tryz.prog w = .ok (.bool false) w := by kernel_rfl

/-- What errors.errorType holds. -/
def erHandle (w : World) : Prop := w.cell? ⟨1, 0, none⟩ = some (.iface 161 (.agg #[.pointer (some ⟨8, 33, none⟩)]))

theorem erHandle.lt {w : World} (h : erHandle w) : 1 < w.heap.size := by
  unfold erHandle at h
  rcases Nat.lt_or_ge 1 w.heap.size with h0 | h0
  · exact h0
  · simp [World.cell?, Array.getElem?_eq_none h0] at h

theorem erHandle.below {w w' : World} (h : erHandle w) {B : Nat} (hB : 1 < B) (hb : Below B w w') : erHandle w' :=
  (hb.cell (p := ⟨1, 0, none⟩) hB).trans h

set_option maxHeartbeats 4000000 in
/-- errors.As(a number of package api, &f), f a Fault: false; f stays. -/
theorem as_errno (k : Int) (t : Addr) (w : World) (hg : erHandle w) :
    Calls Tryz.prog 38 #[.iface 55 (.int .i64 k), .iface 73 (.pointer (some t))] w fun e w' => e = .returned (.bool false) ∧ Below w.heap.size w w' := by
  have h6 := @run_callFunc_extern Tryz.prog 77 _ (fun args => ReflectliteValue.unpack (args.getD 0 (.tuple #[]))) Tryz.func77 (by kernel_rfl) (by kernel_rfl) (by kernel_rfl) (by kernel_rfl)
  have h7 := @run_callFunc_extern Tryz.prog 78 _ (ReflectliteValue.methodAny (ReflectliteValue.valueError "reflectlite.Value.Type" 0) (fun t _ _ _ => ReflectliteType.toType t)) Tryz.func78 (by kernel_rfl) (by kernel_rfl) (by kernel_rfl) (by kernel_rfl)
  have h8 := @run_callFunc_extern Tryz.prog 79 _ (ReflectliteValue.method (ReflectliteValue.valueError "reflectlite.Value.IsNil" 0) ReflectliteValue.isNil) Tryz.func79 (by kernel_rfl) (by kernel_rfl) (by kernel_rfl) (by kernel_rfl)
  have h27 := @run_callFunc_extern Tryz.prog 160 _ (ReflectliteType.abiMethod fun t => do pure (.int .u8 (← Rtype.kind t))) Tryz.func160 (by kernel_rfl) (by kernel_rfl) (by kernel_rfl) (by kernel_rfl)
  have h37 := @run_callFunc_extern Tryz.prog 173 _ (ReflectliteType.method ReflectliteType.elem) Tryz.func173 (by kernel_rfl) (by kernel_rfl) (by kernel_rfl) (by kernel_rfl)
  have h38 := @run_callFunc_extern Tryz.prog 174 _ (ReflectliteType.relation "Implements" ReflectliteType.implements_) Tryz.func174 (by kernel_rfl) (by kernel_rfl) (by kernel_rfl) (by kernel_rfl)
  have h10 := @run_callFunc_extern Tryz.prog 106 _ ReflectliteType.typeOf Tryz.func106 (by kernel_rfl) (by kernel_rfl) (by kernel_rfl) (by kernel_rfl)
  have h35 := @run_callFunc_extern Tryz.prog 171 _ (ReflectliteType.relation "AssignableTo" ReflectliteType.assignableTo) Tryz.func171 (by kernel_rfl) (by kernel_rfl) (by kernel_rfl) (by kernel_rfl)
  have tO := er_typeOf
  have mA := er_methodAssignableTo
  have a25 := er_assignE
  have f6 := er_valueOfPF
  have f7 := er_typePF
  have mK := er_methodKind
  have mE := er_methodElem
  have mI := er_methodImplements
  have k27 := er_kindPF
  have k25 := er_kindF
  have e27 := er_elemPF
  have i25 := er_implementsF
  have nA := er_noAs
  have uE := er_noUnwrap
  have vE := er_noUnwraps
  have hlt := hg.lt
  unfold erHandle at hg
  have n8 := er_isNilPF ⟨w.heap.size, 0, none⟩ t ((w.alloc (.cells #[.pointer (some t)] 73)).alloc (.cells #[.pointer (some ⟨8, 73, none⟩), .pointer (some ⟨w.heap.size, 0, none⟩), .int .u64 150] 126)) (by simp)
  have hg2 : ((w.alloc (.cells #[.pointer (some t)] 73)).alloc (.cells #[.pointer (some ⟨8, 73, none⟩), .pointer (some ⟨w.heap.size, 0, none⟩), .int .u64 150] 126)).cell? ⟨1, 0, none⟩ = some (.iface 161 (.agg #[.pointer (some ⟨8, 33, none⟩)])) := by
    rw [World.cell?_alloc_lt _ _ ⟨1, 0, none⟩ (by first | (simp; done) | (simp; omega)), World.cell?_alloc_lt _ _ ⟨1, 0, none⟩ hlt]; exact hg
  go_enter Tryz.func38, Tryz.ntmps38
  go_wp2
  refine wp_loop_rounds 1 ?_
  rw [rounds_succ]
  go_wp2
  go_ret
  exact ⟨rfl, by repeat (first | exact Below.refl _ _ | apply Below.drew | refine Below.alloc ?_ (by first | (simp; done) | (simp; omega)) _)⟩

end Go.Proofs.YtocoonkachbjaaaGreatDoor

/- Small lemmas on worlds and on lists of the call's own. No program in sight. -/
namespace Go.Proofs.Ut
open Go.RowKit

theorem ret_int {k : IntKind} {a b : Int} (h : a = b) : Ending.returned (.int k a) = .returned (.int k b) := by rw [h]
theorem ret_bool {a b : Bool} (h : a = b) : Ending.returned (.bool a) = .returned (.bool b) := by rw [h]

theorem below_drewN {B : Nat} {a w : World} (h : Below B a w) (n : Nat) : Below B a (w.drewN n) := h.trans ⟨rfl, rfl, rfl, Nat.le_refl _, fun _ _ => rfl⟩

/-- Behind an append of one element to a list of the call's own. -/
theorem below_app {B : Nat} {w wr w1 : World} {e size n : Nat} {v : Value} {xs : List Value} {o : Obj} (hnx : Below B w wr) (hB : B ≤ wr.heap.size) (hown : wr.ownsRow B e size v n xs) (hgrow : (wr.alloc o).grownBy w1 v.ownBlock) : Below B w w1 :=
  (hnx.alloc hB o).grown hgrow (by simp; omega) (fun j hj => (hown.lt j hj).1)

/-- What is owned stays owned where all that was there stays. -/
theorem own_below {w w' : World} {base e size n : Nat} {v : Value} {xs : List Value} (h : w.ownsRow base e size v n xs) (hb : Below w.heap.size w w') : w'.ownsRow base e size v n xs := by
  refine ⟨h.1, ?_⟩
  rcases h.2 with h2 | ⟨g, cap, cur, h1, h2, h3, h4⟩
  · exact .inl h2
  · refine .inr ⟨g, cap, cur, h1, h2, ?_, h4⟩
    rw [hb.block g (Array.getElem?_eq_some_iff.1 h3).1]; exact h3

theorem own_base {w : World} {base base' e size n : Nat} {v : Value} {xs : List Value} (h : w.ownsRow base e size v n xs) (hb : base' ≤ base) : w.ownsRow base' e size v n xs := by
  refine ⟨h.1, ?_⟩
  rcases h.2 with h2 | ⟨g, cap, cur, h1, h2, h3⟩
  · exact .inl h2
  · exact .inr ⟨g, cap, cur, h1, Nat.le_trans hb h2, h3⟩

/-- A list of the call's own with an element at least, written out: its address, its cells. -/
theorem own_cells {w : World} {base e n : Nat} {v : Value} {xs : List Value} (h : w.ownsRow base e 1 v n xs) (hn : 0 < n) :
    ∃ g cap, v = .slice (some ⟨g, 0, none⟩) n cap ∧ n ≤ cap ∧ cap ≤ maxLen ∧ base ≤ g ∧ g < w.heap.size ∧ ∀ j, j < n → w.cell? ⟨g, j, none⟩ = xs[j]? := by
  obtain ⟨hl, h0⟩ := h
  rcases h0 with ⟨_, h0⟩ | ⟨g, cap, cur, rfl, h2, h3, h4, h5, h6⟩
  · omega
  · exact ⟨g, cap, rfl, h4, h5, h2, (Array.getElem?_eq_some_iff.1 h3).1, fun j hj => World.ownsRow.cellAt (w := w) ⟨hl, .inr ⟨g, cap, cur, rfl, h2, h3, h4, h5, h6⟩⟩ j (by omega)⟩

theorem alloc_at (w : World) (o : Obj) : (w.alloc o).heap[w.heap.size]? = some o := by
  show (w.heap.push o)[w.heap.size]? = some o
  simp

end Go.Proofs.Ut

/- lineagekit.Num and lineagekit.Plain, of a number of package api and of no error. -/
namespace Go.Proofs.YtocoonkachbjaaaGreatDoor
open Go.RowKit
set_option linter.unusedVariables false

set_option maxHeartbeats 1000000 in
theorem num_errno (k : Int) (h1 : 1 ≤ k) (h2 : k ≤ 24) (w : World) :
    Calls Tryz.prog 37 #[.iface 55 (.int .i64 k)] w fun e w' => e = .returned (.int .i64 k) ∧ w = w' := by
  have hk0 : (k == 0) = false := by rw [beq_eq_false_iff_ne]; omega
  go_enter Tryz.func37, Tryz.ntmps37
  go_wp2
  go_loop [3, 4] (fun f n => ∃ m : Int, 1 ≤ m ∧ m ≤ 25 ∧ n = .int .i64 m ∧ ((m ≤ k ∧ f = .int .i64 0) ∨ (k < m ∧ f = .int .i64 k))) (fun _ n => (25 - intOf n).toNat)
  case atStart => exact ⟨1, by omega, by omega, rfl, .inl ⟨h1, rfl⟩⟩
  case round =>
    obtain ⟨m, hm1, hm2, rfl, hf⟩ := hrel
    by_cases hm : m ≤ 24
    · rcases hf with ⟨hle, rfl⟩ | ⟨hlt, rfl⟩
      · by_cases he : k = m
        · subst he
          have hq : (k == k) = true := by simp
          go_wp2_with fail
          refine (is_errno k k _).mono ?_
          rintro e w' ⟨rfl, rfl⟩
          go_wp2
          go_round
          case rel => exact ⟨k + 1, by omega, by omega, rfl, .inr ⟨by omega, rfl⟩⟩
          case measure => simp [intOf]; omega
        · have hq : (k == m) = false := by rw [beq_eq_false_iff_ne]; exact he
          go_wp2_with fail
          refine (is_errno k m _).mono ?_
          rintro e w' ⟨rfl, rfl⟩
          go_wp2
          go_round
          case rel => exact ⟨m + 1, by omega, by omega, rfl, .inl ⟨by omega, rfl⟩⟩
          case measure => simp [intOf]; omega
      · have hq : (k == m) = false := by rw [beq_eq_false_iff_ne]; omega
        go_wp2_with fail
        refine (is_errno k m _).mono ?_
        rintro e w' ⟨rfl, rfl⟩
        go_wp2
        go_round
        case rel => exact ⟨m + 1, by omega, by omega, rfl, .inr ⟨by omega, rfl⟩⟩
        case measure => simp [intOf]; omega
    · rcases hf with ⟨hle, rfl⟩ | ⟨hlt, rfl⟩
      · omega
      · go_wp2_with fail
        refine (is_errno k 0 _).mono ?_
        rintro e w' ⟨rfl, rfl⟩
        go_wp2
        go_ret
        exact ⟨rfl, rfl⟩

theorem num_nil (w : World) : Calls Tryz.prog 37 #[.nilIface] w fun e w' => e = .returned (.int .i64 0) ∧ w = w' := by
  go_enter Tryz.func37, Tryz.ntmps37
  go_wp2
  go_ret
  exact ⟨rfl, rfl⟩

/-- An error that is nil, or a number of package api. -/
def errVal (k : Int) : Value := if k = 0 then .nilIface else .iface 55 (.int .i64 k)

set_option maxHeartbeats 1000000 in
theorem plain_errno (k n : Int) (h1 : 1 ≤ k) (h2 : k ≤ 24) (w : World) (hg : erHandle w) :
    Calls Tryz.prog 9 #[.iface 55 (.int .i64 k), .int .i64 n] w fun e w' => e = .returned (.bool (k == n)) ∧ Below w.heap.size w w' := by
  have hh : ∀ o, erHandle (w.alloc o) := fun o => hg.below hg.lt ((Below.refl _ w).alloc (Nat.le_refl _) o)
  by_cases he : k = n
  · subst he
    have hq : (k == k) = true := by simp
    rw [hq]
    go_enter Tryz.func9, Tryz.ntmps9
    go_wp2_with (first | (go_at_call 37; refine (num_errno k h1 h2 _).mono ?_; rintro e w' ⟨rfl, rfl⟩) | (go_at_call 38; refine (as_errno k _ _ (hh _)).mono ?_; rintro e w' ⟨rfl, hb⟩))
    go_ret
    exact ⟨rfl, ((Below.refl w.heap.size w).alloc (Nat.le_refl _) _).trans (hb.mono (by simp))⟩
  · have hq : (k == n) = false := by rw [beq_eq_false_iff_ne]; exact he
    rw [hq]
    go_enter Tryz.func9, Tryz.ntmps9
    go_wp2_with (first | (go_at_call 37; refine (num_errno k h1 h2 _).mono ?_; rintro e w' ⟨rfl, rfl⟩))
    go_ret
    exact ⟨rfl, (Below.refl w.heap.size w).alloc (Nat.le_refl _) _⟩

set_option maxHeartbeats 1000000 in
theorem plain_nil (n : Int) (w : World) :
    Calls Tryz.prog 9 #[.nilIface, .int .i64 n] w fun e w' => e = .returned (.bool ((0 : Int) == n)) ∧ Below w.heap.size w w' := by
  by_cases he : (0 : Int) = n
  · subst he
    go_enter Tryz.func9, Tryz.ntmps9
    go_wp2_with (first | (go_at_call 37; refine (num_nil _).mono ?_; rintro e w' ⟨rfl, rfl⟩))
    go_ret
    exact ⟨rfl, (Below.refl w.heap.size w).alloc (Nat.le_refl _) _⟩
  · have hq : ((0 : Int) == n) = false := by rw [beq_eq_false_iff_ne]; exact he
    rw [hq]
    go_enter Tryz.func9, Tryz.ntmps9
    go_wp2_with (first | (go_at_call 37; refine (num_nil _).mono ?_; rintro e w' ⟨rfl, rfl⟩))
    go_ret
    exact ⟨rfl, (Below.refl w.heap.size w).alloc (Nat.le_refl _) _⟩

/-- lineagekit.Plain of a number 0 (no error) to 24. -/
theorem plain_any (k n : Int) (h1 : 0 ≤ k) (h2 : k ≤ 24) (w : World) (hg : erHandle w) :
    Calls Tryz.prog 9 #[errVal k, .int .i64 n] w fun e w' => e = .returned (.bool (k == n)) ∧ Below w.heap.size w w' := by
  unfold errVal
  by_cases h : k = 0
  · rw [if_pos h, h]; exact plain_nil n w
  · rw [if_neg h]; exact plain_errno k n (by omega) h2 w hg

end Go.Proofs.YtocoonkachbjaaaGreatDoor

/- clock.After, Until, Left and the reference's, at every number. -/
namespace Go.Proofs.YtocoonkachbjaaaGreatDoor
open Go.RowKit
set_option linter.unusedVariables false

/-- Is a number a time? -/
def tm (n : Int) : Bool := decide (0 ≤ n ∧ n ≤ 1099511627776)
theorem tm_yes {n : Int} (h : tm n = true) : 0 ≤ n ∧ n ≤ 1099511627776 := of_decide_eq_true h
theorem tm_no {n : Int} (h : tm n = false) : n < 0 ∨ 1099511627776 < n := by have := of_decide_eq_false h; omega

theorem time_any (n : Int) (w : World) : Calls Tryz.prog 66 #[.int .i64 n] w fun e w' => e = .returned (.bool (tm n)) ∧ w = w' := by
  by_cases h : tm n = true
  · have hb := tm_yes h
    rw [h]
    obtain ⟨b1, b2⟩ := hb
    clear h
    go_enter Tryz.func66, Tryz.ntmps66
    go_wp2
    go_ret
    exact ⟨rfl, rfl⟩
  · have h' : tm n = false := by simpa using h
    have hb := tm_no h'
    rw [h']
    clear h h'
    by_cases h0 : 0 ≤ n
    · have h2 : ¬ n ≤ 1099511627776 := by omega
      clear hb
      go_enter Tryz.func66, Tryz.ntmps66
      go_wp2
      go_ret
      exact ⟨rfl, rfl⟩
    · clear hb
      go_enter Tryz.func66, Tryz.ntmps66
      go_wp2
      go_ret
      exact ⟨rfl, rfl⟩

theorem reftime_any (n : Int) (w : World) : Calls Tryz.prog 73 #[.int .i64 n] w fun e w' => e = .returned (.bool (tm n)) ∧ w = w' := by
  by_cases h : tm n = true
  · have hb := tm_yes h
    rw [h]
    obtain ⟨b1, b2⟩ := hb
    clear h
    go_enter Tryz.func73, Tryz.ntmps73
    go_wp2
    go_ret
    exact ⟨rfl, rfl⟩
  · have h' : tm n = false := by simpa using h
    have hb := tm_no h'
    rw [h']
    clear h h'
    by_cases h0 : 0 ≤ n
    · have h2 : ¬ n ≤ 1099511627776 := by omega
      clear hb
      go_enter Tryz.func73, Tryz.ntmps73
      go_wp2
      go_ret
      exact ⟨rfl, rfl⟩
    · clear hb
      go_enter Tryz.func73, Tryz.ntmps73
      go_wp2
      go_ret
      exact ⟨rfl, rfl⟩

theorem u64_sub (a b : Int) (h1 : b < a) (h2 : a - b < 18446744073709551616) : IntKind.u64.wrap (IntKind.u64.wrap a - IntKind.u64.wrap b) = a - b := by
  simp only [IntKind.wrap_u64]; omega

/-- How much is left. -/
def lft (now at_ : Int) : Int := if at_ ≤ now then 0 else if at_ - now < 1099511627776 then at_ - now else 1099511627776

theorem left_any (now at_ : Int) (w1 : (Lit.int .i64 now).wf = true) (w2 : (Lit.int .i64 at_).wf = true) (w : World) :
    Calls Tryz.prog 27 #[.int .i64 now, .int .i64 at_] w fun e w' => e = .returned (.int .i64 (lft now at_)) ∧ w = w' := by
  by_cases h : at_ ≤ now
  · have e : lft now at_ = 0 := if_pos h
    rw [e]; clear e
    go_enter Tryz.func27, Tryz.ntmps27
    go_wp2
    go_ret
    exact ⟨rfl, rfl⟩
  · have h1 := Go.bounds_i64 w1
    have h2 := Go.bounds_i64 w2
    have hd := u64_sub at_ now (by omega) (by omega)
    by_cases hs : at_ - now < 1099511627776
    · have e : lft now at_ = at_ - now := by unfold lft; rw [if_neg h, if_pos hs]
      have hw : wrap64 (at_ - now) = at_ - now := IntWalk.wrap64_in _ (by omega)
      rw [e]
      have HW := Lib.hid hw; have HD := Lib.hid hd
      have hq : IntKind.u64.wrap (IntKind.u64.wrap at_ - IntKind.u64.wrap now) < 1099511627776 := by rw [hd]; exact hs
      clear e hw hd h1 h2 hs
      go_enter Tryz.func27, Tryz.ntmps27
      go_wp2
      go_ret
      exact ⟨Ut.ret_int (by rw [HD.out, HW.out]), rfl⟩
    · have e : lft now at_ = 1099511627776 := by unfold lft; rw [if_neg h, if_neg hs]
      rw [e]
      have hq : ¬ IntKind.u64.wrap (IntKind.u64.wrap at_ - IntKind.u64.wrap now) < 1099511627776 := by rw [hd]; exact hs
      clear e hd h1 h2 hs
      go_enter Tryz.func27, Tryz.ntmps27
      go_wp2
      go_ret
      exact ⟨rfl, rfl⟩

theorem refleft_any (now at_ : Int) (w1 : (Lit.int .i64 now).wf = true) (w2 : (Lit.int .i64 at_).wf = true) (w : World) :
    Calls Tryz.prog 35 #[.int .i64 now, .int .i64 at_] w fun e w' => e = .returned (.int .i64 (lft now at_)) ∧ w = w' := by
  by_cases h : at_ ≤ now
  · have e : lft now at_ = 0 := if_pos h
    rw [e]; clear e
    go_enter Tryz.func35, Tryz.ntmps35
    go_wp2
    go_ret
    exact ⟨rfl, rfl⟩
  · have h1 := Go.bounds_i64 w1
    have h2 := Go.bounds_i64 w2
    have hd := u64_sub at_ now (by omega) (by omega)
    by_cases hs : at_ - now ≤ 1099511627776
    · have e : lft now at_ = at_ - now := by unfold lft; rw [if_neg h]; split <;> omega
      have hw : wrap64 (at_ - now) = at_ - now := IntWalk.wrap64_in _ (by omega)
      rw [e]
      have HW := Lib.hid hw; have HD := Lib.hid hd
      have hq : ¬ 1099511627776 < IntKind.u64.wrap (IntKind.u64.wrap at_ - IntKind.u64.wrap now) := by rw [hd]; omega
      clear e hw hd h1 h2 hs
      go_enter Tryz.func35, Tryz.ntmps35
      go_wp2
      go_ret
      exact ⟨Ut.ret_int (by rw [HD.out, HW.out]), rfl⟩
    · have e : lft now at_ = 1099511627776 := by unfold lft; rw [if_neg h, if_neg (by omega)]
      rw [e]
      have hq : 1099511627776 < IntKind.u64.wrap (IntKind.u64.wrap at_ - IntKind.u64.wrap now) := by rw [hd]; omega
      clear e hd h1 h2 hs
      go_enter Tryz.func35, Tryz.ntmps35
      go_wp2
      go_ret
      exact ⟨rfl, rfl⟩

end Go.Proofs.YtocoonkachbjaaaGreatDoor
