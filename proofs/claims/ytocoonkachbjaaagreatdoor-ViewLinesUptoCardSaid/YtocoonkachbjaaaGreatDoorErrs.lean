/- What lineagekit.Num and lineagekit.Plain answer of an error that is a number of package api, and of no error: errors.Is, errors.As by Go's own text, at the types of this program. -/
import Derived.Test.YtocoonkachbjaaaGreatDoorProg
import Derived.WalkKit
import Derived.LaidEql
import Derived.Stop.Asserts
import Derived.RowKitTokens
import Derived.Lib.Hide
namespace Go.Proofs.YtocoonkachbjaaaGreatDoor
open Go.RowKit Go.Extern.Stop Go.Stop Go.Extern

section
variable {P : Program} (w : World)

theorem eqIn_iface_int (d : Nat) {ti tn : TypeId} {ms : Array (String × TypeId)} {i : TypeInfo} {k : IntKind} (a b : Int)
    (hi : P.underlying ti = some (.interface ms)) (hn : P.underlying tn = some (.int k)) (hinfo : P.info? tn = some i) (hcomp : i.comparable = true) :
    (Op.equalIn (d + 2) ti (.iface tn (.int k a)) (.iface tn (.int k b))).run P w = .ok (a == b) w := by
  simp [Op.equalIn, run_underlying hi, run_underlying hn, typeInfo, hinfo, hcomp]

theorem eql_iface_int {ti tn : TypeId} {ms : Array (String × TypeId)} {i : TypeInfo} {k : IntKind} (a b : Int)
    (hi : P.underlying ti = some (.interface ms)) (hn : P.underlying tn = some (.int k)) (hinfo : P.info? tn = some i) (hcomp : i.comparable = true) :
    (binOp .eql ti (.iface tn (.int k a)) (.iface tn (.int k b))).run P w = .ok (.bool (a == b)) w := by
  simp only [binOp]
  simp [Op.equal, Op.maxDepth, eqIn_iface_int w 9998 a b hi hn hinfo hcomp]
end

/-! closed facts at this program's types -/
theorem er_typeOf (v : Value) (w : World) : (Extern.ReflectliteType.typeOf #[.iface 55 v]).run Tryz.prog w = .ok (.iface 161 (.agg #[.pointer (some ⟨8, 55, none⟩)])) w := by kernel_rfl
def cmpFn : Array Value → Sem Value := Extern.ReflectliteType.method fun t => do Extern.Rtype.noPackHeld "Comparable" t; pure (.bool (← typeInfo t).comparable)
theorem er_comparable (w : World) : (cmpFn #[.agg #[.pointer (some ⟨8, 55, none⟩)]]).run Tryz.prog w = .ok (.bool true) w := by kernel_rfl
theorem er_methodComparable (v : Value) (w : World) : (Go.method 334 161 v "Comparable").run Tryz.prog w = .ok (172, v) w := by kernel_rfl
theorem er_comp : (Tryz.prog.info? 55).map (·.comparable) = some true := by kernel_rfl
theorem er_noIs (v : Value) (xT : TypeId) (w : World) : (Instr.typeAssert (.iface 55 v) xT 190 true).run Tryz.prog w = .ok (.tuple #[.nilIface, .bool false]) w := run_typeAssert_lacksB Tryz.underlying190 (by kernel_rfl) (by kernel_rfl) v xT w
theorem er_noUnwrap (v : Value) (xT : TypeId) (w : World) : (Instr.typeAssert (.iface 55 v) xT 168 true).run Tryz.prog w = .ok (.tuple #[.nilIface, .bool false]) w := run_typeAssert_lacksB Tryz.underlying168 (by kernel_rfl) (by kernel_rfl) v xT w
theorem er_noUnwraps (v : Value) (xT : TypeId) (w : World) : (Instr.typeAssert (.iface 55 v) xT 170 true).run Tryz.prog w = .ok (.tuple #[.nilIface, .bool false]) w := run_typeAssert_lacksB Tryz.underlying170 (by kernel_rfl) (by kernel_rfl) v xT w
theorem er_noAs (v : Value) (xT : TypeId) (w : World) : (Instr.typeAssert (.iface 55 v) xT 165 true).run Tryz.prog w = .ok (.tuple #[.nilIface, .bool false]) w := run_typeAssert_lacksB Tryz.underlying165 (by kernel_rfl) (by kernel_rfl) v xT w

set_option maxHeartbeats 1000000 in
/-- errors.Is of two numbers of package api. -/
theorem is_errno (a b : Int) (w : World) :
    Calls Tryz.prog 76 #[.iface 55 (.int .i64 a), .iface 55 (.int .i64 b)] w fun e w' => e = .returned (.bool (a == b)) ∧ w = w' := by
  obtain ⟨i, hi, hcmp⟩ := Option.map_eq_some_iff.1 er_comp
  have h8 := @run_callFunc_extern Tryz.prog 106 _ Extern.ReflectliteType.typeOf Tryz.func106 (by kernel_rfl) (by kernel_rfl) (by kernel_rfl) (by kernel_rfl)
  have h32 := @run_callFunc_extern Tryz.prog 172 _ cmpFn Tryz.func172 (by kernel_rfl) (by kernel_rfl) (by kernel_rfl) (by kernel_rfl)
  have tT := er_typeOf
  have cT := er_comparable
  have mR := er_methodComparable
  have nE := er_noIs
  have uE := er_noUnwrap
  have vE := er_noUnwraps
  have heq := eql_iface_int (P := Tryz.prog) w a b Tryz.underlying33 Tryz.underlying55 hi hcmp
  by_cases hab : (a == b) = true
  · rw [hab] at heq ⊢
    go_enter Tryz.func76, Tryz.ntmps76
    go_wp2
    refine wp_loop_rounds 1 ?_
    rw [rounds_succ]
    go_wp2
    go_ret
    exact ⟨rfl, rfl⟩
  · simp only [Bool.not_eq_true] at hab
    rw [hab] at heq ⊢
    go_enter Tryz.func76, Tryz.ntmps76
    go_wp2
    refine wp_loop_rounds 1 ?_
    rw [rounds_succ]
    go_wp2
    go_ret
    exact ⟨rfl, rfl⟩


/-- errors.As(nil, target). -/
theorem as_nil (t : Value) (w : World) :
    Calls Tryz.prog 38 #[.nilIface, t] w fun e w' => e = .returned (.bool false) ∧ w = w' := by
  go_enter Tryz.func38, Tryz.ntmps38
  go_wp2
  go_ret
  exact ⟨rfl, rfl⟩

theorem er_valueOfPF (t : Addr) (w : World) : (ReflectliteValue.unpack (.iface 73 (.pointer (some t)))).run Tryz.prog w
    = .ok (.agg #[.pointer (some ⟨8, 73, none⟩), .pointer (some ⟨w.heap.size, 0, none⟩), .int .u64 150]) (w.alloc (.cells #[.pointer (some t)] 73)) := by kernel_rfl
theorem er_typePF (a : Addr) (w : World) : (ReflectliteValue.methodAny (ReflectliteValue.valueError "reflectlite.Value.Type" 0) (fun t _ _ _ => ReflectliteType.toType t) #[.agg #[.pointer (some ⟨8, 73, none⟩), .pointer (some a), .int .u64 150]]).run Tryz.prog w
    = .ok (.iface 161 (.agg #[.pointer (some ⟨8, 73, none⟩)])) w := by kernel_rfl
theorem er_methodKind (h : Value) (w : World) : (Go.method 334 161 (.agg #[h]) "Kind").run Tryz.prog w = .ok (160, h) w := by kernel_rfl
theorem er_kindPF (w : World) : ((ReflectliteType.abiMethod fun t => (fun a : Nat => Value.int IntKind.u8 (a : Int)) <$> Rtype.kind t) #[.pointer (some ⟨8, 73, none⟩)]).run Tryz.prog w = .ok (.int .u8 22) w := by kernel_rfl
theorem er_kindF (w : World) : ((ReflectliteType.abiMethod fun t => (fun a : Nat => Value.int IntKind.u8 (a : Int)) <$> Rtype.kind t) #[.pointer (some ⟨8, 62, none⟩)]).run Tryz.prog w = .ok (.int .u8 25) w := by kernel_rfl
theorem er_rlm (z : Sem Value) (f : TypeId → Addr → Nat → Nat → Sem Value) (v : Value) :
    ReflectliteValue.method z f #[v] = (do match ← ReflectliteValue.parts v with | none => z | some (t, a, fl) => f t a fl (fl % 32)) := rfl
theorem er_partsPF (a : Addr) (w : World) : (ReflectliteValue.parts (.agg #[.pointer (some ⟨8, 73, none⟩), .pointer (some a), .int .u64 150])).run Tryz.prog w = .ok (some (73, a, 150)) w := by kernel_rfl
theorem er_isNilPF (a p : Addr) (W : World) (ha : W.cell? a = some (.pointer (some p))) :
    (ReflectliteValue.method (ReflectliteValue.valueError "reflectlite.Value.IsNil" 0) ReflectliteValue.isNil #[.agg #[.pointer (some ⟨8, 73, none⟩), .pointer (some a), .int .u64 150]]).run Tryz.prog W = .ok (.bool false) W := by
  rw [er_rlm]
  simp only [Sem.run_bind, er_partsPF, Result.andThen]
  simp [ReflectliteValue.isNil, loadVar, isAgg, underlying, Tryz.underlying73, ha, Result.andThen]
theorem er_methodElem (h : Value) (w : World) : (Go.method 334 161 (.agg #[h]) "Elem").run Tryz.prog w = .ok (173, .agg #[h]) w := by kernel_rfl
theorem er_methodImplements (h : Value) (w : World) : (Go.method 334 161 (.agg #[h]) "Implements").run Tryz.prog w = .ok (174, .agg #[h]) w := by kernel_rfl
theorem er_methodAssignableTo (h : Value) (w : World) : (Go.method 334 161 (.agg #[h]) "AssignableTo").run Tryz.prog w = .ok (171, .agg #[h]) w := by kernel_rfl
theorem er_elemPF (w : World) : (ReflectliteType.method ReflectliteType.elem #[.agg #[.pointer (some ⟨8, 73, none⟩)]]).run Tryz.prog w = .ok (.iface 161 (.agg #[.pointer (some ⟨8, 62, none⟩)])) w := by kernel_rfl
theorem er_implementsF (w : World) : (ReflectliteType.relation "Implements" ReflectliteType.implements_ #[.agg #[.pointer (some ⟨8, 62, none⟩)], .iface 161 (.agg #[.pointer (some ⟨8, 33, none⟩)])]).run Tryz.prog w = .ok (.bool true) w := by kernel_rfl
theorem er_assignE (w : World) : (ReflectliteType.relation "AssignableTo" ReflectliteType.assignableTo #[.agg #[.pointer (some ⟨8, 55, none⟩)], .iface 161 (.agg #[.pointer (some ⟨8, 62, none⟩)])]).run Tryz.prog w = .ok (.bool false) w := by kernel_rfl

/-- What errors.errorType holds. -/
def erHandle (w : World) : Prop := w.cell? ⟨1, 0, none⟩ = some (.iface 161 (.agg #[.pointer (some ⟨8, 33, none⟩)]))

theorem erHandle.lt {w : World} (h : erHandle w) : 1 < w.heap.size := by
  unfold erHandle at h
  rcases Nat.lt_or_ge 1 w.heap.size with h0 | h0
  · exact h0
  · simp [World.cell?, Array.getElem?_eq_none h0] at h

theorem erHandle.below {w w' : World} (h : erHandle w) {B : Nat} (hB : 1 < B) (hb : Below B w w') : erHandle w' :=
  (hb.cell (p := ⟨1, 0, none⟩) hB).trans h

set_option maxHeartbeats 4000000 in
/-- errors.As(a number of package api, &f), f a Fault: false; f stays. -/
theorem as_errno (k : Int) (t : Addr) (w : World) (hg : erHandle w) :
    Calls Tryz.prog 38 #[.iface 55 (.int .i64 k), .iface 73 (.pointer (some t))] w fun e w' => e = .returned (.bool false) ∧ Below w.heap.size w w' := by
  have h6 := @run_callFunc_extern Tryz.prog 77 _ (fun args => ReflectliteValue.unpack (args.getD 0 (.tuple #[]))) Tryz.func77 (by kernel_rfl) (by kernel_rfl) (by kernel_rfl) (by kernel_rfl)
  have h7 := @run_callFunc_extern Tryz.prog 78 _ (ReflectliteValue.methodAny (ReflectliteValue.valueError "reflectlite.Value.Type" 0) (fun t _ _ _ => ReflectliteType.toType t)) Tryz.func78 (by kernel_rfl) (by kernel_rfl) (by kernel_rfl) (by kernel_rfl)
  have h8 := @run_callFunc_extern Tryz.prog 79 _ (ReflectliteValue.method (ReflectliteValue.valueError "reflectlite.Value.IsNil" 0) ReflectliteValue.isNil) Tryz.func79 (by kernel_rfl) (by kernel_rfl) (by kernel_rfl) (by kernel_rfl)
  have h27 := @run_callFunc_extern Tryz.prog 160 _ (ReflectliteType.abiMethod fun t => do pure (.int .u8 (← Rtype.kind t))) Tryz.func160 (by kernel_rfl) (by kernel_rfl) (by kernel_rfl) (by kernel_rfl)
  have h37 := @run_callFunc_extern Tryz.prog 173 _ (ReflectliteType.method ReflectliteType.elem) Tryz.func173 (by kernel_rfl) (by kernel_rfl) (by kernel_rfl) (by kernel_rfl)
  have h38 := @run_callFunc_extern Tryz.prog 174 _ (ReflectliteType.relation "Implements" ReflectliteType.implements_) Tryz.func174 (by kernel_rfl) (by kernel_rfl) (by kernel_rfl) (by kernel_rfl)
  have h10 := @run_callFunc_extern Tryz.prog 106 _ ReflectliteType.typeOf Tryz.func106 (by kernel_rfl) (by kernel_rfl) (by kernel_rfl) (by kernel_rfl)
  have h35 := @run_callFunc_extern Tryz.prog 171 _ (ReflectliteType.relation "AssignableTo" ReflectliteType.assignableTo) Tryz.func171 (by kernel_rfl) (by kernel_rfl) (by kernel_rfl) (by kernel_rfl)
  have tO := er_typeOf
  have mA := er_methodAssignableTo
  have a25 := er_assignE
  have f6 := er_valueOfPF
  have f7 := er_typePF
  have mK := er_methodKind
  have mE := er_methodElem
  have mI := er_methodImplements
  have k27 := er_kindPF
  have k25 := er_kindF
  have e27 := er_elemPF
  have i25 := er_implementsF
  have nA := er_noAs
  have uE := er_noUnwrap
  have vE := er_noUnwraps
  have hlt := hg.lt
  unfold erHandle at hg
  have n8 := er_isNilPF ⟨w.heap.size, 0, none⟩ t ((w.alloc (.cells #[.pointer (some t)] 73)).alloc (.cells #[.pointer (some ⟨8, 73, none⟩), .pointer (some ⟨w.heap.size, 0, none⟩), .int .u64 150] 126)) (by simp)
  have hg2 : ((w.alloc (.cells #[.pointer (some t)] 73)).alloc (.cells #[.pointer (some ⟨8, 73, none⟩), .pointer (some ⟨w.heap.size, 0, none⟩), .int .u64 150] 126)).cell? ⟨1, 0, none⟩ = some (.iface 161 (.agg #[.pointer (some ⟨8, 33, none⟩)])) := by
    rw [World.cell?_alloc_lt _ _ ⟨1, 0, none⟩ (by first | (simp; done) | (simp; omega)), World.cell?_alloc_lt _ _ ⟨1, 0, none⟩ hlt]; exact hg
  go_enter Tryz.func38, Tryz.ntmps38
  go_wp2
  refine wp_loop_rounds 1 ?_
  rw [rounds_succ]
  go_wp2
  go_ret
  exact ⟨rfl, by repeat (first | exact Below.refl _ _ | apply Below.drew | refine Below.alloc ?_ (by first | (simp; done) | (simp; omega)) _)⟩

end Go.Proofs.YtocoonkachbjaaaGreatDoor
