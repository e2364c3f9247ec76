/- lineagekit.Num, Place and At of a Fault of package api. -/
import Derived.Test.YtocoonkachbjaaaGreatDoorErrs2
namespace Go.Proofs.YtocoonkachbjaaaGreatDoor
open Go.RowKit Go.Extern.Stop Go.Stop Go.Extern
set_option linter.unusedVariables false
namespace Fl

/-- A Fault of package api: its number n, its place a. -/
def fv (a : Int) (n : Int) : Value := .agg #[.int .i64 n, .int .i64 a]

theorem f_noIs (v : Value) (xT : TypeId) (w : World) : (Instr.typeAssert (.iface 62 v) xT 190 true).run Tryz.prog w = .ok (.tuple #[.nilIface, .bool false]) w := run_typeAssert_lacksB Tryz.underlying190 (by kernel_rfl) (by kernel_rfl) v xT w
theorem f_unwrap (v : Value) (xT : TypeId) (w : World) : (Instr.typeAssert (.iface 62 v) xT 168 true).run Tryz.prog w = .ok (.tuple #[.iface 62 v, .bool true]) w := run_typeAssert_hasB Tryz.underlying168 (by kernel_rfl) v xT w
theorem f_noAs (v : Value) (xT : TypeId) (w : World) : (Instr.typeAssert (.iface 62 v) xT 165 true).run Tryz.prog w = .ok (.tuple #[.nilIface, .bool false]) w := run_typeAssert_lacksB Tryz.underlying165 (by kernel_rfl) (by kernel_rfl) v xT w
theorem f_method (v : Value) (w : World) : (Go.method 334 62 v "Unwrap").run Tryz.prog w = .ok (165, v) w := by kernel_rfl
theorem f_typeOf (v : Value) (w : World) : (Extern.ReflectliteType.typeOf #[.iface 62 v]).run Tryz.prog w = .ok (.iface 161 (.agg #[.pointer (some ⟨8, 62, none⟩)])) w := by kernel_rfl
theorem f_eql (u v : Value) (w : World) : (binOp .eql 33 (.iface 62 u) (.iface 55 v)).run Tryz.prog w = .ok (.bool false) w := run_eql_iface_types _ _ _ _ Tryz.underlying33 (by decide) w

theorem unwrap_any (a : Int) (n : Int) (w : World) : Calls Tryz.prog 165 #[fv a n] w fun e w' => e = .returned (.iface 55 (.int .i64 n)) ∧ Below w.heap.size w w' := by
  unfold fv
  go_enter Tryz.func165, Tryz.ntmps165
  go_wp2
  go_ret
  exact ⟨rfl, (Below.refl _ _).alloc (Nat.le_refl _) _⟩

set_option maxHeartbeats 4000000 in
theorem is_fault (a : Int) (n b : Int) (w : World) :
    Calls Tryz.prog 76 #[.iface 62 (fv a n), .iface 55 (.int .i64 b)] w fun e w' => e = .returned (.bool (n == b)) ∧ Below w.heap.size w w' := by
  obtain ⟨i, hi, hcmp⟩ := Option.map_eq_some_iff.1 er_comp
  have h8 := @run_callFunc_extern Tryz.prog 106 _ Extern.ReflectliteType.typeOf Tryz.func106 (by kernel_rfl) (by kernel_rfl) (by kernel_rfl) (by kernel_rfl)
  have h32 := @run_callFunc_extern Tryz.prog 172 _ cmpFn Tryz.func172 (by kernel_rfl) (by kernel_rfl) (by kernel_rfl) (by kernel_rfl)
  have tT := er_typeOf
  have cT := er_comparable
  have mR := er_methodComparable
  have nF := f_noIs
  have uF := f_unwrap
  have mF := f_method
  have qF := f_eql
  have nE := er_noIs
  have uE := er_noUnwrap
  have vE := er_noUnwraps
  have heq := fun w => eql_iface_int (P := Tryz.prog) w n b Tryz.underlying33 Tryz.underlying55 hi hcmp
  obtain ⟨v, hv⟩ : ∃ v, v = fv a n := ⟨_, rfl⟩
  have hU := Lib.hid (fun w' => unwrap_any a n w')
  rw [← hv] at hU ⊢
  clear hv
  by_cases hab : (n == b) = true
  · rw [hab] at heq ⊢
    go_enter Tryz.func76, Tryz.ntmps76
    go_wp2
    refine wp_loop_rounds 2 ?_
    rw [rounds_succ]
    go_wp2_with (go_at_call 165; refine (hU.out _).mono ?_; rintro e w1 ⟨rfl, hb1⟩)
    rw [rounds_succ]
    go_wp2
    go_ret
    exact ⟨rfl, hb1⟩
  · simp only [Bool.not_eq_true] at hab
    rw [hab] at heq ⊢
    go_enter Tryz.func76, Tryz.ntmps76
    go_wp2
    refine wp_loop_rounds 2 ?_
    rw [rounds_succ]
    go_wp2_with (go_at_call 165; refine (hU.out _).mono ?_; rintro e w1 ⟨rfl, hb1⟩)
    rw [rounds_succ]
    go_wp2
    go_ret
    exact ⟨rfl, hb1⟩

set_option maxHeartbeats 1000000 in
theorem num_fault (a : Int) (k : Int) (h1 : 1 ≤ k) (h2 : k ≤ 24) (w : World) :
    Calls Tryz.prog 37 #[.iface 62 (fv a k)] w fun e w' => e = .returned (.int .i64 k) ∧ Below w.heap.size w w' := by
  have hk0 : (k == 0) = false := by rw [beq_eq_false_iff_ne]; omega
  obtain ⟨v, hv⟩ : ∃ v, v = fv a k := ⟨_, rfl⟩
  have hI := Lib.hid (fun m w' => is_fault a k m w')
  rw [← hv] at hI ⊢
  clear hv
  go_enter Tryz.func37, Tryz.ntmps37
  go_wp2
  go_loopw [3, 4] (fun f n wr => (∃ m : Int, 1 ≤ m ∧ m ≤ 25 ∧ n = .int .i64 m ∧ ((m ≤ k ∧ f = .int .i64 0) ∨ (k < m ∧ f = .int .i64 k))) ∧ Below w.heap.size w wr) (fun _ n _ => (25 - intOf n).toNat)
  case atStart => exact ⟨⟨1, by omega, by omega, rfl, .inl ⟨h1, rfl⟩⟩, Below.refl _ _⟩
  case round =>
    obtain ⟨⟨m, hm1, hm2, rfl, hf⟩, hbl⟩ := hrel
    have HB := Lib.hid hbl
    clear hbl
    by_cases hm : m ≤ 24
    · rcases hf with ⟨hle, rfl⟩ | ⟨hlt, rfl⟩
      · by_cases he : k = m
        · subst he
          have hq : (k == k) = true := by simp
          go_wp2_with fail
          refine (hI.out k _).mono ?_
          rintro e w' ⟨rfl, hb⟩
          go_wp2
          go_roundw
          case rel => exact ⟨⟨k + 1, by omega, by omega, rfl, .inr ⟨by omega, rfl⟩⟩, HB.out.trans (hb.mono HB.out.size)⟩
          case measure => simp [intOf]; omega
        · have hq : (k == m) = false := by rw [beq_eq_false_iff_ne]; exact he
          go_wp2_with fail
          refine (hI.out m _).mono ?_
          rintro e w' ⟨rfl, hb⟩
          go_wp2
          go_roundw
          case rel => exact ⟨⟨m + 1, by omega, by omega, rfl, .inl ⟨by omega, rfl⟩⟩, HB.out.trans (hb.mono HB.out.size)⟩
          case measure => simp [intOf]; omega
      · have hq : (k == m) = false := by rw [beq_eq_false_iff_ne]; omega
        go_wp2_with fail
        refine (hI.out m _).mono ?_
        rintro e w' ⟨rfl, hb⟩
        go_wp2
        go_roundw
        case rel => exact ⟨⟨m + 1, by omega, by omega, rfl, .inr ⟨by omega, rfl⟩⟩, HB.out.trans (hb.mono HB.out.size)⟩
        case measure => simp [intOf]; omega
    · rcases hf with ⟨hle, rfl⟩ | ⟨hlt, rfl⟩
      · omega
      · go_wp2_with fail
        refine (hI.out 0 _).mono ?_
        rintro e w' ⟨rfl, hb⟩
        go_wp2
        go_ret
        exact ⟨rfl, HB.out.trans (hb.mono HB.out.size)⟩

theorem fl_assign (w : World) : (ReflectliteType.relation "AssignableTo" ReflectliteType.assignableTo #[.agg #[.pointer (some ⟨8, 62, none⟩)], .iface 161 (.agg #[.pointer (some ⟨8, 62, none⟩)])]).run Tryz.prog w = .ok (.bool true) w := by kernel_rfl
theorem fl_valueOf (n a : Int) (w : World) : (ReflectliteValue.unpack (.iface 62 (.agg #[.int .i64 n, .int .i64 a]))).run Tryz.prog w
    = .ok (.agg #[.pointer (some ⟨8, 62, none⟩), .pointer (some ⟨w.heap.size, 0, none⟩), .int .u64 153]) (w.alloc (.cells #[.int .i64 n, .int .i64 a] 62)) := by kernel_rfl
theorem fl_elemOf (w : World) : (Rtype.elem? 73).run Tryz.prog w = .ok (some 62) w := by kernel_rfl
theorem fl_mk (p : Addr) (w : World) : (ReflectliteValue.mk 62 p ReflectliteValue.flagAddr).run Tryz.prog w = .ok (.agg #[.pointer (some ⟨8, 62, none⟩), .pointer (some p), .int .u64 409]) w := by kernel_rfl
theorem fl_elemV (a p : Addr) (W : World) (ha : W.cell? a = some (.pointer (some p))) :
    (ReflectliteValue.method (ReflectliteValue.valueError "reflectlite.Value.Elem" 0) ReflectliteValue.elem #[.agg #[.pointer (some ⟨8, 73, none⟩), .pointer (some a), .int .u64 150]]).run Tryz.prog W
      = .ok (.agg #[.pointer (some ⟨8, 62, none⟩), .pointer (some p), .int .u64 409]) W := by
  rw [er_rlm]
  simp only [Sem.run_bind, er_partsPF, Result.andThen]
  simp [ReflectliteValue.elem, loadVar, isAgg, underlying, Tryz.underlying73, ha, Result.andThen, fl_elemOf, fl_mk]
theorem fl_rls (v x : Value) : ReflectliteValue.set #[v, x] = (do
    let (some (dst, a, fl), some (src, b, _)) := (← ReflectliteValue.parts v, ← ReflectliteValue.parts x)
      | unsupported (.noEntry "extern/(internal/reflectlite.Value).Set.zeroValue")
    if fl / ReflectliteValue.flagAddr % 2 == 0 then unsupported (.noEntry "extern/(internal/reflectlite.Value).Set.unaddressable")
    let val ← loadVar src b
    if ← Rtype.directlyAssignable dst src then storeVar dst a val
    else if ← Rtype.implements dst src then
      if (← Rtype.kind src) == 20 then
        match val with
        | .nilIface => unsupported (.noEntry "extern/reflectlite: a nil value of one interface type handed on as a value of another")
        | _ => storeVar dst a val
      else storeVar dst a (.iface src val)
    else panicString ("reflectlite.Set: value of type " ++ (← Rtype.spelt src) ++ " is not assignable to type " ++ (← Rtype.spelt dst))
    pure (.tuple #[])) := rfl
theorem fl_partsA (a : Addr) (w : World) : (ReflectliteValue.parts (.agg #[.pointer (some ⟨8, 62, none⟩), .pointer (some a), .int .u64 409])).run Tryz.prog w = .ok (some (62, a, 409)) w := by kernel_rfl
theorem fl_parts (a : Addr) (w : World) : (ReflectliteValue.parts (.agg #[.pointer (some ⟨8, 62, none⟩), .pointer (some a), .int .u64 153])).run Tryz.prog w = .ok (some (62, a, 153)) w := by kernel_rfl
theorem fl_direct (w : World) : (Rtype.directlyAssignable 62 62).run Tryz.prog w = .ok true w := by kernel_rfl
theorem fl_size (w : World) : (sizeOf 62).run Tryz.prog w = .ok 2 w := by kernel_rfl
theorem fl_isAgg (w : World) : (isAgg 62).run Tryz.prog w = .ok true w := by kernel_rfl

end Fl
end Go.Proofs.YtocoonkachbjaaaGreatDoor
