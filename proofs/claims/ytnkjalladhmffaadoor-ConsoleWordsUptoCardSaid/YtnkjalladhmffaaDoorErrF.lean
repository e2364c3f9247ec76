/- lineagekit.Num and Plain of an error of the console: a fault, which wraps a number of package api. -/
import Derived.Test.YtnkjalladhmffaaDoorErrs2
namespace Go.Proofs.YtnkjalladhmffaaDoor
open Go.RowKit Go.Extern.Stop Go.Stop Go.Extern
set_option linter.unusedVariables false
namespace Cf

/-- A fault of the console. -/
def fv (a : ByteArray) (n : Int) : Value := .agg #[.string a, .int .i64 n]

theorem f_noIs (v : Value) (xT : TypeId) (w : World) : (Instr.typeAssert (.iface 41 v) xT 81 true).run Tryd.prog w = .ok (.tuple #[.nilIface, .bool false]) w := run_typeAssert_lacksB Tryd.underlying81 (by kernel_rfl) (by kernel_rfl) v xT w
theorem f_unwrap (v : Value) (xT : TypeId) (w : World) : (Instr.typeAssert (.iface 41 v) xT 76 true).run Tryd.prog w = .ok (.tuple #[.iface 41 v, .bool true]) w := run_typeAssert_hasB Tryd.underlying76 (by kernel_rfl) v xT w
theorem f_noAs (v : Value) (xT : TypeId) (w : World) : (Instr.typeAssert (.iface 41 v) xT 73 true).run Tryd.prog w = .ok (.tuple #[.nilIface, .bool false]) w := run_typeAssert_lacksB Tryd.underlying73 (by kernel_rfl) (by kernel_rfl) v xT w
theorem f_method (v : Value) (w : World) : (Go.method 214 41 v "Unwrap").run Tryd.prog w = .ok (47, v) w := by kernel_rfl
theorem f_typeOf (v : Value) (w : World) : (Extern.ReflectliteType.typeOf #[.iface 41 v]).run Tryd.prog w = .ok (.iface 69 (.agg #[.pointer (some ⟨1, 41, none⟩)])) w := by kernel_rfl
theorem f_assign (w : World) : (ReflectliteType.relation "AssignableTo" ReflectliteType.assignableTo #[.agg #[.pointer (some ⟨1, 41, none⟩)], .iface 69 (.agg #[.pointer (some ⟨1, 43, none⟩)])]).run Tryd.prog w = .ok (.bool false) w := by kernel_rfl
theorem f_eql (u v : Value) (w : World) : (binOp .eql 26 (.iface 41 u) (.iface 39 v)).run Tryd.prog w = .ok (.bool false) w := run_eql_iface_types _ _ _ _ Tryd.underlying26 (by decide) w

theorem unwrap_any (a : ByteArray) (n : Int) (w : World) : Calls Tryd.prog 47 #[fv a n] w fun e w' => e = .returned (.iface 39 (.int .i64 n)) ∧ Below w.heap.size w w' := by
  unfold fv
  go_enter Tryd.func47, Tryd.ntmps47
  go_wp2
  go_ret
  exact ⟨rfl, (Below.refl _ _).alloc (Nat.le_refl _) _⟩

set_option maxHeartbeats 4000000 in
theorem is_fault (a : ByteArray) (n b : Int) (w : World) :
    Calls Tryd.prog 18 #[.iface 41 (fv a n), .iface 39 (.int .i64 b)] w fun e w' => e = .returned (.bool (n == b)) ∧ Below w.heap.size w w' := by
  obtain ⟨i, hi, hcmp⟩ := Option.map_eq_some_iff.1 er_comp
  have h8 := @run_callFunc_extern Tryd.prog 24 _ Extern.ReflectliteType.typeOf Tryd.func24 (by kernel_rfl) (by kernel_rfl) (by kernel_rfl) (by kernel_rfl)
  have h32 := @run_callFunc_extern Tryd.prog 55 _ cmpFn Tryd.func55 (by kernel_rfl) (by kernel_rfl) (by kernel_rfl) (by kernel_rfl)
  have tT := er_typeOf
  have cT := er_comparable
  have mR := er_methodComparable
  have nF := f_noIs
  have uF := f_unwrap
  have mF := f_method
  have qF := f_eql
  have nE := er_noIs
  have uE := er_noUnwrap
  have vE := er_noUnwraps
  have heq := fun w => eql_iface_int (P := Tryd.prog) w n b Tryd.underlying26 Tryd.underlying39 hi hcmp
  obtain ⟨v, hv⟩ : ∃ v, v = fv a n := ⟨_, rfl⟩
  have hU := Lib.hid (fun w' => unwrap_any a n w')
  rw [← hv] at hU ⊢
  clear hv
  by_cases hab : (n == b) = true
  · rw [hab] at heq ⊢
    go_enter Tryd.func18, Tryd.ntmps18
    go_wp2
    refine wp_loop_rounds 2 ?_
    rw [rounds_succ]
    go_wp2_with (go_at_call 47; refine (hU.out _).mono ?_; rintro e w1 ⟨rfl, hb1⟩)
    rw [rounds_succ]
    go_wp2
    go_ret
    exact ⟨rfl, hb1⟩
  · simp only [Bool.not_eq_true] at hab
    rw [hab] at heq ⊢
    go_enter Tryd.func18, Tryd.ntmps18
    go_wp2
    refine wp_loop_rounds 2 ?_
    rw [rounds_succ]
    go_wp2_with (go_at_call 47; refine (hU.out _).mono ?_; rintro e w1 ⟨rfl, hb1⟩)
    rw [rounds_succ]
    go_wp2
    go_ret
    exact ⟨rfl, hb1⟩

set_option maxHeartbeats 1000000 in
theorem num_fault (a : ByteArray) (k : Int) (h1 : 1 ≤ k) (h2 : k ≤ 24) (w : World) :
    Calls Tryd.prog 13 #[.iface 41 (fv a k)] w fun e w' => e = .returned (.int .i64 k) ∧ Below w.heap.size w w' := by
  have hk0 : (k == 0) = false := by rw [beq_eq_false_iff_ne]; omega
  obtain ⟨v, hv⟩ : ∃ v, v = fv a k := ⟨_, rfl⟩
  have hI := Lib.hid (fun m w' => is_fault a k m w')
  rw [← hv] at hI ⊢
  clear hv
  go_enter Tryd.func13, Tryd.ntmps13
  go_wp2
  go_loopw [3, 4] (fun f n wr => (∃ m : Int, 1 ≤ m ∧ m ≤ 25 ∧ n = .int .i64 m ∧ ((m ≤ k ∧ f = .int .i64 0) ∨ (k < m ∧ f = .int .i64 k))) ∧ Below w.heap.size w wr) (fun _ n _ => (25 - intOf n).toNat)
  case atStart => exact ⟨⟨1, by omega, by omega, rfl, .inl ⟨h1, rfl⟩⟩, Below.refl _ _⟩
  case round =>
    obtain ⟨⟨m, hm1, hm2, rfl, hf⟩, hbl⟩ := hrel
    have HB := Lib.hid hbl
    clear hbl
    by_cases hm : m ≤ 24
    · rcases hf with ⟨hle, rfl⟩ | ⟨hlt, rfl⟩
      · by_cases he : k = m
        · subst he
          have hq : (k == k) = true := by simp
          go_wp2_with fail
          refine (hI.out k _).mono ?_
          rintro e w' ⟨rfl, hb⟩
          go_wp2
          go_roundw
          case rel => exact ⟨⟨k + 1, by omega, by omega, rfl, .inr ⟨by omega, rfl⟩⟩, HB.out.trans (hb.mono HB.out.size)⟩
          case measure => simp [intOf]; omega
        · have hq : (k == m) = false := by rw [beq_eq_false_iff_ne]; exact he
          go_wp2_with fail
          refine (hI.out m _).mono ?_
          rintro e w' ⟨rfl, hb⟩
          go_wp2
          go_roundw
          case rel => exact ⟨⟨m + 1, by omega, by omega, rfl, .inl ⟨by omega, rfl⟩⟩, HB.out.trans (hb.mono HB.out.size)⟩
          case measure => simp [intOf]; omega
      · have hq : (k == m) = false := by rw [beq_eq_false_iff_ne]; omega
        go_wp2_with fail
        refine (hI.out m _).mono ?_
        rintro e w' ⟨rfl, hb⟩
        go_wp2
        go_roundw
        case rel => exact ⟨⟨m + 1, by omega, by omega, rfl, .inr ⟨by omega, rfl⟩⟩, HB.out.trans (hb.mono HB.out.size)⟩
        case measure => simp [intOf]; omega
    · rcases hf with ⟨hle, rfl⟩ | ⟨hlt, rfl⟩
      · omega
      · go_wp2_with fail
        refine (hI.out 0 _).mono ?_
        rintro e w' ⟨rfl, hb⟩
        go_wp2
        go_ret
        exact ⟨rfl, HB.out.trans (hb.mono HB.out.size)⟩

set_option maxHeartbeats 8000000 in
/-- errors.As(a fault of the console, &f), f a Fault: false; f stays. -/
theorem as_fault (a : ByteArray) (k : Int) (t : Addr) (w : World) (hg : erHandle w) :
    Calls Tryd.prog 14 #[.iface 41 (fv a k), .iface 46 (.pointer (some t))] w fun e w' => e = .returned (.bool false) ∧ Below w.heap.size w w' := by
  have h6 := @run_callFunc_extern Tryd.prog 19 _ (fun args => ReflectliteValue.unpack (args.getD 0 (.tuple #[]))) Tryd.func19 (by kernel_rfl) (by kernel_rfl) (by kernel_rfl) (by kernel_rfl)
  have h7 := @run_callFunc_extern Tryd.prog 20 _ (ReflectliteValue.methodAny (ReflectliteValue.valueError "reflectlite.Value.Type" 0) (fun t _ _ _ => ReflectliteType.toType t)) Tryd.func20 (by kernel_rfl) (by kernel_rfl) (by kernel_rfl) (by kernel_rfl)
  have h8 := @run_callFunc_extern Tryd.prog 21 _ (ReflectliteValue.method (ReflectliteValue.valueError "reflectlite.Value.IsNil" 0) ReflectliteValue.isNil) Tryd.func21 (by kernel_rfl) (by kernel_rfl) (by kernel_rfl) (by kernel_rfl)
  have h27 := @run_callFunc_extern Tryd.prog 42 _ (ReflectliteType.abiMethod fun t => do pure (.int .u8 (← Rtype.kind t))) Tryd.func42 (by kernel_rfl) (by kernel_rfl) (by kernel_rfl) (by kernel_rfl)
  have h37 := @run_callFunc_extern Tryd.prog 56 _ (ReflectliteType.method ReflectliteType.elem) Tryd.func56 (by kernel_rfl) (by kernel_rfl) (by kernel_rfl) (by kernel_rfl)
  have h38 := @run_callFunc_extern Tryd.prog 57 _ (ReflectliteType.relation "Implements" ReflectliteType.implements_) Tryd.func57 (by kernel_rfl) (by kernel_rfl) (by kernel_rfl) (by kernel_rfl)
  have h10 := @run_callFunc_extern Tryd.prog 24 _ ReflectliteType.typeOf Tryd.func24 (by kernel_rfl) (by kernel_rfl) (by kernel_rfl) (by kernel_rfl)
  have h35 := @run_callFunc_extern Tryd.prog 54 _ (ReflectliteType.relation "AssignableTo" ReflectliteType.assignableTo) Tryd.func54 (by kernel_rfl) (by kernel_rfl) (by kernel_rfl) (by kernel_rfl)
  have tO := er_typeOf
  have tF := f_typeOf
  have mA := er_methodAssignableTo
  have a25 := er_assignE
  have aF := f_assign
  have f6 := er_valueOfPF
  have f7 := er_typePF
  have mK := er_methodKind
  have mE := er_methodElem
  have mI := er_methodImplements
  have mF := f_method
  have k27 := er_kindPF
  have k25 := er_kindF
  have e27 := er_elemPF
  have i25 := er_implementsF
  have nA := er_noAs
  have nF := f_noAs
  have uF := f_unwrap
  have uE := er_noUnwrap
  have vE := er_noUnwraps
  have hlt := hg.lt
  unfold erHandle at hg
  have n8 := er_isNilPF ⟨w.heap.size, 0, none⟩ t ((w.alloc (.cells #[.pointer (some t)] 46)).alloc (.cells #[.pointer (some ⟨1, 46, none⟩), .pointer (some ⟨w.heap.size, 0, none⟩), .int .u64 150] 56)) (by simp)
  have hg2 : ((w.alloc (.cells #[.pointer (some t)] 46)).alloc (.cells #[.pointer (some ⟨1, 46, none⟩), .pointer (some ⟨w.heap.size, 0, none⟩), .int .u64 150] 56)).cell? ⟨0, 0, none⟩ = some (.iface 69 (.agg #[.pointer (some ⟨1, 26, none⟩)])) := by
    rw [World.cell?_alloc_lt _ _ ⟨0, 0, none⟩ (by first | (simp; done) | (simp; omega)), World.cell?_alloc_lt _ _ ⟨0, 0, none⟩ hlt]; exact hg
  obtain ⟨v, hv⟩ : ∃ v, v = fv a k := ⟨_, rfl⟩
  have hU := Lib.hid (fun w' => unwrap_any a k w')
  rw [← hv] at hU ⊢
  clear hv
  go_enter Tryd.func14, Tryd.ntmps14
  go_wp2
  refine wp_loop_rounds 2 ?_
  rw [rounds_succ]
  go_wp2_with fail
  refine (hU.out _).mono ?_
  rintro e w1 ⟨rfl, hb1⟩
  go_wp2_with fail
  rw [rounds_succ]
  go_wp2
  go_ret
  exact ⟨rfl, Below.trans (by repeat (first | exact Below.refl _ _ | apply Below.drew | refine Below.alloc ?_ (by first | (simp; done) | (simp; omega)) _)) (hb1.mono (by simp; omega))⟩

set_option maxHeartbeats 1000000 in
theorem plain_fault (a : ByteArray) (k n : Int) (h1 : 1 ≤ k) (h2 : k ≤ 24) (w : World) (hg : erHandle w) :
    Calls Tryd.prog 6 #[.iface 41 (fv a k), .int .i64 n] w fun e w' => e = .returned (.bool (k == n)) ∧ Below w.heap.size w w' := by
  have hh : Hid (∀ w', Below w.heap.size w w' → erHandle w') := fun w' hb => hg.below hg.lt hb
  obtain ⟨v, hv⟩ : ∃ v, v = fv a k := ⟨_, rfl⟩
  have hN := Lib.hid (fun w' => num_fault a k h1 h2 w')
  have hA := Lib.hid (fun t w' hg => as_fault a k t w' hg)
  rw [← hv] at hN hA ⊢
  clear hv hg
  by_cases he : k = n
  · subst he
    have hq : (k == k) = true := by simp
    rw [hq]
    go_enter Tryd.func6, Tryd.ntmps6
    go_wp2_with fail
    refine (hN.out _).mono ?_
    rintro e w1 ⟨rfl, hb1⟩
    have HB1 : Hid (Below w.heap.size w w1) := ((Below.refl _ _).alloc (Nat.le_refl _) _).trans (hb1.mono (by simp))
    clear hb1
    go_wp2_with fail
    refine (hA.out _ _ (hh.out _ HB1.out)).mono ?_
    rintro e w2 ⟨rfl, hb2⟩
    go_wp2
    go_ret
    exact ⟨rfl, HB1.out.trans (hb2.mono HB1.out.size)⟩
  · have hq : (k == n) = false := by rw [beq_eq_false_iff_ne]; exact he
    rw [hq]
    go_enter Tryd.func6, Tryd.ntmps6
    go_wp2_with fail
    refine (hN.out _).mono ?_
    rintro e w1 ⟨rfl, hb1⟩
    go_wp2
    go_ret
    exact ⟨rfl, ((Below.refl _ _).alloc (Nat.le_refl _) _).trans (hb1.mono (by simp))⟩

end Cf
end Go.Proofs.YtnkjalladhmffaaDoor
