/- What lineagekit.Num answers of an error that is a number of package api, and of no error: errors.Is by Go's own text, at the types of this program. -/
import Derived.Test.YtkmgpajodbadmaaProg
import Derived.WalkKit
import Derived.LaidEql
import Derived.Stop.Asserts
import Derived.RowKitTokens
import Derived.Lib.Hide
namespace Go.Proofs.Ytkmgpajodbadmaa
open Go.RowKit Go.Extern.Stop Go.Stop Go.Extern

section
variable {P : Program} (w : World)

theorem eqIn_iface_int (d : Nat) {ti tn : TypeId} {ms : Array (String × TypeId)} {i : TypeInfo} {k : IntKind} (a b : Int)
    (hi : P.underlying ti = some (.interface ms)) (hn : P.underlying tn = some (.int k)) (hinfo : P.info? tn = some i) (hcomp : i.comparable = true) :
    (Op.equalIn (d + 2) ti (.iface tn (.int k a)) (.iface tn (.int k b))).run P w = .ok (a == b) w := by
  simp [Op.equalIn, run_underlying hi, run_underlying hn, typeInfo, hinfo, hcomp]

theorem eql_iface_int {ti tn : TypeId} {ms : Array (String × TypeId)} {i : TypeInfo} {k : IntKind} (a b : Int)
    (hi : P.underlying ti = some (.interface ms)) (hn : P.underlying tn = some (.int k)) (hinfo : P.info? tn = some i) (hcomp : i.comparable = true) :
    (binOp .eql ti (.iface tn (.int k a)) (.iface tn (.int k b))).run P w = .ok (.bool (a == b)) w := by
  simp only [binOp]
  simp [Op.equal, Op.maxDepth, eqIn_iface_int w 9998 a b hi hn hinfo hcomp]
end

/-! closed facts at this program's types -/
theorem er_typeOf (v : Value) (w : World) : (Extern.ReflectliteType.typeOf #[.iface 78 v]).run Try.prog w = .ok (.iface 110 (.agg #[.pointer (some ⟨0, 78, none⟩)])) w := by kernel_rfl
def cmpFn : Array Value → Sem Value := Extern.ReflectliteType.method fun t => do Extern.Rtype.noPackHeld "Comparable" t; pure (.bool (← typeInfo t).comparable)
theorem er_comparable (w : World) : (cmpFn #[.agg #[.pointer (some ⟨0, 78, none⟩)]]).run Try.prog w = .ok (.bool true) w := by kernel_rfl
theorem er_methodComparable (v : Value) (w : World) : (Go.method 265 110 v "Comparable").run Try.prog w = .ok (86, v) w := by kernel_rfl
theorem er_comp : (Try.prog.info? 78).map (·.comparable) = some true := by kernel_rfl
theorem er_noIs (v : Value) (xT : TypeId) (w : World) : (Instr.typeAssert (.iface 78 v) xT 112 true).run Try.prog w = .ok (.tuple #[.nilIface, .bool false]) w := run_typeAssert_lacksB Try.underlying112 (by kernel_rfl) (by kernel_rfl) v xT w
theorem er_noUnwrap (v : Value) (xT : TypeId) (w : World) : (Instr.typeAssert (.iface 78 v) xT 115 true).run Try.prog w = .ok (.tuple #[.nilIface, .bool false]) w := run_typeAssert_lacksB Try.underlying115 (by kernel_rfl) (by kernel_rfl) v xT w
theorem er_noUnwraps (v : Value) (xT : TypeId) (w : World) : (Instr.typeAssert (.iface 78 v) xT 117 true).run Try.prog w = .ok (.tuple #[.nilIface, .bool false]) w := run_typeAssert_lacksB Try.underlying117 (by kernel_rfl) (by kernel_rfl) v xT w

set_option maxHeartbeats 1000000 in
/-- errors.Is of two numbers of package api. -/
theorem is_errno (a b : Int) (w : World) :
    Calls Try.prog 37 #[.iface 78 (.int .i64 a), .iface 78 (.int .i64 b)] w fun e w' => e = .returned (.bool (a == b)) ∧ w = w' := by
  obtain ⟨i, hi, hcmp⟩ := Option.map_eq_some_iff.1 er_comp
  have h8 := @run_callFunc_extern Try.prog 46 _ Extern.ReflectliteType.typeOf Try.func46 (by kernel_rfl) (by kernel_rfl) (by kernel_rfl) (by kernel_rfl)
  have h32 := @run_callFunc_extern Try.prog 86 _ cmpFn Try.func86 (by kernel_rfl) (by kernel_rfl) (by kernel_rfl) (by kernel_rfl)
  have tT := er_typeOf
  have cT := er_comparable
  have mR := er_methodComparable
  have nE := er_noIs
  have uE := er_noUnwrap
  have vE := er_noUnwraps
  have heq := eql_iface_int (P := Try.prog) w a b Try.underlying41 Try.underlying78 hi hcmp
  by_cases hab : (a == b) = true
  · rw [hab] at heq ⊢
    go_enter Try.func37, Try.ntmps37
    go_wp2
    refine wp_loop_rounds 1 ?_
    rw [rounds_succ]
    go_wp2
    go_ret
    exact ⟨rfl, rfl⟩
  · simp only [Bool.not_eq_true] at hab
    rw [hab] at heq ⊢
    go_enter Try.func37, Try.ntmps37
    go_wp2
    refine wp_loop_rounds 1 ?_
    rw [rounds_succ]
    go_wp2
    go_ret
    exact ⟨rfl, rfl⟩

set_option maxHeartbeats 1000000 in
theorem num_errno (k : Int) (h1 : 1 ≤ k) (h2 : k ≤ 24) (w : World) :
    Calls Try.prog 26 #[.iface 78 (.int .i64 k)] w fun e w' => e = .returned (.int .i64 k) ∧ w = w' := by
  have hk0 : (k == 0) = false := by rw [beq_eq_false_iff_ne]; omega
  go_enter Try.func26, Try.ntmps26
  go_wp2
  go_loop [3, 4] (fun f n => ∃ m : Int, 1 ≤ m ∧ m ≤ 25 ∧ n = .int .i64 m ∧ ((m ≤ k ∧ f = .int .i64 0) ∨ (k < m ∧ f = .int .i64 k))) (fun _ n => (25 - intOf n).toNat)
  case atStart => exact ⟨1, by omega, by omega, rfl, .inl ⟨h1, rfl⟩⟩
  case round =>
    obtain ⟨m, hm1, hm2, rfl, hf⟩ := hrel
    by_cases hm : m ≤ 24
    · rcases hf with ⟨hle, rfl⟩ | ⟨hlt, rfl⟩
      · by_cases he : k = m
        · subst he
          have hq : (k == k) = true := by simp
          go_wp2_with fail
          refine (is_errno k k _).mono ?_
          rintro e w' ⟨rfl, rfl⟩
          go_wp2
          go_round
          case rel => exact ⟨k + 1, by omega, by omega, rfl, .inr ⟨by omega, rfl⟩⟩
          case measure => simp [intOf]; omega
        · have hq : (k == m) = false := by rw [beq_eq_false_iff_ne]; exact he
          go_wp2_with fail
          refine (is_errno k m _).mono ?_
          rintro e w' ⟨rfl, rfl⟩
          go_wp2
          go_round
          case rel => exact ⟨m + 1, by omega, by omega, rfl, .inl ⟨by omega, rfl⟩⟩
          case measure => simp [intOf]; omega
      · have hq : (k == m) = false := by rw [beq_eq_false_iff_ne]; omega
        go_wp2_with fail
        refine (is_errno k m _).mono ?_
        rintro e w' ⟨rfl, rfl⟩
        go_wp2
        go_round
        case rel => exact ⟨m + 1, by omega, by omega, rfl, .inr ⟨by omega, rfl⟩⟩
        case measure => simp [intOf]; omega
    · rcases hf with ⟨hle, rfl⟩ | ⟨hlt, rfl⟩
      · omega
      · go_wp2_with fail
        refine (is_errno k 0 _).mono ?_
        rintro e w' ⟨rfl, rfl⟩
        go_wp2
        go_ret
        exact ⟨rfl, rfl⟩

theorem num_nil (w : World) : Calls Try.prog 26 #[.nilIface] w fun e w' => e = .returned (.int .i64 0) ∧ w = w' := by
  go_enter Try.func26, Try.ntmps26
  go_wp2
  go_ret
  exact ⟨rfl, rfl⟩

end Go.Proofs.Ytkmgpajodbadmaa
