/- Reslicing, its address a letter: no ways. No program's code. -/
import Derived.WalkKit
import Derived.Laws.Slices
namespace Go.Proofs.Ytocoonkachbjaaa
open Go.RowKit
set_option linter.unusedVariables false
set_option linter.unusedSimpArgs false
namespace Sl
theorem run_low {P : Program} (t e : TypeId) (q : Option Addr) (n c a size : Nat) (hu : P.underlying t = some (.slice e)) (hsz : (P.info? e).map (·.size) = some size) (ha : a ≤ n) (hn : n ≤ c) :
    ∃ q', q' = (if c = a then q else q.map (·.add (a * size))) ∧ ∀ w : World, (Instr.slice t (.slice q n c) (some (.int .i64 (a : Int))) none none).run P w = .ok (.slice q' (n - a) (c - a)) w := by
  refine ⟨_, rfl, fun w => ?_⟩
  cases hi : P.info? e with
  | none => simp [hi] at hsz
  | some i =>
    have hs : i.size = size := by simpa [hi] using hsz
    unfold Instr.slice Instr.sliceBounds
    have h0 : (0 : Int) ≤ (a : Int) := by omega
    have h1 : (a : Int) ≤ (n : Int) := by omega
    have hb := run_sliceBound (P := P) (w := w) .i64 (a : Int) n
    simp [run_underlying hu, run_sliceBound, ha, hn, sizeOf, typeInfo, hi, hs, Sem.run_bind]
theorem run_high {P : Program} (t e : TypeId) (q : Option Addr) (n c a : Nat) (hu : P.underlying t = some (.slice e)) (hsz : (P.info? e).isSome = true) (ha : a ≤ c) (w : World) :
    (Instr.slice t (.slice q n c) none (some (.int .i64 (a : Int))) none).run P w = .ok (.slice q a c) w := by
  cases hi : P.info? e with
  | none => simp [hi] at hsz
  | some i =>
    unfold Instr.slice Instr.sliceBounds
    have e0 : q.map (·.add 0) = q := by cases q with
      | none => rfl
      | some x => simp [Addr.add]
    by_cases hc : c = 0
    · have h0 : a = 0 := by omega
      subst hc h0
      simp [run_underlying hu, run_sliceBound, sizeOf, typeInfo, hi, Sem.run_bind]
    · simp [run_underlying hu, run_sliceBound, ha, sizeOf, typeInfo, hi, Sem.run_bind, hc, e0]
end Sl
end Go.Proofs.Ytocoonkachbjaaa
