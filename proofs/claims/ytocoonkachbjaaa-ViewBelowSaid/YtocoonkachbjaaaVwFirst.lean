/- The document's first: the place of the first session of a birth number. -/
import Derived.Test.YtocoonkachbjaaaVwSess
namespace Go.Proofs.Ytocoonkachbjaaa
open Go.RowKit
set_option linter.unusedVariables false
namespace Vw
def firstL (ss : List Sess) (b : Int) : Option Nat := ss.findIdx? (fun s => s.birth == b)
def firstI (ss : List Sess) (b : Int) : Int := match firstL ss b with
  | none => -1
  | some p => p
def FsRel (ss : List Sess) (b : Int) (w : World) (i : Value) (wr : World) : Prop :=
  ∃ k : Nat, k ≤ ss.length ∧ i = .int .i64 k ∧ (∀ j (h : j < ss.length), j < k → ss[j].birth ≠ b) ∧ Below w.heap.size w wr

set_option maxHeartbeats 2000000 in
theorem rfirst_any (v : Value) (ss : List Sess) (hl : (ss.length : Int) ≤ 9223372036854775807) (b : Int) (w : World) (h1 : SessArg w v ss) :
    Calls Try.prog 21 #[v, .int .i64 b] w fun e w' => e = .returned (.int .i64 (firstI ss b)) ∧ Below w.heap.size w w' := by
  obtain ⟨p, cap, rfl, h⟩ := h1
  have H := Lib.hid h
  clear h
  go_enter Try.func21, Try.ntmps21
  go_wp2
  go_loopw [5] (fun i wr => FsRel ss b w i wr) (fun i _ => ss.length - (intOf i).toNat)
  case atStart => exact ⟨0, Nat.zero_le _, rfl, fun j h hj => absurd hj (Nat.not_lt_zero _), Below.refl _ _⟩
  case round =>
    obtain ⟨k, hk, rfl, hne, hbr⟩ := hrel
    have HE := Lib.hid hne; clear hne
    have b0 : (0 : Int) ≤ (k : Int) := by omega
    by_cases h : k < ss.length
    · have b1 : (k : Int) < (ss.length : Int) := by omega
      obtain ⟨g, o, rfl, hg, k2⟩ := H.out k h
      have e1 : wr.cell? ⟨g, o + k * 12 + 1, none⟩ = some (.int .i64 ss[k].birth) := (hbr.cell (p := ⟨g, o + k * 12 + 1, none⟩) hg).trans (k2 1 _ rfl)
      have w1 : IntKind.i64.wrap ((k : Int) + 1) = ((k + 1 : Nat) : Int) := by rw [IntWalk.i64_in _ (by omega)]; rfl
      have hyes : ss[k].birth = b → firstL ss b = some k := fun e => by
        unfold firstL
        rw [List.findIdx?_eq_some_iff_getElem]
        exact ⟨h, by simp [e], fun j hj => by simpa using HE.out j (by omega) hj⟩
      have hno : ss[k].birth ≠ b → ∀ j (h : j < ss.length), j < k + 1 → ss[j].birth ≠ b := fun e j h hj => by
        rcases Nat.lt_or_ge j k with h2 | h2
        · exact HE.out j h h2
        · have e2 : j = k := by omega
          subst e2; exact e
      obtain ⟨X, hX⟩ : ∃ X, X = ss[k].birth := ⟨_, rfl⟩
      rw [← hX] at e1 hyes hno
      clear k2 hX
      by_cases hx : X = b
      · have HF : Hid (Ending.returned (.int .i64 (k : Int)) = .returned (.int .i64 (firstI ss b))) := by show _ = _; unfold firstI; rw [hyes hx]
        subst hx
        have hxq : (X == X) = true := by simp
        clear hyes hno
        go_wp2
        go_ret
        exact ⟨HF.out, hbr⟩
      · have HN := Lib.hid (hno hx)
        have hxq : (X == b) = false := by rw [beq_eq_false_iff_ne]; exact hx
        clear hyes hno hx
        go_wp2
        go_roundw
        case rel => exact ⟨k + 1, by omega, rfl, HN.out, hbr⟩
        case measure => simp [intOf]; omega
    · have b1 : (ss.length : Int) ≤ (k : Int) := by omega
      have HF : Hid (Ending.returned (.int .i64 (-1)) = .returned (.int .i64 (firstI ss b))) := by
        show _ = _
        have : firstL ss b = none := by
          unfold firstL
          rw [List.findIdx?_eq_none_iff]
          intro s hs
          obtain ⟨j, hj, e⟩ := List.getElem_of_mem hs
          have := HE.out j hj (by omega)
          rw [e] at this
          simpa using this
        unfold firstI; rw [this]
      clear h
      go_wp2
      go_ret
      exact ⟨HF.out, hbr⟩
end Vw
end Go.Proofs.Ytocoonkachbjaaa
