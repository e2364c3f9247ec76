/- (*scope.Book).All, Names, below: of any Book. -/
import Derived.Test.YtocoonkachbjaaaGreatDoorScNew
namespace Go.Proofs.YtocoonkachbjaaaGreatDoor
open Go.RowKit Go.Maps Go.ChangeMaps Go.Proofs.NmPlain Go.Proofs.Ar
set_option linter.unusedVariables false
namespace Sc

/-- A Book taken apart. -/
theorem BookAt.out {lo : Nat} {w : World} {B : Nat} {ls : List ByteArray} (h : BookAt lo w B ls) : ∃ q c bm, w.cell? ⟨B, 0, none⟩ = some (.slice q ls.length c) ∧ w.cell? ⟨B, 1, none⟩ = some (.map (some bm)) ∧
    TextArg w (.slice q ls.length c) ls ∧ w.ownsMap Tryz.prog 9 (plainElem Tryz.prog 3) bm ls.length (mapL ls ls.length) := by
  obtain ⟨v, bm, h1, h2, h3, h4, h5⟩ := h
  obtain ⟨q, c, rfl⟩ := own_shape h4
  exact ⟨q, c, bm, by rw [cell_of_row w _ 0 _ _ _ h1]; rfl, by rw [cell_of_row w _ 1 _ _ _ h1]; rfl, Tx.own_arg h4, h5⟩

theorem all_64 {ls : List ByteArray} (h : ls.length = 64) : ((allS ls : Nat) : Int) = 18446744073709551615 := by unfold allS; rw [h]; rfl
theorem all_lt {ls : List ByteArray} (h : ls.length < 64) : IntKind.u64.wrap (IntKind.u64.wrap ((2 : Int) ^ ls.length) - 1) = ((allS ls : Nat) : Int) := by
  have h1 := pow_u64 h
  have h2 : 0 < 2 ^ ls.length := Nat.pow_pos (by omega)
  have e : ((2 ^ ls.length : Nat) : Int) - 1 = ((2 ^ ls.length - 1 : Nat) : Int) := by omega
  rw [wrap_pow h, e, IntWalk.u64_in _ ⟨Int.natCast_nonneg _, Int.ofNat_le.2 (show 2 ^ ls.length - 1 ≤ 18446744073709551615 by omega)⟩]
  rfl

set_option maxHeartbeats 2000000 in
theorem all_any (lo B : Nat) (ls : List ByteArray) (hl : ls.length ≤ 64) (w : World) (hb : BookAt lo w B ls) :
    Calls Tryz.prog 65 #[.pointer (some ⟨B, 0, none⟩)] w fun e w' => e = .returned (.int .u64 (allS ls : Nat)) ∧ w = w' := by
  obtain ⟨q, c, bm, c0, c1, ht, hm⟩ := hb.out
  clear c1 ht hm hb
  by_cases h : ls.length = 64
  · have HA := Lib.hid (all_64 h)
    have e1 : ((ls.length : Int) == 64) = true := by rw [h]; rfl
    clear h
    go_enter Tryz.func65, Tryz.ntmps65
    go_wp2
    go_ret
    exact ⟨by rw [HA.out]; rfl, rfl⟩
  · have HA := Lib.hid (all_lt (ls := ls) (by omega))
    have e1 : ((ls.length : Int) == 64) = false := by rw [beq_eq_false_iff_ne]; omega
    have e2 : (0 : Int) ≤ (ls.length : Int) := by omega
    have e3 : (ls.length : Int) ≤ 63 := by omega
    clear h
    go_enter Tryz.func65, Tryz.ntmps65
    go_wp2
    go_ret
    exact ⟨by rw [← HA.out]; rfl, rfl⟩

end Sc
end Go.Proofs.YtocoonkachbjaaaGreatDoor
