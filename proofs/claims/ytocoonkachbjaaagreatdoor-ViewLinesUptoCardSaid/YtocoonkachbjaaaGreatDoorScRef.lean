/- lineageref03.New, All: of any list of names, wherever it lies. -/
import Derived.Test.YtocoonkachbjaaaGreatDoorScPlain
import Derived.Test.YtocoonkachbjaaaGreatDoorNsUnder
import Derived.Test.YtocoonkachbjaaaGreatDoorTexts
import Derived.Laws.BitsAllLaws
import Derived.Laws.Shifts
import Derived.IntWalk
namespace Go.Proofs.YtocoonkachbjaaaGreatDoor
open Go.RowKit Go.Proofs.NmPlain Go.Proofs.Ar
set_option linter.unusedVariables false
namespace Sc

theorem bytes_eq (p : ByteArray) : (p.toList == p.toList) = true := by simp

theorem TextArg.at_ {w wr : World} {v : Value} {ps : List ByteArray} (h : TextArg w v ps) (hb : Below w.heap.size w wr) : TextArg wr v ps := h.below hb

/-- Place j of the list while New looks for an elder of it. -/
theorem take_next {ls : List ByteArray} {x : ByteArray} {j : Nat} (h : j < ls.length) (hx : x ∉ ls.take j) (hn : ls[j] ≠ x) : x ∉ ls.take (j + 1) := by
  rw [List.take_succ_eq_append_getElem h, List.mem_append]
  rintro (h1 | h1)
  · exact hx h1
  · exact hn (List.mem_singleton.1 h1).symm

theorem mem_take {ls : List ByteArray} {i j : Nat} (hj : j < ls.length) (hij : j < i) {x : ByteArray} (h : ls[j] = x) : x ∈ ls.take i := by
  rw [List.mem_take_iff_getElem]
  exact ⟨j, by omega, h⟩

theorem new_any_ret {a b c d : Int} {p : Int × Int} (h : p = (a, b)) (h1 : a = c) (h2 : b = d) : Ending.returned (.tuple #[.int .i64 c, .int .i64 d]) = .returned (.tuple #[.int .i64 p.1, .int .i64 p.2]) := by
  subst h; subst h1; subst h2; rfl

/-- Behind the first n names: all these. -/
theorem setBy_all_next (n : Nat) : setBy (fun _ => true) (n + 1) = setBy (fun _ => true) n ||| 2 ^ n := by
  show (if (fun _ => true) n = true then _ else _) = _
  rw [if_pos rfl]

theorem setBy_u64 (p : Nat → Bool) {n : Nat} (h : n ≤ 64) : setBy p n < 18446744073709551616 := by
  have h1 := setBy_lt p n
  have h2 : 2 ^ n ≤ 2 ^ 64 := Nat.pow_le_pow_right (by omega) h
  omega
theorem pow_u64 {n : Nat} (h : n < 64) : 2 ^ n < 18446744073709551616 := by
  have h2 : 2 ^ n < 2 ^ 64 := Nat.pow_lt_pow_right (by omega) h
  omega

/-- One bit, shifted to its place. -/
theorem shl_one {k : Nat} (h : k < 64) (yk : IntKind) : Op.shift .shl .u64 1 yk (k : Int) = pure (.int .u64 ((2 ^ k : Nat) : Int)) := by
  rw [shift_shl_any _ _ _ _ (by omega)]
  have e : (1 : Int) * 2 ^ min (k : Int).toNat IntKind.u64.bits = ((2 ^ k : Nat) : Int) := by
    rw [show min (k : Int).toNat IntKind.u64.bits = k by simp [IntKind.bits]; omega]
    simp
  have h2 := pow_u64 h
  rw [e, IntWalk.u64_in _ ⟨Int.natCast_nonneg _, Int.ofNat_le.2 (Nat.le_of_lt_succ h2)⟩]

theorem wrap_pow {k : Nat} (h : k < 64) : IntKind.u64.wrap ((2 : Int) ^ k) = ((2 ^ k : Nat) : Int) := by
  have h2 := pow_u64 h
  rw [show ((2 : Int) ^ k) = ((2 ^ k : Nat) : Int) by simp, IntWalk.u64_in _ ⟨Int.natCast_nonneg _, Int.ofNat_le.2 (Nat.le_of_lt_succ h2)⟩]

theorem or_bit {S k : Nat} (hS : S < 18446744073709551616) (h : k < 64) : bits .or .u64 (S : Int) (IntKind.u64.wrap ((2 : Int) ^ k)) = ((S ||| 2 ^ k : Nat) : Int) := by
  rw [wrap_pow h, u64_or_nat _ _ hS (pow_u64 h)]

set_option maxHeartbeats 2000000 in
theorem refall_any (v : Value) (ls : List ByteArray) (hl : ls.length ≤ 64) (w : World) (h1 : TextArg w v ls) :
    Calls Tryz.prog 72 #[v] w fun e w' => e = .returned (.int .u64 (allS ls : Nat)) ∧ w = w' := by
  obtain ⟨p, cp, rfl, -⟩ := h1
  have hA : allS ls = setBy (fun _ => true) ls.length := (setBy_all _).symm
  rw [hA]
  clear hA
  go_enter Tryz.func72, Tryz.ntmps72
  go_wp2
  go_loop [3, 4] (fun s i => ∃ k : Nat, k ≤ ls.length ∧ i = .int .i64 k ∧ s = .int .u64 (setBy (fun _ => true) k : Nat)) (fun _ i => ls.length - (intOf i).toNat)
  case atStart => exact ⟨0, Nat.zero_le _, rfl, rfl⟩
  case round =>
    obtain ⟨k, hk, rfl, rfl⟩ := hrel
    by_cases h : k < ls.length
    · have b1 : (0 : Int) ≤ (k : Int) := by omega
      have b2 : (k : Int) < (ls.length : Int) := by omega
      have b3 : (k : Int) ≤ 63 := by omega
      have HO : Hid (bits .or .u64 (setBy (fun _ => true) k : Int) (IntKind.u64.wrap ((2 : Int) ^ k)) = (setBy (fun _ => true) (k + 1) : Int)) := by
        show _ = _
        rw [or_bit (setBy_u64 _ (by omega)) (by omega), ← setBy_all_next]
      go_wp2
      exact ⟨⟨k + 1, by omega, by go_num, by rw [HO.out]⟩, by simp [intOf]; omega⟩
    · obtain rfl : k = ls.length := by omega
      go_wp2
      go_ret
      exact ⟨rfl, rfl⟩

end Sc
end Go.Proofs.YtocoonkachbjaaaGreatDoor
