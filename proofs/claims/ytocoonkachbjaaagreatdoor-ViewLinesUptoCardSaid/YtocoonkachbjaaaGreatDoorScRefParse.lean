/- lineageref03.Parse: of any book's names and any text. -/
import Derived.Test.YtocoonkachbjaaaGreatDoorScRefWord
import Derived.Test.YtocoonkachbjaaaGreatDoorScWords
namespace Go.Proofs.YtocoonkachbjaaaGreatDoor
open Go.RowKit Go.Proofs.NmPlain Go.Proofs.Ar
set_option linter.unusedVariables false
namespace Sc

theorem at_no {c : UInt8} {n : UInt8} (h : c ≠ n) : ((c.toNat : Int) == (n.toNat : Int)) = false := by
  rw [beq_eq_false_iff_ne]; intro e; exact h (UInt8.toNat_inj.1 (by omega))
theorem at_no' {c : UInt8} {n : UInt8} (h : c ≠ n) : ((c.toNat : Int) != (n.toNat : Int)) = true := by
  rw [bne_iff_ne]; intro e; exact h (UInt8.toNat_inj.1 (by omega))
theorem ret3 {a : Nat} {b c : Int} {p : Nat × Int × Int} (h : p = (a, b, c)) : Ending.returned (.tuple #[.int .u64 (a : Int), .int .i64 b, .int .i64 c]) = .returned (.tuple #[.int .u64 (p.1 : Int), .int .i64 p.2.1, .int .i64 p.2.2]) := by
  subst h; rfl

/-- While a text is read. -/
def PRel (ls : List ByteArray) (t : ByteArray) (w : World) (s i : Value) (wr : World) : Prop :=
  ∃ k S : Nat, k ≤ t.size ∧ i = .int .i64 k ∧ s = .int .u64 (S : Int) ∧ S < 18446744073709551616 ∧ parseW ls (wordsAt k (t.data.toList.drop k)) S = parseL ls t.data.toList ∧ Below w.heap.size w wr

theorem word_u64 {ls : List ByteArray} (hl : ls.length ≤ 64) (l : Bs) : (wordL ls l).1 < 18446744073709551616 := by
  rcases wordL_cases ls l with ⟨h, _⟩ | ⟨_, h⟩
  · rw [h]; omega
  · have : 2 ^ ls.length ≤ 2 ^ 64 := Nat.pow_le_pow_right (by omega) hl
    omega

end Sc
end Go.Proofs.YtocoonkachbjaaaGreatDoor
