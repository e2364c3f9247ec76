/- lineageref03.word: of any book's names and any word. -/
import Derived.Test.YtocoonkachbjaaaGreatDoorScRef
import Derived.Test.YtocoonkachbjaaaGreatDoorScPlain2
import Derived.Deep.RegionHeld3
namespace Go.Proofs.YtocoonkachbjaaaGreatDoor
open Go.RowKit Go.Proofs.NmPlain Go.Proofs.Ar
set_option linter.unusedVariables false
namespace Sc

theorem set_yes {p : Nat → Bool} {k : Nat} (h : p k = true) : setBy p (k + 1) = setBy p k ||| 2 ^ k := by
  show (if p k = true then _ else _) = _
  rw [if_pos h]
theorem set_no {p : Nat → Bool} {k : Nat} (h : p k = false) : setBy p (k + 1) = setBy p k := by
  show (if p k = true then _ else _) = _
  rw [if_neg (by rw [h]; simp)]
theorem or_set {p : Nat → Bool} {k : Nat} (hk : k < 64) (h : p k = true) : bits .or .u64 (setBy p k : Int) (IntKind.u64.wrap ((2 : Int) ^ k)) = (setBy p (k + 1) : Int) := by
  rw [or_bit (setBy_u64 _ (by omega)) hk, ← set_yes h]
theorem bytes_ne {x t : ByteArray} {l : Bs} (ht : t.data.toList = l) (h : ¬ x.data.toList = l) : (x.toList == t.toList) = false := by
  rw [beq_eq_false_iff_ne, Lib.toList_data, Lib.toList_data, ht]; exact h
theorem bytes_yes {x t : ByteArray} {l : Bs} (ht : t.data.toList = l) (h : x.data.toList = l) : (x.toList == t.toList) = true := by
  rw [beq_iff_eq, Lib.toList_data, Lib.toList_data, ht]; exact h

theorem stem_list {t : ByteArray} {m : Nat} (h : t.size = m + 2) : (t.extract 0 m).data.toList = t.data.toList.take (t.data.toList.length - 2) := by
  have h2 : t.data.toList.length = m + 2 := by rw [← size_toList]; exact h
  rw [h2, Lib.extract_data, List.drop_zero, Nat.sub_zero]; rfl
theorem tail_list {t : ByteArray} {m : Nat} (h : t.size = m + 2) : (t.extract m (m + 2)).data.toList = t.data.toList.drop (t.data.toList.length - 2) := by
  have h2 : t.data.toList.length = m + 2 := by rw [← size_toList]; exact h
  rw [h2, Lib.extract_data]
  exact List.take_of_length_le (by rw [List.length_drop]; omega)

end Sc
end Go.Proofs.YtocoonkachbjaaaGreatDoor
