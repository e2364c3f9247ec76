/- (*scope.Book).Parse: of any Book and any text. -/
import Derived.Test.YtocoonkachbjaaaGreatDoorScWord
namespace Go.Proofs.YtocoonkachbjaaaGreatDoor
open Go.RowKit Go.Maps Go.ChangeMaps Go.Proofs.NmPlain Go.Proofs.Ar
set_option linter.unusedVariables false
namespace Sc

theorem byte_index : ∀ L : Bs, (Lib.indexByte L 32 = -1 ∧ L.takeWhile nb = L) ∨ (∃ i : Nat, Lib.indexByte L 32 = i ∧ L.takeWhile nb = L.take i)
  | [] => .inl ⟨rfl, rfl⟩
  | c :: r => by
    by_cases h : c = 32
    · right; exact ⟨0, by simp [Lib.indexByte, h], by simp [nb, h]⟩
    · have hc : nb c = true := by simp [nb, h]
      rcases byte_index r with ⟨h1, h2⟩ | ⟨i, h1, h2⟩
      · left; exact ⟨by simp [Lib.indexByte, h, h1], by rw [List.takeWhile_cons, if_pos hc, h2]⟩
      · right
        refine ⟨i + 1, ?_, by rw [List.takeWhile_cons, if_pos hc, h2]; rfl⟩
        simp only [Lib.indexByte, h1]
        simp [h]
theorem cut_word (L : Bs) : (Lib.cut L [32]).1 = L.takeWhile nb := by
  unfold Lib.cut
  rw [Lib.index_one]
  rcases byte_index L with ⟨h1, h2⟩ | ⟨i, h1, h2⟩
  · rw [h1, h2]; rfl
  · rw [h1, if_pos (by omega), h2]; simp

/-- What Parse hands back. -/
def ParsePost (ls : List ByteArray) (l : Bs) (e : Ending) : Prop := e = .returned (.tuple #[.int .u64 ((parseL ls l).1 : Nat), errV (parseL ls l).2.1 (parseL ls l).2.2])
theorem ParsePost.mk {ls : List ByteArray} {l : Bs} {a : Nat} {no at_ : Int} {v : Value} (h : parseL ls l = (a, no, at_)) (hv : v = errV no at_) : ParsePost ls l (.returned (.tuple #[.int .u64 (a : Int), v])) := by
  unfold ParsePost; rw [h, hv]

end Sc
end Go.Proofs.YtocoonkachbjaaaGreatDoor
