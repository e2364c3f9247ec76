/- The reference's Dotted and Under; the law NamesUnder's walk. -/
import Derived.Test.YtocoonkachbjaaaGreatDoorNsName
import Derived.Test.YtocoonkachbjaaaGreatDoorUtil
import Derived.Test.YtocoonkachbjaaaGreatDoorNmPlain2
namespace Go.Proofs.YtocoonkachbjaaaGreatDoor
open Go.RowKit Go.Proofs.NmPlain
set_option linter.unusedVariables false

theorem max_of_shape (w : World) (hsh : w.ShapedOpen Tryz.prog) : MaxAt w := by first | exact Tryz.laysM145.s1_3 w hsh | exact Tryz.laysM146.s1_3 w hsh | exact Tryz.laysM219.s1_3 w hsh | exact Tryz.laysM143.s1_3 w hsh | exact Tryz.laysM138.s1_3 w hsh

theorem str_ne {a b : ByteArray} (h : a ≠ b) : (a.toList == b.toList) = false := by
  rw [beq_eq_false_iff_ne, Lib.toList_data, Lib.toList_data]
  intro e; apply h
  cases a; cases b; simpa using e

theorem join_len : ∀ l : List Bs, (∀ p ∈ l, p.length ≤ 32) → (joinD l).length ≤ 33 * l.length
  | [], _ => by simp [joinD]
  | [p], h => by have := h p (by simp); simp [joinD]; omega
  | p :: q :: r, h => by
    have h1 := h p (by simp)
    have ih := join_len (q :: r) (fun x hx => h x (by simp at hx; simp [hx]))
    simp only [joinD, List.length_append, List.length_cons] at ih ⊢
    omega

theorem nameB_le {l : Bs} (h : nameB l = true) : l.length ≤ 32 := by
  unfold nameB at h
  simp only [Bool.and_eq_true, decide_eq_true_eq] at h
  exact h.1.2

theorem dotB_len {l : Bs} (h : 132 < l.length) : dotB l = false := by
  cases hd : dotB l with
  | false => rfl
  | true =>
    unfold dotB at hd
    simp only [Bool.and_eq_true, decide_eq_true_eq, List.all_eq_true] at hd
    have := join_len (split l) (fun p hp => nameB_le (hd.2 p hp))
    rw [join_split] at this
    omega

theorem dotB_of {l : Bs} {ps : List ByteArray} (h : ps.map (·.data.toList) = split l) : dotB l = (decide (ps.length ≤ 4) && ps.all fun p => nameB p.data.toList) := by
  unfold dotB
  rw [← h, List.length_map, List.all_map]; rfl

def UndRel (ps qs : List ByteArray) (w : World) (i : Value) (wr : World) : Prop :=
  ∃ k : Nat, k ≤ qs.length ∧ i = .int .i64 k ∧ ps.take k = qs.take k ∧ Below w.heap.size w wr

end Go.Proofs.YtocoonkachbjaaaGreatDoor
