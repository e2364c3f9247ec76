/- heap.New. -/
import Derived.Test.YtkmgpajodbadmaaHpRep
import Derived.Laws.EntriesVeiled
namespace Go.Proofs.Ytkmgpajodbadmaa
open Go.RowKit
set_option linter.unusedVariables false
namespace Hp

def NewPost (n : Nat) (w : World) (e : Ending) (w' : World) : Prop :=
  ∃ H F, e = .returned (.tuple #[.pointer (some ⟨H, 0, none⟩), .nilIface]) ∧ HeapAt w.heap.size H n [] F w' ∧ Below w.heap.size w w'

/-- A new heap's blocks. -/
theorem made_heap {w w1 : World} {n ga : Nat} (h0 : 1 ≤ n) (hn : (n : Int) ≤ 65536) (hneg : Neg ga n n w1) (hga : w.heap.size ≤ ga) (hb : Below w.heap.size w w1) (hs : w.heap.size ≤ w1.heap.size) :
    let W4 := (w1.alloc (.cells #[.slice none 0 0, .func (.func 39) #[] #[], .func (.func 40) #[] #[.pointer (some ⟨w1.heap.size + 1, 0, none⟩)], .slice (some ⟨ga, 0, none⟩) n n] 73)).alloc (.cells #[.pointer (some ⟨w1.heap.size, 0, none⟩)] 24)
    (∃ F, HeapAt w.heap.size w1.heap.size n [] F W4) ∧ Below w.heap.size w W4 := by
  intro W4
  have hgl : ga < w1.heap.size := by
    obtain ⟨cs, h, _⟩ := hneg
    exact (Array.getElem?_eq_some_iff.1 h).1
  have c0 : W4.heap[w1.heap.size]? = some (.cells #[.slice none 0 0, .func (.func 39) #[] #[], .func (.func 40) #[] #[.pointer (some ⟨w1.heap.size + 1, 0, none⟩)], .slice (some ⟨ga, 0, none⟩) n n] 73 (0, 0)) :=
    (Below.heap_alloc _ _ _ (by simp)).trans (Ut.alloc_at w1 _)
  have c1 : W4.heap[w1.heap.size + 1]? = some (.cells #[.pointer (some ⟨w1.heap.size, 0, none⟩)] 24 (0, 0)) := by
    have := Ut.alloc_at (w1.alloc (.cells #[.slice none 0 0, .func (.func 39) #[] #[], .func (.func 40) #[] #[.pointer (some ⟨w1.heap.size + 1, 0, none⟩)], .slice (some ⟨ga, 0, none⟩) n n] 73)) (.cells #[.pointer (some ⟨w1.heap.size, 0, none⟩)] 24)
    rw [show (w1.alloc (.cells #[.slice none 0 0, .func (.func 39) #[] #[], .func (.func 40) #[] #[.pointer (some ⟨w1.heap.size + 1, 0, none⟩)], .slice (some ⟨ga, 0, none⟩) n n] 73)).heap.size = w1.heap.size + 1 by simp] at this
    exact this
  have cg : W4.heap[ga]? = w1.heap[ga]? := (Below.heap_alloc _ _ _ (by simp; omega)).trans (Below.heap_alloc _ _ _ hgl)
  have hb4 : Below w.heap.size w W4 := (hb.alloc hs _).alloc (by simp; omega) _
  refine ⟨?_, hb4⟩
  obtain ⟨cs, q1, q2, q3⟩ := hneg
  have hcs : cs = (List.replicate n (-1 : Int)).map vI := by
    apply List.ext_getElem?
    intro j
    by_cases hj : j < n
    · rw [q3 j hj]; simp [hj, vI]
    · rw [List.getElem?_eq_none (by omega), List.getElem?_eq_none (by simp; omega)]
  refine ⟨fun k => k = w1.heap.size + 1 ∨ Ft w1.heap.size ga (.slice none 0 0) k, w1.heap.size + 1, ga, n, .slice none 0 0, List.replicate n (-1), ⟨?_, c1, World.ownsRow_nil _ _ _ _, ?_, hs, by omega⟩, ⟨by simp, by simp⟩, ⟨by simp, fun k hk => absurd hk (Nat.not_lt_zero _), fun i hi _ => ?_⟩, fun k _ hk => absurd hk (Nat.not_lt_zero _), fun k => Iff.rfl⟩
  · rw [List.length_replicate]; exact c0
  · rw [List.length_replicate]
    refine ⟨by simp, .inr ⟨ga, n, cs.toArray, rfl, hga, cg.trans q1, Nat.le_refl _, by unfold maxLen; omega, by simp [q2], ?_⟩⟩
    rw [hcs]; simp
  · simp [List.getD_eq_getElem?_getD, hi]

set_option maxHeartbeats 4000000 in
theorem hnew_any (n : Nat) (h0 : 1 ≤ n) (hn : (n : Int) ≤ 65536) (w : World) : Calls Try.prog 27 #[.int .i64 n] w (NewPost n w) := by
  have hb0 : Below w.heap.size w (w.alloc (.cells #[.int .i64 (-1)] 3)) := (Below.refl _ _).alloc (Nat.le_refl _) _
  have hr := repeat_any w.heap.size n h0 hn (w.alloc (.cells #[.int .i64 (-1)] 3)) (by simp)
  have HR := Lib.hid hr; have HB0 := Lib.hid hb0
  have b0 : (1 : Int) ≤ (n : Int) := by omega
  clear hr hb0
  go_enter Try.func27, Try.ntmps27
  go_wp2_with fail
  refine HR.out.mono ?_
  rintro e w1 ⟨rfl, hneg, hb1⟩
  have HN := Lib.hid hneg
  have HB1 : Hid (Below w.heap.size w w1) := HB0.out.trans (hb1.mono HB0.out.size)
  have hs1 : w.heap.size + 1 < w1.heap.size := by
    obtain ⟨cs, h, _⟩ := hneg
    have := (Array.getElem?_eq_some_iff.1 h).1
    simpa using this
  have hga : (w.alloc (.cells #[.int .i64 (-1)] 3)).heap.size = w.heap.size + 1 := by simp
  have hneg2 := hneg
  rw [hga] at hneg2
  obtain ⟨⟨F, hh⟩, hb4⟩ := made_heap (w := w) h0 hn hneg2 (by omega) HB1.out (by omega)
  have HR2 : Hid (NewPost n w (.returned (.tuple #[.pointer (some ⟨w1.heap.size, 0, none⟩), .nilIface])) _) := ⟨w1.heap.size, F, rfl, hh, hb4⟩
  clear hneg hb1 hneg2 hh hb4 hga
  go_wp2
  go_ret2
  exact HR2.out

end Hp
end Go.Proofs.Ytkmgpajodbadmaa
