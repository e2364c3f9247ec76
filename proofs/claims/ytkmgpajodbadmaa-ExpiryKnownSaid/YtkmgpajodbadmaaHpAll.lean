/- (*Heap).All. -/
import Derived.Test.YtkmgpajodbadmaaHpSort
import Derived.Test.YtkmgpajodbadmaaHpPairs
import Derived.Shelf.RegionOpen
namespace Go.Proofs.Ytkmgpajodbadmaa
open Go.RowKit
set_option linter.unusedVariables false
namespace Hp

/-- What All's iterator is bound to. -/
def ItAt (lo Bs : Nat) (zs : List It) (w : World) : Prop := lo ≤ Bs ∧ ∃ sv, w.cell? ⟨Bs, 0, none⟩ = some sv ∧ Items w.heap.size w sv zs ∧ ∀ k, sv.ownBlock = some k → lo ≤ k

theorem Items.mono {n m : Nat} {W : World} {sv : Value} {zs : List It} (h : Items n W sv zs) (hnm : n ≤ m) : Items m W sv zs := by
  rcases h with e | ⟨b, cap, e, hb, hc⟩
  · exact .inl e
  · exact .inr ⟨b, cap, e, Nat.lt_of_lt_of_le hb hnm, hc⟩

set_option maxHeartbeats 4000000 in
theorem all_any (lo H n : Nat) (L : List It) (F : Nat → Prop) (w : World) (h : HeapAt lo H n L F w) (hn : (n : Int) ≤ 65536) :
    Calls Try.prog 15 #[.pointer (some ⟨H, 0, none⟩)] w fun e w' => ∃ Bs, e = .returned (.func (.func 32) #[] #[.pointer (some ⟨Bs, 0, none⟩)]) ∧ ItAt w.heap.size Bs (srt L) w' ∧ Below w.heap.size w w' := by
  obtain ⟨hb, ga, ca, v, ats, hq, hG, hP, hO, hF⟩ := h
  have c1 := hq.c_l
  have c2 := hq.c_ahead
  have hln : (L.length : Int) ≤ 65536 := by have := hG.len; omega
  clear hG hP hO hF
  have HC := Lib.hid (fun W (hr : W.ownsRow lo 66 2 v L.length (encL L)) => clone_any lo v L W hr hln)
  have hlt := hq.ne
  have HR := Lib.hid hq.row
  have hHl : H < w.heap.size := World.block_lt_of_cell? w _ c1
  clear hq
  have k1 : (w.alloc (.cells #[.pointer (some ⟨H, 0, none⟩)] 24)).cell? ⟨H, 0, none⟩ = some v := cell_keep ((Below.refl _ _).alloc (Nat.le_refl _) _) c1
  go_enter Try.func15, Try.ntmps15
  go_wp2_with fail
  refine (HC.out _ (HR.out.alloc _)).mono ?_
  rintro e w2 ⟨v', rfl, ho2, hb2⟩
  obtain ⟨q, r, rfl⟩ := own_any_shape ho2
  rw [World.size_alloc] at ho2 hb2
  go_wp2_with fail
  have hown : ∀ k, (Value.slice q L.length r).ownBlock = some k → w.heap.size + 1 ≤ k ∧ k < w2.heap.size := fun k e => ho2.lt k e
  have hsz2 : w.heap.size + 1 ≤ w2.heap.size := by have := hb2.size; simpa using this
  have hA : Below w.heap.size w w2 := ((Below.refl _ w).alloc (Nat.le_refl _) _).trans (hb2.mono (Nat.le_succ _))
  have hB : Below w2.heap.size w2 (w2.alloc (.cells #[.slice q L.length r] 67)) := (Below.refl _ _).alloc (Nat.le_refl _) _
  have x1 : w2.cell? ⟨w.heap.size, 0, none⟩ = some (.pointer (some ⟨H, 0, none⟩)) := (hb2.cell (p := ⟨w.heap.size, 0, none⟩) (by simp)).trans (by simp)
  have x2 : w2.cell? ⟨H, 1, none⟩ = some (.func (.func 39) #[] #[]) := cell_keep hA c2
  have x3 : (w2.alloc (.cells #[.slice q L.length r] 67)).cell? ⟨w2.heap.size, 0, none⟩ = some (.slice q L.length r) := by simp
  have HS := Lib.hid (sort_any (w.heap.size + 1) w.heap.size H (.slice q L.length r) L _ (ho2.alloc (.cells #[.slice q L.length r] 67)) hln (cell_keep hB x1) (cell_keep hB x2) (fun e => by have := hown _ e; omega) (fun e => by have := hown _ e; omega))
  have HO := Lib.hid hown; have HA := Lib.hid hA; have HB := Lib.hid hB; have HX := Lib.hid x3; have HZ := Lib.hid hsz2
  clear hown hA hB x1 x2 x3 hsz2 hb2 ho2 k1 c2
  refine HS.out.mono ?_
  rintro e w4 ⟨rfl, hi, ho⟩
  have HI := Lib.hid hi
  have HN := Lib.hid ho
  clear hi ho
  go_wp2
  go_ret
  refine ⟨_, rfl, ⟨?_, .slice q L.length r, ?_, ?_, fun k e => ?_⟩, ?_⟩
  · have := HZ.out; omega
  · rw [HN.out.cell (p := ⟨w2.heap.size, 0, none⟩) (by simp) (fun e => by have := HO.out _ e; simp at this)]; exact HX.out
  · exact HI.out.mono HN.out.size
  · have := HO.out _ e; omega
  · exact (HA.out.trans (HB.out.mono HA.out.size)).trans (HN.out.below (by have := HZ.out; simp; omega) (fun i hi e => by have := HO.out _ e; omega))

end Hp
end Go.Proofs.Ytkmgpajodbadmaa
