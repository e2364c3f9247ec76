/- (*queue).put. -/
import Derived.Test.YtkmgpajodbadmaaHpDown
import Derived.Deep.AppendLies
import Derived.Deep.RegionLaw
namespace Go.Proofs.Ytkmgpajodbadmaa
open Go.RowKit
set_option linter.unusedVariables false
namespace Hp

theorem hp_info : (Try.prog.info? 66).map (fun i => (i.zero, i.size, i.bytes)) = some (some (.agg #[.int .i64 0, .int .i64 0]), 2, 16) := by kernel_rfl

theorem QAt.append {lo H hb ga ca : Nat} {v : Value} {M : List It} {ats : List Int} {w w1 : World} (hq : QAt lo H hb ga ca v M ats w) (hgrow : w.grownBy w1 v.ownBlock) {gg cap : Nat} {x : It}
    (hown : w1.ownsRow lo 66 2 (.slice (some ⟨gg, 0, none⟩) (M.length + 1) cap) (M.length + 1) (encL M ++ encI x)) (hat : v.ownBlock = some gg ∨ w.heap.size ≤ gg) :
    QAt lo H hb ga ca (.slice (some ⟨gg, 0, none⟩) (M.length + 1) cap) (M ++ [x]) ats (w1.setCell ⟨H, 0, none⟩ (.slice (some ⟨gg, 0, none⟩) (M.length + 1) cap)) := by
  obtain ⟨n1, n2, n3, n4, n5, n6, n7, n8, n9, n10⟩ := hq.ne
  have hgH : gg ≠ H := by
    rintro rfl
    rcases hat with h | h
    · exact n4 h
    · omega
  have t1 : w1.heap[H]? = w.heap[H]? := hgrow.block H n7 (fun e => n4 e.symm)
  have t2 : w1.heap[hb]? = w.heap[hb]? := hgrow.block hb n8 (fun e => n5 e.symm)
  have hk : ∀ j, j ≠ H → (w1.setCell ⟨H, 0, none⟩ (.slice (some ⟨gg, 0, none⟩) (M.length + 1) cap)).heap[j]? = w1.heap[j]? := fun j hj => Below.heap_setCell _ _ _ _ (by simpa using hj)
  refine ⟨?_, (hk hb (fun e => n1 e.symm)).trans (t2.trans hq.box), ?_, ?_, hq.loH, hq.loB⟩
  · rw [heap_setCell_same w1 H 0 _ _ _ (t1.trans hq.top)]; rfl
  · have := ownsRow_setCell_other (a := ⟨H, 0, none⟩) hown (by simpa [Value.ownBlock] using hgH) (.slice (some ⟨gg, 0, none⟩) (M.length + 1) cap)
    have e1 : (M ++ [x]).length = M.length + 1 := by simp
    have e2 : encL (M ++ [x]) = encL M ++ encI x := by simp [encL]
    rw [e1, e2]; exact this
  · exact ownsRow_setCell_other (a := ⟨H, 0, none⟩) (hq.at_.kept hgrow (.inr (fun e => n6 e.symm))) (by simpa [Value.ownBlock] using n2) _

def Put (lo H hb ga ca : Nat) (v : Value) (M : List It) (x : It) (n : Nat) (w : World) (e : Ending) (w' : World) : Prop :=
  (∃ u, e = .returned u) ∧ ∃ v' L ats, QAt lo H hb ga ca v' L ats w' ∧ List.Perm L (M ++ [x]) ∧ Pos ats L n L.length ∧ (HeapOrd M → HeapOrd L) ∧ Only (Ft H ga v) w w' ∧ ∀ k, v'.ownBlock = some k → v.ownBlock = some k ∨ w.heap.size ≤ k

set_option maxHeartbeats 4000000 in
theorem put_any (lo H hb ga ca : Nat) (v : Value) (M : List It) (ats : List Int) (x : It) (n : Nat) (w : World) (hq : QAt lo H hb ga ca v M ats w) (hG : Good (M ++ [x]) n) (hP : Pos ats (M ++ [x]) n M.length) (hl : (M.length : Int) ≤ 1048575) (hlo : lo ≤ w.heap.size) :
    Calls Try.prog 33 #[.pointer (some ⟨H, 0, none⟩), .agg #[.int .i64 x.1, .int .i64 x.2]] w (Put lo H hb ga ca v M x n w) := by
  obtain ⟨i0, hi, hz0, hz1, hz2⟩ := info_parts hp_info
  have hbl : Below w.heap.size w (w.alloc (.cells #[.int .i64 x.1, .int .i64 x.2] 66)) := (Below.refl _ _).alloc (Nat.le_refl _) _
  have hq2 := hq.below hbl
  have HQ := Lib.hid hq2
  have HO : Hid (Only (Ft H ga v) w (w.alloc (.cells #[.int .i64 x.1, .int .i64 x.2] 66))) := (Only.refl _ _).alloc _
  have c1 := hq2.c_l
  have am1 : M.length + 1 ≤ maxLen := by unfold maxLen; omega
  have am2 : (M.length + 1) * 16 ≤ 140737488355328 := by omega
  have HG := Lib.hid hG; have HP := Lib.hid hP
  have hlo2 : lo ≤ (w.alloc (.cells #[.int .i64 x.1, .int .i64 x.2] 66)).heap.size := Nat.le_trans hlo hbl.size
  obtain ⟨W, hW⟩ : ∃ W, W = w.alloc (.cells #[.int .i64 x.1, .int .i64 x.2] 66) := ⟨_, rfl⟩
  have c6 : W.cell? ⟨w.heap.size, 0, none⟩ = some (.int .i64 x.1) := by rw [hW]; simp
  have c7 : W.cell? ⟨w.heap.size, 1, none⟩ = some (.int .i64 x.2) := by rw [hW]; simp
  have hsz : w.heap.size < W.heap.size := by rw [hW]; simp
  rw [← hW] at c1 HQ HO hlo2
  obtain ⟨qv, rv, hv⟩ : ∃ q r, v = .slice q M.length r := by
    rcases hq.row.2 with ⟨h1, h2⟩ | ⟨gv, cap, cur, h1, _⟩
    · exact ⟨none, 0, by rw [h1, h2]⟩
    · exact ⟨_, cap, h1⟩
  subst hv
  have HSZ := Lib.hid hsz
  have HKEEP : Hid (∀ w1, (W.alloc (.cells #[.int .i64 x.1, .int .i64 x.2] 66)).drew.grownBy w1 (Value.slice qv M.length rv).ownBlock → w1.cell? ⟨H, 0, none⟩ = some (.slice qv M.length rv) ∧ w1.frozen? ⟨H, 0, none⟩ = false) := fun w1 hg => by
    have hq3 := (HQ.out.below ((Below.refl _ _).alloc (Nat.le_refl _) (.cells #[.int .i64 x.1, .int .i64 x.2] 66))).drew
    obtain ⟨_, _, _, n4, _, _, n7, _⟩ := hq3.ne
    have t1 := hg.block H n7 (fun e => n4 e.symm)
    exact ⟨(World.cell?_of_block t1).trans hq3.c_l, (World.frozen?_of_block t1).trans (frozen_of_row _ _ _ _ _ hq3.top)⟩
  clear hq hbl hq2 hG hP hsz hlo
  have c1a : (W.alloc (.cells #[.int .i64 x.1, .int .i64 x.2] 66)).cell? ⟨H, 0, none⟩ = some (.slice qv M.length rv) := (HQ.out.below ((Below.refl _ _).alloc (Nat.le_refl _) _)).c_l
  go_enter Try.func33, Try.ntmps33
  go_wp2
  rw [← hW]
  have HW := Lib.hid hW
  clear hW
  go_region_law (first | (refine step_append_lies _ (by rfl) (.tmp 8) (.tmp 10) 67 (by rfl) lo 66 i0 (.agg #[.int .i64 0, .int .i64 0]) 2 16 Try.underlying67 hi hz0 hz1 hz2 rfl (by decide) _ _ _ (by rfl) (HQ.out.row.drew.alloc _) ⟨W.heap.size, 0, none⟩ 1 1 [.int .i64 x.1, .int .i64 x.2] (by rfl) (by rfl) (World.news_of_block (Ut.alloc_at _ _)) (by intro u hu; simp at hu; rcases hu with rfl | rfl <;> rfl) Nat.one_pos am1 am2 (by simp; omega) (W.heap.size + 1) (by simp) ?_; intro gg cap w1 hown' hgrow hat hlt; obtain ⟨k9, k10⟩ := HKEEP.out _ hgrow))
  all_goals (
    have hb0 : Below W.heap.size W ((W.alloc (.cells #[.int .i64 x.1, .int .i64 x.2] 66)).drew) := ((Below.refl _ _).alloc (Nat.le_refl _) _).drew
    have hq3 := HQ.out.below hb0
    have hq4 := QAt.append hq3 hgrow hown' (hat.imp id (fun e => by rw [e]; simp))
    have ho4 : Only (Ft H ga (.slice qv M.length rv)) w (w1.setCell ⟨H, 0, none⟩ (.slice (some ⟨gg, 0, none⟩) (M.length + 1) cap)) :=
      (((HO.out.alloc (.cells #[.int .i64 x.1, .int .i64 x.2] 66)).drew).grown hgrow (fun k _ e => .inr (.inr e))).setCell (p := ⟨H, 0, none⟩) (fun _ => .inl rfl) _
    have hal : (M ++ [x]).length = M.length + 1 := by simp
    have hu := up_any lo H hb ga ca _ (M ++ [x]) ats n M.length _ hq4 HG.out HP.out (by rw [hal]; omega) (by rw [hal]; omega)
    have HNEW : Hid (∀ k, (Value.slice (some ⟨gg, 0, none⟩) (M.length + 1) cap).ownBlock = some k → (Value.slice qv M.length rv).ownBlock = some k ∨ w.heap.size ≤ k) := fun k hk => by
      obtain rfl : gg = k := by simpa [Value.ownBlock] using hk
      rcases hat with h | h
      · exact .inl h
      · right; have := HSZ.out; omega
    have k11 := hq4.c_l
    have HU := Lib.hid hu; have HO4 := Lib.hid ho4
    have v1 : IntKind.i64.wrap (M.length : Int) = (M.length : Int) := IntWalk.i64_in _ (by omega)
    obtain ⟨W5, hW5⟩ : ∃ X, X = w1.setCell ⟨H, 0, none⟩ (.slice (some ⟨gg, 0, none⟩) (M.length + 1) cap) := ⟨_, rfl⟩
    rw [← hW5] at HU HO4 k11 ⊢
    clear hb0 hq3 hq4 ho4 hu hown' hgrow hat hlt k9 k10 hW5
    go_wp2_with fail
    refine HU.out.mono ?_
    rintro e w6 ⟨⟨u, rfl⟩, L', ats', hq6, hp6, hpos6, hord6, ho6⟩
    have HR : Hid (Put lo H hb ga ca (.slice qv M.length rv) M x n w (.returned (.tuple #[])) w6) :=
      ⟨⟨_, rfl⟩, _, L', ats', hq6, hp6, hpos6, fun h => hord6 (h.put x), HO4.out.trans ho6 (fun i hi hf => by
        rcases hf with h | h | h
        · exact .inl h
        · exact .inr (.inl h)
        · rcases HNEW.out i h with h2 | h2
          · exact .inr (.inr h2)
          · omega), HNEW.out⟩
    clear hq6 hp6 hpos6 hord6 ho6
    go_wp2
    go_end0
    exact HR.out)

end Hp
end Go.Proofs.Ytkmgpajodbadmaa
