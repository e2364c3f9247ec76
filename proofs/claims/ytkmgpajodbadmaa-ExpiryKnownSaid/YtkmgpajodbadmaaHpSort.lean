/- slices.Clone and slices.SortFunc at a heap's items. -/
import Derived.Test.YtkmgpajodbadmaaSort
import Derived.Test.YtkmgpajodbadmaaHpCmp
import Derived.Test.YtkmgpajodbadmaaHpIter
namespace Go.Proofs.Ytkmgpajodbadmaa
open Go.RowKit Go.Sort Go.Shelf Go.Lib
set_option linter.unusedVariables false
namespace Hp

theorem lt_cf : ltOf cf = ahd := by
  funext x y
  unfold ltOf cf
  cases h : ahd x y <;> simp
theorem ahd_swo : SWO (ltOf cf) := by
  rw [lt_cf]
  exact ⟨ahd_irrefl, fun x y z h k => ahd_trans h k, fun x y z h k => no_trans h k⟩
theorem ahd_tot : ∀ x y, (ltOf cf) x y = false → (ltOf cf) y x = false → x = y := by
  rw [lt_cf]
  exact fun x y h k => eq_of_no h k

/-- In order. -/
def srt (L : List It) : List It := L.mergeSort fun x y => !(ltOf cf) y x
theorem srt_perm (L : List It) : (srt L).Perm L := List.mergeSort_perm _ _
theorem srt_len (L : List It) : (srt L).length = L.length := (srt_perm L).length_eq
theorem srt_sorted (L : List It) : (srt L).Pairwise fun x y => ahd y x = false := by
  have h := List.pairwise_mergeSort (le := fun x y => !(ltOf cf) y x) (l := L) (by
    intro a b c h1 h2
    rw [lt_cf] at *
    simp only [Bool.not_eq_true'] at *
    exact no_trans h2 h1) (by
    intro a b
    rw [lt_cf]
    cases h : ahd b a
    · simp
    · simp [ahd_asymm h])
  refine h.imp fun {a b} hab => ?_
  rw [lt_cf] at hab
  simpa using hab
theorem srt_unique {L M : List It} (hp : M.Perm L) (hs : M.Pairwise fun x y => ahd y x = false) : M = srt L :=
  List.Perm.eq_of_pairwise (le := fun x y => ahd y x = false) (fun a b _ _ h1 h2 => eq_of_no h2 h1) hs (srt_sorted L) (hp.trans (srt_perm L).symm)
theorem srt_congr {L M : List It} (hp : M.Perm L) : srt M = srt L := srt_unique ((srt_perm M).trans hp) (srt_sorted M)

theorem item_info : (Try.prog.info? 66).map (fun i => (i.zero, i.size, i.bytes)) = some (some (.agg #[.int .i64 0, .int .i64 0]), 2, 16) := by kernel_rfl

theorem get_bang (L : List It) (k : Nat) (h : k < L.length) : L.toArray[k]! = g L k := by
  rw [getElem!_pos L.toArray k (by simpa using h), g_eq h]; simp

theorem holds_row {lo : Nat} {W : World} {gg cap : Nat} {L : List It} (h : W.ownsRow lo 66 2 (.slice (some ⟨gg, 0, none⟩) L.length cap) L.length (encL L)) : HoldsK encI 2 W gg 0 L.toArray := by
  intro j hj
  rw [size_flatK] at hj
  have hj' : j < L.length * 2 := by simpa using hj
  have h0 : 0 < L.length := by omega
  obtain ⟨gv, c, e, h1, h2, h3, h4, h5, -⟩ := row_cells h rfl h0
  obtain ⟨rfl, rfl⟩ : gg = gv ∧ cap = c := by simpa using e
  have hk : j / 2 < L.length := by omega
  refine ⟨?_, h5 _⟩
  rw [get_flatK _ _ _ _ hj, get_bang L _ hk]
  rcases Nat.mod_two_eq_zero_or_one j with hm | hm
  · rw [hm, show (0 + j) = j / 2 * 2 by omega]
    exact (h4 _ hk).1
  · rw [hm, show (0 + j) = j / 2 * 2 + 1 by omega]
    exact (h4 _ hk).2

theorem only_sort (enc : It → List Value) (k : Nat) (w : World) (blk off m : Nat) (dk : Array It) (os : Array Obj) : Only (fun i => i = blk) w (sortWorldK enc k w blk off m dk os) := by
  refine ⟨rfl, rfl, rfl, size_sortWorldK_c enc k w blk off m dk os, fun i hi hF => ?_⟩
  unfold sortWorldK
  rw [heap_grow_old _ _ (by rw [size_putRowK]; exact hi)]
  unfold putRowK putRow mapBlock
  simp only [Array.getElem?_modify]
  rw [if_neg (fun e => hF e.symm)]
  rfl

theorem itm_agg : ∀ w, (isAgg 66).run Try.prog w = .ok true w := Try.isAgg66
theorem itm_size : ∀ w, (Go.sizeOf 66).run Try.prog w = .ok 2 w := Try.sizeOf66

theorem cmp_lays (bx H blk : Nat) (L : List It) (W : World) (h1 : W.cell? ⟨bx, 0, none⟩ = some (.pointer (some ⟨H, 0, none⟩))) (h2 : W.cell? ⟨H, 1, none⟩ = some (.func (.func 39) #[] #[])) (n1 : bx ≠ blk) (n2 : H ≠ blk) :
    CmpLays Try.prog 31 #[.pointer (some ⟨bx, 0, none⟩)] encI 2 cf blk 0 L.toArray.size W := fun m os dk _ x y =>
  cmp_any bx H x y _ ((cell?_sortWorldK_other encI 2 W blk 0 m dk os ⟨bx, 0, none⟩ n1 (World.block_lt_of_cell? W _ h1)).trans h1) ((cell?_sortWorldK_other encI 2 W blk 0 m dk os ⟨H, 1, none⟩ n2 (World.block_lt_of_cell? W _ h2)).trans h2)

/-- **Sorted**: what the slice holds afterwards. -/
theorem sort_any (lo bx H : Nat) (v : Value) (L : List It) (W : World) (hrow : W.ownsRow lo 66 2 v L.length (encL L)) (hl : (L.length : Int) ≤ 65536)
    (h1 : W.cell? ⟨bx, 0, none⟩ = some (.pointer (some ⟨H, 0, none⟩))) (h2 : W.cell? ⟨H, 1, none⟩ = some (.func (.func 39) #[] #[])) (n1 : v.ownBlock ≠ some bx) (n2 : v.ownBlock ≠ some H) :
    Calls Try.prog 30 #[v, .func (.func 31) #[] #[.pointer (some ⟨bx, 0, none⟩)]] W fun e W' =>
      e = .returned (.tuple #[]) ∧ Items W.heap.size W' v (srt L) ∧ Only (fun i => v.ownBlock = some i) W W' := by
  rcases hrow.2 with ⟨rfl, h0⟩ | ⟨gg, cap, cur, rfl, hlo, hb, -⟩
  · have e : L = [] := List.length_eq_zero_iff.1 h0
    subst e
    refine (AnyF.slices_SortFunc_none Try.sortItem none 0 _ W).mono fun e W' ⟨he, hw⟩ => ?_
    rw [hw]
    exact ⟨he, .inl ⟨rfl, List.length_eq_zero_iff.1 (srt_len [])⟩, Only.refl _ _⟩
  · have hblk : gg < W.heap.size := (Array.getElem?_eq_some_iff.1 hb).1
    have nb : bx ≠ gg := fun e => n1 (by rw [e]; rfl)
    have nh : H ≠ gg := fun e => n2 (by rw [e]; rfl)
    have hH := holds_row hrow
    have hc := AnyQ.slices_SortFunc_total Try.sortItem 2 itm_agg itm_size encI (fun _ => rfl) (fun x v hv => by simp [encI] at hv; rcases hv with rfl | rfl <;> rfl) cf ahd_swo 31 #[.pointer (some ⟨bx, 0, none⟩)] gg 0 cap L.toArray W
      (enters_of Try.func31 (by kernel_rfl) rfl) (cmp_lays bx H gg L W h1 h2 nb nh) hH hblk (by simp; omega) ahd_tot
    rw [show L.toArray.size = L.length by simp] at hc
    refine hc.mono fun e W' ⟨he, m, os, hw⟩ => ?_
    have hw' : W' = sortWorldK encI 2 W gg 0 m (srt L).toArray os := by rw [hw]; rfl
    have hK := holdsK_sortWorldK encI 2 W gg 0 m L.toArray (srt L).toArray os hblk hH (by simp [srt_len])
    rw [← hw'] at hK
    refine ⟨he, .inr ⟨gg, cap, by rw [srt_len], hblk, fun j hj => ?_⟩, ?_⟩
    · have hj' : j < (srt L).toArray.size := by simpa using hj
      have c1 := (hK.cell (i := j) (c := 0) hj' (by omega)).1
      have c2 := (hK.cell (i := j) (c := 1) hj' (by omega)).1
      rw [get_bang _ _ hj, Nat.zero_add] at c1 c2
      exact ⟨c1, c2⟩
    · rw [hw']
      exact (only_sort encI 2 W gg 0 m (srt L).toArray os).mono (fun i _ e => by rw [e]; rfl)

/-- **Cloned.** -/
theorem clone_any (lo : Nat) (v : Value) (L : List It) (W : World) (hrow : W.ownsRow lo 66 2 v L.length (encL L)) (hl : (L.length : Int) ≤ 65536) :
    Calls Try.prog 29 #[v] W fun e W' => ∃ v', e = .returned v' ∧ W'.ownsRow W.heap.size 66 2 v' L.length (encL L) ∧ Below W.heap.size W W' := by
  obtain ⟨i0, hi, hz0, hz1, hz2⟩ := info_parts item_info
  rcases hrow.2 with ⟨rfl, h0⟩ | ⟨gg, cap, cur, rfl, hlo, hb, hcap, hmx, hsz, htk⟩
  · have e : L = [] := List.length_eq_zero_iff.1 h0
    subst e
    refine (AnyE.slices_Clone_nil Try.cloneItem 0 0 W).mono fun e W' ⟨he, hw⟩ => ?_
    rw [hw]
    exact ⟨_, he, World.ownsRow_nil _ _ _ _, Below.refl _ _⟩
  · refine (AnyE.slices_Clone Try.cloneItem i0 (.agg #[.int .i64 0, .int .i64 0]) 2 16 hi hz0 hz1 hz2 rfl (by decide) itm_size gg 0 L.length cap (encL L) W (encL_len L) (by unfold maxLen; omega) (by omega) ?_ ?_).mono fun e W' ⟨v', he, ho, _, hbl⟩ => ⟨v', he, ho, hbl⟩
    · intro j u hj
      rw [Nat.zero_add, cell_of_row W gg j _ _ _ hb]
      have hj2 : j < L.length * 2 := by rw [← encL_len]; exact (List.getElem?_eq_some_iff.1 hj).1
      rw [← htk, List.getElem?_take, if_pos hj2] at hj
      simpa using hj
    · intro u hu
      unfold encL at hu
      obtain ⟨x, -, hx⟩ := List.mem_flatMap.1 hu
      simp [encI] at hx
      rcases hx with rfl | rfl <;> rfl

end Hp
end Go.Proofs.Ytkmgpajodbadmaa
