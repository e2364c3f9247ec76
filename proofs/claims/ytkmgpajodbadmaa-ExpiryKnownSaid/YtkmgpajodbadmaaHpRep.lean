/- slices.Repeat of one number. -/
import Derived.Test.YtkmgpajodbadmaaHpOps
import Derived.Test.YtkmgpajodbadmaaShelf
import Derived.Laws.CopyOwn
namespace Go.Proofs.Ytkmgpajodbadmaa
open Go.RowKit
set_option linter.unusedVariables false
namespace Hp

theorem hpi_info : (Try.prog.info? 3).map (fun i => (i.zero, i.size, i.bytes)) = some (some (.int .i64 0), 1, 8) := by kernel_rfl

/-- Row g of n numbers, of which the first k are -1. -/
def Neg (g n k : Nat) (w : World) : Prop := ∃ cs : List Value, w.heap[g]? = some (.cells cs.toArray 3 (0, 0)) ∧ cs.length = n ∧ ∀ j, j < k → cs[j]? = some (.int .i64 (-1))

theorem splice_neg {cs : List Value} {n k c : Nat} (hl : cs.length = n) (h : ∀ j, j < k → cs[j]? = some (.int .i64 (-1))) (hk : k + c ≤ n) : (splice cs k (List.replicate c (.int .i64 (-1)))).length = n ∧ ∀ j, j < k + c → (splice cs k (List.replicate c (.int .i64 (-1))))[j]? = some (.int .i64 (-1)) := by
  refine ⟨by rw [length_splice _ _ _ (by simp; omega)]; exact hl, fun j hj => ?_⟩
  unfold splice
  by_cases h1 : j < k
  · rw [List.getElem?_append_left (by simp; omega), List.getElem?_take, if_pos h1]; exact h j h1
  · rw [List.getElem?_append_right (by simp; omega), List.getElem?_append_left (by simp; omega), List.getElem?_replicate, if_pos (by simp; omega)]

set_option maxRecDepth 100000 in
set_option maxHeartbeats 4000000 in
theorem repeat_any (xb n : Nat) (h0 : 1 ≤ n) (hn : (n : Int) ≤ 65536) (w : World) (hx : w.cell? ⟨xb, 0, none⟩ = some (.int .i64 (-1))) :
    Calls Try.prog 38 #[.slice (some ⟨xb, 0, none⟩) 1 1, .int .i64 n] w fun e w' => e = .returned (.slice (some ⟨w.heap.size, 0, none⟩) n n) ∧ Neg w.heap.size n n w' ∧ Below w.heap.size w w' := by
  obtain ⟨i0, hi, hz0, hz1, hz2⟩ := info_parts hpi_info
  obtain ⟨w1, hr, hown, hgr⟩ := run_make_full (P := Try.prog) w 0 35 3 i0 (.int .i64 0) 1 Try.underlying35 hi hz0 hz1 .i64 .i64 n (by rw [hz2]; omega) (by unfold maxLen; omega) (Nat.zero_le _)
  have hb1 : Below w.heap.size w w1 := (Below.refl _ _).grown hgr (Nat.le_refl _) (fun k e => by cases e)
  obtain ⟨cs, hcs, hcl⟩ : ∃ cs : List Value, w1.heap[w.heap.size]? = some (.cells cs.toArray 3 (0, 0)) ∧ cs.length = n := by
    rcases hown.2 with ⟨h, _⟩ | ⟨g', c', cur, e, _, h3, _, _, h6, _⟩
    · cases h
    · obtain ⟨rfl, rfl⟩ : w.heap.size = g' ∧ n = c' := by simpa using e
      exact ⟨cur.toList, by simpa using h3, by simpa using h6⟩
  have hx1 : w1.cell? ⟨xb, 0, none⟩ = some (.int .i64 (-1)) := cell_keep hb1 hx
  have hm := Try.bits_Mul 1 n (by omega) (by omega) w
  have e1 : 1 * n / 18446744073709551616 = 0 := by omega
  have e2 : 1 * n % 18446744073709551616 = n := by omega
  rw [e1, e2] at hm
  have HM := Lib.hid (hm.mono (fun e w' h => (⟨h.1, h.2.symm⟩ : _ ∧ w = w')))
  have HB1 := Lib.hid hb1; have HCS := Lib.hid hcs; have HCL := Lib.hid hcl; have HX := Lib.hid hx1
  have hsz : (Try.prog.info? 3).map (·.size) = some 1 := by kernel_rfl
  have b0 : (1 : Int) ≤ (n : Int) := by omega
  have u1 : IntKind.u64.wrap (n : Int) = (n : Int) := IntWalk.u64_in _ (by omega)
  have u2 : IntKind.i64.wrap (n : Int) = (n : Int) := IntWalk.i64_in _ (by omega)
  have f1 : decide ((9223372036854775807 : Int) < (n : Int)) = false := by rw [decide_eq_false_iff_not]; omega
  have f2 : decide ((9223372036854775807 : Nat) < n) = false := by rw [decide_eq_false_iff_not]; omega
  clear hm hb1 hcs hcl hx1 hown hgr e1 e2 hx
  go_enter Try.func38, Try.ntmps38
  go_wp2_with fail
  refine HM.out.mono ?_
  rintro e w2 ⟨rfl, rfl⟩
  have HSRC1 : Hid (∀ j u, [Value.int .i64 (-1)][j]? = some u → w1.cell? ((⟨xb, 0, none⟩ : Addr).add j) = some u) := fun j u hu => by
    cases j with
    | zero => simp at hu; subst hu; simpa [Addr.add] using HX.out
    | succ j => simp at hu
  have hmin : [Value.int .i64 (-1)].length = Nat.min 1 n := by simp only [Nat.min_def, List.length_singleton]; split <;> omega
  have hfit : 0 + [Value.int .i64 (-1)].length ≤ cs.length := by rw [HCL.out]; simp; omega
  have hone : ∀ u ∈ [Value.int .i64 (-1)], u.oneCell' = true := by intro u hu; simp at hu; subst hu; rfl
  go_wp2_with ((with_reducible show wpList _ _ _ _ _ _); refine wpList_copy_splice (o := ⟨some 33, _, _, _, _, _⟩) rfl (.tmp 31) (.tmp 32) 35 35 rfl 3 Try.underlying35 hsz _ _ _ _ _ _ rfl rfl w.heap.size 0 cs 3 HCS.out [.int .i64 (-1)] hmin (fun _ => ⟨rfl, _, rfl, HSRC1.out⟩) hfit hone w.heap.size w HB1.out (Nat.le_refl _) ?_; intro w2 hg2 hb2)
  have HS : Hid (Neg w.heap.size n 1 w2 ∧ Below w.heap.size w w2) := by
    have h := splice_neg (c := 1) (k := 0) HCL.out (fun j hj => absurd hj (Nat.not_lt_zero _)) (by omega)
    exact ⟨⟨_, hg2.out, h.1, fun j hj => h.2 j (by omega)⟩, hb2⟩
  clear hg2 hb2 HCS HCL HX HB1 hr
  go_wp2
  go_loopw [8] (fun i wr => ∃ k : Nat, 1 ≤ k ∧ k ≤ n ∧ i = .int .i64 k ∧ Neg w.heap.size n k wr ∧ Below w.heap.size w wr) (fun i _ => n - (intOf i).toNat)
  case atStart => exact ⟨1, Nat.le_refl _, h0, rfl, HS.out.1, HS.out.2⟩
  case round =>
    obtain ⟨k, hk1, hk, rfl, ⟨cs2, hg, hcl, hneg⟩, hbl⟩ := hrel
    have HG := Lib.hid hg; have HCL := Lib.hid hcl; have HNEG := Lib.hid hneg; have HBL := Lib.hid hbl
    clear hg hcl hneg hbl
    have b1 : (0 : Int) ≤ (k : Int) := by omega
    have b2 : (k : Int) ≤ (n : Int) := by omega
    by_cases h : k < n
    · have b3 : (k : Int) < (n : Int) := by omega
      have HGD : Hid (wr.drew.heap[w.heap.size]? = some (.cells cs2.toArray 3 (0, 0))) := HG.out
      have HCELL : Hid (∀ j, j < k → wr.cell? ⟨w.heap.size, j, none⟩ = some (.int .i64 (-1))) := fun j hj => by
        rw [cell_of_row wr _ j _ _ _ HG.out]; simpa using HNEG.out j hj
      obtain ⟨c, hc⟩ : ∃ c, c = Nat.min k (n - k) := ⟨_, rfl⟩
      have hc1 : c ≤ k := by rw [hc]; exact Nat.min_le_left _ _
      have hc2 : c ≤ n - k := by rw [hc]; exact Nat.min_le_right _ _
      have hc3 : 1 ≤ c := by rw [hc]; simp only [Nat.min_def]; split <;> omega
      have HC := Lib.hid hc
      clear hc
      have HBD : Hid (Below w.heap.size w wr.drew) := HBL.out.drew
      have v1 : IntKind.i64.wrap ((k : Int) + (c : Int)) = (k : Int) + (c : Int) := IntWalk.i64_in _ (by omega)
      have HSRC : Hid (∀ j u, (List.replicate c (Value.int .i64 (-1)))[j]? = some u → wr.drew.cell? ((⟨w.heap.size, 0, none⟩ : Addr).add j) = some u) := fun j u hu => by
        rw [List.getElem?_replicate] at hu
        split at hu
        · cases hu
          rename_i hj
          rw [show (⟨w.heap.size, 0, none⟩ : Addr).add j = ⟨w.heap.size, j, none⟩ by unfold Addr.add; split <;> simp_all]
          exact HCELL.out j (by omega)
        · cases hu
      have hmin2 : (List.replicate c (Value.int .i64 (-1))).length = Nat.min k (n - k) := by rw [List.length_replicate, HC.out]
      have hfit2 : k + (List.replicate c (Value.int .i64 (-1))).length ≤ cs2.length := by rw [HCL.out, List.length_replicate]; omega
      have hone2 : ∀ u ∈ List.replicate c (Value.int .i64 (-1)), u.oneCell' = true := by intro u hu; rw [(List.mem_replicate.1 hu).2]; rfl
      have HM2 := Lib.hid hmin2; have HFIT2 := Lib.hid hfit2; have HONE2 := Lib.hid hone2
      have hne : ¬ n = k := by omega
      clear hmin2 hfit2 hone2
      go_wp2
      go_region_law (first | (refine step_copy_splice rfl (.tmp 41) (.tmp 44) 35 35 (by rfl) 3 Try.underlying35 hsz _ _ _ _ _ _ (by rfl) (by rfl) w.heap.size k cs2 3 HGD.out (List.replicate c (.int .i64 (-1))) HM2.out (fun _ => ⟨rfl, _, rfl, HSRC.out⟩) HFIT2.out HONE2.out w.heap.size w HBD.out (Nat.le_refl _) ?_; intro w4 hg4 hb4))
      have HS4 : Hid (Neg w.heap.size n (k + c) w4) := by
        have h := splice_neg (c := c) HCL.out HNEG.out (by omega)
        exact ⟨_, hg4.out, h.1, h.2⟩
      have hlr : (List.replicate c (Value.int .i64 (-1))).length = c := List.length_replicate
      have HB4 := Lib.hid hb4
      clear hg4 hb4 hne
      go_simp
      go_wp2
      go_roundw
      case rel => exact ⟨k + c, by omega, by omega, by go_num, HS4.out, HB4.out⟩
      case measure => simp [intOf]; omega
    · have b3 : (n : Int) ≤ (k : Int) := by omega
      have hkn : k = n := by omega
      have HR : Hid (Neg w.heap.size n n wr) := by
        refine ⟨cs2, HG.out, HCL.out, fun j hj => HNEG.out j (by omega)⟩
      clear hkn
      go_wp2
      go_ret
      exact ⟨rfl, HR.out, HBL.out⟩

end Hp
end Go.Proofs.Ytkmgpajodbadmaa
