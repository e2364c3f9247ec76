/- lineagekit.KeptFullSessions, KeptSessions: a lent list that lies as it was lent. -/
import Derived.Test.YtocoonkachbjaaaVwLent
namespace Go.Proofs.Ytocoonkachbjaaa
open Go.RowKit
set_option linter.unusedVariables false
namespace Vw
theorem fullS_at {ss : List Sess} {k : Nat} (h : k < (ss ++ mks 16).length) : (ss ++ mks 16)[k] = if h2 : k < ss.length then ss[k] else mkS (k - ss.length) := by
  rw [List.getElem_append]
  split
  · rfl
  · simp [mks]

set_option maxHeartbeats 4000000 in
theorem keptFullS_any (v u : Value) (ss : List Sess) (hl : ss.length ≤ 65536) (w : World) (h1 : SessArg w v (ss ++ mks 16)) (h2 : SessArg w u ss) :
    Calls Try.prog 25 #[v, u] w fun e w' => e = .returned (.bool true) ∧ Below w.heap.size w w' := by
  have hlen : (ss ++ mks 16).length = ss.length + 16 := by rw [List.length_append, mks_len]
  obtain ⟨p, cp, rfl, -⟩ := id h1
  obtain ⟨q, cq, rfl, -⟩ := id h2
  have H1 := Lib.hid h1; have H2 := Lib.hid h2
  have HLN := Lib.hid hlen
  rw [hlen] at H1 ⊢
  clear h1 h2 hlen
  have b0 : (ss.length : Int) ≤ 65536 := by omega
  have e0 : (((ss.length + 16 : Nat) : Int) != (ss.length : Int) + 16) = false := by rw [bne_eq_false_iff_eq]; omega
  have b1 : ((ss.length + 16 : Nat) : Int) ≤ 65552 := by omega
  obtain ⟨n, hn⟩ : ∃ n, n = ss.length + 16 := ⟨_, rfl⟩
  have hn2 : ss.length ≤ n := by omega
  have HN := Lib.hid hn
  rw [← hn] at e0 b1 H1 ⊢
  clear hl hn
  go_enter Try.func25, Try.ntmps25
  go_wp2
  go_loopw [5, 6] (fun i _ wr => ∃ k : Nat, k ≤ n ∧ i = .int .i64 k ∧ Below w.heap.size w wr) (fun i _ _ => n - (intOf i).toNat)
  case atStart => exact ⟨0, Nat.zero_le _, rfl, Below.refl _ _⟩
  case round =>
    obtain ⟨k, hk, rfl, hbl⟩ := hrel
    have HBL := Lib.hid hbl
    clear hbl
    have b2 : (0 : Int) ≤ (k : Int) := by omega
    by_cases h : k < n
    · have b3 : (k : Int) < (n : Int) := by omega
      have hk1 : k < (ss ++ mks 16).length := by rw [HLN.out, ← HN.out]; exact h
      obtain ⟨g1, o1, rfl, hg1, k1⟩ := H1.out.at hk1
      obtain ⟨sk, hsk⟩ : ∃ sk, sk = (ss ++ mks 16)[k] := ⟨_, rfl⟩
      rw [← hsk] at k1
      rw [fullS_at hk1] at hsk
      have HR1 : Hid (∀ w', Below w.heap.size w w' → w'.rangeAt g1 (o1 + k * 12) sk.cells) := fun w' hb j x hx => (hb.cell (p := ⟨g1, o1 + k * 12 + j, none⟩) hg1).trans (k1 j x hx)
      have HG1 := Lib.hid hg1
      clear k1 hk1 hg1
      have HSL : Hid (sk.cells.length = 12) := rfl
      have HS1 := Lib.hid sk.one
      by_cases hs : k < ss.length
      · rw [dif_pos hs] at hsk
        obtain ⟨g2, o2, rfl, hg2, k2⟩ := H2.out.at hs
        rw [← hsk] at k2
        have HR2 : Hid (∀ w', Below w.heap.size w w' → w'.rangeAt g2 (o2 + k * 12) sk.cells) := fun w' hb j x hx => (hb.cell (p := ⟨g2, o2 + k * 12 + j, none⟩) hg2).trans (k2 j x hx)
        have b4 : (k : Int) < (ss.length : Int) := by omega
        have hmt := Lib.hid (fun w' => markS_neg ((k : Int) - (ss.length : Int)) (by omega) (by omega) w')
        clear k2 hsk hg2
        go_wp2_with fail
        refine (hmt.out _).mono ?_
        rintro e w2 ⟨t, rfl, hb2⟩
        obtain ⟨cs, hcs⟩ : ∃ cs, cs = (mkT t).cells := ⟨_, rfl⟩
        have HCL : Hid (cs.length = 12) := by show _ = _; rw [hcs]; rfl
        have HC1 : Hid (∀ u ∈ cs, u.oneCell' = true) := by show ∀ _, _; rw [hcs]; exact (mkT t).one
        rw [← hcs]
        have HB2 := Lib.hid (HBL.out.trans (hb2.mono HBL.out.size))
        have hzw : w.heap.size ≤ w2.heap.size := HB2.out.size
        obtain ⟨ck, hck⟩ : ∃ ck, ck = sk.cells := ⟨_, rfl⟩
        have HKL : Hid (ck.length = 12) := by show _ = _; rw [hck]; rfl
        have HK1 : Hid (∀ u ∈ ck, u.oneCell' = true) := by show ∀ _, _; rw [hck]; exact sk.one
        have HRA : Hid ((w2.alloc (.cells cs.toArray 40)).rangeAt g2 (o2 + k * 12) ck) := by show _; rw [hck]; exact HR2.out _ (HB2.out.alloc hzw _)
        have HBA : Hid (Below w.heap.size w (w2.alloc (.cells sk.cells.toArray 40))) := HB2.out.alloc hzw _
        have HQ1 : Hid (∀ w', (∃ n, w' = (w2.alloc (.cells sk.cells.toArray 40)).drewN n) → w'.rangeAt g1 (o1 + k * 12) sk.cells) := by rintro w' ⟨n, rfl⟩ j x hx; rw [World.cell?_drewN]; exact HR1.out _ HBA.out j x hx
        have HQ2 : Hid (∀ w', (∃ n, w' = (w2.alloc (.cells sk.cells.toArray 40)).drewN n) → w'.rangeAt w2.heap.size 0 sk.cells) := by
          rintro w' ⟨n, rfl⟩ j x hx
          rw [World.cell?_drewN, Nat.zero_add, block_cell (Ut.alloc_at _ _)]
          simpa using hx
        have HCK := Lib.hid hck
        clear hb2 hcs hck hs
        go_wp2_with (first
          | (refine Ag.wpList_store_new (by rfl) 40 (.tmp 6) (.tmp 23) (by rfl) cs (by rfl) (by rfl) (by rw [HCL.out]; kernel_rfl) (by rw [HCL.out]; rfl) HC1.out ?_)
          | (refine wpList_load_mid (by rfl) 40 (.tmp 30) (by rfl) _ _ (by rfl) ck _ HRA.out Try.underlying40 rfl (by rw [HKL.out]; kernel_rfl) ?_)
          | (refine Ag.wpList_store_new (by rfl) 40 (.tmp 6) (.tmp 31) (by rfl) ck (by rfl) (by rfl) (by rw [HKL.out]; kernel_rfl) (by rw [List.size_toArray, HCL.out, HKL.out]) HK1.out ?_))
        rw [HCK.out]
        clear HRA
        refine wp_region_quiet_lit (by kernel_rfl) (by kernel_rfl) ?_
        quiet_step (fail)
        quiet_step (fail)
        quiet_step (fail)
        refine wpQuiet_load_mid (by rfl) 40 (.tmp 34) rfl g1 (o1 + k * 12) rfl sk.cells _ HQ1.out Try.underlying40 rfl (by kernel_rfl) ?_
        refine wpQuiet_load_mid (by rfl) 40 (.tmp 6) rfl w2.heap.size 0 rfl sk.cells _ HQ2.out Try.underlying40 rfl (by kernel_rfl) ?_
        refine wpQuiet_value (.bool false) (by rfl) (fun w' _ => exec_neq_sess sk _ (.tmp 35) (.tmp 36) rfl rfl rfl w') ?_
        refine wpQuiet_nil ?_
        rintro _ ⟨nq, rfl⟩
        go_wp2
        go_roundw
        case rel => exact ⟨k + 1, by omega, by go_num, Ut.below_drewN HBA.out _⟩
        case measure => simp [intOf]; omega
      · rw [dif_neg hs] at hsk
        have b4 : (ss.length : Int) ≤ (k : Int) := by omega
        have hkn : k < ss.length + 16 := by rw [← HN.out]; exact h
        have e1 : (k : Int) - (ss.length : Int) = ((k - ss.length : Nat) : Int) := by omega
        have hmt := Lib.hid (fun w' => markS_any (k - ss.length) (by omega) w')
        rw [← e1, ← hsk] at hmt
        clear hsk hkn e1 hs
        go_wp2_with fail
        refine (hmt.out _).mono ?_
        rintro e w2 ⟨rfl, hb2⟩
        have HB2 := Lib.hid (HBL.out.trans (hb2.mono HBL.out.size))
        have hzw : w.heap.size ≤ w2.heap.size := HB2.out.size
        have HBA : Hid (Below w.heap.size w (w2.alloc (.cells sk.cells.toArray 40))) := HB2.out.alloc hzw _
        have HQ1 : Hid (∀ w', (∃ n, w' = (w2.alloc (.cells sk.cells.toArray 40)).drewN n) → w'.rangeAt g1 (o1 + k * 12) sk.cells) := by rintro w' ⟨n, rfl⟩ j x hx; rw [World.cell?_drewN]; exact HR1.out _ HBA.out j x hx
        have HQ2 : Hid (∀ w', (∃ n, w' = (w2.alloc (.cells sk.cells.toArray 40)).drewN n) → w'.rangeAt w2.heap.size 0 sk.cells) := by
          rintro w' ⟨n, rfl⟩ j x hx
          rw [World.cell?_drewN, Nat.zero_add, block_cell (Ut.alloc_at _ _)]
          simpa using hx
        obtain ⟨cs, hcs⟩ : ∃ cs, cs = sk.cells := ⟨_, rfl⟩
        have HCK := Lib.hid hcs
        rw [← hcs] at HSL HS1 ⊢
        clear hb2 hcs
        go_wp2_with (refine Ag.wpList_store_new (by rfl) 40 (.tmp 6) (.tmp 23) (by rfl) cs (by rfl) (by rfl) (by rw [HSL.out]; kernel_rfl) (by rw [HSL.out]; rfl) HS1.out ?_)
        rw [HCK.out]
        refine wp_region_quiet_lit (by kernel_rfl) (by kernel_rfl) ?_
        quiet_step (fail)
        quiet_step (fail)
        quiet_step (fail)
        refine wpQuiet_load_mid (by rfl) 40 (.tmp 34) rfl g1 (o1 + k * 12) rfl sk.cells _ HQ1.out Try.underlying40 rfl (by kernel_rfl) ?_
        refine wpQuiet_load_mid (by rfl) 40 (.tmp 6) rfl w2.heap.size 0 rfl sk.cells _ HQ2.out Try.underlying40 rfl (by kernel_rfl) ?_
        refine wpQuiet_value (.bool false) (by rfl) (fun w' _ => exec_neq_sess sk _ (.tmp 35) (.tmp 36) rfl rfl rfl w') ?_
        refine wpQuiet_nil ?_
        rintro _ ⟨nq, rfl⟩
        go_wp2
        go_roundw
        case rel => exact ⟨k + 1, by omega, by go_num, Ut.below_drewN HBA.out _⟩
        case measure => simp [intOf]; omega
    · have b3 : (n : Int) ≤ (k : Int) := by omega
      go_wp2
      go_ret
      exact ⟨rfl, HBL.out⟩

set_option maxHeartbeats 2000000 in
theorem keptS_any (base g c : Nat) (u : Value) (ss : List Sess) (hl : ss.length ≤ 65536) (w : World) (h1 : LentS base g c ss w) (hc : ss.length + 16 ≤ c) (h2 : SessArg w u ss) :
    Calls Try.prog 9 #[.slice (some ⟨g, 0, none⟩) ss.length c, u] w fun e w' => e = .returned (.bool true) ∧ Below w.heap.size w w' := by
  have HF := Lib.hid (keptFullS_any (.slice (some ⟨g, 0, none⟩) (ss.length + 16) c) u ss hl w h1.whole h2)
  obtain ⟨q, cq, rfl, -⟩ := h2
  have b0 : (ss.length : Int) ≤ 65536 := by omega
  have e0 : ((ss.length : Int) != (ss.length : Int)) = false := by simp
  have c0 : (0 : Int) ≤ (ss.length : Int) + 16 := by omega
  have c1 : (ss.length : Int) + 16 ≤ (c : Int) := by omega
  have e1 : ((ss.length : Int) + 16).toNat = ss.length + 16 := by omega
  clear hl h1
  go_enter Try.func9, Try.ntmps9
  go_wp2_with fail
  refine HF.out.mono ?_
  rintro e w1 ⟨rfl, hb⟩
  go_wp2
  go_ret
  exact ⟨rfl, hb⟩
end Vw
end Go.Proofs.Ytocoonkachbjaaa
