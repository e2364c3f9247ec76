/- The law ExpiryKnown. -/
import Derived.Test.YtkmgpajodbadmaaEkMem
import Derived.Test.YtkmgpajodbadmaaEoWorks
import Derived.Test.YtkmgpajodbadmaaNum
import Derived.Test.YtkmgpajodbadmaaRangeMut
import Derived.Maps.OwnIn
import Derived.Deep.Cut
namespace Go.Proofs.Ytkmgpajodbadmaa
open Go.RowKit Go.Proofs.Ar Go.Shelf
set_option linter.unusedVariables false
namespace Ex
open Hp (It)
attribute [local go_sem] Oper.semAt_some

def S4 : List Ent := [(7, 2, 4), (3, 6, 8), (2, 5, 9)]
theorem s4_inv : Inv S4 := by
  refine ⟨⟨by decide, ?_⟩, by decide⟩
  intro x hx
  simp only [S4, items, itm, List.map_cons, List.map_nil, List.mem_cons, List.not_mem_nil, or_false] at hx
  rcases hx with rfl | rfl | rfl <;> simp

theorem links_at : ∀ (L : List It) (k : Nat) (h : k < L.length), (links L)[k * 2]? = some (.int .i64 L[k].1) ∧ (links L)[k * 2 + 1]? = some (.int .i64 L[k].2)
  | a :: r, 0, _ => ⟨rfl, rfl⟩
  | a :: r, k + 1, h => by
    have ih := links_at r k (by simpa using h)
    have e : links (a :: r) = .int .i64 a.1 :: .int .i64 a.2 :: links r := rfl
    rw [e, show (k + 1) * 2 = k * 2 + 1 + 1 by omega]
    exact ⟨by simpa using ih.1, by simpa using ih.2⟩
theorem links_len (ps : List It) : (links ps).length = ps.length * 2 := by
  induction ps with
  | nil => rfl
  | cons a r ih => simp [links] at ih ⊢; omega
theorem own_pairs {w : World} {base : Nat} {v : Value} {ps : List It} (h : w.ownsRow base 52 2 v ps.length (links ps)) : PairArg w v ps := by
  have hl := links_len ps
  rcases h.2 with ⟨rfl, h0⟩ | ⟨gg, cap, cur, rfl, h3, h4, h5, h6, h7, h8⟩
  · exact ⟨none, 0, by rw [h0], fun j hj => by omega⟩
  · have hc : ∀ j, j < ps.length * 2 → w.cell? ⟨gg, j, none⟩ = (links ps)[j]? := fun j hj => World.ownsRow.cellAt (w := w) ⟨h.1, .inr ⟨gg, cap, cur, rfl, h3, h4, h5, h6, h7, h8⟩⟩ j hj
    refine ⟨_, cap, rfl, fun j hj => ⟨gg, 0, rfl, (Array.getElem?_eq_some_iff.1 h4).1, ?_, ?_⟩⟩
    · rw [Nat.zero_add, ← (links_at ps j hj).1]; exact hc _ (by omega)
    · rw [Nat.zero_add, ← (links_at ps j hj).2]; exact hc _ (by omega)

set_option maxRecDepth 100000 in
set_option maxHeartbeats 8000000 in
theorem known_in (w : World) : CallsIn Fence.wide 8 Try.prog 7 #[] w fun e w' => e = .returned (.bool true) ∧ Below w.heap.size w w' := by
  have HWK := Lib.hid (fun w' => eworks_any w')
  have HNEW := Lib.hid (enew_any w)
  obtain ⟨i0, hi, hz0, hz1, hz2⟩ := info_parts link_info
  refine callsIn_of_wp_marks Try.func7 rfl trivial ?_ rfl
  simp only [Try.ntmps7, List.size_toArray, List.length_nil, Nat.reduceSub, Array.replicate_succ, Array.replicate_zero, List.push_toArray, List.append_toArray, List.nil_append, List.cons_append]
  refine wpIn_wide.2 ?_
  go_wp2_with fail
  refine HNEW.out.mono ?_
  rintro e w1 ⟨E, F1, rfl, hx1, hb1⟩
  have H1 : Hid (KE w.heap.size E w [] [] 0 F1 w1) := ⟨hx1, hb1, ⟨Nat.le_refl _, hb1.size⟩, by simp⟩
  clear hx1 hb1
  go_wp2_with fail
  refine (HWK.out _).mono ?_
  rintro e w2 ⟨rfl, hb2⟩
  have H2 := Lib.hid (H1.out.below hb2)
  clear hb2
  go_wp2_with fail
  refine (ke_next H2.out 0 false rfl rfl).mono ?_
  rintro e w3 ⟨rfl, h3⟩
  have H3 := Lib.hid h3
  clear h3
  go_wp2_with fail
  refine (ke_forget H3.out 3 (by decide) false [] rfl rfl).mono ?_
  rintro e w4 ⟨rfl, F4, h4⟩
  have H4 := Lib.hid h4
  clear h4
  go_wp2_with fail
  refine (ke_set H4.out (by omega) 3 1 9 (by unfold okE; omega) [(3, 1, 9)] rfl).mono ?_
  rintro e w5 ⟨rfl, F5, h5⟩
  have H5 := Lib.hid h5
  clear h5
  go_wp2_with fail
  refine (ke_set H5.out (by omega) 2 5 9 (by unfold okE; omega) [(2, 5, 9), (3, 1, 9)] (by decide)).mono ?_
  rintro e w6 ⟨rfl, F6, h6⟩
  have H6 := Lib.hid h6
  clear h6
  go_wp2_with fail
  refine (ke_set H6.out (by omega) 7 2 4 (by unfold okE; omega) [(7, 2, 4), (2, 5, 9), (3, 1, 9)] (by decide)).mono ?_
  rintro e w7 ⟨rfl, F7, h7⟩
  have H7 := Lib.hid h7
  clear h7
  go_wp2_with fail
  refine (ke_set H7.out (by omega) 3 6 8 (by unfold okE; omega) S4 (by decide)).mono ?_
  rintro e w8 ⟨rfl, F8, h8⟩
  have H8 := Lib.hid h8
  clear h8
  go_wp2_with fail
  refine (ke_next H8.out 4 true rfl rfl).mono ?_
  rintro e w9 ⟨rfl, h9⟩
  have H9 := Lib.hid h9
  clear h9
  have HDU := Lib.hid (fun w' => edue_any E 8 w')
  go_wp2_with fail
  refine (HDU.out _).mono ?_
  rintro e w10 ⟨rfl, hw10⟩
  go_wp2_with fail
  rw [← hw10]
  have hst : KU w.heap.size E w w10 w9.heap.size (w9.heap.size + 1) 8 S4 [] w10 ∧ w10.heap.size = w9.heap.size + 3 := by
    have hb10 : Below w9.heap.size w9 w10 := by rw [hw10]; exact (((Below.refl _ _).alloc (Nat.le_refl _) _).alloc (by simp) _).alloc (by simp; omega) _
    have hs10 : w10.heap.size = w9.heap.size + 3 := by rw [hw10]; simp
    have hl10 : Lies [(w9.heap.size + 1 + 1, .cells #[.int .i64 8] 3 (0, 0)), (w9.heap.size + 1, .cells #[.pointer (some ⟨E, 0, none⟩)] 47 (0, 0)), (w9.heap.size, .cells #[.slice none 0 0] 59 (0, 0))] w10 := by
      have := (((Lies.nil w9).alloc (.cells #[.slice none 0 0] 59)).alloc (.cells #[.pointer (some ⟨E, 0, none⟩)] 47)).alloc (.cells #[.int .i64 8] 3)
      rw [hw10]; simpa using this
    have hx := H9.out.exp
    have hlow := H9.out.low
    have hEl : E < w9.heap.size := by obtain ⟨H, bm, n, D, L, Fh, h1, _⟩ := hx; exact (Array.getElem?_eq_some_iff.1 h1).1
    refine ⟨⟨F8, _, .slice none 0 0, by omega, by simp, ⟨hx.below hb10, fun p hp => ?_, World.ownsRow_nil _ _ _ _, fun j hj hf => ?_, fun b e => by simp [Value.ownBlock] at e, H9.out.bel.trans (hb10.mono H9.out.bel.size), Nat.le_refl _, ⟨fun j hj => by omega, by omega, by omega, by omega, by omega, Nat.le_refl _⟩, by simp, by simp⟩⟩, hs10⟩
    · simp only [List.mem_cons, List.not_mem_nil, or_false] at hp
      rcases hp with rfl | rfl | rfl
      · exact hl10 _ (by simp)
      · exact hl10 _ (by simp)
      · exact hl10 _ (by simp)
    · have := (hx.lt j hf).2; omega
  have HST := Lib.hid hst.1; have HS10 := Lib.hid hst.2
  clear hst hw10
  refine (wpIn_wide (n := 8)).1 ?_
  refine Mu.range_mut_sl (F := Fence.wide) rfl (by decide) (gf := 36) (lb := #[.pointer (some ⟨w9.heap.size + 1, 0, none⟩), .pointer (some ⟨w9.heap.size + 1 + 1, 0, none⟩)]) rfl trivial (enters_of Try.func36 (by kernel_rfl) rfl)
    (due_seq 7 (by omega) w.heap.size E (w9.heap.size + 1) (w9.heap.size + 1 + 1) 8 40) (fun _ => rfl)
    (KU w.heap.size E w w10 w9.heap.size (w9.heap.size + 1) 8 S4) (KM w.heap.size E w w10 w9.heap.size (w9.heap.size + 1) 8 S4) (KM2 w.heap.size E w w10 w9.heap.size (w9.heap.size + 1) 8 S4) (KD w.heap.size E w w10 w9.heap.size (w9.heap.size + 1) 8 S4) (fun _ _ _ => False)
    kU_own kM2_own kD_own (fun _ _ _ _ _ h _ _ => h) (k_step s4_inv) HST.out
    (fun T y b => (T.setIfInBounds 70 (.agg #[.int .i64 y.1, .int .i64 y.2])).setIfInBounds 5 (.pointer (some ⟨b, 0, none⟩))) (fun y W => W.alloc (.cells #[.int .i64 y.1, .int .i64 y.2] 52)) kM_lay ?assign ?body ?done (fun _ _ _ _ _ h _ => h.elim)
  case assign =>
    intro l y W K hK
    gi_wp2
    exact hK
  case body =>
    rintro l pre y b W ⟨⟨F, N, v, hk, hN, hy, hle, hek⟩, hbk, hbl⟩
    simp only at hk hy hle hek hbk hbl
    have y0 : W.cell? ⟨b, 0, none⟩ = some (.int .i64 y.1) := by rw [block_cell hbk]; rfl
    have y1 : W.cell? ⟨b, 1, none⟩ = some (.int .i64 y.2) := by rw [block_cell hbk]; rfl
    obtain ⟨q, r, rfl⟩ := own_any_sh hek.row
    have c0 := block_cell hek.box.head 0
    have c0' : W.cell? ⟨w9.heap.size, 0, none⟩ = some (.slice q pre.length r) := c0
    have hsz := hek.size
    have hs10 := HS10.out
    have hk3 : pre.length < 3 := hk
    have k1 : pre.length + 1 ≤ maxLen := by unfold maxLen; omega
    have k2 : (pre.length + 1) * 16 ≤ 140737488355328 := by omega
    have k3 : w10.heap.size ≤ (W.alloc (.cells #[.int .i64 y.1, .int .i64 y.2] 52)).heap.size := by simp; omega
    have hbW : b < W.heap.size := (Array.getElem?_eq_some_iff.1 hbk).1
    have htbW : w9.heap.size < W.heap.size := by omega
    have HEK := Lib.hid hek; have HNN := Lib.hid hN; have HY := Lib.hid hy; have HLE := Lib.hid hle; have HROW := Lib.hid hek.row
    have HTB := Lib.hid (fun (w5 : World) (hg : (W.alloc (.cells #[.int .i64 y.1, .int .i64 y.2] 52)).grownBy w5 (Value.slice q pre.length r).ownBlock) => (by
      have hne : (Value.slice q pre.length r).ownBlock ≠ some w9.heap.size := fun e => by have := (hek.row.lt _ e).1; omega
      exact (hg.block _ (by simp; omega) (fun e => hne e.symm)).trans ((Below.heap_alloc _ _ _ htbW).trans hek.box.head) : w5.heap[w9.heap.size]? = some (.cells #[.slice q pre.length r] 59 (0, 0))))
    simp only [List.setIfInBounds_toArray, List.set_cons_succ, List.set_cons_zero]
    clear hek hy hle hbk hbl c0 hN
    gi_wp2_with (gi_at_builtin; (refine wpListIn_append_own_at _ rfl _ _ 59 rfl w10.heap.size 52 i0 (.agg #[.int .i64 0, .int .i64 0]) 2 16 Try.underlying59 hi hz0 hz1 hz2 rfl (by decide) _ _ _ rfl (HROW.out.alloc _) ⟨W.heap.size, 0, none⟩ 1 1 [.int .i64 y.1, .int .i64 y.2] rfl rfl (World.news_of_block (Ut.alloc_at _ _)) (by intro u hu; simp only [List.mem_cons, List.not_mem_nil, or_false] at hu; rcases hu with rfl | rfl <;> rfl) k1 k2 k3 ?_); (intro v' w5 hown' hgrow hnil hlie; obtain ⟨q', r', rfl⟩ := own_any_sh hown'; (have o5 := HTB.out w5 hgrow); (have c5 := block_cell o5 0); (have f5 := block_free o5 0); (have hnx := HEK.out.next hk HY.out HLE.out hgrow hown' (ek_lie hlie)); have HNX := Lib.hid hnx; clear hnx o5 hgrow hnil hlie hown'))
    have e : (pre ++ [y]).length = pre.length + 1 := by simp
    exact ⟨HNX.out.2, F, N, _, HNN.out, by rw [e]; exact hk, by rw [e]; exact HNX.out.1⟩
  case done =>
    rintro Dd xs W hDd ⟨F, N, v, hN, hl, hek, hrest⟩ hK
    have hx2 : xs.length = 2 := by
      have h3 : xs.length ≤ 3 := hl
      have h4 : xs.length = 0 ∨ xs.length = 1 ∨ xs.length = 2 ∨ xs.length = 3 := by omega
      have hea := hek.early
      rcases h4 with e | e | e | e
      · rw [e] at hrest; simp [S4] at hrest
      · rw [e] at hrest; simp [S4] at hrest
      · exact e
      · rw [e] at hea
        have := hea (2, 5, 9) (by simp [S4])
        simp at this
    have hxs : xs = [(7, 2), (3, 6)] := by rw [hek.pfx, hx2]; rfl
    subst hxs
    obtain ⟨q, r, rfl⟩ := own_any_sh hek.row
    have hp := hek.place
    have HKE : Hid (KE w.heap.size E w [Dd] [(2, 5, 9)] N F W) := ⟨hek.exp, hek.bel, ⟨hp.2.2.2.2.2, by have := hek.size; omega⟩, fun d hd => by
      rw [List.mem_singleton.1 hd]
      exact ⟨by omega, hK⟩⟩
    have c0 := block_cell hek.box.head 0
    have c0' : W.cell? ⟨w9.heap.size, 0, none⟩ = some (.slice q 2 r) := c0
    obtain ⟨w11, hw11⟩ : ∃ w11, w11 = W.alloc (.cells #[.int .i64 7, .int .i64 2, .int .i64 3, .int .i64 6] 52) := ⟨_, rfl⟩
    have hb11 : Below W.heap.size W w11 := by rw [hw11]; exact (Below.refl _ _).alloc (Nat.le_refl _) _
    have o11 : w11.heap[W.heap.size]? = some (.cells #[.int .i64 7, .int .i64 2, .int .i64 3, .int .i64 6] 52 (0, 0)) := by rw [hw11]; exact Ut.alloc_at _ _
    have hlit : PairArg w11 (.slice (some ⟨W.heap.size, 0, none⟩) 2 2) [(7, 2), (3, 6)] := ⟨_, 2, rfl, fun j hj => ⟨W.heap.size, 0, rfl, (Array.getElem?_eq_some_iff.1 o11).1, by
      have h2 : j = 0 ∨ j = 1 := by have : j < 2 := hj; omega
      rcases h2 with rfl | rfl <;> rw [block_cell o11] <;> rfl, by
      have h2 : j = 0 ∨ j = 1 := by have : j < 2 := hj; omega
      rcases h2 with rfl | rfl <;> rw [block_cell o11] <;> rfl⟩⟩
    have HSL := Lib.hid ((Lk.same_any (.slice q 2 r) (.slice (some ⟨W.heap.size, 0, none⟩) 2 2) [(7, 2), (3, 6)] [(7, 2), (3, 6)] (by simp) (by simp) w11 ((own_pairs hek.row).below hb11) hlit).mono fun e w2 h2 => (⟨by rw [h2.1]; simp, h2.2⟩ : e = .returned (.bool true) ∧ Below w11.heap.size w11 w2))
    have H11 := Lib.hid (HKE.out.below hb11)
    have HN := Lib.hid hN
    have HDd := Lib.hid hDd; have HS := Lib.hid hek.bel.size
    clear hek hrest hK hl hx2 hp c0 hb11 o11 hlit hN hDd
    go_wp2_with fail
    rw [← hw11]
    clear hw11
    refine HSL.out.mono ?_
    rintro e w12 ⟨rfl, hb12⟩
    have H12 := Lib.hid (H11.out.below hb12)
    clear hb12 c0'
    go_wp2_with fail
    refine (ke_next H12.out 9 true rfl rfl).mono ?_
    rintro e w13 ⟨rfl, h13⟩
    have H13 := Lib.hid h13
    clear h13
    go_wp2_with fail
    refine (ke_forget H13.out 2 (by decide) true [] (by decide) (by decide)).mono ?_
    rintro e w14 ⟨rfl, F14, h14⟩
    have H14 := Lib.hid h14
    clear h14
    go_wp2_with fail
    refine (ke_forget H14.out 2 (by decide) false [] rfl rfl).mono ?_
    rintro e w15 ⟨rfl, F15, h15⟩
    have H15 := Lib.hid h15
    clear h15
    go_wp2_with fail
    refine (ke_forget H15.out (-1) (by decide) false [] rfl rfl).mono ?_
    rintro e w16 ⟨rfl, F16, h16⟩
    have H16 := Lib.hid h16
    clear h16
    go_wp2_with fail
    refine (ke_forget H16.out 32 (by decide) false [] rfl rfl).mono ?_
    rintro e w17 ⟨rfl, F17, h17⟩
    have H17 := Lib.hid h17
    clear h17
    go_wp2_with fail
    refine (ke_next H17.out 0 false rfl rfl).mono ?_
    rintro e w18 ⟨rfl, h18⟩
    have H18 := Lib.hid h18
    clear h18
    go_wp2_with fail
    refine (ke_no H18.out 32 1 5 (by unfold okE; omega)).mono ?_
    rintro e w19 ⟨rfl, h19⟩
    have H19 := Lib.hid h19
    clear h19
    go_wp2_with fail
    refine (ke_no H19.out 0 0 5 (by unfold okE; omega)).mono ?_
    rintro e w20 ⟨rfl, h20⟩
    have H20 := Lib.hid h20
    clear h20
    go_wp2_with fail
    refine (ke_no H20.out 0 1 (-1) (by unfold okE; omega)).mono ?_
    rintro e w21 ⟨rfl, h21⟩
    have H21 := Lib.hid h21
    clear h21
    go_wp2_with fail
    refine (ke_no H21.out 0 1 1099511627777 (by unfold okE; omega)).mono ?_
    rintro e w22 ⟨rfl, h22⟩
    have H22 := Lib.hid h22
    clear h22
    go_wp2_with fail
    refine (ke_no H22.out (-1) 1 5 (by unfold okE; omega)).mono ?_
    rintro e w23 ⟨rfl, h23⟩
    have H23 := Lib.hid h23
    clear h23
    go_wp2_with fail
    refine (ke_no H23.out 0 1048577 5 (by unfold okE; omega)).mono ?_
    rintro e w24 ⟨rfl, h24⟩
    have H24 := Lib.hid h24
    clear h24
    go_wp2_with fail
    refine (ke_next H24.out 0 false rfl rfl).mono ?_
    rintro e w25 ⟨rfl, h25⟩
    have H25 := Lib.hid h25
    clear h25
    have HNU := Lib.hid (fun w' => num_errno 1 (by omega) (by omega) w')
    iterate 6 (go_wp2_with fail; refine (HNU.out _).mono ?_; rintro e w' ⟨rfl, rfl⟩)
    go_wp2_with fail
    refine (ke_set H25.out (by have := HN.out; omega) 31 1048576 1099511627776 (by unfold okE; omega) [(31, 1048576, 1099511627776)] rfl).mono ?_
    rintro e w26 ⟨rfl, F26, h26⟩
    have H26 := Lib.hid h26
    clear h26
    go_wp2
    have hk26 := (H26.out.dk Dd (by simp)).2
    refine ⟨by simp, .inl ⟨_, _, rfl, run_takeDeferred hk26, ?_⟩⟩
    exact ⟨_, results_tmp rfl _ _ _, rfl, H26.out.bel.grown (grownBy_putObj' _ Dd (.deferred none)) H26.out.bel.size (fun j e => by cases e; have h1 := HDd.out; have h2 := HS10.out; have h3 := H9.out.bel.size; omega)⟩

end Ex

theorem expiryKnown_walk (w : World) : Calls Try.prog 7 #[] w fun e w' => e = .returned (.bool true) ∧ Below w.heap.size w w' := callsIn_wide.1 (Ex.known_in w)

end Go.Proofs.Ytkmgpajodbadmaa
