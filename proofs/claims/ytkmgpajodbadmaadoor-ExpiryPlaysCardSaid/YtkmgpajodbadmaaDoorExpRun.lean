/- An expiry: the law's due, which goes over what is due. -/
import Derived.Test.YtkmgpajodbadmaaDoorExpDueMem
import Derived.Test.YtkmgpajodbadmaaDoorErrs2
import Derived.Test.YtkmgpajodbadmaaDoorRoundHeld
import Derived.Shelf.RegionOpen
namespace Go.Proofs.YtkmgpajodbadmaaDoor
open Go.RowKit
set_option linter.unusedVariables false
namespace Ex
open Hp (It)

attribute [local go_sem] Oper.semAt_some

def DuePost (lo E r N0 : Nat) (F0 : Nat → Prop) (w : World) (e : Ending) (w' : World) : Prop :=
  e = .returned (.bool true) ∧ ∃ S F v N, EBoth lo E r N S S F v w' ∧ N ≤ N0 + 1 ∧ Only (fun k => F0 k ∨ k = r) w w' ∧ ∀ k, F k → F0 k ∨ w.heap.size ≤ k

theorem due_end {lo E r N0 c : Nat} {F0 : Nat → Prop} {x : Act5} {most : Int} {put : Bool} {w w1 : World} {n : Int} {S : List Ent} {F : Nat → Prop} {v : Value} {N : Nat} {W : World} (h : DueAt lo E r N0 c F0 x most put w w1 n true S S F v N W) (hN : N ≤ N0 + 1) {d : Nat} (hd : w1.heap.size ≤ d) (hk : W.heap[d]? = some (.deferred (some []))) (o : Obj) :
    (W.putObj d o).cell? ⟨w.heap.size + 1 + 1 + 1 + 1 + 1, 0, none⟩ = some (.bool true) ∧ DuePost lo E r N0 F0 w (.returned (.bool true)) (W.putObj d o) := by
  have h2 := h.turned (grownBy_putObj' W d o) (fun k e => by cases e; exact ⟨hd, _, hk, rfl⟩)
  obtain ⟨q0, q1, q2, q3, q4, q5, q6⟩ := h2.box.cells
  exact ⟨q5, rfl, S, F, v, N, h2.both, hN, h2.only, fun k hk => by
    rcases h2.new k hk with e | e
    · exact .inl e
    · have := h2.place; right; omega⟩

set_option maxRecDepth 100000 in
set_option maxHeartbeats 8000000 in
theorem due_in (lo E r N0 : Nat) (S0 : List Ent) (F0 : Nat → Prop) (v0 : Value) (w : World) (h : EBoth lo E r N0 S0 S0 F0 v0 w) (hlo : lo ≤ w.heap.size) (hN : N0 ≤ 1099511627775) (hg : erHandle w) (hgl : 0 < lo) (x : Act5) (most : Int) (hm : 1 ≤ most ∧ most ≤ 1000) (put : Bool) :
    CallsIn Fence.wide 8 Tryd.prog 51 #[.pointer (some ⟨E, 0, none⟩), .pointer (some ⟨r, 0, none⟩), .agg #[.int .i64 x.1, .int .i64 x.2.1, .int .i64 x.2.2.1, .int .i64 x.2.2.2.1, .int .i64 x.2.2.2.2], .int .i64 most, .bool put] w (DuePost lo E r N0 F0 w) := by
  have HD := Lib.hid (fun w' => edue_any E x.2.1 w')
  have HB0 := Lib.hid h; have HLO := Lib.hid hlo; have HN := Lib.hid hN
  have HG2 := Lib.hid (fun (w' : World) (ho : Only (fun k => F0 k ∨ k = r) w w') => (by
    have e : w'.cell? ⟨0, 0, none⟩ = w.cell? ⟨0, 0, none⟩ := ho.cell (p := ⟨0, 0, none⟩) hg.lt (fun hf => by
      rcases hf with hf | hf
      · have h1 : lo ≤ 0 := (h.exp.lt _ hf).1; omega
      · have h1 := h.ref.loR; have h2 : 0 = r := hf; omega)
    exact e.trans hg : erHandle w'))
  have HM := Lib.hid hm
  clear h hlo hN hg hgl hm
  have hfn := fun (a b : Nat) (w : World) => (by kernel_rfl : (binOp .eql 130 (.func (.func 85) #[] #[.pointer (some ⟨a, 0, none⟩), .pointer (some ⟨b, 0, none⟩)]) .nilFunc).run Tryd.prog w = .ok (.bool false) w)
  refine callsIn_of_wp_marks Tryd.func51 rfl trivial ?_ rfl
  simp only [Tryd.ntmps51, List.size_toArray, List.length_cons, List.length_nil, Nat.reduceAdd, Nat.reduceSub, Array.replicate_succ, Array.replicate_zero, List.push_toArray, List.append_toArray, List.nil_append, List.cons_append]
  gi_wp2_with fail
  refine ⟨trivial, (callsIn_wide.2 (HD.out _)).mono ?_⟩
  rintro e w2 ⟨rfl, rfl⟩
  gi_wp2_with fail
  refine ⟨trivial, (callsIn_wide.2 (HD.out _)).mono ?_⟩
  rintro e w2 ⟨rfl, rfl⟩
  gi_wp2_with fail
  change Code.wpIn _ _ _ _ _ _ (dueW w E r x most put)
  obtain ⟨hst, hbst, hsz⟩ := due_start (N0 := N0) HB0.out HLO.out x most put
  generalize dueW w E r x most put = w1 at hst hbst hsz ⊢
  have HST := Lib.hid hst; have HBST := Lib.hid hbst; have HSZ := Lib.hid hsz
  clear hst hbst hsz hfn
  refine Mu.range_mut (F := Fence.wide) rfl (by decide) (gf := 85) (lb := #[.pointer (some ⟨w.heap.size + 1 + 1 + 1 + 1 + 1 + 1 + 1 + 1 + 1, 0, none⟩), .pointer (some ⟨w.heap.size + 1 + 1 + 1 + 1 + 1 + 1 + 1 + 1 + 1 + 1, 0, none⟩)]) rfl trivial (enters_of Tryd.func85 (by kernel_rfl) rfl)
    (due_seq 7 (by omega) lo E (w.heap.size + 9) (w.heap.size + 10) x.2.1 40) (fun _ => rfl)
    (DueU lo E r N0 (w.heap.size + 9) F0 x most put w w1) (DueM lo E r N0 (w.heap.size + 9) F0 x most put w w1) (DueM2 lo E r N0 (w.heap.size + 9) F0 x most put w w1) (DueD lo E r N0 (w.heap.size + 9) F0 x most put w w1) (DueX lo E r N0 (w.heap.size + 9) F0 x most put w w1)
    dueU_own dueM2_own dueD_own dueX_own due_step HST.out
    (fun y b => { tmps := #[.pointer (some ⟨E, 0, none⟩), .pointer (some ⟨r, 0, none⟩), .agg #[.int .i64 x.1, .int .i64 x.2.1, .int .i64 x.2.2.1, .int .i64 x.2.2.2.1, .int .i64 x.2.2.2.2], .int .i64 most, .bool put, .pointer (some ⟨w.heap.size, 0, none⟩), .pointer (some ⟨w.heap.size + 1, 0, none⟩), .pointer (some ⟨w.heap.size + 1 + 1, 0, none⟩), .pointer (some ⟨w.heap.size + 1 + 1 + 1, 0, none⟩), .pointer (some ⟨w.heap.size + 1 + 1 + 1 + 1, 0, none⟩), .pointer (some ⟨w.heap.size + 1 + 1 + 1 + 1 + 1, 0, none⟩), .pointer (some ⟨w.heap.size + 1 + 1 + 1 + 1 + 1 + 1, 0, none⟩), .pointer (some ⟨b, 0, none⟩), undef, undef, undef, undef, .pointer (some ⟨E, 0, none⟩), .pointer (some ⟨w.heap.size + 1 + 1, 1, none⟩), .int .i64 x.2.1, .func (.func 85) #[] #[.pointer (some ⟨w.heap.size + 1 + 1 + 1 + 1 + 1 + 1 + 1, 0, none⟩), .pointer (some ⟨w.heap.size + 1 + 1 + 1 + 1 + 1 + 1 + 1 + 1, 0, none⟩)], .bool false, .pointer (some ⟨E, 0, none⟩), .pointer (some ⟨w.heap.size + 1 + 1, 1, none⟩), .int .i64 x.2.1, .func (.func 85) #[] #[.pointer (some ⟨w.heap.size + 1 + 1 + 1 + 1 + 1 + 1 + 1 + 1 + 1, 0, none⟩), .pointer (some ⟨w.heap.size + 1 + 1 + 1 + 1 + 1 + 1 + 1 + 1 + 1 + 1, 0, none⟩)], .agg #[.int .i64 y.1, .int .i64 y.2], undef, undef, undef, undef, undef, undef, undef, undef, undef, undef, undef, undef, undef, undef, undef, undef, undef, undef, undef, undef, undef, undef, undef, undef, undef, undef, undef, undef, undef, undef, undef, undef, undef, undef, undef, undef, undef, undef, undef, undef, undef, undef, undef, undef, undef, undef, undef, undef, undef], defers := [] }) (fun y W => W.alloc (.cells #[.int .i64 y.1, .int .i64 y.2] 59)) dueM_lay ?assign ?body ?done ?stop
  case assign =>
    intro l y W K hK
    gi_wp2
    exact hK
  case body =>
    rintro l pre y b W ⟨at_, t, F, v, N, hda, hat, hwo, htl, hpre, hNN, hN0, hbk, hbl⟩
    obtain ⟨q0, q1, q2, q3, q4, q5, q6, q7, q8, q9, q10, q11⟩ := hda.box.cells
    have y0 : W.cell? ⟨b, 0, none⟩ = some (.int .i64 y.1) := by rw [row_cell hbk]; rfl
    have y1 : W.cell? ⟨b, 1, none⟩ = some (.int .i64 y.2) := by rw [row_cell hbk]; rfl
    have hpl := hda.place
    have hbW : b < W.heap.size := (Array.getElem?_eq_some_iff.1 hbk).1
    have hbr : b ≠ r := by have h1 : w1.heap.size ≤ b := hbl; omega
    have HRD := Lib.hid (rdue_yes lo r (y.1, y.2, at_) t v W hda.both.ref (by simp; omega) (by have := hda.size; omega) x.2.1 hat)
    have HDA := Lib.hid hda; have HWO := Lib.hid hwo; have HTL := Lib.hid htl; have HPRE := Lib.hid hpre; have HNN := Lib.hid hNN; have HN0 := Lib.hid hN0; have HPL := Lib.hid hpl; have HBR := Lib.hid hbr; have HBW := Lib.hid hbW
    have HY0 := Lib.hid y0; have HY1 := Lib.hid y1
    clear hda hwo htl hpre hNN hN0 hpl hbr hbW hbk hbl hat y0 y1 q0 q3 q4 q5 q6 q7 q8 q9 q10 q11
    gi_wp2_with fail
    refine ⟨trivial, (CallsIn.inRound _ (callsIn_wide.2 HRD.out)).mono ?_⟩
    rintro e w3 ⟨rfl, v3, hr3, ho3, hn3⟩
    have hd3 := (HDA.out.refs hr3 ho3 hn3).eq rfl HWO.out
    have y03 : w3.cell? ⟨b, 0, none⟩ = some (.int .i64 y.1) := (ho3.cell (p := ⟨b, 0, none⟩) HBW.out HBR.out).trans HY0.out
    have y13 : w3.cell? ⟨b, 1, none⟩ = some (.int .i64 y.2) := (ho3.cell (p := ⟨b, 1, none⟩) HBW.out HBR.out).trans HY1.out
    have hk3 := keeps_ref (B := w1.heap.size) HDA.out.both.ref ho3
    have HD3 := Lib.hid hd3; have HK3 := Lib.hid hk3
    obtain ⟨q0, q1, q2, q3, q4, q5, q6, q7, q8, q9, q10, q11⟩ := hd3.box.cells
    have HQ := Lib.hid hd3.box.cells
    clear hr3 ho3 hn3 hd3 hk3
    obtain ⟨w4, hw4⟩ : ∃ w4, w4 = w3.alloc (.cells #[.int .i64 y.1, .int .i64 y.2] 59) := ⟨_, rfl⟩
    have hb4 : Below w3.heap.size w3 w4 := by rw [hw4]; exact (Below.refl _ _).alloc (Nat.le_refl _) _
    have HD4 := Lib.hid (HD3.out.below hb4)
    have HK4 := Lib.hid (HK3.out.trans (keeps_below hb4))
    have hb3 : b < w3.heap.size := World.block_lt_of_cell? w3 _ y03
    have y04 : w4.cell? ⟨b, 0, none⟩ = some (.int .i64 y.1) := (hb4.cell (p := ⟨b, 0, none⟩) hb3).trans y03
    have y14 : w4.cell? ⟨b, 1, none⟩ = some (.int .i64 y.2) := (hb4.cell (p := ⟨b, 1, none⟩) hb3).trans y13
    rw [hw4] at y04 y14
    clear hb4 y03 y13 q0 q1 q2 q3 q4 q5 q6 q7 q8 q9 q10 q11 HQ hb3
    obtain ⟨q0, q1, q2, q3, q4, q5, q6, q7, q8, q9, q10, q11⟩ := HD4.out.box.cells
    have HQ := Lib.hid HD4.out.box.cells
    gi_wp2_with fail
    rw [← hw4]
    have HW4 := Lib.hid hw4
    clear y04 y14 hw4
    have hpt : pre.length + t.length ≤ 32 := by
      rcases HPRE.out with e | e
      · have := HTL.out
        rw [e]; simp; omega
      · exact e
    have HPT := Lib.hid hpt
    clear hpt
    cases put with
    | false =>
      have HND := Lib.hid (due_next (y := y) (HD4.out.below (Below.drew (Below.refl _ _))) (HK4.out.trans ((KeepsOthers.drew _).from _)) HPT.out HNN.out)
      clear q0 q1 q2 q3 q5 q6 q7 q8 q9 q10 q11
      refine Mu.region_round (S := fun w' => w'.cell? ⟨w.heap.size + 1 + 1 + 1 + 1, 0, none⟩ = some (.bool false)) (by kernel_rfl) ?_ ?_ ?_ (fun hHeld => ?_)
      · rintro ⟨a, w', h⟩; exact h
      · intro o ho c hc; simp at ho; rcases ho with rfl | rfl | rfl | rfl | rfl | rfl | rfl | rfl | rfl | rfl | rfl | rfl | rfl | rfl | rfl | rfl | rfl | rfl | rfl | rfl | rfl <;> cases hc
      · exact q4
      refine Mu.take_some (i := 0) (k := 41) (v := ?_) rfl rfl (by kernel_rfl) (by kernel_rfl) (by kernel_rfl) (fun _ _ _ h => h) (Or.inl ⟨by rfl, ?_⟩) (by assumption) ?_
      rotate_left
      · intro wq hSw; (try dsimp only at hSw); go_simp; (try with_reducible rfl)
      simp only [List.set_cons_succ, List.set_cons_zero]
      refine Mu.take_some (i := 1) (k := 42) (v := ?_) rfl rfl (by kernel_rfl) (by kernel_rfl) (by kernel_rfl) (fun _ _ _ h => h) (Or.inl ⟨by rfl, ?_⟩) (by assumption) ?_
      rotate_left
      · intro wq hSw; (try dsimp only at hSw); go_simp; (try with_reducible rfl)
      simp only [List.set_cons_succ, List.set_cons_zero]
      refine Mu.take_some (i := 2) (k := 43) (v := undef) rfl rfl (by kernel_rfl) (by kernel_rfl) (by kernel_rfl) (fun _ _ _ h => h) (Or.inr ⟨by rfl, rfl⟩) (by assumption) ?_
      simp only [List.set_cons_succ, List.set_cons_zero]
      refine Mu.take_some (i := 3) (k := 44) (v := undef) rfl rfl (by kernel_rfl) (by kernel_rfl) (by kernel_rfl) (fun _ _ _ h => h) (Or.inr ⟨by rfl, rfl⟩) (by assumption) ?_
      simp only [List.set_cons_succ, List.set_cons_zero]
      refine Mu.take_some (i := 4) (k := 45) (v := ?_) rfl rfl (by kernel_rfl) (by kernel_rfl) (by kernel_rfl) (fun _ _ _ h => h) (Or.inl ⟨by rfl, ?_⟩) (by assumption) ?_
      rotate_left
      · intro wq hSw; (try dsimp only at hSw); go_simp; (try with_reducible rfl)
      simp only [List.set_cons_succ, List.set_cons_zero]
      refine Mu.take_some (i := 5) (k := 46) (v := ?_) rfl rfl (by kernel_rfl) (by kernel_rfl) (by kernel_rfl) (fun _ _ _ h => h) (Or.inl ⟨by rfl, ?_⟩) (by assumption) ?_
      rotate_left
      · intro wq hSw; (try dsimp only at hSw); go_simp; (try with_reducible rfl)
      simp only [List.set_cons_succ, List.set_cons_zero]
      refine Mu.take_some (i := 6) (k := 47) (v := undef) rfl rfl (by kernel_rfl) (by kernel_rfl) (by kernel_rfl) (fun _ _ _ h => h) (Or.inr ⟨by rfl, rfl⟩) (by assumption) ?_
      simp only [List.set_cons_succ, List.set_cons_zero]
      refine Mu.take_some (i := 7) (k := 48) (v := undef) rfl rfl (by kernel_rfl) (by kernel_rfl) (by kernel_rfl) (fun _ _ _ h => h) (Or.inr ⟨by rfl, rfl⟩) (by assumption) ?_
      simp only [List.set_cons_succ, List.set_cons_zero]
      refine Mu.take_some (i := 8) (k := 49) (v := undef) rfl rfl (by kernel_rfl) (by kernel_rfl) (by kernel_rfl) (fun _ _ _ h => h) (Or.inr ⟨by rfl, rfl⟩) (by assumption) ?_
      simp only [List.set_cons_succ, List.set_cons_zero]
      refine Mu.take_some (i := 9) (k := 50) (v := undef) rfl rfl (by kernel_rfl) (by kernel_rfl) (by kernel_rfl) (fun _ _ _ h => h) (Or.inr ⟨by rfl, rfl⟩) (by assumption) ?_
      simp only [List.set_cons_succ, List.set_cons_zero]
      refine Mu.take_some (i := 10) (k := 51) (v := undef) rfl rfl (by kernel_rfl) (by kernel_rfl) (by kernel_rfl) (fun _ _ _ h => h) (Or.inr ⟨by rfl, rfl⟩) (by assumption) ?_
      simp only [List.set_cons_succ, List.set_cons_zero]
      refine Mu.take_some (i := 11) (k := 52) (v := undef) rfl rfl (by kernel_rfl) (by kernel_rfl) (by kernel_rfl) (fun _ _ _ h => h) (Or.inr ⟨by rfl, rfl⟩) (by assumption) ?_
      simp only [List.set_cons_succ, List.set_cons_zero]
      refine Mu.take_some (i := 12) (k := 53) (v := undef) rfl rfl (by kernel_rfl) (by kernel_rfl) (by kernel_rfl) (fun _ _ _ h => h) (Or.inr ⟨by rfl, rfl⟩) (by assumption) ?_
      simp only [List.set_cons_succ, List.set_cons_zero]
      refine Mu.take_some (i := 13) (k := 54) (v := undef) rfl rfl (by kernel_rfl) (by kernel_rfl) (by kernel_rfl) (fun _ _ _ h => h) (Or.inr ⟨by rfl, rfl⟩) (by assumption) ?_
      simp only [List.set_cons_succ, List.set_cons_zero]
      refine Mu.take_some (i := 14) (k := 55) (v := undef) rfl rfl (by kernel_rfl) (by kernel_rfl) (by kernel_rfl) (fun _ _ _ h => h) (Or.inr ⟨by rfl, rfl⟩) (by assumption) ?_
      simp only [List.set_cons_succ, List.set_cons_zero]
      refine Mu.take_some (i := 15) (k := 56) (v := undef) rfl rfl (by kernel_rfl) (by kernel_rfl) (by kernel_rfl) (fun _ _ _ h => h) (Or.inr ⟨by rfl, rfl⟩) (by assumption) ?_
      simp only [List.set_cons_succ, List.set_cons_zero]
      refine Mu.take_some (i := 16) (k := 57) (v := undef) rfl rfl (by kernel_rfl) (by kernel_rfl) (by kernel_rfl) (fun _ _ _ h => h) (Or.inr ⟨by rfl, rfl⟩) (by assumption) ?_
      simp only [List.set_cons_succ, List.set_cons_zero]
      refine Mu.take_some (i := 17) (k := 58) (v := undef) rfl rfl (by kernel_rfl) (by kernel_rfl) (by kernel_rfl) (fun _ _ _ h => h) (Or.inr ⟨by rfl, rfl⟩) (by assumption) ?_
      simp only [List.set_cons_succ, List.set_cons_zero]
      refine Mu.take_some (i := 18) (k := 59) (v := undef) rfl rfl (by kernel_rfl) (by kernel_rfl) (by kernel_rfl) (fun _ _ _ h => h) (Or.inr ⟨by rfl, rfl⟩) (by assumption) ?_
      simp only [List.set_cons_succ, List.set_cons_zero]
      refine Mu.take_some (i := 19) (k := 60) (v := undef) rfl rfl (by kernel_rfl) (by kernel_rfl) (by kernel_rfl) (fun _ _ _ h => h) (Or.inr ⟨by rfl, rfl⟩) (by assumption) ?_
      simp only [List.set_cons_succ, List.set_cons_zero]
      refine Mu.take_some (i := 20) (k := 61) (v := ?_) rfl rfl (by kernel_rfl) (by kernel_rfl) (by kernel_rfl) (fun _ _ _ h => h) (Or.inl ⟨by rfl, ?_⟩) (by assumption) ?_
      rotate_left
      · intro wq hSw; (try dsimp only at hSw); go_simp; (try with_reducible rfl)
      simp only [List.set_cons_succ, List.set_cons_zero]
      refine wpAnyH_done (by kernel_rfl) ?_ _
      obtain ⟨q0, q1, q2, q3, q4, q5, q6, q7, q8, q9, q10, q11⟩ := HQ.out
      have hpl2 : (pre.length : Int) ≤ 33 := by
        rcases HPRE.out with e | e
        · rw [e]; simp
        · omega
      by_cases hmo : most ≤ (pre.length : Int) + 1
      · clear hHeld q0 q1 q2 q4 q9 q10 q11
        gi_wp2
        exact HND.out.2
      · have hmo2 : (pre.length : Int) + 1 < most := by omega
        clear hHeld q0 q1 q2 q4 q9 q10 q11 hmo
        gi_wp2
        exact HND.out.1
    | true =>
      by_cases hp : pre = []
      · subst hp
        have HD4D := Lib.hid (HD4.out.below (Below.drew (Below.refl _ _)))
        have HK4D := Lib.hid (HK4.out.trans ((KeepsOthers.drew w4).from _))
        have HHE := Lib.hid HD4D.out.box.held
        have hlo4 : lo ≤ w4.drew.heap.size := by have := HPL.out; have := HD4D.out.size; omega
        have HL4 := Lib.hid hlo4
        have HNZ : Hid (N = N0) := HN0.out rfl
        clear q0 q1 q2 q3 q4 q5 q6 q7 q8 q9 q10 q11 hlo4
        by_cases hok : okE x.2.2.2.1 x.2.2.2.2 x.2.2.1
        · have HSE := Lib.hid (eset_ok lo E N t F w4.drew HD4D.out.both.exp HL4.out (by have := HN.out; have := HNZ.out; omega) x.2.2.2.1 x.2.2.2.2 x.2.2.1 hok)
          have HRS := Lib.hid (fun (w' : World) (hr : RefE lo r t v3 w') (hlo : lo ≤ w'.heap.size) => rset_ok lo r t v3 w' hr (by have := HTL.out; omega) hlo x.2.2.2.1 x.2.2.2.2 x.2.2.1 hok)
          have HPN := Lib.hid (fun (w' : World) => (plain_nil 0 w').mono fun e w2 h2 => (h2 : e = .returned (.bool true) ∧ Below w'.heap.size w' w2))
          clear hok
          refine Mu.region_round (S := fun w' => w'.cell? ⟨w.heap.size + 1 + 1 + 1 + 1, 0, none⟩ = some (.bool true) ∧ w'.cell? ⟨w.heap.size + 1 + 1 + 1 + 1 + 1 + 1, 0, none⟩ = some (.int .i64 0) ∧ w'.cell? ⟨w.heap.size, 0, none⟩ = some (.pointer (some ⟨E, 0, none⟩)) ∧ w'.cell? ⟨w.heap.size + 1, 0, none⟩ = some (.pointer (some ⟨r, 0, none⟩)) ∧ w'.cell? ⟨w.heap.size + 1 + 1, 3, none⟩ = some (.int .i64 x.2.2.2.1) ∧ w'.cell? ⟨w.heap.size + 1 + 1, 4, none⟩ = some (.int .i64 x.2.2.2.2) ∧ w'.cell? ⟨w.heap.size + 1 + 1, 2, none⟩ = some (.int .i64 x.2.2.1)) (by kernel_rfl) ?_ ?_ ?_ (fun hHeld => ?_)
          · rintro ⟨a, w', h⟩; exact h
          · intro o ho c hc; simp at ho; rcases ho with rfl | rfl | rfl | rfl | rfl | rfl | rfl | rfl | rfl | rfl | rfl | rfl | rfl | rfl | rfl | rfl | rfl | rfl | rfl | rfl | rfl <;> cases hc
          · exact HHE.out
          refine Mu.take_some (i := 0) (k := 41) (v := ?_) rfl rfl (by kernel_rfl) (by kernel_rfl) (by kernel_rfl) (fun _ _ _ h => h) (Or.inl ⟨by rfl, ?_⟩) (by assumption) ?_
          rotate_left
          · intro wq hSw; (try dsimp only at hSw); go_simp; (try with_reducible rfl)
          simp only [List.set_cons_succ, List.set_cons_zero]
          refine Mu.take_some (i := 1) (k := 42) (v := ?_) rfl rfl (by kernel_rfl) (by kernel_rfl) (by kernel_rfl) (fun _ _ _ h => h) (Or.inl ⟨by rfl, ?_⟩) (by assumption) ?_
          rotate_left
          · intro wq hSw; (try dsimp only at hSw); go_simp; (try with_reducible rfl)
          simp only [List.set_cons_succ, List.set_cons_zero]
          refine Mu.take_some (i := 2) (k := 43) (v := ?_) rfl rfl (by kernel_rfl) (by kernel_rfl) (by kernel_rfl) (fun _ _ _ h => h) (Or.inl ⟨by rfl, ?_⟩) (by assumption) ?_
          rotate_left
          · intro wq hSw; (try dsimp only at hSw); go_simp; (try with_reducible rfl)
          simp only [List.set_cons_succ, List.set_cons_zero]
          refine Mu.take_some (i := 3) (k := 44) (v := ?_) rfl rfl (by kernel_rfl) (by kernel_rfl) (by kernel_rfl) (fun _ _ _ h => h) (Or.inl ⟨by rfl, ?_⟩) (by assumption) ?_
          rotate_left
          · intro wq hSw; (try dsimp only at hSw); go_simp; (try with_reducible rfl)
          simp only [List.set_cons_succ, List.set_cons_zero]
          refine Mu.take_some (i := 4) (k := 45) (v := ?_) rfl rfl (by kernel_rfl) (by kernel_rfl) (by kernel_rfl) (fun _ _ _ h => h) (Or.inl ⟨by rfl, ?_⟩) (by assumption) ?_
          rotate_left
          · intro wq hSw; (try dsimp only at hSw); go_simp; (try with_reducible rfl)
          simp only [List.set_cons_succ, List.set_cons_zero]
          refine Mu.take_some (i := 5) (k := 46) (v := ?_) rfl rfl (by kernel_rfl) (by kernel_rfl) (by kernel_rfl) (fun _ _ _ h => h) (Or.inl ⟨by rfl, ?_⟩) (by assumption) ?_
          rotate_left
          · intro wq hSw; (try dsimp only at hSw); go_simp; (try with_reducible rfl)
          simp only [List.set_cons_succ, List.set_cons_zero]
          refine Mu.take_some (i := 6) (k := 47) (v := ?_) rfl rfl (by kernel_rfl) (by kernel_rfl) (by kernel_rfl) (fun _ _ _ h => h) (Or.inl ⟨by rfl, ?_⟩) (by assumption) ?_
          rotate_left
          · intro wq hSw; (try dsimp only at hSw); go_simp; (try with_reducible rfl)
          simp only [List.set_cons_succ, List.set_cons_zero]
          refine Mu.take_some (i := 7) (k := 48) (v := ?_) rfl rfl (by kernel_rfl) (by kernel_rfl) (by kernel_rfl) (fun _ _ _ h => h) (Or.inl ⟨by rfl, ?_⟩) (by assumption) ?_
          rotate_left
          · intro wq hSw; (try dsimp only at hSw); go_simp; (try with_reducible rfl)
          simp only [List.set_cons_succ, List.set_cons_zero]
          refine Mu.take_some (i := 8) (k := 49) (v := ?_) rfl rfl (by kernel_rfl) (by kernel_rfl) (by kernel_rfl) (fun _ _ _ h => h) (Or.inl ⟨by rfl, ?_⟩) (by assumption) ?_
          rotate_left
          · intro wq hSw; (try dsimp only at hSw); go_simp; (try with_reducible rfl)
          simp only [List.set_cons_succ, List.set_cons_zero]
          refine Mu.take_some (i := 9) (k := 50) (v := ?_) rfl rfl (by kernel_rfl) (by kernel_rfl) (by kernel_rfl) (fun _ _ _ h => h) (Or.inl ⟨by rfl, ?_⟩) (by assumption) ?_
          rotate_left
          · intro wq hSw; (try dsimp only at hSw); go_simp; (try with_reducible rfl)
          simp only [List.set_cons_succ, List.set_cons_zero]
          refine Mu.take_some (i := 10) (k := 51) (v := ?_) rfl rfl (by kernel_rfl) (by kernel_rfl) (by kernel_rfl) (fun _ _ _ h => h) (Or.inl ⟨by rfl, ?_⟩) (by assumption) ?_
          rotate_left
          · intro wq hSw; (try dsimp only at hSw); go_simp; (try with_reducible rfl)
          simp only [List.set_cons_succ, List.set_cons_zero]
          refine Mu.take_some (i := 12) (k := 53) (v := ?_) rfl rfl (by kernel_rfl) (by kernel_rfl) (by kernel_rfl) (fun _ _ _ h => h) (Or.inl ⟨by rfl, ?_⟩) (by assumption) ?_
          rotate_left
          · intro wq hSw; (try dsimp only at hSw); go_simp; (try with_reducible rfl)
          simp only [List.set_cons_succ, List.set_cons_zero]
          refine Mu.take_some (i := 13) (k := 54) (v := ?_) rfl rfl (by kernel_rfl) (by kernel_rfl) (by kernel_rfl) (fun _ _ _ h => h) (Or.inl ⟨by rfl, ?_⟩) (by assumption) ?_
          rotate_left
          · intro wq hSw; (try dsimp only at hSw); go_simp; (try with_reducible rfl)
          simp only [List.set_cons_succ, List.set_cons_zero]
          refine Mu.take_some (i := 14) (k := 55) (v := ?_) rfl rfl (by kernel_rfl) (by kernel_rfl) (by kernel_rfl) (fun _ _ _ h => h) (Or.inl ⟨by rfl, ?_⟩) (by assumption) ?_
          rotate_left
          · intro wq hSw; (try dsimp only at hSw); go_simp; (try with_reducible rfl)
          simp only [List.set_cons_succ, List.set_cons_zero]
          refine Mu.take_some (i := 15) (k := 56) (v := ?_) rfl rfl (by kernel_rfl) (by kernel_rfl) (by kernel_rfl) (fun _ _ _ h => h) (Or.inl ⟨by rfl, ?_⟩) (by assumption) ?_
          rotate_left
          · intro wq hSw; (try dsimp only at hSw); go_simp; (try with_reducible rfl)
          simp only [List.set_cons_succ, List.set_cons_zero]
          refine Mu.take_some (i := 16) (k := 57) (v := ?_) rfl rfl (by kernel_rfl) (by kernel_rfl) (by kernel_rfl) (fun _ _ _ h => h) (Or.inl ⟨by rfl, ?_⟩) (by assumption) ?_
          rotate_left
          · intro wq hSw; (try dsimp only at hSw); go_simp; (try with_reducible rfl)
          simp only [List.set_cons_succ, List.set_cons_zero]
          refine Mu.call_step (i := 11) (k := 52) rfl rfl (by kernel_rfl) (by rfl) (by go_simp; exact ⟨rfl, rfl⟩) ?_
          refine HSE.out.mono ?_
          rintro e w5 ⟨rfl, F5, hx5, ho5, hn5⟩
          have HD5 := Lib.hid (HD4D.out.exps hx5 ho5 hn5)
          have HK5 := Lib.hid (HK4D.out.trans (HD4D.out.both.exp.keeps (B := w1.heap.size) ho5 (by have := HPL.out; omega)))
          clear hx5 ho5 hn5
          refine ⟨_, rfl, HD5.out.box.held, fun hHeld => ?_⟩
          simp only [List.set_cons_succ, List.set_cons_zero]
          refine Mu.call_step (i := 17) (k := 58) rfl rfl (by kernel_rfl) (by rfl) (by go_simp; exact ⟨rfl, rfl⟩) ?_
          refine (HRS.out _ HD5.out.both.ref (by have := HPL.out; have := HD5.out.size; omega)).mono ?_
          rintro e w6 ⟨rfl, v6, hr6, ho6, hn6⟩
          have HD6 := Lib.hid (HD5.out.refs hr6 ho6 hn6)
          have HK6 := Lib.hid (HK5.out.trans (keeps_ref (B := w1.heap.size) HD5.out.both.ref ho6))
          clear hr6 ho6 hn6
          refine ⟨_, rfl, HD6.out.box.held, fun hHeld => ?_⟩
          simp only [List.set_cons_succ, List.set_cons_zero]
          refine Mu.call_step (i := 18) (k := 59) rfl rfl (by kernel_rfl) (by rfl) (by go_simp; exact ⟨rfl, rfl⟩) ?_
          refine (HPN.out _).mono ?_
          rintro e w7 ⟨rfl, hb7⟩
          have HD7 := Lib.hid (HD6.out.below hb7)
          have HK7 := Lib.hid (HK6.out.trans (keeps_below (B := w1.heap.size) hb7))
          clear hb7
          refine ⟨_, rfl, HD7.out.box.held, fun hHeld => ?_⟩
          simp only [List.set_cons_succ, List.set_cons_zero]
          refine Mu.take_some (i := 19) (k := 60) (v := ?_) rfl rfl (by kernel_rfl) (by kernel_rfl) (by kernel_rfl) (fun _ _ _ h => h) (Or.inl ⟨by rfl, ?_⟩) (by assumption) ?_
          rotate_left
          · intro wq hSw; (try dsimp only at hSw); go_simp; (try with_reducible rfl)
          simp only [List.set_cons_succ, List.set_cons_zero]
          refine Mu.take_some (i := 20) (k := 61) (v := ?_) rfl rfl (by kernel_rfl) (by kernel_rfl) (by kernel_rfl) (fun _ _ _ h => h) (Or.inl ⟨by rfl, ?_⟩) (by assumption) ?_
          rotate_left
          · intro wq hSw; (try dsimp only at hSw); go_simp; (try with_reducible rfl)
          simp only [List.set_cons_succ, List.set_cons_zero]
          refine wpAnyH_done (by kernel_rfl) ?_ _
          have HND := Lib.hid (due_next (y := y) HD7.out HK7.out (by have h1 := HTL.out; have h2 := wo_le t x.2.2.2.1; have h3 := put_len (wo t x.2.2.2.1) (x.2.2.2.1, x.2.2.2.2, x.2.2.1); simp only [List.length_nil]; omega) (by have := HNZ.out; omega))
          have HQ7 := Lib.hid HD7.out.box.cells
          clear hHeld
          obtain ⟨q0, q1, q2, q3, q4, q5, q6, q7, q8, q9, q10, q11⟩ := HQ7.out
          have q6z : _ = some (Value.int .i64 0) := q6
          by_cases hmo : most ≤ 1
          · clear q0 q1 q2 q4 q6 q9 q10 q11
            gi_wp2
            exact HND.out.2
          · have hmo2 : 1 < most := by omega
            clear q0 q1 q2 q4 q6 q9 q10 q11 hmo
            gi_wp2
            exact HND.out.1
        · have HSE := Lib.hid (fun w' => eset_no E x.2.2.2.1 x.2.2.2.2 x.2.2.1 hok w')
          have HRS := Lib.hid (fun (w' : World) => rset_no r x.2.2.2.1 x.2.2.2.2 x.2.2.1 hok w')
          have HPN := Lib.hid (fun (w' : World) (hh : erHandle w') => (plain_errno 1 1 (by omega) (by omega) w' hh).mono fun e w2 h2 => (h2 : e = .returned (.bool true) ∧ Below w'.heap.size w' w2))
          clear hok
          refine Mu.region_round (S := fun w' => w'.cell? ⟨w.heap.size + 1 + 1 + 1 + 1, 0, none⟩ = some (.bool true) ∧ w'.cell? ⟨w.heap.size + 1 + 1 + 1 + 1 + 1 + 1, 0, none⟩ = some (.int .i64 0) ∧ w'.cell? ⟨w.heap.size, 0, none⟩ = some (.pointer (some ⟨E, 0, none⟩)) ∧ w'.cell? ⟨w.heap.size + 1, 0, none⟩ = some (.pointer (some ⟨r, 0, none⟩)) ∧ w'.cell? ⟨w.heap.size + 1 + 1, 3, none⟩ = some (.int .i64 x.2.2.2.1) ∧ w'.cell? ⟨w.heap.size + 1 + 1, 4, none⟩ = some (.int .i64 x.2.2.2.2) ∧ w'.cell? ⟨w.heap.size + 1 + 1, 2, none⟩ = some (.int .i64 x.2.2.1)) (by kernel_rfl) ?_ ?_ ?_ (fun hHeld => ?_)
          · rintro ⟨a, w', h⟩; exact h
          · intro o ho c hc; simp at ho; rcases ho with rfl | rfl | rfl | rfl | rfl | rfl | rfl | rfl | rfl | rfl | rfl | rfl | rfl | rfl | rfl | rfl | rfl | rfl | rfl | rfl | rfl <;> cases hc
          · exact HHE.out
          refine Mu.take_some (i := 0) (k := 41) (v := ?_) rfl rfl (by kernel_rfl) (by kernel_rfl) (by kernel_rfl) (fun _ _ _ h => h) (Or.inl ⟨by rfl, ?_⟩) (by assumption) ?_
          rotate_left
          · intro wq hSw; (try dsimp only at hSw); go_simp; (try with_reducible rfl)
          simp only [List.set_cons_succ, List.set_cons_zero]
          refine Mu.take_some (i := 1) (k := 42) (v := ?_) rfl rfl (by kernel_rfl) (by kernel_rfl) (by kernel_rfl) (fun _ _ _ h => h) (Or.inl ⟨by rfl, ?_⟩) (by assumption) ?_
          rotate_left
          · intro wq hSw; (try dsimp only at hSw); go_simp; (try with_reducible rfl)
          simp only [List.set_cons_succ, List.set_cons_zero]
          refine Mu.take_some (i := 2) (k := 43) (v := ?_) rfl rfl (by kernel_rfl) (by kernel_rfl) (by kernel_rfl) (fun _ _ _ h => h) (Or.inl ⟨by rfl, ?_⟩) (by assumption) ?_
          rotate_left
          · intro wq hSw; (try dsimp only at hSw); go_simp; (try with_reducible rfl)
          simp only [List.set_cons_succ, List.set_cons_zero]
          refine Mu.take_some (i := 3) (k := 44) (v := ?_) rfl rfl (by kernel_rfl) (by kernel_rfl) (by kernel_rfl) (fun _ _ _ h => h) (Or.inl ⟨by rfl, ?_⟩) (by assumption) ?_
          rotate_left
          · intro wq hSw; (try dsimp only at hSw); go_simp; (try with_reducible rfl)
          simp only [List.set_cons_succ, List.set_cons_zero]
          refine Mu.take_some (i := 4) (k := 45) (v := ?_) rfl rfl (by kernel_rfl) (by kernel_rfl) (by kernel_rfl) (fun _ _ _ h => h) (Or.inl ⟨by rfl, ?_⟩) (by assumption) ?_
          rotate_left
          · intro wq hSw; (try dsimp only at hSw); go_simp; (try with_reducible rfl)
          simp only [List.set_cons_succ, List.set_cons_zero]
          refine Mu.take_some (i := 5) (k := 46) (v := ?_) rfl rfl (by kernel_rfl) (by kernel_rfl) (by kernel_rfl) (fun _ _ _ h => h) (Or.inl ⟨by rfl, ?_⟩) (by assumption) ?_
          rotate_left
          · intro wq hSw; (try dsimp only at hSw); go_simp; (try with_reducible rfl)
          simp only [List.set_cons_succ, List.set_cons_zero]
          refine Mu.take_some (i := 6) (k := 47) (v := ?_) rfl rfl (by kernel_rfl) (by kernel_rfl) (by kernel_rfl) (fun _ _ _ h => h) (Or.inl ⟨by rfl, ?_⟩) (by assumption) ?_
          rotate_left
          · intro wq hSw; (try dsimp only at hSw); go_simp; (try with_reducible rfl)
          simp only [List.set_cons_succ, List.set_cons_zero]
          refine Mu.take_some (i := 7) (k := 48) (v := ?_) rfl rfl (by kernel_rfl) (by kernel_rfl) (by kernel_rfl) (fun _ _ _ h => h) (Or.inl ⟨by rfl, ?_⟩) (by assumption) ?_
          rotate_left
          · intro wq hSw; (try dsimp only at hSw); go_simp; (try with_reducible rfl)
          simp only [List.set_cons_succ, List.set_cons_zero]
          refine Mu.take_some (i := 8) (k := 49) (v := ?_) rfl rfl (by kernel_rfl) (by kernel_rfl) (by kernel_rfl) (fun _ _ _ h => h) (Or.inl ⟨by rfl, ?_⟩) (by assumption) ?_
          rotate_left
          · intro wq hSw; (try dsimp only at hSw); go_simp; (try with_reducible rfl)
          simp only [List.set_cons_succ, List.set_cons_zero]
          refine Mu.take_some (i := 9) (k := 50) (v := ?_) rfl rfl (by kernel_rfl) (by kernel_rfl) (by kernel_rfl) (fun _ _ _ h => h) (Or.inl ⟨by rfl, ?_⟩) (by assumption) ?_
          rotate_left
          · intro wq hSw; (try dsimp only at hSw); go_simp; (try with_reducible rfl)
          simp only [List.set_cons_succ, List.set_cons_zero]
          refine Mu.take_some (i := 10) (k := 51) (v := ?_) rfl rfl (by kernel_rfl) (by kernel_rfl) (by kernel_rfl) (fun _ _ _ h => h) (Or.inl ⟨by rfl, ?_⟩) (by assumption) ?_
          rotate_left
          · intro wq hSw; (try dsimp only at hSw); go_simp; (try with_reducible rfl)
          simp only [List.set_cons_succ, List.set_cons_zero]
          refine Mu.take_some (i := 12) (k := 53) (v := ?_) rfl rfl (by kernel_rfl) (by kernel_rfl) (by kernel_rfl) (fun _ _ _ h => h) (Or.inl ⟨by rfl, ?_⟩) (by assumption) ?_
          rotate_left
          · intro wq hSw; (try dsimp only at hSw); go_simp; (try with_reducible rfl)
          simp only [List.set_cons_succ, List.set_cons_zero]
          refine Mu.take_some (i := 13) (k := 54) (v := ?_) rfl rfl (by kernel_rfl) (by kernel_rfl) (by kernel_rfl) (fun _ _ _ h => h) (Or.inl ⟨by rfl, ?_⟩) (by assumption) ?_
          rotate_left
          · intro wq hSw; (try dsimp only at hSw); go_simp; (try with_reducible rfl)
          simp only [List.set_cons_succ, List.set_cons_zero]
          refine Mu.take_some (i := 14) (k := 55) (v := ?_) rfl rfl (by kernel_rfl) (by kernel_rfl) (by kernel_rfl) (fun _ _ _ h => h) (Or.inl ⟨by rfl, ?_⟩) (by assumption) ?_
          rotate_left
          · intro wq hSw; (try dsimp only at hSw); go_simp; (try with_reducible rfl)
          simp only [List.set_cons_succ, List.set_cons_zero]
          refine Mu.take_some (i := 15) (k := 56) (v := ?_) rfl rfl (by kernel_rfl) (by kernel_rfl) (by kernel_rfl) (fun _ _ _ h => h) (Or.inl ⟨by rfl, ?_⟩) (by assumption) ?_
          rotate_left
          · intro wq hSw; (try dsimp only at hSw); go_simp; (try with_reducible rfl)
          simp only [List.set_cons_succ, List.set_cons_zero]
          refine Mu.take_some (i := 16) (k := 57) (v := ?_) rfl rfl (by kernel_rfl) (by kernel_rfl) (by kernel_rfl) (fun _ _ _ h => h) (Or.inl ⟨by rfl, ?_⟩) (by assumption) ?_
          rotate_left
          · intro wq hSw; (try dsimp only at hSw); go_simp; (try with_reducible rfl)
          simp only [List.set_cons_succ, List.set_cons_zero]
          refine Mu.call_step (i := 11) (k := 52) rfl rfl (by kernel_rfl) (by rfl) (by go_simp; exact ⟨rfl, rfl⟩) ?_
          refine (HSE.out _).mono ?_
          rintro e w5 ⟨rfl, hb5⟩
          have HD5 := Lib.hid (HD4D.out.below hb5)
          have HK5 := Lib.hid (HK4D.out.trans (keeps_below (B := w1.heap.size) hb5))
          clear hb5
          refine ⟨_, rfl, HD5.out.box.held, fun hHeld => ?_⟩
          simp only [List.set_cons_succ, List.set_cons_zero]
          refine Mu.call_step (i := 17) (k := 58) rfl rfl (by kernel_rfl) (by rfl) (by go_simp; exact ⟨rfl, rfl⟩) ?_
          refine (HRS.out _).mono ?_
          rintro e w6 ⟨rfl, hb6⟩
          have HD6 := Lib.hid (HD5.out.below hb6)
          have HK6 := Lib.hid (HK5.out.trans (keeps_below (B := w1.heap.size) hb6))
          clear hb6
          refine ⟨_, rfl, HD6.out.box.held, fun hHeld => ?_⟩
          simp only [List.set_cons_succ, List.set_cons_zero]
          refine Mu.call_step (i := 18) (k := 59) rfl rfl (by kernel_rfl) (by rfl) (by go_simp; exact ⟨rfl, rfl⟩) ?_
          refine (HPN.out _ (HG2.out _ HD6.out.only)).mono ?_
          rintro e w7 ⟨rfl, hb7⟩
          have HD7 := Lib.hid (HD6.out.below hb7)
          have HK7 := Lib.hid (HK6.out.trans (keeps_below (B := w1.heap.size) hb7))
          clear hb7
          refine ⟨_, rfl, HD7.out.box.held, fun hHeld => ?_⟩
          simp only [List.set_cons_succ, List.set_cons_zero]
          refine Mu.take_some (i := 19) (k := 60) (v := ?_) rfl rfl (by kernel_rfl) (by kernel_rfl) (by kernel_rfl) (fun _ _ _ h => h) (Or.inl ⟨by rfl, ?_⟩) (by assumption) ?_
          rotate_left
          · intro wq hSw; (try dsimp only at hSw); go_simp; (try with_reducible rfl)
          simp only [List.set_cons_succ, List.set_cons_zero]
          refine Mu.take_some (i := 20) (k := 61) (v := ?_) rfl rfl (by kernel_rfl) (by kernel_rfl) (by kernel_rfl) (fun _ _ _ h => h) (Or.inl ⟨by rfl, ?_⟩) (by assumption) ?_
          rotate_left
          · intro wq hSw; (try dsimp only at hSw); go_simp; (try with_reducible rfl)
          simp only [List.set_cons_succ, List.set_cons_zero]
          refine wpAnyH_done (by kernel_rfl) ?_ _
          have HND := Lib.hid (due_next (y := y) HD7.out HK7.out HPT.out HNN.out)
          have HQ7 := Lib.hid HD7.out.box.cells
          clear hHeld
          obtain ⟨q0, q1, q2, q3, q4, q5, q6, q7, q8, q9, q10, q11⟩ := HQ7.out
          have q6z : _ = some (Value.int .i64 0) := q6
          by_cases hmo : most ≤ 1
          · clear q0 q1 q2 q4 q6 q9 q10 q11
            gi_wp2
            exact HND.out.2
          · have hmo2 : 1 < most := by omega
            clear q0 q1 q2 q4 q6 q9 q10 q11 hmo
            gi_wp2
            exact HND.out.1
      · have hn0 : ((pre.length : Int) == 0) = false := by rw [beq_eq_false_iff_ne]; intro e; exact hp (List.eq_nil_of_length_eq_zero (by omega))
        have hpl2 : (pre.length : Int) ≤ 33 := by have := HPT.out; omega
        have HND := Lib.hid (due_next (y := y) (HD4.out.below (Below.drew (Below.refl _ _))) (HK4.out.trans ((KeepsOthers.drew _).from _)) HPT.out HNN.out)
        clear q0 q1 q2 q3 q5 q7 q8 q9 q10 q11 hp
        refine Mu.region_round (S := fun w' => w'.cell? ⟨w.heap.size + 1 + 1 + 1 + 1, 0, none⟩ = some (.bool true) ∧ w'.cell? ⟨w.heap.size + 1 + 1 + 1 + 1 + 1 + 1, 0, none⟩ = some (.int .i64 pre.length)) (by kernel_rfl) ?_ ?_ ?_ (fun hHeld => ?_)
        · rintro ⟨a, w', h⟩; exact h
        · intro o ho c hc; simp at ho; rcases ho with rfl | rfl | rfl | rfl | rfl | rfl | rfl | rfl | rfl | rfl | rfl | rfl | rfl | rfl | rfl | rfl | rfl | rfl | rfl | rfl | rfl <;> cases hc
        · exact ⟨q4, q6⟩
        refine Mu.take_some (i := 0) (k := 41) (v := ?_) rfl rfl (by kernel_rfl) (by kernel_rfl) (by kernel_rfl) (fun _ _ _ h => h) (Or.inl ⟨by rfl, ?_⟩) (by assumption) ?_
        rotate_left
        · intro wq hSw; (try dsimp only at hSw); go_simp; (try with_reducible rfl)
        simp only [List.set_cons_succ, List.set_cons_zero]
        refine Mu.take_some (i := 1) (k := 42) (v := ?_) rfl rfl (by kernel_rfl) (by kernel_rfl) (by kernel_rfl) (fun _ _ _ h => h) (Or.inl ⟨by rfl, ?_⟩) (by assumption) ?_
        rotate_left
        · intro wq hSw; (try dsimp only at hSw); go_simp; (try with_reducible rfl)
        simp only [List.set_cons_succ, List.set_cons_zero]
        refine Mu.take_some (i := 2) (k := 43) (v := ?_) rfl rfl (by kernel_rfl) (by kernel_rfl) (by kernel_rfl) (fun _ _ _ h => h) (Or.inl ⟨by rfl, ?_⟩) (by assumption) ?_
        rotate_left
        · intro wq hSw; (try dsimp only at hSw); go_simp; (try with_reducible rfl)
        simp only [List.set_cons_succ, List.set_cons_zero]
        refine Mu.take_some (i := 3) (k := 44) (v := ?_) rfl rfl (by kernel_rfl) (by kernel_rfl) (by kernel_rfl) (fun _ _ _ h => h) (Or.inl ⟨by rfl, ?_⟩) (by assumption) ?_
        rotate_left
        · intro wq hSw; (try dsimp only at hSw); go_simp; (try with_reducible rfl)
        simp only [List.set_cons_succ, List.set_cons_zero]
        refine Mu.take_some (i := 4) (k := 45) (v := ?_) rfl rfl (by kernel_rfl) (by kernel_rfl) (by kernel_rfl) (fun _ _ _ h => h) (Or.inl ⟨by rfl, ?_⟩) (by assumption) ?_
        rotate_left
        · intro wq hSw; (try dsimp only at hSw); go_simp; (try with_reducible rfl)
        simp only [List.set_cons_succ, List.set_cons_zero]
        refine Mu.take_some (i := 5) (k := 46) (v := ?_) rfl rfl (by kernel_rfl) (by kernel_rfl) (by kernel_rfl) (fun _ _ _ h => h) (Or.inl ⟨by rfl, ?_⟩) (by assumption) ?_
        rotate_left
        · intro wq hSw; (try dsimp only at hSw); go_simp; (try with_reducible rfl)
        simp only [List.set_cons_succ, List.set_cons_zero]
        refine Mu.take_some (i := 6) (k := 47) (v := undef) rfl rfl (by kernel_rfl) (by kernel_rfl) (by kernel_rfl) (fun _ _ _ h => h) (Or.inr ⟨by rfl, rfl⟩) (by assumption) ?_
        simp only [List.set_cons_succ, List.set_cons_zero]
        refine Mu.take_some (i := 7) (k := 48) (v := undef) rfl rfl (by kernel_rfl) (by kernel_rfl) (by kernel_rfl) (fun _ _ _ h => h) (Or.inr ⟨by rfl, rfl⟩) (by assumption) ?_
        simp only [List.set_cons_succ, List.set_cons_zero]
        refine Mu.take_some (i := 8) (k := 49) (v := undef) rfl rfl (by kernel_rfl) (by kernel_rfl) (by kernel_rfl) (fun _ _ _ h => h) (Or.inr ⟨by rfl, rfl⟩) (by assumption) ?_
        simp only [List.set_cons_succ, List.set_cons_zero]
        refine Mu.take_some (i := 9) (k := 50) (v := undef) rfl rfl (by kernel_rfl) (by kernel_rfl) (by kernel_rfl) (fun _ _ _ h => h) (Or.inr ⟨by rfl, rfl⟩) (by assumption) ?_
        simp only [List.set_cons_succ, List.set_cons_zero]
        refine Mu.take_some (i := 10) (k := 51) (v := undef) rfl rfl (by kernel_rfl) (by kernel_rfl) (by kernel_rfl) (fun _ _ _ h => h) (Or.inr ⟨by rfl, rfl⟩) (by assumption) ?_
        simp only [List.set_cons_succ, List.set_cons_zero]
        refine Mu.take_some (i := 11) (k := 52) (v := undef) rfl rfl (by kernel_rfl) (by kernel_rfl) (by kernel_rfl) (fun _ _ _ h => h) (Or.inr ⟨by rfl, rfl⟩) (by assumption) ?_
        simp only [List.set_cons_succ, List.set_cons_zero]
        refine Mu.take_some (i := 12) (k := 53) (v := undef) rfl rfl (by kernel_rfl) (by kernel_rfl) (by kernel_rfl) (fun _ _ _ h => h) (Or.inr ⟨by rfl, rfl⟩) (by assumption) ?_
        simp only [List.set_cons_succ, List.set_cons_zero]
        refine Mu.take_some (i := 13) (k := 54) (v := undef) rfl rfl (by kernel_rfl) (by kernel_rfl) (by kernel_rfl) (fun _ _ _ h => h) (Or.inr ⟨by rfl, rfl⟩) (by assumption) ?_
        simp only [List.set_cons_succ, List.set_cons_zero]
        refine Mu.take_some (i := 14) (k := 55) (v := undef) rfl rfl (by kernel_rfl) (by kernel_rfl) (by kernel_rfl) (fun _ _ _ h => h) (Or.inr ⟨by rfl, rfl⟩) (by assumption) ?_
        simp only [List.set_cons_succ, List.set_cons_zero]
        refine Mu.take_some (i := 15) (k := 56) (v := undef) rfl rfl (by kernel_rfl) (by kernel_rfl) (by kernel_rfl) (fun _ _ _ h => h) (Or.inr ⟨by rfl, rfl⟩) (by assumption) ?_
        simp only [List.set_cons_succ, List.set_cons_zero]
        refine Mu.take_some (i := 16) (k := 57) (v := undef) rfl rfl (by kernel_rfl) (by kernel_rfl) (by kernel_rfl) (fun _ _ _ h => h) (Or.inr ⟨by rfl, rfl⟩) (by assumption) ?_
        simp only [List.set_cons_succ, List.set_cons_zero]
        refine Mu.take_some (i := 17) (k := 58) (v := undef) rfl rfl (by kernel_rfl) (by kernel_rfl) (by kernel_rfl) (fun _ _ _ h => h) (Or.inr ⟨by rfl, rfl⟩) (by assumption) ?_
        simp only [List.set_cons_succ, List.set_cons_zero]
        refine Mu.take_some (i := 18) (k := 59) (v := undef) rfl rfl (by kernel_rfl) (by kernel_rfl) (by kernel_rfl) (fun _ _ _ h => h) (Or.inr ⟨by rfl, rfl⟩) (by assumption) ?_
        simp only [List.set_cons_succ, List.set_cons_zero]
        refine Mu.take_some (i := 19) (k := 60) (v := undef) rfl rfl (by kernel_rfl) (by kernel_rfl) (by kernel_rfl) (fun _ _ _ h => h) (Or.inr ⟨by rfl, rfl⟩) (by assumption) ?_
        simp only [List.set_cons_succ, List.set_cons_zero]
        refine Mu.take_some (i := 20) (k := 61) (v := ?_) rfl rfl (by kernel_rfl) (by kernel_rfl) (by kernel_rfl) (fun _ _ _ h => h) (Or.inl ⟨by rfl, ?_⟩) (by assumption) ?_
        rotate_left
        · intro wq hSw; (try dsimp only at hSw); go_simp; (try with_reducible rfl)
        simp only [List.set_cons_succ, List.set_cons_zero]
        refine wpAnyH_done (by kernel_rfl) ?_ _
        clear hHeld
        obtain ⟨q0, q1, q2, q3, q4, q5, q6, q7, q8, q9, q10, q11⟩ := HQ.out
        by_cases hmo : most ≤ (pre.length : Int) + 1
        · clear q0 q1 q2 q4 q9 q10 q11
          gi_wp2
          exact HND.out.2
        · have hmo2 : (pre.length : Int) + 1 < most := by omega
          clear q0 q1 q2 q4 q9 q10 q11 hmo
          gi_wp2
          exact HND.out.1
  case done =>
    rintro d xs W hd ⟨S, F, v, N, hda, hS, hNN⟩ hK
    obtain ⟨q0, q1, q2, q3, q4, q5, q6, q7, q8, q9, q10, q11⟩ := hda.box.cells
    have HRN := Lib.hid (rdue_no lo r S v W hda.both.ref x.2.1 hS)
    have HDA := Lib.hid hda; have HNN := Lib.hid hNN; have HK := Lib.hid hK; have HD2 := Lib.hid hd
    clear hda hS hNN hK hd q0 q3 q4 q5 q6 q7 q8 q9 q10 q11
    gi_wp2_with fail
    refine ⟨trivial, (callsIn_wide.2 HRN.out).mono ?_⟩
    rintro e w3 ⟨rfl, hb3⟩
    have HB3 := Lib.hid hb3
    obtain ⟨w4, hw4⟩ : ∃ w4, w4 = w3.alloc (.cells #[.int .i64 0, .int .i64 0] 59) := ⟨_, rfl⟩
    have hb4 : Below w3.heap.size w3 w4 := by rw [hw4]; exact (Below.refl _ _).alloc (Nat.le_refl _) _
    have hb34 := hb3.trans (hb4.mono hb3.size)
    have HD5 := Lib.hid ((HDA.out.below hb34).told true)
    have hk4 : w4.heap[d]? = some (.deferred (some [])) := (hb34.block d (Array.getElem?_eq_some_iff.1 HK.out).1).trans HK.out
    obtain ⟨q0, q1, q2, q3, q4, q5, q6, q7, q8, q9, q10, q11⟩ := (HDA.out.below hb34).box.cells
    have HK4 := Lib.hid hk4
    rw [hw4] at q5 q7
    clear hb3 hb4 hb34 hk4 q0 q1 q2 q3 q4 q6 q8 q9 q10 q11
    gi_wp2
    rw [← hw4]
    have hk5 : (w4.setCell ⟨w.heap.size + 5, 0, none⟩ (.bool true)).heap[d]? = some (.deferred (some [])) := (Below.heap_setCell _ _ _ _ (by have h1 := HD2.out; have h2 := HSZ.out; show d ≠ w.heap.size + 5; omega)).trans HK4.out
    refine ⟨by simp, .inl ⟨_, _, rfl, run_takeDeferred hk5, ?_⟩⟩
    have hend := due_end HD5.out HNN.out HD2.out hk5
    refine ⟨.bool true, by simp only [results, Tryd.results51]; simp [go_sem, (hend _).1], (hend _).2⟩
  case stop =>
    rintro d c pre W hd ⟨rfl, S, F, v, N, hda, hNN⟩ hK
    gi_wp2
    refine ⟨by simp, .inl ⟨_, _, rfl, run_takeDeferred hK, ?_⟩⟩
    have hend := due_end hda hNN hd hK
    refine ⟨.bool true, by simp only [results, Tryd.results51]; simp [go_sem, (hend _).1], (hend _).2⟩

theorem due_any (lo E r N0 : Nat) (S0 : List Ent) (F0 : Nat → Prop) (v0 : Value) (w : World) (h : EBoth lo E r N0 S0 S0 F0 v0 w) (hlo : lo ≤ w.heap.size) (hN : N0 ≤ 1099511627775) (hg : erHandle w) (hgl : 0 < lo) (x : Act5) (most : Int) (hm : 1 ≤ most ∧ most ≤ 1000) (put : Bool) :
    Calls Tryd.prog 51 #[.pointer (some ⟨E, 0, none⟩), .pointer (some ⟨r, 0, none⟩), .agg #[.int .i64 x.1, .int .i64 x.2.1, .int .i64 x.2.2.1, .int .i64 x.2.2.2.1, .int .i64 x.2.2.2.2], .int .i64 most, .bool put] w (DuePost lo E r N0 F0 w) :=
  callsIn_wide.1 (due_in lo E r N0 S0 F0 v0 w h hlo hN hg hgl x most hm put)

end Ex
end Go.Proofs.YtkmgpajodbadmaaDoor
