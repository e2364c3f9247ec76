/- An expiry: the law's does. -/
import Derived.Test.YtkmgpajodbadmaaDoorExpRun
import Derived.Test.YtkmgpajodbadmaaDoorPick
namespace Go.Proofs.YtkmgpajodbadmaaDoor
open Go.RowKit
set_option linter.unusedVariables false
namespace Ex
open Hp (It)

theorem only_l {F : Nat → Prop} {r : Nat} {w w' : World} (h : Only F w w') : Only (fun k => F k ∨ k = r) w w' := h.mono (fun _ _ h => .inl h)
theorem only_r {F : Nat → Prop} {r : Nat} {w w' : World} (h : Only (fun b => b = r) w w') : Only (fun k => F k ∨ k = r) w w' := h.mono (fun _ _ h => .inr h)
theorem only_b {F : Nat → Prop} {w w' : World} (h : Below w.heap.size w w') : Only F w w' := Only.of_below (F := F) h
theorem nextV_nxt (S : List Ent) : nextV S = nxt S := by cases S <;> rfl

section
variable (lo E r N0 : Nat) (S0 : List Ent) (F0 : Nat → Prop) (v0 : Value) (w : World) (h : EBoth lo E r N0 S0 S0 F0 v0 w) (hlo : lo ≤ w.heap.size) (hN : N0 ≤ 1099511627775) (hg : erHandle w) (hgl : 0 < lo) (x : Act5)
include h hlo hN hg hgl

set_option maxHeartbeats 4000000 in
theorem does_set0_ok (hk : x.1 % 6 = 0) (hok : okE x.2.2.2.1 x.2.2.2.2 x.2.1) :
    Calls Tryd.prog 23 #[.pointer (some ⟨E, 0, none⟩), .pointer (some ⟨r, 0, none⟩), .agg #[.int .i64 x.1, .int .i64 x.2.1, .int .i64 x.2.2.1, .int .i64 x.2.2.2.1, .int .i64 x.2.2.2.2]] w (DuePost lo E r N0 F0 w) := by
  obtain ⟨W, hW⟩ : ∃ W, W = w.alloc (.cells #[.int .i64 x.1, .int .i64 x.2.1, .int .i64 x.2.2.1, .int .i64 x.2.2.2.1, .int .i64 x.2.2.2.2] 61) := ⟨_, rfl⟩
  have hb : Below w.heap.size w W := by rw [hW]; exact (Below.refl _ _).alloc (Nat.le_refl _) _
  have hbx : W.heap[w.heap.size]? = some (.cells #[.int .i64 x.1, .int .i64 x.2.1, .int .i64 x.2.2.1, .int .i64 x.2.2.2.1, .int .i64 x.2.2.2.2] 61 (0, 0)) := by rw [hW]; exact Ut.alloc_at _ _
  have x0 : W.cell? ⟨w.heap.size, 0, none⟩ = some (.int .i64 x.1) := by rw [row_cell hbx]; rfl
  have x1 : W.cell? ⟨w.heap.size, 1, none⟩ = some (.int .i64 x.2.1) := by rw [row_cell hbx]; rfl
  have x2 : W.cell? ⟨w.heap.size, 2, none⟩ = some (.int .i64 x.2.2.1) := by rw [row_cell hbx]; rfl
  have x3 : W.cell? ⟨w.heap.size, 3, none⟩ = some (.int .i64 x.2.2.2.1) := by rw [row_cell hbx]; rfl
  have x4 : W.cell? ⟨w.heap.size, 4, none⟩ = some (.int .i64 x.2.2.2.2) := by rw [row_cell hbx]; rfl
  have hrl := h.ref.lt
  have HX := Lib.hid (h.below hb)
  have HXD := Lib.hid (HX.out.below (Below.drew (Below.refl _ _)))
  have HSX : Hid (w.heap.size < W.heap.size) := (Array.getElem?_eq_some_iff.1 hbx).1
  have HFX : Hid (¬ F0 w.heap.size) := fun hf => by have := (h.exp.lt _ hf).2; omega
  have HRX : Hid (w.heap.size ≠ r) := by show _ ≠ _; omega
  have HBW := Lib.hid hb
  have HOW : Hid (Only (fun k => F0 k ∨ k = r) w W.drew) := (only_b hb).drew
  have HLO : Hid (lo ≤ W.heap.size) := Nat.le_trans hlo hb.size
  have HGW : Hid (erHandle W) := hg.below hg.lt hb
  have HPI := Lib.hid (fun w' => Pk.pick_any x.1 6 (by omega) (by omega) w')
  have HSL := Lib.hid h.exp.inv.len
  have HN := Lib.hid hN; have HGL := Lib.hid hgl; have HGR : Hid (lo ≤ r) := h.ref.loR
  have HFL : Hid (∀ k, F0 k → k < w.heap.size ∧ lo ≤ k) := fun k hk => ⟨(h.exp.lt k hk).2, (h.exp.lt k hk).1⟩
  obtain ⟨d, hd⟩ : ∃ d, d = x.1 % 6 := ⟨_, rfl⟩
  rw [← hd] at HPI hk
  have HSE := Lib.hid (eset_ok lo E N0 S0 F0 W.drew HXD.out.exp HLO.out (by omega) x.2.2.2.1 x.2.2.2.2 x.2.1 hok)
  have HRS := Lib.hid (fun (w' : World) (hr : RefE lo r S0 v0 w') (hlo : lo ≤ w'.heap.size) => rset_ok lo r S0 v0 w' hr (by have := HSL.out; omega) hlo x.2.2.2.1 x.2.2.2.2 x.2.1 hok)
  have HPN := Lib.hid (fun (w' : World) => (plain_nil 0 w').mono fun e w2 h2 => (h2 : e = .returned (.bool true) ∧ Below w'.heap.size w' w2))
  obtain rfl : d = 0 := hk
  clear hok x0 x2
  clear hb hbx hrl h hlo hN hg hgl hd
  go_enter Tryd.func23, Tryd.ntmps23
  go_wp2_with fail
  rw [← hW]
  have HW := Lib.hid hW
  clear hW
  refine (HPI.out _).mono ?_
  rintro e w6 ⟨rfl, rfl⟩
  go_wp2
  go_region_held3 (fun w' => w'.cell? ⟨w.heap.size, 1, none⟩ = some (.int .i64 x.2.1) ∧ w'.cell? ⟨w.heap.size, 3, none⟩ = some (.int .i64 x.2.2.2.1) ∧ w'.cell? ⟨w.heap.size, 4, none⟩ = some (.int .i64 x.2.2.2.2)) (go_keep) (first
    | (go_at_call 47; refine HSE.out.mono ?_; rintro e w3 ⟨rfl, F', hx3, ho3, hn3⟩; (have n1 : w3.cell? ⟨w.heap.size, 1, none⟩ = some (.int .i64 x.2.1) := (ho3.cell (p := ⟨w.heap.size, 1, none⟩) HSX.out HFX.out).trans x1); (have n3 : w3.cell? ⟨w.heap.size, 3, none⟩ = some (.int .i64 x.2.2.2.1) := (ho3.cell (p := ⟨w.heap.size, 3, none⟩) HSX.out HFX.out).trans x3); (have n4 : w3.cell? ⟨w.heap.size, 4, none⟩ = some (.int .i64 x.2.2.2.2) := (ho3.cell (p := ⟨w.heap.size, 4, none⟩) HSX.out HFX.out).trans x4); (have HB3 := Lib.hid (HXD.out.exps hx3 ho3 hn3)); have HO3 := Lib.hid ho3; have HN3 := Lib.hid hn3; clear hx3 ho3 hn3)
    | (go_at_call 48; refine (HRS.out _ HB3.out.ref (Nat.le_trans HLO.out HO3.out.size)).mono ?_; rintro e w4 ⟨rfl, v', hr4, ho4, hv4⟩; (have m1 : w4.cell? ⟨w.heap.size, 1, none⟩ = some (.int .i64 x.2.1) := (ho4.cell (p := ⟨w.heap.size, 1, none⟩) (Nat.lt_of_lt_of_le HSX.out HO3.out.size) HRX.out).trans n1); (have m3 : w4.cell? ⟨w.heap.size, 3, none⟩ = some (.int .i64 x.2.2.2.1) := (ho4.cell (p := ⟨w.heap.size, 3, none⟩) (Nat.lt_of_lt_of_le HSX.out HO3.out.size) HRX.out).trans n3); (have m4 : w4.cell? ⟨w.heap.size, 4, none⟩ = some (.int .i64 x.2.2.2.2) := (ho4.cell (p := ⟨w.heap.size, 4, none⟩) (Nat.lt_of_lt_of_le HSX.out HO3.out.size) HRX.out).trans n4); (have HB4 := Lib.hid (HB3.out.refs hr4 ho4 hv4)); have HO4 := Lib.hid ho4; clear hr4 ho4 hv4)
    | (go_at_call 8; refine (HPN.out _).mono ?_; rintro e w5 ⟨rfl, hb5⟩; (have p1 : w5.cell? ⟨w.heap.size, 1, none⟩ = some (.int .i64 x.2.1) := (hb5.cell (p := ⟨w.heap.size, 1, none⟩) (Nat.lt_of_lt_of_le HSX.out (Nat.le_trans HO3.out.size HO4.out.size)) ).trans m1); (have p3 : w5.cell? ⟨w.heap.size, 3, none⟩ = some (.int .i64 x.2.2.2.1) := (hb5.cell (p := ⟨w.heap.size, 3, none⟩) (Nat.lt_of_lt_of_le HSX.out (Nat.le_trans HO3.out.size HO4.out.size)) ).trans m3); (have p4 : w5.cell? ⟨w.heap.size, 4, none⟩ = some (.int .i64 x.2.2.2.2) := (hb5.cell (p := ⟨w.heap.size, 4, none⟩) (Nat.lt_of_lt_of_le HSX.out (Nat.le_trans HO3.out.size HO4.out.size)) ).trans m4); have HB5 := Lib.hid hb5; clear hb5))
  go_wp2
  go_ret
  refine ⟨rfl, _, F', v', N0 + 1, HB4.out.below HB5.out, Nat.le_refl _, ((HOW.out.trans (only_l HO3.out) (fun _ _ h => h)).trans (only_r HO4.out) (fun _ _ h => h)).trans (only_b HB5.out) (fun _ _ h => h), fun k hk => ?_⟩
  rcases HN3.out k hk with e | e
  · exact .inl e
  · have e2 : W.heap.size ≤ k := e
    have := HSX.out; right; omega

set_option maxHeartbeats 4000000 in
theorem does_set0_no (hk : x.1 % 6 = 0) (hok : ¬ okE x.2.2.2.1 x.2.2.2.2 x.2.1) :
    Calls Tryd.prog 23 #[.pointer (some ⟨E, 0, none⟩), .pointer (some ⟨r, 0, none⟩), .agg #[.int .i64 x.1, .int .i64 x.2.1, .int .i64 x.2.2.1, .int .i64 x.2.2.2.1, .int .i64 x.2.2.2.2]] w (DuePost lo E r N0 F0 w) := by
  obtain ⟨W, hW⟩ : ∃ W, W = w.alloc (.cells #[.int .i64 x.1, .int .i64 x.2.1, .int .i64 x.2.2.1, .int .i64 x.2.2.2.1, .int .i64 x.2.2.2.2] 61) := ⟨_, rfl⟩
  have hb : Below w.heap.size w W := by rw [hW]; exact (Below.refl _ _).alloc (Nat.le_refl _) _
  have hbx : W.heap[w.heap.size]? = some (.cells #[.int .i64 x.1, .int .i64 x.2.1, .int .i64 x.2.2.1, .int .i64 x.2.2.2.1, .int .i64 x.2.2.2.2] 61 (0, 0)) := by rw [hW]; exact Ut.alloc_at _ _
  have x0 : W.cell? ⟨w.heap.size, 0, none⟩ = some (.int .i64 x.1) := by rw [row_cell hbx]; rfl
  have x1 : W.cell? ⟨w.heap.size, 1, none⟩ = some (.int .i64 x.2.1) := by rw [row_cell hbx]; rfl
  have x2 : W.cell? ⟨w.heap.size, 2, none⟩ = some (.int .i64 x.2.2.1) := by rw [row_cell hbx]; rfl
  have x3 : W.cell? ⟨w.heap.size, 3, none⟩ = some (.int .i64 x.2.2.2.1) := by rw [row_cell hbx]; rfl
  have x4 : W.cell? ⟨w.heap.size, 4, none⟩ = some (.int .i64 x.2.2.2.2) := by rw [row_cell hbx]; rfl
  have hrl := h.ref.lt
  have HX := Lib.hid (h.below hb)
  have HXD := Lib.hid (HX.out.below (Below.drew (Below.refl _ _)))
  have HSX : Hid (w.heap.size < W.heap.size) := (Array.getElem?_eq_some_iff.1 hbx).1
  have HFX : Hid (¬ F0 w.heap.size) := fun hf => by have := (h.exp.lt _ hf).2; omega
  have HRX : Hid (w.heap.size ≠ r) := by show _ ≠ _; omega
  have HBW := Lib.hid hb
  have HOW : Hid (Only (fun k => F0 k ∨ k = r) w W.drew) := (only_b hb).drew
  have HLO : Hid (lo ≤ W.heap.size) := Nat.le_trans hlo hb.size
  have HGW : Hid (erHandle W) := hg.below hg.lt hb
  have HPI := Lib.hid (fun w' => Pk.pick_any x.1 6 (by omega) (by omega) w')
  have HSL := Lib.hid h.exp.inv.len
  have HN := Lib.hid hN; have HGL := Lib.hid hgl; have HGR : Hid (lo ≤ r) := h.ref.loR
  have HFL : Hid (∀ k, F0 k → k < w.heap.size ∧ lo ≤ k) := fun k hk => ⟨(h.exp.lt k hk).2, (h.exp.lt k hk).1⟩
  obtain ⟨d, hd⟩ : ∃ d, d = x.1 % 6 := ⟨_, rfl⟩
  rw [← hd] at HPI hk
  have HSE := Lib.hid (fun w' => eset_no E x.2.2.2.1 x.2.2.2.2 x.2.1 hok w')
  have HRS := Lib.hid (fun (w' : World) => rset_no r x.2.2.2.1 x.2.2.2.2 x.2.1 hok w')
  have HPN := Lib.hid (fun (w' : World) (hh : erHandle w') => (plain_errno 1 1 (by omega) (by omega) w' hh).mono fun e w2 h2 => (h2 : e = .returned (.bool true) ∧ Below w'.heap.size w' w2))
  obtain rfl : d = 0 := hk
  clear hok x0 x2
  clear hb hbx hrl h hlo hN hg hgl hd
  go_enter Tryd.func23, Tryd.ntmps23
  go_wp2_with fail
  rw [← hW]
  have HW := Lib.hid hW
  clear hW
  refine (HPI.out _).mono ?_
  rintro e w6 ⟨rfl, rfl⟩
  go_wp2
  go_region_held3 (fun w' => w'.cell? ⟨w.heap.size, 1, none⟩ = some (.int .i64 x.2.1) ∧ w'.cell? ⟨w.heap.size, 3, none⟩ = some (.int .i64 x.2.2.2.1) ∧ w'.cell? ⟨w.heap.size, 4, none⟩ = some (.int .i64 x.2.2.2.2)) (go_keep) (first
    | (go_at_call 47; refine (HSE.out _).mono ?_; rintro e w3 ⟨rfl, hb3⟩; (have n1 : w3.cell? ⟨w.heap.size, 1, none⟩ = some (.int .i64 x.2.1) := (hb3.cell (p := ⟨w.heap.size, 1, none⟩) HSX.out ).trans x1); (have n3 : w3.cell? ⟨w.heap.size, 3, none⟩ = some (.int .i64 x.2.2.2.1) := (hb3.cell (p := ⟨w.heap.size, 3, none⟩) HSX.out ).trans x3); (have n4 : w3.cell? ⟨w.heap.size, 4, none⟩ = some (.int .i64 x.2.2.2.2) := (hb3.cell (p := ⟨w.heap.size, 4, none⟩) HSX.out ).trans x4); have HB3 := Lib.hid hb3; clear hb3)
    | (go_at_call 48; refine (HRS.out _).mono ?_; rintro e w4 ⟨rfl, hb4⟩; (have m1 : w4.cell? ⟨w.heap.size, 1, none⟩ = some (.int .i64 x.2.1) := (hb4.cell (p := ⟨w.heap.size, 1, none⟩) (Nat.lt_of_lt_of_le HSX.out HB3.out.size) ).trans n1); (have m3 : w4.cell? ⟨w.heap.size, 3, none⟩ = some (.int .i64 x.2.2.2.1) := (hb4.cell (p := ⟨w.heap.size, 3, none⟩) (Nat.lt_of_lt_of_le HSX.out HB3.out.size) ).trans n3); (have m4 : w4.cell? ⟨w.heap.size, 4, none⟩ = some (.int .i64 x.2.2.2.2) := (hb4.cell (p := ⟨w.heap.size, 4, none⟩) (Nat.lt_of_lt_of_le HSX.out HB3.out.size) ).trans n4); (have HB4 := Lib.hid (HB3.out.trans (hb4.mono HB3.out.size))); clear hb4)
    | (go_at_call 8; refine (HPN.out _ ((HGW.out.below HGW.out.lt (Below.drew (Below.refl _ _))).below HGW.out.lt HB4.out)).mono ?_; rintro e w5 ⟨rfl, hb5⟩; (have p1 : w5.cell? ⟨w.heap.size, 1, none⟩ = some (.int .i64 x.2.1) := (hb5.cell (p := ⟨w.heap.size, 1, none⟩) (Nat.lt_of_lt_of_le HSX.out HB4.out.size) ).trans m1); (have p3 : w5.cell? ⟨w.heap.size, 3, none⟩ = some (.int .i64 x.2.2.2.1) := (hb5.cell (p := ⟨w.heap.size, 3, none⟩) (Nat.lt_of_lt_of_le HSX.out HB4.out.size) ).trans m3); (have p4 : w5.cell? ⟨w.heap.size, 4, none⟩ = some (.int .i64 x.2.2.2.2) := (hb5.cell (p := ⟨w.heap.size, 4, none⟩) (Nat.lt_of_lt_of_le HSX.out HB4.out.size) ).trans m4); (have HB5 := Lib.hid (HB4.out.trans (hb5.mono HB4.out.size))); clear hb5))
  go_wp2
  go_ret
  exact ⟨rfl, S0, F0, v0, N0, HXD.out.below HB5.out, Nat.le_succ _, HOW.out.trans (only_b HB5.out) (fun _ _ h => h), fun k hk => .inl hk⟩

set_option maxHeartbeats 4000000 in
theorem does_set1_ok (hk : x.1 % 6 = 1) (hok : okE x.2.2.2.1 x.2.2.2.2 x.2.1) :
    Calls Tryd.prog 23 #[.pointer (some ⟨E, 0, none⟩), .pointer (some ⟨r, 0, none⟩), .agg #[.int .i64 x.1, .int .i64 x.2.1, .int .i64 x.2.2.1, .int .i64 x.2.2.2.1, .int .i64 x.2.2.2.2]] w (DuePost lo E r N0 F0 w) := by
  obtain ⟨W, hW⟩ : ∃ W, W = w.alloc (.cells #[.int .i64 x.1, .int .i64 x.2.1, .int .i64 x.2.2.1, .int .i64 x.2.2.2.1, .int .i64 x.2.2.2.2] 61) := ⟨_, rfl⟩
  have hb : Below w.heap.size w W := by rw [hW]; exact (Below.refl _ _).alloc (Nat.le_refl _) _
  have hbx : W.heap[w.heap.size]? = some (.cells #[.int .i64 x.1, .int .i64 x.2.1, .int .i64 x.2.2.1, .int .i64 x.2.2.2.1, .int .i64 x.2.2.2.2] 61 (0, 0)) := by rw [hW]; exact Ut.alloc_at _ _
  have x0 : W.cell? ⟨w.heap.size, 0, none⟩ = some (.int .i64 x.1) := by rw [row_cell hbx]; rfl
  have x1 : W.cell? ⟨w.heap.size, 1, none⟩ = some (.int .i64 x.2.1) := by rw [row_cell hbx]; rfl
  have x2 : W.cell? ⟨w.heap.size, 2, none⟩ = some (.int .i64 x.2.2.1) := by rw [row_cell hbx]; rfl
  have x3 : W.cell? ⟨w.heap.size, 3, none⟩ = some (.int .i64 x.2.2.2.1) := by rw [row_cell hbx]; rfl
  have x4 : W.cell? ⟨w.heap.size, 4, none⟩ = some (.int .i64 x.2.2.2.2) := by rw [row_cell hbx]; rfl
  have hrl := h.ref.lt
  have HX := Lib.hid (h.below hb)
  have HXD := Lib.hid (HX.out.below (Below.drew (Below.refl _ _)))
  have HSX : Hid (w.heap.size < W.heap.size) := (Array.getElem?_eq_some_iff.1 hbx).1
  have HFX : Hid (¬ F0 w.heap.size) := fun hf => by have := (h.exp.lt _ hf).2; omega
  have HRX : Hid (w.heap.size ≠ r) := by show _ ≠ _; omega
  have HBW := Lib.hid hb
  have HOW : Hid (Only (fun k => F0 k ∨ k = r) w W.drew) := (only_b hb).drew
  have HLO : Hid (lo ≤ W.heap.size) := Nat.le_trans hlo hb.size
  have HGW : Hid (erHandle W) := hg.below hg.lt hb
  have HPI := Lib.hid (fun w' => Pk.pick_any x.1 6 (by omega) (by omega) w')
  have HSL := Lib.hid h.exp.inv.len
  have HN := Lib.hid hN; have HGL := Lib.hid hgl; have HGR : Hid (lo ≤ r) := h.ref.loR
  have HFL : Hid (∀ k, F0 k → k < w.heap.size ∧ lo ≤ k) := fun k hk => ⟨(h.exp.lt k hk).2, (h.exp.lt k hk).1⟩
  obtain ⟨d, hd⟩ : ∃ d, d = x.1 % 6 := ⟨_, rfl⟩
  rw [← hd] at HPI hk
  have HSE := Lib.hid (eset_ok lo E N0 S0 F0 W.drew HXD.out.exp HLO.out (by omega) x.2.2.2.1 x.2.2.2.2 x.2.1 hok)
  have HRS := Lib.hid (fun (w' : World) (hr : RefE lo r S0 v0 w') (hlo : lo ≤ w'.heap.size) => rset_ok lo r S0 v0 w' hr (by have := HSL.out; omega) hlo x.2.2.2.1 x.2.2.2.2 x.2.1 hok)
  have HPN := Lib.hid (fun (w' : World) => (plain_nil 0 w').mono fun e w2 h2 => (h2 : e = .returned (.bool true) ∧ Below w'.heap.size w' w2))
  obtain rfl : d = 1 := hk
  clear hok x0 x2
  clear hb hbx hrl h hlo hN hg hgl hd
  go_enter Tryd.func23, Tryd.ntmps23
  go_wp2_with fail
  rw [← hW]
  have HW := Lib.hid hW
  clear hW
  refine (HPI.out _).mono ?_
  rintro e w6 ⟨rfl, rfl⟩
  go_wp2
  go_region_held3 (fun w' => w'.cell? ⟨w.heap.size, 1, none⟩ = some (.int .i64 x.2.1) ∧ w'.cell? ⟨w.heap.size, 3, none⟩ = some (.int .i64 x.2.2.2.1) ∧ w'.cell? ⟨w.heap.size, 4, none⟩ = some (.int .i64 x.2.2.2.2)) (go_keep) (first
    | (go_at_call 47; refine HSE.out.mono ?_; rintro e w3 ⟨rfl, F', hx3, ho3, hn3⟩; (have n1 : w3.cell? ⟨w.heap.size, 1, none⟩ = some (.int .i64 x.2.1) := (ho3.cell (p := ⟨w.heap.size, 1, none⟩) HSX.out HFX.out).trans x1); (have n3 : w3.cell? ⟨w.heap.size, 3, none⟩ = some (.int .i64 x.2.2.2.1) := (ho3.cell (p := ⟨w.heap.size, 3, none⟩) HSX.out HFX.out).trans x3); (have n4 : w3.cell? ⟨w.heap.size, 4, none⟩ = some (.int .i64 x.2.2.2.2) := (ho3.cell (p := ⟨w.heap.size, 4, none⟩) HSX.out HFX.out).trans x4); (have HB3 := Lib.hid (HXD.out.exps hx3 ho3 hn3)); have HO3 := Lib.hid ho3; have HN3 := Lib.hid hn3; clear hx3 ho3 hn3)
    | (go_at_call 48; refine (HRS.out _ HB3.out.ref (Nat.le_trans HLO.out HO3.out.size)).mono ?_; rintro e w4 ⟨rfl, v', hr4, ho4, hv4⟩; (have m1 : w4.cell? ⟨w.heap.size, 1, none⟩ = some (.int .i64 x.2.1) := (ho4.cell (p := ⟨w.heap.size, 1, none⟩) (Nat.lt_of_lt_of_le HSX.out HO3.out.size) HRX.out).trans n1); (have m3 : w4.cell? ⟨w.heap.size, 3, none⟩ = some (.int .i64 x.2.2.2.1) := (ho4.cell (p := ⟨w.heap.size, 3, none⟩) (Nat.lt_of_lt_of_le HSX.out HO3.out.size) HRX.out).trans n3); (have m4 : w4.cell? ⟨w.heap.size, 4, none⟩ = some (.int .i64 x.2.2.2.2) := (ho4.cell (p := ⟨w.heap.size, 4, none⟩) (Nat.lt_of_lt_of_le HSX.out HO3.out.size) HRX.out).trans n4); (have HB4 := Lib.hid (HB3.out.refs hr4 ho4 hv4)); have HO4 := Lib.hid ho4; clear hr4 ho4 hv4)
    | (go_at_call 8; refine (HPN.out _).mono ?_; rintro e w5 ⟨rfl, hb5⟩; (have p1 : w5.cell? ⟨w.heap.size, 1, none⟩ = some (.int .i64 x.2.1) := (hb5.cell (p := ⟨w.heap.size, 1, none⟩) (Nat.lt_of_lt_of_le HSX.out (Nat.le_trans HO3.out.size HO4.out.size)) ).trans m1); (have p3 : w5.cell? ⟨w.heap.size, 3, none⟩ = some (.int .i64 x.2.2.2.1) := (hb5.cell (p := ⟨w.heap.size, 3, none⟩) (Nat.lt_of_lt_of_le HSX.out (Nat.le_trans HO3.out.size HO4.out.size)) ).trans m3); (have p4 : w5.cell? ⟨w.heap.size, 4, none⟩ = some (.int .i64 x.2.2.2.2) := (hb5.cell (p := ⟨w.heap.size, 4, none⟩) (Nat.lt_of_lt_of_le HSX.out (Nat.le_trans HO3.out.size HO4.out.size)) ).trans m4); have HB5 := Lib.hid hb5; clear hb5))
  go_wp2
  go_ret
  refine ⟨rfl, _, F', v', N0 + 1, HB4.out.below HB5.out, Nat.le_refl _, ((HOW.out.trans (only_l HO3.out) (fun _ _ h => h)).trans (only_r HO4.out) (fun _ _ h => h)).trans (only_b HB5.out) (fun _ _ h => h), fun k hk => ?_⟩
  rcases HN3.out k hk with e | e
  · exact .inl e
  · have e2 : W.heap.size ≤ k := e
    have := HSX.out; right; omega

set_option maxHeartbeats 4000000 in
theorem does_set1_no (hk : x.1 % 6 = 1) (hok : ¬ okE x.2.2.2.1 x.2.2.2.2 x.2.1) :
    Calls Tryd.prog 23 #[.pointer (some ⟨E, 0, none⟩), .pointer (some ⟨r, 0, none⟩), .agg #[.int .i64 x.1, .int .i64 x.2.1, .int .i64 x.2.2.1, .int .i64 x.2.2.2.1, .int .i64 x.2.2.2.2]] w (DuePost lo E r N0 F0 w) := by
  obtain ⟨W, hW⟩ : ∃ W, W = w.alloc (.cells #[.int .i64 x.1, .int .i64 x.2.1, .int .i64 x.2.2.1, .int .i64 x.2.2.2.1, .int .i64 x.2.2.2.2] 61) := ⟨_, rfl⟩
  have hb : Below w.heap.size w W := by rw [hW]; exact (Below.refl _ _).alloc (Nat.le_refl _) _
  have hbx : W.heap[w.heap.size]? = some (.cells #[.int .i64 x.1, .int .i64 x.2.1, .int .i64 x.2.2.1, .int .i64 x.2.2.2.1, .int .i64 x.2.2.2.2] 61 (0, 0)) := by rw [hW]; exact Ut.alloc_at _ _
  have x0 : W.cell? ⟨w.heap.size, 0, none⟩ = some (.int .i64 x.1) := by rw [row_cell hbx]; rfl
  have x1 : W.cell? ⟨w.heap.size, 1, none⟩ = some (.int .i64 x.2.1) := by rw [row_cell hbx]; rfl
  have x2 : W.cell? ⟨w.heap.size, 2, none⟩ = some (.int .i64 x.2.2.1) := by rw [row_cell hbx]; rfl
  have x3 : W.cell? ⟨w.heap.size, 3, none⟩ = some (.int .i64 x.2.2.2.1) := by rw [row_cell hbx]; rfl
  have x4 : W.cell? ⟨w.heap.size, 4, none⟩ = some (.int .i64 x.2.2.2.2) := by rw [row_cell hbx]; rfl
  have hrl := h.ref.lt
  have HX := Lib.hid (h.below hb)
  have HXD := Lib.hid (HX.out.below (Below.drew (Below.refl _ _)))
  have HSX : Hid (w.heap.size < W.heap.size) := (Array.getElem?_eq_some_iff.1 hbx).1
  have HFX : Hid (¬ F0 w.heap.size) := fun hf => by have := (h.exp.lt _ hf).2; omega
  have HRX : Hid (w.heap.size ≠ r) := by show _ ≠ _; omega
  have HBW := Lib.hid hb
  have HOW : Hid (Only (fun k => F0 k ∨ k = r) w W.drew) := (only_b hb).drew
  have HLO : Hid (lo ≤ W.heap.size) := Nat.le_trans hlo hb.size
  have HGW : Hid (erHandle W) := hg.below hg.lt hb
  have HPI := Lib.hid (fun w' => Pk.pick_any x.1 6 (by omega) (by omega) w')
  have HSL := Lib.hid h.exp.inv.len
  have HN := Lib.hid hN; have HGL := Lib.hid hgl; have HGR : Hid (lo ≤ r) := h.ref.loR
  have HFL : Hid (∀ k, F0 k → k < w.heap.size ∧ lo ≤ k) := fun k hk => ⟨(h.exp.lt k hk).2, (h.exp.lt k hk).1⟩
  obtain ⟨d, hd⟩ : ∃ d, d = x.1 % 6 := ⟨_, rfl⟩
  rw [← hd] at HPI hk
  have HSE := Lib.hid (fun w' => eset_no E x.2.2.2.1 x.2.2.2.2 x.2.1 hok w')
  have HRS := Lib.hid (fun (w' : World) => rset_no r x.2.2.2.1 x.2.2.2.2 x.2.1 hok w')
  have HPN := Lib.hid (fun (w' : World) (hh : erHandle w') => (plain_errno 1 1 (by omega) (by omega) w' hh).mono fun e w2 h2 => (h2 : e = .returned (.bool true) ∧ Below w'.heap.size w' w2))
  obtain rfl : d = 1 := hk
  clear hok x0 x2
  clear hb hbx hrl h hlo hN hg hgl hd
  go_enter Tryd.func23, Tryd.ntmps23
  go_wp2_with fail
  rw [← hW]
  have HW := Lib.hid hW
  clear hW
  refine (HPI.out _).mono ?_
  rintro e w6 ⟨rfl, rfl⟩
  go_wp2
  go_region_held3 (fun w' => w'.cell? ⟨w.heap.size, 1, none⟩ = some (.int .i64 x.2.1) ∧ w'.cell? ⟨w.heap.size, 3, none⟩ = some (.int .i64 x.2.2.2.1) ∧ w'.cell? ⟨w.heap.size, 4, none⟩ = some (.int .i64 x.2.2.2.2)) (go_keep) (first
    | (go_at_call 47; refine (HSE.out _).mono ?_; rintro e w3 ⟨rfl, hb3⟩; (have n1 : w3.cell? ⟨w.heap.size, 1, none⟩ = some (.int .i64 x.2.1) := (hb3.cell (p := ⟨w.heap.size, 1, none⟩) HSX.out ).trans x1); (have n3 : w3.cell? ⟨w.heap.size, 3, none⟩ = some (.int .i64 x.2.2.2.1) := (hb3.cell (p := ⟨w.heap.size, 3, none⟩) HSX.out ).trans x3); (have n4 : w3.cell? ⟨w.heap.size, 4, none⟩ = some (.int .i64 x.2.2.2.2) := (hb3.cell (p := ⟨w.heap.size, 4, none⟩) HSX.out ).trans x4); have HB3 := Lib.hid hb3; clear hb3)
    | (go_at_call 48; refine (HRS.out _).mono ?_; rintro e w4 ⟨rfl, hb4⟩; (have m1 : w4.cell? ⟨w.heap.size, 1, none⟩ = some (.int .i64 x.2.1) := (hb4.cell (p := ⟨w.heap.size, 1, none⟩) (Nat.lt_of_lt_of_le HSX.out HB3.out.size) ).trans n1); (have m3 : w4.cell? ⟨w.heap.size, 3, none⟩ = some (.int .i64 x.2.2.2.1) := (hb4.cell (p := ⟨w.heap.size, 3, none⟩) (Nat.lt_of_lt_of_le HSX.out HB3.out.size) ).trans n3); (have m4 : w4.cell? ⟨w.heap.size, 4, none⟩ = some (.int .i64 x.2.2.2.2) := (hb4.cell (p := ⟨w.heap.size, 4, none⟩) (Nat.lt_of_lt_of_le HSX.out HB3.out.size) ).trans n4); (have HB4 := Lib.hid (HB3.out.trans (hb4.mono HB3.out.size))); clear hb4)
    | (go_at_call 8; refine (HPN.out _ ((HGW.out.below HGW.out.lt (Below.drew (Below.refl _ _))).below HGW.out.lt HB4.out)).mono ?_; rintro e w5 ⟨rfl, hb5⟩; (have p1 : w5.cell? ⟨w.heap.size, 1, none⟩ = some (.int .i64 x.2.1) := (hb5.cell (p := ⟨w.heap.size, 1, none⟩) (Nat.lt_of_lt_of_le HSX.out HB4.out.size) ).trans m1); (have p3 : w5.cell? ⟨w.heap.size, 3, none⟩ = some (.int .i64 x.2.2.2.1) := (hb5.cell (p := ⟨w.heap.size, 3, none⟩) (Nat.lt_of_lt_of_le HSX.out HB4.out.size) ).trans m3); (have p4 : w5.cell? ⟨w.heap.size, 4, none⟩ = some (.int .i64 x.2.2.2.2) := (hb5.cell (p := ⟨w.heap.size, 4, none⟩) (Nat.lt_of_lt_of_le HSX.out HB4.out.size) ).trans m4); (have HB5 := Lib.hid (HB4.out.trans (hb5.mono HB4.out.size))); clear hb5))
  go_wp2
  go_ret
  exact ⟨rfl, S0, F0, v0, N0, HXD.out.below HB5.out, Nat.le_succ _, HOW.out.trans (only_b HB5.out) (fun _ _ h => h), fun k hk => .inl hk⟩

set_option maxHeartbeats 4000000 in
theorem does_forget (hk : x.1 % 6 = 2) (hwf : (Lit.int .i64 x.2.2.2.1).wf = true) :
    Calls Tryd.prog 23 #[.pointer (some ⟨E, 0, none⟩), .pointer (some ⟨r, 0, none⟩), .agg #[.int .i64 x.1, .int .i64 x.2.1, .int .i64 x.2.2.1, .int .i64 x.2.2.2.1, .int .i64 x.2.2.2.2]] w (DuePost lo E r N0 F0 w) := by
  obtain ⟨W, hW⟩ : ∃ W, W = w.alloc (.cells #[.int .i64 x.1, .int .i64 x.2.1, .int .i64 x.2.2.1, .int .i64 x.2.2.2.1, .int .i64 x.2.2.2.2] 61) := ⟨_, rfl⟩
  have hb : Below w.heap.size w W := by rw [hW]; exact (Below.refl _ _).alloc (Nat.le_refl _) _
  have hbx : W.heap[w.heap.size]? = some (.cells #[.int .i64 x.1, .int .i64 x.2.1, .int .i64 x.2.2.1, .int .i64 x.2.2.2.1, .int .i64 x.2.2.2.2] 61 (0, 0)) := by rw [hW]; exact Ut.alloc_at _ _
  have x0 : W.cell? ⟨w.heap.size, 0, none⟩ = some (.int .i64 x.1) := by rw [row_cell hbx]; rfl
  have x1 : W.cell? ⟨w.heap.size, 1, none⟩ = some (.int .i64 x.2.1) := by rw [row_cell hbx]; rfl
  have x2 : W.cell? ⟨w.heap.size, 2, none⟩ = some (.int .i64 x.2.2.1) := by rw [row_cell hbx]; rfl
  have x3 : W.cell? ⟨w.heap.size, 3, none⟩ = some (.int .i64 x.2.2.2.1) := by rw [row_cell hbx]; rfl
  have x4 : W.cell? ⟨w.heap.size, 4, none⟩ = some (.int .i64 x.2.2.2.2) := by rw [row_cell hbx]; rfl
  have hrl := h.ref.lt
  have HX := Lib.hid (h.below hb)
  have HXD := Lib.hid (HX.out.below (Below.drew (Below.refl _ _)))
  have HSX : Hid (w.heap.size < W.heap.size) := (Array.getElem?_eq_some_iff.1 hbx).1
  have HFX : Hid (¬ F0 w.heap.size) := fun hf => by have := (h.exp.lt _ hf).2; omega
  have HRX : Hid (w.heap.size ≠ r) := by show _ ≠ _; omega
  have HBW := Lib.hid hb
  have HOW : Hid (Only (fun k => F0 k ∨ k = r) w W.drew) := (only_b hb).drew
  have HLO : Hid (lo ≤ W.heap.size) := Nat.le_trans hlo hb.size
  have HGW : Hid (erHandle W) := hg.below hg.lt hb
  have HPI := Lib.hid (fun w' => Pk.pick_any x.1 6 (by omega) (by omega) w')
  have HSL := Lib.hid h.exp.inv.len
  have HN := Lib.hid hN; have HGL := Lib.hid hgl; have HGR : Hid (lo ≤ r) := h.ref.loR
  have HFL : Hid (∀ k, F0 k → k < w.heap.size ∧ lo ≤ k) := fun k hk => ⟨(h.exp.lt k hk).2, (h.exp.lt k hk).1⟩
  obtain ⟨d, hd⟩ : ∃ d, d = x.1 % 6 := ⟨_, rfl⟩
  rw [← hd] at HPI hk
  have HSE := Lib.hid (eforget_any lo E N0 S0 F0 W.drew HXD.out.exp HLO.out x.2.2.2.1 hwf)
  have HRS := Lib.hid (fun (w' : World) (hr : RefE lo r S0 v0 w') (hlo : lo ≤ w'.heap.size) => rforget_any lo r S0 v0 w' hr (by have := HSL.out; omega) x.2.2.2.1 hlo)
  obtain ⟨q, hq⟩ : ∃ q, q = (birthOf S0 x.2.2.2.1).isSome := ⟨_, rfl⟩
  have hqq : (q == q) = true := by simp
  unfold ForPost WoPost at *
  rw [← hq] at HSE HRS
  obtain rfl : d = 2 := hk
  clear hwf hq x0 x1 x2 x4
  clear hb hbx hrl h hlo hN hg hgl hd
  go_enter Tryd.func23, Tryd.ntmps23
  go_wp2_with fail
  rw [← hW]
  have HW := Lib.hid hW
  clear hW
  refine (HPI.out _).mono ?_
  rintro e w6 ⟨rfl, rfl⟩
  go_wp2
  go_region_held3 (fun w' => w'.cell? ⟨w.heap.size, 3, none⟩ = some (.int .i64 x.2.2.2.1)) (go_keep) (first
    | (go_at_call 49; refine HSE.out.mono ?_; rintro e w3 ⟨rfl, F', hx3, ho3, hn3⟩; (have n3 : w3.cell? ⟨w.heap.size, 3, none⟩ = some (.int .i64 x.2.2.2.1) := (ho3.cell (p := ⟨w.heap.size, 3, none⟩) HSX.out HFX.out).trans x3); (have HB3 := Lib.hid (HXD.out.exps hx3 ho3 hn3)); have HO3 := Lib.hid ho3; have HN3 := Lib.hid hn3; clear hx3 ho3 hn3)
    | (go_at_call 50; refine (HRS.out _ HB3.out.ref (Nat.le_trans HLO.out HO3.out.size)).mono ?_; rintro e w4 ⟨rfl, v', hr4, ho4, hv4⟩; (have m3 : w4.cell? ⟨w.heap.size, 3, none⟩ = some (.int .i64 x.2.2.2.1) := (ho4.cell (p := ⟨w.heap.size, 3, none⟩) (Nat.lt_of_lt_of_le HSX.out HO3.out.size) HRX.out).trans n3); (have HB4 := Lib.hid (HB3.out.refs hr4 ho4 hv4)); have HO4 := Lib.hid ho4; clear hr4 ho4 hv4))
  go_wp2
  go_ret
  refine ⟨by simp, _, F', v', N0, HB4.out, Nat.le_succ _, (HOW.out.trans (only_l HO3.out) (fun _ _ h => h)).trans (only_r HO4.out) (fun _ _ h => h), fun k hk => ?_⟩
  rcases HN3.out k hk with e | e
  · exact .inl e
  · have e2 : W.heap.size ≤ k := e
    have := HSX.out; right; omega

omit h hlo hN hg hgl in
theorem duePost_from {W : World} {e : Ending} {w' : World} (h : DuePost lo E r N0 F0 W e w') (ho : Only (fun k => F0 k ∨ k = r) w W) : DuePost lo E r N0 F0 w e w' := by
  obtain ⟨h1, S, F, v, N, h2, h3, h4, h5⟩ := h
  refine ⟨h1, S, F, v, N, h2, h3, ho.trans h4 (fun _ _ h => h), fun k hk => ?_⟩
  rcases h5 k hk with e | e
  · exact .inl e
  · exact .inr (Nat.le_trans ho.size e)

set_option maxHeartbeats 4000000 in
theorem does_due (hk : x.1 % 6 = 4) :
    Calls Tryd.prog 23 #[.pointer (some ⟨E, 0, none⟩), .pointer (some ⟨r, 0, none⟩), .agg #[.int .i64 x.1, .int .i64 x.2.1, .int .i64 x.2.2.1, .int .i64 x.2.2.2.1, .int .i64 x.2.2.2.2]] w (DuePost lo E r N0 F0 w) := by
  obtain ⟨W, hW⟩ : ∃ W, W = w.alloc (.cells #[.int .i64 x.1, .int .i64 x.2.1, .int .i64 x.2.2.1, .int .i64 x.2.2.2.1, .int .i64 x.2.2.2.2] 61) := ⟨_, rfl⟩
  have hb : Below w.heap.size w W := by rw [hW]; exact (Below.refl _ _).alloc (Nat.le_refl _) _
  have hbx : W.heap[w.heap.size]? = some (.cells #[.int .i64 x.1, .int .i64 x.2.1, .int .i64 x.2.2.1, .int .i64 x.2.2.2.1, .int .i64 x.2.2.2.2] 61 (0, 0)) := by rw [hW]; exact Ut.alloc_at _ _
  have x0 : W.cell? ⟨w.heap.size, 0, none⟩ = some (.int .i64 x.1) := by rw [row_cell hbx]; rfl
  have x1 : W.cell? ⟨w.heap.size, 1, none⟩ = some (.int .i64 x.2.1) := by rw [row_cell hbx]; rfl
  have x2 : W.cell? ⟨w.heap.size, 2, none⟩ = some (.int .i64 x.2.2.1) := by rw [row_cell hbx]; rfl
  have x3 : W.cell? ⟨w.heap.size, 3, none⟩ = some (.int .i64 x.2.2.2.1) := by rw [row_cell hbx]; rfl
  have x4 : W.cell? ⟨w.heap.size, 4, none⟩ = some (.int .i64 x.2.2.2.2) := by rw [row_cell hbx]; rfl
  have hrl := h.ref.lt
  have HX := Lib.hid (h.below hb)
  have HXD := Lib.hid (HX.out.below (Below.drew (Below.refl _ _)))
  have HSX : Hid (w.heap.size < W.heap.size) := (Array.getElem?_eq_some_iff.1 hbx).1
  have HFX : Hid (¬ F0 w.heap.size) := fun hf => by have := (h.exp.lt _ hf).2; omega
  have HRX : Hid (w.heap.size ≠ r) := by show _ ≠ _; omega
  have HBW := Lib.hid hb
  have HOW : Hid (Only (fun k => F0 k ∨ k = r) w W.drew) := (only_b hb).drew
  have HLO : Hid (lo ≤ W.heap.size) := Nat.le_trans hlo hb.size
  have HGW : Hid (erHandle W) := hg.below hg.lt hb
  have HPI := Lib.hid (fun w' => Pk.pick_any x.1 6 (by omega) (by omega) w')
  have HSL := Lib.hid h.exp.inv.len
  have HN := Lib.hid hN; have HGL := Lib.hid hgl; have HGR : Hid (lo ≤ r) := h.ref.loR
  have HFL : Hid (∀ k, F0 k → k < w.heap.size ∧ lo ≤ k) := fun k hk => ⟨(h.exp.lt k hk).2, (h.exp.lt k hk).1⟩
  obtain ⟨d, hd⟩ : ∃ d, d = x.1 % 6 := ⟨_, rfl⟩
  rw [← hd] at HPI hk
  have HDU := Lib.hid (due_any lo E r N0 S0 F0 v0 W HX.out HLO.out hN HGW.out hgl x 1000 (by omega) false)
  obtain rfl : d = 4 := hk
  clear hb hbx hrl h hlo hN hg hgl hd
  go_enter Tryd.func23, Tryd.ntmps23
  go_wp2_with fail
  rw [← hW]
  have HW := Lib.hid hW
  clear hW
  refine (HPI.out _).mono ?_
  rintro e w6 ⟨rfl, rfl⟩
  go_wp2_with fail
  refine HDU.out.mono ?_
  rintro e w3 hp
  have hp2 := duePost_from lo E r N0 F0 w hp (only_b HBW.out)
  obtain ⟨rfl, hp3⟩ := hp2
  have HP : Hid (DuePost lo E r N0 F0 w (.returned (.bool true)) w3) := ⟨rfl, hp3⟩
  clear hp hp3
  go_wp2
  go_ret
  exact HP.out

set_option maxHeartbeats 4000000 in
theorem does_duep (hk : x.1 % 6 = 5) :
    Calls Tryd.prog 23 #[.pointer (some ⟨E, 0, none⟩), .pointer (some ⟨r, 0, none⟩), .agg #[.int .i64 x.1, .int .i64 x.2.1, .int .i64 x.2.2.1, .int .i64 x.2.2.2.1, .int .i64 x.2.2.2.2]] w (DuePost lo E r N0 F0 w) := by
  obtain ⟨W, hW⟩ : ∃ W, W = w.alloc (.cells #[.int .i64 x.1, .int .i64 x.2.1, .int .i64 x.2.2.1, .int .i64 x.2.2.2.1, .int .i64 x.2.2.2.2] 61) := ⟨_, rfl⟩
  have hb : Below w.heap.size w W := by rw [hW]; exact (Below.refl _ _).alloc (Nat.le_refl _) _
  have hbx : W.heap[w.heap.size]? = some (.cells #[.int .i64 x.1, .int .i64 x.2.1, .int .i64 x.2.2.1, .int .i64 x.2.2.2.1, .int .i64 x.2.2.2.2] 61 (0, 0)) := by rw [hW]; exact Ut.alloc_at _ _
  have x0 : W.cell? ⟨w.heap.size, 0, none⟩ = some (.int .i64 x.1) := by rw [row_cell hbx]; rfl
  have x1 : W.cell? ⟨w.heap.size, 1, none⟩ = some (.int .i64 x.2.1) := by rw [row_cell hbx]; rfl
  have x2 : W.cell? ⟨w.heap.size, 2, none⟩ = some (.int .i64 x.2.2.1) := by rw [row_cell hbx]; rfl
  have x3 : W.cell? ⟨w.heap.size, 3, none⟩ = some (.int .i64 x.2.2.2.1) := by rw [row_cell hbx]; rfl
  have x4 : W.cell? ⟨w.heap.size, 4, none⟩ = some (.int .i64 x.2.2.2.2) := by rw [row_cell hbx]; rfl
  have hrl := h.ref.lt
  have HX := Lib.hid (h.below hb)
  have HXD := Lib.hid (HX.out.below (Below.drew (Below.refl _ _)))
  have HSX : Hid (w.heap.size < W.heap.size) := (Array.getElem?_eq_some_iff.1 hbx).1
  have HFX : Hid (¬ F0 w.heap.size) := fun hf => by have := (h.exp.lt _ hf).2; omega
  have HRX : Hid (w.heap.size ≠ r) := by show _ ≠ _; omega
  have HBW := Lib.hid hb
  have HOW : Hid (Only (fun k => F0 k ∨ k = r) w W.drew) := (only_b hb).drew
  have HLO : Hid (lo ≤ W.heap.size) := Nat.le_trans hlo hb.size
  have HGW : Hid (erHandle W) := hg.below hg.lt hb
  have HPI := Lib.hid (fun w' => Pk.pick_any x.1 6 (by omega) (by omega) w')
  have HSL := Lib.hid h.exp.inv.len
  have HN := Lib.hid hN; have HGL := Lib.hid hgl; have HGR : Hid (lo ≤ r) := h.ref.loR
  have HFL : Hid (∀ k, F0 k → k < w.heap.size ∧ lo ≤ k) := fun k hk => ⟨(h.exp.lt k hk).2, (h.exp.lt k hk).1⟩
  obtain ⟨d, hd⟩ : ∃ d, d = x.1 % 6 := ⟨_, rfl⟩
  rw [← hd] at HPI hk
  have HPI2 := Lib.hid (fun w' => Pk.pick_any x.2.2.1 4 (by omega) (by omega) w')
  obtain ⟨m, hm⟩ : ∃ m, m = x.2.2.1 % 4 := ⟨_, rfl⟩
  rw [← hm] at HPI2
  have HM : Hid (0 ≤ m ∧ m < 4) := ⟨by omega, by omega⟩
  have HDU := Lib.hid (due_any lo E r N0 S0 F0 v0 W.drew HXD.out HLO.out hN (HGW.out.below HGW.out.lt (Below.drew (Below.refl _ _))) hgl x (1 + m) (by have := HM.out; omega) true)
  obtain rfl : d = 5 := hk
  clear hm
  have hwr : IntKind.i64.wrap (1 + m) = 1 + m := by have := HM.out; rw [IntWalk.i64_in _ (by omega)]
  clear hb hbx hrl h hlo hN hg hgl hd
  go_enter Tryd.func23, Tryd.ntmps23
  go_wp2_with fail
  rw [← hW]
  have HW := Lib.hid hW
  clear hW
  refine (HPI.out _).mono ?_
  rintro e w6 ⟨rfl, rfl⟩
  go_wp2
  go_region_held3 (fun w' => w'.cell? ⟨w.heap.size, 0, none⟩ = some (.int .i64 x.1) ∧ w'.cell? ⟨w.heap.size, 1, none⟩ = some (.int .i64 x.2.1) ∧ w'.cell? ⟨w.heap.size, 2, none⟩ = some (.int .i64 x.2.2.1) ∧ w'.cell? ⟨w.heap.size, 3, none⟩ = some (.int .i64 x.2.2.2.1) ∧ w'.cell? ⟨w.heap.size, 4, none⟩ = some (.int .i64 x.2.2.2.2)) (go_keep) (first
    | (go_at_call 11; refine (HPI2.out _).mono ?_; rintro e w3 ⟨rfl, rfl⟩)
    | (go_at_call 51; refine HDU.out.mono ?_; rintro e w4 ⟨rfl, S', F', v', N', z1, z2, z3, z4⟩; (have n0 : w4.cell? ⟨w.heap.size, 0, none⟩ = some (.int .i64 x.1) := (z3.cell (p := ⟨w.heap.size, 0, none⟩) HSX.out (fun hf => hf.elim HFX.out HRX.out)).trans x0); (have n1 : w4.cell? ⟨w.heap.size, 1, none⟩ = some (.int .i64 x.2.1) := (z3.cell (p := ⟨w.heap.size, 1, none⟩) HSX.out (fun hf => hf.elim HFX.out HRX.out)).trans x1); (have n2 : w4.cell? ⟨w.heap.size, 2, none⟩ = some (.int .i64 x.2.2.1) := (z3.cell (p := ⟨w.heap.size, 2, none⟩) HSX.out (fun hf => hf.elim HFX.out HRX.out)).trans x2); (have n3 : w4.cell? ⟨w.heap.size, 3, none⟩ = some (.int .i64 x.2.2.2.1) := (z3.cell (p := ⟨w.heap.size, 3, none⟩) HSX.out (fun hf => hf.elim HFX.out HRX.out)).trans x3); (have n4 : w4.cell? ⟨w.heap.size, 4, none⟩ = some (.int .i64 x.2.2.2.2) := (z3.cell (p := ⟨w.heap.size, 4, none⟩) HSX.out (fun hf => hf.elim HFX.out HRX.out)).trans x4); (have HP := Lib.hid (duePost_from lo E r N0 F0 w (⟨rfl, S', F', v', N', z1, z2, z3, z4⟩ : DuePost lo E r N0 F0 W.drew (.returned (.bool true)) w4) HOW.out)); clear z1 z2 z3 z4))
  clear hwr
  go_wp2
  go_ret
  exact HP.out

set_option maxHeartbeats 4000000 in
theorem does_next (hk : x.1 % 6 = 3) :
    Calls Tryd.prog 23 #[.pointer (some ⟨E, 0, none⟩), .pointer (some ⟨r, 0, none⟩), .agg #[.int .i64 x.1, .int .i64 x.2.1, .int .i64 x.2.2.1, .int .i64 x.2.2.2.1, .int .i64 x.2.2.2.2]] w (DuePost lo E r N0 F0 w) := by
  obtain ⟨W, hW⟩ : ∃ W, W = w.alloc (.cells #[.int .i64 x.1, .int .i64 x.2.1, .int .i64 x.2.2.1, .int .i64 x.2.2.2.1, .int .i64 x.2.2.2.2] 61) := ⟨_, rfl⟩
  have hb : Below w.heap.size w W := by rw [hW]; exact (Below.refl _ _).alloc (Nat.le_refl _) _
  have hbx : W.heap[w.heap.size]? = some (.cells #[.int .i64 x.1, .int .i64 x.2.1, .int .i64 x.2.2.1, .int .i64 x.2.2.2.1, .int .i64 x.2.2.2.2] 61 (0, 0)) := by rw [hW]; exact Ut.alloc_at _ _
  have x0 : W.cell? ⟨w.heap.size, 0, none⟩ = some (.int .i64 x.1) := by rw [row_cell hbx]; rfl
  have x1 : W.cell? ⟨w.heap.size, 1, none⟩ = some (.int .i64 x.2.1) := by rw [row_cell hbx]; rfl
  have x2 : W.cell? ⟨w.heap.size, 2, none⟩ = some (.int .i64 x.2.2.1) := by rw [row_cell hbx]; rfl
  have x3 : W.cell? ⟨w.heap.size, 3, none⟩ = some (.int .i64 x.2.2.2.1) := by rw [row_cell hbx]; rfl
  have x4 : W.cell? ⟨w.heap.size, 4, none⟩ = some (.int .i64 x.2.2.2.2) := by rw [row_cell hbx]; rfl
  have hrl := h.ref.lt
  have HX := Lib.hid (h.below hb)
  have HXD := Lib.hid (HX.out.below (Below.drew (Below.refl _ _)))
  have HSX : Hid (w.heap.size < W.heap.size) := (Array.getElem?_eq_some_iff.1 hbx).1
  have HFX : Hid (¬ F0 w.heap.size) := fun hf => by have := (h.exp.lt _ hf).2; omega
  have HRX : Hid (w.heap.size ≠ r) := by show _ ≠ _; omega
  have HBW := Lib.hid hb
  have HOW : Hid (Only (fun k => F0 k ∨ k = r) w W.drew) := (only_b hb).drew
  have HLO : Hid (lo ≤ W.heap.size) := Nat.le_trans hlo hb.size
  have HGW : Hid (erHandle W) := hg.below hg.lt hb
  have HPI := Lib.hid (fun w' => Pk.pick_any x.1 6 (by omega) (by omega) w')
  have HSL := Lib.hid h.exp.inv.len
  have HN := Lib.hid hN; have HGL := Lib.hid hgl; have HGR : Hid (lo ≤ r) := h.ref.loR
  have HFL : Hid (∀ k, F0 k → k < w.heap.size ∧ lo ≤ k) := fun k hk => ⟨(h.exp.lt k hk).2, (h.exp.lt k hk).1⟩
  obtain ⟨d, hd⟩ : ∃ d, d = x.1 % 6 := ⟨_, rfl⟩
  rw [← hd] at HPI hk
  have HRN := Lib.hid (rnext_any lo r S0 v0 W HX.out.ref)
  have HEN := Lib.hid (fun (w' : World) (hh : ExpAt lo E N0 S0 F0 w') => (enext_any lo E N0 S0 F0 w' hh).mono fun e w2 h2 => (⟨by rw [h2.1, nextV_nxt], h2.2⟩ : e = .returned (.tuple #[.int .i64 (nxt S0), .bool (!S0.isEmpty)]) ∧ Below w'.heap.size w' w2))
  obtain ⟨q, hq⟩ : ∃ q, q = (!S0.isEmpty) := ⟨_, rfl⟩
  obtain ⟨m, hm⟩ : ∃ m, m = nxt S0 := ⟨_, rfl⟩
  have hqq : (q == q) = true := by simp
  have hmm : (m == m) = true := by simp
  rw [← hq, ← hm] at HRN HEN
  obtain rfl : d = 3 := hk
  clear hq hm
  clear hb hbx hrl h hlo hN hg hgl hd
  go_enter Tryd.func23, Tryd.ntmps23
  go_wp2_with fail
  rw [← hW]
  have HW := Lib.hid hW
  clear hW
  refine (HPI.out _).mono ?_
  rintro e w6 ⟨rfl, rfl⟩
  go_wp2_with fail
  refine HRN.out.mono ?_
  rintro e w3 ⟨rfl, rfl⟩
  go_wp2_with fail
  refine (HEN.out _ HX.out.exp).mono ?_
  rintro e w4 ⟨rfl, hb4⟩
  have HB4 := Lib.hid hb4
  clear hb4
  go_wp2
  go_ret
  exact ⟨rfl, S0, F0, v0, N0, HX.out.below HB4.out, Nat.le_succ _, (only_b (HBW.out.trans (HB4.out.mono HBW.out.size))), fun k hk => .inl hk⟩

theorem does_any (hwf : (Lit.int .i64 x.2.2.2.1).wf = true) : Calls Tryd.prog 23 #[.pointer (some ⟨E, 0, none⟩), .pointer (some ⟨r, 0, none⟩), .agg #[.int .i64 x.1, .int .i64 x.2.1, .int .i64 x.2.2.1, .int .i64 x.2.2.2.1, .int .i64 x.2.2.2.2]] w (DuePost lo E r N0 F0 w) := by
  have h6 : x.1 % 6 = 0 ∨ x.1 % 6 = 1 ∨ x.1 % 6 = 2 ∨ x.1 % 6 = 3 ∨ x.1 % 6 = 4 ∨ x.1 % 6 = 5 := by omega
  rcases h6 with e | e | e | e | e | e
  · by_cases hok : okE x.2.2.2.1 x.2.2.2.2 x.2.1
    · exact does_set0_ok lo E r N0 S0 F0 v0 w h hlo hN hg hgl x e hok
    · exact does_set0_no lo E r N0 S0 F0 v0 w h hlo hN hg hgl x e hok
  · by_cases hok : okE x.2.2.2.1 x.2.2.2.2 x.2.1
    · exact does_set1_ok lo E r N0 S0 F0 v0 w h hlo hN hg hgl x e hok
    · exact does_set1_no lo E r N0 S0 F0 v0 w h hlo hN hg hgl x e hok
  · exact does_forget lo E r N0 S0 F0 v0 w h hlo hN hg hgl x e hwf
  · exact does_next lo E r N0 S0 F0 v0 w h hlo hN hg hgl x e
  · exact does_due lo E r N0 S0 F0 v0 w h hlo hN hg hgl x e
  · exact does_duep lo E r N0 S0 F0 v0 w h hlo hN hg hgl x e

end
end Ex
end Go.Proofs.YtkmgpajodbadmaaDoor
