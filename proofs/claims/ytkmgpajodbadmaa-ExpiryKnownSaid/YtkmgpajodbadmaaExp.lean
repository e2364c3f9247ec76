/- An expiry: New, within, Set, Forget. -/
import Derived.Test.YtkmgpajodbadmaaExpMem
namespace Go.Proofs.Ytkmgpajodbadmaa
open Go.RowKit Go.Maps
set_option linter.unusedVariables false
namespace Ex
open Hp (It ahd without HeapAt)

theorem within_yes (n low high : Int) (h1 : low ≤ n) (h2 : n ≤ high) (w : World) : Calls Try.prog 35 #[.int .i64 n, .int .i64 low, .int .i64 high] w fun e w' => e = .returned (.bool true) ∧ w = w' := by
  go_enter Try.func35, Try.ntmps35
  go_wp2
  go_ret
  exact ⟨by simp, rfl⟩
theorem within_no (n low high : Int) (h : n < low ∨ high < n) (w : World) : Calls Try.prog 35 #[.int .i64 n, .int .i64 low, .int .i64 high] w fun e w' => e = .returned (.bool false) ∧ w = w' := by
  by_cases h1 : n < low
  · clear h
    go_enter Try.func35, Try.ntmps35
    go_wp2
    go_ret
    exact ⟨by simp, rfl⟩
  · have h2 : low ≤ n := by omega
    have h3 : high < n := by omega
    clear h h1
    go_enter Try.func35, Try.ntmps35
    go_wp2
    go_ret
    exact ⟨by simp; omega, rfl⟩

def NewPost (w : World) (e : Ending) (w' : World) : Prop := ∃ E F, e = .returned (.pointer (some ⟨E, 0, none⟩)) ∧ ExpAt w.heap.size E 0 [] F w' ∧ Below w.heap.size w w'
theorem enew_any (w : World) : Calls Try.prog 20 #[] w (NewPost w) := by
  have HN := Lib.hid (Hp.hnew_any 32 (by omega) (by omega) w)
  have hmm := @run_makeMap Try.prog
  go_enter Try.func20, Try.ntmps20
  go_wp2_with fail
  refine HN.out.mono ?_
  rintro e w1 ⟨H, F0, rfl, hh, hb⟩
  have hs := hb.size
  have c1 := Ut.alloc_at (w1.alloc (.map #[] 0)) (.cells #[.pointer (some ⟨H, 0, none⟩), .map (some w1.heap.size)] 83)
  have e1 : (w1.alloc (.map #[] 0)).heap.size = w1.heap.size + 1 := by simp
  rw [e1] at c1
  have hb2 : Below w1.heap.size w1 (w1.alloc (.map #[] 0)) := (Below.refl _ _).alloc (Nat.le_refl _) _
  have hb3 : Below w1.heap.size w1 ((w1.alloc (.map #[] 0)).alloc (.cells #[.pointer (some ⟨H, 0, none⟩), .map (some w1.heap.size)] 83)) := hb2.alloc (by simp) _
  have hm := ((World.ownsMap_made w1 Try.prog 3 (plainElem (H := Unit) Try.prog 3)).alloc (.cells #[.pointer (some ⟨H, 0, none⟩), .map (some w1.heap.size)] 83))
  have hR : NewPost w (.returned (.pointer (some ⟨w1.heap.size + 1, 0, none⟩))) ((w1.alloc (.map #[] 0)).alloc (.cells #[.pointer (some ⟨H, 0, none⟩), .map (some w1.heap.size)] 83)) :=
    ⟨w1.heap.size + 1, fun k => k = w1.heap.size + 1 ∨ k = w1.heap.size ∨ F0 k, rfl, ⟨H, w1.heap.size, 0, _, [], F0, c1, by omega, hh.below hb3, List.Perm.refl _, Inv.nil, hm, Nat.le_refl _, ⟨hs, Nat.lt_succ_self _⟩, MapIs.nil, fun k => Iff.rfl, fun hf => by have := (hh.lt _ hf).2; omega, fun hf => by have := (hh.lt _ hf).2; omega⟩, hb.trans (hb3.mono hs)⟩
  have HR := Lib.hid hR
  clear hh hb hs c1 e1 hb2 hb3 hm hR
  go_wp2
  go_ret
  exact HR.out

def okE (s b a : Int) : Prop := 0 ≤ s ∧ s ≤ 31 ∧ 1 ≤ b ∧ b ≤ 1048576 ∧ 0 ≤ a ∧ a ≤ 1099511627776

theorem eset_no (E : Nat) (s b a : Int) (h : ¬ okE s b a) (w : World) : Calls Try.prog 21 #[.pointer (some ⟨E, 0, none⟩), .agg #[.int .i64 s, .int .i64 b], .int .i64 a] w fun e w' => e = .returned (.iface 78 (.int .i64 1)) ∧ Below w.heap.size w w' := by
  have HB : Hid (Below w.heap.size w (w.alloc (.cells #[.int .i64 s, .int .i64 b] 52))) := (Below.refl _ _).alloc (Nat.le_refl _) _
  unfold okE at h
  by_cases h1 : 0 ≤ s ∧ s ≤ 31
  · have HY1 := Lib.hid (fun w => within_yes s 0 31 h1.1 h1.2 w)
    by_cases h2 : 1 ≤ b ∧ b ≤ 1048576
    · have HY2 := Lib.hid (fun w => within_yes b 1 1048576 h2.1 h2.2 w)
      have HY3 := Lib.hid (fun w => within_no a 0 1099511627776 (by omega) w)
      clear h h1 h2
      go_enter Try.func21, Try.ntmps21
      go_wp2_with (first
        | (go_at_call 35; (with_reducible refine (HY1.out _).mono ?_); rintro e w' ⟨rfl, rfl⟩)
        | (go_at_call 35; (with_reducible refine (HY2.out _).mono ?_); rintro e w' ⟨rfl, rfl⟩)
        | (go_at_call 35; (with_reducible refine (HY3.out _).mono ?_); rintro e w' ⟨rfl, rfl⟩))
      go_ret
      exact ⟨rfl, HB.out⟩
    · have HY2 := Lib.hid (fun w => within_no b 1 1048576 (by omega) w)
      clear h h1 h2
      go_enter Try.func21, Try.ntmps21
      go_wp2_with (first
        | (go_at_call 35; (with_reducible refine (HY1.out _).mono ?_); rintro e w' ⟨rfl, rfl⟩)
        | (go_at_call 35; (with_reducible refine (HY2.out _).mono ?_); rintro e w' ⟨rfl, rfl⟩))
      go_ret
      exact ⟨rfl, HB.out⟩
  · have HY1 := Lib.hid (fun w => within_no s 0 31 (by omega) w)
    clear h h1
    go_enter Try.func21, Try.ntmps21
    go_wp2_with (first
      | (go_at_call 35; (with_reducible refine (HY1.out _).mono ?_); rintro e w' ⟨rfl, rfl⟩))
    go_ret
    exact ⟨rfl, HB.out⟩

theorem intLaw : Keyed Try.prog 3 := int_keyed Try.underlying3
theorem mapT : Try.prog.underlying 81 = some (.map 3 3) := Try.underlying81

def SetPost (lo E N : Nat) (S : List Ent) (F : Nat → Prop) (x : Ent) (w : World) (e : Ending) (w' : World) : Prop :=
  e = .returned .nilIface ∧ ∃ F', ExpAt lo E (N + 1) (put (wo S x.1) x) F' w' ∧ Only F w w' ∧ ∀ k, F' k → F k ∨ w.heap.size ≤ k

set_option maxHeartbeats 2000000 in
theorem eset_ok (lo E N : Nat) (S : List Ent) (F : Nat → Prop) (w : World) (h : ExpAt lo E N S F w) (hlo : lo ≤ w.heap.size) (hN : N ≤ 1099511627776) (s b a : Int) (hok : okE s b a) :
    Calls Try.prog 21 #[.pointer (some ⟨E, 0, none⟩), .agg #[.int .i64 s, .int .i64 b], .int .i64 a] w (SetPost lo E N S F (s, b, a) w) := by
  obtain ⟨h1, h2, h3, h4, h5, h6⟩ := hok
  have HOK : Hid (0 ≤ s ∧ s < 32) := ⟨h1, by omega⟩
  have HY1 := Lib.hid (fun w => within_yes s 0 31 h1 h2 w)
  have HY2 := Lib.hid (fun w => within_yes b 1 1048576 h3 h4 w)
  have HY3 := Lib.hid (fun w => within_yes a 0 1099511627776 h5 h6 w)
  have HKEY := Lib.hid (keyOf_int_mk (P := Try.prog) (k := 3) Try.underlying3 (WalkArith.wf_i64 (n := s) (by omega)))
  have HVAL := Lib.hid (plainElem_int (H := Unit) (P := Try.prog) (e := 3) Try.underlying3 (WalkArith.wf_i64 (n := b) (by omega)))
  obtain ⟨W, hW⟩ : ∃ W, W = w.alloc (.cells #[.int .i64 s, .int .i64 b] 52) := ⟨_, rfl⟩
  have hb : Below w.heap.size w W := by rw [hW]; exact (Below.refl _ _).alloc (Nat.le_refl _) _
  have hx := h.below hb
  have hlt := h.lt
  obtain ⟨H, bm, n, D, L, Fh, k1, k2, k3, k4, k5, k6, k7, k8, k9, k10, k11, k12⟩ := hx
  have c0 : W.cell? ⟨E, 0, none⟩ = some (.pointer (some ⟨H, 0, none⟩)) := by rw [cell_of_row _ _ _ _ _ _ k1]; rfl
  have c1 : W.cell? ⟨E, 1, none⟩ = some (.map (some bm)) := by rw [cell_of_row _ _ _ _ _ _ k1]; rfl
  have x0 : W.cell? ⟨w.heap.size, 0, none⟩ = some (.int .i64 s) := by rw [hW]; simp
  have x1 : W.cell? ⟨w.heap.size, 1, none⟩ = some (.int .i64 b) := by rw [hW]; simp
  have hsz : w.heap.size < W.heap.size := by rw [hW]; simp
  have HSE := Lib.hid ((Hp.hset_any lo H 32 L Fh W.drew (k3.below ((Below.refl _ _).drew)) (by omega) (by show lo ≤ W.heap.size; omega) s a).mono fun e w2 h2 => (by
    unfold Hp.SetPost at h2; rw [if_pos (show 0 ≤ s ∧ s < ((32 : Nat) : Int) by omega)] at h2; exact h2 :
    e = .returned .nilIface ∧ ∃ L' F', HeapAt lo H 32 L' F' w2 ∧ List.Perm L' ((s, a) :: without L s) ∧ Only Fh W.drew w2 ∧ ∀ k, F' k → Fh k ∨ W.drew.heap.size ≤ k))
  have hE : E < W.heap.size := (Array.getElem?_eq_some_iff.1 k1).1
  have hF0 : ¬ Fh w.heap.size := fun hf => by have := (hlt _ ((k10 _).2 (.inr (.inr hf)))).2; omega
  have HE := Lib.hid hE; have HF0 := Lib.hid hF0; have HNE := Lib.hid k11; have HNB := Lib.hid k12; have HSZ := Lib.hid hsz; have HLT := Lib.hid hlt
  have HK1 := Lib.hid k1; have HK4 := Lib.hid k4; have HK5 := Lib.hid k5; have HK6 := Lib.hid k6; have HK7 := Lib.hid k7; have HK9 := Lib.hid k9; have HK10 := Lib.hid k10; have HK2 := Lib.hid k2; have HK8 := Lib.hid k8
  have HBW := Lib.hid hb; have HN := Lib.hid hN
  clear h hlt hb k1 k2 k3 k4 k5 k6 k7 k8 k9 k10 k11 k12 hsz hE hF0 h1 h2 h3 h4 h5 h6 hN hlo
  go_enter Try.func21, Try.ntmps21
  go_wp2_with fail
  rw [← hW]
  have HW := Lib.hid hW
  clear hW
  go_wp2_with (first
    | (go_at_call 35; (with_reducible refine (HY1.out _).mono ?_); rintro e w' ⟨rfl, rfl⟩)
    | (go_at_call 35; (with_reducible refine (HY2.out _).mono ?_); rintro e w' ⟨rfl, rfl⟩)
    | (go_at_call 35; (with_reducible refine (HY3.out _).mono ?_); rintro e w' ⟨rfl, rfl⟩))
  go_region_held3 (fun w' => w'.cell? ⟨E, 0, none⟩ = some (.pointer (some ⟨H, 0, none⟩)) ∧ w'.cell? ⟨E, 1, none⟩ = some (.map (some bm)) ∧ w'.cell? ⟨w.heap.size, 0, none⟩ = some (.int .i64 s) ∧ w'.cell? ⟨w.heap.size, 1, none⟩ = some (.int .i64 b)) (go_keep) (first
    | (go_at_call 16; refine HSE.out.mono ?_; rintro e w3 ⟨rfl, L', F', hh, hp, ho, hn⟩; (have n0 : w3.cell? ⟨E, 0, none⟩ = some (.pointer (some ⟨H, 0, none⟩)) := (ho.cell (p := ⟨E, 0, none⟩) HE.out HNE.out).trans c0); (have n1 : w3.cell? ⟨E, 1, none⟩ = some (.map (some bm)) := (ho.cell (p := ⟨E, 1, none⟩) HE.out HNE.out).trans c1); (have n2 : w3.cell? ⟨w.heap.size, 0, none⟩ = some (.int .i64 s) := (ho.cell (p := ⟨w.heap.size, 0, none⟩) HSZ.out HF0.out).trans x0); (have n3 : w3.cell? ⟨w.heap.size, 1, none⟩ = some (.int .i64 b) := (ho.cell (p := ⟨w.heap.size, 1, none⟩) HSZ.out HF0.out).trans x1); have HH := Lib.hid hh; have HP := Lib.hid hp; have HO := Lib.hid ho; have HNW := Lib.hid hn; clear hh hp ho hn))
  have hom : w3.ownsMap Try.prog 3 (plainElem Try.prog 3) bm n D := map_only HK6.out.drew HO.out HNB.out
  have HOM := Lib.hid hom
  have HFIN : Hid (∀ w5, w5.ownsMap Try.prog 3 (plainElem Try.prog 3) bm (n + 1) (D.put (lk s) (.lit (.int .i64 b))) → w3.drew.grownBy w5 (some bm) → SetPost lo E N S F (s, b, a) w (.returned .nilIface) w5) := fun w5 hm5 hg5 => by
    have ho5 : Only (fun k => k = bm) w3 w5 := ((Only.refl (fun k => k = bm) w3).drew).grown hg5 (fun k _ e => by cases e; rfl)
    have hFhbm : ¬ F' bm := fun hf => by
      rcases HNW.out bm hf with h | h
      · exact HNB.out h
      · have : W.heap.size ≤ bm := h
        have := HK6.out.lt; omega
    have hFhE : ¬ F' E := fun hf => by
      rcases HNW.out E hf with h | h
      · exact HNE.out h
      · have : W.heap.size ≤ E := h
        have := HE.out; omega
    have hEbm : E ≠ bm := fun e => by
      have h1 := HK1.out
      obtain ⟨es, cl, h2, _⟩ := HK6.out
      rw [e] at h1; rw [h1] at h2; cases h2
    have hoW : Only F w W.drew := (Only.of_below (F := F) HBW.out).drew
    have ho3 : Only F w w3 := hoW.trans HO.out (fun i hi hf => (HK10.out i).2 (.inr (.inr hf)))
    have hoF : Only F w w5 := ho3.trans ho5 (fun i hi e => by subst e; exact (HK10.out _).2 (.inr (.inl rfl)))
    have hsz3 : W.heap.size ≤ w3.heap.size := HO.out.size
    have htop : w5.heap[E]? = some (.cells #[.pointer (some ⟨H, 0, none⟩), .map (some bm)] 83 (0, 0)) :=
      (ho5.block E (by have := HE.out; omega) hEbm).trans ((HO.out.block E HE.out HNE.out).trans HK1.out)
    refine ⟨rfl, fun k => k = E ∨ k = bm ∨ F' k, ⟨H, bm, n + 1, _, L', F', htop, HK2.out, HH.out.only ho5 (fun k hk e => hFhbm (e ▸ hk)), ?_, (HK5.out.wo s).put HOK.out.1 HOK.out.2 wo_none, hm5, by have := HK7.out; omega, HK8.out, HK9.out.put HK5.out (s, b, a) HOK.out.1 HOK.out.2, fun k => Iff.rfl, hFhE, hFhbm⟩, hoF, fun k hk => ?_⟩
    · refine HP.out.trans (List.Perm.trans ?_ (items_put _ _).symm)
      refine List.Perm.cons _ ?_
      rw [items_wo]; exact Hp.without_perm HK4.out s
    · rcases hk with rfl | rfl | hk
      · exact .inl ((HK10.out _).2 (.inl rfl))
      · exact .inl ((HK10.out _).2 (.inr (.inl rfl)))
      · rcases HNW.out k hk with h | h
        · exact .inl ((HK10.out k).2 (.inr (.inr h)))
        · right
          have h' : W.heap.size ≤ k := h
          have := HSZ.out; omega
  clear hom c0 c1 x0 x1
  have hnm : n < maxLen := by have := HK7.out; have := HN.out; unfold maxLen; omega
  obtain ⟨w5, hrun, hm5, hg5⟩ := HOM.out.drew.update intLaw mapT hnm HKEY.out HVAL.out
  have HF5 := Lib.hid (HFIN.out w5 hm5 hg5)
  clear hm5 hg5
  go_wp2
  go_region
  all_goals (
    go_wp2
    go_ret
    exact HF5.out)

end Ex
end Go.Proofs.Ytkmgpajodbadmaa
