/- An expiry: Forget. -/
import Derived.Test.YtkmgpajodbadmaaExp
namespace Go.Proofs.Ytkmgpajodbadmaa
open Go.RowKit Go.Maps
set_option linter.unusedVariables false
namespace Ex
open Hp (It ahd without HeapAt)

theorem zeroI (w : World) : (zeroValue 3).run Try.prog w = .ok (.int .i64 0) w := by kernel_rfl
theorem wo_same {S : List Ent} {s : Int} (h : birthOf S s = none) : wo S s = S := by
  unfold wo
  rw [List.filter_eq_self]
  intro e he
  unfold birthOf at h
  have h2 := List.find?_eq_none.1 (Option.map_eq_none_iff.1 h) e he
  simpa using h2

def ForPost (lo E N : Nat) (S : List Ent) (F : Nat → Prop) (s : Int) (w : World) (e : Ending) (w' : World) : Prop :=
  e = .returned (.bool (birthOf S s).isSome) ∧ ∃ F', ExpAt lo E N (wo S s) F' w' ∧ Only F w w' ∧ ∀ k, F' k → F k ∨ w.heap.size ≤ k

set_option maxHeartbeats 2000000 in
theorem eforget_any (lo E N : Nat) (S : List Ent) (F : Nat → Prop) (w : World) (h : ExpAt lo E N S F w) (hlo : lo ≤ w.heap.size) (s : Int) (hs : (Lit.int .i64 s).wf = true) :
    Calls Try.prog 24 #[.pointer (some ⟨E, 0, none⟩), .int .i64 s] w (ForPost lo E N S F s w) := by
  have HKEY := Lib.hid (keyOf_int_mk (P := Try.prog) (k := 3) Try.underlying3 hs)
  have HX := Lib.hid h
  obtain ⟨H, bm, n, D, L, Fh, k1, k2, k3, k4, k5, k6, k7, k8, k9, k10, k11, k12⟩ := h
  have c0 : w.cell? ⟨E, 0, none⟩ = some (.pointer (some ⟨H, 0, none⟩)) := by rw [cell_of_row _ _ _ _ _ _ k1]; rfl
  have c1 : w.cell? ⟨E, 1, none⟩ = some (.map (some bm)) := by rw [cell_of_row _ _ _ _ _ _ k1]; rfl
  have hhas := (k9.2 s).1
  have HM := Lib.hid k6
  by_cases hb : birthOf S s = none
  · rw [hb] at hhas
    have hh : Maps.has D (lk s) = false := hhas
    have HR : Hid (ForPost lo E N S F s w (.returned (.bool false)) w) := ⟨by rw [hb]; rfl, F, by rw [wo_same hb]; exact HX.out, Only.refl _ _, fun k hk => .inl hk⟩
    clear k1 k2 k3 k4 k5 k6 k7 k8 k9 k10 k11 k12 hhas hb hlo
    go_enter Try.func24, Try.ntmps24
    go_wp2_with (first | (at_lookup; refine wpList_lookup_own_ok_int _ rfl _ _ 81 rfl 3 3 .i64 intLaw mapT Try.underlying3 (zeroI _) bm n _ rfl HM.out _ (lk s) rfl HKEY.out ?_; intro c2 hat hwc))
    go_ret
    exact HR.out
  · obtain ⟨bb, hbb⟩ := Option.ne_none_iff_exists'.1 hb
    rw [hbb] at hhas
    have hh : Maps.has D (lk s) = true := hhas
    have hkey : (Hp.keyOf L s).isSome = true := by
      rw [Hp.keyOf_perm k3.good k4, keyOf_items, hbb]; rfl
    have HBB := Lib.hid hbb
    have hE : E < w.heap.size := (Array.getElem?_eq_some_iff.1 k1).1
    have hEbm : E ≠ bm := fun e => by
      obtain ⟨es, cl, h2, _⟩ := k6
      rw [e] at k1; rw [k1] at h2; cases h2
    have HK1 := Lib.hid k1; have HK2 := Lib.hid k2; have HK3 := Lib.hid k3; have HK4 := Lib.hid k4; have HK5 := Lib.hid k5; have HK7 := Lib.hid k7; have HK8 := Lib.hid k8; have HK9 := Lib.hid k9; have HK10 := Lib.hid k10; have HNE := Lib.hid k11; have HNB := Lib.hid k12
    have HKY := Lib.hid hkey; have HE := Lib.hid hE; have HEB := Lib.hid hEbm; have HLO := Lib.hid hlo
    clear k1 k2 k3 k4 k5 k6 k7 k8 k9 k10 k11 k12 hhas hb hbb hkey hE hEbm hlo
    go_enter Try.func24, Try.ntmps24
    go_wp2_with (first
      | (at_lookup; refine wpList_lookup_own_ok_int _ rfl _ _ 81 rfl 3 3 .i64 intLaw mapT Try.underlying3 (zeroI _) bm n _ rfl HM.out _ (lk s) rfl HKEY.out ?_; intro c2 hat hwc)
      | (at_delete; refine wpList_delete_own _ rfl _ _ 81 3 rfl 3 intLaw mapT _ bm n D rfl HM.out _ _ rfl HKEY.out ?_; intro w1 hown1 hturn1; (have HO1 : Hid (Only (fun k => k = bm) w w1) := (Only.refl (fun k => k = bm) w).grown hturn1.grown (fun k _ e => by cases e; rfl)); (have d0 : w1.cell? ⟨E, 0, none⟩ = some (.pointer (some ⟨H, 0, none⟩)) := (HO1.out.cell (p := ⟨E, 0, none⟩) HE.out HEB.out).trans c0); (have HH1 := Lib.hid (HK3.out.only HO1.out (fun k hk e => HNB.out (e ▸ hk)))); have HM1 := Lib.hid hown1; (have HDR := Lib.hid (Hp.hdrop_any lo H 32 L Fh w1 HH1.out (by omega) s)); clear hown1 hturn1)
      | (go_at_call 17; refine HDR.out.mono ?_; rintro e w3 ⟨rfl, L', F', hh3, hp3, ho3, hn3⟩; rw [HKY.out]; have HH3 := Lib.hid hh3; have HP3 := Lib.hid hp3; have HO3 := Lib.hid ho3; have HN3 := Lib.hid hn3; clear hh3 hp3 ho3 hn3))
    have hlt := HX.out.lt
    have hR : ForPost lo E N S F s w (.returned (.bool true)) w3 := by
      have hs1 : w.heap.size ≤ w1.heap.size := HO1.out.size
      have hFbm : ¬ F' bm := fun hf => by
        rcases HN3.out bm hf with h | h
        · exact HNB.out h
        · have := HM.out.lt; omega
      have hFE : ¬ F' E := fun hf => by
        rcases HN3.out E hf with h | h
        · exact HNE.out h
        · have := HE.out; omega
      have hoF : Only F w w3 := (HO1.out.mono (G := F) (fun i hi e => by subst e; exact (HK10.out _).2 (.inr (.inl rfl)))).trans HO3.out (fun i hi hf => (HK10.out i).2 (.inr (.inr hf)))
      have htop : w3.heap[E]? = some (.cells #[.pointer (some ⟨H, 0, none⟩), .map (some bm)] 83 (0, 0)) :=
        (HO3.out.block E (by have := HE.out; omega) HNE.out).trans ((HO1.out.block E HE.out HEB.out).trans HK1.out)
      refine ⟨by rw [HBB.out]; rfl, fun k => k = E ∨ k = bm ∨ F' k, ⟨H, bm, n, _, L', F', htop, HK2.out, HH3.out, ?_, HK5.out.wo s, map_only HM1.out HO3.out HNB.out, HK7.out, HK8.out, HK9.out.del s, fun k => Iff.rfl, hFE, hFbm⟩, hoF, fun k hk => ?_⟩
      · rw [items_wo]; exact HP3.out.trans (Hp.without_perm HK4.out s)
      · rcases hk with rfl | rfl | hk
        · exact .inl ((HK10.out _).2 (.inl rfl))
        · exact .inl ((HK10.out _).2 (.inr (.inl rfl)))
        · rcases HN3.out k hk with h | h
          · exact .inl ((HK10.out k).2 (.inr (.inr h)))
          · right; omega
    have HR := Lib.hid hR
    clear hR
    go_ret
    exact HR.out

end Ex
end Go.Proofs.Ytkmgpajodbadmaa
