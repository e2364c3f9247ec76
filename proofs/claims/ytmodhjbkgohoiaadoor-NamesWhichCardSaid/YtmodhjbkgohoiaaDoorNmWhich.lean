/- NamesWhich: the law's walk. -/
import Derived.Test.YtmodhjbkgohoiaaDoorNmApart
namespace Go.Proofs.YtmodhjbkgohoiaaDoor
open Go.RowKit Go.Proofs.NmPlain
set_option linter.unusedVariables false

/-- A list of the call's own, as a list of texts. -/
theorem own_texts {w : World} {base : Nat} {v : Value} {ps : List ByteArray} (h : w.ownsRow base 9 1 v ps.length (ps.map Value.string)) : TextList w v ps := by
  rcases Nat.eq_zero_or_pos ps.length with h0 | h0
  · have e : ps = [] := List.eq_nil_of_length_eq_zero h0
    subst e
    rcases h.2 with ⟨rfl, _⟩ | ⟨g, cap, cur, rfl, _⟩
    · exact ⟨none, 0, rfl, fun j hj => absurd hj (Nat.not_lt_zero _)⟩
    · exact ⟨_, cap, rfl, fun j hj => absurd hj (Nat.not_lt_zero _)⟩
  · exact own_list h h0

/-- Two lists, one behind the other made, are a family. -/
theorem fam_two {B C : Nat} {w : World} {e : TypeId} {a b : Value} {xs ys : List Value} (h1 : w.ownsRow B e 1 a xs.length xs) (h2 : w.ownsRow C e 1 b ys.length ys) (hC : B ≤ C) (ha : ∀ g, a.ownBlock = some g → g < C) : Fam B w e [a, b] (fun k => if k = 0 then xs else ys) := by
  refine ⟨fun k hk => ?_, fun i j hi hj hij g hg => ?_⟩
  · match k, hk with
    | 0, _ => exact h1
    | 1, _ => exact Ut.own_base h2 hC
  · match i, j, hi, hj with
    | 0, 0, _, _ => exact absurd rfl hij
    | 1, 1, _, _ => exact absurd rfl hij
    | 0, 1, _, _ => intro e2; have := ha g hg; have := (h2.lt g e2).1; omega
    | 1, 0, _, _ => intro e2; have := ha g e2; have := (h2.lt g hg).1; omega

theorem dot_len {l : Bs} {ps : List ByteArray} (h : ps.map (·.data.toList) = if dotB l then split l else []) : ps.length ≤ 4 := by
  have e : ps.length = (ps.map (·.data.toList)).length := by simp
  by_cases hd : dotB l = true
  · rw [hd, if_pos rfl] at h
    rw [e, h]
    unfold dotB at hd
    simp only [Bool.and_eq_true, decide_eq_true_eq] at hd
    exact hd.1
  · rw [if_neg hd] at h
    rw [e, h]; simp

theorem PartsPost.own {l : Bs} {w w' : World} {v : Value} (h : PartsPost l w v w') :
    ∃ ps : List ByteArray, w'.ownsRow w.heap.size 9 1 v ps.length (ps.map Value.string) ∧ ps.map (·.data.toList) = if dotB l then split l else [] := by
  rcases h with ⟨hd, rfl⟩ | ⟨hd, g, ps, rfl, hg, hsp, ht⟩
  · exact ⟨[], World.ownsRow_nil _ _ _ _, by rw [hd]; rfl⟩
  · have h4 : ps.length ≤ 4 := dot_len (l := l) (by rw [hsp, hd, if_pos rfl])
    refine ⟨ps, ⟨by simp, .inr ⟨g, ps.length, _, rfl, hg, ht, Nat.le_refl _, by unfold maxLen; omega, by simp, by simp only [Nat.mul_one]; exact List.take_of_length_le (by simp)⟩⟩, by rw [hd, hsp]; rfl⟩

set_option maxHeartbeats 2000000 in
theorem namesWhich_walk (s : ByteArray) (ws : s.size ≤ maxLen) (w : World) (hsh : w.ShapedOpen Tryd.prog) :
    Calls Tryd.prog 3 #[.string s] w fun e w' => e = .returned (.bool true) ∧ Below w.heap.size w w' := by
  have hm := max_of_shape w hsh
  clear hsh
  by_cases h : s.size ≤ 16777216
  · have b1 : (s.size : Int) ≤ 16777216 := by omega
    clear ws
    go_enter Tryd.func3, Tryd.ntmps3
    go_wp2_with fail
    refine (refparts_any s h _).mono ?_
    rintro e w1 ⟨v0, rfl, hp0, c1⟩
    obtain ⟨ps0, ht0, hq0⟩ := hp0
    have HT0 := Lib.hid ht0; have HQ0 := Lib.hid hq0
    have HM1 := Lib.hid (hm.below c1)
    clear ht0 hq0
    go_wp2_with fail
    refine (parts_any s b1 _ HM1.out).mono ?_
    rintro e w2 ⟨v1, rfl, hp1, d2⟩
    obtain ⟨ps1, ho1, hq1⟩ := hp1.own
    have HO1 := Lib.hid ho1; have HQ1 := Lib.hid hq1
    have c2 := c1.trans (d2.mono c1.size)
    have HM2 := Lib.hid (hm.below c2)
    clear hp1 ho1 hq1
    go_wp2_with fail
    refine (parts_any s b1 _ HM2.out).mono ?_
    rintro e w3 ⟨v2, rfl, hp2, d3⟩
    obtain ⟨ps2, ho2, hq2⟩ := hp2.own
    have c3 := c2.trans (d3.mono c2.size)
    have HM3 := Lib.hid (hm.below c3)
    have HO2 := Lib.hid ho2; have HQ2 := Lib.hid hq2
    have HO1' := Lib.hid (Ut.own_below HO1.out d3)
    have HB1 : Hid (∀ g, v1.ownBlock = some g → g < w2.heap.size) := fun g hg => (HO1.out.lt g hg).2
    have HT0' := Lib.hid (HT0.out.below (d2.trans (d3.mono d2.size)))
    clear hp2 ho2 hq2
    have e1 : ps1 = ps0 := map_inj (by rw [HQ1.out, HQ0.out])
    have e2 : ps2 = ps0 := map_inj (by rw [HQ2.out, HQ0.out])
    subst e1 e2
    have hl4 := dot_len HQ0.out
    obtain ⟨q1, r1, hv1⟩ : ∃ q r, v1 = .slice q ps2.length r := by
      rcases HO1.out.2 with ⟨h1, h2⟩ | ⟨g, cap, cur, h1, _⟩
      · exact ⟨none, 0, by rw [h1, h2]⟩
      · exact ⟨_, cap, h1⟩
    obtain ⟨q2, r2, hv2⟩ : ∃ q r, v2 = .slice q ps2.length r := by
      rcases HO2.out.2 with ⟨h1, h2⟩ | ⟨g, cap, cur, h1, _⟩
      · exact ⟨none, 0, by rw [h1, h2]⟩
      · exact ⟨_, cap, h1⟩
    subst hv1 hv2
    have z1 : w.heap.size ≤ w1.heap.size := c1.size
    have z2 : w1.heap.size ≤ w2.heap.size := d2.size
    have z3 : w2.heap.size ≤ w3.heap.size := d3.size
    have H4 := Lib.hid (fun w' => name_any s (by omega) w'); have H5 := Lib.hid (fun w' => refname_any s h w')
    have H6 := Lib.hid (fun w' (hb : Below w.heap.size w w') => dotted_any s b1 w' (hm.below hb)); have H7 := Lib.hid (fun w' => refdotted_any s h w')
    have hqn : ∀ q : Bool, (q != q) = false := fun q => by cases q <;> rfl
    obtain ⟨qn, hqn1⟩ : ∃ q, q = nameB s.data.toList := ⟨_, rfl⟩
    obtain ⟨qd, hqd1⟩ : ∃ q, q = dotB s.data.toList := ⟨_, rfl⟩
    rw [← hqn1] at H4 H5
    rw [← hqd1] at H6 H7
    have t1 : Hid (∀ w', Below w3.heap.size w3 w' → Calls Tryd.prog 15 #[.slice q1 ps2.length r1, v0] w' fun e w2 => e = .returned (.bool true) ∧ Below w'.heap.size w' w2) := fun w' hb => by
      have := same_any _ _ ps2 ps2 (by omega) (by omega) w' ((own_texts HO1'.out).below hb) (HT0'.out.below hb)
      rw [decide_eq_true rfl] at this
      exact this
    have t2 : Hid (∀ w', Below w3.heap.size w3 w' → Calls Tryd.prog 15 #[.slice q2 ps2.length r2, v0] w' fun e w2 => e = .returned (.bool true) ∧ Below w'.heap.size w' w2) := fun w' hb => by
      have := same_any _ _ ps2 ps2 (by omega) (by omega) w' ((own_texts HO2.out).below hb) (HT0'.out.below hb)
      rw [decide_eq_true rfl] at this
      exact this
    have HA : Hid (∀ w', Below w3.heap.size w3 w' → Calls Tryd.prog 16 #[.slice (some ⟨w'.heap.size, 0, none⟩) 2 2] (w'.alloc (.cells #[.slice q1 ps2.length r1, .slice q2 ps2.length r2] 22)) fun e w2 => e = .returned (.bool true) ∧ Below w.heap.size w w2) := fun w' hb => by
      have hc : Below w.heap.size w (w'.alloc (.cells #[.slice q1 ps2.length r1, .slice q2 ps2.length r2] 22)) := (c3.trans (hb.mono c3.size)).alloc (Nat.le_trans c3.size hb.size) _
      have hb2 : Below w3.heap.size w3 (w'.alloc (.cells #[.slice q1 ps2.length r1, .slice q2 ps2.length r2] 22)) := hb.alloc hb.size _
      have hF := (fam_two (xs := ps2.map Value.string) (ys := ps2.map Value.string) (by simpa using Ut.own_base HO1'.out (Nat.le_refl _)) (by simpa using HO2.out) z2 HB1.out).below hb2
      have := apartTexts_any w1.heap.size w'.heap.size _ [.slice q1 ps2.length r1, .slice q2 ps2.length r2] _ hF (Ut.alloc_at _ _) (by have := hb.size; simp; omega) (by simp) (by simp) (fun k => by
        show ((if k = 0 then ps2.map Value.string else ps2.map Value.string).length : Int) ≤ _
        split <;> (rw [List.length_map]; omega))
      exact this.mono fun e w2 ⟨h1, h2⟩ => ⟨h1, hc.trans (h2.mono z1)⟩
    clear hm h hqn1 hqd1 HM1 HM2 HM3 HT0 HO1 HQ0 HQ1 HQ2 d2 d3 c1 c2 hl4 HB1 z1 z2 z3
    go_wp2_with fail
    refine (H4.out _).mono ?_
    rintro e w4 ⟨rfl, d4⟩
    have g4 := d4.mono (Nat.le_refl _)
    go_wp2_with fail
    refine (H5.out _).mono ?_
    rintro e w5 ⟨rfl, d5⟩
    have g5 := g4.trans (d5.mono g4.size)
    have hq1 := hqn qn
    go_wp2_with fail
    refine (H6.out _ (c3.trans (g5.mono c3.size))).mono ?_
    rintro e w6 ⟨rfl, d6⟩
    have g6 := g5.trans (d6.mono g5.size)
    go_wp2_with fail
    refine (H7.out _).mono ?_
    rintro e w7 ⟨rfl, d7⟩
    have g7 := g6.trans (d7.mono g6.size)
    have hq2 := hqn qd
    clear d4 d5 d6 d7 g4 g5 g6
    go_wp2_with fail
    refine (t1.out _ g7).mono ?_
    rintro e w8 ⟨rfl, d8⟩
    have g8 := g7.trans (d8.mono g7.size)
    go_wp2_with fail
    refine (t2.out _ g8).mono ?_
    rintro e w9 ⟨rfl, d9⟩
    have g9 := g8.trans (d9.mono g8.size)
    go_wp2_with fail
    refine (HA.out _ g9).mono ?_
    rintro e w10 ⟨rfl, d10⟩
    go_wp2
    go_ret
    exact ⟨rfl, d10⟩
  · have h3 : 16777216 < (s.size : Int) := by omega
    clear hm h
    go_enter Tryd.func3, Tryd.ntmps3
    go_wp2
    go_ret
    exact ⟨rfl, Below.refl _ _⟩

end Go.Proofs.YtmodhjbkgohoiaaDoor
