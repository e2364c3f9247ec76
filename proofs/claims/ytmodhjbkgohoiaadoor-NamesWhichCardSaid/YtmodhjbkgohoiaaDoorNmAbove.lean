/- NamesAbove: the law's walk. -/
import Derived.Test.YtmodhjbkgohoiaaDoorNmOrder
namespace Go.Proofs.YtmodhjbkgohoiaaDoor
open Go.RowKit Go.Proofs.NmPlain
set_option linter.unusedVariables false

theorem under_self (l : Bs) : underB l l = dotB l := by
  unfold underB
  simp
theorem under_dots {l m : Bs} (h : underB l m = true) : dotB l = true ∧ dotB m = true ∧ (split m).length ≤ (split l).length ∧ (split l).take (split m).length = split m := by
  unfold underB at h
  simp only [Bool.and_eq_true, decide_eq_true_eq] at h
  exact ⟨h.1.1.1, h.1.1.2, h.1.2, h.2⟩
theorem under_mk {l m : Bs} (h1 : dotB l = true) (h2 : dotB m = true) (h3 : (split m).length ≤ (split l).length) (h4 : (split l).take (split m).length = split m) : underB l m = true := by
  unfold underB
  simp only [Bool.and_eq_true, decide_eq_true_eq]
  exact ⟨⟨⟨h1, h2⟩, h3⟩, h4⟩
theorem under_trans {l m n : Bs} (h1 : underB l m = true) (h2 : underB m n = true) : underB l n = true := by
  obtain ⟨a1, a2, a3, a4⟩ := under_dots h1
  obtain ⟨b1, b2, b3, b4⟩ := under_dots h2
  refine under_mk a1 b2 (by omega) ?_
  have e : (split l).take (split n).length = ((split l).take (split m).length).take (split n).length := by rw [List.take_take, Nat.min_eq_left b3]
  rw [e, a4, b4]
theorem under_anti {l m : Bs} (h1 : underB l m = true) (h2 : underB m l = true) : l = m := by
  obtain ⟨a1, a2, a3, a4⟩ := under_dots h1
  obtain ⟨b1, b2, b3, b4⟩ := under_dots h2
  refine split_inj ?_
  rw [← a4, List.take_of_length_le (by omega)]
theorem under_cmp {l m : Bs} (h : underB l m = true) : ncmp m l ≤ 0 := lcmp_prefix _ _ (under_dots h).2.2.2

set_option maxHeartbeats 4000000 in
theorem namesAbove_core (a b c : ByteArray) (ha : (a.size : Int) ≤ 65536) (hb : (b.size : Int) ≤ 65536) (hc : (c.size : Int) ≤ 65536) (w : World) (hm : MaxAt w) :
    Calls Tryd.prog 6 #[.string a, .string b, .string c] w fun e w' => e = .returned (.bool true) ∧ Below w.heap.size w w' := by
  have H0 : Hid (Calls Tryd.prog 19 #[] w fun e w' => e = .returned (.bool true) ∧ Below w.heap.size w w') := works_any w hm
  have uab := fun (w' : World) (h : Below w.heap.size w w') => under_any a b (by omega) (by omega) w' (hm.below h)
  have ubc := fun (w' : World) (h : Below w.heap.size w w') => under_any b c (by omega) (by omega) w' (hm.below h)
  have uac := fun (w' : World) (h : Below w.heap.size w w') => under_any a c (by omega) (by omega) w' (hm.below h)
  have uba := fun (w' : World) (h : Below w.heap.size w w') => under_any b a (by omega) (by omega) w' (hm.below h)
  have uaa := fun (w' : World) (h : Below w.heap.size w w') => under_any a a (by omega) (by omega) w' (hm.below h)
  have da := fun (w' : World) (h : Below w.heap.size w w') => dotted_any a (by omega) w' (hm.below h)
  have cba := fun (w' : World) (h : Below w.heap.size w w') => compare_below b a (by omega) (by omega) w' (hm.below h)
  simp only [under_self] at uaa
  have f1 : underB a.data.toList b.data.toList = true → underB b.data.toList c.data.toList = true → underB a.data.toList c.data.toList = true := under_trans
  have f2 : underB a.data.toList b.data.toList = true → underB b.data.toList a.data.toList = true → a = b := fun h1 h2 => by
    have := under_anti h1 h2
    cases a; cases b; simpa using this
  have f3 : underB a.data.toList b.data.toList = true → ncmp b.data.toList a.data.toList ≤ 0 := under_cmp
  obtain ⟨x, hx⟩ : ∃ x, x = underB a.data.toList b.data.toList := ⟨_, rfl⟩
  obtain ⟨y, hy⟩ : ∃ y, y = underB b.data.toList c.data.toList := ⟨_, rfl⟩
  obtain ⟨z, hz⟩ : ∃ z, z = underB a.data.toList c.data.toList := ⟨_, rfl⟩
  obtain ⟨u, hu⟩ : ∃ u, u = underB b.data.toList a.data.toList := ⟨_, rfl⟩
  obtain ⟨n, hn⟩ : ∃ n, n = ncmp b.data.toList a.data.toList := ⟨_, rfl⟩
  obtain ⟨d, hd⟩ : ∃ d, d = dotB a.data.toList := ⟨_, rfl⟩
  simp only [← hx, ← hy, ← hz, ← hu, ← hn, ← hd] at uab ubc uac uba uaa da cba f1 f2 f3
  have HAB := Lib.hid uab; have HBC := Lib.hid ubc; have HAC := Lib.hid uac; have HBA := Lib.hid uba; have HAA := Lib.hid uaa; have HD := Lib.hid da; have HC := Lib.hid cba
  clear uab ubc uac uba uaa da cba hx hy hz hu hn hd hm
  have key : ∀ (q1 : x = true → y = true → z = true) (q2 : x = true → u = true → (a.toList == b.toList) = true) (q3 : x = true → n ≤ 0), Calls Tryd.prog 6 #[.string a, .string b, .string c] w fun e w' => e = .returned (.bool true) ∧ Below w.heap.size w w' := by
    clear f1 f2 f3
    intro q1 q2 q3
    have Q1 := Lib.hid q1; have Q2 := Lib.hid q2; have Q3 := Lib.hid q3
    clear q1 q2 q3
    cases x
    · have dd : (d != d) = false := by simp
      clear Q1 Q2 Q3 HBA HC HAC
      go_enter Tryd.func6, Tryd.ntmps6
      go_wp2_with fail
      refine H0.out.mono ?_
      rintro e w1 ⟨rfl, b1⟩
      go_wp2_with fail
      refine (HAB.out _ b1).mono ?_
      rintro e w2 ⟨rfl, b2⟩
      have c2 := b1.trans (b2.mono b1.size)
      go_wp2_with fail
      refine (HBC.out _ c2).mono ?_
      rintro e w3 ⟨rfl, b3⟩
      have c3 := c2.trans (b3.mono c2.size)
      go_wp2_with fail
      refine (HD.out _ c3).mono ?_
      rintro e w4 ⟨rfl, b4⟩
      have c4 := c3.trans (b4.mono c3.size)
      go_wp2_with fail
      refine (HAA.out _ c4).mono ?_
      rintro e w5 ⟨rfl, b5⟩
      have c5 := c4.trans (b5.mono c4.size)
      go_wp2
      go_ret
      exact ⟨rfl, c5⟩
    · have N : Hid (n ≤ 0) := Q3.out rfl
      have U := Q2.out rfl
      have Z := Q1.out rfl
      clear Q1 Q2 Q3
      have hdd : (d != d) = false := by simp
      cases y
      · cases u
        · clear U Z
          have hn := N.out
          go_enter Tryd.func6, Tryd.ntmps6
          go_wp2_with fail
          refine H0.out.mono ?_
          rintro e w1 ⟨rfl, b1⟩
          go_wp2_with fail
          refine (HAB.out _ b1).mono ?_
          rintro e w2 ⟨rfl, b2⟩
          have c2 := b1.trans (b2.mono b1.size)
          go_wp2_with fail
          refine (HBC.out _ c2).mono ?_
          rintro e w3 ⟨rfl, b3⟩
          have c3 := c2.trans (b3.mono c2.size)
          go_wp2_with fail
          refine (HBA.out _ c3).mono ?_
          rintro e w4 ⟨rfl, b4⟩
          have c4 := c3.trans (b4.mono c3.size)
          go_wp2_with fail
          refine (HD.out _ c4).mono ?_
          rintro e w5 ⟨rfl, b5⟩
          have c5 := c4.trans (b5.mono c4.size)
          go_wp2_with fail
          refine (HAA.out _ c5).mono ?_
          rintro e w6 ⟨rfl, b6⟩
          have c6 := c5.trans (b6.mono c5.size)
          go_wp2_with fail
          refine (HC.out _ c6).mono ?_
          rintro e w7 ⟨rfl, b7⟩
          have c7 := c6.trans (b7.mono c6.size)
          go_wp2
          go_ret
          exact ⟨rfl, c7⟩
        · have hs := U rfl
          clear U Z
          have hn := N.out
          go_enter Tryd.func6, Tryd.ntmps6
          go_wp2_with fail
          refine H0.out.mono ?_
          rintro e w1 ⟨rfl, b1⟩
          go_wp2_with fail
          refine (HAB.out _ b1).mono ?_
          rintro e w2 ⟨rfl, b2⟩
          have c2 := b1.trans (b2.mono b1.size)
          go_wp2_with fail
          refine (HBC.out _ c2).mono ?_
          rintro e w3 ⟨rfl, b3⟩
          have c3 := c2.trans (b3.mono c2.size)
          go_wp2_with fail
          refine (HBA.out _ c3).mono ?_
          rintro e w4 ⟨rfl, b4⟩
          have c4 := c3.trans (b4.mono c3.size)
          go_wp2_with fail
          refine (HD.out _ c4).mono ?_
          rintro e w5 ⟨rfl, b5⟩
          have c5 := c4.trans (b5.mono c4.size)
          go_wp2_with fail
          refine (HAA.out _ c5).mono ?_
          rintro e w6 ⟨rfl, b6⟩
          have c6 := c5.trans (b6.mono c5.size)
          go_wp2_with fail
          refine (HC.out _ c6).mono ?_
          rintro e w7 ⟨rfl, b7⟩
          have c7 := c6.trans (b7.mono c6.size)
          go_wp2
          go_ret
          exact ⟨rfl, c7⟩
      · obtain rfl : z = true := Z rfl
        clear Z
        cases u
        · clear U
          have hn := N.out
          go_enter Tryd.func6, Tryd.ntmps6
          go_wp2_with fail
          refine H0.out.mono ?_
          rintro e w1 ⟨rfl, b1⟩
          go_wp2_with fail
          refine (HAB.out _ b1).mono ?_
          rintro e w2 ⟨rfl, b2⟩
          have c2 := b1.trans (b2.mono b1.size)
          go_wp2_with fail
          refine (HBC.out _ c2).mono ?_
          rintro e w3 ⟨rfl, b3⟩
          have c3 := c2.trans (b3.mono c2.size)
          go_wp2_with fail
          refine (HAC.out _ c3).mono ?_
          rintro e w3' ⟨rfl, b3'⟩
          have c3' := c3.trans (b3'.mono c3.size)
          go_wp2_with fail
          refine (HBA.out _ c3').mono ?_
          rintro e w4 ⟨rfl, b4⟩
          have c4 := c3'.trans (b4.mono c3'.size)
          go_wp2_with fail
          refine (HD.out _ c4).mono ?_
          rintro e w5 ⟨rfl, b5⟩
          have c5 := c4.trans (b5.mono c4.size)
          go_wp2_with fail
          refine (HAA.out _ c5).mono ?_
          rintro e w6 ⟨rfl, b6⟩
          have c6 := c5.trans (b6.mono c5.size)
          go_wp2_with fail
          refine (HC.out _ c6).mono ?_
          rintro e w7 ⟨rfl, b7⟩
          have c7 := c6.trans (b7.mono c6.size)
          go_wp2
          go_ret
          exact ⟨rfl, c7⟩
        · have hs := U rfl
          clear U
          have hn := N.out
          go_enter Tryd.func6, Tryd.ntmps6
          go_wp2_with fail
          refine H0.out.mono ?_
          rintro e w1 ⟨rfl, b1⟩
          go_wp2_with fail
          refine (HAB.out _ b1).mono ?_
          rintro e w2 ⟨rfl, b2⟩
          have c2 := b1.trans (b2.mono b1.size)
          go_wp2_with fail
          refine (HBC.out _ c2).mono ?_
          rintro e w3 ⟨rfl, b3⟩
          have c3 := c2.trans (b3.mono c2.size)
          go_wp2_with fail
          refine (HAC.out _ c3).mono ?_
          rintro e w3' ⟨rfl, b3'⟩
          have c3' := c3.trans (b3'.mono c3.size)
          go_wp2_with fail
          refine (HBA.out _ c3').mono ?_
          rintro e w4 ⟨rfl, b4⟩
          have c4 := c3'.trans (b4.mono c3'.size)
          go_wp2_with fail
          refine (HD.out _ c4).mono ?_
          rintro e w5 ⟨rfl, b5⟩
          have c5 := c4.trans (b5.mono c4.size)
          go_wp2_with fail
          refine (HAA.out _ c5).mono ?_
          rintro e w6 ⟨rfl, b6⟩
          have c6 := c5.trans (b6.mono c5.size)
          go_wp2_with fail
          refine (HC.out _ c6).mono ?_
          rintro e w7 ⟨rfl, b7⟩
          have c7 := c6.trans (b7.mono c6.size)
          go_wp2
          go_ret
          exact ⟨rfl, c7⟩
  exact key f1 (fun h1 h2 => by rw [f2 h1 h2]; simp) f3

set_option maxHeartbeats 1000000 in
theorem namesAbove_walk (a : ByteArray) (wa : a.size ≤ maxLen) (b : ByteArray) (wb : b.size ≤ maxLen) (c : ByteArray) (wc : c.size ≤ maxLen) (w : World) (hsh : w.ShapedOpen Tryd.prog) :
    Calls Tryd.prog 6 #[.string a, .string b, .string c] w fun e w' => e = .returned (.bool true) ∧ Below w.heap.size w w' := by
  have hm := max_of_shape w hsh
  unfold maxLen at wa wb wc
  by_cases h : (a.size : Int) ≤ 65536 ∧ (b.size : Int) ≤ 65536 ∧ (c.size : Int) ≤ 65536
  · exact namesAbove_core a b c h.1 h.2.1 h.2.2 w hm
  · have H0 : Hid (Calls Tryd.prog 19 #[] w fun e w' => e = .returned (.bool true) ∧ Below w.heap.size w w') := works_any w hm
    clear hm hsh
    have h3 : 65536 < (a.size : Int) ∨ (¬ 65536 < (a.size : Int) ∧ 65536 < (b.size : Int)) ∨ (¬ 65536 < (a.size : Int) ∧ ¬ 65536 < (b.size : Int) ∧ 65536 < (c.size : Int)) := by omega
    clear h
    rcases h3 with h | ⟨h, h2⟩ | ⟨h, h2, h3⟩
    all_goals
      go_enter Tryd.func6, Tryd.ntmps6
      go_wp2_with fail
      refine H0.out.mono ?_
      rintro e w1 ⟨rfl, b1⟩
      go_wp2
      go_ret
      exact ⟨rfl, b1⟩

set_option maxHeartbeats 1000000 in
theorem namesOrder_walk (a : ByteArray) (wa : a.size ≤ maxLen) (b : ByteArray) (wb : b.size ≤ maxLen) (c : ByteArray) (wc : c.size ≤ maxLen) (w : World) (hsh : w.ShapedOpen Tryd.prog) :
    Calls Tryd.prog 7 #[.string a, .string b, .string c] w fun e w' => e = .returned (.bool true) ∧ Below w.heap.size w w' := by
  have hm := max_of_shape w hsh
  unfold maxLen at wa wb wc
  by_cases h : (a.size : Int) ≤ 65536 ∧ (b.size : Int) ≤ 65536 ∧ (c.size : Int) ≤ 65536
  · exact namesOrder_core a b c h.1 h.2.1 h.2.2 w hm
  · have H0 : Hid (Calls Tryd.prog 19 #[] w fun e w' => e = .returned (.bool true) ∧ Below w.heap.size w w') := works_any w hm
    clear hm hsh
    have h3 : 65536 < (a.size : Int) ∨ (¬ 65536 < (a.size : Int) ∧ 65536 < (b.size : Int)) ∨ (¬ 65536 < (a.size : Int) ∧ ¬ 65536 < (b.size : Int) ∧ 65536 < (c.size : Int)) := by omega
    clear h
    rcases h3 with h | ⟨h, h2⟩ | ⟨h, h2, h3⟩
    all_goals
      go_enter Tryd.func7, Tryd.ntmps7
      go_wp2_with fail
      refine H0.out.mono ?_
      rintro e w1 ⟨rfl, b1⟩
      go_wp2
      go_ret
      exact ⟨rfl, b1⟩

end Go.Proofs.YtmodhjbkgohoiaaDoor
