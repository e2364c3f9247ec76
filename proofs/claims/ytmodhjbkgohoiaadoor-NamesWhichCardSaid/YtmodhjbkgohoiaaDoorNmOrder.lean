/- NamesOrder, NamesAbove: the laws' walks. -/
import Derived.Test.YtmodhjbkgohoiaaDoorNmLaw2
import Derived.Test.YtmodhjbkgohoiaaDoorNmPlain2
import Derived.Test.YtmodhjbkgohoiaaDoorRows
import Derived.ProofKit
namespace Go.Proofs.YtmodhjbkgohoiaaDoor
open Go.RowKit Go.Proofs.NmPlain
set_option linter.unusedVariables false

theorem max_of_shape (w : World) (hsh : w.ShapedOpen Tryd.prog) : MaxAt w := Tryd.laysM145.s1_3 w hsh

theorem str_ne {a b : ByteArray} (h : a ≠ b) : (a.toList == b.toList) = false := by
  rw [beq_eq_false_iff_ne, Lib.toList_data, Lib.toList_data]
  intro e; apply h
  cases a; cases b; simpa using e

set_option maxHeartbeats 4000000 in
theorem namesOrder_core (a b c : ByteArray) (ha : (a.size : Int) ≤ 65536) (hb : (b.size : Int) ≤ 65536) (hc : (c.size : Int) ≤ 65536) (w : World) (hm : MaxAt w) :
    Calls Tryd.prog 7 #[.string a, .string b, .string c] w fun e w' => e = .returned (.bool true) ∧ Below w.heap.size w w' := by
  have H0 : Hid (Calls Tryd.prog 19 #[] w fun e w' => e = .returned (.bool true) ∧ Below w.heap.size w w') := works_any w hm
  have cab := fun (w' : World) (h : Below w.heap.size w w') => compare_below a b (by omega) (by omega) w' (hm.below h)
  have cbc := fun (w' : World) (h : Below w.heap.size w w') => compare_below b c (by omega) (by omega) w' (hm.below h)
  have cac := fun (w' : World) (h : Below w.heap.size w w') => compare_below a c (by omega) (by omega) w' (hm.below h)
  have cba := fun (w' : World) (h : Below w.heap.size w w') => compare_below b a (by omega) (by omega) w' (hm.below h)
  have caa := fun (w' : World) (h : Below w.heap.size w w') => compare_below a a (by omega) (by omega) w' (hm.below h)
  simp only [ncmp_ord.anti a.data.toList b.data.toList] at cba
  simp only [ncmp_ord.refl a.data.toList] at caa
  have r1 := ncmp_ord.range a.data.toList b.data.toList
  have r2 := ncmp_ord.range b.data.toList c.data.toList
  have r3 := ncmp_ord.range a.data.toList c.data.toList
  have t1 := ncmp_ord.trans a.data.toList b.data.toList c.data.toList
  have t2 := ncmp_ord.trans c.data.toList b.data.toList a.data.toList
  rw [ncmp_ord.anti b.data.toList c.data.toList, ncmp_ord.anti a.data.toList b.data.toList, ncmp_ord.anti a.data.toList c.data.toList] at t2
  have hz := ncmp_ord.zero a.data.toList b.data.toList
  obtain ⟨x, hx⟩ : ∃ x, x = ncmp a.data.toList b.data.toList := ⟨_, rfl⟩
  obtain ⟨y, hy⟩ : ∃ y, y = ncmp b.data.toList c.data.toList := ⟨_, rfl⟩
  obtain ⟨z, hzz⟩ : ∃ z, z = ncmp a.data.toList c.data.toList := ⟨_, rfl⟩
  simp only [← hx, ← hy, ← hzz] at cab cbc cac cba r1 r2 r3 t1 t2 hz
  have HAB := Lib.hid cab; have HBC := Lib.hid cbc; have HAC := Lib.hid cac; have HBA := Lib.hid cba; have HAA := Lib.hid caa
  obtain ⟨r1a, r1b⟩ := r1
  obtain ⟨r2a, r2b⟩ := r2
  obtain ⟨r3a, r3b⟩ := r3
  clear cab cbc cac cba caa hx hy hzz hm
  have hsz : ¬ ((65536 : Int) < (a.size : Int)) ∧ ¬ ((65536 : Int) < (b.size : Int)) ∧ ¬ ((65536 : Int) < (c.size : Int)) := ⟨by omega, by omega, by omega⟩
  have key : ∀ (q1 : (a = b ∧ x = 0) ∨ (a ≠ b ∧ x ≠ 0)), Calls Tryd.prog 7 #[.string a, .string b, .string c] w fun e w' => e = .returned (.bool true) ∧ Below w.heap.size w w' := by
    intro q1
    have T1 := Lib.hid t1; have T2 := Lib.hid t2
    clear t1 t2 hz hsz
    rcases q1 with ⟨rfl, hx0⟩ | ⟨hne, hx0⟩
    · have q2 : (x == 0) = true := by rw [hx0]; rfl
      have x1 : x ≤ 0 := by omega
      have x2 : 0 ≤ x := by omega
      have HX0 := Lib.hid hx0
      clear hx0
      rcases Int.lt_trichotomy y 0 with hy | hy | hy
      · have z1 : z ≤ 0 := T1.out x1 (by omega)
        go_enter Tryd.func7, Tryd.ntmps7
        go_wp2_with fail
        refine H0.out.mono ?_
        rintro e w1 ⟨rfl, b1⟩
        go_wp2_with fail
        refine (HAB.out _ b1).mono ?_
        rintro e w2 ⟨rfl, b2⟩
        have c2 := b1.trans (b2.mono b1.size)
        go_wp2_with fail
        refine (HBC.out _ c2).mono ?_
        rintro e w3 ⟨rfl, b3⟩
        have c3 := c2.trans (b3.mono c2.size)
        go_wp2_with fail
        refine (HAC.out _ c3).mono ?_
        rintro e w4 ⟨rfl, b4⟩
        have c4 := c3.trans (b4.mono c3.size)
        go_wp2_with fail
        refine (HBA.out _ c4).mono ?_
        rintro e w5 ⟨rfl, b5⟩
        have c5 := c4.trans (b5.mono c4.size)
        go_wp2_with fail
        refine (HAA.out _ c5).mono ?_
        rintro e w6 ⟨rfl, b6⟩
        have c6 := c5.trans (b6.mono c5.size)
        go_wp2
        go_ret
        exact ⟨rfl, c6⟩
      · have z1 : z ≤ 0 := T1.out x1 (by omega)
        have z2 : 0 ≤ z := by have := T2.out (by omega) (by omega); omega
        have zd : decide (z < 0) = false := by simp; omega
        have y1 : y ≤ 0 := by omega
        have y2 : 0 ≤ y := by omega
        clear hy
        go_enter Tryd.func7, Tryd.ntmps7
        go_wp2_with fail
        refine H0.out.mono ?_
        rintro e w1 ⟨rfl, b1⟩
        go_wp2_with fail
        refine (HAB.out _ b1).mono ?_
        rintro e w2 ⟨rfl, b2⟩
        have c2 := b1.trans (b2.mono b1.size)
        go_wp2_with fail
        refine (HBC.out _ c2).mono ?_
        rintro e w3 ⟨rfl, b3⟩
        have c3 := c2.trans (b3.mono c2.size)
        go_wp2_with fail
        refine (HAC.out _ c3).mono ?_
        rintro e w4 ⟨rfl, b4⟩
        have c4 := c3.trans (b4.mono c3.size)
        go_wp2_with fail
        refine (HBA.out _ c4).mono ?_
        rintro e w5 ⟨rfl, b5⟩
        have c5 := c4.trans (b5.mono c4.size)
        go_wp2_with fail
        refine (HAA.out _ c5).mono ?_
        rintro e w6 ⟨rfl, b6⟩
        have c6 := c5.trans (b6.mono c5.size)
        go_wp2
        go_ret
        exact ⟨rfl, c6⟩
      · have z2 : 0 ≤ z := by have := T2.out (by omega) (by omega); omega
        have zd : decide (z < 0) = false := by simp; omega
        go_enter Tryd.func7, Tryd.ntmps7
        go_wp2_with fail
        refine H0.out.mono ?_
        rintro e w1 ⟨rfl, b1⟩
        go_wp2_with fail
        refine (HAB.out _ b1).mono ?_
        rintro e w2 ⟨rfl, b2⟩
        have c2 := b1.trans (b2.mono b1.size)
        go_wp2_with fail
        refine (HBC.out _ c2).mono ?_
        rintro e w3 ⟨rfl, b3⟩
        have c3 := c2.trans (b3.mono c2.size)
        go_wp2_with fail
        refine (HAC.out _ c3).mono ?_
        rintro e w4 ⟨rfl, b4⟩
        have c4 := c3.trans (b4.mono c3.size)
        go_wp2_with fail
        refine (HBA.out _ c4).mono ?_
        rintro e w5 ⟨rfl, b5⟩
        have c5 := c4.trans (b5.mono c4.size)
        go_wp2_with fail
        refine (HAA.out _ c5).mono ?_
        rintro e w6 ⟨rfl, b6⟩
        have c6 := c5.trans (b6.mono c5.size)
        go_wp2
        go_ret
        exact ⟨rfl, c6⟩
    · have q2 : (x == 0) = false := by rw [beq_eq_false_iff_ne]; exact hx0
      have q3 := str_ne hne
      rcases Int.lt_trichotomy x 0 with hx | hx | hx
      · rcases Int.lt_trichotomy y 0 with hy | hy | hy
        · have z1 : z ≤ 0 := T1.out (by omega) (by omega)
          clear hx0 hne
          go_enter Tryd.func7, Tryd.ntmps7
          go_wp2_with fail
          refine H0.out.mono ?_
          rintro e w1 ⟨rfl, b1⟩
          go_wp2_with fail
          refine (HAB.out _ b1).mono ?_
          rintro e w2 ⟨rfl, b2⟩
          have c2 := b1.trans (b2.mono b1.size)
          go_wp2_with fail
          refine (HBC.out _ c2).mono ?_
          rintro e w3 ⟨rfl, b3⟩
          have c3 := c2.trans (b3.mono c2.size)
          go_wp2_with fail
          refine (HAC.out _ c3).mono ?_
          rintro e w4 ⟨rfl, b4⟩
          have c4 := c3.trans (b4.mono c3.size)
          go_wp2_with fail
          refine (HBA.out _ c4).mono ?_
          rintro e w5 ⟨rfl, b5⟩
          have c5 := c4.trans (b5.mono c4.size)
          go_wp2_with fail
          refine (HAA.out _ c5).mono ?_
          rintro e w6 ⟨rfl, b6⟩
          have c6 := c5.trans (b6.mono c5.size)
          go_wp2
          go_ret
          exact ⟨rfl, c6⟩
        · have z1 : z ≤ 0 := T1.out (by omega) (by omega)
          have y1 : y ≤ 0 := by omega
          have y2 : 0 ≤ y := by omega
          clear hy hx0 hne
          go_enter Tryd.func7, Tryd.ntmps7
          go_wp2_with fail
          refine H0.out.mono ?_
          rintro e w1 ⟨rfl, b1⟩
          go_wp2_with fail
          refine (HAB.out _ b1).mono ?_
          rintro e w2 ⟨rfl, b2⟩
          have c2 := b1.trans (b2.mono b1.size)
          go_wp2_with fail
          refine (HBC.out _ c2).mono ?_
          rintro e w3 ⟨rfl, b3⟩
          have c3 := c2.trans (b3.mono c2.size)
          go_wp2_with fail
          refine (HAC.out _ c3).mono ?_
          rintro e w4 ⟨rfl, b4⟩
          have c4 := c3.trans (b4.mono c3.size)
          go_wp2_with fail
          refine (HBA.out _ c4).mono ?_
          rintro e w5 ⟨rfl, b5⟩
          have c5 := c4.trans (b5.mono c4.size)
          go_wp2_with fail
          refine (HAA.out _ c5).mono ?_
          rintro e w6 ⟨rfl, b6⟩
          have c6 := c5.trans (b6.mono c5.size)
          go_wp2
          go_ret
          exact ⟨rfl, c6⟩
        · clear hx0 hne
          go_enter Tryd.func7, Tryd.ntmps7
          go_wp2_with fail
          refine H0.out.mono ?_
          rintro e w1 ⟨rfl, b1⟩
          go_wp2_with fail
          refine (HAB.out _ b1).mono ?_
          rintro e w2 ⟨rfl, b2⟩
          have c2 := b1.trans (b2.mono b1.size)
          go_wp2_with fail
          refine (HBC.out _ c2).mono ?_
          rintro e w3 ⟨rfl, b3⟩
          have c3 := c2.trans (b3.mono c2.size)
          go_wp2_with fail
          refine (HAC.out _ c3).mono ?_
          rintro e w4 ⟨rfl, b4⟩
          have c4 := c3.trans (b4.mono c3.size)
          go_wp2_with fail
          refine (HBA.out _ c4).mono ?_
          rintro e w5 ⟨rfl, b5⟩
          have c5 := c4.trans (b5.mono c4.size)
          go_wp2_with fail
          refine (HAA.out _ c5).mono ?_
          rintro e w6 ⟨rfl, b6⟩
          have c6 := c5.trans (b6.mono c5.size)
          go_wp2
          go_ret
          exact ⟨rfl, c6⟩
      · exact absurd hx hx0
      · rcases Int.lt_trichotomy y 0 with hy | hy | hy
        · clear hx0 hne
          go_enter Tryd.func7, Tryd.ntmps7
          go_wp2_with fail
          refine H0.out.mono ?_
          rintro e w1 ⟨rfl, b1⟩
          go_wp2_with fail
          refine (HAB.out _ b1).mono ?_
          rintro e w2 ⟨rfl, b2⟩
          have c2 := b1.trans (b2.mono b1.size)
          go_wp2_with fail
          refine (HBC.out _ c2).mono ?_
          rintro e w3 ⟨rfl, b3⟩
          have c3 := c2.trans (b3.mono c2.size)
          go_wp2_with fail
          refine (HAC.out _ c3).mono ?_
          rintro e w4 ⟨rfl, b4⟩
          have c4 := c3.trans (b4.mono c3.size)
          go_wp2_with fail
          refine (HBA.out _ c4).mono ?_
          rintro e w5 ⟨rfl, b5⟩
          have c5 := c4.trans (b5.mono c4.size)
          go_wp2_with fail
          refine (HAA.out _ c5).mono ?_
          rintro e w6 ⟨rfl, b6⟩
          have c6 := c5.trans (b6.mono c5.size)
          go_wp2
          go_ret
          exact ⟨rfl, c6⟩
        · have z2 : 0 ≤ z := by have := T2.out (by omega) (by omega); omega
          have zd : decide (z < 0) = false := by simp; omega
          have y1 : y ≤ 0 := by omega
          have y2 : 0 ≤ y := by omega
          clear hy hx0 hne
          go_enter Tryd.func7, Tryd.ntmps7
          go_wp2_with fail
          refine H0.out.mono ?_
          rintro e w1 ⟨rfl, b1⟩
          go_wp2_with fail
          refine (HAB.out _ b1).mono ?_
          rintro e w2 ⟨rfl, b2⟩
          have c2 := b1.trans (b2.mono b1.size)
          go_wp2_with fail
          refine (HBC.out _ c2).mono ?_
          rintro e w3 ⟨rfl, b3⟩
          have c3 := c2.trans (b3.mono c2.size)
          go_wp2_with fail
          refine (HAC.out _ c3).mono ?_
          rintro e w4 ⟨rfl, b4⟩
          have c4 := c3.trans (b4.mono c3.size)
          go_wp2_with fail
          refine (HBA.out _ c4).mono ?_
          rintro e w5 ⟨rfl, b5⟩
          have c5 := c4.trans (b5.mono c4.size)
          go_wp2_with fail
          refine (HAA.out _ c5).mono ?_
          rintro e w6 ⟨rfl, b6⟩
          have c6 := c5.trans (b6.mono c5.size)
          go_wp2
          go_ret
          exact ⟨rfl, c6⟩
        · have z2 : 0 ≤ z := by have := T2.out (by omega) (by omega); omega
          have zd : decide (z < 0) = false := by simp; omega
          clear hx0 hne
          go_enter Tryd.func7, Tryd.ntmps7
          go_wp2_with fail
          refine H0.out.mono ?_
          rintro e w1 ⟨rfl, b1⟩
          go_wp2_with fail
          refine (HAB.out _ b1).mono ?_
          rintro e w2 ⟨rfl, b2⟩
          have c2 := b1.trans (b2.mono b1.size)
          go_wp2_with fail
          refine (HBC.out _ c2).mono ?_
          rintro e w3 ⟨rfl, b3⟩
          have c3 := c2.trans (b3.mono c2.size)
          go_wp2_with fail
          refine (HAC.out _ c3).mono ?_
          rintro e w4 ⟨rfl, b4⟩
          have c4 := c3.trans (b4.mono c3.size)
          go_wp2_with fail
          refine (HBA.out _ c4).mono ?_
          rintro e w5 ⟨rfl, b5⟩
          have c5 := c4.trans (b5.mono c4.size)
          go_wp2_with fail
          refine (HAA.out _ c5).mono ?_
          rintro e w6 ⟨rfl, b6⟩
          have c6 := c5.trans (b6.mono c5.size)
          go_wp2
          go_ret
          exact ⟨rfl, c6⟩
  by_cases hab : a = b
  · exact key (.inl ⟨hab, hz.2 (by rw [hab])⟩)
  · refine key (.inr ⟨hab, fun h => hab ?_⟩)
    have := hz.1 h
    cases a; cases b; simpa using this

end Go.Proofs.YtmodhjbkgohoiaaDoor
