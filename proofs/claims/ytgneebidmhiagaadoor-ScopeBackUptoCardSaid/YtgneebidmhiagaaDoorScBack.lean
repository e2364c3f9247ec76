/- The law ScopeBack. -/
import Derived.Test.YtgneebidmhiagaaDoorScPlain4
import Derived.Test.YtgneebidmhiagaaDoorScJoined
namespace Go.Proofs.YtgneebidmhiagaaDoor
open Go.RowKit Go.Maps Go.ChangeMaps Go.Proofs.NmPlain Go.Proofs.Ar
set_option linter.unusedVariables false
namespace Sc

theorem andNot_eq {s : Nat} {ls : List ByteArray} (hs : s < 18446744073709551616) (hl : ls.length ≤ 64) : (s < 2 ^ ls.length → (bits .andNot .u64 (s : Int) (allS ls : Int) != 0) = false ∧ (bits .andNot .u64 (s : Int) (allS ls : Int) == 0) = true) ∧ (¬ s < 2 ^ ls.length → (bits .andNot .u64 (s : Int) (allS ls : Int) == 0) = false) := by
  have hal := allS_lt hl
  have han := u64_andNot_nat s (allS ls) hs (by omega)
  have hz := andNot_zero hs hl
  have hal2 : allS ls = 2 ^ ls.length - 1 := rfl
  rw [← hal2] at hz
  rw [han]
  obtain ⟨X, hX⟩ : ∃ X, X = s &&& (18446744073709551615 - allS ls) := ⟨_, rfl⟩
  rw [← hX] at hz ⊢
  refine ⟨fun h => ?_, fun h => ?_⟩
  · have := hz.2 h
    subst this
    exact ⟨rfl, rfl⟩
  · rw [beq_eq_false_iff_ne]
    intro e
    exact h (hz.1 (by omega))

theorem printed_size {ls : List ByteArray} (hb : IsBook ls) (s : Nat) : (jn ls s ls.length).length ≤ 8512 := by
  have h1 := join_len_le (xs := (selTo ls s ls.length).map (·.data.toList)) (fun x hx => by
    obtain ⟨y, hy, rfl⟩ := List.mem_map.1 hx
    obtain ⟨i, hi, _, rfl, _⟩ := sel_mem ls s ls.length y hy
    exact dotB_le (hb.dots i hi))
  have h2 := sel_len ls s ls.length
  have h3 := hb.len
  rw [List.length_map] at h1
  show (Lib.join _ _).length ≤ _
  omega

set_option maxHeartbeats 8000000 in
theorem scopeBack_core (v : Value) (ls : List ByteArray) (hl : ls.length ≤ maxLen) (hz : ∀ s ∈ ls, s.size ≤ 1048576) (s : Nat) (hs : s < 18446744073709551616) (t : ByteArray) (hts : t.size ≤ 1048576) (w : World) (hm : MaxAt w) (ht : TextArg w v ls) :
    Calls Tryd.prog 4 #[v, .int .u64 (s : Int), .string t] w fun e w' => e = .returned (.bool true) ∧ Below w.heap.size w w' := by
  have hlI : (ls.length : Int) ≤ 9223372036854775807 := by unfold maxLen at hl; omega
  have hz2 : ∀ s ∈ ls, s.size ≤ 16777216 := fun s h => Nat.le_trans (hz s h) (by omega)
  have HWK := Lib.hid (works_any w hm)
  have HN := Lib.hid (fun w' (hb : Below w.heap.size w w') => new_any v ls hlI (fun _ => hz2) w' (hm.below hb) (ht.below hb))
  obtain ⟨q, c, rfl, -⟩ := id ht
  go_enter Tryd.func4, Tryd.ntmps4
  go_wp2_with fail
  refine HWK.out.mono ?_
  rintro e x1 ⟨rfl, hb1⟩
  go_wp2_with fail
  refine (HN.out _ hb1).mono ?_
  rintro e x2 ⟨hp, hb2⟩
  have cx : Below w.heap.size w x2 := hb1.trans (hb2.mono hb1.size)
  rcases new_shape _ _ _ _ hp with ⟨hbk, B, rfl, hB⟩ | ⟨ty, x, rfl⟩
  · have HBX := Lib.hid hB
    obtain ⟨a, no, at_, e1, r1, r2, r3⟩ := parse_letters ls hbk t.data.toList
    have hal : a < 2 ^ ls.length := by have h := parseL_lt (ls := ls) t.data.toList; rw [e1] at h; exact h
    have hau : a < 18446744073709551616 := by have h := parseL_u64 hbk.len t.data.toList; rw [e1] at h; exact h
    have hno : no = 0 ∨ ∃ ty xx, errV no at_ = .iface ty xx ∧ a = 0 := by
      rcases Int.lt_or_le 0 no with h | h
      · right
        obtain ⟨ty, xx, e⟩ := errV_shape (show 1 ≤ no by omega) at_
        have h5 := parseL_no (ls := ls) (l := t.data.toList)
        rw [e1] at h5
        exact ⟨ty, xx, e, h5 (by show no ≠ 0; omega)⟩
      · left; omega
    have HPT := Lib.hid (fun w' (hb : BookAt x1.heap.size w' B ls) (hb2 : Below w.heap.size w w') => parse_any _ B ls hbk hz2 t (by omega) w' (hm.below hb2) hb)
    unfold ParsePost at HPT
    rw [e1] at HPT
    simp only at HPT
    obtain ⟨U, hU⟩ : ∃ U : ByteArray, U = ⟨(jn ls a ls.length).toArray⟩ := ⟨_, rfl⟩
    have hUl : U.data.toList = jn ls a ls.length := by rw [hU]
    have hUs : U.size = (jn ls a ls.length).length := by rw [← hUl, ← size_toList]
    have HPR := Lib.hid (fun w' (hb : BookAt x1.heap.size w' B ls) => print_any _ B ls hbk a hau w' hb)
    unfold PrintPost at HPR
    rw [printL_lt hal] at HPR
    have e6 : errVal 0 = .nilIface := rfl
    simp only [e6, ← hU] at HPR
    have hps := printed_size hbk a
    have HPU0 := Lib.hid (fun (hu : U.size ≤ 4096) w' (hb : BookAt x1.heap.size w' B ls) (hb2 : Below w.heap.size w w') => (parse_any _ B ls hbk hz2 U (by omega) w' (hm.below hb2) hb).mono fun e w'' h => (⟨by
      have h1 := h.1
      unfold ParsePost at h1
      rw [hUl, parse_print hbk hal (by omega)] at h1
      exact h1, h.2⟩ : e = .returned (.tuple #[.int .u64 (a : Int), .nilIface]) ∧ Below w'.heap.size w' w''))
    have HAL := Lib.hid (fun w' (hb : BookAt x1.heap.size w' B ls) => all_any _ B ls hbk.len w' hb)
    have HAN := Lib.hid ((andNot_eq hau hbk.len).1 hal).1
    have hsl := printed_size hbk s
    by_cases h : s < 2 ^ ls.length
    · have HPS := Lib.hid (fun w' (hb : BookAt x1.heap.size w' B ls) => print_any _ B ls hbk s hs w' hb)
      unfold PrintPost at HPS
      rw [printL_lt h] at HPS
      obtain ⟨V, hV⟩ : ∃ V : ByteArray, V = ⟨(jn ls s ls.length).toArray⟩ := ⟨_, rfl⟩
      have hVl : V.data.toList = jn ls s ls.length := by rw [hV]
      have hVs : V.size = (jn ls s ls.length).length := by rw [← hVl, ← size_toList]
      simp only [e6, ← hV] at HPS
      by_cases hv : V.size ≤ 4096
      · have v1 : (V.size : Int) ≤ 4096 := by omega
        have HPV := Lib.hid (fun w' (hb : BookAt x1.heap.size w' B ls) (hb2 : Below w.heap.size w w') => (parse_any _ B ls hbk hz2 V (by omega) w' (hm.below hb2) hb).mono fun e w'' hh => (⟨by
          have h1 := hh.1
          unfold ParsePost at h1
          rw [hVl, parse_print hbk h (by omega)] at h1
          exact h1, hh.2⟩ : e = .returned (.tuple #[.int .u64 (s : Int), .nilIface]) ∧ Below w'.heap.size w' w''))
        have g0 : ((s : Int) != (s : Int)) = false := by simp
        clear hp hB hb2 HWK HN hz hz2 hlI hl ht hm hbk hs hts hal hau e1 r1 r2 r3 hU hUl hUs hps hsl h hV hVl hVs hv e6
        go_wp2_with fail
        refine (HPS.out _ HBX.out).mono ?_
        rintro e x3 ⟨rfl, b3⟩
        have c3 := cx.trans (b3.mono cx.size)
        have HB3 := Lib.hid (HBX.out.below b3)
        clear b3 HBX
        go_wp2_with fail
        refine (HPV.out _ HB3.out c3).mono ?_
        rintro e x4 ⟨rfl, b4⟩
        have cy := c3.trans (b4.mono c3.size)
        have HBY := Lib.hid (HB3.out.below b4)
        clear b4 HB3
        go_wp2_with fail
        refine (HPT.out _ HBY.out cy).mono ?_
        rintro e y1 ⟨rfl, d1⟩
        have cz := cy.trans (d1.mono cy.size)
        have HBZ := Lib.hid (HBY.out.below d1)
        clear d1 HBY
        rcases hno with rfl | ⟨ty, xx, hE, rfl⟩
        · have e5 : errV 0 at_ = .nilIface := rfl
          rw [e5]
          have g1 := HAN.out
          have g2 : ((a : Int) == (a : Int)) = true := by simp
          have g3 : (U.toList == U.toList) = true := by simp
          clear e5
          go_wp2_with fail
          refine (HPR.out _ HBZ.out).mono ?_
          rintro e y2 ⟨rfl, d2⟩
          have c2 := cz.trans (d2.mono cz.size)
          have HB2 := Lib.hid (HBZ.out.below d2)
          clear d2 HBZ
          go_wp2_with fail
          refine (HAL.out _ HB2.out).mono ?_
          rintro e y3 ⟨rfl, rfl⟩
          by_cases hu : U.size ≤ 4096
          · have u1 : (U.size : Int) ≤ 4096 := by omega
            have HPU := Lib.hid (HPU0.out hu)
            clear hu
            go_wp2_with fail
            refine (HPU.out _ HB2.out c2).mono ?_
            rintro e y4 ⟨rfl, d4⟩
            have c4 := c2.trans (d4.mono c2.size)
            have HB4 := Lib.hid (HB2.out.below d4)
            clear d4 HB2
            go_wp2_with fail
            refine (HPR.out _ HB4.out).mono ?_
            rintro e y5 ⟨rfl, d5⟩
            have c5 := c4.trans (d5.mono c4.size)
            go_wp2
            go_ret
            exact ⟨rfl, c5⟩
          · have u1 : (4096 : Int) < (U.size : Int) := by omega
            clear hu
            go_wp2
            go_ret
            exact ⟨rfl, c2⟩
        · rw [hE]
          go_wp2
          go_ret
          exact ⟨rfl, cz⟩
      · have v1 : (4096 : Int) < (V.size : Int) := by omega
        have HPV := Lib.hid (fun w' (hb : BookAt x1.heap.size w' B ls) (hb2 : Below w.heap.size w w') => parse_any _ B ls hbk hz2 V (by omega) w' (hm.below hb2) hb)
        unfold ParsePost at HPV
        obtain ⟨EE, hEE⟩ : ∃ EE, EE = errV (parseL ls V.data.toList).2.1 (parseL ls V.data.toList).2.2 := ⟨_, rfl⟩
        obtain ⟨nn, hnn⟩ : ∃ nn, nn = (parseL ls V.data.toList).1 := ⟨_, rfl⟩
        rw [← hEE, ← hnn] at HPV
        clear hp hB hb2 HWK HN hz hz2 hlI hl ht hm hbk hs hts hal hau e1 r1 r2 r3 hU hUl hUs hps hsl h hV hVl hVs hv e6 hEE hnn
        go_wp2_with fail
        refine (HPS.out _ HBX.out).mono ?_
        rintro e x3 ⟨rfl, b3⟩
        have c3 := cx.trans (b3.mono cx.size)
        have HB3 := Lib.hid (HBX.out.below b3)
        clear b3 HBX
        go_wp2_with fail
        refine (HPV.out _ HB3.out c3).mono ?_
        rintro e x4 ⟨rfl, b4⟩
        have cy := c3.trans (b4.mono c3.size)
        have HBY := Lib.hid (HB3.out.below b4)
        clear b4 HB3
        go_wp2_with fail
        refine (HPT.out _ HBY.out cy).mono ?_
        rintro e y1 ⟨rfl, d1⟩
        have cz := cy.trans (d1.mono cy.size)
        have HBZ := Lib.hid (HBY.out.below d1)
        clear d1 HBY
        rcases hno with rfl | ⟨ty, xx, hE, rfl⟩
        · have e5 : errV 0 at_ = .nilIface := rfl
          rw [e5]
          have g1 := HAN.out
          have g2 : ((a : Int) == (a : Int)) = true := by simp
          have g3 : (U.toList == U.toList) = true := by simp
          clear e5
          go_wp2_with fail
          refine (HPR.out _ HBZ.out).mono ?_
          rintro e y2 ⟨rfl, d2⟩
          have c2 := cz.trans (d2.mono cz.size)
          have HB2 := Lib.hid (HBZ.out.below d2)
          clear d2 HBZ
          go_wp2_with fail
          refine (HAL.out _ HB2.out).mono ?_
          rintro e y3 ⟨rfl, rfl⟩
          by_cases hu : U.size ≤ 4096
          · have u1 : (U.size : Int) ≤ 4096 := by omega
            have HPU := Lib.hid (HPU0.out hu)
            clear hu
            go_wp2_with fail
            refine (HPU.out _ HB2.out c2).mono ?_
            rintro e y4 ⟨rfl, d4⟩
            have c4 := c2.trans (d4.mono c2.size)
            have HB4 := Lib.hid (HB2.out.below d4)
            clear d4 HB2
            go_wp2_with fail
            refine (HPR.out _ HB4.out).mono ?_
            rintro e y5 ⟨rfl, d5⟩
            have c5 := c4.trans (d5.mono c4.size)
            go_wp2
            go_ret
            exact ⟨rfl, c5⟩
          · have u1 : (4096 : Int) < (U.size : Int) := by omega
            clear hu
            go_wp2
            go_ret
            exact ⟨rfl, c2⟩
        · rw [hE]
          go_wp2
          go_ret
          exact ⟨rfl, cz⟩
    · have HPS := Lib.hid (fun w' (hb : BookAt x1.heap.size w' B ls) => print_any _ B ls hbk s hs w' hb)
      unfold PrintPost at HPS
      rw [printL_ge (by omega)] at HPS
      have e7 : errVal 11 = .iface 66 (.int .i64 11) := rfl
      simp only [e7] at HPS
      have HNU := Lib.hid (fun w' => num_errno 11 (by omega) (by omega) w')
      have g0 := (andNot_eq hs hbk.len).2 h
      clear hp hB hb2 HWK HN hz hz2 hlI hl ht hm hbk hs hts hal hau e1 r1 r2 r3 hU hUl hUs hps hsl h e6 e7
      go_wp2_with fail
      refine (HPS.out _ HBX.out).mono ?_
      rintro e x3 ⟨rfl, b3⟩
      have c3 := cx.trans (b3.mono cx.size)
      have HB3 := Lib.hid (HBX.out.below b3)
      clear b3 HBX
      go_wp2_with fail
      refine (HAL.out _ HB3.out).mono ?_
      rintro e x4 ⟨rfl, rfl⟩
      go_wp2_with fail
      refine (HNU.out _).mono ?_
      rintro e x4 ⟨rfl, rfl⟩
      have cy := c3
      have HBY := Lib.hid HB3.out
      clear c3 HB3
      go_wp2_with fail
      refine (HPT.out _ HBY.out cy).mono ?_
      rintro e y1 ⟨rfl, d1⟩
      have cz := cy.trans (d1.mono cy.size)
      have HBZ := Lib.hid (HBY.out.below d1)
      clear d1 HBY
      rcases hno with rfl | ⟨ty, xx, hE, rfl⟩
      · have e5 : errV 0 at_ = .nilIface := rfl
        rw [e5]
        have g1 := HAN.out
        have g2 : ((a : Int) == (a : Int)) = true := by simp
        have g3 : (U.toList == U.toList) = true := by simp
        clear e5
        go_wp2_with fail
        refine (HPR.out _ HBZ.out).mono ?_
        rintro e y2 ⟨rfl, d2⟩
        have c2 := cz.trans (d2.mono cz.size)
        have HB2 := Lib.hid (HBZ.out.below d2)
        clear d2 HBZ
        go_wp2_with fail
        refine (HAL.out _ HB2.out).mono ?_
        rintro e y3 ⟨rfl, rfl⟩
        by_cases hu : U.size ≤ 4096
        · have u1 : (U.size : Int) ≤ 4096 := by omega
          have HPU := Lib.hid (HPU0.out hu)
          clear hu
          go_wp2_with fail
          refine (HPU.out _ HB2.out c2).mono ?_
          rintro e y4 ⟨rfl, d4⟩
          have c4 := c2.trans (d4.mono c2.size)
          have HB4 := Lib.hid (HB2.out.below d4)
          clear d4 HB2
          go_wp2_with fail
          refine (HPR.out _ HB4.out).mono ?_
          rintro e y5 ⟨rfl, d5⟩
          have c5 := c4.trans (d5.mono c4.size)
          go_wp2
          go_ret
          exact ⟨rfl, c5⟩
        · have u1 : (4096 : Int) < (U.size : Int) := by omega
          clear hu
          go_wp2
          go_ret
          exact ⟨rfl, c2⟩
      · rw [hE]
        go_wp2
        go_ret
        exact ⟨rfl, cz⟩
  · clear hp HWK HN hz hz2 ht hm
    go_wp2
    go_ret
    exact ⟨rfl, cx⟩

end Sc

theorem scopeBack_walk (v : Value) (ls : List ByteArray) (hl : ls.length ≤ maxLen) (hz : ∀ s ∈ ls, s.size ≤ maxLen) (n : Int) (wf : (Lit.int .u64 n).wf = true) (t : ByteArray) (wt : t.size ≤ maxLen) (w : World) (hsh : w.ShapedOpen Tryd.prog) (ht : TextArg w v ls) (hy : ∀ s ∈ ls, s.size ≤ 1048576) (z2 : t.size ≤ 1048576) :
    Calls Tryd.prog 4 #[v, .int .u64 n, .string t] w fun e w' => e = .returned (.bool true) ∧ Below w.heap.size w w' := by
  obtain ⟨s, rfl, hs⟩ := u64_nat wf
  exact Sc.scopeBack_core v ls hl hy s hs t z2 w (max_of_shape w hsh) ht

end Go.Proofs.YtgneebidmhiagaaDoor
