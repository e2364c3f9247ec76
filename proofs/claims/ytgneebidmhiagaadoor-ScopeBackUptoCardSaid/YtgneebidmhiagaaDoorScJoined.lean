/- The law ScopeJoined. -/
import Derived.Test.YtgneebidmhiagaaDoorScPlain3
import Derived.Test.YtgneebidmhiagaaDoorScWorks
namespace Go.Proofs.YtgneebidmhiagaaDoor
open Go.RowKit Go.Maps Go.ChangeMaps Go.Proofs.NmPlain Go.Proofs.Ar
set_option linter.unusedVariables false
namespace Sc

theorem words_place : ∀ (n k : Nat) (l : Bs), l.length = n → ∀ p ∈ wordsAt k l, p.1 ≤ k + l.length := by
  intro n
  induction n using Nat.strongRecOn with
  | ind n ih =>
    intro k l hn p hp
    cases l with
    | nil => rw [wordsAt_nil] at hp; simp at hp
    | cons c r =>
      by_cases hc : c = 32
      · subst hc
        rw [wordsAt_blank] at hp
        have := ih r.length (by simp at hn; omega) (k + 1) r rfl p hp
        simp only [List.length_cons]; omega
      · rw [wordsAt_word hc] at hp
        have hlen : ((c :: r).takeWhile nb).length ≤ (c :: r).length := (tw_facts nb (c :: r)).2.2
        have hp0 : 0 < ((c :: r).takeWhile nb).length := by rw [List.takeWhile_cons, if_pos (by simp [nb, hc])]; simp
        rcases List.mem_cons.1 hp with rfl | hp
        · show k ≤ _; omega
        · have h := ih _ (by rw [List.length_drop, hn]; simp at hn; omega) _ _ rfl p hp
          rw [List.length_drop] at h; omega
theorem parseW_place {ls : List ByteArray} : ∀ (x : List (Nat × Bs)) (s : Nat), (parseW ls x s).2.1 ≠ 0 → ∃ p ∈ x, (parseW ls x s).2.2 = (p.1 : Int)
  | [], s, h => absurd rfl h
  | (k, l) :: r, s, h => by
    by_cases h2 : (wordL ls l).2 = 0
    · rw [parseW_ok h2] at h ⊢
      obtain ⟨p, hp, e⟩ := parseW_place r _ h
      exact ⟨p, by simp [hp], e⟩
    · rw [parseW_no h2]; exact ⟨(k, l), by simp, rfl⟩
theorem small_letters (ls : List ByteArray) {l : Bs} {m : Nat} (hl : l.length ≤ m) (hm : m ≤ 4096) : ∃ (a : Nat) (no at_ : Int), parseL ls l = (a, no, at_) ∧ ((no = 0 ∧ at_ = -1) ∨ (1 ≤ no ∧ no ≤ 24 ∧ 0 ≤ at_ ∧ at_ ≤ (m : Int) ∧ a = 0)) := by
  have e := parseL_small (ls := ls) (l := l) (by omega)
  have hc := parse_cases ls (wordsAt 0 l) 0
  have h1 := parseW_no_zero (ls := ls) (wordsAt 0 l) 0
  have h2 := parseW_ok_at (ls := ls) (wordsAt 0 l) 0
  have h3 := parseW_place (ls := ls) (wordsAt 0 l) 0
  have h4 := words_place _ 0 l rfl
  rw [e]
  obtain ⟨⟨a, no, at_⟩, hx⟩ : ∃ x, x = parseW ls (wordsAt 0 l) 0 := ⟨_, rfl⟩
  rw [← hx] at hc h1 h2 h3 ⊢
  simp only at hc h1 h2 h3
  refine ⟨a, no, at_, rfl, ?_⟩
  by_cases h0 : no = 0
  · exact .inl ⟨h0, h2 h0⟩
  · right
    obtain ⟨p, hp, ep⟩ := h3 h0
    have := h4 p hp
    have h5 := h1 h0
    refine ⟨by omega, hc.2.1, by omega, by omega, h5.1⟩

theorem errV_flt {no at_ : Int} (h1 : 1 ≤ no) (h2 : 0 ≤ at_) : errV no at_ = .iface 71 (Fl.fv at_ no) := by
  unfold errV; rw [if_neg (by omega), if_neg (by omega)]
theorem errV_shape {no : Int} (h1 : 1 ≤ no) (at_ : Int) : ∃ ty x, errV no at_ = .iface ty x := by
  by_cases h : at_ < 0
  · exact ⟨_, _, by unfold errV errVal; rw [if_neg (by omega), if_pos h, if_neg (by omega)]⟩
  · exact ⟨_, _, errV_flt h1 (by omega)⟩

/-- New's answer, in letters. -/
theorem new_shape (ls : List ByteArray) (e : Ending) (lo : Nat) (w : World) (h : NewPost lo ls e w) : (IsBook ls ∧ ∃ B, e = .returned (.tuple #[.pointer (some ⟨B, 0, none⟩), .nilIface]) ∧ BookAt lo w B ls) ∨ ∃ ty x, e = .returned (.tuple #[.pointer none, .iface ty x]) := by
  rcases h with ⟨h1, h2⟩ | ⟨h1, h2⟩
  · exact .inl ⟨book_of h1, h2⟩
  · right
    rcases new_cases ls with h3 | ⟨h3, _⟩
    · exact absurd h3 h1
    · obtain ⟨ty, x, e⟩ := errV_shape h3 (newL ls).2
      exact ⟨ty, x, by rw [h2, e]⟩

set_option maxHeartbeats 4000000 in
theorem scopeJoined_core (v : Value) (ls : List ByteArray) (hl : ls.length ≤ maxLen) (hz : ∀ s ∈ ls, s.size ≤ 1048576) (t u : ByteArray) (hts : t.size ≤ 1048576) (hus : u.size ≤ 1048576) (w : World) (hg : erHandle w) (hm : MaxAt w) (ht : TextArg w v ls) :
    Calls Tryd.prog 7 #[v, .string t, .string u] w fun e w' => e = .returned (.bool true) ∧ Below w.heap.size w w' := by
  have hlI : (ls.length : Int) ≤ 9223372036854775807 := by unfold maxLen at hl; omega
  have hz2 : ∀ s ∈ ls, s.size ≤ 16777216 := fun s h => Nat.le_trans (hz s h) (by omega)
  have HWK := Lib.hid (works_any w hm)
  have HN := Lib.hid (fun w' (hb : Below w.heap.size w w') => new_any v ls hlI (fun _ => hz2) w' (hm.below hb) (ht.below hb))
  have b0 : (t.size : Int) ≤ 1048576 := by omega
  have b1 : (u.size : Int) ≤ 1048576 := by omega
  obtain ⟨q, c, rfl, -⟩ := id ht
  go_enter Tryd.func7, Tryd.ntmps7
  go_wp2_with fail
  refine HWK.out.mono ?_
  rintro e x1 ⟨rfl, hb1⟩
  go_wp2_with fail
  refine (HN.out _ hb1).mono ?_
  rintro e x2 ⟨hp, hb2⟩
  have c2 : Below w.heap.size w x2 := hb1.trans (hb2.mono hb1.size)
  rcases new_shape _ _ _ _ hp with ⟨hbk, B, rfl, hB⟩ | ⟨ty, x, rfl⟩
  · by_cases h1 : t.size ≤ 2000
    · by_cases h2 : u.size ≤ 2000
      · have hzt : t.data.toList.length = t.size := by simp
        have hzu : u.data.toList.length = u.size := by simp
        obtain ⟨a, no, at_, e1, k1⟩ := small_letters ls (l := t.data.toList) (m := 2000) (by omega) (by omega)
        obtain ⟨b, m, ap, e2, k2⟩ := small_letters ls (l := u.data.toList) (m := 2000) (by omega) (by omega)
        have hj := parse_joined (ls := ls) (a := t.data.toList) (b := u.data.toList) (by omega) (by omega)
        rw [e1, e2] at hj
        simp only at hj
        have HP1 := Lib.hid (fun w' (hb : BookAt x1.heap.size w' B ls) (hb2 : Below w.heap.size w w') => parse_any _ B ls hbk hz2 t (by omega) w' (hm.below hb2) hb)
        have HP2 := Lib.hid (fun w' (hb : BookAt x1.heap.size w' B ls) (hb2 : Below w.heap.size w w') => parse_any _ B ls hbk hz2 u (by omega) w' (hm.below hb2) hb)
        have hxl : (t ++ ⟨#[32]⟩ ++ u).data.toList = t.data.toList ++ 32 :: u.data.toList := by simp
        have hxs : (t ++ ⟨#[32]⟩ ++ u).size ≤ 140737488351232 := by
          simp only [ByteArray.size_append]
          have e : (⟨#[32]⟩ : ByteArray).size = 1 := rfl
          rw [e]; omega
        have HP3 := Lib.hid (fun w' (hb : BookAt x1.heap.size w' B ls) (hb2 : Below w.heap.size w w') => parse_any _ B ls hbk hz2 (t ++ ⟨#[32]⟩ ++ u) hxs w' (hm.below hb2) hb)
        unfold ParsePost at HP1 HP2 HP3
        rw [hxl] at HP3
        rw [e1] at HP1
        rw [e2] at HP2
        simp only at HP1 HP2
        have HB2 := Lib.hid hB
        have hua := parseL_u64 hbk.len t.data.toList; rw [e1] at hua; simp only at hua
        have hub := parseL_u64 hbk.len u.data.toList; rw [e2] at hub; simp only at hub
        have HG := Lib.hid (fun w' (hb : Below w.heap.size w w') => hg.below hg.lt hb)
        have d1 : (t.size : Int) ≤ 2000 := by omega
        have d2 : (u.size : Int) ≤ 2000 := by omega
        clear hp hB hb2 HWK HN hz hz2 hlI hl ht hm hg hbk h1 h2 hts hus hxs hxl b0 b1 e1 e2
        rcases k1 with ⟨rfl, rfl⟩ | ⟨n1, n2, n3, n4, rfl⟩
        · rcases k2 with ⟨rfl, rfl⟩ | ⟨m1, m2, m3, m4, rfl⟩
          · rw [if_neg (fun h => h rfl), if_neg (fun h => h rfl)] at hj
            rw [hj] at HP3
            have e0 : errV 0 (-1) = .nilIface := rfl
            simp only [e0] at HP1 HP2 HP3
            have hor := u64_or_nat a b hua hub
            have hqq : (((a ||| b : Nat) : Int) == ((a ||| b : Nat) : Int)) = true := by simp
            clear hj e0 hua hub
            go_wp2_with fail
            refine (HP1.out _ HB2.out c2).mono ?_
            rintro e x3 ⟨rfl, b3⟩
            have c3 := c2.trans (b3.mono c2.size)
            have HB3 := Lib.hid (HB2.out.below b3)
            clear b3 HB2
            go_wp2_with fail
            refine (HP2.out _ HB3.out c3).mono ?_
            rintro e x4 ⟨rfl, b4⟩
            have c4 := c3.trans (b4.mono c3.size)
            have HB4 := Lib.hid (HB3.out.below b4)
            clear b4 HB3
            go_wp2_with fail
            refine (HP3.out _ HB4.out c4).mono ?_
            rintro e x5 ⟨rfl, b5⟩
            have c5 := c4.trans (b5.mono c4.size)
            clear b5 HB4
            go_wp2
            go_ret
            exact ⟨rfl, c5⟩
          · rw [if_neg (fun h => h rfl), if_pos (by omega), hzt] at hj
            rw [hj] at HP3
            have e0 : errV 0 (-1) = .nilIface := rfl
            obtain ⟨F, hF⟩ : ∃ F, F = Fl.fv ap m := ⟨_, rfl⟩
            have hw1 : IntKind.i64.wrap (ap + (t.size : Int)) = ap + (t.size : Int) := IntWalk.i64_in _ (by omega)
            have hw2 : IntKind.i64.wrap (ap + (t.size : Int) + 1) = ap + (t.size : Int) + 1 := IntWalk.i64_in _ (by omega)
            have e3 : ap + ((t.size + 1 : Nat) : Int) = ap + (t.size : Int) + 1 := by omega
            obtain ⟨X, hX⟩ : ∃ X : Int, X = ap + (t.size : Int) + 1 := ⟨_, rfl⟩
            have hx0 : 0 ≤ X := by omega
            simp only [e0] at HP1
            simp only [e3, ← hX] at HP3
            simp only [errV_flt m1 m3] at HP2
            simp only [errV_flt m1 hx0] at HP3
            have HPL := Lib.hid (fun w' (hb : Below w.heap.size w w') => Fl.place_flt ap m m1 m2 w' (HG.out w' hb))
            have HNM := Lib.hid (fun w' => Fl.num_fault ap m m1 m2 w')
            have HAT := Lib.hid (fun w' (hb : Below w.heap.size w w') => Fl.at_flt X m m1 m2 w' (HG.out w' hb))
            rw [← hF] at HP2 HPL HNM
            obtain ⟨G, hG⟩ : ∃ G, G = Fl.fv X m := ⟨_, rfl⟩
            rw [← hG] at HP3 HAT
            have HX := Lib.hid hX
            clear hj e0 hua hub hF hG e3 hX HG
            go_wp2_with fail
            refine (HP1.out _ HB2.out c2).mono ?_
            rintro e x3 ⟨rfl, b3⟩
            have c3 := c2.trans (b3.mono c2.size)
            have HB3 := Lib.hid (HB2.out.below b3)
            clear b3 HB2
            go_wp2_with fail
            refine (HP2.out _ HB3.out c3).mono ?_
            rintro e x4 ⟨rfl, b4⟩
            have c4 := c3.trans (b4.mono c3.size)
            have HB4 := Lib.hid (HB3.out.below b4)
            clear b4 HB3
            go_wp2_with fail
            refine (HP3.out _ HB4.out c4).mono ?_
            rintro e x5 ⟨rfl, b5⟩
            have c5 := c4.trans (b5.mono c4.size)
            clear b5 HB4
            go_wp2_with fail
            refine (HPL.out _ c5).mono ?_
            rintro e x6 ⟨rfl, b6⟩
            have c6 := c5.trans (b6.mono c5.size)
            clear b6
            go_wp2_with fail
            refine (HNM.out _).mono ?_
            rintro e x7 ⟨rfl, b7⟩
            have c7 := c6.trans (b7.mono c6.size)
            clear b7
            go_wp2_with fail
            rw [← HX.out]
            refine (HAT.out _ c7).mono ?_
            rintro e x8 ⟨rfl, b8⟩
            have c8 := c7.trans (b8.mono c7.size)
            go_wp2
            go_ret
            exact ⟨rfl, c8⟩
        · rw [if_pos (by omega)] at hj
          rw [hj] at HP3
          obtain ⟨F, hF⟩ : ∃ F, F = errV m ap := ⟨_, rfl⟩
          obtain ⟨E, hE⟩ : ∃ E, E = Fl.fv at_ no := ⟨_, rfl⟩
          simp only [errV_flt n1 n3] at HP1 HP3
          simp only [← hF] at HP2
          have HPL := Lib.hid (fun w' (hb : Below w.heap.size w w') => Fl.place_flt at_ no n1 n2 w' (HG.out w' hb))
          have HNM := Lib.hid (fun w' => Fl.num_fault at_ no n1 n2 w')
          have HAT := Lib.hid (fun w' (hb : Below w.heap.size w w') => Fl.at_flt at_ no n1 n2 w' (HG.out w' hb))
          rw [← hE] at HP1 HP3 HPL HNM HAT
          clear hj hua hub hF hE HG k2
          go_wp2_with fail
          refine (HP1.out _ HB2.out c2).mono ?_
          rintro e x3 ⟨rfl, b3⟩
          have c3 := c2.trans (b3.mono c2.size)
          have HB3 := Lib.hid (HB2.out.below b3)
          clear b3 HB2
          go_wp2_with fail
          refine (HP2.out _ HB3.out c3).mono ?_
          rintro e x4 ⟨rfl, b4⟩
          have c4 := c3.trans (b4.mono c3.size)
          have HB4 := Lib.hid (HB3.out.below b4)
          clear b4 HB3
          go_wp2_with fail
          refine (HP3.out _ HB4.out c4).mono ?_
          rintro e x5 ⟨rfl, b5⟩
          have c5 := c4.trans (b5.mono c4.size)
          clear b5 HB4
          go_wp2_with fail
          refine (HPL.out _ c5).mono ?_
          rintro e x6 ⟨rfl, b6⟩
          have c6 := c5.trans (b6.mono c5.size)
          clear b6
          go_wp2_with fail
          refine (HNM.out _).mono ?_
          rintro e x7 ⟨rfl, b7⟩
          have c7 := c6.trans (b7.mono c6.size)
          clear b7
          go_wp2_with fail
          refine (HAT.out _ c7).mono ?_
          rintro e x8 ⟨rfl, b8⟩
          have c8 := c7.trans (b8.mono c7.size)
          go_wp2
          go_ret
          exact ⟨rfl, c8⟩
      · have d2 : (2000 : Int) < (u.size : Int) := by omega
        have d1 : (t.size : Int) ≤ 2000 := by omega
        clear hp hB HWK HN hz hz2 ht hm hg hbk
        go_wp2
        go_ret
        exact ⟨rfl, c2⟩
    · have d1 : (2000 : Int) < (t.size : Int) := by omega
      clear hp hB HWK HN hz hz2 ht hm hg hbk
      go_wp2
      go_ret
      exact ⟨rfl, c2⟩
  · clear hp HWK HN hz hz2 ht hm hg
    go_wp2
    go_ret
    exact ⟨rfl, c2⟩

end Sc

theorem scopeJoined_walk (v : Value) (ls : List ByteArray) (hl : ls.length ≤ maxLen) (hz : ∀ s ∈ ls, s.size ≤ maxLen) (t : ByteArray) (wt : t.size ≤ maxLen) (u : ByteArray) (wu : u.size ≤ maxLen) (w : World) (hL : laidMetH Tryd.prog Rows.scopeJoinedRow.laid w) (hsh : w.ShapedOpen Tryd.prog) (ht : TextArg w v ls) (hy : ∀ s ∈ ls, s.size ≤ 1048576) (z1 : t.size ≤ 1048576) (z2 : u.size ≤ 1048576) :
    Calls Tryd.prog 7 #[v, .string t, .string u] w fun e w' => e = .returned (.bool true) ∧ Below w.heap.size w w' :=
  Sc.scopeJoined_core v ls hl hy t u z1 z2 w (handle_of_laid hL (by kernel_rfl)) (max_of_shape w hsh) ht

end Go.Proofs.YtgneebidmhiagaaDoor
