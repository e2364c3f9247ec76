/- The law ScopeParses. -/
import Derived.Test.YtgneebidmhiagaaDoorScLaw
namespace Go.Proofs.YtgneebidmhiagaaDoor
open Go.RowKit Go.Maps Go.ChangeMaps Go.Proofs.NmPlain Go.Proofs.Ar
set_option linter.unusedVariables false
namespace Sc

theorem parseW_u64 {ls : List ByteArray} (hl : ls.length ≤ 64) : ∀ (r : List (Nat × Bs)) (s : Nat), s < 18446744073709551616 → (parseW ls r s).1 < 18446744073709551616
  | [], s, hs => hs
  | (k, l) :: r, s, hs => by
    by_cases h : (wordL ls l).2 = 0
    · rw [parseW_ok h]; exact parseW_u64 hl r _ (or_u64 hs (word_u64 hl l))
    · rw [parseW_no h]; show 0 < _; omega
theorem parseL_u64 {ls : List ByteArray} (hl : ls.length ≤ 64) (l : Bs) : (parseL ls l).1 < 18446744073709551616 := by
  unfold parseL
  split
  · show 0 < _; omega
  · exact parseW_u64 hl _ _ (by omega)

/-- What Parse tells of a text, as letters. -/
theorem parse_letters (ls : List ByteArray) (hbk : IsBook ls) (l : Bs) : ∃ (a : Nat) (no at_ : Int), parseL ls l = (a, no, at_) ∧ 0 ≤ no ∧ no ≤ 24 ∧ (no = 0 → at_ < 0) := by
  have h := parseL_cases ls l
  exact ⟨_, _, _, rfl, h⟩

set_option maxHeartbeats 4000000 in
theorem scopeParses_core (v : Value) (ls : List ByteArray) (hl : ls.length ≤ maxLen) (hz : ∀ s ∈ ls, s.size ≤ 1048576) (t u : ByteArray) (hts : t.size ≤ 1048576) (hus : u.size ≤ 1048576) (w : World) (hg : erHandle w) (hm : MaxAt w) (ht : TextArg w v ls) :
    Calls Tryd.prog 6 #[v, .string t, .string u] w fun e w' => e = .returned (.bool true) ∧ Below w.heap.size w w' := by
  have hlI : (ls.length : Int) ≤ 9223372036854775807 := by unfold maxLen at hl; omega
  have hz2 : ∀ s ∈ ls, s.size ≤ 16777216 := fun s h => Nat.le_trans (hz s h) (by omega)
  have HR := Lib.hid (refnew_any v ls hlI (fun _ => hz2) w ht)
  obtain ⟨q, c, rfl, -⟩ := id ht
  rcases new_cases ls with hn | ⟨hn1, hn2⟩
  · have hbk := book_of hn
    rw [hn] at HR
    have HN := Lib.hid (fun w' (hb : Below w.heap.size w w') => new_any _ ls hlI (fun _ => hz2) w' (hm.below hb) (ht.below hb))
    have HP1 := Lib.hid (fun w' (hb : Below w.heap.size w w') => refparse_any _ ls hbk.len hz2 t (by omega) w' (ht.below hb))
    have HP2 := Lib.hid (fun w' (hb : Below w.heap.size w w') => refparse_any _ ls hbk.len hz2 u (by omega) w' (ht.below hb))
    have HQ1 := Lib.hid (fun lo B w' (hb : BookAt lo w' B ls) (hb2 : Below w.heap.size w w') => parse_any lo B ls hbk hz2 t (by omega) w' (hm.below hb2) hb)
    have HQ2 := Lib.hid (fun lo B w' (hb : BookAt lo w' B ls) (hb2 : Below w.heap.size w w') => parse_any lo B ls hbk hz2 u (by omega) w' (hm.below hb2) hb)
    unfold ParsePost at HQ1 HQ2
    obtain ⟨a, no, at_, e1, r1, r2, r3⟩ := parse_letters ls hbk t.data.toList
    obtain ⟨b, m, k, e2, r4, r5, r6⟩ := parse_letters ls hbk u.data.toList
    rw [e1] at HP1 HQ1
    rw [e2] at HP2 HQ2
    simp only at HP1 HP2 HQ1 HQ2
    have HT1 := Lib.hid (fun w' (hb : Below w.heap.size w w') => told_any no at_ r1 r2 r3 w' (hg.below hg.lt hb))
    have HT2 := Lib.hid (fun w' (hb : Below w.heap.size w w') => told_any m k r4 r5 r6 w' (hg.below hg.lt hb))
    have HNL := Lib.hid hn
    obtain ⟨E, hE⟩ : ∃ E, E = errV no at_ := ⟨_, rfl⟩
    obtain ⟨F, hF⟩ : ∃ F, F = errV m k := ⟨_, rfl⟩
    rw [← hE] at HQ1 HT1
    rw [← hF] at HQ2 HT2
    have ha := (parseL_u64 hbk.len t.data.toList); rw [e1] at ha; simp only at ha
    have hb := (parseL_u64 hbk.len u.data.toList); rw [e2] at hb; simp only at hb
    have w1 : IntKind.u64.wrap (a : Int) = (a : Int) := IntWalk.u64_in _ ⟨Int.natCast_nonneg _, Int.ofNat_le.2 (Nat.le_of_lt_succ ha)⟩
    have w2 : IntKind.u64.wrap (b : Int) = (b : Int) := IntWalk.u64_in _ ⟨Int.natCast_nonneg _, Int.ofNat_le.2 (Nat.le_of_lt_succ hb)⟩
    have g1 : ((a : Int) == (a : Int)) = true := by simp
    have g2 : ((b : Int) == (b : Int)) = true := by simp
    clear hn hE hF e1 e2 r1 r2 r3 r4 r5 r6 ha hb hz hz2 hl hlI hts hus ht hm hg hbk
    go_enter Tryd.func6, Tryd.ntmps6
    go_wp2_with fail
    refine HR.out.mono ?_
    rintro e x1 ⟨rfl, hb1⟩
    go_wp2_with fail
    refine (HN.out _ hb1).mono ?_
    rintro e x2 ⟨hp, hb2⟩
    have c2 : Below w.heap.size w x2 := hb1.trans (hb2.mono hb1.size)
    rcases hp with ⟨-, B, rfl, hB⟩ | ⟨h, -⟩
    · have HB := Lib.hid hB
      clear hb2 hB hb1 HR HN
      go_wp2_with fail
      refine (HP1.out _ c2).mono ?_
      rintro e x3 ⟨rfl, b3⟩
      have c3 := c2.trans (b3.mono c2.size)
      have HB3 := Lib.hid (HB.out.below b3)
      clear b3 HB
      go_wp2_with fail
      refine (HQ1.out _ B _ HB3.out c3).mono ?_
      rintro e x4 ⟨rfl, b4⟩
      have c4 := c3.trans (b4.mono c3.size)
      have HB4 := Lib.hid (HB3.out.below b4)
      clear b4 HB3
      go_wp2_with fail
      refine (HQ2.out _ B _ HB4.out c4).mono ?_
      rintro e x5 ⟨rfl, b5⟩
      have c5 := c4.trans (b5.mono c4.size)
      have HB5 := Lib.hid (HB4.out.below b5)
      clear b5 HB4
      go_wp2_with fail
      refine (HQ1.out _ B _ HB5.out c5).mono ?_
      rintro e x6 ⟨rfl, b6⟩
      have c6 := c5.trans (b6.mono c5.size)
      clear b6 HB5
      go_wp2_with fail
      refine (HP2.out _ c6).mono ?_
      rintro e x7 ⟨rfl, b7⟩
      have c7 := c6.trans (b7.mono c6.size)
      clear b7
      go_wp2_with fail
      refine (HT1.out _ c7).mono ?_
      rintro e x8 ⟨rfl, b8⟩
      have c8 := c7.trans (b8.mono c7.size)
      clear b8
      go_wp2_with fail
      refine (HT1.out _ c8).mono ?_
      rintro e x9 ⟨rfl, b9⟩
      have c9 := c8.trans (b9.mono c8.size)
      clear b9
      go_wp2_with fail
      refine (HT2.out _ c9).mono ?_
      rintro e x10 ⟨rfl, b10⟩
      have c10 := c9.trans (b10.mono c9.size)
      clear b10
      go_wp2
      go_ret
      exact ⟨rfl, c10⟩
    · exact absurd HNL.out h
  · have hq : ((newL ls).1 != 0) = true := by rw [bne_iff_ne]; omega
    obtain ⟨⟨no, at_⟩, hx⟩ : ∃ x, x = newL ls := ⟨_, rfl⟩
    rw [← hx] at HR hq
    clear hx hz hz2 hl hlI ht hm hg hn1 hn2
    simp only at HR hq
    go_enter Tryd.func6, Tryd.ntmps6
    go_wp2_with fail
    refine HR.out.mono ?_
    rintro e w1 ⟨rfl, hb1⟩
    go_wp2
    go_ret
    exact ⟨rfl, hb1⟩

end Sc

theorem scopeParses_walk (v : Value) (ls : List ByteArray) (hl : ls.length ≤ maxLen) (hz : ∀ s ∈ ls, s.size ≤ maxLen) (t : ByteArray) (wt : t.size ≤ maxLen) (u : ByteArray) (wu : u.size ≤ maxLen) (w : World) (hL : laidMetH Tryd.prog Rows.scopeParsesRow.laid w) (hsh : w.ShapedOpen Tryd.prog) (ht : TextArg w v ls) (hy : ∀ s ∈ ls, s.size ≤ 1048576) (z1 : t.size ≤ 1048576) (z2 : u.size ≤ 1048576) :
    Calls Tryd.prog 6 #[v, .string t, .string u] w fun e w' => e = .returned (.bool true) ∧ Below w.heap.size w w' :=
  Sc.scopeParses_core v ls hl hy t u z1 z2 w (handle_of_laid hL (by kernel_rfl)) (max_of_shape w hsh) ht

end Go.Proofs.YtgneebidmhiagaaDoor
