/- The laws ScopePrints and ScopeParses. -/
import Derived.Test.YtgneebidmhiagaaDoorScPrint
import Derived.Test.YtgneebidmhiagaaDoorHandle
namespace Go.Proofs.YtgneebidmhiagaaDoor
open Go.RowKit Go.Maps Go.ChangeMaps Go.Proofs.NmPlain Go.Proofs.Ar
set_option linter.unusedVariables false
namespace Sc

theorem errV_nil : errV 0 (-1) = .nilIface := rfl

/-- told: of the error of a number and a place. -/
theorem told_any (no at_ : Int) (h0 : 0 ≤ no) (h1 : no ≤ 24) (hz : no = 0 → at_ < 0) (w : World) (hg : erHandle w) :
    Calls Tryd.prog 13 #[errV no at_, .int .i64 no, .int .i64 at_] w fun e w' => e = .returned (.bool true) ∧ Below w.heap.size w w' := by
  by_cases ha : at_ < 0
  · have e : errV no at_ = errVal no := by
      unfold errV
      by_cases hn : no = 0
      · rw [if_pos hn, hn]; rfl
      · rw [if_neg hn, if_pos ha]
    rw [e]
    have HP := Lib.hid (plain_any no no h0 h1 w hg)
    have hq : (no == no) = true := by simp
    rw [hq] at HP
    obtain ⟨V, hV⟩ : ∃ V, V = errVal no := ⟨_, rfl⟩
    rw [← hV] at HP ⊢
    clear hV e hg hz
    go_enter Tryd.func13, Tryd.ntmps13
    go_wp2_with fail
    refine HP.out.mono ?_
    rintro e w1 ⟨rfl, hb⟩
    go_wp2
    go_ret
    exact ⟨rfl, hb⟩
  · have e : errV no at_ = .iface 71 (Fl.fv at_ no) := by
      unfold errV
      rw [if_neg (fun h => ha (hz h)), if_neg ha]
    rw [e]
    have HP := Lib.hid (Fl.at_flt at_ no (by rcases Int.lt_or_le 0 no with h | h; omega; exact absurd (hz (by omega)) ha) h1 w hg)
    obtain ⟨V, hV⟩ : ∃ V, V = Value.iface 71 (Fl.fv at_ no) := ⟨_, rfl⟩
    rw [← hV] at HP ⊢
    clear hV e hg hz
    go_enter Tryd.func13, Tryd.ntmps13
    go_wp2_with fail
    refine HP.out.mono ?_
    rintro e w1 ⟨rfl, hb⟩
    go_wp2
    go_ret
    exact ⟨rfl, hb⟩

theorem new_cases (ls : List ByteArray) : (newL ls = (0, -1)) ∨ (1 ≤ (newL ls).1 ∧ (newL ls).1 ≤ 24) := by
  unfold newL
  split
  · right; exact ⟨by show (1 : Int) ≤ 5; omega, by show (5 : Int) ≤ 24; omega⟩
  · rcases newAt_range _ 0 ls rfl with h | ⟨h | h, _⟩
    · exact .inl h
    · right; rw [h]; omega
    · right; rw [h]; omega

theorem parse_cases (ls : List ByteArray) : ∀ (r : List (Nat × Bs)) (s : Nat), 0 ≤ (parseW ls r s).2.1 ∧ (parseW ls r s).2.1 ≤ 24 ∧ ((parseW ls r s).2.1 = 0 → (parseW ls r s).2.2 < 0)
  | [], s => by
    refine ⟨?_, ?_, fun _ => ?_⟩
    · show (0 : Int) ≤ 0; omega
    · show (0 : Int) ≤ 24; omega
    · show (-1 : Int) < 0; omega
  | (k, l) :: r, s => by
    by_cases h : (wordL ls l).2 = 0
    · rw [parseW_ok h]; exact parse_cases ls r _
    · rw [parseW_no h]
      rcases wordL_cases ls l with ⟨_, h2⟩ | ⟨h2, _⟩
      · refine ⟨?_, ?_, fun h3 => absurd h3 h⟩
        · show 0 ≤ (wordL ls l).2; omega
        · show (wordL ls l).2 ≤ 24; omega
      · exact absurd h2 h
theorem parseL_cases (ls : List ByteArray) (l : Bs) : 0 ≤ (parseL ls l).2.1 ∧ (parseL ls l).2.1 ≤ 24 ∧ ((parseL ls l).2.1 = 0 → (parseL ls l).2.2 < 0) := by
  unfold parseL
  split
  · refine ⟨?_, ?_, fun h => ?_⟩
    · show (0 : Int) ≤ 3; omega
    · show (3 : Int) ≤ 24; omega
    · have : (3 : Int) = 0 := h; omega
  · exact parse_cases ls _ _

set_option maxHeartbeats 4000000 in
theorem scopePrints_core (v : Value) (ls : List ByteArray) (hl : ls.length ≤ maxLen) (hz : ∀ s ∈ ls, s.size ≤ 1048576) (s : Nat) (hs : s < 18446744073709551616) (w : World) (hg : erHandle w) (hm : MaxAt w) (ht : TextArg w v ls) :
    Calls Tryd.prog 5 #[v, .int .u64 (s : Int)] w fun e w' => e = .returned (.bool true) ∧ Below w.heap.size w w' := by
  have hlI : (ls.length : Int) ≤ 9223372036854775807 := by unfold maxLen at hl; omega
  have hz2 : ∀ s ∈ ls, s.size ≤ 16777216 := fun s h => Nat.le_trans (hz s h) (by omega)
  have HR := Lib.hid (refnew_any v ls hlI (fun _ => hz2) w ht)
  obtain ⟨q, c, rfl, -⟩ := id ht
  rcases new_cases ls with hn | ⟨hn1, hn2⟩
  · have hbk := book_of hn
    rw [hn] at HR
    have HN := Lib.hid (fun w' (hb : Below w.heap.size w w') => new_any _ ls hlI (fun _ => hz2) w' (hm.below hb) (ht.below hb))
    have HP := Lib.hid (fun w' (hb : Below w.heap.size w w') => refprint_any _ ls hbk s hs w' (ht.below hb))
    have HQ := Lib.hid (fun lo B w' (hb : BookAt lo w' B ls) => print_any lo B ls hbk s hs w' hb)
    have hno : 0 ≤ (printL ls s).2 ∧ (printL ls s).2 ≤ 24 := by
      unfold printL; split
      · exact ⟨by show (0 : Int) ≤ 11; omega, by show (11 : Int) ≤ 24; omega⟩
      · exact ⟨by show (0 : Int) ≤ 0; omega, by show (0 : Int) ≤ 24; omega⟩
    have HT := Lib.hid (fun w' (hb : Below w.heap.size w w') => plain_any (printL ls s).2 (printL ls s).2 hno.1 hno.2 w' (hg.below hg.lt hb))
    have HNL := Lib.hid hn
    unfold PrintPost at HQ
    obtain ⟨T, hT⟩ : ∃ T : ByteArray, T = ⟨(printL ls s).1.toArray⟩ := ⟨_, rfl⟩
    obtain ⟨no, hno'⟩ : ∃ no : Int, no = (printL ls s).2 := ⟨_, rfl⟩
    rw [← hT, ← hno'] at HP HQ
    rw [← hno'] at HT
    have hqq : (no == no) = true := by simp
    rw [hqq] at HT
    obtain ⟨V, hV⟩ : ∃ V, V = errVal no := ⟨_, rfl⟩
    rw [← hV] at HQ HT
    have hq : (T.toList == T.toList) = true := by simp
    clear hn hno hT hno' hV hqq hz hz2 hl hlI hs ht hm hg hbk
    go_enter Tryd.func5, Tryd.ntmps5
    go_wp2_with fail
    refine HR.out.mono ?_
    rintro e w1 ⟨rfl, hb1⟩
    go_wp2_with fail
    refine (HN.out _ hb1).mono ?_
    rintro e w2 ⟨hp, hb2⟩
    have hb3 : Below w.heap.size w w2 := hb1.trans (hb2.mono hb1.size)
    rcases hp with ⟨-, B, rfl, hB⟩ | ⟨h, -⟩
    · have HB := Lib.hid hB
      clear hb2 hB
      go_wp2_with fail
      refine (HP.out _ hb3).mono ?_
      rintro e w3 ⟨rfl, rfl⟩
      go_wp2_with fail
      refine (HQ.out _ B _ HB.out).mono ?_
      rintro e w4 ⟨rfl, hb4⟩
      have hb5 : Below w.heap.size w w4 := hb3.trans (hb4.mono hb3.size)
      go_wp2_with fail
      refine (HT.out _ hb5).mono ?_
      rintro e w5 ⟨rfl, hb6⟩
      have hb7 : Below w.heap.size w w5 := hb5.trans (hb6.mono hb5.size)
      go_wp2
      go_ret
      exact ⟨rfl, hb7⟩
    · exact absurd HNL.out h
  · have hq : ((newL ls).1 != 0) = true := by rw [bne_iff_ne]; omega
    obtain ⟨⟨no, at_⟩, hx⟩ : ∃ x, x = newL ls := ⟨_, rfl⟩
    rw [← hx] at HR hq
    clear hx hz hz2 hl hlI hs ht hm hg hn1 hn2
    simp only at HR hq
    go_enter Tryd.func5, Tryd.ntmps5
    go_wp2_with fail
    refine HR.out.mono ?_
    rintro e w1 ⟨rfl, hb1⟩
    go_wp2
    go_ret
    exact ⟨rfl, hb1⟩

end Sc

theorem u64_nat {n : Int} (wf : (Lit.int .u64 n).wf = true) : ∃ s : Nat, n = (s : Int) ∧ s < 18446744073709551616 := by
  simp [Lit.wf, IntKind.min, IntKind.max, IntKind.signed, IntKind.bits] at wf
  refine ⟨n.toNat, by omega, by omega⟩

theorem scopePrints_walk (v : Value) (ls : List ByteArray) (hl : ls.length ≤ maxLen) (hz : ∀ s ∈ ls, s.size ≤ maxLen) (n : Int) (wf : (Lit.int .u64 n).wf = true) (w : World) (hL : laidMetH Tryd.prog Rows.scopePrintsRow.laid w) (hsh : w.ShapedOpen Tryd.prog) (ht : TextArg w v ls) (hy : ∀ s ∈ ls, s.size ≤ 1048576) :
    Calls Tryd.prog 5 #[v, .int .u64 n] w fun e w' => e = .returned (.bool true) ∧ Below w.heap.size w w' := by
  obtain ⟨s, rfl, hs⟩ := u64_nat wf
  exact Sc.scopePrints_core v ls hl hy s hs w (handle_of_laid hL (by kernel_rfl)) (max_of_shape w hsh) ht

end Go.Proofs.YtgneebidmhiagaaDoor
