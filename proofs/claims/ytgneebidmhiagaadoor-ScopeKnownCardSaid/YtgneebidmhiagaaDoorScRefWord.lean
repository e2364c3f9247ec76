/- lineageref03.word: of any book's names and any word. -/
import Derived.Test.YtgneebidmhiagaaDoorScRef
import Derived.Test.YtgneebidmhiagaaDoorScPlain2
import Derived.Deep.RegionHeld3
namespace Go.Proofs.YtgneebidmhiagaaDoor
open Go.RowKit Go.Proofs.NmPlain Go.Proofs.Ar
set_option linter.unusedVariables false
namespace Sc

theorem set_yes {p : Nat → Bool} {k : Nat} (h : p k = true) : setBy p (k + 1) = setBy p k ||| 2 ^ k := by
  show (if p k = true then _ else _) = _
  rw [if_pos h]
theorem set_no {p : Nat → Bool} {k : Nat} (h : p k = false) : setBy p (k + 1) = setBy p k := by
  show (if p k = true then _ else _) = _
  rw [if_neg (by rw [h]; simp)]
theorem or_set {p : Nat → Bool} {k : Nat} (hk : k < 64) (h : p k = true) : bits .or .u64 (setBy p k : Int) (IntKind.u64.wrap ((2 : Int) ^ k)) = (setBy p (k + 1) : Int) := by
  rw [or_bit (setBy_u64 _ (by omega)) hk, ← set_yes h]
theorem bytes_ne {x t : ByteArray} {l : Bs} (ht : t.data.toList = l) (h : ¬ x.data.toList = l) : (x.toList == t.toList) = false := by
  rw [beq_eq_false_iff_ne, Lib.toList_data, Lib.toList_data, ht]; exact h
theorem bytes_yes {x t : ByteArray} {l : Bs} (ht : t.data.toList = l) (h : x.data.toList = l) : (x.toList == t.toList) = true := by
  rw [beq_iff_eq, Lib.toList_data, Lib.toList_data, ht]; exact h

theorem stem_list {t : ByteArray} {m : Nat} (h : t.size = m + 2) : (t.extract 0 m).data.toList = t.data.toList.take (t.data.toList.length - 2) := by
  have h2 : t.data.toList.length = m + 2 := by rw [← size_toList]; exact h
  rw [h2, Lib.extract_data, List.drop_zero, Nat.sub_zero]; rfl
theorem tail_list {t : ByteArray} {m : Nat} (h : t.size = m + 2) : (t.extract m (m + 2)).data.toList = t.data.toList.drop (t.data.toList.length - 2) := by
  have h2 : t.data.toList.length = m + 2 := by rw [← size_toList]; exact h
  rw [h2, Lib.extract_data]
  exact List.take_of_length_le (by rw [List.length_drop]; omega)

set_option maxHeartbeats 4000000 in
theorem refword_any (v : Value) (ls : List ByteArray) (hl : ls.length ≤ 64) (hz : ∀ s ∈ ls, s.size ≤ 16777216) (t : ByteArray) (ht : t.size ≤ 16777216) (w : World) (h1 : TextArg w v ls) :
    Calls Tryd.prog 44 #[v, .string t] w fun e w' => e = .returned (.tuple #[.int .u64 ((wordL ls t.data.toList).1 : Nat), .int .i64 (wordL ls t.data.toList).2]) ∧ Below w.heap.size w w' := by
  have hall := refall_any v ls hl w h1
  by_cases c0 : t.data.toList = [42]
  · have HW : Hid (wordL ls t.data.toList = (allS ls, 0)) := by show _ = _; unfold wordL; rw [if_pos c0]
    have e0 : t = ⟨#[42]⟩ := by cases t; simp only [ByteArray.mk.injEq]; exact Array.toList_inj.1 c0
    subst e0
    clear c0
    obtain ⟨p, cp, rfl, h1⟩ := h1
    have HA := Lib.hid hall
    clear hall h1
    go_enter Tryd.func44, Tryd.ntmps44
    go_wp2_with fail
    refine (HA.out).mono ?_
    rintro e w1 ⟨rfl, rfl⟩
    go_wp2
    go_ret2
    exact ⟨by rw [HW.out]; rfl, Below.refl _ _⟩
  · clear hall
    have q0 : (t.toList == [42]) = false := by rw [beq_eq_false_iff_ne, Lib.toList_data]; exact c0
    have hd := fun w' => refdotted_any t ht w'
    have HD := Lib.hid hd
    obtain ⟨p, cp, rfl, h1⟩ := h1
    cases hdt : dotB t.data.toList with
    | true =>
      have HW : Hid (wordL ls t.data.toList = fin (setBy (eqAt ls t.data.toList) ls.length)) := by show _ = _; unfold wordL; rw [if_neg c0, if_pos hdt]
      have HT := Lib.hid hdt
      have H1 := Lib.hid h1
      clear c0 hd h1 hdt
      go_enter Tryd.func44, Tryd.ntmps44
      go_wp2_with fail
      refine (HD.out _).mono ?_
      rintro e w1 ⟨rfl, hb1⟩
      rw [HT.out]
      go_wp2
      obtain ⟨l, hlt⟩ : ∃ l, l = t.data.toList := ⟨_, rfl⟩
      rw [← hlt] at HW
      have HLT := Lib.hid hlt.symm
      clear hlt HT HD
      go_loopw [6, 7] (fun s i wr => ∃ k : Nat, k ≤ ls.length ∧ i = .int .i64 k ∧ s = .int .u64 (setBy (eqAt ls l) k : Nat) ∧ wr = w1) (fun _ i _ => ls.length - (intOf i).toNat)
      case atStart => exact ⟨0, Nat.zero_le _, rfl, rfl, rfl⟩
      case round =>
        obtain ⟨k, hk, rfl, rfl, rfl⟩ := hrel
        by_cases h : k < ls.length
        · obtain ⟨g1, o1, rfl, hg1, k1⟩ := H1.out k h
          have k1' : wr.cell? ⟨g1, o1 + k, none⟩ = some (.string ls[k]) := (hb1.cell (p := ⟨g1, o1 + k, none⟩) hg1).trans k1
          have b1 : (0 : Int) ≤ (k : Int) := by omega
          have b2 : (k : Int) < (ls.length : Int) := by omega
          have b3 : (k : Int) ≤ 63 := by omega
          have hea := eqAt_at (l := l) h
          obtain ⟨x, hx⟩ : ∃ x, x = ls[k] := ⟨_, rfl⟩
          rw [← hx] at hea k1'
          clear k1 hx
          by_cases he : x.data.toList = l
          · have HO := Lib.hid (or_set (p := eqAt ls l) (k := k) (by omega) (by rw [hea]; simp [he]))
            have q1 := bytes_yes HLT.out he
            clear hea he
            go_wp2
            go_roundw
            case rel => exact ⟨k + 1, by omega, by go_num, by rw [HO.out], trivial⟩
            case measure => simp [intOf]; omega
          · have HO := Lib.hid (set_no (p := eqAt ls l) (k := k) (by rw [hea]; simp [he]))
            have q1 := bytes_ne HLT.out he
            clear hea he
            go_wp2
            go_roundw
            case rel => exact ⟨k + 1, by omega, by go_num, by rw [HO.out], trivial⟩
            case measure => simp [intOf]; omega
        · obtain rfl : k = ls.length := by omega
          obtain ⟨S, hS⟩ : ∃ S, S = setBy (eqAt ls l) ls.length := ⟨_, rfl⟩
          rw [← hS] at HW ⊢
          clear hS h
          rcases fin_cases S with ⟨hf, hs⟩ | ⟨hf, hs⟩
          · rw [hf] at HW
            have q2 : ((S : Int) == 0) = true := by rw [hs]; rfl
            clear hf hs
            go_wp2
            go_ret2
            exact ⟨by rw [HLT.out, HW.out]; rfl, hb1⟩
          · rw [hf] at HW
            have q2 : ((S : Int) == 0) = false := by rw [beq_eq_false_iff_ne]; omega
            clear hf hs
            go_wp2
            go_ret2
            exact ⟨by rw [HLT.out, HW.out]; rfl, hb1⟩
    | false =>
      have HT := Lib.hid hdt
      have H1 := Lib.hid h1
      by_cases h2 : t.size < 2
      · have HW : Hid (wordL ls t.data.toList = (0, 4)) := by
          show _ = _; unfold wordL
          rw [if_neg c0, if_neg (by rw [hdt]; simp), if_neg (by rw [← size_toList]; omega)]
        have b1 : (t.size : Int) < 2 := by omega
        have b2 : (0 : Int) ≤ (t.size : Int) := by omega
        clear c0 hd h1 hdt h2 H1 hz
        go_enter Tryd.func44, Tryd.ntmps44
        go_wp2_with fail
        refine (HD.out _).mono ?_
        rintro e w1 ⟨rfl, hb1⟩
        rw [HT.out]
        go_wp2
        go_ret2
        exact ⟨by rw [HW.out]; rfl, hb1⟩
      · obtain ⟨m, hm⟩ : ∃ m, t.size = m + 2 := ⟨t.size - 2, by omega⟩
        have b1 : (2 : Int) ≤ (t.size : Int) := by omega
        have b2 : (t.size : Int) ≤ 16777216 := by omega
        have hst := stem_list hm
        have htl := tail_list hm
        obtain ⟨u, hu⟩ : ∃ u, u = t.extract 0 m := ⟨_, rfl⟩
        have hus : u.size ≤ 16777216 := by rw [hu]; simp; omega
        have HD2 := Lib.hid (fun w' => refdotted_any u hus w')
        rw [← hu] at hst
        have b0 : 2 ≤ t.data.toList.length := by rw [← size_toList]; omega
        have hw : (t.extract m (m + 2)).data.toList = [46, 42] → dotB u.data.toList = true → wordL ls t.data.toList = fin (setBy (belAt ls u.data.toList) ls.length) := fun e1 e2 => by
          unfold wordL
          rw [if_neg c0, if_neg (by rw [hdt]; simp), ← hst, ← htl, if_pos ⟨b0, e1, e2⟩]
        have hw2 : ¬ ((t.extract m (m + 2)).data.toList = [46, 42] ∧ dotB u.data.toList = true) → wordL ls t.data.toList = (0, 4) := fun e => by
          unfold wordL
          rw [if_neg c0, if_neg (by rw [hdt]; simp), ← hst, ← htl, if_neg (fun h => e h.2)]
        clear hd h1 hdt h2 c0 b0 hst htl
        by_cases c1 : (t.extract m (m + 2)).data.toList = [46, 42]
        · have q1 : ((t.extract m (m + 2)).toList == [46, 42]) = true := by rw [beq_iff_eq, Lib.toList_data]; exact c1
          cases hdu : dotB u.data.toList with
          | true =>
            have HW : Hid (wordL ls t.data.toList = fin (setBy (belAt ls u.data.toList) ls.length)) := by
              show _ = _; exact hw c1 hdu
            have HDU := Lib.hid hdu
            have HU := Lib.hid hu
            clear hw hw2 c1 hdu
            go_enter Tryd.func44, Tryd.ntmps44
            go_wp2_with fail
            refine (HD.out _).mono ?_
            rintro e w1 ⟨rfl, hb1⟩
            rw [HT.out]
            go_wp2_with fail
            rw [← HU.out]
            refine (HD2.out _).mono ?_
            rintro e w2 ⟨rfl, hb2⟩
            rw [HDU.out]
            go_wp2
            obtain ⟨l, hlu⟩ : ∃ l, l = u.data.toList := ⟨_, rfl⟩
            rw [← hlu] at HW
            have HLU : Hid ((t.extract 0 m).data.toList = l) := by show _ = _; rw [hlu, HU.out]
            have HUS : Hid ((t.extract 0 m).size ≤ 16777216) := by show _ ≤ _; rw [← HU.out]; exact hus
            have hb2' : Below w.heap.size w w2 := hb1.trans (hb2.mono hb1.size)
            clear hlu HD HD2 HDU HU hu hus hb1 hb2 q1
            go_loopw [6, 9] (fun s i wr => ∃ k : Nat, k ≤ ls.length ∧ i = .int .i64 k ∧ s = .int .u64 (setBy (belAt ls l) k : Nat) ∧ Below w.heap.size w wr) (fun _ i _ => ls.length - (intOf i).toNat)
            case atStart => exact ⟨0, Nat.zero_le _, rfl, rfl, hb2'⟩
            case round =>
              obtain ⟨k, hk, rfl, rfl, hbr⟩ := hrel
              by_cases h : k < ls.length
              · obtain ⟨g1, o1, rfl, hg1, k1⟩ := H1.out k h
                have k1' : wr.cell? ⟨g1, o1 + k, none⟩ = some (.string ls[k]) := (hbr.cell (p := ⟨g1, o1 + k, none⟩) hg1).trans k1
                have b5 : (0 : Int) ≤ (k : Int) := by omega
                have b6 : (k : Int) < (ls.length : Int) := by omega
                have b7 : (k : Int) ≤ 63 := by omega
                have hea := belAt_at (l := l) h
                have hxs : ls[k].size ≤ 16777216 := hz _ (List.getElem_mem h)
                obtain ⟨x, hx⟩ : ∃ x, x = ls[k] := ⟨_, rfl⟩
                rw [← hx] at hea k1' hxs
                clear k1 hx
                by_cases he : x.data.toList = l
                · have HO := Lib.hid (set_no (p := belAt ls l) (k := k) (by rw [hea]; simp [he]))
                  have q1 := bytes_yes HLU.out he
                  clear hea he
                  go_wp2
                  go_quiet (fail)
                  go_wp2
                  go_roundw
                  case rel => exact ⟨k + 1, by omega, by go_num, by rw [HO.out], Ut.below_drewN hbr _⟩
                  case measure => simp [intOf]; omega
                · have q1 := bytes_ne HLU.out he
                  have HR := Lib.hid (fun (w' : World) (hc : w'.cell? ⟨g1, o1 + k, none⟩ = some (.string x)) => (refunder_any x (t.extract 0 m) hxs HUS.out w').mono fun e w'' h => (⟨h.1, h.2, (h.2.cell (p := ⟨g1, o1 + k, none⟩) (lt_of_cell hc)).trans hc⟩ : _ ∧ _ ∧ w''.cell? ⟨g1, o1 + k, none⟩ = some (.string x)))
                  cases hun : underB x.data.toList l with
                  | true =>
                    have HO := Lib.hid (or_set (p := belAt ls l) (k := k) (by omega) (by rw [hea]; simp [he, hun]))
                    have HUN : Hid (underB x.data.toList (t.extract 0 m).data.toList = true) := by show _ = _; rw [HLU.out]; exact hun
                    clear hea he hun
                    go_wp2
                    go_region_held3 (fun w' => w'.cell? ⟨g1, o1 + k, none⟩ = some (.string x)) (go_keep) (first | (go_at_call 63; refine (HR.out _ ?_).mono ?_; (simp [*]); rintro e w3 ⟨rfl, hb3, k3⟩; rw [HUN.out]))
                    go_wp2
                    go_roundw
                    case rel => exact ⟨k + 1, by omega, by go_num, by rw [HO.out], hbr.drew.trans (hb3.mono hbr.drew.size)⟩
                    case measure => simp [intOf]; omega
                  | false =>
                    have HO := Lib.hid (set_no (p := belAt ls l) (k := k) (by rw [hea]; simp [he, hun]))
                    have HUN : Hid (underB x.data.toList (t.extract 0 m).data.toList = false) := by show _ = _; rw [HLU.out]; exact hun
                    clear hea he hun
                    go_wp2
                    go_region_held3 (fun w' => w'.cell? ⟨g1, o1 + k, none⟩ = some (.string x)) (go_keep) (first | (go_at_call 63; refine (HR.out _ ?_).mono ?_; (simp [*]); rintro e w3 ⟨rfl, hb3, k3⟩; rw [HUN.out]))
                    go_wp2
                    go_roundw
                    case rel => exact ⟨k + 1, by omega, by go_num, by rw [HO.out], hbr.drew.trans (hb3.mono hbr.drew.size)⟩
                    case measure => simp [intOf]; omega
              · obtain rfl : k = ls.length := by omega
                obtain ⟨S, hS⟩ : ∃ S, S = setBy (belAt ls l) ls.length := ⟨_, rfl⟩
                rw [← hS] at HW ⊢
                clear hS h
                rcases fin_cases S with ⟨hf, hs⟩ | ⟨hf, hs⟩
                · rw [hf] at HW
                  have q2 : ((S : Int) == 0) = true := by rw [hs]; rfl
                  clear hf hs
                  go_wp2
                  go_ret2
                  exact ⟨by rw [HW.out]; rfl, hbr⟩
                · rw [hf] at HW
                  have q2 : ((S : Int) == 0) = false := by rw [beq_eq_false_iff_ne]; omega
                  clear hf hs
                  go_wp2
                  go_ret2
                  exact ⟨by rw [HW.out]; rfl, hbr⟩
          | false =>
            have HW : Hid (wordL ls t.data.toList = (0, 4)) := by
              show _ = _; exact hw2 (by rw [hdu]; simp)
            have HDU := Lib.hid hdu
            have HU := Lib.hid hu
            clear hw hw2 c1 hdu hz H1
            go_enter Tryd.func44, Tryd.ntmps44
            go_wp2_with fail
            refine (HD.out _).mono ?_
            rintro e w1 ⟨rfl, hb1⟩
            rw [HT.out]
            go_wp2_with fail
            rw [← HU.out]
            refine (HD2.out _).mono ?_
            rintro e w2 ⟨rfl, hb2⟩
            rw [HDU.out]
            go_wp2
            go_ret2
            exact ⟨by rw [HW.out]; rfl, hb1.trans (hb2.mono hb1.size)⟩
        · have q1 : ((t.extract m (m + 2)).toList == [46, 42]) = false := by rw [beq_eq_false_iff_ne, Lib.toList_data]; exact c1
          have HW : Hid (wordL ls t.data.toList = (0, 4)) := by
            show _ = _; exact hw2 (fun h => c1 h.1)
          clear hw hw2 c1 hz H1 hu
          go_enter Tryd.func44, Tryd.ntmps44
          go_wp2_with fail
          refine (HD.out _).mono ?_
          rintro e w1 ⟨rfl, hb1⟩
          rw [HT.out]
          go_wp2
          go_ret2
          exact ⟨by rw [HW.out]; rfl, hb1⟩

end Sc
end Go.Proofs.YtgneebidmhiagaaDoor
