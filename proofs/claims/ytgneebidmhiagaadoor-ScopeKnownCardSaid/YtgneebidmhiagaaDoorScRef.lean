/- lineageref03.New, All: of any list of names, wherever it lies. -/
import Derived.Test.YtgneebidmhiagaaDoorScPlain
import Derived.Test.YtgneebidmhiagaaDoorNsUnder
import Derived.Test.YtgneebidmhiagaaDoorTexts
import Derived.Laws.BitsAllLaws
import Derived.Laws.Shifts
import Derived.IntWalk
namespace Go.Proofs.YtgneebidmhiagaaDoor
open Go.RowKit Go.Proofs.NmPlain Go.Proofs.Ar
set_option linter.unusedVariables false
namespace Sc

theorem bytes_eq (p : ByteArray) : (p.toList == p.toList) = true := by simp

theorem TextArg.at_ {w wr : World} {v : Value} {ps : List ByteArray} (h : TextArg w v ps) (hb : Below w.heap.size w wr) : TextArg wr v ps := h.below hb

/-- Place j of the list while New looks for an elder of it. -/
theorem take_next {ls : List ByteArray} {x : ByteArray} {j : Nat} (h : j < ls.length) (hx : x ∉ ls.take j) (hn : ls[j] ≠ x) : x ∉ ls.take (j + 1) := by
  rw [List.take_succ_eq_append_getElem h, List.mem_append]
  rintro (h1 | h1)
  · exact hx h1
  · exact hn (List.mem_singleton.1 h1).symm

theorem mem_take {ls : List ByteArray} {i j : Nat} (hj : j < ls.length) (hij : j < i) {x : ByteArray} (h : ls[j] = x) : x ∈ ls.take i := by
  rw [List.mem_take_iff_getElem]
  exact ⟨j, by omega, h⟩

theorem new_any_ret {a b c d : Int} {p : Int × Int} (h : p = (a, b)) (h1 : a = c) (h2 : b = d) : Ending.returned (.tuple #[.int .i64 c, .int .i64 d]) = .returned (.tuple #[.int .i64 p.1, .int .i64 p.2]) := by
  subst h; subst h1; subst h2; rfl

set_option maxHeartbeats 2000000 in
theorem refnew_any (v : Value) (ls : List ByteArray) (hl : (ls.length : Int) ≤ 9223372036854775807) (hz : ls.length ≤ 64 → ∀ s ∈ ls, s.size ≤ 16777216) (w : World) (h1 : TextArg w v ls) :
    Calls Tryd.prog 10 #[v] w fun e w' => e = .returned (.tuple #[.int .i64 (newL ls).1, .int .i64 (newL ls).2]) ∧ Below w.heap.size w w' := by
  obtain ⟨p, cp, rfl, h1⟩ := h1
  by_cases hm : 64 < ls.length
  · have e1 : (64 : Int) < (ls.length : Int) := by omega
    have HN : Hid (newL ls = (5, -1)) := by show _ = _; unfold newL; rw [if_pos hm]
    clear hm hz h1
    go_enter Tryd.func10, Tryd.ntmps10
    go_wp2
    go_ret2
    exact ⟨by rw [HN.out]; rfl, Below.refl _ _⟩
  · have e1 : (ls.length : Int) ≤ 64 := by omega
    have HN : Hid (newL ls = newAt ls 0) := by show _ = _; unfold newL; rw [if_neg hm]
    have HZ := Lib.hid (hz (by omega)); have H1 := Lib.hid h1
    clear hm hz h1
    go_enter Tryd.func10, Tryd.ntmps10
    go_wp2
    go_loopw [4] (fun i wr => ∃ k : Nat, k ≤ ls.length ∧ i = .int .i64 k ∧ newL ls = newAt ls k ∧ Below w.heap.size w wr) (fun i _ => ls.length - (intOf i).toNat)
    case atStart => exact ⟨0, Nat.zero_le _, rfl, HN.out, Below.refl _ _⟩
    case round =>
      obtain ⟨k, hk, rfl, hnk, hbr⟩ := hrel
      have HK := Lib.hid hnk; clear hnk
      by_cases h : k < ls.length
      · obtain ⟨g1, o1, rfl, hg1, k1⟩ := H1.out k h
        have k1' : wr.cell? ⟨g1, o1 + k, none⟩ = some (.string ls[k]) := (hbr.cell (p := ⟨g1, o1 + k, none⟩) hg1).trans k1
        obtain ⟨x, hx⟩ : ∃ x, x = ls[k] := ⟨_, rfl⟩
        have hxs : x.size ≤ 16777216 := by rw [hx]; exact HZ.out _ (List.getElem_mem h)
        have hcall := fun w' => refdotted_any x hxs w'
        have hdn : dotB x.data.toList = false → newL ls = (8, (k : Int)) := fun e => by rw [HK.out]; exact newAt_name h (by rw [← hx]; exact e)
        have hdy : dotB x.data.toList = true → dotB ls[k].data.toList = true := fun e => by rw [← hx]; exact e
        rw [← hx] at k1'
        have HC := Lib.hid hcall; have HDN := Lib.hid hdn; have HDY := Lib.hid hdy; have HX := Lib.hid hx
        clear k1 hcall hdn hdy hx hxs
        have b1 : (0 : Int) ≤ (k : Int) := by omega
        have b2 : (k : Int) < (ls.length : Int) := by omega
        cases hd : dotB x.data.toList with
        | false =>
          go_wp2_with fail
          refine (HC.out _).mono ?_
          rintro e w1 ⟨rfl, hb1⟩
          rw [hd]
          have HD := Lib.hid hd; clear hd
          go_wp2
          go_ret2
          exact ⟨by rw [HDN.out HD.out]; rfl, hbr.trans (hb1.mono hbr.size)⟩
        | true =>
          go_wp2_with fail
          refine (HC.out _).mono ?_
          rintro e w1 ⟨rfl, hb1⟩
          rw [hd]
          have HD : Hid (dotB ls[k].data.toList = true) := HDY.out hd
          clear hd
          have hb1' : Below w.heap.size w w1 := hbr.trans (hb1.mono hbr.size)
          clear hb1 k1'
          go_wp2
          go_loopw [5] (fun j wy => ∃ m : Nat, m ≤ k ∧ j = .int .i64 m ∧ x ∉ ls.take m ∧ Below w.heap.size w wy) (fun j _ => k - (intOf j).toNat)
          case atStart => exact ⟨0, Nat.zero_le _, rfl, by simp, hb1'⟩
          case round =>
            obtain ⟨m, hmk, rfl, hxm, hby⟩ := hrel
            by_cases h2 : m < k
            · have hml : m < ls.length := by omega
              obtain ⟨g2, o2, hp2, hg2, j1⟩ := H1.out m hml
              cases hp2
              have j1' : wr.cell? ⟨g1, o1 + m, none⟩ = some (.string ls[m]) := (hby.cell (p := ⟨g1, o1 + m, none⟩) hg1).trans j1
              have j2' : wr.cell? ⟨g1, o1 + k, none⟩ = some (.string x) := by
                rw [HX.out]
                obtain ⟨g3, o3, hp3, hg3, j3⟩ := H1.out k h
                cases hp3
                exact (hby.cell (p := ⟨g1, o1 + k, none⟩) hg1).trans j3
              obtain ⟨y, hy⟩ : ∃ y, y = ls[m] := ⟨_, rfl⟩
              rw [← hy] at j1'
              have b3 : (0 : Int) ≤ (m : Int) := by omega
              have b4 : (m : Int) < (k : Int) := by omega
              have b5 : (m : Int) < (ls.length : Int) := by omega
              have HXM := Lib.hid hxm
              clear j1 hxm
              by_cases he : y = x
              · have HF : Hid (newL ls = (9, (k : Int))) := by
                  show _ = _
                  rw [HK.out]
                  exact newAt_twice h HD.out (mem_take hml h2 (by rw [← hy, he, HX.out]))
                clear hy
                subst he
                have hn := bytes_eq y
                go_wp2
                go_quiet (fail)
                go_wp2
                go_ret2
                exact ⟨by rw [HF.out]; rfl, Ut.below_drewN hby _⟩
              · have HF : Hid (x ∉ ls.take (m + 1)) := take_next hml HXM.out (by rw [← hy]; exact he)
                have hn : (y.toList == x.toList) = false := Tx.str_ne he
                clear hy he
                go_wp2
                go_quiet (fail)
                go_wp2
                go_roundw
                case rel => exact ⟨m + 1, by omega, by go_num, HF, Ut.below_drewN hby _⟩
                case measure => simp [intOf]; omega
            · obtain rfl : m = k := by omega
              have HF : Hid (newL ls = newAt ls (m + 1)) := by
                show _ = _
                rw [HK.out]
                exact newAt_next h HD.out (by rw [← HX.out]; exact hxm)
              clear hxm
              go_wp2
              go_roundw
              case rel => exact ⟨m + 1, by omega, by go_num, HF, hby⟩
              case measure => simp [intOf]; omega
      · have HF : Hid (newL ls = (0, -1)) := by show _ = _; rw [HK.out]; exact newAt_end (by omega)
        have e2 : ¬ ((k : Int) < (ls.length : Int)) := by omega
        clear h
        go_wp2
        go_ret2
        exact ⟨by rw [HF.out]; rfl, hbr⟩

/-- Behind the first n names: all these. -/
theorem setBy_all_next (n : Nat) : setBy (fun _ => true) (n + 1) = setBy (fun _ => true) n ||| 2 ^ n := by
  show (if (fun _ => true) n = true then _ else _) = _
  rw [if_pos rfl]

theorem setBy_u64 (p : Nat → Bool) {n : Nat} (h : n ≤ 64) : setBy p n < 18446744073709551616 := by
  have h1 := setBy_lt p n
  have h2 : 2 ^ n ≤ 2 ^ 64 := Nat.pow_le_pow_right (by omega) h
  omega
theorem pow_u64 {n : Nat} (h : n < 64) : 2 ^ n < 18446744073709551616 := by
  have h2 : 2 ^ n < 2 ^ 64 := Nat.pow_lt_pow_right (by omega) h
  omega

/-- One bit, shifted to its place. -/
theorem shl_one {k : Nat} (h : k < 64) (yk : IntKind) : Op.shift .shl .u64 1 yk (k : Int) = pure (.int .u64 ((2 ^ k : Nat) : Int)) := by
  rw [shift_shl_any _ _ _ _ (by omega)]
  have e : (1 : Int) * 2 ^ min (k : Int).toNat IntKind.u64.bits = ((2 ^ k : Nat) : Int) := by
    rw [show min (k : Int).toNat IntKind.u64.bits = k by simp [IntKind.bits]; omega]
    simp
  have h2 := pow_u64 h
  rw [e, IntWalk.u64_in _ ⟨Int.natCast_nonneg _, Int.ofNat_le.2 (Nat.le_of_lt_succ h2)⟩]

theorem wrap_pow {k : Nat} (h : k < 64) : IntKind.u64.wrap ((2 : Int) ^ k) = ((2 ^ k : Nat) : Int) := by
  have h2 := pow_u64 h
  rw [show ((2 : Int) ^ k) = ((2 ^ k : Nat) : Int) by simp, IntWalk.u64_in _ ⟨Int.natCast_nonneg _, Int.ofNat_le.2 (Nat.le_of_lt_succ h2)⟩]

theorem or_bit {S k : Nat} (hS : S < 18446744073709551616) (h : k < 64) : bits .or .u64 (S : Int) (IntKind.u64.wrap ((2 : Int) ^ k)) = ((S ||| 2 ^ k : Nat) : Int) := by
  rw [wrap_pow h, u64_or_nat _ _ hS (pow_u64 h)]

set_option maxHeartbeats 2000000 in
theorem refall_any (v : Value) (ls : List ByteArray) (hl : ls.length ≤ 64) (w : World) (h1 : TextArg w v ls) :
    Calls Tryd.prog 18 #[v] w fun e w' => e = .returned (.int .u64 (allS ls : Nat)) ∧ w = w' := by
  obtain ⟨p, cp, rfl, -⟩ := h1
  have hA : allS ls = setBy (fun _ => true) ls.length := (setBy_all _).symm
  rw [hA]
  clear hA
  go_enter Tryd.func18, Tryd.ntmps18
  go_wp2
  go_loop [3, 4] (fun s i => ∃ k : Nat, k ≤ ls.length ∧ i = .int .i64 k ∧ s = .int .u64 (setBy (fun _ => true) k : Nat)) (fun _ i => ls.length - (intOf i).toNat)
  case atStart => exact ⟨0, Nat.zero_le _, rfl, rfl⟩
  case round =>
    obtain ⟨k, hk, rfl, rfl⟩ := hrel
    by_cases h : k < ls.length
    · have b1 : (0 : Int) ≤ (k : Int) := by omega
      have b2 : (k : Int) < (ls.length : Int) := by omega
      have b3 : (k : Int) ≤ 63 := by omega
      have HO : Hid (bits .or .u64 (setBy (fun _ => true) k : Int) (IntKind.u64.wrap ((2 : Int) ^ k)) = (setBy (fun _ => true) (k + 1) : Int)) := by
        show _ = _
        rw [or_bit (setBy_u64 _ (by omega)) (by omega), ← setBy_all_next]
      go_wp2
      exact ⟨⟨k + 1, by omega, by go_num, by rw [HO.out]⟩, by simp [intOf]; omega⟩
    · obtain rfl : k = ls.length := by omega
      go_wp2
      go_ret
      exact ⟨rfl, rfl⟩

end Sc
end Go.Proofs.YtgneebidmhiagaaDoor
