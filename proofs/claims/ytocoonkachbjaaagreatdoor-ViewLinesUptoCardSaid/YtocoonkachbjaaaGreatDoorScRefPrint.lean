/- lineageref03.Print: of any book and set. -/
import Derived.Test.YtocoonkachbjaaaGreatDoorScRefParse
import Derived.WalkSmall
namespace Go.Proofs.YtocoonkachbjaaaGreatDoor
open Go.RowKit Go.Proofs.NmPlain Go.Proofs.Ar
set_option linter.unusedVariables false
namespace Sc

theorem dotB_nil : dotB [] = false := by decide
theorem dotB_ne {l : Bs} (h : dotB l = true) : l ≠ [] := by
  rintro rfl; rw [dotB_nil] at h; cases h
theorem dotB_le {l : Bs} (h : dotB l = true) : l.length ≤ 132 := by
  rcases Nat.lt_or_ge 132 l.length with h2 | h2
  · rw [dotB_len h2] at h; cases h
  · exact h2

theorem join_snoc (xs : List Bs) (x sep : Bs) (h : xs ≠ []) : Lib.join (xs ++ [x]) sep = Lib.join xs sep ++ sep ++ x := by
  cases xs with
  | nil => exact absurd rfl h
  | cons a r => rw [List.cons_append, Lib.join_cons, Lib.join_cons]; simp [Lib.joinTail]
theorem join_ne (xs : List Bs) (sep : Bs) (h : xs ≠ []) (hx : ∀ x ∈ xs, x ≠ []) : Lib.join xs sep ≠ [] := by
  cases xs with
  | nil => exact absurd rfl h
  | cons a r =>
    rw [Lib.join_cons]
    have := hx a (by simp)
    intro e
    exact this (List.append_eq_nil_iff.1 e).1

/-- The text of a set's names among the first k. -/
def jn (ls : List ByteArray) (s k : Nat) : Bs := Lib.join ((selTo ls s k).map (·.data.toList)) [32]
theorem jn_ne {ls : List ByteArray} (hb : IsBook ls) (s k : Nat) (h : selTo ls s k ≠ []) : jn ls s k ≠ [] := by
  refine join_ne _ _ (by simpa using h) ?_
  intro x hx
  obtain ⟨y, hy, rfl⟩ := List.mem_map.1 hx
  obtain ⟨i, hi, _, rfl, _⟩ := sel_mem ls s k y hy
  exact dotB_ne (hb.dots i hi)
theorem jn_no {ls : List ByteArray} {s k : Nat} (h : s.testBit k = false) : jn ls s (k + 1) = jn ls s k := by
  unfold jn; rw [sel_no h]
theorem jn_first {ls : List ByteArray} (hb : IsBook ls) {s k : Nat} (hk : k < ls.length) (h : s.testBit k = true) (he : jn ls s k = []) : jn ls s (k + 1) = ls[k].data.toList := by
  have e : selTo ls s k = [] := by
    cases hs : selTo ls s k with
    | nil => rfl
    | cons a r => exact absurd he (jn_ne hb s k (by rw [hs]; simp))
  unfold jn; rw [sel_yes hk h, e]
  simp [Lib.join_one]
theorem jn_more {ls : List ByteArray} {s k : Nat} (hk : k < ls.length) (h : s.testBit k = true) (he : jn ls s k ≠ []) : jn ls s (k + 1) = jn ls s k ++ [32] ++ ls[k].data.toList := by
  have e : (selTo ls s k).map (·.data.toList) ≠ [] := by
    intro e; apply he; unfold jn; rw [e]; rfl
  unfold jn; rw [sel_yes hk h, List.map_append, List.map_cons, List.map_nil, join_snoc _ _ _ e]

theorem bit_at {s : Nat} (hs : s < 18446744073709551616) (k : Nat) : (bits .and .u64 ((s : Int) / 2 ^ k) 1 == 1) = s.testBit k := by
  have e : ((s : Int) / 2 ^ k) = ((s / 2 ^ k : Nat) : Int) := by simp
  have hle : s / 2 ^ k ≤ s := Nat.div_le_self _ _
  rw [e, and_one_u64 _ (Int.natCast_nonneg _) (Int.ofNat_le.2 (Nat.le_trans hle (Nat.le_of_lt_succ hs))), Nat.testBit_eq_decide_div_mod_eq]
  by_cases h : s / 2 ^ k % 2 = 1
  · rw [decide_eq_true h, beq_iff_eq]; omega
  · rw [decide_eq_false h, beq_eq_false_iff_ne]; omega

/-- While a set is printed. -/
def QRel (ls : List ByteArray) (s : Nat) (w : World) (t i : Value) (wr : World) : Prop :=
  ∃ (k : Nat) (T : ByteArray), k ≤ ls.length ∧ i = .int .i64 k ∧ t = .string T ∧ T.data.toList = jn ls s k ∧ T.size ≤ 133 * k ∧ wr = w

theorem ret2 {a : ByteArray} {l : Bs} {b : Int} {p : Bs × Int} (h : p = (l, b)) (ha : a.data.toList = l) : Ending.returned (.tuple #[.string a, .int .i64 b]) = .returned (.tuple #[.string ⟨p.1.toArray⟩, .int .i64 p.2]) := by
  subst h; subst ha; rfl

set_option maxHeartbeats 4000000 in
theorem refprint_any (v : Value) (ls : List ByteArray) (hb : IsBook ls) (s : Nat) (hs : s < 18446744073709551616) (w : World) (h1 : TextArg w v ls) :
    Calls Tryz.prog 33 #[v, .int .u64 (s : Int)] w fun e w' => e = .returned (.tuple #[.string ⟨(printL ls s).1.toArray⟩, .int .i64 (printL ls s).2]) ∧ w = w' := by
  have hA := refall_any v ls hb.len w h1
  have hal := allS_lt hb.len
  have han := u64_andNot_nat s (allS ls) hs (by omega)
  have hz := andNot_zero hs hb.len
  have hal2 : allS ls = 2 ^ ls.length - 1 := rfl
  rw [← hal2] at hz
  obtain ⟨A, hA2⟩ : ∃ A, A = allS ls := ⟨_, rfl⟩
  obtain ⟨X, hX⟩ : ∃ X, X = s &&& (18446744073709551615 - allS ls) := ⟨_, rfl⟩
  rw [← hX] at hz han
  rw [← hA2] at hA han
  have HA := Lib.hid hA; have HAN := Lib.hid han
  have hlen : (ls.length : Int) ≤ 64 := by have := hb.len; omega
  clear hA han hal hal2 hA2 hX
  by_cases h : s < 2 ^ ls.length
  · have q1 : (bits .andNot .u64 (s : Int) (A : Int) != 0) = false := by rw [HAN.out, bne_eq_false_iff_eq]; have := hz.2 h; omega
    have HP : Hid (printL ls s = (jn ls s ls.length, 0)) := by show _ = _; unfold printL; rw [if_neg (by omega)]; rfl
    have HB := Lib.hid hb
    have H1 := Lib.hid h1
    have HS := Lib.hid hs
    clear hz h hb h1 hs
    obtain ⟨p, cp, rfl, h1⟩ := H1.out
    have H2 := Lib.hid h1
    clear h1 H1
    go_enter Tryz.func33, Tryz.ntmps33
    go_wp2_with fail
    refine HA.out.mono ?_
    rintro e w1 ⟨rfl, rfl⟩
    go_wp2
    go_loopw [6, 7] (fun t i wr => QRel ls s w t i wr) (fun _ i _ => ls.length - (intOf i).toNat)
    case atStart => exact ⟨0, ByteArray.empty, Nat.zero_le _, rfl, rfl, rfl, by simp, rfl⟩
    case round =>
      obtain ⟨k, T, hk, rfl, rfl, hT, hTs, rfl⟩ := hrel
      have b2 : (0 : Int) ≤ (k : Int) := by omega
      by_cases h : k < ls.length
      · have b3 : (k : Int) < (ls.length : Int) := by omega
        have b4 : (k : Int) ≤ 63 := by omega
        obtain ⟨g1, o1, rfl, hg1, k1⟩ := H2.out k h
        have hxs : ls[k].size ≤ 132 := by
          have := dotB_le (HB.out.dots k h); rw [← size_toList] at this; exact this
        have hTz : T.size ≤ 9000 := by omega
        have hq := bit_at HS.out k
        cases hbit : s.testBit k with
        | true =>
          rw [hbit] at hq
          by_cases he : jn ls s k = []
          · have HN := Lib.hid (jn_first HB.out h hbit he)
            have q3 : (!T.toList.isEmpty) = false := by rw [Lib.toList_data, hT, he]; rfl
            have HT : Hid (T.data.toList = []) := by show _ = _; rw [hT, he]
            clear hT hbit he
            go_wp2
            refine ⟨⟨k + 1, _, by omega, by go_num, rfl, ?_, ?_, rfl⟩, by simp [intOf]; omega⟩
            · rw [HN.out]; simp [HT.out]
            · simp only [ByteArray.size_append]; omega
          · have HN := Lib.hid (jn_more h hbit he)
            have q3 : (!T.toList.isEmpty) = true := by
              rw [Lib.toList_data, hT]
              cases hj : jn ls s k with
              | nil => exact absurd hj he
              | cons a r => rfl
            have HT := Lib.hid hT
            clear hT hbit he
            go_wp2
            refine ⟨⟨k + 1, _, by omega, by go_num, rfl, ?_, ?_, rfl⟩, by simp [intOf]; omega⟩
            · rw [HN.out, ← HT.out]; simp
            · simp only [ByteArray.size_append]
              have e1 : (⟨#[32]⟩ : ByteArray).size = 1 := rfl
              rw [e1]; omega
        | false =>
          rw [hbit] at hq
          have HN := Lib.hid (jn_no (ls := ls) hbit)
          have HT := Lib.hid hT
          clear hT hbit
          go_wp2
          exact ⟨⟨k + 1, _, by omega, by go_num, rfl, by rw [HN.out]; exact HT.out, by omega, rfl⟩, by simp [intOf]; omega⟩
      · obtain rfl : k = ls.length := by omega
        go_wp2
        go_ret2
        exact ⟨ret2 HP.out hT, rfl⟩
  · have q1 : (bits .andNot .u64 (s : Int) (A : Int) != 0) = true := by rw [HAN.out, bne_iff_ne]; have := fun e => h (hz.1 e); omega
    have HP : Hid (printL ls s = ([], 11)) := by show _ = _; unfold printL; rw [if_pos (by omega)]
    clear hz h hb hs
    obtain ⟨p, cp, rfl, h1⟩ := h1
    clear h1
    go_enter Tryz.func33, Tryz.ntmps33
    go_wp2_with fail
    refine HA.out.mono ?_
    rintro e w1 ⟨rfl, rfl⟩
    go_wp2
    go_ret2
    exact ⟨ret2 HP.out rfl, rfl⟩

end Sc
end Go.Proofs.YtocoonkachbjaaaGreatDoor
