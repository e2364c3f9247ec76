/- ConsoleQuoted: the law's walk. -/
import Derived.Test.YtnkjalladhmffaaCwWide
import Derived.Laws.Concat
namespace Go.Proofs.Ytnkjalladhmffaa
open Go.RowKit Go.Proofs.CwPlain Go.Proofs.Ar
set_option linter.unusedVariables false
namespace Cw

def mk (l : Bs) : ByteArray := ⟨l.toArray⟩
theorem mk_data (s : ByteArray) : mk s.data.toList = s := by cases s; simp [mk]
theorem mk_list : ∀ ps : List ByteArray, (ps.map (·.data.toList)).map mk = ps
  | [] => rfl
  | s :: ps => by rw [List.map_cons, List.map_cons, mk_data, mk_list ps]
theorem sv_mk (ws : List Bs) : ws.map sv = (ws.map mk).map Value.string := by rw [List.map_map]; rfl

/-- What Words hands back where there are words. -/
theorem words_some (s : ByteArray) (hs : s.size ≤ 1099511627776) (ws : List Bs) (h : wordsOf s.data.toList = some ws) (w : World) :
    Calls Try.prog 4 #[.string s] w fun e w' => ∃ v, e = .returned (.tuple #[v, .nilIface]) ∧ TextArg w' v (ws.map mk) ∧ Below w.heap.size w w' := by
  refine (words_any s hs w).mono fun e w' ⟨hp, hb⟩ => ?_
  unfold WPost at hp
  rw [h] at hp
  obtain ⟨v, he, ho, _⟩ := hp
  refine ⟨v, he, Tx.own_arg (base := w.heap.size) ?_, hb⟩
  rw [List.length_map, ← sv_mk]; exact ho

theorem first_line : wordsOf [97, 32, 34, 34, 9, 98, 35, 99] = some [[97], [], [98, 35, 99]] := by decide +kernel

theorem line_len (m : Nat) (hm : m ≤ 2) : ∀ ps : List ByteArray, (lineOf m (ps.map (·.data.toList))).length ≤ 5 * wsum ps
  | [] => by simp [lineOf, wsum]
  | s :: ps => by
    have e : lineOf m ((s :: ps).map (·.data.toList)) = piece m s.data.toList ++ lineOf m (ps.map (·.data.toList)) := rfl
    have e2 : wsum (s :: ps) = s.size + 1 + wsum ps := rfl
    have h1 := piece_len m s.data.toList
    have h2 := line_len m hm ps
    have h3 : s.data.toList.length = s.size := by simp
    rw [e, e2, List.length_append]; omega

theorem line_take (m : Nat) (ps : List ByteArray) (k : Nat) (h : k < ps.length) : lineOf m ((ps.take (k + 1)).map (·.data.toList)) = lineOf m ((ps.take k).map (·.data.toList)) ++ piece m ps[k].data.toList := by
  rw [List.take_succ_eq_append_getElem h, List.map_append]
  unfold lineOf
  rw [List.flatMap_append]; simp

theorem wsum_take (ps : List ByteArray) : ∀ k, wsum (ps.take k) ≤ wsum ps := by
  induction ps with
  | nil => intro k; simp
  | cons s ps ih =>
    intro k
    cases k with
    | zero => simp [wsum]
    | succ k =>
      have e : wsum ((s :: ps).take (k + 1)) = s.size + 1 + wsum (ps.take k) := rfl
      have e2 : wsum (s :: ps) = s.size + 1 + wsum ps := rfl
      have := ih k
      omega

theorem app_data (a b : ByteArray) : (a ++ b).data.toList = a.data.toList ++ b.data.toList := by rw [ByteArray.data_append, Array.toList_append]
theorem size_len (a : ByteArray) : a.size = a.data.toList.length := by simp

def LRel (ps : List ByteArray) (m : Nat) (w : World) (l i : Value) (wr : World) : Prop :=
  ∃ (k : Nat) (L : ByteArray), k ≤ ps.length ∧ i = .int .i64 k ∧ l = .string L ∧ L.data.toList = lineOf m ((ps.take k).map (·.data.toList)) ∧ Below w.heap.size w wr
def TRel (m : Nat) (w : World) (base : Bs) (l j : Value) (wr : World) : Prop :=
  ∃ (n : Nat) (L : ByteArray), n ≤ m ∧ j = .int .i64 n ∧ l = .string L ∧ L.data.toList = base ++ 32 :: List.replicate n 9 ∧ Below w.heap.size w wr

set_option maxHeartbeats 4000000 in
set_option maxRecDepth 100000 in
theorem consoleQuoted_core (v : Value) (ps : List ByteArray) (hl : ps.length ≤ maxLen) (hz : ∀ s ∈ ps, s.size ≤ maxLen) (blanks : Int) (w : World) (h : TextArg w v ps) :
    Calls Try.prog 3 #[v, .int .i64 blanks] w fun e w' => e = .returned (.bool true) ∧ Below w.heap.size w w' := by
  have hl2 : (ps.length : Int) ≤ 9223372036854775807 := by unfold maxLen at hl; omega
  have h1 := words_some ⟨#[97, 32, 34, 34, 9, 98, 35, 99]⟩ (by decide) _ first_line w
  have H1 := Lib.hid h1
  have hs1 : Hid (∀ (w' : World) (u : Value), TextArg w' u ([[97], [], [98, 35, 99]].map mk) → Calls Try.prog 5 #[u, .slice (some ⟨w'.heap.size, 0, none⟩) 3 3] (w'.alloc (.cells #[.string ⟨#[97]⟩, .string ⟨#[]⟩, .string ⟨#[98, 35, 99]⟩] 9)) fun e w2 => e = .returned (.bool true) ∧ Below w'.heap.size w' w2) := fun w' u hu => by
    have hb : Below w'.heap.size w' (w'.alloc (.cells #[.string ⟨#[97]⟩, .string ⟨#[]⟩, .string ⟨#[98, 35, 99]⟩] 9)) := (Below.refl _ _).alloc (Nat.le_refl _) _
    have := Tx.same_any u (.slice (some ⟨w'.heap.size, 0, none⟩) 3 3) ([[97], [], [98, 35, 99]].map mk) ([[97], [], [98, 35, 99]].map mk) (by simp) (by simp) _ (hu.below hb) (Tx.lit_arg w' ([[97], [], [98, 35, 99]].map mk) 9)
    rw [decide_eq_true rfl] at this
    exact this.mono fun e w2 ⟨he, h2⟩ => ⟨he, hb.trans (h2.mono (by simp))⟩
  have HW := Lib.hid (fun w' (hb : Below w.heap.size w w') => wide_any v ps hl hz w' (h.below hb))
  have HT := Lib.hid h
  have HZ := Lib.hid hz
  obtain ⟨p, cp, hv, hcell⟩ := h
  subst hv
  have HC := Lib.hid hcell
  clear h1 hcell hl hz
  go_enter Try.func3, Try.ntmps3
  go_wp2_with fail
  refine H1.out.mono ?_
  rintro e w1 ⟨v1, rfl, ht1, hb1⟩
  have HB1 := Lib.hid hb1
  have HT1 := Lib.hid ht1
  clear ht1 hb1
  go_wp2_with fail
  refine (hs1.out _ _ HT1.out).mono ?_
  rintro e w2 ⟨rfl, hb2⟩
  have HB2 := Lib.hid (HB1.out.trans (hb2.mono HB1.out.size))
  clear hb2
  go_wp2_with fail
  refine (HW.out _ HB2.out).mono ?_
  rintro e w3 ⟨hr, rfl⟩
  rcases hr with rfl | ⟨rfl, hsum⟩
  · go_wp2
    go_ret
    exact ⟨rfl, HB2.out⟩
  obtain ⟨m, hm⟩ : ∃ m : Nat, blanks % 3 = (m : Int) := ⟨(blanks % 3).toNat, by omega⟩
  have hm2 : m ≤ 2 := by omega
  have hpk : Hid (∀ w', Calls Try.prog 7 #[.int .i64 blanks, .int .i64 3] w' fun e w2 => e = .returned (.int .i64 m) ∧ w' = w2) := fun w' => by
    have := Pk.pick_any blanks 3 (by omega) (by omega) w'
    rw [hm] at this; exact this
  have hlen := fun k => line_len m hm2 (ps.take k)
  have hsm : ∀ s ∈ ps, s.size < 1048576 := fun s hs => by
    obtain ⟨a, b, rfl⟩ := List.append_of_mem hs
    have e : ∀ a : List ByteArray, s.size < wsum (a ++ s :: b) := fun a => by
      induction a with
      | nil => show s.size < s.size + 1 + wsum b; omega
      | cons x a ih => show s.size < x.size + 1 + wsum (a ++ s :: b); omega
    have := e a
    omega
  have HLEN : Hid (∀ k, (lineOf m ((ps.take k).map (·.data.toList))).length ≤ 5242880) := fun k => by
    have h1 := hlen k; have h2 := wsum_take ps k; omega
  have HSM := Lib.hid hsm
  have HSUM := Lib.hid hsum
  clear hm hlen hsm hsum
  go_wp2_with fail
  go_loopw [7, 8] (fun l i wr => LRel ps m w l i wr) (fun _ i _ => ps.length - (intOf i).toNat)
  case atStart => exact ⟨0, ⟨#[]⟩, Nat.zero_le _, rfl, rfl, rfl, HB2.out⟩
  case round =>
    obtain ⟨k, L, hk, rfl, rfl, hL, hbl⟩ := hrel
    have HL := Lib.hid hL; have HB := Lib.hid hbl
    have hLz : (L.size : Int) ≤ 5242880 := by
      have := HLEN.out k
      rw [← hL, ← size_len] at this; omega
    clear hL hbl
    by_cases hlt : k < ps.length
    · have b1 : (0 : Int) ≤ (k : Int) := by omega
      have b2 : (k : Int) < (ps.length : Int) := by omega
      obtain ⟨g, o, rfl, hg, hc⟩ := HC.out k hlt
      have hq := quote_any ps[k] (by have := HSM.out _ (List.getElem_mem hlt); omega)
      have hnext := line_take m ps k hlt
      have hxz : (ps[k].size : Int) ≤ 1048576 := by have := HSM.out _ (List.getElem_mem hlt); omega
      obtain ⟨x, hx⟩ : ∃ x, x = ps[k] := ⟨_, rfl⟩
      rw [← hx] at hc hq hnext hxz
      have HQ := Lib.hid hq; have HN := Lib.hid hnext
      have HCC := Lib.hid hc
      clear hq hnext hx hc
      go_wp2_with fail
      go_loopw [7, 9] (fun l j wy => TRel m w L.data.toList l j wy) (fun _ j _ => 3 - (intOf j).toNat)
      case atStart => exact ⟨0, L ++ ⟨#[32]⟩, Nat.zero_le _, rfl, rfl, by rw [app_data]; rfl, HB.out⟩
      case round =>
        obtain ⟨n, T, hn, rfl, rfl, hT, hb2⟩ := hrel
        have HTT := Lib.hid hT; have HB3 := Lib.hid hb2
        have hTz : (T.size : Int) ≤ 5242890 := by rw [size_len, hT]; simp; omega
        clear hT hb2
        by_cases hnm : n < m
        · have c1 : (n : Int) < (m : Int) := by omega
          go_wp2_with fail
          refine (hpk.out _).mono ?_
          rintro e w' ⟨rfl, rfl⟩
          go_wp2
          go_roundw
          case rel => exact ⟨n + 1, T ++ ⟨#[9]⟩, by omega, by go_num, rfl, by rw [app_data, HTT.out, List.append_assoc, List.replicate_succ']; rfl, HB3.out⟩
          case measure => simp [intOf]; omega
        · obtain rfl : n = m := by omega
          have hcell := (HB3.out.cell (p := ⟨g, o + k, none⟩) hg).trans HCC.out
          obtain ⟨Q, hQ⟩ : ∃ Q : ByteArray, Q = ⟨(34 :: (escL x.data.toList ++ [34])).toArray⟩ := ⟨_, rfl⟩
          have hQd : Q.data.toList = 34 :: (escL x.data.toList ++ [34]) := by rw [hQ]
          have hQz : (Q.size : Int) ≤ 4194310 := by
            rw [size_len, hQd]
            have := escL_len x.data.toList
            have h3 : x.data.toList.length = x.size := by simp
            simp; omega
          have HQ2 : Hid (∀ w', Calls Try.prog 8 #[.string x] w' fun e w2 => e = .returned (.string Q) ∧ Below w'.heap.size w' w2) := fun w' => by rw [hQ]; exact HQ.out w'
          have HQD := Lib.hid hQd
          clear hQ hQd
          go_wp2_with fail
          refine (hpk.out _).mono ?_
          rintro e w' ⟨rfl, rfl⟩
          go_wp2_with fail
          refine (HQ2.out _).mono ?_
          rintro e w4 ⟨rfl, hb4⟩
          have HB4 := Lib.hid (HB3.out.trans (hb4.mono HB3.out.size))
          clear hb4 hcell
          go_wp2
          go_roundw
          case rel =>
            refine ⟨k + 1, T ++ Q, by omega, by go_num, rfl, ?_, HB4.out⟩
            rw [HN.out, app_data, HTT.out, HQD.out, HL.out]
            unfold piece
            simp
          case measure => simp [intOf]; omega
    · obtain rfl : k = ps.length := by omega
      have hline : wordsOf L.data.toList = some (ps.map (·.data.toList)) := by
        rw [HL.out, List.take_length]; exact line_is m _
      have hwd := fun w' => words_some L (by omega) _ hline w'
      rw [mk_list] at hwd
      have HWD := Lib.hid hwd
      have HSA : Hid (∀ (w' : World) (u : Value), Below w.heap.size w w' → TextArg w' u ps → Calls Try.prog 5 #[u, .slice p ps.length cp] w' fun e w2 => e = .returned (.bool true) ∧ Below w'.heap.size w' w2) := fun w' u hb hu => by
        have := Tx.same_any u (.slice p ps.length cp) ps ps hl2 hl2 w' hu (HT.out.below hb)
        rw [decide_eq_true rfl] at this
        exact this
      clear hwd hline
      go_wp2_with fail
      refine (HWD.out _).mono ?_
      rintro e w5 ⟨v5, rfl, ht5, hb5⟩
      have HB5 := Lib.hid (HB.out.trans (hb5.mono HB.out.size))
      have HT5 := Lib.hid ht5
      clear ht5 hb5
      go_wp2_with fail
      refine (HSA.out _ _ HB5.out HT5.out).mono ?_
      rintro e w6 ⟨rfl, hb6⟩
      go_wp2
      go_ret
      exact ⟨rfl, HB5.out.trans (hb6.mono HB5.out.size)⟩

end Cw

theorem consoleQuoted_walk (v : Value) (ps : List ByteArray) (hl : ps.length ≤ maxLen) (hz : ∀ s ∈ ps, s.size ≤ maxLen) (blanks : Int) (wb : (Lit.int .i64 blanks).wf = true) (w : World) (h : TextArg w v ps) :
    Calls Try.prog 3 #[v, .int .i64 blanks] w fun e w' => e = .returned (.bool true) ∧ Below w.heap.size w w' :=
  Cw.consoleQuoted_core v ps hl hz blanks w h

end Go.Proofs.Ytnkjalladhmffaa
