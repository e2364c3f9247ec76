/- lineagelaw31.wide. -/
import Derived.Test.YtnkjalladhmffaaCwQuoteW
namespace Go.Proofs.Ytnkjalladhmffaa
open Go.RowKit Go.Proofs.CwPlain Go.Proofs.Ar
set_option linter.unusedVariables false
namespace Cw

/-- How long words are together, each with one more. -/
def wsum (l : List ByteArray) : Nat := l.foldr (fun s n => s.size + 1 + n) 0
def wsumM (l : List ByteArray) : Nat := l.foldr (fun s n => min s.size 1048576 + 1 + n) 0
theorem wsumM_app (l : List ByteArray) (s : ByteArray) : wsumM (l ++ [s]) = wsumM l + 1 + min s.size 1048576 := by
  induction l with
  | nil => simp [wsumM]; omega
  | cons a l ih => simp only [wsumM, List.cons_append, List.foldr_cons] at ih ⊢; omega
theorem wsum_of : ∀ l : List ByteArray, wsumM l < 1048576 → wsum l = wsumM l ∧ ∀ s ∈ l, s.size < 1048576
  | [], _ => ⟨rfl, fun s h => by cases h⟩
  | a :: l, h => by
    have e : wsumM (a :: l) = min a.size 1048576 + 1 + wsumM l := rfl
    have e2 : wsum (a :: l) = a.size + 1 + wsum l := rfl
    obtain ⟨h1, h2⟩ := wsum_of l (by omega)
    refine ⟨by omega, fun s hs => ?_⟩
    rcases List.mem_cons.1 hs with rfl | hs
    · omega
    · exact h2 s hs

set_option maxRecDepth 100000 in
set_option maxHeartbeats 1000000 in
theorem wide_any (v : Value) (ps : List ByteArray) (hl : ps.length ≤ maxLen) (hz : ∀ s ∈ ps, s.size ≤ maxLen) (w : World) (h : TextArg w v ps) :
    Calls Try.prog 6 #[v] w fun e w' => (e = .returned (.bool true) ∨ (e = .returned (.bool false) ∧ wsum ps < 1048576)) ∧ w = w' := by
  unfold maxLen at hl
  obtain ⟨p, cp, rfl, h⟩ := h
  have HP := Lib.hid h; have HZ := Lib.hid hz
  clear h hz
  have hl' : (ps.length : Int) ≤ 9223372036854775807 := by omega
  clear hl
  go_enter Try.func6, Try.ntmps6
  go_wp2
  go_loop [3, 4] (fun n i => ∃ k : Nat, k ≤ ps.length ∧ i = .int .i64 k ∧ n = .int .i64 (wsumM (ps.take k) : Nat) ∧ wsumM (ps.take k) < 1048576) (fun _ i => ps.length - (intOf i).toNat)
  case atStart => exact ⟨0, Nat.zero_le _, rfl, rfl, by simp [wsumM]⟩
  case round =>
    obtain ⟨k, hk, rfl, rfl, hs⟩ := hrel
    by_cases hlt : k < ps.length
    · obtain ⟨g, o, rfl, hg, hc⟩ := HP.out k hlt
      have hsz : (ps[k].size : Int) ≤ 9223372036854775807 := by have := HZ.out _ (List.getElem_mem hlt); unfold maxLen at this; omega
      have hnext : wsumM (ps.take (k + 1)) = wsumM (ps.take k) + 1 + min ps[k].size 1048576 := by rw [List.take_succ_eq_append_getElem hlt, wsumM_app]
      obtain ⟨x, hx⟩ : ∃ x, x = ps[k] := ⟨_, rfl⟩
      rw [← hx] at hc hsz hnext
      obtain ⟨n, hn⟩ : ∃ n, n = wsumM (ps.take k) := ⟨_, rfl⟩
      rw [← hn] at hs hnext ⊢
      have HN := Lib.hid hnext
      clear hx hn hnext
      have b1 : (k : Int) < (ps.length : Int) := by omega
      have b2 : (0 : Int) ≤ (k : Int) := by omega
      have b3 : (n : Int) ≤ 1048575 := by omega
      have HS := Lib.hid hs
      clear hs
      by_cases hx : (x.size : Int) ≤ 1048576
      · by_cases hbig : (1048576 : Int) ≤ (n : Int) + 1 + (x.size : Int)
        · go_wp2
          go_ret
          exact ⟨.inl rfl, rfl⟩
        · have hbig' : (n : Int) + 1 + (x.size : Int) ≤ 1048575 := by omega
          have hval : wsumM (ps.take (k + 1)) = n + 1 + x.size := by rw [HN.out]; omega
          have HV := Lib.hid hval
          have hd : decide ((1048576 : Int) ≤ (n : Int) + 1 + (x.size : Int)) = false := by rw [decide_eq_false_iff_not]; exact hbig
          have HB := Lib.hid hbig'
          clear hbig hval hbig'
          go_wp2
          go_round
          case rel => exact ⟨k + 1, by omega, by go_num, by rw [HV.out]; go_num, by rw [HV.out]; have := HB.out; omega⟩
          case measure => simp [intOf]; omega
      · have hx' : (1048577 : Int) ≤ (x.size : Int) := by omega
        have hd : decide ((1048576 : Int) < (x.size : Int)) = true := decide_eq_true (by omega)
        have hd2 : decide ((1048576 : Int) ≤ (n : Int) + 1 + 1048576) = true := decide_eq_true (by omega)
        have hd3 : ¬ (x.size : Int) ≤ 1048576 := hx
        clear hx hx'
        go_wp2
        go_ret
        exact ⟨.inl rfl, rfl⟩
    · obtain rfl : k = ps.length := by omega
      have hfin : wsum ps < 1048576 := by
        rw [List.take_length] at hs
        obtain ⟨h1, _⟩ := wsum_of ps hs
        omega
      have HF := Lib.hid hfin
      clear hfin
      go_wp2
      go_ret
      exact ⟨.inr ⟨rfl, HF.out⟩, rfl⟩

end Cw
end Go.Proofs.Ytnkjalladhmffaa
