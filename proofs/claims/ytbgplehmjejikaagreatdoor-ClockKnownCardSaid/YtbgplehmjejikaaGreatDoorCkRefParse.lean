/- The reference's Parse, of any text. -/
import Derived.Test.YtbgplehmjejikaaGreatDoorCkParse
namespace Go.Proofs.YtbgplehmjejikaaGreatDoor
open Go.RowKit
set_option linter.unusedVariables false
namespace Ck

/-- What the reference's Parse hands back. -/
def RPPost (s : ByteArray) (e : Ending) : Prop := e = .returned (.tuple #[.int .i64 (parseL s.data.toList).1, .int .i64 (parseL s.data.toList).2])

/-- At the head of a round. -/
def RRel (s : ByteArray) (w : World) (sum k at_ i : Value) (wr : World) : Prop :=
  ∃ (n j p a : Nat), i = .int .i64 n ∧ k = .int .i64 j ∧ at_ = .int .i64 p ∧ sum = .int .i64 a ∧ n ≤ j ∧ j ≤ 4 ∧ p ≤ s.size ∧ a ≤ 1099511627777 ∧ (n = 0 → a = 0 ∧ p = 0) ∧ (0 < n → 0 < a) ∧
    parseFrom (5 - n) j a (s.data.toList.drop p) = parseFrom 5 0 0 s.data.toList ∧ Below w.heap.size w wr

set_option maxRecDepth 100000 in
theorem letters_at (k : Nat) (hk : k < 4) : ∀ w, (Instr.index 9 (.string ⟨#[100, 104, 109, 115]⟩) (.int .i64 (k : Int))).run Tryz.prog w = .ok (.int .u8 (letterOf k)) w := by
  match k, hk with
  | 0, _ => exact fun w => by kernel_rfl
  | 1, _ => exact fun w => by kernel_rfl
  | 2, _ => exact fun w => by kernel_rfl
  | 3, _ => exact fun w => by kernel_rfl

theorem most_iff (k : Nat) (hk : k < 4) (v : Nat) : (k = 0 → (v : Int) ≤ 1099511627777 → (v : Int) ≤ mostOf k) ∧ (0 < k → (worthOf (k - 1) ≤ (v : Int) * worthOf k ↔ mostOf k < (v : Int))) := by
  match k, hk with
  | 0, _ => exact ⟨fun _ h => by simpa [mostOf] using h, fun h => absurd h (Nat.lt_irrefl _)⟩
  | 1, _ => exact ⟨fun h => absurd h (by omega), fun _ => by simp only [worthOf, mostOf]; omega⟩
  | 2, _ => exact ⟨fun h => absurd h (by omega), fun _ => by simp only [worthOf, mostOf]; omega⟩
  | 3, _ => exact ⟨fun h => absurd h (by omega), fun _ => by simp only [worthOf, mostOf]; omega⟩

theorem worth_before (k : Nat) (h0 : 0 < k) (hk : k < 4) (w : World) : Calls Tryz.prog 35 #[.int .i64 ((k : Int) - 1)] w fun e w' => e = .returned (.int .i64 (worthOf (k - 1))) ∧ w = w' := by
  have := worth_any (k - 1) (by omega) w
  rw [show ((k - 1 : Nat) : Int) = (k : Int) - 1 by omega] at this
  exact this

set_option maxHeartbeats 4000000 in
set_option maxRecDepth 100000 in
theorem refparse_any (s : ByteArray) (hs : s.size ≤ 281474976710656) (w : World) :
    Calls Tryz.prog 33 #[.string s] w fun e w' => RPPost s e ∧ Below w.heap.size w w' := by
  have hsz : (s.size : Int) ≤ 281474976710656 := by omega
  by_cases h0 : s.data.toList = [48, 115]
  · have hpl : Hid (parseL s.data.toList = (0, 0)) := by show _ = _; rw [h0]; rfl
    have q : (s.toList == [48, 115]) = true := by rw [Lib.toList_data, h0]; rfl
    clear h0
    go_enter Tryz.func33, Tryz.ntmps33
    go_wp2
    go_ret2
    exact ⟨by unfold RPPost; rw [hpl.out]; rfl, Below.refl _ _⟩
  have q : (s.toList == [48, 115]) = false := by rw [Lib.toList_data, beq_eq_false_iff_ne]; exact h0
  have H0 := Lib.hid h0
  clear h0
  go_enter Tryz.func33, Tryz.ntmps33
  go_wp2
  clear q
  go_loopw [4, 5, 6, 7] (fun a4 k5 p6 i7 wr => RRel s w a4 k5 p6 i7 wr) (fun _ _ _ i7 _ => 5 - (intOf i7).toNat)
  case atStart => exact ⟨0, 0, 0, 0, rfl, rfl, rfl, rfl, Nat.le_refl _, by omega, Nat.zero_le _, by omega, fun _ => ⟨rfl, rfl⟩, fun h => absurd h (Nat.lt_irrefl _), by rw [List.drop_zero], Below.refl _ _⟩
  case round =>
    obtain ⟨n, j, p, a, rfl, rfl, rfl, rfl, hnj, hj, hp, ha, hn0, hn1, hpf, hbl⟩ := hrel
    have HF := Lib.hid hpf; have HB := Lib.hid hbl
    have HN0 := Lib.hid hn0; have HN1 := Lib.hid hn1
    clear hpf hbl hn0 hn1
    have ha' : (a : Int) ≤ 1099511627777 := by omega
    have b1 : (n : Int) < 5 := by omega
    have b2 : (0 : Int) ≤ (p : Int) := by omega
    by_cases hps : p < s.size
    · have b3 : (p : Int) < (s.size : Int) := by omega
      have hne : s.data.toList.drop p ≠ [] := by intro e; have := congrArg List.length e; simp at this; omega
      obtain ⟨f, hf⟩ : ∃ f, 5 - n = f + 1 := ⟨4 - n, by omega⟩
      have hcn := refnumber_any s (by omega) p hp wr
      have HNE := Lib.hid hne
      have HFF := Lib.hid hf
      clear hne hf
      unfold RPost at hcn
      cases hnum : num (s.data.toList.drop p) with
      | none =>
        rw [hnum] at hcn
        have HPS : Hid (parseL s.data.toList = (0, 4)) := parseL_none H0.out (by rw [← HF.out, HFF.out, pf_no1 HNE.out hnum])
        have HC := Lib.hid hcn
        clear hcn hnum
        go_wp2_with fail
        refine HC.out.mono ?_
        rintro e w1 ⟨⟨x, y, rfl⟩, hb1⟩
        go_wp2
        go_ret2
        exact ⟨by unfold RPPost; rw [HPS.out]; rfl, HB.out.trans (hb1.mono HB.out.size)⟩
      | some vr =>
        obtain ⟨v, r⟩ := vr
        rw [hnum] at hcn
        obtain ⟨q, hq⟩ : ∃ q, q = s.size - r.length := ⟨_, rfl⟩
        simp only [← hq] at hcn
        have hrl : r.length ≤ s.size := by
          obtain ⟨ds, e1, _⟩ := num_split hnum
          have := congrArg List.length e1
          simp at this; omega
        have hv : v ≤ 1099511627777 := by
          obtain ⟨ds, _, _, _, e4, _⟩ := num_split hnum
          rw [e4]; exact sat_le _
        have hv' : (v : Int) ≤ 1099511627777 := by omega
        have hv0 : 0 < v := by
          obtain ⟨ds, _, e2, e3, e4, e5⟩ := num_split hnum
          cases ds with
          | nil => simp at e3
          | cons x t =>
            have h1 := val_pos (t := t) (by simp only [List.all_cons, Bool.and_eq_true] at e2; exact e2.1) (show x ≠ 48 by intro e; apply e5; rw [e]; rfl)
            rw [e4]; unfold sat; omega
        have HC := Lib.hid hcn
        have HNUM := Lib.hid hnum
        clear hcn hnum
        cases r with
        | nil =>
          have HPS : Hid (parseL s.data.toList = (0, 4)) := parseL_none H0.out (by rw [← HF.out, HFF.out, pf_no2 HNE.out HNUM.out])
          have b5 : (s.size : Int) ≤ (q : Int) := by simp at hq; omega
          clear hq
          go_wp2_with fail
          refine HC.out.mono ?_
          rintro e w1 ⟨⟨rfl, hr, hlt⟩, hb1⟩
          clear hr
          go_wp2
          go_ret2
          exact ⟨by unfold RPPost; rw [HPS.out]; rfl, HB.out.trans (hb1.mono HB.out.size)⟩
        | cons c t =>
          have hqs : q < s.size := by simp at hq; omega
          have b5 : (q : Int) < (s.size : Int) := by omega
          have b6 : (0 : Int) ≤ (q : Int) := by omega
          have hqt : q + t.length + 1 = s.size := by simp at hq hrl; omega
          have HQ := Lib.hid hqt
          obtain ⟨F1, F2⟩ := find_le j c hj
          have hskip := find_skip j c
          have hhit := find_hit j c
          obtain ⟨F, hF⟩ : ∃ F, F = find j c := ⟨_, rfl⟩
          rw [← hF] at F1 F2 hskip hhit
          have HFD := Lib.hid hF
          have HSK := Lib.hid hskip; have HHT := Lib.hid hhit
          clear hF hskip hhit hq hqt
          go_wp2_with fail
          refine HC.out.mono ?_
          rintro e w1 ⟨⟨rfl, hr, hlt⟩, hb1⟩
          have HB1 := Lib.hid (HB.out.trans (hb1.mono HB.out.size))
          have hsc : s[q] = c ∧ t = s.data.toList.drop (q + 1) := by
            rw [drop_at s q hqs] at hr
            obtain ⟨r1, r2⟩ := List.cons.inj hr
            exact ⟨r1.symm, r2⟩
          have HS := Lib.hid hsc
          clear hb1 hr hsc
          go_wp2_with fail
          go_loopw [5] (fun k5 wy => ∃ k : Nat, k5 = .int .i64 k ∧ j ≤ k ∧ k ≤ F ∧ Below w.heap.size w wy) (fun k5 _ => 5 - (intOf k5).toNat)
          case atStart => exact ⟨j, rfl, Nat.le_refl _, F1, HB1.out⟩
          case round =>
            obtain ⟨k, rfl, hjk, hkF, hb2⟩ := hrel
            have HB2 := Lib.hid hb2
            clear hb2
            have k0 : (0 : Int) ≤ (k : Int) := by omega
            by_cases hkf : k < F
            · have k1 : (k : Int) < 4 := by omega
              have hla := letters_at k (by omega)
              obtain ⟨L, hL⟩ : ∃ L, L = letterOf k := ⟨_, rfl⟩
              rw [← hL] at hla
              have hq5 : ((s[q].toNat : Int) != L) = true := by rw [bne_iff_ne, HS.out.1, hL]; exact fun e => HSK.out k hjk hkf e.symm
              clear hL
              go_wp2
              go_quiet (fail)
              go_wp2
              go_roundw
              case rel => exact ⟨k + 1, by go_num, by omega, by omega, Ut.below_drewN HB2.out _⟩
              case measure => simp [intOf]; omega
            · obtain rfl : k = F := by omega
              by_cases hk4 : k < 4
              · have k1 : (k : Int) < 4 := by omega
                have hla := letters_at k hk4
                obtain ⟨L, hL⟩ : ∃ L, L = letterOf k := ⟨_, rfl⟩
                rw [← hL] at hla
                have hq5 : ((s[q].toNat : Int) != L) = false := by rw [HS.out.1, hL, HHT.out hk4]; simp
                have k2 : ((k : Int) == 4) = false := by rw [beq_eq_false_iff_ne]; omega
                obtain ⟨wk1, wk2⟩ := worth_pos k
                obtain ⟨m1, m2⟩ := most_iff k hk4 v
                obtain ⟨W, hW⟩ : ∃ W, W = worthOf k := ⟨_, rfl⟩
                have hwk := worth_any k hk4
                simp only [← hW] at wk1 wk2 m2 hwk
                have HWK := Lib.hid hwk
                clear hwk
                have hw0 : 0 ≤ (v : Int) * W := Int.mul_nonneg (by omega) (by omega)
                have hw1 : (v : Int) * W ≤ 1099511627777 * 86400 := Int.mul_le_mul hv' wk2 (by omega) (by omega)
                have hw2 : (a : Int) + (v : Int) * W ≤ 1099511627777 + 1099511627777 * 86400 := by omega
                by_cases hk0 : k = 0
                · have k3 : ¬ (0 : Int) < (k : Int) := by omega
                  have hm : (v : Int) ≤ mostOf k := m1 hk0 hv'
                  have hk0' : (k : Int) ≤ 0 := by omega
                  have HWB := Lib.hid (trivial : True)
                  clear m1 m2 hk0
                  have hpf := pf_yes (f := f) (sum := a) HNE.out HNUM.out (by rw [← HFD.out]; exact hk4) (by rw [← HFD.out]; exact hm)
                  rw [← HFF.out, HF.out, ← HFD.out, ← hW] at hpf
                  rw [HS.out.2] at hpf
                  have hww : ((sat (a + v * W.toNat) : Nat) : Int) = min ((a : Int) + (v : Int) * W) 1099511627777 := by
                    obtain ⟨X, hX⟩ : ∃ X : Nat, X = v * W.toNat := ⟨_, rfl⟩
                    have : ((X : Nat) : Int) = (v : Int) * W := by rw [hX, Int.natCast_mul, Int.toNat_of_nonneg (by omega)]
                    rw [← hX]; unfold sat; omega
                  have hpos : 0 < sat (a + v * W.toNat) := by
                    have : 0 < v * W.toNat := Nat.mul_pos hv0 (by omega)
                    unfold sat; omega
                  have hfu : 5 - (n + 1) = f := by have := HFF.out; omega
                  clear hm
                  have HPF := Lib.hid hpf; have HWW := Lib.hid hww; have HPO := Lib.hid hpos; have HFU := Lib.hid hfu
                  clear hpf hww hpos hfu hL hW
                  go_wp2
                  go_quiet (fail)
                  go_wp2_with (go_at_call 35; refine (HWK.out _).mono ?_; rintro e w' ⟨rfl, rfl⟩)
                  go_roundw
                  case rel => exact ⟨n + 1, k + 1, q + 1, _, by go_num, by go_num, by go_num, by rw [HWW.out], by omega, by omega, by omega, sat_le _, fun h => absurd h (Nat.succ_ne_zero n), fun _ => HPO.out, by rw [HFU.out]; exact HPF.out.symm, Ut.below_drewN HB2.out _⟩
                  case measure => simp [intOf]; omega
                · have k3 : (0 : Int) < (k : Int) := by omega
                  have hwb := worth_before k (by omega) hk4
                  obtain ⟨V, hV⟩ : ∃ V, V = worthOf (k - 1) := ⟨_, rfl⟩
                  have m3 := m2 (by omega)
                  simp only [← hV] at m3 hwb
                  have HWB := Lib.hid hwb
                  clear hwb m1 m2 hV hk0
                  by_cases hm' : mostOf k < (v : Int)
                  · have hge : V ≤ (v : Int) * W := m3.2 hm'
                    have HPS : Hid (parseL s.data.toList = (0, 4)) := parseL_none H0.out (by rw [← HF.out, HFF.out, pf_no3 HNE.out HNUM.out (.inr (by rw [← HFD.out]; exact hm'))])
                    clear m3 hm' hL hW
                    go_wp2
                    go_quiet (fail)
                    go_wp2_with fail
                    refine (HWK.out _).mono ?_
                    rintro e w' ⟨rfl, rfl⟩
                    go_wp2_with fail
                    refine (HWB.out _).mono ?_
                    rintro e w' ⟨rfl, rfl⟩
                    go_wp2
                    go_ret2
                    exact ⟨by unfold RPPost; rw [HPS.out]; rfl, Ut.below_drewN HB2.out _⟩
                  · have hge : (v : Int) * W < V := by
                      have : ¬ V ≤ (v : Int) * W := fun h => hm' (m3.1 h)
                      omega
                    have hm : (v : Int) ≤ mostOf k := by omega
                    clear m3 hm'
                    have hpf := pf_yes (f := f) (sum := a) HNE.out HNUM.out (by rw [← HFD.out]; exact hk4) (by rw [← HFD.out]; exact hm)
                    rw [← HFF.out, HF.out, ← HFD.out, ← hW] at hpf
                    rw [HS.out.2] at hpf
                    have hww : ((sat (a + v * W.toNat) : Nat) : Int) = min ((a : Int) + (v : Int) * W) 1099511627777 := by
                      obtain ⟨X, hX⟩ : ∃ X : Nat, X = v * W.toNat := ⟨_, rfl⟩
                      have : ((X : Nat) : Int) = (v : Int) * W := by rw [hX, Int.natCast_mul, Int.toNat_of_nonneg (by omega)]
                      rw [← hX]; unfold sat; omega
                    have hpos : 0 < sat (a + v * W.toNat) := by
                      have : 0 < v * W.toNat := Nat.mul_pos hv0 (by omega)
                      unfold sat; omega
                    have hfu : 5 - (n + 1) = f := by have := HFF.out; omega
                    clear hm
                    have HPF := Lib.hid hpf; have HWW := Lib.hid hww; have HPO := Lib.hid hpos; have HFU := Lib.hid hfu
                    clear hpf hww hpos hfu hL hW
                    go_wp2
                    go_quiet (fail)
                    go_wp2_with fail
                    refine (HWK.out _).mono ?_
                    rintro e w' ⟨rfl, rfl⟩
                    go_wp2_with fail
                    refine (HWB.out _).mono ?_
                    rintro e w' ⟨rfl, rfl⟩
                    go_wp2_with fail
                    refine (HWK.out _).mono ?_
                    rintro e w' ⟨rfl, rfl⟩
                    go_wp2
                    go_roundw
                    case rel => exact ⟨n + 1, k + 1, q + 1, _, by go_num, by go_num, by go_num, by rw [HWW.out], by omega, by omega, by omega, sat_le _, fun h => absurd h (Nat.succ_ne_zero n), fun _ => HPO.out, by rw [HFU.out]; exact HPF.out.symm, Ut.below_drewN HB2.out _⟩
                    case measure => simp [intOf]; omega
              · have HPS : Hid (parseL s.data.toList = (0, 4)) := parseL_none H0.out (by rw [← HF.out, HFF.out, pf_no3 HNE.out HNUM.out (.inl (by rw [← HFD.out]; omega))])
                have k1 : (4 : Int) ≤ (k : Int) := by omega
                have k3 : decide ((k : Int) < 4) = false := by simp; omega
                have k2 : ((k : Int) == 4) = true := by rw [beq_iff_eq]; omega
                go_wp2
                go_quiet (fail)
                go_wp2
                go_ret2
                exact ⟨by unfold RPPost; rw [HPS.out]; rfl, Ut.below_drewN HB2.out _⟩
    · have b3 : (s.size : Int) ≤ (p : Int) := by omega
      have hnil : s.data.toList.drop p = [] := drop_end s p (by omega)
      have hsome : parseFrom 5 0 0 s.data.toList = some a := by rw [← HF.out, hnil, pf_nil]
      by_cases hn : n = 0
      · obtain ⟨rfl, rfl⟩ := HN0.out hn
        have HPS : Hid (parseL s.data.toList = (0, 4)) := by
          show _ = _
          rw [List.drop_zero] at hnil
          rw [hnil]; rfl
        clear hnil hsome hn
        go_wp2
        go_ret2
        exact ⟨by unfold RPPost; rw [HPS.out]; rfl, HB.out⟩
      · have ha0 : 0 < a := HN1.out (by omega)
        have hn0 : 0 < n := by omega
        have hnz : s.data.toList ≠ [] := by
          intro e; rw [e, pf_nil] at hsome
          simp at hsome; omega
        have hps2 := parseL_some H0.out hnz hsome
        have a1 : ((a : Int) == 0) = false := by rw [beq_eq_false_iff_ne]; omega
        by_cases hbig : 1099511627776 < a
        · have HPS : Hid (parseL s.data.toList = (0, 12)) := by show _ = _; rw [hps2, if_pos hbig]
          have b4 : (1099511627776 : Int) < (a : Int) := by omega
          clear hps2 hsome hnz hnil hn
          go_wp2
          go_ret2
          exact ⟨by unfold RPPost; rw [HPS.out]; rfl, HB.out⟩
        · have HPS : Hid (parseL s.data.toList = ((a : Int), 0)) := by show _ = _; rw [hps2, if_neg hbig]
          have b4 : (a : Int) ≤ (1099511627776 : Int) := by omega
          clear hps2 hsome hnz hnil hn
          go_wp2
          go_ret2
          exact ⟨by unfold RPPost; rw [HPS.out]; rfl, HB.out⟩

end Ck
end Go.Proofs.YtbgplehmjejikaaGreatDoor
