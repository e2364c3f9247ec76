/- clock.Parse, of any text. -/
import Derived.Test.YtbgplehmjejikaaGreatDoorCkNum2
import Derived.Test.YtbgplehmjejikaaGreatDoorClkLaw2
import Derived.Test.YtbgplehmjejikaaGreatDoorCkBack
import Derived.Deep.LoopGhost
namespace Go.Proofs.YtbgplehmjejikaaGreatDoor
open Go.RowKit
set_option linter.unusedVariables false
namespace Ck

theorem part_cell {w : World} (h : PartsAt w) (k : Nat) (hk : k < 4) :
    w.cell? ⟨0, k * 3, none⟩ = some (.int .u8 (letterOf k)) ∧ w.cell? ⟨0, k * 3 + 1, none⟩ = some (.int .i64 (worthOf k)) ∧ w.cell? ⟨0, k * 3 + 2, none⟩ = some (.int .i64 (mostOf k)) := by
  obtain ⟨t, fr, h⟩ := h
  match k, hk with
  | 0, _ => simp [World.cell?, h, partsCells, letterOf, worthOf, mostOf]
  | 1, _ => simp [World.cell?, h, partsCells, letterOf, worthOf, mostOf]
  | 2, _ => simp [World.cell?, h, partsCells, letterOf, worthOf, mostOf]
  | 3, _ => simp [World.cell?, h, partsCells, letterOf, worthOf, mostOf]

/-- What clock.Parse hands back. -/
def PPost (s : ByteArray) (e : Ending) : Prop := e = .returned (.tuple #[.int .i64 (parseL s.data.toList).1, errVal (parseL s.data.toList).2])

/-- At the head of a round; at most g are to come. -/
def PRel (s0 : ByteArray) (w : World) (g : Nat) (s sum next : Value) (wr : World) : Prop :=
  ∃ (s1 : ByteArray) (j a : Nat), 5 ≤ j + g ∧ s = .string s1 ∧ sum = .int .i64 a ∧ next = .int .i64 j ∧ j ≤ 4 ∧ a ≤ 1099511627777 ∧ s1.size ≤ 281474976710656 ∧ parseFrom g j a s1.data.toList = parseFrom 5 0 0 s0.data.toList ∧ Below w.heap.size w wr

theorem err4 : errVal 4 = .iface 44 (.int .i64 4) := rfl
theorem err12 : errVal 12 = .iface 44 (.int .i64 12) := rfl

/-- What a text is read as that is neither empty nor a nought's. -/
theorem parseL_none {l : Bs} (h1 : l ≠ [48, 115]) (h : parseFrom 5 0 0 l = none) : parseL l = (0, 4) := by
  unfold parseL
  rw [if_neg h1]
  split
  · rfl
  · rw [h]
theorem parseL_some {l : Bs} {n : Nat} (h1 : l ≠ [48, 115]) (h2 : l ≠ []) (h : parseFrom 5 0 0 l = some n) : parseL l = if 1099511627776 < n then (0, 12) else ((n : Int), 0) := by
  unfold parseL
  rw [if_neg h1, if_neg h2, h]

theorem pf_no1 {f j sum : Nat} {l : Bs} (hne : l ≠ []) (h : num l = none) : parseFrom (f + 1) j sum l = none := by
  cases l with
  | nil => exact absurd rfl hne
  | cons a l => rw [parseFrom, h]
theorem pf_no2 {f j sum v : Nat} {l : Bs} (hne : l ≠ []) (h : num l = some (v, [])) : parseFrom (f + 1) j sum l = none := by
  cases l with
  | nil => exact absurd rfl hne
  | cons a l => rw [parseFrom, h]
theorem pf_no3 {f j sum v : Nat} {l t : Bs} {c : UInt8} (hne : l ≠ []) (h : num l = some (v, c :: t)) (hk : find j c = 4 ∨ mostOf (find j c) < (v : Int)) : parseFrom (f + 1) j sum l = none := by
  cases l with
  | nil => exact absurd rfl hne
  | cons a l => rw [parseFrom, h]; simp only []; rw [if_pos hk]
theorem pf_yes {f j sum v : Nat} {l t : Bs} {c : UInt8} (hne : l ≠ []) (h : num l = some (v, c :: t)) (hk : find j c < 4) (hv : (v : Int) ≤ mostOf (find j c)) :
    parseFrom (f + 1) j sum l = parseFrom f (find j c + 1) (sat (sum + v * (worthOf (find j c)).toNat)) t := by
  cases l with
  | nil => exact absurd rfl hne
  | cons a l => rw [parseFrom, h]; simp only []; rw [if_neg (by omega)]

set_option maxHeartbeats 4000000 in
set_option maxRecDepth 100000 in
theorem cparse_any (s : ByteArray) (hs : s.size ≤ 281474976710656) (w : World) (he : ErrAt w) (hp : PartsAt w) :
    Calls Tryz.prog 13 #[.string s] w fun e w' => PPost s e ∧ Below w.heap.size w w' := by
  by_cases h0 : s.data.toList = [48, 115]
  · have hpl : Hid (parseL s.data.toList = (0, 0)) := by show _ = _; rw [h0]; rfl
    have q : (s.toList == [48, 115]) = true := by rw [Lib.toList_data, h0]; rfl
    clear h0
    go_enter Tryz.func13, Tryz.ntmps13
    go_wp2_with fail
    go_step3
    go_wp2
    try rw [Exit.noGoto_ret]
    go_ret2
    exact ⟨by unfold PPost; rw [hpl.out]; rfl, Below.refl _ _⟩
  have q : (s.toList == [48, 115]) = false := by rw [Lib.toList_data, beq_eq_false_iff_ne]; exact h0
  by_cases h1 : s.data.toList = []
  · have hpl : Hid (parseL s.data.toList = (0, 4)) := by show _ = _; unfold parseL; rw [if_neg h0, if_pos h1]
    have q2 : s.toList.isEmpty = true := by rw [Lib.toList_data, h1]; rfl
    have q3 : s.toList = [] := by rw [Lib.toList_data, h1]
    clear h0 h1
    go_enter Tryz.func13, Tryz.ntmps13
    go_wp2_with fail
    go_step3
    go_wp2
    try rw [Exit.noGoto_ret]
    go_ret2
    exact ⟨by unfold PPost; rw [hpl.out]; rfl, Below.refl _ _⟩
  have q2 : s.toList.isEmpty = false := by
    rw [Lib.toList_data]; cases h : s.data.toList with
    | nil => exact absurd h h1
    | cons _ _ => rfl
  have H0 := Lib.hid h0; have H1 := Lib.hid h1
  have HE := Lib.hid he; have HP := Lib.hid hp
  clear h0 h1 he hp
  go_enter Tryz.func13, Tryz.ntmps13
  go_wp2_with fail
  go_step3
  go_wp2_with fail
  go_step3
  go_wp2_with fail
  clear q q2
  go_loopg [0, 4, 5] 5 (fun g s5 a5 n5 wr => PRel s w g s5 a5 n5 wr)
  case atStart => exact ⟨s, 0, 0, Nat.le_refl _, rfl, rfl, rfl, by omega, by omega, hs, rfl, Below.refl _ _⟩
  case round =>
    obtain ⟨s1, j, a, hjg, rfl, rfl, rfl, hj, ha, hs1, hpf, hbl⟩ := hrel
    obtain ⟨f, rfl⟩ : ∃ f, gk = f + 1 := ⟨gk - 1, by omega⟩
    have HF := Lib.hid hpf; have HB := Lib.hid hbl
    clear hpf hbl
    have ha' : (a : Int) ≤ 1099511627777 := by omega
    by_cases h1 : s1.data.toList = []
    · have q2 : s1.toList.isEmpty = true := by rw [Lib.toList_data, h1]; rfl
      have q3 : s1.toList = [] := by rw [Lib.toList_data, h1]
      have hsome : parseFrom 5 0 0 s.data.toList = some a := by rw [← HF.out, h1, pf_nil]
      have hps := parseL_some H0.out H1.out hsome
      by_cases hbig : 1099511627776 < a
      · have HPS : Hid (parseL s.data.toList = (0, 12)) := by show _ = _; rw [hps, if_pos hbig]
        have b1 : (1099511627776 : Int) < (a : Int) := by omega
        clear hps hsome h1
        go_wp2
        try rw [Exit.noGoto_ret]
        go_ret2
        exact ⟨by unfold PPost; rw [HPS.out]; rfl, HB.out⟩
      · have HPS : Hid (parseL s.data.toList = ((a : Int), 0)) := by show _ = _; rw [hps, if_neg hbig]
        have b1 : (a : Int) ≤ (1099511627776 : Int) := by omega
        clear hps hsome h1
        go_wp2
        try rw [Exit.noGoto_ret]
        go_ret2
        exact ⟨by unfold PPost; rw [HPS.out]; rfl, HB.out⟩
    have q2 : s1.toList.isEmpty = false := by
      rw [Lib.toList_data]; cases h : s1.data.toList with
      | nil => exact absurd h h1
      | cons _ _ => rfl
    have hcn := cnumber_any s1 hs1 wr (HE.out.below HB.out)
    have HL1 := Lib.hid h1
    clear h1
    unfold CPost at hcn
    cases hnum : num s1.data.toList with
    | none =>
      rw [hnum] at hcn
      have HPS : Hid (parseL s.data.toList = (0, 4)) := parseL_none H0.out (by rw [← HF.out, pf_no1 HL1.out hnum])
      have HC := Lib.hid hcn
      clear hcn hnum
      go_wp2_with fail
      refine HC.out.mono ?_
      rintro e w1 ⟨rfl, hb1⟩
      go_wp2
      try rw [Exit.noGoto_ret]
      go_ret2
      exact ⟨by unfold PPost; rw [HPS.out]; rfl, HB.out.trans (hb1.mono HB.out.size)⟩
    | some vr =>
      obtain ⟨v, r⟩ := vr
      rw [hnum] at hcn
      cases r with
      | nil =>
        have HPS : Hid (parseL s.data.toList = (0, 4)) := parseL_none H0.out (by rw [← HF.out, pf_no2 HL1.out hnum])
        have HC := Lib.hid hcn
        clear hcn hnum
        go_wp2_with fail
        refine HC.out.mono ?_
        rintro e w1 ⟨rfl, hb1⟩
        go_wp2
        try rw [Exit.noGoto_ret]
        go_ret2
        exact ⟨by unfold PPost; rw [HPS.out]; rfl, HB.out.trans (hb1.mono HB.out.size)⟩
      | cons c t =>
        obtain ⟨R, hR⟩ : ∃ R : ByteArray, R = ⟨(c :: t).toArray⟩ := ⟨_, rfl⟩
        simp only [← hR] at hcn
        have hRl : R.data.toList = c :: t := by rw [hR]
        have hRz : R.size = t.length + 1 := by have := congrArg List.length hRl; simpa using this
        have hzR : 0 < R.size := by omega
        have hR0 : (R[0]'hzR) = c := by
          show R.data.toList[0]'(by rw [hRl]; simp) = c
          simp only [hRl]; rfl
        have hRs : R.size ≤ s1.size := by
          obtain ⟨ds, e1, _⟩ := num_split hnum
          have := congrArg List.length e1
          rw [List.length_append, ← hRl] at this
          simp at this; omega
        have e2 : R.toList.isEmpty = false := by rw [Lib.toList_data, hRl]; rfl
        have hv : v ≤ 1099511627777 := by
          obtain ⟨ds, _, _, _, e4, _⟩ := num_split hnum
          rw [e4]; exact sat_le _
        have hv' : (v : Int) ≤ 1099511627777 := by omega
        have HC := Lib.hid hcn
        have HNUM := Lib.hid hnum
        obtain ⟨F1, F2⟩ := find_le j c hj
        have hskip := find_skip j c
        have hhit := find_hit j c
        obtain ⟨F, hF⟩ : ∃ F, F = find j c := ⟨_, rfl⟩
        rw [← hF] at F1 F2 hskip hhit
        have HFD := Lib.hid hF
        have HZR := Lib.hid hRz; have HR := Lib.hid hRl; have HR0 := Lib.hid hR0; have HSK := Lib.hid hskip; have HHT := Lib.hid hhit
        clear hcn hnum hR hRl hR0 hF hskip hhit hRz
        go_wp2_with fail
        refine HC.out.mono ?_
        rintro e w1 ⟨rfl, hb1⟩
        have HB1 := Lib.hid (HB.out.trans (hb1.mono HB.out.size))
        have HP1 := Lib.hid (HP.out.below HB1.out)
        clear hb1
        go_wp2_with fail
        go_loopg [0, 4, 5, 9] (5 - j) (fun g2 s0 a4 n5 k9 wy => ∃ k : Nat, k + g2 = 5 ∧ s0 = .string s1 ∧ a4 = .int .i64 a ∧ n5 = .int .i64 j ∧ k9 = .int .i64 k ∧ j ≤ k ∧ k ≤ F ∧ PartsAt wy ∧ Below w.heap.size w wy)
        case atStart => exact ⟨j, by omega, rfl, rfl, rfl, rfl, Nat.le_refl _, F1, HP1.out, HB1.out⟩
        case round =>
          obtain ⟨k, hkg, rfl, rfl, rfl, rfl, hjk, hkF, hp2, hb2⟩ := hrel
          have HP2 := Lib.hid hp2; have HB2 := Lib.hid hb2
          clear hp2 hb2
          have b1 : (0 : Int) ≤ (k : Int) := by omega
          have b9 : (1 : Int) ≤ (R.size : Int) := by omega
          by_cases hk4 : k < 4
          · obtain ⟨p1, p2, p3⟩ := part_cell HP2.out k hk4
            have b2 : (k : Int) < 4 := by omega
            obtain ⟨wk1, wk2⟩ := worth_pos k
            obtain ⟨L, hL⟩ : ∃ L, L = letterOf k := ⟨_, rfl⟩
            obtain ⟨W, hW⟩ : ∃ W, W = worthOf k := ⟨_, rfl⟩
            obtain ⟨M, hM⟩ : ∃ M, M = mostOf k := ⟨_, rfl⟩
            rw [← hL] at p1; rw [← hW] at p2 wk1 wk2; rw [← hM] at p3
            by_cases hkf : k < F
            · have hne : L ≠ (c.toNat : Int) := by rw [hL]; exact HSK.out k hjk hkf
              have q5 : (L != ((R[0]'hzR).toNat : Int)) = true := by rw [bne_iff_ne, HR0.out]; exact hne
              clear hne hL hW hM
              obtain ⟨g2, rfl⟩ : ∃ g2, gk = g2 + 1 := ⟨gk - 1, by omega⟩
              go_wp2
              go_quiet (fail)
              go_wp2
              go_roundg g2
              case measure => omega
              case rel => exact ⟨k + 1, by omega, rfl, rfl, rfl, by go_num, by omega, by omega, HP2.out.below (Ut.below_drewN (Below.refl _ _) _), Ut.below_drewN HB2.out _⟩
            · obtain rfl : k = F := by omega
              have he : L = (c.toNat : Int) := by rw [hL]; exact HHT.out hk4
              have q5 : (L != ((R[0]'hzR).toNat : Int)) = false := by rw [HR0.out, he]; simp
              by_cases hm : (v : Int) ≤ M
              · have hpf := pf_yes (f := f) (sum := a) HL1.out HNUM.out (by rw [← HFD.out]; exact hk4) (by rw [← HFD.out, ← hM]; exact hm)
                rw [HF.out, ← HFD.out, ← hW] at hpf
                have hsl : (R.extract 1 R.size).data.toList = t := by rw [Lib.extract_data, HR.out]; exact List.take_of_length_le (by have := HZR.out; simp; omega)
                have hslz : (R.extract 1 R.size).size ≤ 281474976710656 := by
                  have e : (R.extract 1 R.size).size = t.length := by rw [← hsl]; simp
                  have := HZR.out
                  omega
                rw [← hsl] at hpf
                have hw0 : 0 ≤ (v : Int) * W := Int.mul_nonneg (by omega) (by omega)
                have hw1 : (v : Int) * W ≤ 1099511627777 * 86400 := Int.mul_le_mul hv' wk2 (by omega) (by omega)
                have hww : ((sat (a + v * W.toNat) : Nat) : Int) = min ((a : Int) + (v : Int) * W) 1099511627777 := by
                  obtain ⟨X, hX⟩ : ∃ X : Nat, X = v * W.toNat := ⟨_, rfl⟩
                  have : ((X : Nat) : Int) = (v : Int) * W := by rw [hX, Int.natCast_mul, Int.toNat_of_nonneg (by omega)]
                  rw [← hX]; unfold sat; omega
                have HPF := Lib.hid hpf; have HWW := Lib.hid hww; have HSZ := Lib.hid hslz
                have hw2 : (a : Int) + (v : Int) * W ≤ 1099511627777 + 1099511627777 * 86400 := by omega
                have u1 : IntKind.i64.wrap ((v : Int) * W) = (v : Int) * W := IntWalk.i64_in _ (by omega)
                have u2 : IntKind.i64.wrap ((a : Int) + (v : Int) * W) = (a : Int) + (v : Int) * W := IntWalk.i64_in _ (by omega)
                have HHB := Lib.hid hm
                clear hpf hww hsl hslz he hL hW hM
                go_wp2
                go_quiet (fail)
                go_wp2
                clear u1 u2
                go_roundg f
                case measure => omega
                case rel => exact ⟨R.extract 1 R.size, k + 1, _, by omega, rfl, by rw [HWW.out], by go_num, by omega, sat_le _, HSZ.out, HPF.out.symm, Ut.below_drewN HB2.out _⟩
              · have HPS : Hid (parseL s.data.toList = (0, 4)) := parseL_none H0.out (by rw [← HF.out, pf_no3 HL1.out HNUM.out (.inr (by rw [← HFD.out, ← hM]; omega))])
                have hm' : M < (v : Int) := by omega
                clear he hL hW hM hm
                go_wp2
                go_quiet (fail)
                go_wp2
                try rw [Exit.noGoto_ret]
                go_ret2
                exact ⟨by unfold PPost; rw [HPS.out]; rfl, Ut.below_drewN HB2.out _⟩
          · have HPS : Hid (parseL s.data.toList = (0, 4)) := parseL_none H0.out (by rw [← HF.out, pf_no3 HL1.out HNUM.out (.inl (by rw [← HFD.out]; omega))])
            have b2 : (4 : Int) ≤ (k : Int) := by omega
            go_wp2
            try rw [Exit.noGoto_ret]
            go_ret2
            exact ⟨by unfold PPost; rw [HPS.out]; rfl, HB2.out⟩

end Ck
end Go.Proofs.YtbgplehmjejikaaGreatDoor
