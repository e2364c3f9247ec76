/- names.Dotted, names.Under, of any texts of at most 2^24 bytes. -/
import Derived.Test.YtgneebidmhiagaaDoorNmParts
namespace Go.Proofs.YtgneebidmhiagaaDoor
open Go.RowKit Go.Proofs.NmPlain
set_option linter.unusedVariables false

set_option maxHeartbeats 1000000 in
theorem dotted_any (s : ByteArray) (hs : (s.size : Int) ≤ 16777216) (w : World) (hm : MaxAt w) :
    Calls Tryd.prog 36 #[.string s] w fun e w' => e = .returned (.bool (dotB s.data.toList)) ∧ Below w.heap.size w w' := by
  have hp := parts_any s hs w hm
  have HP := Lib.hid hp
  clear hp hm
  have hq := fun (w : World) a n c => run_neq_slice_nil_any (P := Tryd.prog) w 22 9 a n c 0 0 Tryd.underlying22
  go_enter Tryd.func36, Tryd.ntmps36
  go_wp2_with fail
  refine HP.out.mono ?_
  rintro e w1 ⟨v, rfl, hv, hb⟩
  rcases hv with ⟨hd, rfl⟩ | ⟨hd, g, ps, rfl, hg, hsp, ht⟩
  · have HD := Lib.hid hd; clear hd
    go_wp2
    go_ret
    exact ⟨Ut.ret_bool HD.out.symm, hb⟩
  · have HD := Lib.hid hd; clear hd hsp ht
    go_wp2
    go_ret
    exact ⟨Ut.ret_bool HD.out.symm, hb⟩

/-- Does one scope's name stand under another? -/
def underB (l m : Bs) : Bool := dotB l && dotB m && decide ((split m).length ≤ (split l).length) && decide ((split l).take (split m).length = split m)

theorem map_inj {xs ys : List ByteArray} (h : xs.map (·.data.toList) = ys.map (·.data.toList)) : xs = ys := by
  have : Function.Injective (fun x : ByteArray => x.data.toList) := fun a b e => by
    cases a; cases b; simpa using e
  exact List.map_inj_right (fun _ _ e => this e) |>.1 h

set_option maxHeartbeats 2000000 in
theorem under_any (s t : ByteArray) (hs : (s.size : Int) ≤ 16777216) (ht : (t.size : Int) ≤ 16777216) (w : World) (hm : MaxAt w) :
    Calls Tryd.prog 30 #[.string s, .string t] w fun e w' => e = .returned (.bool (underB s.data.toList t.data.toList)) ∧ Below w.heap.size w w' := by
  have hp := parts_any s hs w hm
  have hp2 := fun (w' : World) (hb : Below w.heap.size w w') => parts_any t ht w' (hm.below hb)
  have HP := Lib.hid hp; have HP2 := Lib.hid hp2
  clear hp hp2 hm
  have hq := fun (w : World) a n c => run_neq_slice_nil_any (P := Tryd.prog) w 22 9 a n c 0 0 Tryd.underlying22
  go_enter Tryd.func30, Tryd.ntmps30
  go_wp2_with fail
  refine HP.out.mono ?_
  rintro e w1 ⟨v, rfl, hv, hb1⟩
  have hb1s := hb1.size
  rcases hv with ⟨hd, rfl⟩ | ⟨hd, g, ps, rfl, hg, hsp, ht1⟩
  · have HU : Hid (underB s.data.toList t.data.toList = false) := by show _ = _; unfold underB; rw [hd]; rfl
    clear hd
    go_wp2_with fail
    refine (HP2.out _ hb1).mono ?_
    rintro e w2 ⟨v2, rfl, hv2, hb2⟩
    rcases hv2 with ⟨hd2, rfl⟩ | ⟨hd2, g2, qs, rfl, hg2, hsq, ht2⟩
    · clear hd2
      go_wp2
      go_ret
      exact ⟨Ut.ret_bool HU.out.symm, hb1.trans (hb2.mono hb1s)⟩
    · clear hd2 hsq ht2
      go_wp2
      go_ret
      exact ⟨Ut.ret_bool HU.out.symm, hb1.trans (hb2.mono hb1s)⟩
  · go_wp2_with fail
    refine (HP2.out _ hb1).mono ?_
    rintro e w2 ⟨v2, rfl, hv2, hb2⟩
    rcases hv2 with ⟨hd2, rfl⟩ | ⟨hd2, g2, qs, rfl, hg2, hsq, ht2⟩
    · have HU : Hid (underB s.data.toList t.data.toList = false) := by show _ = _; unfold underB; rw [hd2, Bool.and_false]; rfl
      clear hd2 hd hsp ht1
      go_wp2
      go_ret
      exact ⟨Ut.ret_bool HU.out.symm, hb1.trans (hb2.mono hb1s)⟩
    · have ht1' := ht1.below ht1.lt hb2
      have hu : underB s.data.toList t.data.toList = (decide (qs.length ≤ ps.length) && decide (ps.take qs.length = qs)) := by
        unfold underB
        rw [hd, hd2, ← hsp, ← hsq]
        simp only [Bool.true_and, List.length_map]
        congr 1
        rw [← List.map_take]
        by_cases e : ps.take qs.length = qs
        · rw [e]; simp
        · rw [decide_eq_false e, decide_eq_false (fun h => e (map_inj h))]
      have hpz : ps.length ≤ 4 := by
        have h4 : (split s.data.toList).length ≤ 4 := by
          unfold dotB at hd; simp only [Bool.and_eq_true, decide_eq_true_eq] at hd; exact hd.1
        rw [← hsp] at h4; simpa using h4
      have hqz : qs.length ≤ 4 := by
        have h4 : (split t.data.toList).length ≤ 4 := by
          unfold dotB at hd2; simp only [Bool.and_eq_true, decide_eq_true_eq] at hd2; exact hd2.1
        rw [← hsq] at h4; simpa using h4
      have HT1 := Lib.hid ht1'; have HT2 := Lib.hid ht2; have HU := Lib.hid hu
      clear hd hd2 hsp hsq ht1 ht2 ht1' hu
      by_cases hle : qs.length ≤ ps.length
      · have heq := Tryd.slices_Equal_string g 0 qs.length ps.length g2 0 qs.length qs.length ps qs w2 hle (Nat.le_refl _) (by omega) (by omega)
          (fun j hj => by rw [Nat.zero_add, TextsAt.cell HT1.out hj]; simp [hj]) (fun j hj => by rw [Nat.zero_add, TextsAt.cell HT2.out hj]; simp [hj])
        have HE := Lib.hid heq
        clear heq
        have HF : Hid (underB s.data.toList t.data.toList = decide (ps.take qs.length = qs)) := by show _ = _; rw [HU.out, decide_eq_true hle, Bool.true_and]
        go_wp2_with fail
        refine HE.out.mono ?_
        rintro e w3 ⟨rfl, q, rfl⟩
        go_wp2
        go_ret
        exact ⟨Ut.ret_bool HF.out.symm, Ut.below_drewN (hb1.trans (hb2.mono hb1s)) q⟩
      · have hle' : ¬ ((qs.length : Int) ≤ (ps.length : Int)) := by omega
        have HF : Hid (underB s.data.toList t.data.toList = false) := by show _ = _; rw [HU.out, decide_eq_false hle, Bool.false_and]
        go_wp2
        go_ret
        exact ⟨Ut.ret_bool HF.out.symm, hb1.trans (hb2.mono hb1s)⟩

end Go.Proofs.YtgneebidmhiagaaDoor
