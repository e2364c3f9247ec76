/- The reference's Dotted and Under; the law NamesUnder's walk. -/
import Derived.Test.YtgneebidmhiagaaDoorNsName
import Derived.Test.YtgneebidmhiagaaDoorUtil
import Derived.Test.YtgneebidmhiagaaDoorNmPlain2
namespace Go.Proofs.YtgneebidmhiagaaDoor
open Go.RowKit Go.Proofs.NmPlain
set_option linter.unusedVariables false

theorem max_of_shape (w : World) (hsh : w.ShapedOpen Tryd.prog) : MaxAt w := Tryd.laysM145.s1_3 w hsh

theorem str_ne {a b : ByteArray} (h : a ≠ b) : (a.toList == b.toList) = false := by
  rw [beq_eq_false_iff_ne, Lib.toList_data, Lib.toList_data]
  intro e; apply h
  cases a; cases b; simpa using e

theorem join_len : ∀ l : List Bs, (∀ p ∈ l, p.length ≤ 32) → (joinD l).length ≤ 33 * l.length
  | [], _ => by simp [joinD]
  | [p], h => by have := h p (by simp); simp [joinD]; omega
  | p :: q :: r, h => by
    have h1 := h p (by simp)
    have ih := join_len (q :: r) (fun x hx => h x (by simp at hx; simp [hx]))
    simp only [joinD, List.length_append, List.length_cons] at ih ⊢
    omega

theorem nameB_le {l : Bs} (h : nameB l = true) : l.length ≤ 32 := by
  unfold nameB at h
  simp only [Bool.and_eq_true, decide_eq_true_eq] at h
  exact h.1.2

theorem dotB_len {l : Bs} (h : 132 < l.length) : dotB l = false := by
  cases hd : dotB l with
  | false => rfl
  | true =>
    unfold dotB at hd
    simp only [Bool.and_eq_true, decide_eq_true_eq, List.all_eq_true] at hd
    have := join_len (split l) (fun p hp => nameB_le (hd.2 p hp))
    rw [join_split] at this
    omega

theorem dotB_of {l : Bs} {ps : List ByteArray} (h : ps.map (·.data.toList) = split l) : dotB l = (decide (ps.length ≤ 4) && ps.all fun p => nameB p.data.toList) := by
  unfold dotB
  rw [← h, List.length_map, List.all_map]; rfl

set_option maxHeartbeats 1000000 in
theorem refdotted_any (s : ByteArray) (hs : s.size ≤ 16777216) (w : World) :
    Calls Tryd.prog 33 #[.string s] w fun e w' => e = .returned (.bool (dotB s.data.toList)) ∧ Below w.heap.size w w' := by
  by_cases hl : 132 < s.size
  · have hd := dotB_len (l := s.data.toList) (by rw [← size_toList]; exact hl)
    have h1 : (132 : Int) < (s.size : Int) := by omega
    have HD := Lib.hid hd
    clear hd hl
    go_enter Tryd.func33, Tryd.ntmps33
    go_wp2
    go_ret
    exact ⟨Ut.ret_bool HD.out.symm, Below.refl _ _⟩
  · have h1 : (s.size : Int) ≤ 132 := by omega
    clear hl
    go_enter Tryd.func33, Tryd.ntmps33
    go_wp2_with fail
    refine (pieces_any s _ hs).mono ?_
    rintro e w1 ⟨v1, ps, rfl, hp, hpl, ho1, hb1⟩
    have hdot := dotB_of hp
    have hpz : ∀ j (hj : j < ps.length), ps[j].size ≤ 16777216 := fun j hj => by
      have := split_len s.data.toList ps[j].data.toList (by rw [← hp]; exact List.mem_map.2 ⟨_, List.getElem_mem hj, rfl⟩)
      rw [← size_toList, ← size_toList] at this; omega
    obtain ⟨g1, c1, rfl, hc1, hm1, hg1, hg1', hcell1⟩ := Ut.own_cells ho1 (by have := split_ne s.data.toList; rw [← hp] at this; simpa [List.length_pos_iff] using this)
    clear ho1 hp
    have HDOT := Lib.hid hdot; have HZ := Lib.hid hpz; have HC1 := Lib.hid hcell1
    clear hdot hpz hcell1
    have hwl := hb1.size
    by_cases h4 : ps.length ≤ 4
    · have HF : Hid (dotB s.data.toList = ps.all fun p => nameB p.data.toList) := by show _ = _; rw [HDOT.out, decide_eq_true h4, Bool.true_and]
      clear HDOT
      go_wp2
      go_loopw [4] (fun i wr => AllRel ps w1 i wr) (fun i _ => ps.length - (intOf i).toNat)
      case atStart => exact ⟨0, Nat.zero_le _, rfl, fun j hj => absurd hj (Nat.not_lt_zero _), Below.refl _ _⟩
      case round =>
        obtain ⟨k, hk, rfl, hall, hbw⟩ := hrel
        have HA := Lib.hid hall
        clear hall
        by_cases h : k < ps.length
        · have hc : wr.cell? ⟨g1, k, none⟩ = some (.string ps[k]) := by rw [hbw.cell (p := ⟨g1, k, none⟩) hg1', HC1.out k h]; simp [h]
          have hn := refname_any ps[k] (HZ.out k h) wr
          have hfin : nameB ps[k].data.toList = false → (ps.all fun p => nameB p.data.toList) = false := fun hf => by
            rw [List.all_eq_false]; exact ⟨ps[k], List.getElem_mem h, by simp [hf]⟩
          have hnext : nameB ps[k].data.toList = true → ∀ j (hj : j < k + 1) (hl : j < ps.length), nameB ps[j].data.toList = true := fun hf j hj hl => by
            rcases Nat.lt_or_ge j k with h1 | h1
            · exact HA.out j h1 hl
            · obtain rfl : j = k := by omega
              exact hf
          obtain ⟨x, hx⟩ : ∃ x, x = ps[k] := ⟨_, rfl⟩
          obtain ⟨q, hq⟩ : ∃ q, q = nameB ps[k].data.toList := ⟨_, rfl⟩
          rw [← hx] at hc
          rw [← hq, ← hx] at hn
          rw [← hq] at hfin hnext
          have b1 : (0 : Int) ≤ (k : Int) := by omega
          have b2 : (k : Int) < (ps.length : Int) := by omega
          have HN := Lib.hid hn; have HG := Lib.hid hfin; have HX := Lib.hid hnext
          clear hn hfin hnext hx hq
          have hwr := hbw.size
          cases q
          · go_wp2_with (go_at_call 49; refine HN.out.mono ?_; rintro e w2 ⟨rfl, hb2⟩)
            go_ret
            exact ⟨Ut.ret_bool (by rw [HF.out, HG.out (by simp)]), hb1.trans ((hbw.trans (hb2.mono hwr)).mono hwl)⟩
          · go_wp2_with (go_at_call 49; refine HN.out.mono ?_; rintro e w2 ⟨rfl, hb2⟩)
            go_roundw
            case rel => exact ⟨k + 1, by omega, by go_num, HX.out (by simp), hbw.trans (hb2.mono hwr)⟩
            case measure => simp [intOf]; omega
        · obtain rfl : k = ps.length := by omega
          have hfin : (ps.all fun p => nameB p.data.toList) = true := by
            rw [List.all_eq_true]
            intro p hp
            obtain ⟨j, hj, rfl⟩ := List.mem_iff_getElem.1 hp
            exact HA.out j hj hj
          have HG := Lib.hid hfin
          clear hfin
          go_wp2
          go_ret
          exact ⟨Ut.ret_bool (by rw [HF.out, HG.out]), hb1.trans (hbw.mono hwl)⟩
    · have HF : Hid (dotB s.data.toList = false) := by show _ = _; rw [HDOT.out, decide_eq_false h4, Bool.false_and]
      have h5 : (4 : Int) < (ps.length : Int) := by omega
      clear HDOT h4
      go_wp2
      go_ret
      exact ⟨Ut.ret_bool HF.out.symm, hb1⟩

def UndRel (ps qs : List ByteArray) (w : World) (i : Value) (wr : World) : Prop :=
  ∃ k : Nat, k ≤ qs.length ∧ i = .int .i64 k ∧ ps.take k = qs.take k ∧ Below w.heap.size w wr

set_option maxHeartbeats 2000000 in
theorem refunder_any (s t : ByteArray) (hs : s.size ≤ 16777216) (ht : t.size ≤ 16777216) (w : World) :
    Calls Tryd.prog 63 #[.string s, .string t] w fun e w' => e = .returned (.bool (underB s.data.toList t.data.toList)) ∧ Below w.heap.size w w' := by
  have d1 := refdotted_any s hs
  have d2 := refdotted_any t ht
  obtain ⟨x, hx⟩ : ∃ x, x = dotB s.data.toList := ⟨_, rfl⟩
  obtain ⟨y, hy⟩ : ∃ y, y = dotB t.data.toList := ⟨_, rfl⟩
  rw [← hx] at d1; rw [← hy] at d2
  have D1 := Lib.hid d1; have D2 := Lib.hid d2; have HX := Lib.hid hx; have HY := Lib.hid hy
  clear d1 d2 hx hy
  cases x
  · have HU : Hid (underB s.data.toList t.data.toList = false) := by show _ = _; unfold underB; rw [← HX.out]; rfl
    go_enter Tryd.func63, Tryd.ntmps63
    go_wp2_with fail
    refine (D1.out _).mono ?_
    rintro e w1 ⟨rfl, hb1⟩
    go_wp2
    go_ret
    exact ⟨Ut.ret_bool HU.out.symm, hb1⟩
  cases y
  · have HU : Hid (underB s.data.toList t.data.toList = false) := by show _ = _; unfold underB; rw [← HY.out, Bool.and_false]; rfl
    go_enter Tryd.func63, Tryd.ntmps63
    go_wp2_with fail
    refine (D1.out _).mono ?_
    rintro e w1 ⟨rfl, hb1⟩
    go_wp2_with fail
    refine (D2.out _).mono ?_
    rintro e w2 ⟨rfl, hb2⟩
    go_wp2
    go_ret
    exact ⟨Ut.ret_bool HU.out.symm, hb1.trans (hb2.mono hb1.size)⟩
  go_enter Tryd.func63, Tryd.ntmps63
  go_wp2_with fail
  refine (D1.out _).mono ?_
  rintro e wa ⟨rfl, hba⟩
  go_wp2_with fail
  refine (D2.out _).mono ?_
  rintro e wb ⟨rfl, hbb⟩
  have hbb' : Below w.heap.size w wb := hba.trans (hbb.mono hba.size)
  have hwb := hbb'.size
  clear hba hbb
  go_wp2_with fail
  refine (pieces_any s _ hs).mono ?_
  rintro e w1 ⟨v1, ps, rfl, hp, hpl, ho1, hb1⟩
  obtain ⟨g1, c1, rfl, hc1, hm1, hg1, hg1', hcell1⟩ := Ut.own_cells ho1 (by have := split_ne s.data.toList; rw [← hp] at this; simpa [List.length_pos_iff] using this)
  clear ho1
  have HP := Lib.hid hp; clear hp
  go_wp2_with fail
  refine (pieces_any t _ ht).mono ?_
  rintro e w2 ⟨v2, qs, rfl, hq, hql, ho2, hb2⟩
  obtain ⟨g2, c2, rfl, hc2, hm2, hg2, hg2', hcell2⟩ := Ut.own_cells ho2 (by have := split_ne t.data.toList; rw [← hq] at this; simpa [List.length_pos_iff] using this)
  clear ho2
  have HQ := Lib.hid hq; clear hq
  have hcell1' : ∀ j, j < ps.length → w2.cell? ⟨g1, j, none⟩ = (ps.map Value.string)[j]? := fun j hj => (hb2.cell (p := ⟨g1, j, none⟩) hg1').trans (hcell1 j hj)
  have hbw : Below w.heap.size w w2 := hbb'.trans ((hb1.trans (hb2.mono hb1.size)).mono hwb)
  have hlt12 : w1.heap.size ≤ w2.heap.size := hb2.size
  have hwl : w.heap.size ≤ w2.heap.size := hbw.size
  clear hcell1 hb1 hb2 hbb'
  have HC1 := Lib.hid hcell1'; have HC2 := Lib.hid hcell2
  clear hcell1' hcell2
  have hu : underB s.data.toList t.data.toList = (decide (qs.length ≤ ps.length) && decide (ps.take qs.length = qs)) := by
    unfold underB
    rw [← HX.out, ← HY.out, ← HP.out, ← HQ.out]
    simp only [Bool.true_and, List.length_map]
    congr 1
    rw [← List.map_take]
    by_cases e : ps.take qs.length = qs
    · rw [e]; simp
    · rw [decide_eq_false e, decide_eq_false (fun h => e (map_inj h))]
  have HU := Lib.hid hu
  clear hu
  by_cases hle : ps.length < qs.length
  · have h1 : (ps.length : Int) < (qs.length : Int) := by omega
    have HF : Hid (underB s.data.toList t.data.toList = false) := by show _ = _; rw [HU.out, decide_eq_false (by omega), Bool.false_and]
    clear HU
    go_wp2
    go_ret
    exact ⟨Ut.ret_bool HF.out.symm, hbw⟩
  · have HF : Hid (underB s.data.toList t.data.toList = decide (ps.take qs.length = qs)) := by show _ = _; rw [HU.out, decide_eq_true (by omega), Bool.true_and]
    have hle2 : qs.length ≤ ps.length := by omega
    clear HU hle
    go_wp2
    go_loopw [7] (fun i wr => UndRel ps qs w2 i wr) (fun i _ => qs.length - (intOf i).toNat)
    case atStart => exact ⟨0, Nat.zero_le _, rfl, by simp, Below.refl _ _⟩
    case round =>
      obtain ⟨k, hk, rfl, heq, hbr⟩ := hrel
      have HE := Lib.hid heq; clear heq
      by_cases h : k < qs.length
      · have h1 : k < ps.length := by omega
        have k1 : wr.cell? ⟨g1, k, none⟩ = some (.string ps[k]) := by rw [hbr.cell (p := ⟨g1, k, none⟩) (Nat.lt_of_lt_of_le hg1' hlt12), HC1.out k h1]; simp [h1]
        have k2 : wr.cell? ⟨g2, k, none⟩ = some (.string qs[k]) := by rw [hbr.cell (p := ⟨g2, k, none⟩) hg2', HC2.out k h]; simp [h]
        have hyes : ps[k] = qs[k] → ps.take (k + 1) = qs.take (k + 1) := fun e => by
          rw [List.take_succ_eq_append_getElem h1, List.take_succ_eq_append_getElem h, HE.out, e]
        have hno : ps[k] ≠ qs[k] → decide (ps.take qs.length = qs) = false := fun e => by
          rw [decide_eq_false_iff_not]; intro e2; apply e
          have : (ps.take qs.length)[k]? = qs[k]? := by rw [e2]
          rw [List.getElem?_take, if_pos h, List.getElem?_eq_getElem h1, List.getElem?_eq_getElem h] at this
          exact Option.some.inj this
        obtain ⟨p, hpk⟩ : ∃ p, p = ps[k] := ⟨_, rfl⟩
        obtain ⟨q, hqk⟩ : ∃ q, q = qs[k] := ⟨_, rfl⟩
        rw [← hpk] at k1 hyes hno; rw [← hqk] at k2 hyes hno
        have HY := Lib.hid hyes; have HN := Lib.hid hno
        clear hyes hno hpk hqk
        have b1 : (0 : Int) ≤ (k : Int) := by omega
        have b2 : (k : Int) < (ps.length : Int) := by omega
        have b3 : (k : Int) < (qs.length : Int) := by omega
        by_cases hz : p = q
        · have HT : Hid (ps.take (k + 1) = qs.take (k + 1)) := HY.out hz
          have hn : (!(p.toList == q.toList)) = false := by rw [hz]; simp
          clear hz
          go_wp2
          go_quiet (fail)
          go_wp2
          go_roundw
          case rel => exact ⟨k + 1, by omega, by go_num, HT, Ut.below_drewN hbr _⟩
          case measure => simp [intOf]; omega
        · have hn : (p.toList == q.toList) = false := str_ne hz
          have HZ := Lib.hid hz; clear hz
          go_wp2
          go_quiet (fail)
          go_wp2
          go_ret
          exact ⟨Ut.ret_bool (by rw [HF.out, HN.out HZ.out]), hbw.trans ((Ut.below_drewN hbr _).mono hwl)⟩
      · obtain rfl : k = qs.length := by omega
        have HG : Hid (decide (ps.take qs.length = qs) = true) := by show _ = _; rw [decide_eq_true_eq, HE.out, List.take_length]
        go_wp2
        go_ret
        exact ⟨Ut.ret_bool (by rw [HF.out, HG.out]), hbw.trans (hbr.mono hwl)⟩

end Go.Proofs.YtgneebidmhiagaaDoor
