/- The reference's Compare, and the law NamesCompare's walk. -/
import Derived.Test.YtmodhjbkgohoiaaNmPieces
import Derived.Test.YtmodhjbkgohoiaaUtil
namespace Go.Proofs.Ytmodhjbkgohoiaa
open Go.RowKit Go.Proofs.NmPlain
set_option linter.unusedVariables false

set_option maxHeartbeats 1000000 in
theorem refcompare_any (a b : ByteArray) (w : World) (ha : a.size ≤ 16777216) (hb : b.size ≤ 16777216) :
    Calls Try.prog 5 #[.string a, .string b] w fun e w' => e = .returned (.int .i64 (ncmp a.data.toList b.data.toList)) ∧ Below w.heap.size w w' := by
  go_enter Try.func5, Try.ntmps5
  go_wp2_with fail
  refine (pieces_any a _ ha).mono ?_
  rintro e w1 ⟨v1, ps, rfl, hp, hpl, ho1, hb1⟩
  obtain ⟨g1, c1, rfl, hc1, hm1, hg1, hg1', hcell1⟩ := Ut.own_cells ho1 (by have := split_ne a.data.toList; rw [← hp] at this; simpa [List.length_pos_iff] using this)
  clear ho1
  have HP := Lib.hid hp; clear hp
  go_wp2_with fail
  refine (pieces_any b _ hb).mono ?_
  rintro e w2 ⟨v2, qs, rfl, hq, hql, ho2, hb2⟩
  obtain ⟨g2, c2, rfl, hc2, hm2, hg2, hg2', hcell2⟩ := Ut.own_cells ho2 (by have := split_ne b.data.toList; rw [← hq] at this; simpa [List.length_pos_iff] using this)
  clear ho2
  have HQ := Lib.hid hq; clear hq
  have hcell1' : ∀ j, j < ps.length → w2.cell? ⟨g1, j, none⟩ = (ps.map Value.string)[j]? := fun j hj => (hb2.cell (p := ⟨g1, j, none⟩) hg1').trans (hcell1 j hj)
  have hbw : Below w.heap.size w w2 := hb1.trans (hb2.mono hb1.size)
  have hlt12 : w1.heap.size ≤ w2.heap.size := hb2.size
  have hwl : w.heap.size ≤ w2.heap.size := hbw.size
  clear hcell1 hb1 hb2
  have HC1 := Lib.hid hcell1'; have HC2 := Lib.hid hcell2
  clear hcell1' hcell2
  have hfin : ncmp a.data.toList b.data.toList = lcmp (ps.map (·.data.toList)) (qs.map (·.data.toList)) := by unfold ncmp; rw [← HP.out, ← HQ.out]
  have HF := Lib.hid hfin; clear hfin
  go_wp2
  go_loopw [7] (fun i wr => ∃ k : Nat, k ≤ ps.length ∧ k ≤ qs.length ∧ i = .int .i64 k ∧ lcmp (ps.map (·.data.toList)) (qs.map (·.data.toList)) = lcmp ((ps.map (·.data.toList)).drop k) ((qs.map (·.data.toList)).drop k) ∧ Below w2.heap.size w2 wr) (fun i _ => ps.length - (intOf i).toNat)
  case atStart => exact ⟨0, Nat.zero_le _, Nat.zero_le _, rfl, by simp, Below.refl _ _⟩
  case round =>
    obtain ⟨k, hk1, hk2, rfl, hc, hbr⟩ := hrel
    have HC := Lib.hid hc; clear hc
    by_cases h1 : k < ps.length
    · by_cases h2 : k < qs.length
      · have k1 : wr.cell? ⟨g1, k, none⟩ = some (.string ps[k]) := by rw [hbr.cell (p := ⟨g1, k, none⟩) (Nat.lt_of_lt_of_le hg1' hlt12), HC1.out k h1]; simp [h1]
        have k2 : wr.cell? ⟨g2, k, none⟩ = some (.string qs[k]) := by rw [hbr.cell (p := ⟨g2, k, none⟩) hg2', HC2.out k h2]; simp [h2]
        have hd := lcmp_drop (xs := ps.map (·.data.toList)) (ys := qs.map (·.data.toList)) (i := k) (by simpa using h1) (by simpa using h2)
        simp only [List.getElem_map] at hd
        have hps : ps[k].size < 4294967281 := by
          have := split_len a.data.toList ps[k].data.toList (by rw [← HP.out]; exact List.mem_map.2 ⟨_, List.getElem_mem h1, rfl⟩)
          rw [← size_toList, ← size_toList] at this; omega
        have hqs : qs[k].size < 4294967281 := by
          have := split_len b.data.toList qs[k].data.toList (by rw [← HQ.out]; exact List.mem_map.2 ⟨_, List.getElem_mem h2, rfl⟩)
          rw [← size_toList, ← size_toList] at this; omega
        obtain ⟨p, hpk⟩ : ∃ p, p = ps[k] := ⟨_, rfl⟩
        obtain ⟨q, hqk⟩ : ∃ q, q = qs[k] := ⟨_, rfl⟩
        rw [← hpk] at k1 hps hd; rw [← hqk] at k2 hqs hd
        have HD := Lib.hid hd
        clear hd hpk hqk
        have b1 : (0 : Int) ≤ (k : Int) := by omega
        have b2 : (k : Int) < (ps.length : Int) := by omega
        have b3 : (k : Int) < (qs.length : Int) := by omega
        by_cases hz : bcmp p.data.toList q.data.toList = 0
        · have hn : (bcmp p.data.toList q.data.toList != 0) = false := by rw [hz]; rfl
          have HZ := Lib.hid hz; clear hz
          go_wp2_with fail
          go_quiet ((go_at_call 9; exact Calls.quiet_of (bytewise_any _ _ _ hps hqs)))
          go_wp2
          go_roundw
          case rel => exact ⟨k + 1, by omega, by omega, by go_num, by rw [HC.out, HD.out, if_pos HZ.out], Ut.below_drewN hbr _⟩
          case measure => simp [intOf]; omega
        · have hn : (bcmp p.data.toList q.data.toList != 0) = true := by rw [bne_iff_ne]; exact hz
          have HZ := Lib.hid hz; clear hz
          go_wp2_with fail
          go_quiet ((go_at_call 9; exact Calls.quiet_of (bytewise_any _ _ _ hps hqs)))
          go_wp2
          go_ret
          exact ⟨Ut.ret_int (by rw [HF.out, HC.out, HD.out, if_neg HZ.out]), hbw.trans ((Ut.below_drewN hbr _).mono hwl)⟩
      · have he := lcmp_end (xs := ps.map (·.data.toList)) (ys := qs.map (·.data.toList)) (i := k) (.inr (by simp; omega)) (by simp; omega) (by simp; omega)
        simp only [List.length_map] at he
        have HE := Lib.hid he
        clear he
        by_cases hs : ps.length = qs.length
        · have hq : ((ps.length : Int) == (qs.length : Int)) = true := by rw [hs]; simp
          have HS := Lib.hid hs
          clear hs
          go_wp2
          go_ret
          exact ⟨Ut.ret_int (by rw [HF.out, HC.out, HE.out, if_pos HS.out]), hbw.trans (hbr.mono hwl)⟩
        · have hq : ((ps.length : Int) == (qs.length : Int)) = false := by rw [beq_eq_false_iff_ne]; omega
          have hg : qs.length < ps.length := by omega
          go_wp2
          go_ret
          exact ⟨Ut.ret_int (by rw [HF.out, HC.out, HE.out, if_neg (by omega), if_neg (by omega)]), hbw.trans (hbr.mono hwl)⟩
    · have he := lcmp_end (xs := ps.map (·.data.toList)) (ys := qs.map (·.data.toList)) (i := k) (.inl (by simp; omega)) (by simp; omega) (by simp; omega)
      simp only [List.length_map] at he
      have HE := Lib.hid he
      clear he
      by_cases hs : ps.length = qs.length
      · have hq : ((ps.length : Int) == (qs.length : Int)) = true := by rw [hs]; simp
        have HS := Lib.hid hs
        clear hs
        go_wp2
        go_ret
        exact ⟨Ut.ret_int (by rw [HF.out, HC.out, HE.out, if_pos HS.out]), hbw.trans (hbr.mono hwl)⟩
      · have hq : ((ps.length : Int) == (qs.length : Int)) = false := by rw [beq_eq_false_iff_ne]; omega
        have hg : ps.length < qs.length := by omega
        go_wp2
        go_ret
        exact ⟨Ut.ret_int (by rw [HF.out, HC.out, HE.out, if_neg (by omega), if_pos (by omega)]), hbw.trans (hbr.mono hwl)⟩

end Go.Proofs.Ytmodhjbkgohoiaa
