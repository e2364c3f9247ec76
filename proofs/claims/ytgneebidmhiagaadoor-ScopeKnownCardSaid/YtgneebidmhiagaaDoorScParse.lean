/- (*scope.Book).Parse: of any Book and any text. -/
import Derived.Test.YtgneebidmhiagaaDoorScWord
namespace Go.Proofs.YtgneebidmhiagaaDoor
open Go.RowKit Go.Maps Go.ChangeMaps Go.Proofs.NmPlain Go.Proofs.Ar
set_option linter.unusedVariables false
namespace Sc

theorem byte_index : ∀ L : Bs, (Lib.indexByte L 32 = -1 ∧ L.takeWhile nb = L) ∨ (∃ i : Nat, Lib.indexByte L 32 = i ∧ L.takeWhile nb = L.take i)
  | [] => .inl ⟨rfl, rfl⟩
  | c :: r => by
    by_cases h : c = 32
    · right; exact ⟨0, by simp [Lib.indexByte, h], by simp [nb, h]⟩
    · have hc : nb c = true := by simp [nb, h]
      rcases byte_index r with ⟨h1, h2⟩ | ⟨i, h1, h2⟩
      · left; exact ⟨by simp [Lib.indexByte, h, h1], by rw [List.takeWhile_cons, if_pos hc, h2]⟩
      · right
        refine ⟨i + 1, ?_, by rw [List.takeWhile_cons, if_pos hc, h2]; rfl⟩
        simp only [Lib.indexByte, h1]
        simp [h]
theorem cut_word (L : Bs) : (Lib.cut L [32]).1 = L.takeWhile nb := by
  unfold Lib.cut
  rw [Lib.index_one]
  rcases byte_index L with ⟨h1, h2⟩ | ⟨i, h1, h2⟩
  · rw [h1, h2]; rfl
  · rw [h1, if_pos (by omega), h2]; simp

theorem cut_any (x : ByteArray) (hx : x.size ≤ 4096) (w : World) (hm : MaxAt w) :
    Calls Tryd.prog 40 #[.string x, .string ⟨#[32]⟩] w fun e w' => (∃ (b : ByteArray) (r : Bool), e = .returned (.tuple #[.string ⟨(x.data.toList.takeWhile nb).toArray⟩, .string b, .bool r])) ∧ Below w.heap.size w w' := by
  obtain ⟨m, hm⟩ := hm
  have h := Tryd.strings_Cut x ⟨#[32]⟩ m w (by omega) hm
  refine h.mono fun e w' ⟨h1, n, h2⟩ => ⟨⟨⟨(Lib.cut x.data.toList [32]).2.1.toArray⟩, (Lib.cut x.data.toList [32]).2.2, ?_⟩, by rw [h2]; exact Ut.below_drewN (Below.refl _ _) n⟩
  rw [h1, ← cut_word]

/-- What Parse hands back. -/
def ParsePost (ls : List ByteArray) (l : Bs) (e : Ending) : Prop := e = .returned (.tuple #[.int .u64 ((parseL ls l).1 : Nat), errV (parseL ls l).2.1 (parseL ls l).2.2])
theorem ParsePost.mk {ls : List ByteArray} {l : Bs} {a : Nat} {no at_ : Int} {v : Value} (h : parseL ls l = (a, no, at_)) (hv : v = errV no at_) : ParsePost ls l (.returned (.tuple #[.int .u64 (a : Int), v])) := by
  unfold ParsePost; rw [h, hv]

set_option maxHeartbeats 4000000 in
theorem parse_any (lo B : Nat) (ls : List ByteArray) (hbk : IsBook ls) (hz : ∀ s ∈ ls, s.size ≤ 16777216) (t : ByteArray) (ht : t.size ≤ 140737488351232) (w : World) (hm : MaxAt w) (hb : BookAt lo w B ls) :
    Calls Tryd.prog 22 #[.pointer (some ⟨B, 0, none⟩), .string t] w fun e w' => ParsePost ls t.data.toList e ∧ Below w.heap.size w w' := by
  have hz0 : t.data.toList.length = t.size := by simp
  by_cases hbig : 4096 < t.size
  · have HP : Hid (parseL ls t.data.toList = (0, 3, -1)) := by show _ = _; unfold parseL; rw [if_pos (by rw [hz0]; exact hbig)]
    have b1 : (4096 : Int) < (t.size : Int) := by omega
    clear hbig hz0 hb hbk hz
    go_enter Tryd.func22, Tryd.ntmps22
    go_wp2
    go_ret2
    exact ⟨ParsePost.mk HP.out rfl, Below.refl _ _⟩
  · have HP : Hid (parseW ls (wordsAt 0 t.data.toList) 0 = parseL ls t.data.toList) := by show _ = _; unfold parseL; rw [if_neg (by rw [hz0]; exact hbig)]
    have b1 : (t.size : Int) ≤ 4096 := by omega
    have HW := Lib.hid (fun (x : ByteArray) (hx : x.size ≤ 16777216) (w' : World) (hb' : Below w.heap.size w w') => word_any lo B ls hbk hz x hx w' (hm.below hb') (hb.below hb'))
    have HC := Lib.hid (fun (x : ByteArray) (hx : x.size ≤ 4096) (w' : World) (hb' : Below w.heap.size w w') => cut_any x hx w' (hm.below hb'))
    have HU := Lib.hid (word_u64 hbk.len)
    clear hbig hz0 ht hz hbk hb hm
    go_enter Tryd.func22, Tryd.ntmps22
    go_wp2
    go_loopw [6, 7] (fun s i wr => PRel ls t w s i wr) (fun _ i _ => t.size - (intOf i).toNat)
    case atStart => exact ⟨0, 0, Nat.zero_le _, rfl, rfl, by omega, HP.out, Below.refl _ _⟩
    case round =>
      obtain ⟨k, S, hk, rfl, rfl, hS, hq, hbr⟩ := hrel
      have HQ := Lib.hid hq; have HS := Lib.hid hS
      clear hq hS
      have b2 : (0 : Int) ≤ (k : Int) := by omega
      have b2' : (k : Int) ≤ (t.size : Int) := by omega
      by_cases h : k < t.size
      · have b3 : (k : Int) < (t.size : Int) := by omega
        obtain ⟨X, hX⟩ : ∃ X, X = t.extract k t.size := ⟨_, rfl⟩
        have hXl : X.data.toList = t.data.toList.drop k := by
          rw [hX, Lib.extract_data]; exact List.take_of_length_le (by rw [drop_len]; omega)
        have hXs : X.size ≤ 4096 := by rw [hX]; simp; omega
        have hcut := HC.out X hXs wr hbr
        rw [hX] at hcut
        by_cases hc : t[k] = 32
        · have hw : (t.extract k t.size).data.toList.takeWhile nb = [] := by
            rw [← hX, hXl, drop_at t k h, hc]; rfl
          rw [hw] at hcut
          have HCUT := Lib.hid hcut
          have HN : Hid (parseW ls (wordsAt (k + 1) (t.data.toList.drop (k + 1))) S = parseL ls t.data.toList) := by
            show _ = _; rw [← HQ.out, drop_at t k h, hc, wordsAt_blank]
          clear hc hw hX hXl hXs hcut
          go_wp2_with fail
          refine HCUT.out.mono ?_
          rintro e w1 ⟨⟨bb, rr, rfl⟩, hb1⟩
          go_wp2
          go_roundw
          case rel => exact ⟨k + 1, S, by omega, by go_num, rfl, HS.out, HN.out, hbr.trans (hb1.mono hbr.size)⟩
          case measure => simp [intOf]; omega
        · obtain ⟨n, hn, hn1, hn2, hn3⟩ := word_end t k (by omega)
          obtain ⟨n0, hw1, hw2⟩ := word_step h hc hn
          rw [hw2] at HQ
          obtain ⟨Y, hY⟩ : ∃ Y : ByteArray, Y = ⟨((t.extract k t.size).data.toList.takeWhile nb).toArray⟩ := ⟨_, rfl⟩
          have hYl : Y.data.toList = (t.extract k (k + n)).data.toList := by rw [hY, hw1, ← hX, hXl]
          have hYs : Y.size = n := by
            have e : Y.size = Y.data.toList.length := by simp
            rw [e, hYl, hw1, hn]
          rw [← hYl] at HQ
          rw [← hY] at hcut
          have hne : (Y.toList.isEmpty) = false := by
            rw [Lib.toList_data]
            cases hy : Y.data.toList with
            | nil =>
              have e : Y.size = Y.data.toList.length := by simp
              rw [hYs, hy] at e; simp at e; omega
            | cons a r => rfl
          have hYn : (Y.size : Int) = (n : Int) := by rw [hYs]
          have hYb : Y.size ≤ 16777216 := by omega
          have HYB := Lib.hid hYb; have HYN := Lib.hid hYs
          have HCUT := Lib.hid hcut
          clear hc hn hn2 hn3 hw1 hw2 hX hXl hXs hcut hY hYl hYb hYs
          go_wp2_with fail
          refine HCUT.out.mono ?_
          rintro e w1 ⟨⟨bb, rr, rfl⟩, hb1⟩
          have hb2 : Below w.heap.size w w1 := hbr.trans (hb1.mono hbr.size)
          go_wp2_with fail
          refine (HW.out Y HYB.out _ hb2).mono ?_
          rintro e w2 ⟨rfl, hb3⟩
          have hb4 : Below w.heap.size w w2 := hb2.trans (hb3.mono hb2.size)
          have hus := HU.out Y.data.toList
          have hcs := wordL_cases ls Y.data.toList
          have hno := @parseW_no ls k Y.data.toList (wordsAt (k + n) (t.data.toList.drop (k + n))) S
          have hok := @parseW_ok ls k Y.data.toList (wordsAt (k + n) (t.data.toList.drop (k + n))) S
          rw [HQ.out] at hno hok
          obtain ⟨⟨x, no⟩, hx⟩ : ∃ x, x = wordL ls Y.data.toList := ⟨_, rfl⟩
          rw [← hx] at hus hcs hno hok ⊢
          clear hx hb1 hb2 hb3 hbr HW HU HP HC HCUT
          simp only at hus hcs hno hok ⊢
          rcases hcs with ⟨rfl, h4⟩ | ⟨rfl, -⟩
          · have q3 : (no != 0) = true := by rw [bne_iff_ne]; omega
            have HF := Lib.hid (hno (by omega))
            have HV : Hid (errV no (k : Int) = .iface 71 (.agg #[.int .i64 no, .int .i64 (k : Int)])) := by
              show _ = _; unfold errV; rw [if_neg (by omega), if_neg (by omega)]; rfl
            clear hno hok h4
            go_wp2
            go_ret2
            exact ⟨ParsePost.mk HF.out HV.out.symm, hb4⟩
          · have HF := Lib.hid (hok rfl)
            have HOR := Lib.hid (u64_or_nat S x HS.out hus)
            have HLT := Lib.hid (or_u64 HS.out hus)
            have u1 : IntKind.i64.wrap ((k : Int) + (Y.size : Int)) = (k : Int) + (n : Int) := by rw [hYn]; exact IntWalk.i64_in _ (by omega)
            clear hno hok hus
            go_wp2
            go_roundw
            case rel => exact ⟨k + n, S ||| x, by omega, by first | go_num | (rw [HYN.out]; go_num), by rw [HOR.out], HLT.out, HF.out.symm, hb4⟩
            case measure => simp [intOf]; omega
      · have HF : Hid (parseL ls t.data.toList = (S, 0, -1)) := by
          show _ = _; rw [← HQ.out, drop_end t k (by omega), wordsAt_nil, parseW]
        have b3 : ¬ (k : Int) < (t.size : Int) := by omega
        clear h
        go_wp2
        go_ret2
        exact ⟨ParsePost.mk HF.out rfl, hbr⟩

end Sc
end Go.Proofs.YtgneebidmhiagaaDoor
