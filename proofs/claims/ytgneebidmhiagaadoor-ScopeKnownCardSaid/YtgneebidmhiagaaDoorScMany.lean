/- many: as many scopes as may be, and one more; a text as long as may be, and longer. -/
import Derived.Test.YtgneebidmhiagaaDoorScWorks
import Derived.Test.YtgneebidmhiagaaDoorMark
namespace Go.Proofs.YtgneebidmhiagaaDoor
open Go.RowKit Go.Maps Go.ChangeMaps Go.Proofs.NmPlain Go.Proofs.Ar
set_option linter.unusedVariables false
namespace Sc

theorem conv_three (w : World) (x0 x1 x2 : Int) : (convert 84 9 (.slice (some ⟨w.heap.size, 0, none⟩) 3 3)).run Tryd.prog (w.alloc (.cells #[.int .u8 x0, .int .u8 x1, .int .u8 x2] 5)) = .ok (.string (strOfNums [x0, x1, x2])) (w.alloc (.cells #[.int .u8 x0, .int .u8 x1, .int .u8 x2] 5)) :=
  run_convert_bytes_arg (w.alloc (.cells #[.int .u8 x0, .int .u8 x1, .int .u8 x2] 5)) 84 5 Tryd.underlying84 Tryd.underlying5 w.heap.size 0 3 3 [x0, x1, x2] rfl (fun i hi => by
    match i, hi with
    | 0, _ => simp
    | 1, _ => simp
    | 2, _ => simp) 9 Tryd.underlying9

def mName (i : Nat) : ByteArray := strOfNums [97, 97 + (i : Int) / 26, 97 + (i : Int) % 26]
def mL (k : Nat) : List ByteArray := (List.range k).map mName
theorem mL_len (k : Nat) : (mL k).length = k := by simp [mL]
theorem mL_succ (k : Nat) : mL (k + 1) = mL k ++ [mName k] := by simp [mL, List.range_succ]
def mZ : ByteArray := ⟨#[122, 122]⟩
set_option maxRecDepth 100000 in
theorem mL_new : newL (mL 64) = (0, -1) := by decide +kernel
theorem mL_book : IsBook (mL 64) := book_of mL_new
theorem mL_small : ∀ s ∈ mL 64, s.size ≤ 16777216 := by decide +kernel
theorem mZ_new : newL (mL 64 ++ [mZ]) = (5, -1) := by
  unfold newL
  rw [if_pos (by rw [List.length_append, mL_len]; decide)]
theorem nil_new : newL [] = (0, -1) := by decide +kernel
theorem nil_star : parseL [] [42] = (0, 0, -1) := by decide +kernel

def blank (n : Nat) : ByteArray := ⟨(List.replicate n 32).toArray⟩
theorem blank_size (n : Nat) : (blank n).size = n := by simp [blank, ByteArray.size]
theorem blank_list (n : Nat) : (blank n).data.toList = List.replicate n 32 := by simp [blank]
theorem blank_add (m n : Nat) : blank m ++ blank n = blank (m + n) := by
  apply ByteArray.ext
  simp [blank]
theorem words_blank : ∀ (n k : Nat), wordsAt k (List.replicate n 32) = []
  | 0, k => by rw [List.replicate_zero, wordsAt]
  | n + 1, k => by rw [List.replicate_succ, wordsAt, if_pos rfl]; exact words_blank n _
theorem parse_blank {ls : List ByteArray} {n : Nat} (h : n ≤ 4096) : parseL ls (blank n).data.toList = (0, 0, -1) := by
  unfold parseL
  rw [blank_list, if_neg (by simp; omega), words_blank]
  rfl
theorem parse_long {ls : List ByteArray} {l : Bs} (h : 4096 < l.length) : parseL ls l = (0, 3, -1) := by
  unfold parseL
  rw [if_pos h]

set_option maxRecDepth 100000 in
set_option maxHeartbeats 4000000 in
theorem copy_any (v : Value) (ls : List ByteArray) (hl : ls.length ≤ 1048576) (w : World) (ht : TextArg w v ls) :
    Calls Tryd.prog 47 #[v] w fun e w' => ∃ v', e = .returned v' ∧ w'.ownsRow w.heap.size 9 1 v' ls.length (ls.map Value.string) ∧ Below w.heap.size w w' := by
  obtain ⟨q, c, rfl, h1⟩ := ht
  have H1 := Lib.hid h1
  obtain ⟨i0, hi, hz0, hz1, hz2⟩ := info_parts mk_info
  clear h1
  have b0 : (ls.length : Int) ≤ 1048576 := by omega
  go_enter Tryd.func47, Tryd.ntmps47
  go_wp2
  go_loopw [3, 4] (fun l i wr => ∃ k : Nat, k ≤ ls.length ∧ i = .int .i64 k ∧ wr.ownsRow w.heap.size 9 1 l k ((ls.take k).map Value.string) ∧ Below w.heap.size w wr) (fun _ i _ => ls.length - (intOf i).toNat)
  case atStart => exact ⟨0, Nat.zero_le _, rfl, World.ownsRow_nil _ _ _ _, Below.refl _ _⟩
  case round =>
    obtain ⟨k, hk, rfl, hown, hbl⟩ := hrel
    have HO := Lib.hid hown; have HBL := Lib.hid hbl
    have hzw : w.heap.size ≤ wr.heap.size := hbl.size
    clear hown hbl
    have b2 : (0 : Int) ≤ (k : Int) := by omega
    by_cases h : k < ls.length
    · have b3 : (k : Int) < (ls.length : Int) := by omega
      obtain ⟨g1, o1, rfl, hg1, k1⟩ := H1.out k h
      have k1' : wr.cell? ⟨g1, o1 + k, none⟩ = some (.string ls[k]) := (HBL.out.cell (p := ⟨g1, o1 + k, none⟩) hg1).trans k1
      have am1 : k + 1 ≤ maxLen := by unfold maxLen; omega
      have am2 : (k + 1) * 16 ≤ 140737488355328 := by omega
      clear k1
      go_wp2_with (at_builtin; refine wpList_append_own _ rfl _ _ 22 rfl w.heap.size 9 i0 (.string ByteArray.empty) 1 16 Tryd.underlying22 hi hz0 hz1 hz2 rfl (by decide) _ _ _ rfl (HO.out.alloc _) ⟨wr.heap.size, 0, none⟩ 1 1 [.string ls[k]] rfl rfl (cell_one_new _ _ _) (by intro u hu; simp at hu; subst hu; rfl) am1 am2 (by simp; exact Nat.le_succ_of_le hzw) ?_; intro v' w1 hown' hgrow _)
      have HU : Hid (w1.ownsRow w.heap.size 9 1 v' (k + 1) ((ls.take (k + 1)).map Value.string)) := by
        show World.ownsRow _ _ _ _ _ _ _
        rw [List.take_succ_eq_append_getElem h, List.map_append]; exact hown'
      have HW := Lib.hid (Ut.below_app HBL.out hzw HO.out hgrow)
      clear hown' hgrow
      go_wp2
      go_roundw
      case rel => exact ⟨k + 1, by omega, by go_num, HU.out, HW.out⟩
      case measure => simp [intOf]; omega
    · have hkl : k = ls.length := by omega
      have b3 : (ls.length : Int) ≤ (k : Int) := by omega
      have HR : Hid (wr.ownsRow w.heap.size 9 1 u3 ls.length (ls.map Value.string)) := by
        have := HO.out; rw [hkl, List.take_length] at this; exact this
      clear hkl
      go_wp2
      go_ret
      exact ⟨_, rfl, HR.out, HBL.out⟩

def sizeOfS : Value → Nat | .string s => s.size | _ => 0

def MRel (w : World) (l i : Value) (wr : World) : Prop :=
  ∃ k : Nat, k ≤ 64 ∧ i = .int .i64 k ∧ wr.ownsRow w.heap.size 9 1 l k ((mL k).map Value.string) ∧ Below w.heap.size w wr
theorem MRel.push {k : Nat} {w wr w1 : World} {l v' : Value} {o o2 : Obj} (hk : k < 64) (hbl : Below w.heap.size w wr)
    (hown : wr.ownsRow w.heap.size 9 1 l k ((mL k).map Value.string))
    (hown' : w1.ownsRow w.heap.size 9 1 v' (k + 1) ((mL k).map Value.string ++ [.string (mName k)])) (hgrow : ((wr.alloc o2).alloc o).grownBy w1 l.ownBlock) : MRel w v' (.int .i64 ((k : Int) + 1)) w1 := by
  refine ⟨k + 1, by omega, by go_num, ?_, ?_⟩
  · rw [mL_succ]
    simpa using hown'
  · exact Ut.below_app (hbl.alloc hbl.size _) (by have := hbl.size; simp; omega) (hown.alloc _) hgrow

set_option maxHeartbeats 8000000 in
set_option maxRecDepth 100000 in
theorem many_any (w : World) (hg : erHandle w) (hm : MaxAt w) : Calls Tryd.prog 32 #[] w fun e w' => e = .returned (.bool true) ∧ Below w.heap.size w w' := by
  obtain ⟨i0, hi, hz0, hz1, hz2⟩ := info_parts mk_info
  have HM := Lib.hid hm; have HG := Lib.hid hg
  clear hm hg
  go_enter Tryd.func32, Tryd.ntmps32
  go_wp2
  go_loopw [1, 2] (fun l i wr => MRel w l i wr) (fun _ i _ => 64 - (intOf i).toNat)
  case atStart => exact ⟨0, Nat.zero_le _, rfl, World.ownsRow_nil _ _ _ _, Below.refl _ _⟩
  case round =>
    obtain ⟨k, hk, rfl, hown, hbl⟩ := hrel
    have HO := Lib.hid hown; have HBL := Lib.hid hbl
    have hzw : w.heap.size ≤ wr.heap.size := hbl.size
    clear hown hbl
    have b2 : (0 : Int) ≤ (k : Int) := by omega
    by_cases h : k < 64
    · have b3 : (k : Int) < 64 := by omega
      have am1 : k + 1 ≤ maxLen := by unfold maxLen; omega
      have am2 : (k + 1) * 16 ≤ 140737488355328 := by omega
      have hcv := conv_three wr 97 (97 + (k : Int) / 26) (97 + (k : Int) % 26)
      have hmn : strOfNums [97, 97 + (k : Int) / 26, 97 + (k : Int) % 26] = mName k := rfl
      rw [hmn] at hcv
      clear hmn
      have HPS := Lib.hid (fun (v' : Value) (w1 : World) => MRel.push (o := .cells #[.string (mName k)] 9) (o2 := .cells #[.int .u8 97, .int .u8 (97 + (k : Int) / 26), .int .u8 (97 + (k : Int) % 26)] 5) (v' := v') (w1 := w1) h HBL.out HO.out)
      obtain ⟨N, hN⟩ : ∃ N, N = mName k := ⟨_, rfl⟩
      rw [← hN] at hcv HPS
      clear hN
      have HC1 : Hid (∀ j u, [Value.string N][j]? = some u → ((wr.alloc (.cells #[.int .u8 97, .int .u8 (97 + (k : Int) / 26), .int .u8 (97 + (k : Int) % 26)] 5)).alloc (.cells #[.string N] 9)).cell? ((⟨wr.heap.size + 1, 0, none⟩ : Addr).add j) = some u) := by
        show ∀ _, _
        have e : (wr.alloc (.cells #[.int .u8 97, .int .u8 (97 + (k : Int) / 26), .int .u8 (97 + (k : Int) % 26)] 5)).heap.size = wr.heap.size + 1 := by simp
        rw [← e]
        exact cell_one_new _ _ _
      go_wp2_with (at_builtin; refine wpList_append_own _ rfl _ _ 22 rfl w.heap.size 9 i0 (.string ByteArray.empty) 1 16 Tryd.underlying22 hi hz0 hz1 hz2 rfl (by decide) _ _ _ rfl ((HO.out.alloc _).alloc _) ⟨wr.heap.size + 1, 0, none⟩ 1 1 [.string N] rfl rfl HC1.out (by intro u hu; simp at hu; subst hu; rfl) am1 am2 (by simp; omega) ?_; intro v' w1 hown' hgrow _)
      have HU := Lib.hid (HPS.out _ _ hown' hgrow)
      clear hown' hgrow
      go_wp2
      go_roundw
      case rel => exact HU.out
      case measure => simp [intOf]; omega
    · have hk64 : k = 64 := by omega
      have b3 : (64 : Int) ≤ (k : Int) := by omega
      have HO2 : Hid (wr.ownsRow w.heap.size 9 1 u1 64 ((mL 64).map Value.string)) := by rw [← hk64]; exact HO
      obtain ⟨q1, c1, hv⟩ := own_shape HO2.out
      subst hv
      have HN1 := Lib.hid (fun w' (hb : Below w.heap.size w w') (h : TextArg w' (.slice q1 64 c1) (mL 64)) => new_any (.slice q1 64 c1) (mL 64) (by rw [mL_len]; omega) (fun _ => mL_small) w' (HM.out.below hb) h)
      have HT1 : Hid (TextArg wr (.slice q1 64 c1) (mL 64)) := Tx.own_arg HO2.out
      have HCP := Lib.hid (fun w' (h : TextArg w' (.slice q1 64 c1) (mL 64)) => copy_any (.slice q1 64 c1) (mL 64) (by rw [mL_len]; omega) w' h)
      rw [mL_len] at HCP
      have HN2 := Lib.hid (fun v' w' (hb : Below w.heap.size w w') (h : TextArg w' v' (mL 64 ++ [mZ])) => new_any v' (mL 64 ++ [mZ]) (by rw [List.length_append, mL_len]; decide) (fun h => absurd h (by rw [List.length_append, mL_len]; decide)) w' (HM.out.below hb) h)
      have HN3 := Lib.hid (fun w' (hb : Below w.heap.size w w') => new_any (.slice none 0 0) [] (by decide) (fun _ s hs => absurd hs (by simp)) w' (HM.out.below hb) ⟨none, 0, rfl, fun j hj => absurd hj (Nat.not_lt_zero _)⟩)
      have HA := Lib.hid (fun lo B w' (hb : BookAt lo w' B (mL 64)) => all_any lo B (mL 64) (Nat.le_of_eq (mL_len 64)) w' hb)
      have hall : (allS (mL 64) : Int) = 18446744073709551615 := all_64 (mL_len 64)
      rw [hall] at HA
      have HP1 := Lib.hid (fun lo B w' (hb : BookAt lo w' B (mL 64)) (hb2 : Below w.heap.size w w') => parse_any lo B (mL 64) mL_book mL_small (blank 4096) (by rw [blank_size]; omega) w' (HM.out.below hb2) hb)
      have HP2 := Lib.hid (fun lo B w' (hb : BookAt lo w' B (mL 64)) (hb2 : Below w.heap.size w w') => parse_any lo B (mL 64) mL_book mL_small (blank 4097) (by rw [blank_size]; omega) w' (HM.out.below hb2) hb)
      have HP3 := Lib.hid (fun lo B w' (hb : BookAt lo w' B []) (hb2 : Below w.heap.size w w') => parse_any lo B [] (book_of nil_new) (fun s hs => absurd hs (by simp)) ⟨#[42]⟩ (by decide) w' (HM.out.below hb2) hb)
      unfold ParsePost at HP1 HP2 HP3
      rw [parse_blank (Nat.le_refl _)] at HP1
      rw [parse_long (by rw [blank_list]; simp)] at HP2
      have e3 : parseL [] (⟨#[42]⟩ : ByteArray).data.toList = (0, 0, -1) := nil_star
      rw [e3] at HP3
      have e4 : errV 0 (-1) = .nilIface := rfl
      have e5 : errV 3 (-1) = errVal 3 := rfl
      have e6 : errV 5 (-1) = errVal 5 := rfl
      simp only [e4, e5] at HP1 HP2 HP3
      unfold NewPost at HN1 HN2 HN3
      simp only [mZ_new, e6] at HN2
      have HPL5 := Lib.hid (fun w' (hb : Below w.heap.size w w') => plain_any 5 5 (by omega) (by omega) w' (HG.out.below HG.out.lt hb))
      have HPL3 := Lib.hid (fun w' (hb : Below w.heap.size w w') => plain_any 3 3 (by omega) (by omega) w' (HG.out.below HG.out.lt hb))
      obtain ⟨V5, hV5⟩ : ∃ V, V = errVal 5 := ⟨_, rfl⟩
      obtain ⟨V3, hV3⟩ : ∃ V, V = errVal 3 := ⟨_, rfl⟩
      rw [← hV5] at HN2 HPL5
      rw [← hV3] at HP2 HPL3
      clear hk64 HO hall e3 e4 e5 e6 hV5 hV3
      go_wp2_with fail
      refine (HN1.out _ HBL.out HT1.out).mono ?_
      rintro e w1 ⟨hp, hb1⟩
      have c2 : Below w.heap.size w w1 := HBL.out.trans (hb1.mono HBL.out.size)
      rcases hp with ⟨-, B, rfl, hB⟩ | ⟨h, -⟩
      · have HT2 := Lib.hid (HT1.out.below hb1)
        have HB := Lib.hid hB
        obtain ⟨lo, hlo⟩ : ∃ lo, lo = wr.heap.size := ⟨_, rfl⟩
        rw [← hlo] at HB
        clear hB hlo HN1 HT1
        go_wp2_with fail
        refine (HCP.out _ HT2.out).mono ?_
        rintro e w2 ⟨v2, rfl, ho2, hb2⟩
        have D2 := Lib.hid hb2
        have HO3 := Lib.hid ho2
        have hzz : w1.heap.size ≤ w2.heap.size := hb2.size
        have am1 : 64 + 1 ≤ maxLen := by decide
        have am2 : (64 + 1) * 16 ≤ 140737488355328 := by decide
        clear ho2 hb2
        go_wp2_with (at_builtin; refine wpList_append_own _ rfl _ _ 22 rfl w1.heap.size 9 i0 (.string ByteArray.empty) 1 16 Tryd.underlying22 hi hz0 hz1 hz2 rfl (by decide) _ _ _ rfl (HO3.out.alloc _) ⟨w2.heap.size, 0, none⟩ 1 1 [.string ⟨#[122, 122]⟩] rfl rfl (cell_one_new _ _ _) (by intro u hu; simp at hu; subst hu; rfl) am1 am2 (by simp; exact Nat.le_succ_of_le hzz) ?_; intro v' w3 hown' hgrow _)
        have hb3 := Ut.below_app D2.out hzz HO3.out hgrow
        have C4 := Lib.hid (c2.trans (hb3.mono c2.size))
        have HB3 := Lib.hid (HB.out.below hb3)
        have HT3 : Hid (TextArg w3 v' (mL 64 ++ [mZ])) := Lib.hid (Tx.own_arg (base := w1.heap.size) (by
          rw [List.length_append, mL_len, List.map_append]; exact hown'))
        clear hown' hgrow hb3
        go_wp2_with fail
        refine (HN2.out _ _ C4.out HT3.out).mono ?_
        rintro e w4 ⟨hp, hb4⟩
        rcases hp with ⟨h, -⟩ | ⟨-, rfl⟩
        · exact absurd h (by decide)
        · have C5 := Lib.hid (C4.out.trans (hb4.mono C4.out.size))
          have HB4 := Lib.hid (HB3.out.below hb4)
          clear hb4
          go_wp2_with fail
          refine (HA.out _ _ _ HB4.out).mono ?_
          rintro e w5 ⟨rfl, rfl⟩
          go_wp2_with fail
          refine (HPL5.out _ C5.out).mono ?_
          rintro e w6 ⟨rfl, hb6⟩
          have C6 := Lib.hid (C5.out.trans (hb6.mono C5.out.size))
          have HB6 := Lib.hid (HB4.out.below hb6)
          clear hb6
          go_wp2
          go_loopw [7] (fun s wr => ∃ j : Nat, j ≤ 10 ∧ s = .string (blank (4 * 2 ^ j)) ∧ w6 = wr) (fun s _ => 4096 - sizeOfS s)
          case atStart => exact ⟨0, by omega, by rfl, rfl⟩
          case round =>
            obtain ⟨j, hj, rfl, rfl⟩ := hrel
            have hsz := blank_size (4 * 2 ^ j)
            have hpos : 0 < 2 ^ j := Nat.pow_pos (by omega)
            by_cases h9 : j < 10
            · have hp9 : 2 ^ j ≤ 2 ^ 9 := Nat.pow_le_pow_right (by omega) (by omega)
              have hadd : Hid (blank (4 * 2 ^ j) ++ blank (4 * 2 ^ j) = blank (4 * 2 ^ (j + 1))) := by
                show _ = _
                rw [blank_add]; congr 1; rw [Nat.pow_succ]; omega
              have hdec : Hid ((blank (4 * 2 ^ j)).size < (blank (4 * 2 ^ (j + 1))).size ∧ (blank (4 * 2 ^ (j + 1))).size ≤ 4096) := by
                show _ ∧ _
                rw [blank_size, blank_size, Nat.pow_succ]; omega
              have b5 : ((blank (4 * 2 ^ j)).size : Int) < 4096 := by rw [hsz]; omega
              obtain ⟨X, hX⟩ : ∃ X, X = blank (4 * 2 ^ j) := ⟨_, rfl⟩
              rw [← hX] at hadd hdec b5 ⊢
              clear hX hsz hpos hp9
              go_wp2
              go_roundw
              case rel => exact ⟨j + 1, by omega, by rw [hadd.out], by first | rfl | trivial⟩
              case measure => simp only [sizeOfS]; rw [hadd.out]; have := hdec.out; omega
            · obtain rfl : j = 10 := by omega
              have e1 : blank (4 * 2 ^ 10) = blank 4096 := rfl
              rw [e1] at hsz ⊢
              have b5 : (4096 : Int) ≤ ((blank 4096).size : Int) := by rw [hsz]; omega
              have b6 : ((blank 4096).size : Int) ≤ 1048576 := by rw [hsz]; omega
              have e2 : blank 4096 ++ ⟨#[32]⟩ = blank 4097 := blank_add 4096 1
              rw [← e2] at HP2
              obtain ⟨X, hX⟩ : ∃ X, X = blank 4096 := ⟨_, rfl⟩
              rw [← hX] at HP1 HP2 b5 b6 ⊢
              clear hX hsz hpos e1 e2
              go_wp2_with fail
              refine (HP1.out _ _ _ HB6.out C6.out).mono ?_
              rintro e w7 ⟨rfl, hb7⟩
              have C7 := Lib.hid (C6.out.trans (hb7.mono C6.out.size))
              have HB7 := Lib.hid (HB6.out.below hb7)
              clear hb7
              go_wp2_with fail
              refine (HP2.out _ _ _ HB7.out C7.out).mono ?_
              rintro e w8 ⟨rfl, hb8⟩
              have C8 := Lib.hid (C7.out.trans (hb8.mono C7.out.size))
              clear hb8
              go_wp2_with fail
              refine (HN3.out _ C8.out).mono ?_
              rintro e w9 ⟨hp, hb9⟩
              have C9 := Lib.hid (C8.out.trans (hb9.mono C8.out.size))
              rcases hp with ⟨-, B2, rfl, hB2⟩ | ⟨h, -⟩
              · have HB9 := Lib.hid hB2
                clear hB2 hb9
                go_wp2_with fail
                refine (HP3.out _ _ _ HB9.out C9.out).mono ?_
                rintro e w10 ⟨rfl, hb10⟩
                have C10 := Lib.hid (C9.out.trans (hb10.mono C9.out.size))
                clear hb10
                go_wp2_with fail
                refine (HPL3.out _ C10.out).mono ?_
                rintro e w11 ⟨rfl, hb11⟩
                go_wp2
                go_ret
                exact ⟨rfl, C10.out.trans (hb11.mono C10.out.size)⟩
              · exact absurd nil_new h
      · exact absurd mL_new h

end Sc
end Go.Proofs.YtgneebidmhiagaaDoor
