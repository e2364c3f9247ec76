/- console.unquote, of any text that begins with a quote. -/
import Derived.Test.YtnkjalladhmffaaDoorCwWalk
namespace Go.Proofs.YtnkjalladhmffaaDoor
open Go.RowKit Go.Proofs.CwPlain
set_option linter.unusedVariables false
namespace Cw

theorem drop_at (s : ByteArray) (k : Nat) (h : k < s.size) : s.data.toList.drop k = s[k] :: s.data.toList.drop (k + 1) := by
  rw [List.drop_eq_getElem_cons (by simpa using h)]; rfl
theorem drop_end (s : ByteArray) (k : Nat) (h : s.size ≤ k) : s.data.toList.drop k = [] := List.drop_eq_nil_of_le (by simpa using h)

/-- While a text is unquoted. -/
def UQ (s : ByteArray) (w : World) (b i : Value) (wr : World) : Prop :=
  ∃ (k : Nat) (acc : Bs), 1 ≤ k ∧ k ≤ s.size ∧ i = .int .i64 k ∧ wr.ownsRow w.heap.size 5 1 b acc.length (acc.map bv) ∧ acc.length ≤ k ∧ quotedL (s.data.toList.drop k) acc = quotedL (s.data.toList.drop 1) [] ∧ Below w.heap.size w wr

/-- What unquote hands back. -/
def UPost (s : ByteArray) (e : Ending) : Prop :=
  match quotedL (s.data.toList.drop 1) [] with
  | none => e = .returned (.tuple #[.string ⟨#[]⟩, .int .i64 0, .bool false])
  | some (x, r) => ∃ n : Nat, e = .returned (.tuple #[.string ⟨x.toArray⟩, .int .i64 n, .bool true]) ∧ 2 ≤ n ∧ n ≤ s.size ∧ r = s.data.toList.drop n ∧ x.length ≤ s.size

theorem UPost.no {s : ByteArray} (h : quotedL (s.data.toList.drop 1) [] = none) : UPost s (.returned (.tuple #[.string ⟨#[]⟩, .int .i64 0, .bool false])) := by
  unfold UPost; rw [h]
theorem UPost.yes {s : ByteArray} {x : Bs} {k : Nat} (h : quotedL (s.data.toList.drop 1) [] = some (x, s.data.toList.drop (k + 1))) (h1 : 1 ≤ k) (h2 : k < s.size) (h3 : x.length ≤ k) :
    UPost s (.returned (.tuple #[.string ⟨x.toArray⟩, .int .i64 ((k + 1 : Nat) : Int), .bool true])) := by
  unfold UPost; rw [h]
  exact ⟨k + 1, rfl, by omega, by omega, rfl, by omega⟩

theorem strOf_bytes (acc : Bs) : strOfNums (acc.map fun c => (c.toNat : Int)) = ⟨acc.toArray⟩ := by
  unfold strOfNums
  rw [List.map_map]
  congr 1
  have : (acc.map ((fun n : Int => UInt8.ofNat n.toNat) ∘ fun c : UInt8 => (c.toNat : Int))) = acc := by
    rw [List.map_congr_left (g := id) (fun c _ => by simp)]; simp
  rw [this]

/-- A list of bytes of the call's own, as a text. -/
theorem conv_own {w : World} {base : Nat} {b : Value} {acc : Bs} (h : w.ownsRow base 5 1 b acc.length (acc.map bv)) :
    (convert 48 9 b).run Tryd.prog w = .ok (.string ⟨acc.toArray⟩) w := by
  rcases Nat.eq_zero_or_pos acc.length with h0 | h0
  · have e : acc = [] := List.eq_nil_of_length_eq_zero h0
    subst e
    rcases h.2 with ⟨rfl, _⟩ | ⟨g, cap, cur, rfl, _⟩
    · exact run_convert_bytes_nil w _ _ Tryd.underlying48 Tryd.underlying5 0 0 _ Tryd.underlying9
    · exact run_convert_bytes_arg w _ _ Tryd.underlying48 Tryd.underlying5 g 0 _ cap [] rfl (fun i hi => absurd hi (Nat.not_lt_zero _)) _ Tryd.underlying9
  · obtain ⟨g, cap, rfl, _, _, _, _, hc⟩ := Ut.own_cells h h0
    have := run_convert_bytes_arg w _ _ Tryd.underlying48 Tryd.underlying5 g 0 acc.length cap (acc.map fun c => (c.toNat : Int)) (by simp) (fun i hi => by
      rw [Nat.zero_add, hc i hi]
      simp [bv, List.getD, hi]) _ Tryd.underlying9
    rw [strOf_bytes] at this
    exact this

theorem UQ.push {s : ByteArray} {w wr w1 : World} {b v' : Value} {acc : Bs} {o : Obj} {x : UInt8} (k' : Nat) (hown : wr.ownsRow w.heap.size 5 1 b acc.length (acc.map bv)) (hbl : Below w.heap.size w wr)
    (hown' : w1.ownsRow w.heap.size 5 1 v' (acc.length + 1) (acc.map bv ++ [bv x])) (hgrow : (wr.alloc o).grownBy w1 b.ownBlock) (h1 : 1 ≤ k') (h2 : k' ≤ s.size) (h3 : acc.length + 1 ≤ k')
    (hq : quotedL (s.data.toList.drop k') (acc ++ [x]) = quotedL (s.data.toList.drop 1) []) : UQ s w v' (.int .i64 (k' : Nat)) w1 :=
  ⟨k', acc ++ [x], h1, h2, rfl, by simpa using hown', by simpa using h3, hq, Ut.below_app hbl hbl.size hown hgrow⟩

theorem info_u8 : (Tryd.prog.info? 5).map (fun i => (i.zero, i.size, i.bytes)) = some (some (.int .u8 0), 1, 1) := by kernel_rfl

theorem at_no {c : UInt8} {n : UInt8} (h : c ≠ n) : ((c.toNat : Int) == (n.toNat : Int)) = false := by
  rw [beq_eq_false_iff_ne]; intro e; exact h (UInt8.toNat_inj.1 (by omega))

theorem hexv_lt (c : UInt8) : (hexv c < 16 → ((hexv c).toNat : Int) ≤ 15) ∧ (¬ hexv c < 16 → 15 < ((hexv c).toNat : Int)) := by
  have e : (16 : UInt8).toNat = 16 := rfl
  rw [UInt8.lt_iff_toNat_lt, e]
  exact ⟨fun h => by omega, fun h => by omega⟩

theorem or_hex {x y : UInt8} (h1 : hexv x < 16) (h2 : hexv y < 16) : (bits .or .u8 (IntKind.u8.wrap (((hexv x).toNat : Int) * 2 ^ (4 : Int).toNat)) ((hexv y).toNat : Int)) = ((16 * hexv x + hexv y).toNat : Int) := by
  have h : ∀ a b : Fin 16, (bits .or .u8 (IntKind.u8.wrap (((UInt8.ofNat a.val).toNat : Int) * 2 ^ (4 : Int).toNat)) ((UInt8.ofNat b.val).toNat : Int)) = ((16 * UInt8.ofNat a.val + UInt8.ofNat b.val).toNat : Int) := by decide +kernel
  have e : (16 : UInt8).toNat = 16 := rfl
  rw [UInt8.lt_iff_toNat_lt, e] at h1 h2
  have := h ⟨(hexv x).toNat, h1⟩ ⟨(hexv y).toNat, h2⟩
  simpa using this

set_option maxHeartbeats 4000000 in
set_option maxRecDepth 100000 in
theorem unquote_any (s : ByteArray) (h1 : 1 ≤ s.size) (hs : s.size ≤ 70368744177664) (w : World) :
    Calls Tryd.prog 12 #[.string s] w fun e w' => UPost s e ∧ Below w.heap.size w w' := by
  obtain ⟨i0, hi, hz0, hz1, hz2⟩ := info_parts info_u8
  have s1 : (s.size : Int) ≤ 70368744177664 := by omega
  go_enter Tryd.func12, Tryd.ntmps12
  go_wp2
  go_loopw [5, 6] (fun b i wr => UQ s w b i wr) (fun _ i _ => s.size - (intOf i).toNat)
  case atStart => exact ⟨1, [], Nat.le_refl _, h1, rfl, World.ownsRow_nil _ _ _ _, by simp, rfl, Below.refl _ _⟩
  case round =>
    obtain ⟨k, acc, k1, k2, rfl, hown, hal, hq, hbl⟩ := hrel
    have HO := Lib.hid hown; have HQ := Lib.hid hq; have HB := Lib.hid hbl
    have hz : w.heap.size ≤ wr.heap.size := hbl.size
    clear hown hq hbl
    have b0 : (0 : Int) ≤ (k : Int) := by omega
    by_cases hk : k < s.size
    · have b1 : (k : Int) < (s.size : Int) := by omega
      have hd := drop_at s k hk
      by_cases c1 : s[k] = 34
      · have q1 : ((s[k].toNat : Int) == 34) = true := by rw [c1]; rfl
        have HN : Hid (quotedL (s.data.toList.drop 1) [] = some (acc, s.data.toList.drop (k + 1))) := by show _ = _; rw [← HQ.out, hd, c1, q_end]
        have hcv := conv_own HO.out
        clear hd c1
        go_wp2
        go_ret3
        exact ⟨UPost.yes HN.out k1 hk hal, HB.out⟩
      have q1 : ((s[k].toNat : Int) == 34) = false := at_no (n := 34) c1
      by_cases c2 : s[k] = 10
      · have q2 : ((s[k].toNat : Int) == 10) = true := by rw [c2]; rfl
        have HN : Hid (quotedL (s.data.toList.drop 1) [] = none) := by show _ = _; rw [← HQ.out, hd, c2, q_line]
        clear hd c1 c2
        go_wp2
        go_ret3
        exact ⟨UPost.no HN.out, HB.out⟩
      have q2 : ((s[k].toNat : Int) == 10) = false := at_no (n := 10) c2
      by_cases c3 : s[k] = 92
      · have q3 : ((s[k].toNat : Int) == 92) = true := by rw [c3]; rfl
        clear c1 c2
        by_cases hk2 : k + 1 < s.size
        · have b2 : (k : Int) + 1 < (s.size : Int) := by omega
          have b3 : (0 : Int) ≤ (k : Int) + 1 := by omega
          have p0 : ((k : Int) + 1 == (s.size : Int)) = false := by rw [beq_eq_false_iff_ne]; omega
          have hd2 := drop_at s (k + 1) hk2
          have e1 : s[k] = 92 := c3
          rw [e1] at hd
          clear c3 e1
          by_cases d1 : s[k + 1] = 34
          · have r1 : ((s[k + 1].toNat : Int) == 34) = true := by rw [d1]; rfl
            have HN : Hid (quotedL (s.data.toList.drop (k + 2)) (acc ++ [s[k + 1]]) = quotedL (s.data.toList.drop 1) []) := by show _ = _; rw [← HQ.out, hd, hd2, q_e1 _ _ _ (.inl d1)]
            clear hd hd2 d1
            go_wp2_with (at_builtin; refine wpList_append_own _ rfl _ _ 48 rfl w.heap.size 5 i0 (.int .u8 0) 1 1 Tryd.underlying48 hi hz0 hz1 hz2 rfl (by decide) _ _ _ rfl (HO.out.alloc _) ⟨wr.heap.size, 0, none⟩ 1 1 [bv s[k + 1]] rfl rfl ?d1 ?d2 ?d3 ?d4 ?d5 ?_)
            case d1 => exact cell_one_new _ _ _
            case d2 =>
              intro u hu; simp at hu; subst hu; rfl
            case d3 => unfold maxLen; omega
            case d4 => omega
            case d5 => simp; omega
            intro v' w1 hown' hgrow _
            have HU := Lib.hid (UQ.push (s := s) (x := s[k + 1]) (k + 2) HO.out HB.out hown' hgrow (by omega) (by omega) (by omega) HN.out)
            clear hown' hgrow
            go_wp2
            go_roundw
            case rel => exact HU.out
            case measure => simp [intOf]; omega

          have r1 : ((s[k + 1].toNat : Int) == 34) = false := at_no (n := 34) d1
          by_cases d2 : s[k + 1] = 92
          · have r2 : ((s[k + 1].toNat : Int) == 92) = true := by rw [d2]; rfl
            have HN : Hid (quotedL (s.data.toList.drop (k + 2)) (acc ++ [s[k + 1]]) = quotedL (s.data.toList.drop 1) []) := by show _ = _; rw [← HQ.out, hd, hd2, q_e1 _ _ _ (.inr d2)]
            clear hd hd2 d1 d2
            go_wp2_with (at_builtin; refine wpList_append_own _ rfl _ _ 48 rfl w.heap.size 5 i0 (.int .u8 0) 1 1 Tryd.underlying48 hi hz0 hz1 hz2 rfl (by decide) _ _ _ rfl (HO.out.alloc _) ⟨wr.heap.size, 0, none⟩ 1 1 [bv s[k + 1]] rfl rfl ?d1 ?d2 ?d3 ?d4 ?d5 ?_)
            case d1 => exact cell_one_new _ _ _
            case d2 =>
              intro u hu; simp at hu; subst hu; rfl
            case d3 => unfold maxLen; omega
            case d4 => omega
            case d5 => simp; omega
            intro v' w1 hown' hgrow _
            have HU := Lib.hid (UQ.push (s := s) (x := s[k + 1]) (k + 2) HO.out HB.out hown' hgrow (by omega) (by omega) (by omega) HN.out)
            clear hown' hgrow
            go_wp2
            go_roundw
            case rel => exact HU.out
            case measure => simp [intOf]; omega

          have r2 : ((s[k + 1].toNat : Int) == 92) = false := at_no (n := 92) d2
          by_cases d3 : s[k + 1] = 110
          · have r3 : ((s[k + 1].toNat : Int) == 110) = true := by rw [d3]; rfl
            have HN : Hid (quotedL (s.data.toList.drop (k + 2)) (acc ++ [10]) = quotedL (s.data.toList.drop 1) []) := by show _ = _; rw [← HQ.out, hd, hd2, d3, q_e2]
            clear hd hd2 d1 d2 d3
            go_wp2_with (at_builtin; refine wpList_append_own _ rfl _ _ 48 rfl w.heap.size 5 i0 (.int .u8 0) 1 1 Tryd.underlying48 hi hz0 hz1 hz2 rfl (by decide) _ _ _ rfl (HO.out.alloc _) ⟨wr.heap.size, 0, none⟩ 1 1 [bv 10] rfl rfl ?d1 ?d2 ?d3 ?d4 ?d5 ?_)
            case d1 => exact cell_one_new _ _ _
            case d2 =>
              intro u hu; simp at hu; subst hu; rfl
            case d3 => unfold maxLen; omega
            case d4 => omega
            case d5 => simp; omega
            intro v' w1 hown' hgrow _
            have HU := Lib.hid (UQ.push (s := s) (x := 10) (k + 2) HO.out HB.out hown' hgrow (by omega) (by omega) (by omega) HN.out)
            clear hown' hgrow
            go_wp2
            go_roundw
            case rel => exact HU.out
            case measure => simp [intOf]; omega

          have r3 : ((s[k + 1].toNat : Int) == 110) = false := at_no (n := 110) d3
          by_cases d4 : s[k + 1] = 120
          · have r4 : ((s[k + 1].toNat : Int) == 120) = true := by rw [d4]; rfl
            by_cases hk4 : k + 3 < s.size
            · have b4 : (k : Int) + 3 < (s.size : Int) := by omega
              have hd3 := drop_at s (k + 2) (by omega)
              have hd4 := drop_at s (k + 3) hk4
              have b5 : (k : Int) + 1 + 2 < (s.size : Int) := by omega
              have b6 : (k : Int) + 1 + 1 < (s.size : Int) := by omega
              have b7 : (0 : Int) ≤ (k : Int) + 1 + 1 := by omega
              have b8 : (0 : Int) ≤ (k : Int) + 1 + 2 := by omega
              have hyes : hexv (s[k + 1 + 1]'(by omega)) < 16 ∧ hexv (s[k + 1 + 2]'(by omega)) < 16 → quotedL (s.data.toList.drop (k + 4)) (acc ++ [16 * hexv (s[k + 1 + 1]'(by omega)) + hexv (s[k + 1 + 2]'(by omega))]) = quotedL (s.data.toList.drop 1) [] := fun hg => by
                rw [← HQ.out, hd, hd2, d4, hd3, hd4, q_e3 _ _ _ _ hg]
              have hno : ¬ (hexv (s[k + 1 + 1]'(by omega)) < 16 ∧ hexv (s[k + 1 + 2]'(by omega)) < 16) → quotedL (s.data.toList.drop 1) [] = none := fun hg => by
                rw [← HQ.out, hd, hd2, d4, hd3, hd4, q_e4 _ _ _ _ hg]
              clear hd hd2 d1 d2 d3 d4 hd3 hd4
              have HY := Lib.hid hyes; have HNO := Lib.hid hno
              clear hyes hno
              have l1 := hexv_lt (s[k + 1 + 1]'(by omega)); have l2 := hexv_lt (s[k + 1 + 2]'(by omega))
              by_cases g1 : hexv (s[k + 1 + 1]'(by omega)) < 16
              · have g1' := l1.1 g1
                by_cases g2 : hexv (s[k + 1 + 2]'(by omega)) < 16
                · have g2' := l2.1 g2
                  have HN := Lib.hid (HY.out ⟨g1, g2⟩)
                  have hor := or_hex g1 g2
                  have HV := Lib.hid hor
                  clear l1 l2 g1 g2 HY HNO hor
                  have z1 : (0 : Int) ≤ ((hexv (s[k + 1 + 1]'(by omega))).toNat : Int) := by omega
                  have z2 : (0 : Int) ≤ ((hexv (s[k + 1 + 2]'(by omega))).toNat : Int) := by omega
                  go_wp2_with (go_at_call 17; refine (hex_any _ _).mono ?_; rintro e w' ⟨rfl, rfl⟩)
                  have a3 : 1 ≤ k + 4 := by omega
                  have a4 : k + 4 ≤ s.size := by omega
                  have a5 : acc.length + 1 ≤ k + 4 := by omega
                  have a1 : acc.length + 1 ≤ maxLen := by unfold maxLen; omega
                  have a2 : (acc.length + 1) * 1 ≤ 140737488355328 := by omega
                  have t1 : ((k : Int) + 1 + 1).toNat = k + 1 + 1 := by omega
                  have t2 : ((k : Int) + 1 + 2).toNat = k + 1 + 2 := by omega
                  have v1 : IntKind.i64.wrap ((k : Int) + 1 + 1) = (k : Int) + 1 + 1 := IntWalk.i64_in _ (by omega)
                  have v2 : IntKind.i64.wrap ((k : Int) + 1 + 2) = (k : Int) + 1 + 2 := IntWalk.i64_in _ (by omega)
                  go_region_law (first | (refine step_append_lies _ (by rfl) (.tmp 78) (.tmp 91) 48 (by rfl) w.heap.size 5 i0 (.int .u8 0) 1 1 Tryd.underlying48 hi hz0 hz1 hz2 rfl (by decide) _ _ _ (by rfl) (HO.out.drew.alloc _) ⟨wr.heap.size, 0, none⟩ 1 1 [_] (by rfl) (by rfl) (cell_one_new _ _ _) (by intro u hu; simp at hu; subst hu; rfl) Nat.one_pos a1 a2 (by simp; exact Nat.le_succ_of_le hz) (wr.heap.size + 1) (by simp) ?_; intro g cap w1 hown' hgrow hat hlt) | (go_simp; go_at_call 17; refine (hex_any _ _).mono ?_; rintro e w' ⟨rfl, rfl⟩))
                  all_goals
                    have hown2 : w1.ownsRow w.heap.size 5 1 (.slice (some ⟨g, 0, none⟩) (acc.length + 1) cap) (acc.length + 1) (acc.map bv ++ [bv (16 * hexv (s[k + 1 + 1]'(by omega)) + hexv (s[k + 1 + 2]'(by omega)))]) := by
                      unfold bv; rw [← HV.out]; exact hown'
                    have HU := Lib.hid (UQ.push (s := s) (k + 4) (wr := wr.drew) HO.out.drew (HB.out.drew) hown2 hgrow a3 a4 a5 HN.out)
                    clear hown' hown2 hgrow hat hlt
                    clear v1 v2
                    go_wp2
                    go_roundw
                    case rel => exact HU.out
                    case measure => simp [intOf]; omega
                · have g2' := l2.2 g2
                  have HN := Lib.hid (HNO.out fun h => g2 h.2)
                  clear l1 l2 g1 g2 HY HNO
                  go_wp2_with (go_at_call 17; refine (hex_any _ _).mono ?_; rintro e w' ⟨rfl, rfl⟩)
                  go_ret3
                  exact ⟨UPost.no HN.out, HB.out⟩
              · have g1' := l1.2 g1
                have HN := Lib.hid (HNO.out fun h => g1 h.1)
                clear l1 l2 g1 HY HNO
                go_wp2_with (go_at_call 17; refine (hex_any _ _).mono ?_; rintro e w' ⟨rfl, rfl⟩)
                go_ret3
                exact ⟨UPost.no HN.out, HB.out⟩
            · have HN : Hid (quotedL (s.data.toList.drop 1) [] = none) := by
                show _ = _
                rw [← HQ.out, hd, hd2, d4]
                by_cases e2 : k + 2 < s.size
                · rw [drop_at s (k + 2) e2, drop_end s (k + 3) (by omega), q_e5]
                · rw [drop_end s (k + 2) (by omega), q_e6]
              have b4 : (s.size : Int) ≤ (k : Int) + 1 + 2 := by omega
              clear hd hd2 d1 d2 d3 d4
              go_wp2
              go_ret3
              exact ⟨UPost.no HN.out, HB.out⟩
          have r4 : ((s[k + 1].toNat : Int) == 120) = false := at_no (n := 120) d4
          have HN : Hid (quotedL (s.data.toList.drop 1) [] = none) := by show _ = _; rw [← HQ.out, hd, hd2, q_e7 _ _ _ d1 d2 d3 d4]
          clear hd hd2 d1 d2 d3 d4
          go_wp2
          go_ret3
          exact ⟨UPost.no HN.out, HB.out⟩
        · have p0 : ((k : Int) + 1 == (s.size : Int)) = true := by rw [beq_iff_eq]; omega
          have HN : Hid (quotedL (s.data.toList.drop 1) [] = none) := by show _ = _; rw [← HQ.out, hd, c3, drop_end s (k + 1) (by omega), q_e0]
          clear hd c3
          go_wp2
          go_ret3
          exact ⟨UPost.no HN.out, HB.out⟩
      have q3 : ((s[k].toNat : Int) == 92) = false := at_no (n := 92) c3
      have HN : Hid (quotedL (s.data.toList.drop (k + 1)) (acc ++ [s[k]]) = quotedL (s.data.toList.drop 1) []) := by show _ = _; rw [← HQ.out, hd, q_plain _ _ _ c1 c2 c3]
      clear hd c1 c2 c3
      go_wp2_with (at_builtin; refine wpList_append_own _ rfl _ _ 48 rfl w.heap.size 5 i0 (.int .u8 0) 1 1 Tryd.underlying48 hi hz0 hz1 hz2 rfl (by decide) _ _ _ rfl (HO.out.alloc _) ⟨wr.heap.size, 0, none⟩ 1 1 [bv s[k]] rfl rfl ?d1 ?d2 ?d3 ?d4 ?d5 ?_)
      case d1 => exact cell_one_new _ _ _
      case d2 =>
        intro u hu; simp at hu; subst hu; rfl
      case d3 => unfold maxLen; omega
      case d4 => omega
      case d5 => simp; omega
      intro v' w1 hown' hgrow _
      have HU := Lib.hid (UQ.push (s := s) (k + 1) HO.out HB.out hown' hgrow (by omega) (by omega) (by omega) HN.out)
      clear hown' hgrow
      go_wp2
      go_roundw
      case rel => exact HU.out
      case measure => simp [intOf]; omega
    · have b1 : ¬ (k : Int) < (s.size : Int) := by omega
      have HN : Hid (quotedL (s.data.toList.drop 1) [] = none) := by show _ = _; rw [← HQ.out, drop_end s k (by omega), q_nil]
      go_wp2
      go_ret3
      exact ⟨UPost.no HN.out, HB.out⟩

end Cw
end Go.Proofs.YtnkjalladhmffaaDoor
