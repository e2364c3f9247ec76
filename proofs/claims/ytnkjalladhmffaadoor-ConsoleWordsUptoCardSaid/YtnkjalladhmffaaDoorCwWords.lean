/- console.Words, of any line. -/
import Derived.Test.YtnkjalladhmffaaDoorCwUnq
import Derived.Deep.LoopGhost
import Derived.Lib.Strings
namespace Go.Proofs.YtnkjalladhmffaaDoor
open Go.RowKit Go.Proofs.CwPlain
set_option linter.unusedVariables false
namespace Cw

/-- Words as values. -/
def sv (l : Bs) : Value := .string ⟨l.toArray⟩

/-- The words of a line, with fuel enough. -/
def wordsOf (l : Bs) : Option (List Bs) := wordsL (l.length + 1) l []

/-- Fuel that is enough is enough. -/
theorem words_fuel : ∀ (n m : Nat) (l : Bs) (acc : List Bs), l.length < n → l.length < m → wordsL n l acc = wordsL m l acc := by
  intro n
  induction n with
  | zero => intro m l acc h; omega
  | succ n ih =>
    intro m l acc h1 h2
    obtain ⟨m, rfl⟩ : ∃ k, m = k + 1 := ⟨m - 1, by omega⟩
    cases l with
    | nil => rw [w_nil, w_nil]
    | cons c t =>
      simp only [List.length_cons] at h1 h2
      by_cases hb : blB c = true
      · rw [w_blank _ _ _ _ hb, w_blank _ _ _ _ hb]; exact ih m t acc (by omega) (by omega)
      have hb' : blB c = false := by simpa using hb
      by_cases h35 : c = 35
      · subst h35; rw [w_hash, w_hash]
      by_cases h34 : c = 34
      · subst h34
        cases hq : quotedL t [] with
        | none => rw [w_q0 _ _ _ hq, w_q0 _ _ _ hq]
        | some wr =>
          obtain ⟨w, r⟩ := wr
          obtain ⟨p, e, hp, _⟩ := q_rest _ t [] w r (Nat.le_refl _) hq
          have hl : r.length < t.length := by rw [e]; simp; omega
          by_cases hr : ∀ d u, r = d :: u → blB d = true
          · rw [w_q1 _ _ _ _ _ hq hr, w_q1 _ _ _ _ _ hq hr]; exact ih m r _ (by omega) (by omega)
          · obtain ⟨d, u, e2, hd⟩ : ∃ d u, r = d :: u ∧ blB d = false := by
              cases r with
              | nil => exact absurd (fun d u e => by cases e) hr
              | cons d u =>
                refine ⟨d, u, rfl, ?_⟩
                cases hdd : blB d with
                | false => rfl
                | true => exact absurd (fun d' u' e => by obtain ⟨rfl, _⟩ := List.cons.inj e; exact hdd) hr
            subst e2
            rw [w_q2 _ _ _ _ _ _ hq hd, w_q2 _ _ _ _ _ _ hq hd]
      · rw [w_word _ _ _ _ hb' h35 h34, w_word _ _ _ _ hb' h35 h34]
        have hl : ((c :: t).dropWhile fun d => !blB d).length < t.length + 1 := by
          rw [List.dropWhile_cons, if_pos (by simp [hb'])]
          have := (List.dropWhile_suffix (fun d => !blB d) (l := t)).length_le
          omega
        exact ih m _ _ (by omega) (by omega)

/-- While a line is read. -/
def WRel (s : ByteArray) (w : World) (l i : Value) (wr : World) : Prop :=
  ∃ (k : Nat) (acc : List Bs), k ≤ s.size ∧ i = .int .i64 k ∧ wr.ownsRow w.heap.size 9 1 l acc.length (acc.map sv) ∧ acc.length ≤ k ∧
    wordsL (s.size - k + 1) (s.data.toList.drop k) acc = wordsOf s.data.toList ∧ Below w.heap.size w wr

/-- What console.Words hands back. -/
def WPost (s : ByteArray) (w : World) (e : Ending) (w' : World) : Prop :=
  match wordsOf s.data.toList with
  | none => e = .returned (.tuple #[.slice none 0 0, .iface 41 (.agg #[.string ⟨#[119, 111, 114, 100, 115]⟩, .int .i64 6])])
  | some ws => ∃ v, e = .returned (.tuple #[v, .nilIface]) ∧ w'.ownsRow w.heap.size 9 1 v ws.length (ws.map sv) ∧ ws.length ≤ s.size

theorem WPost.no {s : ByteArray} {w w' : World} (h : wordsOf s.data.toList = none) : WPost s w (.returned (.tuple #[.slice none 0 0, .iface 41 (.agg #[.string ⟨#[119, 111, 114, 100, 115]⟩, .int .i64 6])])) w' := by
  unfold WPost; rw [h]
theorem WPost.yes {s : ByteArray} {w w' : World} {v : Value} {ws : List Bs} (h : wordsOf s.data.toList = some ws) (ho : w'.ownsRow w.heap.size 9 1 v ws.length (ws.map sv)) (hl : ws.length ≤ s.size) : WPost s w (.returned (.tuple #[v, .nilIface])) w' := by
  unfold WPost; rw [h]; exact ⟨v, rfl, ho, hl⟩

theorem WRel.push {s : ByteArray} {w wr w1 : World} {l v' : Value} {acc : List Bs} {o : Obj} {x : Bs} {k : Nat} (k' : Nat) (hown : wr.ownsRow w.heap.size 9 1 l acc.length (acc.map sv)) (hbl : Below w.heap.size w wr)
    (hown' : w1.ownsRow w.heap.size 9 1 v' (acc.length + 1) (acc.map sv ++ [sv x])) (hgrow : (wr.alloc o).grownBy w1 l.ownBlock) (h2 : k' ≤ s.size) (h3 : acc.length + 1 ≤ k')
    (hq : wordsL (s.size - k' + 1) (s.data.toList.drop k') (acc ++ [x]) = wordsOf s.data.toList) : WRel s w v' (.int .i64 (k' : Nat)) w1 :=
  ⟨k', acc ++ [x], h2, rfl, by simpa using hown', by simpa using h3, hq, Ut.below_app hbl hbl.size hown hgrow⟩

theorem info_str : (Tryd.prog.info? 9).map (fun i => (i.zero, i.size, i.bytes)) = some (some (.string ByteArray.empty), 1, 16) := by kernel_rfl

theorem drop_len (s : ByteArray) (k : Nat) : (s.data.toList.drop k).length = s.size - k := by rw [List.length_drop]; simp

theorem dw_drop (p : UInt8 → Bool) (l : Bs) : l.dropWhile p = l.drop (l.takeWhile p).length := by
  induction l with
  | nil => rfl
  | cons c t ih =>
    rw [List.dropWhile_cons, List.takeWhile_cons]
    split
    · simpa using ih
    · rfl

theorem tw_facts (p : UInt8 → Bool) : ∀ (L : Bs), (∀ m (h : m < L.length), m < (L.takeWhile p).length → p L[m] = true) ∧ (∀ h : (L.takeWhile p).length < L.length, p L[(L.takeWhile p).length] = false) ∧ (L.takeWhile p).length ≤ L.length := by
  intro L
  induction L with
  | nil => exact ⟨fun m h => absurd h (Nat.not_lt_zero _), fun h => absurd h (Nat.not_lt_zero _), Nat.le_refl _⟩
  | cons c t ih =>
    obtain ⟨h1, h2, h3⟩ := ih
    cases hc : p c with
    | true =>
      have e : (c :: t).takeWhile p = c :: t.takeWhile p := by rw [List.takeWhile_cons, if_pos hc]
      simp only [e]
      refine ⟨fun m h hm => ?_, fun h => ?_, by simp only [List.length_cons]; omega⟩
      · cases m with
        | zero => exact hc
        | succ m => simp only [List.length_cons] at h hm; simpa using h1 m (by omega) (by omega)
      · simp only [List.length_cons] at h; simpa using h2 (by omega)
    | false =>
      have e : (c :: t).takeWhile p = [] := by rw [List.takeWhile_cons, if_neg (by simp [hc])]
      simp only [e]
      exact ⟨fun m h hm => absurd hm (Nat.not_lt_zero _), fun h => by simpa using hc, by simp⟩

/-- Where a plain word ends. -/
theorem word_end (s : ByteArray) (k : Nat) (hk : k ≤ s.size) : ∃ n, n = ((s.data.toList.drop k).takeWhile fun d => !blB d).length ∧ k + n ≤ s.size ∧ (∀ e (h : e < s.size), k ≤ e → e < k + n → blB s[e] = false) ∧ (∀ h : k + n < s.size, blB s[k + n] = true) := by
  obtain ⟨h1, h2, h3⟩ := tw_facts (fun d => !blB d) (s.data.toList.drop k)
  refine ⟨_, rfl, by rw [drop_len] at h3; omega, fun e h hke he => ?_, fun h => ?_⟩
  · have hl : e - k < (s.data.toList.drop k).length := by rw [drop_len]; omega
    have := h1 (e - k) hl (by omega)
    rw [List.getElem_drop] at this
    have e2 : k + (e - k) = e := by omega
    simp only [e2] at this
    have h5 : blB (s.data.toList[e]'(by simpa using h)) = false := by simpa only [Bool.not_eq_true'] using this
    exact h5
  · have hl : ((s.data.toList.drop k).takeWhile fun d => !blB d).length < (s.data.toList.drop k).length := by rw [drop_len]; omega
    have := h2 hl
    rw [List.getElem_drop] at this
    have h5 : blB (s.data.toList[k + ((s.data.toList.drop k).takeWhile fun d => !blB d).length]'(by simpa using h)) = true := by simpa only [Bool.not_eq_false'] using this
    exact h5

theorem take_tw (p : UInt8 → Bool) (L : Bs) : L.take (L.takeWhile p).length = L.takeWhile p := (List.prefix_iff_eq_take.1 (List.takeWhile_prefix p)).symm

theorem str_of_data {x : ByteArray} {l : Bs} (h : x.data.toList = l) : Value.string x = sv l := by
  unfold sv; rw [← h]

set_option maxHeartbeats 4000000 in
set_option maxRecDepth 100000 in
theorem words_any (s : ByteArray) (hs : s.size ≤ 1099511627776) (w : World) :
    Calls Tryd.prog 5 #[.string s] w fun e w' => WPost s w e w' ∧ Below w.heap.size w w' := by
  obtain ⟨i0, hi, hz0, hz1, hz2⟩ := info_parts info_str
  have s1 : (s.size : Int) ≤ 1099511627776 := by omega
  go_enter Tryd.func5, Tryd.ntmps5
  go_wp2
  go_loopw [4, 5] (fun l i wr => WRel s w l i wr) (fun _ i _ => s.size - (intOf i).toNat)
  case atStart => exact ⟨0, [], Nat.zero_le _, rfl, World.ownsRow_nil _ _ _ _, Nat.le_refl _, by unfold wordsOf; simp, Below.refl _ _⟩
  case round =>
    obtain ⟨k, acc, k2, rfl, hown, hal, hq, hbl⟩ := hrel
    have HO := Lib.hid hown; have HQ := Lib.hid hq; have HB := Lib.hid hbl
    have hz : w.heap.size ≤ wr.heap.size := hbl.size
    clear hown hq hbl
    have b0 : (0 : Int) ≤ (k : Int) := by omega
    have am1 : acc.length + 1 ≤ maxLen := by unfold maxLen; omega
    have am2 : (acc.length + 1) * 16 ≤ 140737488355328 := by omega
    by_cases hk : k < s.size
    · have b1 : (k : Int) < (s.size : Int) := by omega
      have hd := drop_at s k hk
      have hbk := Lib.hid (fun w' => blank_any s[k] w')
      obtain ⟨q, hq⟩ : ∃ q, q = blB s[k] := ⟨_, rfl⟩
      rw [← hq] at hbk
      obtain ⟨f, hf⟩ : ∃ f, s.size - k = f + 1 := ⟨s.size - k - 1, by omega⟩
      have hf2 : s.size - (k + 1) = f := by omega
      cases q with
      | true =>
        have HN : Hid (wordsL (s.size - (k + 1) + 1) (s.data.toList.drop (k + 1)) acc = wordsOf s.data.toList) := by
          show _ = _
          rw [← HQ.out, hd, hf, w_blank _ _ _ _ hq.symm, hf2]
        clear hd hq hf hf2
        go_wp2_with fail
        refine (hbk.out _).mono ?_
        rintro e w' ⟨rfl, rfl⟩
        go_wp2
        go_roundw
        case rel => exact ⟨k + 1, acc, by omega, by go_num, HO.out, by omega, HN.out, HB.out⟩
        case measure => simp [intOf]; omega
      | false =>
        by_cases c1 : s[k] = 35
        · have q1 : ((s[k].toNat : Int) == 35) = true := by rw [c1]; rfl
          have HN : Hid (wordsOf s.data.toList = some acc) := by show _ = _; rw [← HQ.out, hd, c1, w_hash]
          clear hd hq hf hf2 c1
          go_wp2_with fail
          refine (hbk.out _).mono ?_
          rintro e w' ⟨rfl, rfl⟩
          go_wp2
          go_ret2
          exact ⟨WPost.yes HN.out HO.out (by omega), HB.out⟩
        have q1 : ((s[k].toNat : Int) == 35) = false := at_no (n := 35) c1
        by_cases c2 : s[k] = 34
        · have q2 : ((s[k].toNat : Int) == 34) = true := by rw [c2]; rfl
          obtain ⟨X, hX⟩ : ∃ X : ByteArray, X = s.extract k s.size := ⟨_, rfl⟩
          have hXd : X.data.toList = s.data.toList.drop k := by rw [hX, Lib.extract_data]; exact List.take_of_length_le (by rw [drop_len]; omega)
          have hXz : X.size = s.size - k := by rw [← drop_len, ← hXd]; simp
          have hun := unquote_any X (by omega) (by omega) wr
          have e1 : X.data.toList.drop 1 = s.data.toList.drop (k + 1) := by rw [hXd, List.drop_drop]
          unfold UPost at hun
          rw [e1] at hun
          cases hqq : quotedL (s.data.toList.drop (k + 1)) [] with
          | none =>
            rw [hqq] at hun
            have HN : Hid (wordsOf s.data.toList = none) := by show _ = _; rw [← HQ.out, hd, c2, w_q0 _ _ _ hqq]
            have HU := Lib.hid hun
            clear hun hqq e1 hXd hd hq hf hf2 c2 hXz
            subst hX
            go_wp2_with fail
            refine (hbk.out _).mono ?_
            rintro e w' ⟨rfl, rfl⟩
            go_wp2_with fail
            refine HU.out.mono ?_
            rintro e w1 ⟨rfl, hb1⟩
            go_wp2
            go_ret2
            exact ⟨WPost.no HN.out, HB.out.trans (hb1.mono HB.out.size)⟩
          | some xr =>
            obtain ⟨x, r⟩ := xr
            rw [hqq] at hun
            have hun2 : Calls Tryd.prog 12 #[.string X] wr fun e w' => (∃ n : Nat, e = .returned (.tuple #[.string ⟨x.toArray⟩, .int .i64 n, .bool true]) ∧ 2 ≤ n ∧ k + n ≤ s.size ∧ r = s.data.toList.drop (k + n)) ∧ Below wr.heap.size wr w' := by
              refine hun.mono ?_
              rintro e w' ⟨⟨n, g1, g2, g3, g4, g5⟩, g6⟩
              exact ⟨⟨n, g1, g2, by omega, by rw [g4, hXd, List.drop_drop]⟩, g6⟩
            have HU := Lib.hid hun2
            have HQQ := Lib.hid hqq
            have hstep := fun (hr : ∀ d u, r = d :: u → blB d = true) => w_q1 (s.size - k) (s.data.toList.drop (k + 1)) x r acc hqq hr
            have hstop := fun (d : UInt8) (u : Bs) (hr : r = d :: u) (hbd : blB d = false) => w_q2 (s.size - k) (s.data.toList.drop (k + 1)) x u d acc (by rw [hqq, hr]) hbd
            rw [← c2, ← hd, HQ.out] at hstep hstop
            have HST := Lib.hid hstep; have HSO := Lib.hid hstop
            clear hun hun2 hqq e1 hXd hd hq hf hf2 c2 hXz hstep hstop
            subst hX
            go_wp2_with fail
            refine (hbk.out _).mono ?_
            rintro e w' ⟨rfl, rfl⟩
            go_wp2_with fail
            refine HU.out.mono ?_
            rintro e w2 ⟨⟨n, rfl, hn1, hn2, hr⟩, hb1⟩
            have HR := Lib.hid hr
            have HB2 := Lib.hid (HB.out.trans (hb1.mono HB.out.size))
            have HO2 := Lib.hid (Ut.own_below HO.out hb1)
            have hzw : w.heap.size ≤ w2.heap.size := HB2.out.size
            clear hr hb1
            have b2 : (0 : Int) ≤ (n : Int) := by omega
            have b3 : (k : Int) + (n : Int) ≤ (s.size : Int) := by omega
            by_cases hkn : k + n < s.size
            · have b4 : (k : Int) + (n : Int) < (s.size : Int) := by omega
              have hbk2 := Lib.hid (fun w' => blank_any (s[k + n]'hkn) w')
              obtain ⟨q3, hq3⟩ : ∃ q, q = blB (s[k + n]'hkn) := ⟨_, rfl⟩
              rw [← hq3] at hbk2
              have hdr : r = (s[k + n]'hkn) :: s.data.toList.drop (k + n + 1) := by rw [HR.out, drop_at s (k + n) hkn]
              cases q3 with
              | false =>
                have HN : Hid (wordsOf s.data.toList = none) := HSO.out _ _ hdr hq3.symm
                clear hdr hq3
                go_wp2_with fail
                refine (hbk2.out _).mono ?_
                rintro e w' ⟨rfl, rfl⟩
                go_wp2
                go_ret2
                exact ⟨WPost.no HN.out, HB2.out⟩
              | true =>
                have HN : Hid (wordsL (s.size - (k + n) + 1) (s.data.toList.drop (k + n)) (acc ++ [x]) = wordsOf s.data.toList) := by
                  show _ = _
                  rw [HST.out (fun d u e => by rw [hdr] at e; rw [← (List.cons.inj e).1]; exact hq3.symm), HR.out]
                  exact words_fuel _ _ _ _ (by rw [drop_len]; omega) (by rw [drop_len]; omega)
                clear hdr hq3
                go_wp2_with fail
                refine (hbk2.out _).mono ?_
                rintro e w' ⟨rfl, rfl⟩
                go_wp2_with (at_builtin; refine wpList_append_own _ rfl _ _ 22 rfl w.heap.size 9 i0 (.string ByteArray.empty) 1 16 Tryd.underlying22 hi hz0 hz1 hz2 rfl (by decide) _ _ _ rfl (HO2.out.alloc _) ⟨w2.heap.size, 0, none⟩ 1 1 [Value.string ⟨x.toArray⟩] rfl rfl (cell_one_new _ _ _) (by intro u hu; simp at hu; subst hu; rfl) am1 am2 (by simp; exact Nat.le_succ_of_le hzw) ?_; intro v' w1 hown' hgrow _)
                have HU := Lib.hid (WRel.push (s := s) (k := k) (x := x) (k + n) HO2.out HB2.out hown' hgrow (by omega) (by omega) HN.out)
                clear hown' hgrow
                go_wp2
                go_roundw
                case rel => exact HU.out
                case measure => simp [intOf]; omega

            · have b4 : (s.size : Int) ≤ (k : Int) + (n : Int) := by omega
              have HN : Hid (wordsL (s.size - (k + n) + 1) (s.data.toList.drop (k + n)) (acc ++ [x]) = wordsOf s.data.toList) := by
                show _ = _
                have hdr : s.data.toList.drop (k + n) = [] := drop_end s (k + n) (by omega)
                rw [HST.out (fun d u e => by rw [HR.out, hdr] at e; cases e), HR.out]
                exact words_fuel _ _ _ _ (by rw [drop_len]; omega) (by rw [drop_len]; omega)
              go_wp2_with (at_builtin; refine wpList_append_own _ rfl _ _ 22 rfl w.heap.size 9 i0 (.string ByteArray.empty) 1 16 Tryd.underlying22 hi hz0 hz1 hz2 rfl (by decide) _ _ _ rfl (HO2.out.alloc _) ⟨w2.heap.size, 0, none⟩ 1 1 [Value.string ⟨x.toArray⟩] rfl rfl (cell_one_new _ _ _) (by intro u hu; simp at hu; subst hu; rfl) am1 am2 (by simp; exact Nat.le_succ_of_le hzw) ?_; intro v' w1 hown' hgrow _)
              have HU := Lib.hid (WRel.push (s := s) (k := k) (x := x) (k + n) HO2.out HB2.out hown' hgrow (by omega) (by omega) HN.out)
              clear hown' hgrow
              go_wp2
              go_roundw
              case rel => exact HU.out
              case measure => simp [intOf]; omega

        have q2 : ((s[k].toNat : Int) == 34) = false := at_no (n := 34) c2
        have hw := w_word (s.size - k) s[k] (s.data.toList.drop (k + 1)) acc hq.symm c1 c2
        rw [← hd, HQ.out] at hw
        obtain ⟨n, hn, hn1, hn2, hn3⟩ := word_end s k (by omega)
        have hn0 : 0 < n := by
          rw [hn, hd, List.takeWhile_cons, if_pos (by rw [← hq]; rfl)]; simp
        have HW := Lib.hid hw
        have HNN := Lib.hid hn; have HN2 := Lib.hid hn2; have HN3 := Lib.hid hn3
        clear hd hq hf hf2 c1 c2 hw hn hn2 hn3
        go_wp2_with fail
        refine (hbk.out _).mono ?_
        rintro e w' ⟨rfl, rfl⟩
        go_wp2_with fail
        go_loopw [9] (fun e9 wy => ∃ m : Nat, e9 = .int .i64 m ∧ k ≤ m ∧ m ≤ k + n ∧ wy = wr) (fun e9 _ => s.size - (intOf e9).toNat)
        case atStart => exact ⟨k, rfl, Nat.le_refl _, by omega, rfl⟩
        case round =>
          obtain ⟨m, rfl, hm1, hm2, rfl⟩ := hrel
          have m0 : (0 : Int) ≤ (m : Int) := by omega
          by_cases hmn : m < k + n
          · have m1 : (m : Int) < (s.size : Int) := by omega
            have hbk2 := Lib.hid (fun w' => blank_any (s[m]'(by omega)) w')
            rw [HN2.out m (by omega) hm1 hmn] at hbk2
            go_wp2_with fail
            refine (hbk2.out _).mono ?_
            rintro e w' ⟨rfl, rfl⟩
            go_wp2
            go_roundw
            case rel => exact ⟨m + 1, by go_num, by omega, by omega, by first | rfl | trivial⟩
            case measure => simp [intOf]; omega
          · obtain rfl : m = k + n := by omega
            have hword : (s.extract k (k + n)).data.toList = (s.data.toList.drop k).takeWhile fun d => !blB d := by
              rw [Lib.extract_data, Nat.add_sub_cancel_left, HNN.out, take_tw]
            have HV := Lib.hid (str_of_data hword)
            have HN : Hid (wordsL (s.size - (k + n) + 1) (s.data.toList.drop (k + n)) (acc ++ [(s.data.toList.drop k).takeWhile fun d => !blB d]) = wordsOf s.data.toList) := by
              show _ = _
              rw [HW.out, dw_drop, ← HNN.out, List.drop_drop]
              exact words_fuel _ _ _ _ (by rw [drop_len]; omega) (by rw [drop_len]; omega)
            clear hword
            have m2 : (k : Int) + (n : Int) ≤ (s.size : Int) := by omega
            have m3 : (k : Int) ≤ (k : Int) + (n : Int) := by omega
            by_cases hkn : k + n < s.size
            · have m1 : (k : Int) + (n : Int) < (s.size : Int) := by omega
              have hbk2 := Lib.hid (fun w' => blank_any (s[k + n]'hkn) w')
              rw [HN3.out hkn] at hbk2
              go_wp2_with fail
              refine (hbk2.out _).mono ?_
              rintro e w' ⟨rfl, rfl⟩
              go_wp2_with (at_builtin; refine wpList_append_own _ rfl _ _ 22 rfl w.heap.size 9 i0 (.string ByteArray.empty) 1 16 Tryd.underlying22 hi hz0 hz1 hz2 rfl (by decide) _ _ _ rfl (HO.out.alloc _) ⟨wr.heap.size, 0, none⟩ 1 1 [.string (s.extract k (k + n))] rfl rfl (cell_one_new _ _ _) (by intro u hu; simp at hu; subst hu; rfl) am1 am2 (by simp; exact Nat.le_succ_of_le hz) ?_; intro v' w1 hown' hgrow _)
              have HU := Lib.hid (WRel.push (s := s) (k := k) (x := (s.data.toList.drop k).takeWhile fun d => !blB d) (k + n) HO.out HB.out (HV.out ▸ hown') hgrow (by omega) (by omega) HN.out)
              clear hown' hgrow
              go_wp2
              go_roundw
              case rel => exact HU.out
              case measure => simp [intOf]; omega

            · have m1 : (s.size : Int) ≤ (k : Int) + (n : Int) := by omega
              go_wp2_with (at_builtin; refine wpList_append_own _ rfl _ _ 22 rfl w.heap.size 9 i0 (.string ByteArray.empty) 1 16 Tryd.underlying22 hi hz0 hz1 hz2 rfl (by decide) _ _ _ rfl (HO.out.alloc _) ⟨wr.heap.size, 0, none⟩ 1 1 [.string (s.extract k (k + n))] rfl rfl (cell_one_new _ _ _) (by intro u hu; simp at hu; subst hu; rfl) am1 am2 (by simp; exact Nat.le_succ_of_le hz) ?_; intro v' w1 hown' hgrow _)
              have HU := Lib.hid (WRel.push (s := s) (k := k) (x := (s.data.toList.drop k).takeWhile fun d => !blB d) (k + n) HO.out HB.out (HV.out ▸ hown') hgrow (by omega) (by omega) HN.out)
              clear hown' hgrow
              go_wp2
              go_roundw
              case rel => exact HU.out
              case measure => simp [intOf]; omega

    · have b1 : ¬ (k : Int) < (s.size : Int) := by omega
      have HN : Hid (wordsOf s.data.toList = some acc) := by show _ = _; rw [← HQ.out, drop_end s k (by omega), w_nil]
      go_wp2
      go_ret2
      exact ⟨WPost.yes HN.out HO.out (by omega), HB.out⟩

end Cw
end Go.Proofs.YtnkjalladhmffaaDoor
