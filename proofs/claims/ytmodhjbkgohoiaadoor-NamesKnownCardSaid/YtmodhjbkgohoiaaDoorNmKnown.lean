/- NamesKnown: the document's examples. Laid by program (mkknown.py). -/
import Derived.Test.YtmodhjbkgohoiaaDoorNmJoinW
namespace Go.Proofs.YtmodhjbkgohoiaaDoor
open Go.RowKit Go.Proofs.NmPlain
set_option linter.unusedVariables false

def rep (k : Nat) : ByteArray := ⟨(List.replicate k 97).toArray⟩
theorem rep_size (k : Nat) : (rep k).size = k := by show (List.replicate k (97 : UInt8)).toArray.size = k; simp
theorem rep_step (k : Nat) : rep k ++ ⟨#[97]⟩ = rep (k + 1) := by
  have : (rep k ++ ⟨#[97]⟩).data.toList = (rep (k + 1)).data.toList := by
    rw [ByteArray.data_append, Array.toList_append]
    show List.replicate k 97 ++ [97] = List.replicate (k + 1) 97
    rw [List.replicate_succ']
  exact ByteArray.ext (Array.toList_inj.1 this)
def longOf (t : ByteArray) : ByteArray := t ++ ⟨#[46]⟩ ++ t ++ ⟨#[46]⟩ ++ t ++ ⟨#[46]⟩ ++ t

def yesL (t : ByteArray) : List ByteArray := [⟨#[116, 118, 45, 49]⟩, ⟨#[97]⟩, t, ⟨#[122, 57, 95, 45]⟩]
def noL (t : ByteArray) : List ByteArray := [⟨#[]⟩, ⟨#[49, 97]⟩, ⟨#[45, 97]⟩, ⟨#[65]⟩, ⟨#[97, 46, 98]⟩, ⟨#[195, 169]⟩, t ++ ⟨#[97]⟩, ⟨#[95]⟩, ⟨#[97, 32, 98]⟩]
def dotL (l : ByteArray) : List ByteArray := [⟨#[109, 97, 105, 108, 46, 114, 101, 97, 100]⟩, ⟨#[97]⟩, ⟨#[97, 46, 98, 46, 99, 46, 100]⟩, l]
def notL (l : ByteArray) : List ByteArray := [⟨#[97, 46]⟩, ⟨#[46, 97]⟩, ⟨#[97, 46, 46, 98]⟩, ⟨#[97, 46, 98, 46, 99, 46, 100, 46, 101]⟩, l ++ ⟨#[97]⟩, ⟨#[97, 46, 66]⟩, ⟨#[]⟩]
def KYes (t : ByteArray) (w : World) (i : Value) (wr : World) : Prop :=
  ∃ k : Nat, k ≤ 4 ∧ i = .int .i64 k ∧ TextsAt wr w.heap.size (yesL t) ∧ TextsAt wr (w.heap.size + 1) (noL t) ∧ Below w.heap.size w wr
def KNo (t : ByteArray) (w : World) (i : Value) (wr : World) : Prop :=
  ∃ k : Nat, k ≤ 9 ∧ i = .int .i64 k ∧ TextsAt wr (w.heap.size + 1) (noL t) ∧ Below w.heap.size w wr
def KDot (l : ByteArray) (w : World) (B : Nat) (i : Value) (wr : World) : Prop :=
  ∃ k : Nat, k ≤ 4 ∧ i = .int .i64 k ∧ TextsAt wr B (dotL l) ∧ TextsAt wr (B + 1) (notL l) ∧ Below w.heap.size w wr
def KNot (l : ByteArray) (w : World) (B : Nat) (i : Value) (wr : World) : Prop :=
  ∃ k : Nat, k ≤ 7 ∧ i = .int .i64 k ∧ TextsAt wr (B + 1) (notL l) ∧ Below w.heap.size w wr
theorem yes_all : ((yesL (rep 32)).all fun x => nameB x.data.toList) = true := by decide +kernel
theorem no_all : ((noL (rep 32)).all fun x => !nameB x.data.toList) = true := by decide +kernel
theorem dot_all : ((dotL (longOf (rep 32))).all fun x => dotB x.data.toList) = true := by decide +kernel
theorem not_all : ((notL (longOf (rep 32))).all fun x => !dotB x.data.toList) = true := by decide +kernel
theorem size_all : ((yesL (rep 32) ++ noL (rep 32) ++ dotL (longOf (rep 32)) ++ notL (longOf (rep 32))).all fun x => decide (x.size ≤ 1000)) = true := by decide +kernel
theorem kc0 : ncmp [97, 46, 98] [97, 45, 98] = -1 := by decide +kernel
theorem kc1 : ncmp [97, 46, 98] [97, 46, 98] = 0 := by decide +kernel
theorem kc2 : ncmp [97, 46, 99] [97, 46, 98, 46, 122] = 1 := by decide +kernel
theorem kc3 : ncmp [] [46] = -1 := by decide +kernel
theorem kc4 : ncmp [97, 255] [98] = -1 := by decide +kernel
theorem kc5 : ncmp [97, 0] [97] = 1 := by decide +kernel
theorem ku0 : underB [109, 97, 105, 108, 98, 111, 120] [109, 97, 105, 108] = false := by decide +kernel
theorem ku1 : underB [109, 97, 105, 108] [109, 97, 105, 108] = true := by decide +kernel
theorem ku2 : underB [97, 46] [97] = false := by decide +kernel
theorem ku3 : underB [97] [] = false := by decide +kernel
theorem kp : dotB [97, 46, 98, 46, 99] = true := by decide +kernel
theorem ks : split [97, 46, 98, 46, 99] = [[97], [98], [99]] := by decide +kernel

set_option maxHeartbeats 4000000 in
set_option maxRecDepth 100000 in
theorem namesKnown_walk (w : World) (hsh : w.ShapedOpen Tryd.prog) :
    Calls Tryd.prog 8 #[] w fun e w' => e = .returned (.bool true) ∧ Below w.heap.size w w' := by
  have C := Lib.hid (JC.mk' w (max_of_shape w hsh))
  have HM := Lib.hid (max_of_shape w hsh)
  clear hsh
  go_enter Tryd.func8, Tryd.ntmps8
  go_wp2
  go_loopw [1, 2] (fun s i wr => ∃ k : Nat, k ≤ 32 ∧ i = .int .i64 k ∧ s = .string (rep k) ∧ w = wr) (fun _ i _ => 32 - (intOf i).toNat)
  case atStart => exact ⟨0, Nat.zero_le _, rfl, rfl, rfl⟩
  case round =>
    obtain ⟨k, hk, rfl, rfl, rfl⟩ := hrel
    by_cases h : k < 32
    · have hst := Lib.hid (rep_step k)
      have hz : (rep k).size ≤ 32 := by rw [rep_size]; omega
      generalize rep k = t at *
      go_wp2
      go_roundw
      case rel => exact ⟨k + 1, by omega, by go_num, by rw [hst.out], trivial⟩
      case measure => simp [intOf]; omega
    · have h32 : k = 32 := by omega
      have g32 : (32 : Int) ≤ (k : Int) := by omega
      have hz : (rep k).size = 32 := by rw [rep_size, h32]
      obtain ⟨t, ht⟩ : ∃ t, t = rep k := ⟨_, rfl⟩
      rw [← ht] at hz ⊢
      have HT : Hid (t = rep 32) := by show _ = _; rw [ht, h32]
      clear ht hk h h32
      have z1 : (t ++ ⟨#[97]⟩).size = 33 := by rw [ByteArray.size_append, hz]; rfl
      have A1 : Hid (TextsAt ((w.alloc (.cells #[.string ⟨#[116, 118, 45, 49]⟩, .string ⟨#[97]⟩, .string t, .string ⟨#[122, 57, 95, 45]⟩] 9)).alloc (.cells #[.string ⟨#[]⟩, .string ⟨#[49, 97]⟩, .string ⟨#[45, 97]⟩, .string ⟨#[65]⟩, .string ⟨#[97, 46, 98]⟩, .string ⟨#[195, 169]⟩, .string (t ++ ⟨#[97]⟩), .string ⟨#[95]⟩, .string ⟨#[97, 32, 98]⟩] 9)) w.heap.size (yesL t)) := Lib.hid (TextsAt.below (w := w.alloc (.cells #[.string ⟨#[116, 118, 45, 49]⟩, .string ⟨#[97]⟩, .string t, .string ⟨#[122, 57, 95, 45]⟩] 9)) (ps := yesL t) (Ut.alloc_at _ _) (B := w.heap.size + 1) (by omega) ((Below.refl _ _).alloc (by simp) _))
      have A2 : Hid (TextsAt ((w.alloc (.cells #[.string ⟨#[116, 118, 45, 49]⟩, .string ⟨#[97]⟩, .string t, .string ⟨#[122, 57, 95, 45]⟩] 9)).alloc (.cells #[.string ⟨#[]⟩, .string ⟨#[49, 97]⟩, .string ⟨#[45, 97]⟩, .string ⟨#[65]⟩, .string ⟨#[97, 46, 98]⟩, .string ⟨#[195, 169]⟩, .string (t ++ ⟨#[97]⟩), .string ⟨#[95]⟩, .string ⟨#[97, 32, 98]⟩] 9)) (w.heap.size + 1) (noL t)) := by
        have := Ut.alloc_at (w.alloc (.cells #[.string ⟨#[116, 118, 45, 49]⟩, .string ⟨#[97]⟩, .string t, .string ⟨#[122, 57, 95, 45]⟩] 9)) (.cells #[.string ⟨#[]⟩, .string ⟨#[49, 97]⟩, .string ⟨#[45, 97]⟩, .string ⟨#[65]⟩, .string ⟨#[97, 46, 98]⟩, .string ⟨#[195, 169]⟩, .string (t ++ ⟨#[97]⟩), .string ⟨#[95]⟩, .string ⟨#[97, 32, 98]⟩] 9)
        rw [show (w.alloc (.cells #[.string ⟨#[116, 118, 45, 49]⟩, .string ⟨#[97]⟩, .string t, .string ⟨#[122, 57, 95, 45]⟩] 9)).heap.size = w.heap.size + 1 by simp] at this
        exact this
      have hb0 : Below w.heap.size w ((w.alloc (.cells #[.string ⟨#[116, 118, 45, 49]⟩, .string ⟨#[97]⟩, .string t, .string ⟨#[122, 57, 95, 45]⟩] 9)).alloc (.cells #[.string ⟨#[]⟩, .string ⟨#[49, 97]⟩, .string ⟨#[45, 97]⟩, .string ⟨#[65]⟩, .string ⟨#[97, 46, 98]⟩, .string ⟨#[195, 169]⟩, .string (t ++ ⟨#[97]⟩), .string ⟨#[95]⟩, .string ⟨#[97, 32, 98]⟩] 9)) := ((Below.refl _ _).alloc (Nat.le_refl _) _).alloc (by simp) _
      go_wp2
      go_loopw [5] (fun i wr => KYes t w i wr) (fun i _ => 4 - (intOf i).toNat)
      case atStart => exact ⟨0, Nat.zero_le _, rfl, A1, A2, hb0⟩
      clear A1 A2 hb0
      case round =>
        obtain ⟨k, hk, rfl, t1, t2, hbr⟩ := hrel
        by_cases h : k < 4
        · have hl : k < (yesL t).length := h
          have hc := TextsAt.cell t1 hl
          have hn : nameB (yesL t)[k].data.toList = true := by
            have := yes_all; rw [← HT.out, List.all_eq_true] at this; exact this _ (List.getElem_mem hl)
          have hN := nameIs hn (by have := nameB_le hn; rw [← size_toList] at this; omega)
          obtain ⟨x, hx⟩ : ∃ x, x = (yesL t)[k] := ⟨_, rfl⟩
          rw [← hx] at hc hN
          have b1 : (0 : Int) ≤ (k : Int) := by omega
          have b2 : (k : Int) < 4 := by omega
          have hwr := hbr.size
          have ht1 := Lib.hid t1; have ht2 := Lib.hid t2
          clear hx hn hl t1 t2
          go_wp2_with (go_at_call 11; refine (hN.out _).mono ?_; rintro e w11 ⟨rfl, b11⟩)
          go_roundw
          case rel => exact ⟨k + 1, by omega, by go_num, ht1.out.below (TextsAt.lt ht1.out) b11, ht2.out.below (TextsAt.lt ht2.out) b11, hbr.trans (b11.mono hwr)⟩
          case measure => simp [intOf]; omega
        · have g4 : (4 : Int) ≤ (k : Int) := by omega
          have ht2 := Lib.hid t2
          clear hk h t1 t2
          go_wp2
          go_loopw [6] (fun i wr => KNo t w i wr) (fun i _ => 9 - (intOf i).toNat)
          case atStart => exact ⟨0, Nat.zero_le _, rfl, ht2.out, hbr⟩
          clear ht2 hbr
          case round =>
            obtain ⟨k, hk, rfl, t2, hbr⟩ := hrel
            by_cases h : k < 9
            · have hl : k < (noL t).length := h
              have hc := TextsAt.cell t2 hl
              have hn : nameB (noL t)[k].data.toList = false := by
                have := no_all; rw [← HT.out, List.all_eq_true] at this; have h2 := this _ (List.getElem_mem hl); simpa using h2
              have hsz : (noL t)[k].size ≤ 1000 := by
                have := size_all; rw [← HT.out, List.all_eq_true] at this
                have h2 := this (noL t)[k] (by simp only [List.mem_append]; exact .inl (.inl (.inr (List.getElem_mem hl))))
                simpa using h2
              have hN := nameIs hn (by omega)
              obtain ⟨x, hx⟩ : ∃ x, x = (noL t)[k] := ⟨_, rfl⟩
              rw [← hx] at hc hN
              have b1 : (0 : Int) ≤ (k : Int) := by omega
              have b2 : (k : Int) < 9 := by omega
              have hwr := hbr.size
              have ht2 := Lib.hid t2
              clear hx hn hl t2 hsz
              go_wp2_with (go_at_call 11; refine (hN.out _).mono ?_; rintro e w11 ⟨rfl, b11⟩)
              go_roundw
              case rel => exact ⟨k + 1, by omega, by go_num, ht2.out.below (TextsAt.lt ht2.out) b11, hbr.trans (b11.mono hwr)⟩
              case measure => simp [intOf]; omega
            · have g9 : (9 : Int) ≤ (k : Int) := by omega
              clear hk h t2
              have y1 : (t ++ ⟨#[46]⟩).size = 33 := by rw [ByteArray.size_append, hz]; rfl
              have y2 : (t ++ ⟨#[46]⟩ ++ t).size = 65 := by rw [ByteArray.size_append, y1, hz]
              have y3 : (t ++ ⟨#[46]⟩ ++ t ++ ⟨#[46]⟩).size = 66 := by rw [ByteArray.size_append, y2]; rfl
              have y4 : (t ++ ⟨#[46]⟩ ++ t ++ ⟨#[46]⟩ ++ t).size = 98 := by rw [ByteArray.size_append, y3, hz]
              have y5 : (t ++ ⟨#[46]⟩ ++ t ++ ⟨#[46]⟩ ++ t ++ ⟨#[46]⟩).size = 99 := by rw [ByteArray.size_append, y4]; rfl
              have y6 : (t ++ ⟨#[46]⟩ ++ t ++ ⟨#[46]⟩ ++ t ++ ⟨#[46]⟩ ++ t).size = 131 := by rw [ByteArray.size_append, y5, hz]
              obtain ⟨l, hl⟩ : ∃ l, l = longOf t := ⟨_, rfl⟩
              have hlz : l.size = 131 := by rw [hl]; exact y6
              have z3 : (l ++ ⟨#[97]⟩).size = 132 := by rw [ByteArray.size_append, hlz]; rfl
              have HL := Lib.hid hl
              have HLE : Hid (t ++ ⟨#[46]⟩ ++ t ++ ⟨#[46]⟩ ++ t ++ ⟨#[46]⟩ ++ t = l) := hl.symm
              clear hl
              have A1 : Hid (TextsAt ((wr.alloc (.cells #[.string ⟨#[109, 97, 105, 108, 46, 114, 101, 97, 100]⟩, .string ⟨#[97]⟩, .string ⟨#[97, 46, 98, 46, 99, 46, 100]⟩, .string l] 9)).alloc (.cells #[.string ⟨#[97, 46]⟩, .string ⟨#[46, 97]⟩, .string ⟨#[97, 46, 46, 98]⟩, .string ⟨#[97, 46, 98, 46, 99, 46, 100, 46, 101]⟩, .string (l ++ ⟨#[97]⟩), .string ⟨#[97, 46, 66]⟩, .string ⟨#[]⟩] 9)) wr.heap.size (dotL l)) := Lib.hid (TextsAt.below (w := wr.alloc (.cells #[.string ⟨#[109, 97, 105, 108, 46, 114, 101, 97, 100]⟩, .string ⟨#[97]⟩, .string ⟨#[97, 46, 98, 46, 99, 46, 100]⟩, .string l] 9)) (ps := dotL l) (Ut.alloc_at _ _) (B := wr.heap.size + 1) (by omega) ((Below.refl _ _).alloc (by simp) _))
              have A2 : Hid (TextsAt ((wr.alloc (.cells #[.string ⟨#[109, 97, 105, 108, 46, 114, 101, 97, 100]⟩, .string ⟨#[97]⟩, .string ⟨#[97, 46, 98, 46, 99, 46, 100]⟩, .string l] 9)).alloc (.cells #[.string ⟨#[97, 46]⟩, .string ⟨#[46, 97]⟩, .string ⟨#[97, 46, 46, 98]⟩, .string ⟨#[97, 46, 98, 46, 99, 46, 100, 46, 101]⟩, .string (l ++ ⟨#[97]⟩), .string ⟨#[97, 46, 66]⟩, .string ⟨#[]⟩] 9)) (wr.heap.size + 1) (notL l)) := by
                have := Ut.alloc_at (wr.alloc (.cells #[.string ⟨#[109, 97, 105, 108, 46, 114, 101, 97, 100]⟩, .string ⟨#[97]⟩, .string ⟨#[97, 46, 98, 46, 99, 46, 100]⟩, .string l] 9)) (.cells #[.string ⟨#[97, 46]⟩, .string ⟨#[46, 97]⟩, .string ⟨#[97, 46, 46, 98]⟩, .string ⟨#[97, 46, 98, 46, 99, 46, 100, 46, 101]⟩, .string (l ++ ⟨#[97]⟩), .string ⟨#[97, 46, 66]⟩, .string ⟨#[]⟩] 9)
                rw [show (wr.alloc (.cells #[.string ⟨#[109, 97, 105, 108, 46, 114, 101, 97, 100]⟩, .string ⟨#[97]⟩, .string ⟨#[97, 46, 98, 46, 99, 46, 100]⟩, .string l] 9)).heap.size = wr.heap.size + 1 by simp] at this
                exact this
              have hb0 : Below w.heap.size w ((wr.alloc (.cells #[.string ⟨#[109, 97, 105, 108, 46, 114, 101, 97, 100]⟩, .string ⟨#[97]⟩, .string ⟨#[97, 46, 98, 46, 99, 46, 100]⟩, .string l] 9)).alloc (.cells #[.string ⟨#[97, 46]⟩, .string ⟨#[46, 97]⟩, .string ⟨#[97, 46, 46, 98]⟩, .string ⟨#[97, 46, 98, 46, 99, 46, 100, 46, 101]⟩, .string (l ++ ⟨#[97]⟩), .string ⟨#[97, 46, 66]⟩, .string ⟨#[]⟩] 9)) := hbr.trans ((((Below.refl _ _).alloc (Nat.le_refl _) _).alloc (by simp) _).mono hbr.size)
              go_wp2_with (rw [HLE.out])
              go_loopw [10] (fun i wr2 => KDot l w wr.heap.size i wr2) (fun i _ => 4 - (intOf i).toNat)
              case atStart => exact ⟨0, Nat.zero_le _, rfl, A1, A2, hb0⟩
              clear A1 A2 hb0
              case round =>
                obtain ⟨k, hk, rfl, t1, t2, hbr⟩ := hrel
                by_cases h : k < 4
                · have hl : k < (dotL l).length := h
                  have hc := TextsAt.cell t1 hl
                  have hn : dotB (dotL l)[k].data.toList = true := by
                    have := dot_all; rw [← HT.out, ← HL.out, List.all_eq_true] at this; exact this _ (List.getElem_mem hl)
                  have hsz : (dotL l)[k].size ≤ 1000 := by
                    have := size_all; rw [← HT.out, ← HL.out, List.all_eq_true] at this
                    have h2 := this (dotL l)[k] (by simp only [List.mem_append]; exact .inl (.inr (List.getElem_mem hl)))
                    simpa using h2
                  have hN := C.out.dottedIs hn (by omega)
                  obtain ⟨x, hx⟩ : ∃ x, x = (dotL l)[k] := ⟨_, rfl⟩
                  rw [← hx] at hc hN
                  have b1 : (0 : Int) ≤ (k : Int) := by omega
                  have b2 : (k : Int) < 4 := by omega
                  have hwr := hbr.size
                  have ht1 := Lib.hid t1; have ht2 := Lib.hid t2
                  clear hx hn hl t1 t2 hsz
                  go_wp2_with (go_at_call 13; refine (hN.out _ hbr).mono ?_; rintro e w11 ⟨rfl, b11⟩)
                  go_roundw
                  case rel => exact ⟨k + 1, by omega, by go_num, ht1.out.below (TextsAt.lt ht1.out) b11, ht2.out.below (TextsAt.lt ht2.out) b11, hbr.trans (b11.mono hwr)⟩
                  case measure => simp [intOf]; omega
                · have g4 : (4 : Int) ≤ (k : Int) := by omega
                  have ht2 := Lib.hid t2
                  clear hk h t1 t2
                  go_wp2
                  go_loopw [11] (fun i wr3 => KNot l w _ i wr3) (fun i _ => 7 - (intOf i).toNat)
                  case atStart => exact ⟨0, Nat.zero_le _, rfl, ht2.out, hbr⟩
                  clear ht2 hbr
                  case round =>
                    obtain ⟨k, hk, rfl, t2, hbr⟩ := hrel
                    by_cases h : k < 7
                    · have hl : k < (notL l).length := h
                      have hc := TextsAt.cell t2 hl
                      have hn : dotB (notL l)[k].data.toList = false := by
                        have := not_all; rw [← HT.out, ← HL.out, List.all_eq_true] at this; have h2 := this _ (List.getElem_mem hl); simpa using h2
                      have hsz : (notL l)[k].size ≤ 1000 := by
                        have := size_all; rw [← HT.out, ← HL.out, List.all_eq_true] at this
                        have h2 := this (notL l)[k] (by simp only [List.mem_append]; exact .inr (List.getElem_mem hl))
                        simpa using h2
                      have hN := C.out.dottedIs hn (by omega)
                      have hP := C.out.partsNo hn (by omega)
                      obtain ⟨x, hx⟩ : ∃ x, x = (notL l)[k] := ⟨_, rfl⟩
                      rw [← hx] at hc hN hP
                      have b1 : (0 : Int) ≤ (k : Int) := by omega
                      have b2 : (k : Int) < 7 := by omega
                      have hwr := hbr.size
                      have ht2 := Lib.hid t2
                      clear hx hn hl t2 hsz
                      go_wp2_with (first | (go_at_call 13; refine (hN.out _ hbr).mono ?_; rintro e w11 ⟨rfl, b11⟩; have hc2 := (b11.cell (p := ⟨_, k, none⟩) (TextsAt.lt ht2.out)).trans hc) | (go_at_call 10; refine (hP.out _ (hbr.trans (b11.mono hwr))).mono ?_; rintro e w12 ⟨rfl, b12⟩))
                      go_roundw
                      case rel => exact ⟨k + 1, by omega, by go_num, (ht2.out.below (TextsAt.lt ht2.out) b11).below (TextsAt.lt (ht2.out.below (TextsAt.lt ht2.out) b11)) b12, (hbr.trans (b11.mono hwr)).trans (b12.mono (hbr.trans (b11.mono hwr)).size)⟩
                      case measure => simp [intOf]; omega
                    · have g7 : (7 : Int) ≤ (k : Int) := by omega
                      clear hk h t2
                      have PA := C.out.partsYes (x := ⟨#[97, 46, 98, 46, 99]⟩) kp (by decide)
                      have U0 : Hid (∀ w', Below w.heap.size w w' → Calls Tryd.prog 17 #[.string ⟨#[109, 97, 105, 108, 98, 111, 120]⟩, .string ⟨#[109, 97, 105, 108]⟩] w' fun e w2 => e = .returned (.bool false) ∧ Below w'.heap.size w' w2) := fun w' h => by
                        have := C.out.under ⟨#[109, 97, 105, 108, 98, 111, 120]⟩ ⟨#[109, 97, 105, 108]⟩ w' (by decide) (by decide) h
                        rw [ku0] at this; exact this
                      have U1 : Hid (∀ w', Below w.heap.size w w' → Calls Tryd.prog 17 #[.string ⟨#[109, 97, 105, 108]⟩, .string ⟨#[109, 97, 105, 108]⟩] w' fun e w2 => e = .returned (.bool true) ∧ Below w'.heap.size w' w2) := fun w' h => by
                        have := C.out.under ⟨#[109, 97, 105, 108]⟩ ⟨#[109, 97, 105, 108]⟩ w' (by decide) (by decide) h
                        rw [ku1] at this; exact this
                      have U2 : Hid (∀ w', Below w.heap.size w w' → Calls Tryd.prog 17 #[.string ⟨#[97, 46]⟩, .string ⟨#[97]⟩] w' fun e w2 => e = .returned (.bool false) ∧ Below w'.heap.size w' w2) := fun w' h => by
                        have := C.out.under ⟨#[97, 46]⟩ ⟨#[97]⟩ w' (by decide) (by decide) h
                        rw [ku2] at this; exact this
                      have U3 : Hid (∀ w', Below w.heap.size w w' → Calls Tryd.prog 17 #[.string ⟨#[97]⟩, .string ByteArray.empty] w' fun e w2 => e = .returned (.bool false) ∧ Below w'.heap.size w' w2) := fun w' h => by
                        have := C.out.under ⟨#[97]⟩ ByteArray.empty w' (by decide) (by decide) h
                        rw [show underB (⟨#[97]⟩ : ByteArray).data.toList ByteArray.empty.data.toList = false from ku3] at this; exact this
                      have K0 : Hid (∀ w', Below w.heap.size w w' → Calls Tryd.prog 20 #[.string ⟨#[97, 46, 98]⟩, .string ⟨#[97, 45, 98]⟩] w' fun e w2 => e = .returned (.int .i64 (-1)) ∧ Below w'.heap.size w' w2) := fun w' h => by
                        have := compare_below ⟨#[97, 46, 98]⟩ ⟨#[97, 45, 98]⟩ (by decide) (by decide) w' (HM.out.below h)
                        rw [kc0] at this; exact this
                      have K1 : Hid (∀ w', Below w.heap.size w w' → Calls Tryd.prog 20 #[.string ⟨#[97, 46, 98]⟩, .string ⟨#[97, 46, 98]⟩] w' fun e w2 => e = .returned (.int .i64 (0)) ∧ Below w'.heap.size w' w2) := fun w' h => by
                        have := compare_below ⟨#[97, 46, 98]⟩ ⟨#[97, 46, 98]⟩ (by decide) (by decide) w' (HM.out.below h)
                        rw [kc1] at this; exact this
                      have K2 : Hid (∀ w', Below w.heap.size w w' → Calls Tryd.prog 20 #[.string ⟨#[97, 46, 99]⟩, .string ⟨#[97, 46, 98, 46, 122]⟩] w' fun e w2 => e = .returned (.int .i64 (1)) ∧ Below w'.heap.size w' w2) := fun w' h => by
                        have := compare_below ⟨#[97, 46, 99]⟩ ⟨#[97, 46, 98, 46, 122]⟩ (by decide) (by decide) w' (HM.out.below h)
                        rw [kc2] at this; exact this
                      have K3 : Hid (∀ w', Below w.heap.size w w' → Calls Tryd.prog 20 #[.string ByteArray.empty, .string ⟨#[46]⟩] w' fun e w2 => e = .returned (.int .i64 (-1)) ∧ Below w'.heap.size w' w2) := fun w' h => by
                        have := compare_below ByteArray.empty ⟨#[46]⟩ (by decide) (by decide) w' (HM.out.below h)
                        rw [show ncmp ByteArray.empty.data.toList (⟨#[46]⟩ : ByteArray).data.toList = -1 from kc3] at this; exact this
                      have K4 : Hid (∀ w', Below w.heap.size w w' → Calls Tryd.prog 20 #[.string ⟨#[97, 255]⟩, .string ⟨#[98]⟩] w' fun e w2 => e = .returned (.int .i64 (-1)) ∧ Below w'.heap.size w' w2) := fun w' h => by
                        have := compare_below ⟨#[97, 255]⟩ ⟨#[98]⟩ (by decide) (by decide) w' (HM.out.below h)
                        rw [kc4] at this; exact this
                      have K5 : Hid (∀ w', Below w.heap.size w w' → Calls Tryd.prog 20 #[.string ⟨#[97, 0]⟩, .string ⟨#[97]⟩] w' fun e w2 => e = .returned (.int .i64 (1)) ∧ Below w'.heap.size w' w2) := fun w' h => by
                        have := compare_below ⟨#[97, 0]⟩ ⟨#[97]⟩ (by decide) (by decide) w' (HM.out.below h)
                        rw [kc5] at this; exact this
                      clear HM C
                      go_wp2_with fail
                      refine (PA.out _ hbr).mono ?_
                      rintro e w4 ⟨g0, ps0, rfl, hs0, ht0, b4⟩
                      have c4 := hbr.trans (b4.mono hbr.size)
                      have e0 : ps0 = [⟨#[97]⟩, ⟨#[98]⟩, ⟨#[99]⟩] := map_inj (hs0.trans (by rw [ks]; rfl))
                      subst e0
                      clear hs0
                      have hal : Hid (TextList (w4.alloc (.cells #[.string ⟨#[97]⟩, .string ⟨#[98]⟩, .string ⟨#[99]⟩] 9)) (.slice (some ⟨w4.heap.size, 0, none⟩) 3 3) [⟨#[97]⟩, ⟨#[98]⟩, ⟨#[99]⟩]) := Lib.hid (TextsAt.list (ps := [⟨#[97]⟩, ⟨#[98]⟩, ⟨#[99]⟩]) (Ut.alloc_at _ _) 3)
                      have hbl : Below w4.heap.size w4 (w4.alloc (.cells #[.string ⟨#[97]⟩, .string ⟨#[98]⟩, .string ⟨#[99]⟩] 9)) := (Below.refl _ _).alloc (Nat.le_refl _) _
                      have hsm : Hid (Calls Tryd.prog 15 #[.slice (some ⟨g0, 0, none⟩) 3 3, .slice (some ⟨w4.heap.size, 0, none⟩) 3 3] (w4.alloc (.cells #[.string ⟨#[97]⟩, .string ⟨#[98]⟩, .string ⟨#[99]⟩] 9)) fun e w' => e = .returned (.bool true) ∧ Below (w4.alloc (.cells #[.string ⟨#[97]⟩, .string ⟨#[98]⟩, .string ⟨#[99]⟩] 9)).heap.size (w4.alloc (.cells #[.string ⟨#[97]⟩, .string ⟨#[98]⟩, .string ⟨#[99]⟩] 9)) w') := by
                        have := same_any _ _ [⟨#[97]⟩, ⟨#[98]⟩, ⟨#[99]⟩] [⟨#[97]⟩, ⟨#[98]⟩, ⟨#[99]⟩] (show ((3 : Nat) : Int) ≤ _ by omega) (show ((3 : Nat) : Int) ≤ _ by omega) _ ((TextsAt.list ht0 3).below hbl) hal.out
                        rw [decide_eq_true rfl] at this; exact this
                      have c5 := c4.trans (hbl.mono c4.size)
                      clear hal ht0 hbl
                      go_wp2_with (go_at_call 15; refine hsm.out.mono ?_; rintro e w6 ⟨rfl, b6⟩)
                      have c6 := c5.trans (b6.mono c5.size)
                      refine (U0.out _ c6).mono ?_
                      rintro e w7 ⟨rfl, b7⟩
                      have c7 := c6.trans (b7.mono c6.size)
                      go_wp2_with fail
                      refine (U1.out _ c7).mono ?_
                      rintro e w8 ⟨rfl, b8⟩
                      have c8 := c7.trans (b8.mono c7.size)
                      go_wp2_with fail
                      refine (U2.out _ c8).mono ?_
                      rintro e w9 ⟨rfl, b9⟩
                      have c9 := c8.trans (b9.mono c8.size)
                      go_wp2_with fail
                      refine (U3.out _ c9).mono ?_
                      rintro e w10 ⟨rfl, b10⟩
                      have c10 := c9.trans (b10.mono c9.size)
                      go_wp2_with fail
                      refine (K0.out _ c10).mono ?_
                      rintro e w11 ⟨rfl, b11⟩
                      have c11 := c10.trans (b11.mono c10.size)
                      go_wp2_with fail
                      refine (K1.out _ c11).mono ?_
                      rintro e w12 ⟨rfl, b12⟩
                      have c12 := c11.trans (b12.mono c11.size)
                      go_wp2_with fail
                      refine (K2.out _ c12).mono ?_
                      rintro e w13 ⟨rfl, b13⟩
                      have c13 := c12.trans (b13.mono c12.size)
                      go_wp2_with fail
                      refine (K3.out _ c13).mono ?_
                      rintro e w14 ⟨rfl, b14⟩
                      have c14 := c13.trans (b14.mono c13.size)
                      go_wp2_with fail
                      refine (K4.out _ c14).mono ?_
                      rintro e w15 ⟨rfl, b15⟩
                      have c15 := c14.trans (b15.mono c14.size)
                      go_wp2_with fail
                      refine (K5.out _ c15).mono ?_
                      rintro e w16 ⟨rfl, b16⟩
                      have c16 := c15.trans (b16.mono c15.size)
                      go_wp2
                      go_ret
                      exact ⟨rfl, c16⟩

end Go.Proofs.YtmodhjbkgohoiaaDoor
