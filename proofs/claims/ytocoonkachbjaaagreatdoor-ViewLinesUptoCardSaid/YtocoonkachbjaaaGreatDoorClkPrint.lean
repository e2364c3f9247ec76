/- clock.Print: what it hands back, of any number of ticks. -/
import Derived.Test.YtocoonkachbjaaaGreatDoorClk
import Derived.Test.YtocoonkachbjaaaGreatDoorBuf
import Derived.Laws.Rows
import Derived.Lib.ItoaLen
namespace Go.Proofs.YtocoonkachbjaaaGreatDoor
open Go.RowKit
set_option linter.unusedVariables false

def worthOf : Nat → Int
  | 0 => 86400
  | 1 => 3600
  | 2 => 60
  | _ => 1
def letterOf : Nat → Int
  | 0 => 100
  | 1 => 104
  | 2 => 109
  | _ => 115
def mostOf : Nat → Int
  | 0 => 1099511627777
  | 1 => 23
  | _ => 59
/-- What is left ahead of part k. -/
def remAt (t : Int) : Nat → Int
  | 0 => t
  | k + 1 => remAt t k % worthOf k
def dpart (n c : Int) : List UInt8 := if 0 < n then Lib.itoa n ++ [UInt8.ofNat c.toNat] else []
/-- What has been written ahead of part k. -/
def accAt (t : Int) : Nat → List UInt8
  | 0 => []
  | k + 1 => accAt t k ++ dpart (remAt t k / worthOf k) (letterOf k)
/-- A number of ticks as a text. -/
def prt (t : Int) : List UInt8 := if t = 0 then [48, 115] else accAt t 4

theorem worth_pos (k : Nat) : 1 ≤ worthOf k ∧ worthOf k ≤ 86400 := by
  match k with
  | 0 => simp [worthOf]
  | 1 => simp [worthOf]
  | 2 => simp [worthOf]
  | k + 3 => simp [worthOf]

theorem letter_bd (k : Nat) : 0 ≤ letterOf k ∧ letterOf k ≤ 127 := by
  match k with
  | 0 => simp [letterOf]
  | 1 => simp [letterOf]
  | 2 => simp [letterOf]
  | k + 3 => simp [letterOf]

theorem remAt_bd (t : Int) (h0 : 0 ≤ t) (h1 : t ≤ 1099511627776) : ∀ k, 0 ≤ remAt t k ∧ remAt t k ≤ 1099511627776
  | 0 => ⟨h0, h1⟩
  | k + 1 => by
    obtain ⟨a, b⟩ := remAt_bd t h0 h1 k
    obtain ⟨c, d⟩ := worth_pos k
    unfold remAt
    have e1 := Int.emod_nonneg (remAt t k) (show worthOf k ≠ 0 by omega)
    have e2 := Int.emod_lt_of_pos (remAt t k) (show 0 < worthOf k by omega)
    omega

/-- The table of the parts, as the program's text lays it. -/
def partsCells : Array Value := #[.int .u8 100, .int .i64 86400, .int .i64 1099511627777, .int .u8 104, .int .i64 3600, .int .i64 23, .int .u8 109, .int .i64 60, .int .i64 59, .int .u8 115, .int .i64 1, .int .i64 59]
def PartsAt (w : World) : Prop := ∃ t fr, w.heap[0]? = some (.cells partsCells t fr)

theorem PartsAt.lt {w : World} (h : PartsAt w) : 0 < w.heap.size := by
  obtain ⟨t, fr, h⟩ := h; exact (Array.getElem?_eq_some_iff.1 h).1

theorem print_no (t : Int) (h : tm t = false) (w : World) :
    Calls Tryz.prog 26 #[.int .i64 t] w fun e w' => e = .returned (.tuple #[.string ⟨#[]⟩, .iface 55 (.int .i64 12)]) ∧ w = w' := by
  go_enter Tryz.func26, Tryz.ntmps26
  go_wp2_with (go_at_call 66; refine (time_any _ _).mono ?_; rintro e w' ⟨rfl, rfl⟩)
  go_ret2
  exact ⟨rfl, rfl⟩

theorem print_zero (w : World) :
    Calls Tryz.prog 26 #[.int .i64 0] w fun e w' => e = .returned (.tuple #[.string ⟨(prt 0).toArray⟩, .nilIface]) ∧ w = w' := by
  have h : tm 0 = true := rfl
  go_enter Tryz.func26, Tryz.ntmps26
  go_wp2_with (go_at_call 66; refine (time_any _ _).mono ?_; rintro e w' ⟨rfl, rfl⟩)
  go_ret2
  exact ⟨rfl, rfl⟩

set_option maxRecDepth 100000 in
theorem part_index (k : Nat) (hk : k < 4) : ∀ w, (Instr.index 113 (.agg partsCells) (.int .i64 (k : Int))).run Tryz.prog w = .ok (.agg #[.int .u8 (letterOf k), .int .i64 (worthOf k), .int .i64 (mostOf k)]) w := by
  match k, hk with
  | 0, _ => exact fun w => by kernel_rfl
  | 1, _ => exact fun w => by kernel_rfl
  | 2, _ => exact fun w => by kernel_rfl
  | 3, _ => exact fun w => by kernel_rfl

set_option maxHeartbeats 2000000 in
theorem print_yes (t : Int) (h : tm t = true) (hne : t ≠ 0) (w : World) (hp : PartsAt w) (htab : Lib.TabIs Tryz.prog w "internal/strconv.uint64pow10" .u64 Lib.pow10Tab) :
    Calls Tryz.prog 26 #[.int .i64 t] w fun e w' => e = .returned (.tuple #[.string ⟨(prt t).toArray⟩, .nilIface]) ∧ Below w.heap.size w w' := by
  obtain ⟨b0, b1⟩ := tm_yes h
  have hq : (t == 0) = false := by rw [beq_eq_false_iff_ne]; exact hne
  have hplt := hp.lt
  obtain ⟨pt, fr, hpt⟩ := hp
  have HT := Lib.hid htab; clear htab
  go_enter Tryz.func26, Tryz.ntmps26
  go_wp2_with (first | (go_at_call 66; refine (time_any _ _).mono ?_; rintro e w' ⟨rfl, rfl⟩) | (refine wpList_load_row rfl 113 _ rfl 0 rfl pt partsCells fr _ ?_ Tryz.underlying113 rfl (by kernel_rfl) ?_))
  · rw [Below.heap_alloc _ _ _ hplt]; exact hpt
  have hb0 : Lib.IsBuilderF 110 5 w.heap.size w.heap.size (Lib.byteCells (accAt t 0)) (w.alloc (.cells #[.pointer none, .slice none 0 0] 110)) := Lib.IsBuilderF.of (Lib.fresh_isBuilder 110 5 w)
  have hbl0 : Below w.heap.size w (w.alloc (.cells #[.pointer none, .slice none 0 0] 110)) := (Below.refl _ _).alloc (Nat.le_refl _) _
  go_loopw [0, 15] (fun r i wr => ∃ k : Nat, k ≤ 4 ∧ i = .int .i64 k ∧ r = .int .i64 (remAt t k) ∧ (accAt t k).length ≤ 24 * k ∧ Lib.IsBuilderF 110 5 w.heap.size w.heap.size (Lib.byteCells (accAt t k)) wr ∧ Below w.heap.size w wr) (fun _ i _ => 4 - (intOf i).toNat)
  case atStart => exact ⟨0, by omega, rfl, rfl, by simp [accAt], hb0, hbl0⟩
  case round =>
    obtain ⟨k, hk, rfl, rfl, hal, hbu, hbl⟩ := hrel
    clear hb0 hbl0
    by_cases hk4 : k < 4
    · have hix := part_index k hk4
      obtain ⟨c1, c2⟩ := worth_pos k
      obtain ⟨r1, r2⟩ := remAt_bd t b0 b1 k
      have hrs : remAt t (k + 1) = remAt t k % worthOf k := rfl
      have has : accAt t (k + 1) = accAt t k ++ dpart (remAt t k / worthOf k) (letterOf k) := rfl
      obtain ⟨W, hW⟩ : ∃ W, W = worthOf k := ⟨_, rfl⟩
      obtain ⟨R, hR⟩ : ∃ R, R = remAt t k := ⟨_, rfl⟩
      obtain ⟨c, hc⟩ : ∃ c, c = letterOf k := ⟨_, rfl⟩
      rw [← hW, ← hc] at hix
      rw [← hW] at c1 c2 hrs has
      rw [← hR] at r1 r2 hrs has ⊢
      rw [← hc] at has
      have HRS := Lib.hid hrs; have HAS := Lib.hid has
      have HCB : 0 ≤ c ∧ c ≤ 127 := by rw [hc]; exact letter_bd k
      obtain ⟨hc1, hc2⟩ := HCB
      clear hW hR hrs has hc
      have hdiv : 0 ≤ R / W := Int.ediv_nonneg r1 (by omega)
      have hdle : R / W ≤ R := Int.ediv_le_self _ r1
      by_cases hn : 0 < R / W
      · have hbr := hbl.size
        have hbw : w.heap.size < wr.heap.size := bF_lt hbu
        obtain ⟨HTR⟩ : Nonempty (Hid (Lib.TabIs Tryz.prog (wr.alloc (.cells #[.int .u8 c, .int .i64 W, .int .i64 (mostOf k)] 112)) "internal/strconv.uint64pow10" .u64 Lib.pow10Tab)) :=
          ⟨tab_below (g := 3) (by kernel_rfl) HT.out (tab_lt (by kernel_rfl) HT.out) (hbl.alloc hbr _)⟩
        go_wp2_with fail
        refine (itoa_below (R / W) (by omega) (by omega) _ HTR.out).mono ?_
        rintro e w1 ⟨rfl, hb1⟩
        have hbu1 := bF_below (hbu.alloc (.cells #[.int .u8 c, .int .i64 W, .int .i64 (mostOf k)] 112)) hb1
        have hpb : w1.heap[wr.heap.size]? = some (.cells #[.int .u8 c, .int .i64 W, .int .i64 (mostOf k)] 112 (0, 0)) := by
          rw [hb1.block _ (by simp)]; exact Ut.alloc_at _ _
        have hil : (Lib.itoa (R / W)).length ≤ 21 := Lib.itoa_length_le _ (by omega) (by omega)
        have HIL := Lib.hid hil
        go_wp2_with fail
        refine (Tryz.Builder_WriteString_k _ _ _ ⟨(Lib.itoa (R / W)).toArray⟩ _ hbu1 ?_ ?_).mono ?_
        · simp [Lib.byteCells_length, ByteArray.size]; omega
        · have := hb1.size; simp at this; omega
        rintro e w2 ⟨rfl, hbu2, hb2, hk2⟩
        have hpb2 := kept_cell hk2 hpb (by omega) (by decide)
        have hcl := cell_of_block hpb2 0
        have hcw := cell_of_block hpb2 1
        simp at hcl hcw
        clear hk2
        go_wp2_with fail
        refine (Tryz.Builder_WriteByte_k _ _ _ c _ (.inr hbu2) ?_ ?_).mono ?_
        · simp [Lib.byteCells_length, Lib.strCells_length, ByteArray.size]; omega
        · have h1 := hb1.size; have h2 := hb2.size; simp at h1; omega
        rintro e w3 ⟨rfl, hbu3, hb3, hk3⟩
        have hpb3 := kept_cell hk3 hpb2 (by omega) (by decide)
        have hcw3 := cell_of_block hpb3 1
        simp at hcw3
        clear hk3
        have hbf : Below w.heap.size w w3 := (((hbl.alloc hbr _).trans (hb1.mono (by simp; omega))).trans hb2).trans hb3
        go_wp2
        go_roundw
        case rel =>
          have ed : dpart (R / W) c = Lib.itoa (R / W) ++ [UInt8.ofNat c.toNat] := if_pos hn
          have ec : Lib.byteCells (accAt t k ++ (Lib.itoa (R / W) ++ [UInt8.ofNat c.toNat])) = Lib.byteCells (accAt t k) ++ Lib.strCells ⟨(Lib.itoa (R / W)).toArray⟩ ++ [.int .u8 c] := by
            simp [Lib.byteCells, Lib.strCells]; omega
          refine ⟨k + 1, by omega, by go_num, by rw [HRS.out], ?_, ?_, hbf⟩
          · rw [HAS.out, ed]; simp; omega
          · rw [HAS.out, ed]
            refine .inr ?_
            rw [ec]; exact hbu3
        case measure => simp [intOf]; omega
      · have hbr := hbl.size
        have hd0 : R / W = 0 := by omega
        have HD := Lib.hid hd0
        clear hd0
        go_wp2
        go_roundw
        case rel =>
          have ed : dpart (R / W) c = [] := if_neg (by omega)
          refine ⟨k + 1, by omega, by go_num, by rw [HRS.out], ?_, ?_, hbl.alloc hbr _⟩
          · rw [HAS.out, ed]; simp; omega
          · rw [HAS.out, ed, List.append_nil]; exact hbu.alloc _
        case measure => simp [intOf]; omega
    · obtain rfl : k = 4 := by omega
      have hbr := hbl.size
      have hpr : prt t = accAt t 4 := if_neg hne
      have HPR := Lib.hid hpr
      clear hpr
      go_wp2_with fail
      refine (Tryz.Builder_String_any_k _ _ (accAt t 4) _ hbu hbr).mono ?_
      rintro e w1 ⟨rfl, _, hb1, _⟩
      go_wp2
      go_ret2
      exact ⟨congrArg (fun l : List UInt8 => Ending.returned (Value.tuple #[Value.string ⟨l.toArray⟩, Value.nilIface])) HPR.out.symm, hbl.trans hb1⟩

end Go.Proofs.YtocoonkachbjaaaGreatDoor
