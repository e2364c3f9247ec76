/- The reference's Parts; the marks. -/
import Derived.Test.YtmodhjbkgohoiaaDoorNmTexts
import Derived.Laws.Concat
import Derived.Laws.BytesString
import Derived.Laws.BytesArg
import Derived.WalkLawsBesides
import Derived.WalkSpells
namespace Go.Proofs.YtmodhjbkgohoiaaDoor
open Go.RowKit Go.Proofs.NmPlain
set_option linter.unusedVariables false

theorem conv_five (w : World) (x0 x1 x2 x3 x4 : Int) : (convert 45 9 (.slice (some ⟨w.heap.size, 0, none⟩) 5 5)).run Tryd.prog (w.alloc (.cells #[.int .u8 x0, .int .u8 x1, .int .u8 x2, .int .u8 x3, .int .u8 x4] 5)) = .ok (.string (strOfNums [x0, x1, x2, x3, x4])) (w.alloc (.cells #[.int .u8 x0, .int .u8 x1, .int .u8 x2, .int .u8 x3, .int .u8 x4] 5)) :=
  run_convert_bytes_arg (w.alloc (.cells #[.int .u8 x0, .int .u8 x1, .int .u8 x2, .int .u8 x3, .int .u8 x4] 5)) 45 5 Tryd.underlying45 Tryd.underlying5 w.heap.size 0 5 5 [x0, x1, x2, x3, x4] rfl (fun i hi => by
    match i, hi with
    | 0, _ => simp
    | 1, _ => simp
    | 2, _ => simp
    | 3, _ => simp
    | 4, _ => simp) 9 Tryd.underlying9

/-- A mark. -/
def markB (k i : Nat) : ByteArray := strOfNums [35, (k : Int) % 256, (k : Int) / 256 % 256, (i : Int) % 256, (i : Int) / 256 % 256]

set_option maxHeartbeats 1000000 in
theorem markText_any (k i : Nat) (hk : (k : Int) < 1099511627776) (hi : (i : Int) < 1099511627776) (w : World) :
    Calls Tryd.prog 31 #[.int .i64 k, .int .i64 i] w fun e w' => e = .returned (.string (markB k i)) ∧ Below w.heap.size w w' := by
  have hcv := conv_five w 35 ((k : Int) % 256) ((k : Int) / 256 % 256) ((i : Int) % 256) ((i : Int) / 256 % 256)
  have hbl : Below w.heap.size w (w.alloc (.cells #[.int .u8 35, .int .u8 ((k : Int) % 256), .int .u8 ((k : Int) / 256 % 256), .int .u8 ((i : Int) % 256), .int .u8 ((i : Int) / 256 % 256)] 5)) := (Below.refl _ _).alloc (Nat.le_refl _) _
  go_enter Tryd.func31, Tryd.ntmps31
  go_wp2
  go_ret
  exact ⟨rfl, hbl⟩

set_option maxHeartbeats 1000000 in
theorem markTexts_any (k i : Nat) (hk : (k : Int) < 1099511627776) (hi : (i : Int) < 1099511627776) (w : World) :
    Calls Tryd.prog 25 #[.int .i64 k, .int .i64 i] w fun e w' => e = .returned (.string (markB k i)) ∧ Below w.heap.size w w' := by
  have hm := Lib.hid (markText_any k i hk hi w)
  clear hk hi
  go_enter Tryd.func25, Tryd.ntmps25
  go_wp2_with fail
  refine hm.out.mono ?_
  rintro e w1 ⟨rfl, hb⟩
  go_wp2
  go_ret
  exact ⟨rfl, hb⟩

/-- The parts of a text, as a list. -/
def PartList (q : Bool) (s : ByteArray) (v : Value) (w : World) : Prop := ∃ ps : List ByteArray, TextList w v ps ∧ ps.map (·.data.toList) = if q then split s.data.toList else []

set_option maxHeartbeats 1000000 in
/-- The reference's Parts. -/
theorem refparts_any (s : ByteArray) (hs : s.size ≤ 16777216) (w : World) :
    Calls Tryd.prog 9 #[.string s] w fun e w' => ∃ v, e = .returned v ∧ PartList (dotB s.data.toList) s v w' ∧ Below w.heap.size w w' := by
  have d1 := refdotted_any s hs w
  obtain ⟨x, hx⟩ : ∃ x, x = dotB s.data.toList := ⟨_, rfl⟩
  rw [← hx] at d1 ⊢
  have D1 := Lib.hid d1; clear d1 hx
  cases x
  · go_enter Tryd.func9, Tryd.ntmps9
    go_wp2_with fail
    refine D1.out.mono ?_
    rintro e w1 ⟨rfl, hb1⟩
    go_wp2
    go_ret
    exact ⟨_, rfl, ⟨[], ⟨none, 0, rfl, fun j hj => absurd hj (Nat.not_lt_zero _)⟩, rfl⟩, hb1⟩
  · go_enter Tryd.func9, Tryd.ntmps9
    go_wp2_with fail
    refine D1.out.mono ?_
    rintro e w1 ⟨rfl, hb1⟩
    go_wp2_with fail
    refine (pieces_any s w1 hs).mono ?_
    rintro e w2 ⟨v, ps, rfl, hp, hpl, ho, hb2⟩
    have hne : 0 < ps.length := by have := split_ne s.data.toList; rw [← hp] at this; simpa [List.length_pos_iff] using this
    have hl := Lib.hid (own_list ho hne)
    have HP := Lib.hid hp
    clear ho hp hpl hne
    go_wp2
    go_ret
    exact ⟨v, rfl, ⟨ps, hl.out, HP.out⟩, hb1.trans (hb2.mono hb1.size)⟩

end Go.Proofs.YtmodhjbkgohoiaaDoor
