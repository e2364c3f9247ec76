/- strings.ContainsRune in the signs of a name, of every rune beyond ASCII. -/
import Derived.Test.YtocoonkachbjaaaGreatDoorRune
import Derived.Laws.RangeString
import Derived.Lib.OthersKept
import Derived.Lib.RangeT
namespace Go.Proofs.YtocoonkachbjaaaGreatDoor
open Go.RowKit
set_option linter.unusedVariables false

theorem signs_ascii : ∀ p : Fin 12, ((⟨#[48, 49, 50, 51, 52, 53, 54, 55, 56, 57, 45, 95]⟩ : ByteArray).data.toList[p.val]'(p.isLt)).toNat < 128 := by decide

def SRel (w : World) (wr : World) : Prop := ∃ p : Nat, p ≤ 12 ∧ wr.heap[w.heap.size]? = some (.stringIter ⟨#[48, 49, 50, 51, 52, 53, 54, 55, 56, 57, 45, 95]⟩ p) ∧ Below w.heap.size w wr

set_option maxRecDepth 100000 in
set_option maxHeartbeats 1000000 in
theorem indexRune_err (w : World) :
    Calls Tryz.prog 102 #[.string ⟨#[48, 49, 50, 51, 52, 53, 54, 55, 56, 57, 45, 95]⟩, .int .i32 65533] w fun e w' => e = .returned (.int .i64 (-1)) ∧ Below w.heap.size w w' := by
  go_enter Tryz.func102, Tryz.ntmps102
  go_wp2
  go_loopw [5, 6] (fun _ _ wr => SRel w wr) (fun _ _ wr => 12 - wr.iterPos w.heap.size)
  case atStart => exact ⟨0, by omega, World.iter_heap _ _ _, (Below.refl _ _).alloc (Nat.le_refl _) _⟩
  case round =>
    obtain ⟨p, hp, hit, hbw⟩ := hrel
    have hsz : w.heap.size < wr.heap.size := (Array.getElem?_eq_some_iff.1 hit).1
    by_cases h : p < 12
    · have hb : p < (⟨#[48, 49, 50, 51, 52, 53, 54, 55, 56, 57, 45, 95]⟩ : ByteArray).size := h
      have ha : ((⟨#[48, 49, 50, 51, 52, 53, 54, 55, 56, 57, 45, 95]⟩ : ByteArray)[p]'hb).toNat < 128 := signs_ascii ⟨p, h⟩
      obtain ⟨c, hc⟩ : ∃ c, c = ((⟨#[48, 49, 50, 51, 52, 53, 54, 55, 56, 57, 45, 95]⟩ : ByteArray)[p]'hb).toNat := ⟨_, rfl⟩
      have hnx : ∀ ty, (Instr.next (.pointer (some ⟨w.heap.size, 0, none⟩)) true ty).run Tryz.prog wr = .ok (.tuple #[.bool true, .int .i64 p, .int .i32 c]) (wr.iterAt w.heap.size ⟨#[48, 49, 50, 51, 52, 53, 54, 55, 56, 57, 45, 95]⟩ (p + 1)) := fun ty => by
        have := Lib.run_next_any_at (P := Tryz.prog) (ty := ty) wr w.heap.size ⟨#[48, 49, 50, 51, 52, 53, 54, 55, 56, 57, 45, 95]⟩ p hit hb
        rw [decode_ascii _ _ hb ha, ← hc] at this
        exact this
      rw [← hc] at ha
      have q : ((c : Int) == 65533) = false := by rw [beq_eq_false_iff_ne]; omega
      have hit2 := Lib.iterAt_heap wr w.heap.size _ p (p + 1) hit
      have hbw2 := Lib.below_iterAt hbw (k := w.heap.size) (by omega) ⟨#[48, 49, 50, 51, 52, 53, 54, 55, 56, 57, 45, 95]⟩ (p + 1)
      clear hc hb
      go_wp2
      go_roundw
      case rel => exact ⟨p + 1, by omega, hit2, hbw2⟩
      case measure =>
        simp only [World.iterPos, hit2, hit]
        omega
    · have hnx : ∀ ty, (Instr.next (.pointer (some ⟨w.heap.size, 0, none⟩)) true ty).run Tryz.prog wr = _ := fun ty => Lib.run_next_end_at wr w.heap.size ⟨#[48, 49, 50, 51, 52, 53, 54, 55, 56, 57, 45, 95]⟩ p ty hit h
      go_wp2
      go_ret
      exact ⟨rfl, hbw⟩

/-- Of every rune beyond ASCII: it is no sign of a name. -/
theorem containsRune_high (r : Int) (h0 : 128 ≤ r) (hv : Utf8.valid r = true) (w : World) :
    Calls Tryz.prog 62 #[.string ⟨#[48, 49, 50, 51, 52, 53, 54, 55, 56, 57, 45, 95]⟩, .int .i32 r] w fun e w' => e = .returned (.bool false) ∧ Below w.heap.size w w' := by
  have hix : Calls Tryz.prog 102 #[.string ⟨#[48, 49, 50, 51, 52, 53, 54, 55, 56, 57, 45, 95]⟩, .int .i32 r] w fun e w' => e = .returned (.int .i64 (-1)) ∧ Below w.heap.size w w' := by
    have q : ∀ W : World, (∃ n, W = w.drewN n) → Below w.heap.size w W := fun W ⟨n, h⟩ => by rw [h]; exact Ut.below_drewN (Below.refl _ _) _
    by_cases he : r = 65533
    · subst he; exact indexRune_err w
    · by_cases h2 : r < 2048
      · exact (indexRune_two r h0 h2 w).mono fun e W ⟨a, b⟩ => ⟨a, q W b⟩
      · by_cases h3 : r < 65536
        · exact (indexRune_three r (by omega) h3 he hv w).mono fun e W ⟨a, b⟩ => ⟨a, q W b⟩
        · exact (indexRune_four r (by omega) hv w).mono fun e W ⟨a, b⟩ => ⟨a, q W b⟩
  have HIX := Lib.hid hix
  clear hix
  go_enter Tryz.func62, Tryz.ntmps62
  go_wp2_with fail
  refine HIX.out.mono ?_
  rintro e w1 ⟨rfl, hb⟩
  go_wp2
  go_ret
  exact ⟨rfl, hb⟩

/-- Of every ASCII rune: is it one of the signs? -/
def isSign (c : Nat) : Bool := (48 ≤ c && c ≤ 57) || c == 45 || c == 95
theorem sign_ix : ∀ c : Fin 128, decide (0 ≤ Lib.indexByte [48, 49, 50, 51, 52, 53, 54, 55, 56, 57, 45, 95] (UInt8.ofNat c.val)) = isSign c.val := by decide +kernel
theorem containsRune_ascii (c : Nat) (h : c < 128) (w : World) :
    Calls Tryz.prog 62 #[.string ⟨#[48, 49, 50, 51, 52, 53, 54, 55, 56, 57, 45, 95]⟩, .int .i32 c] w fun e w' => e = .returned (.bool (isSign c)) ∧ w' = w := by
  have e := Tryz.strings_ContainsRune_ascii ⟨#[48, 49, 50, 51, 52, 53, 54, 55, 56, 57, 45, 95]⟩ c w (by omega) (by omega)
  have e2 : decide (0 ≤ Lib.indexByte (⟨#[48, 49, 50, 51, 52, 53, 54, 55, 56, 57, 45, 95]⟩ : ByteArray).data.toList (c : Int).toNat.toUInt8) = isSign c := sign_ix ⟨c, h⟩
  rw [e2] at e
  exact e

end Go.Proofs.YtocoonkachbjaaaGreatDoor
