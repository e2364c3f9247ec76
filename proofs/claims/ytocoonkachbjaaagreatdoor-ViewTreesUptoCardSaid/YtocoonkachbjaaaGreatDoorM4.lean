/- Several texts in one: what each proves its own first comment says. -/
import Derived.Test.YtocoonkachbjaaaGreatDoorM1
import Derived.Test.YtocoonkachbjaaaGreatDoorM2
import Derived.WalkLawsBesides
import Derived.WalkSpells
import Derived.BigQuiet
import Derived.Deep.QuietTactic
import Derived.Laws.Runes
import Derived.Laws.RangeAny
import Derived.Laws.RangeString
import Derived.Lib.OthersKept
import Derived.Lib.RangeT
import Derived.Lib.IndexMore
import Derived.Lib.CutLaws
import Derived.Lib.PathFns
import GoSem.Op.String

/- strings.ContainsRune in the signs of a name, of every rune. -/
namespace Go.Proofs.YtocoonkachbjaaaGreatDoor
open Go.RowKit
set_option linter.unusedVariables false

/-- The signs of a name besides letters. -/
def signs : ByteArray := ⟨#[48, 49, 50, 51, 52, 53, 54, 55, 56, 57, 45, 95]⟩

theorem enc_two (r : Int) (h1 : 128 ≤ r) (h2 : r < 2048) : ∃ x y : UInt8, Utf8.encode r = ⟨#[x, y]⟩ ∧ 128 ≤ y.toNat := by
  have hv : Utf8.valid r = true := by simp [Utf8.valid]; omega
  refine ⟨UInt8.ofNat (0xC0 + r.toNat / 64), UInt8.ofNat (0x80 + r.toNat % 64), ?_, by simp; omega⟩
  unfold Utf8.encode; rw [hv]; simp only [if_true]; rw [if_neg (by omega), if_pos (by omega)]
theorem enc_three (r : Int) (h1 : 2048 ≤ r) (h2 : r < 65536) (hv : Utf8.valid r = true) : ∃ x y z : UInt8, Utf8.encode r = ⟨#[x, y, z]⟩ ∧ 128 ≤ z.toNat := by
  refine ⟨UInt8.ofNat (0xE0 + r.toNat / 4096), UInt8.ofNat (0x80 + r.toNat / 64 % 64), UInt8.ofNat (0x80 + r.toNat % 64), ?_, by simp; omega⟩
  unfold Utf8.encode; rw [hv]; simp only [if_true]; rw [if_neg (by omega), if_neg (by omega), if_pos (by omega)]
theorem enc_four (r : Int) (h1 : 65536 ≤ r) (hv : Utf8.valid r = true) : ∃ x y z u : UInt8, Utf8.encode r = ⟨#[x, y, z, u]⟩ ∧ 128 ≤ u.toNat := by
  refine ⟨UInt8.ofNat (0xF0 + r.toNat / 262144), UInt8.ofNat (0x80 + r.toNat / 4096 % 64), UInt8.ofNat (0x80 + r.toNat / 64 % 64), UInt8.ofNat (0x80 + r.toNat % 64), ?_, by simp; omega⟩
  unfold Utf8.encode; rw [hv]; simp only [if_true]; rw [if_neg (by omega), if_neg (by omega), if_neg (by omega)]

theorem indexByte_high (l : List UInt8) (c : UInt8) (h : ∀ b ∈ l, b.toNat < 128) (hc : 128 ≤ c.toNat) : Lib.indexByte l c = -1 := by
  induction l with
  | nil => rfl
  | cons b l ih =>
    have hb := h b (by simp)
    have hne : ¬ b = c := fun e => by rw [e] at hb; omega
    have := ih (fun x hx => h x (by simp [hx]))
    unfold Lib.indexByte
    simp [hne, this]

/-- strings.IndexByte of a byte beyond ASCII in an ASCII text. -/
theorem indexByte_none (S : ByteArray) (y : UInt8) (hy : 128 ≤ y.toNat) (hS : (S.data.toList.all fun b => decide (b.toNat < 128)) = true) (w : World) :
    Calls Tryz.prog 117 #[.string S, .int .u8 y.toNat] w fun e w' => e = .returned (.int .i64 (-1)) ∧ w' = w := by
  have h := Tryz.strings_IndexByte S y.toNat w
  rw [show Lib.indexByte S.data.toList (y.toNat : Int).toNat.toUInt8 = -1 from indexByte_high _ _ (fun b hb => of_decide_eq_true (List.all_eq_true.1 hS b hb)) (by simpa using hy)] at h
  exact h

set_option maxRecDepth 100000 in
set_option maxHeartbeats 1000000 in
theorem indexRune_two (r : Int) (h1 : 128 ≤ r) (h2 : r < 2048) (w : World) :
    Calls Tryz.prog 102 #[.string ⟨#[48, 49, 50, 51, 52, 53, 54, 55, 56, 57, 45, 95]⟩, .int .i32 r] w fun e w' => e = .returned (.int .i64 (-1)) ∧ ∃ n, w' = w.drewN n := by
  obtain ⟨x, y, hR, hy⟩ := enc_two r h1 h2
  have q1 : (r == 65533) = false := by rw [beq_eq_false_iff_ne]; omega
  have hvr : Lib.validRune r = true := by simp [Lib.validRune]; omega
  have hcv : ∀ w, (convert 21 9 (.int .i32 r)).run Tryz.prog w = .ok (.string ⟨#[x, y]⟩) w := fun w => by
    rw [← hR]; exact run_convert_int_string w _ _ _ _ (by rw [Tryz.underlying21]; rfl) Tryz.underlying9
  have q2 : (((⟨#[48, 49, 50, 51, 52, 53, 54, 55, 56, 57, 45, 95]⟩ : ByteArray)[1].toNat : Int) != (((⟨#[x, y]⟩ : ByteArray)[1]'(by show 1 < 2; decide)).toNat : Int)) = true := by
    show ((49 : Int) != (y.toNat : Int)) = true
    rw [bne_iff_ne]; omega
  have h0 : 128 ≤ r := by omega
  have HVR := Lib.hid hvr
  clear hvr hR
  go_enter Tryz.func102, Tryz.ntmps102
  go_wp2_with (go_at_call 118; refine (Tryz.utf8_ValidRune r _).mono ?_; rintro e w' ⟨rfl, rfl⟩; rw [HVR.out])
  go_step3
  go_wp2_with fail
  refine wp_loop_rounds 1 ?_
  rw [rounds_succ]
  go_wp2_with fail
  go_step3
  go_wp2_with fail
  go_quiet (fail)
  go_wp2_with fail
  generalize hw2 : w'.drewN _ = w2
  have HW2 := Lib.hid hw2
  clear hw2
  go_quiet ((go_at_call 117; exact Calls.quiet_of_same (indexByte_none _ y hy (by decide) _)))
  go_wp2
  rw [Exit.noGoto_ret]
  go_wp2
  rw [Exit.noGoto_ret]
  go_ret
  exact ⟨rfl, _, by rw [← HW2.out, World.drewN_drewN]⟩

set_option maxRecDepth 100000 in
set_option maxHeartbeats 1000000 in
theorem indexRune_three (r : Int) (h1 : 2048 ≤ r) (h2 : r < 65536) (h3 : r ≠ 65533) (hv : Utf8.valid r = true) (w : World) :
    Calls Tryz.prog 102 #[.string ⟨#[48, 49, 50, 51, 52, 53, 54, 55, 56, 57, 45, 95]⟩, .int .i32 r] w fun e w' => e = .returned (.int .i64 (-1)) ∧ ∃ n, w' = w.drewN n := by
  obtain ⟨x, y, z, hR, hy⟩ := enc_three r h1 h2 hv
  have q1 : (r == 65533) = false := by rw [beq_eq_false_iff_ne]; omega
  have hvr : Lib.validRune r = true := by simp [Utf8.valid] at hv; simp [Lib.validRune]; omega
  have hcv : ∀ w, (convert 21 9 (.int .i32 r)).run Tryz.prog w = .ok (.string ⟨#[x, y, z]⟩) w := fun w => by
    rw [← hR]; exact run_convert_int_string w _ _ _ _ (by rw [Tryz.underlying21]; rfl) Tryz.underlying9
  have q2 : (((⟨#[48, 49, 50, 51, 52, 53, 54, 55, 56, 57, 45, 95]⟩ : ByteArray)[2].toNat : Int) != (((⟨#[x, y, z]⟩ : ByteArray)[2]'(by show 2 < 3; decide)).toNat : Int)) = true := by
    show ((50 : Int) != (z.toNat : Int)) = true
    rw [bne_iff_ne]; omega
  have h0 : 128 ≤ r := by omega
  have HVR := Lib.hid hvr
  clear hvr hR
  go_enter Tryz.func102, Tryz.ntmps102
  go_wp2_with (go_at_call 118; refine (Tryz.utf8_ValidRune r _).mono ?_; rintro e w' ⟨rfl, rfl⟩; rw [HVR.out])
  go_step3
  go_wp2_with fail
  refine wp_loop_rounds 1 ?_
  rw [rounds_succ]
  go_wp2_with fail
  go_step3
  go_wp2_with fail
  go_quiet (fail)
  go_wp2_with fail
  generalize hw2 : w'.drewN _ = w2
  have HW2 := Lib.hid hw2
  clear hw2
  go_quiet ((go_at_call 117; exact Calls.quiet_of_same (indexByte_none _ z hy (by decide) _)))
  go_wp2
  rw [Exit.noGoto_ret]
  go_wp2
  rw [Exit.noGoto_ret]
  go_ret
  exact ⟨rfl, _, by rw [← HW2.out, World.drewN_drewN]⟩

set_option maxRecDepth 100000 in
set_option maxHeartbeats 1000000 in
theorem indexRune_four (r : Int) (h1 : 65536 ≤ r) (hv : Utf8.valid r = true) (w : World) :
    Calls Tryz.prog 102 #[.string ⟨#[48, 49, 50, 51, 52, 53, 54, 55, 56, 57, 45, 95]⟩, .int .i32 r] w fun e w' => e = .returned (.int .i64 (-1)) ∧ ∃ n, w' = w.drewN n := by
  obtain ⟨x, y, z, u, hR, hy⟩ := enc_four r h1 hv
  have q1 : (r == 65533) = false := by rw [beq_eq_false_iff_ne]; omega
  have hvr : Lib.validRune r = true := by simp [Utf8.valid] at hv; simp [Lib.validRune]; omega
  have hcv : ∀ w, (convert 21 9 (.int .i32 r)).run Tryz.prog w = .ok (.string ⟨#[x, y, z, u]⟩) w := fun w => by
    rw [← hR]; exact run_convert_int_string w _ _ _ _ (by rw [Tryz.underlying21]; rfl) Tryz.underlying9
  have q2 : (((⟨#[48, 49, 50, 51, 52, 53, 54, 55, 56, 57, 45, 95]⟩ : ByteArray)[3].toNat : Int) != (((⟨#[x, y, z, u]⟩ : ByteArray)[3]'(by show 3 < 4; decide)).toNat : Int)) = true := by
    show ((51 : Int) != (u.toNat : Int)) = true
    rw [bne_iff_ne]; omega
  have h0 : 128 ≤ r := by omega
  have HVR := Lib.hid hvr
  clear hvr hR
  go_enter Tryz.func102, Tryz.ntmps102
  go_wp2_with (go_at_call 118; refine (Tryz.utf8_ValidRune r _).mono ?_; rintro e w' ⟨rfl, rfl⟩; rw [HVR.out])
  go_step3
  go_wp2_with fail
  refine wp_loop_rounds 1 ?_
  rw [rounds_succ]
  go_wp2_with fail
  go_step3
  go_wp2_with fail
  go_quiet (fail)
  go_wp2_with fail
  generalize hw2 : w'.drewN _ = w2
  have HW2 := Lib.hid hw2
  clear hw2
  go_quiet ((go_at_call 117; exact Calls.quiet_of_same (indexByte_none _ u hy (by decide) _)))
  go_wp2
  rw [Exit.noGoto_ret]
  go_wp2
  rw [Exit.noGoto_ret]
  go_ret
  exact ⟨rfl, _, by rw [← HW2.out, World.drewN_drewN]⟩


end Go.Proofs.YtocoonkachbjaaaGreatDoor

/- strings.ContainsRune in the signs of a name, of every rune beyond ASCII. -/
namespace Go.Proofs.YtocoonkachbjaaaGreatDoor
open Go.RowKit
set_option linter.unusedVariables false

theorem signs_ascii : ∀ p : Fin 12, ((⟨#[48, 49, 50, 51, 52, 53, 54, 55, 56, 57, 45, 95]⟩ : ByteArray).data.toList[p.val]'(p.isLt)).toNat < 128 := by decide

def SRel (w : World) (wr : World) : Prop := ∃ p : Nat, p ≤ 12 ∧ wr.heap[w.heap.size]? = some (.stringIter ⟨#[48, 49, 50, 51, 52, 53, 54, 55, 56, 57, 45, 95]⟩ p) ∧ Below w.heap.size w wr

set_option maxRecDepth 100000 in
set_option maxHeartbeats 1000000 in
theorem indexRune_err (w : World) :
    Calls Tryz.prog 102 #[.string ⟨#[48, 49, 50, 51, 52, 53, 54, 55, 56, 57, 45, 95]⟩, .int .i32 65533] w fun e w' => e = .returned (.int .i64 (-1)) ∧ Below w.heap.size w w' := by
  go_enter Tryz.func102, Tryz.ntmps102
  go_wp2
  go_loopw [5, 6] (fun _ _ wr => SRel w wr) (fun _ _ wr => 12 - wr.iterPos w.heap.size)
  case atStart => exact ⟨0, by omega, World.iter_heap _ _ _, (Below.refl _ _).alloc (Nat.le_refl _) _⟩
  case round =>
    obtain ⟨p, hp, hit, hbw⟩ := hrel
    have hsz : w.heap.size < wr.heap.size := (Array.getElem?_eq_some_iff.1 hit).1
    by_cases h : p < 12
    · have hb : p < (⟨#[48, 49, 50, 51, 52, 53, 54, 55, 56, 57, 45, 95]⟩ : ByteArray).size := h
      have ha : ((⟨#[48, 49, 50, 51, 52, 53, 54, 55, 56, 57, 45, 95]⟩ : ByteArray)[p]'hb).toNat < 128 := signs_ascii ⟨p, h⟩
      obtain ⟨c, hc⟩ : ∃ c, c = ((⟨#[48, 49, 50, 51, 52, 53, 54, 55, 56, 57, 45, 95]⟩ : ByteArray)[p]'hb).toNat := ⟨_, rfl⟩
      have hnx : ∀ ty, (Instr.next (.pointer (some ⟨w.heap.size, 0, none⟩)) true ty).run Tryz.prog wr = .ok (.tuple #[.bool true, .int .i64 p, .int .i32 c]) (wr.iterAt w.heap.size ⟨#[48, 49, 50, 51, 52, 53, 54, 55, 56, 57, 45, 95]⟩ (p + 1)) := fun ty => by
        have := Lib.run_next_any_at (P := Tryz.prog) (ty := ty) wr w.heap.size ⟨#[48, 49, 50, 51, 52, 53, 54, 55, 56, 57, 45, 95]⟩ p hit hb
        rw [decode_ascii _ _ hb ha, ← hc] at this
        exact this
      rw [← hc] at ha
      have q : ((c : Int) == 65533) = false := by rw [beq_eq_false_iff_ne]; omega
      have hit2 := Lib.iterAt_heap wr w.heap.size _ p (p + 1) hit
      have hbw2 := Lib.below_iterAt hbw (k := w.heap.size) (by omega) ⟨#[48, 49, 50, 51, 52, 53, 54, 55, 56, 57, 45, 95]⟩ (p + 1)
      clear hc hb
      go_wp2
      go_roundw
      case rel => exact ⟨p + 1, by omega, hit2, hbw2⟩
      case measure =>
        simp only [World.iterPos, hit2, hit]
        omega
    · have hnx : ∀ ty, (Instr.next (.pointer (some ⟨w.heap.size, 0, none⟩)) true ty).run Tryz.prog wr = _ := fun ty => Lib.run_next_end_at wr w.heap.size ⟨#[48, 49, 50, 51, 52, 53, 54, 55, 56, 57, 45, 95]⟩ p ty hit h
      go_wp2
      go_ret
      exact ⟨rfl, hbw⟩

/-- Of every rune beyond ASCII: it is no sign of a name. -/
theorem containsRune_high (r : Int) (h0 : 128 ≤ r) (hv : Utf8.valid r = true) (w : World) :
    Calls Tryz.prog 62 #[.string ⟨#[48, 49, 50, 51, 52, 53, 54, 55, 56, 57, 45, 95]⟩, .int .i32 r] w fun e w' => e = .returned (.bool false) ∧ Below w.heap.size w w' := by
  have hix : Calls Tryz.prog 102 #[.string ⟨#[48, 49, 50, 51, 52, 53, 54, 55, 56, 57, 45, 95]⟩, .int .i32 r] w fun e w' => e = .returned (.int .i64 (-1)) ∧ Below w.heap.size w w' := by
    have q : ∀ W : World, (∃ n, W = w.drewN n) → Below w.heap.size w W := fun W ⟨n, h⟩ => by rw [h]; exact Ut.below_drewN (Below.refl _ _) _
    by_cases he : r = 65533
    · subst he; exact indexRune_err w
    · by_cases h2 : r < 2048
      · exact (indexRune_two r h0 h2 w).mono fun e W ⟨a, b⟩ => ⟨a, q W b⟩
      · by_cases h3 : r < 65536
        · exact (indexRune_three r (by omega) h3 he hv w).mono fun e W ⟨a, b⟩ => ⟨a, q W b⟩
        · exact (indexRune_four r (by omega) hv w).mono fun e W ⟨a, b⟩ => ⟨a, q W b⟩
  have HIX := Lib.hid hix
  clear hix
  go_enter Tryz.func62, Tryz.ntmps62
  go_wp2_with fail
  refine HIX.out.mono ?_
  rintro e w1 ⟨rfl, hb⟩
  go_wp2
  go_ret
  exact ⟨rfl, hb⟩

/-- Of every ASCII rune: is it one of the signs? -/
def isSign (c : Nat) : Bool := (48 ≤ c && c ≤ 57) || c == 45 || c == 95
theorem sign_ix : ∀ c : Fin 128, decide (0 ≤ Lib.indexByte [48, 49, 50, 51, 52, 53, 54, 55, 56, 57, 45, 95] (UInt8.ofNat c.val)) = isSign c.val := by decide +kernel
theorem containsRune_ascii (c : Nat) (h : c < 128) (w : World) :
    Calls Tryz.prog 62 #[.string ⟨#[48, 49, 50, 51, 52, 53, 54, 55, 56, 57, 45, 95]⟩, .int .i32 c] w fun e w' => e = .returned (.bool (isSign c)) ∧ w' = w := by
  have e := Tryz.strings_ContainsRune_ascii ⟨#[48, 49, 50, 51, 52, 53, 54, 55, 56, 57, 45, 95]⟩ c w (by omega) (by omega)
  have e2 : decide (0 ≤ Lib.indexByte (⟨#[48, 49, 50, 51, 52, 53, 54, 55, 56, 57, 45, 95]⟩ : ByteArray).data.toList (c : Int).toNat.toUInt8) = isSign c := sign_ix ⟨c, h⟩
  rw [e2] at e
  exact e

end Go.Proofs.YtocoonkachbjaaaGreatDoor

/- The plain part of the names' comparison: a text cut at its dots, two lists of texts compared piece by piece. No program in sight. -/
namespace Go.Proofs.NmPlain

abbrev Bs := List UInt8

/-- The pieces of a text between its dots. -/
def split : Bs → List Bs
  | [] => [[]]
  | b :: l => if b = 46 then [] :: split l else match split l with
    | [] => [[b]]
    | p :: ps => (b :: p) :: ps

theorem split_ne (s : Bs) : split s ≠ [] := by
  cases s with
  | nil => simp [split]
  | cons b l => unfold split; split <;> (try simp); split <;> simp

theorem index_nil : Lib.index [] [46] = -1 := rfl

theorem index_dot (l : Bs) : Lib.index (46 :: l) [46] = 0 := by
  unfold Lib.index; rw [if_pos (by simp [List.isPrefixOf])]

theorem index_other (b : UInt8) (l : Bs) (h : b ≠ 46) : Lib.index (b :: l) [46] = if Lib.index l [46] = -1 then -1 else Lib.index l [46] + 1 := by
  rw [Lib.index, if_neg (by simp [List.isPrefixOf]; exact fun h' => h h'.symm)]
  by_cases c : Lib.index l [46] = -1
  · simp [c]
  · simp [c]

theorem split_none : ∀ s : Bs, Lib.index s [46] = -1 → split s = [s]
  | [], _ => rfl
  | b :: l, h => by
    by_cases hb : b = 46
    · subst hb; rw [index_dot] at h; cases h
    · rw [index_other b l hb] at h
      have hg := Lib.index_ge l [46]
      by_cases c : Lib.index l [46] = -1
      · rw [split, if_neg hb, split_none l c]
      · rw [if_neg c] at h; omega

theorem split_some : ∀ (s : Bs) (i : Nat), Lib.index s [46] = i → split s = s.take i :: split (s.drop (i + 1))
  | [], i, h => by rw [index_nil] at h; omega
  | b :: l, i, h => by
    by_cases hb : b = 46
    · subst hb; rw [index_dot] at h
      obtain rfl : i = 0 := by omega
      rw [split, if_pos rfl]; simp
    · rw [index_other b l hb] at h
      by_cases c : Lib.index l [46] = -1
      · rw [if_pos c] at h; omega
      · rw [if_neg c] at h
        obtain ⟨j, rfl⟩ : ∃ j, i = j + 1 := ⟨i - 1, by have := Lib.index_ge l [46]; omega⟩
        rw [split, if_neg hb, split_some l j (by omega)]
        simp

/-- What strings.Cut at a dot hands back, in the two ways. -/
def CutNo (s x : ByteArray) : Prop := x = s ∧ split s.data.toList = [s.data.toList]
def CutYes (s x r : ByteArray) : Prop := split s.data.toList = x.data.toList :: split r.data.toList ∧ r.size < s.size

theorem size_toList (s : ByteArray) : s.size = s.data.toList.length := Lib.size_eq s

theorem cut_says (s : ByteArray) : ((Lib.cut s.data.toList [46]).2.2 = false ∧ CutNo s ⟨(Lib.cut s.data.toList [46]).1.toArray⟩) ∨
    ((Lib.cut s.data.toList [46]).2.2 = true ∧ CutYes s ⟨(Lib.cut s.data.toList [46]).1.toArray⟩ ⟨(Lib.cut s.data.toList [46]).2.1.toArray⟩) := by
  have hg := Lib.index_ge s.data.toList [46]
  unfold Lib.cut
  by_cases c : 0 ≤ Lib.index s.data.toList [46]
  · rw [if_pos c]
    have hr := Lib.index_room s.data.toList [46] c
    have e := split_some s.data.toList (Lib.index s.data.toList [46]).toNat (by omega)
    refine .inr ⟨rfl, e, ?_⟩
    rw [size_toList, size_toList]
    simp at hr ⊢; omega
  · rw [if_neg c]
    exact .inl ⟨rfl, rfl, split_none _ (by omega)⟩

/-- Two texts, byte by byte. -/
def bcmp : Bs → Bs → Int
  | [], [] => 0
  | [], _ :: _ => -1
  | _ :: _, [] => 1
  | a :: s, b :: t => if a = b then bcmp s t else if a < b then -1 else 1

theorem bcmp_range : ∀ s t : Bs, bcmp s t = -1 ∨ bcmp s t = 0 ∨ bcmp s t = 1
  | [], [] => by simp [bcmp]
  | [], _ :: _ => by simp [bcmp]
  | _ :: _, [] => by simp [bcmp]
  | a :: s, b :: t => by
    unfold bcmp
    split
    · exact bcmp_range s t
    · split <;> simp

theorem bcmp_zero : ∀ s t : Bs, bcmp s t = 0 ↔ s = t
  | [], [] => by simp [bcmp]
  | [], _ :: _ => by simp [bcmp]
  | _ :: _, [] => by simp [bcmp]
  | a :: s, b :: t => by
    unfold bcmp
    by_cases h : a = b
    · rw [if_pos h, bcmp_zero s t]; simp [h]
    · rw [if_neg h]
      constructor
      · intro h'; split at h' <;> cases h'
      · intro h'; simp only [List.cons.injEq] at h'; exact absurd h'.1 h

theorem bytesLess_bcmp : ∀ s t : Bs, Op.bytesLess s t = decide (bcmp s t = -1)
  | [], [] => by simp [bcmp, Op.bytesLess]
  | [], _ :: _ => by simp [bcmp, Op.bytesLess]
  | _ :: _, [] => by simp [bcmp, Op.bytesLess]
  | a :: s, b :: t => by
    unfold bcmp Op.bytesLess
    by_cases h : a = b
    · subst h; rw [if_pos rfl, bytesLess_bcmp s t]; simp
    · rw [if_neg h]
      by_cases h2 : a < b
      · simp [h2]
      · rw [if_neg h2]; simp [h, h2]

/-- Two lists of texts, piece by piece. -/
def lcmp : List Bs → List Bs → Int
  | [], [] => 0
  | [], _ :: _ => -1
  | _ :: _, [] => 1
  | x :: xs, y :: ys => if bcmp x y = 0 then lcmp xs ys else bcmp x y

/-- Two texts, compared by their pieces. -/
def ncmp (a b : Bs) : Int := lcmp (split a) (split b)

theorem ncmp_part {a b x y : Bs} {xs ys : List Bs} (ha : split a = x :: xs) (hb : split b = y :: ys) (h : bcmp x y ≠ 0) : ncmp a b = bcmp x y := by
  unfold ncmp; rw [ha, hb, lcmp, if_neg h]
theorem ncmp_both {a b x y : Bs} (ha : split a = [x]) (hb : split b = [y]) (h : bcmp x y = 0) : ncmp a b = 0 := by
  unfold ncmp; rw [ha, hb, lcmp, if_pos h, lcmp]
theorem ncmp_left {a b x y : Bs} {ys : Bs} (ha : split a = [x]) (hb : split b = y :: split ys) (h : bcmp x y = 0) : ncmp a b = -1 := by
  unfold ncmp; rw [ha, hb, lcmp, if_pos h]
  have := split_ne ys
  cases h' : split ys with
  | nil => exact absurd h' this
  | cons _ _ => rfl
theorem ncmp_right {a b x y : Bs} {xs : Bs} (ha : split a = x :: split xs) (hb : split b = [y]) (h : bcmp x y = 0) : ncmp a b = 1 := by
  unfold ncmp; rw [ha, hb, lcmp, if_pos h]
  have := split_ne xs
  cases h' : split xs with
  | nil => exact absurd h' this
  | cons _ _ => rfl
theorem ncmp_next {a b x y : Bs} {xs ys : Bs} (ha : split a = x :: split xs) (hb : split b = y :: split ys) (h : bcmp x y = 0) : ncmp a b = ncmp xs ys := by
  unfold ncmp; rw [ha, hb, lcmp, if_pos h]

theorem split_len : ∀ (s : Bs), ∀ p ∈ split s, p.length ≤ s.length
  | [], p, h => by simp [split] at h; rw [h]; simp
  | b :: l, p, h => by
    unfold split at h
    split at h
    · rcases List.mem_cons.1 h with rfl | h'
      · simp
      · have := split_len l p h'; simp; omega
    · split at h
      · simp at h; rw [h]; simp
      · rename_i q qs hq
        rcases List.mem_cons.1 h with rfl | h'
        · have := split_len l q (by rw [hq]; simp); simp; omega
        · have := split_len l p (by rw [hq]; simp [h']); simp; omega

/-! ### the reference's own ways: the pieces gathered, one by one -/
def PInv (s : ByteArray) (done : List ByteArray) (j k : Nat) : Prop :=
  split s.data.toList = done.map (·.data.toList) ++ split (s.data.toList.drop j) ∧ (∀ c ∈ (s.data.toList.drop j).take (k - j), c ≠ 46) ∧ done.length ≤ j

theorem PInv.start (s : ByteArray) : PInv s [] 0 0 := ⟨by simp, by simp, by simp⟩

theorem split_app : ∀ (p q : Bs), (∀ c ∈ p, c ≠ 46) → split (p ++ 46 :: q) = p :: split q
  | [], q, _ => by simp [split]
  | b :: p, q, h => by
    have hb : b ≠ 46 := h b (by simp)
    rw [List.cons_append, split, if_neg hb, split_app p q (fun c hc => h c (by simp [hc]))]

theorem split_plain : ∀ (p : Bs), (∀ c ∈ p, c ≠ 46) → split p = [p]
  | [], _ => rfl
  | b :: p, h => by
    rw [split, if_neg (h b (by simp)), split_plain p (fun c hc => h c (by simp [hc]))]

theorem take_step (l : Bs) (j k : Nat) (hj : j ≤ k) (hk : k < l.length) : (l.drop j).take (k + 1 - j) = (l.drop j).take (k - j) ++ [l[k]] := by
  have e : k + 1 - j = (k - j) + 1 := by omega
  rw [e, List.take_succ_eq_append_getElem (by simp; omega)]
  congr 2
  simp; congr 1; omega

theorem PInv.other {s : ByteArray} {done : List ByteArray} {j k : Nat} (h : PInv s done j k) (hj : j ≤ k) (hk : k < s.size) (hc : s.data.toList[k]'(by rw [← size_toList]; exact hk) ≠ 46) : PInv s done j (k + 1) := by
  obtain ⟨h1, h2, h3⟩ := h
  refine ⟨h1, ?_, h3⟩
  rw [take_step _ _ _ hj (by rw [← size_toList]; exact hk)]
  intro c hcm
  rcases List.mem_append.1 hcm with h' | h'
  · exact h2 c h'
  · simp only [List.mem_singleton] at h'; rw [h']; exact hc

theorem extract_list (s : ByteArray) (j k : Nat) : (s.extract j k).data.toList = (s.data.toList.drop j).take (k - j) := by
  simp [ByteArray.data_extract, Array.toList_extract, List.extract_eq_take_drop]

theorem PInv.dot {s : ByteArray} {done : List ByteArray} {j k : Nat} (h : PInv s done j k) (hj : j ≤ k) (hk : k < s.size) (hc : s.data.toList[k]'(by rw [← size_toList]; exact hk) = 46) : PInv s (done ++ [s.extract j k]) (k + 1) (k + 1) := by
  obtain ⟨h1, h2, h3⟩ := h
  have hk' : k < s.data.toList.length := by rw [← size_toList]; exact hk
  have e : s.data.toList.drop j = (s.data.toList.drop j).take (k - j) ++ 46 :: s.data.toList.drop (k + 1) := by
    have e1 : (s.data.toList.drop j).drop (k - j) = 46 :: s.data.toList.drop (k + 1) := by
      rw [List.drop_drop, show j + (k - j) = k from by omega, List.drop_eq_getElem_cons hk', hc]
    rw [← e1, List.take_append_drop]
  refine ⟨?_, by simp, by simp; omega⟩
  rw [h1, e, split_app _ _ h2]
  simp

theorem PInv.last {s : ByteArray} {done : List ByteArray} {j : Nat} (h : PInv s done j s.size) : (done ++ [s.extract j s.size]).map (·.data.toList) = split s.data.toList := by
  obtain ⟨h1, h2, h3⟩ := h
  have e : (s.data.toList.drop j).take (s.size - j) = s.data.toList.drop j := List.take_of_length_le (by rw [size_toList]; simp)
  rw [e] at h2
  rw [h1, split_plain _ h2]
  simp [e]

/-- Two lists' comparison from a place on. -/
theorem lcmp_drop {xs ys : List Bs} {i : Nat} (hx : i < xs.length) (hy : i < ys.length) : lcmp (xs.drop i) (ys.drop i) = if bcmp xs[i] ys[i] = 0 then lcmp (xs.drop (i + 1)) (ys.drop (i + 1)) else bcmp xs[i] ys[i] := by
  rw [List.drop_eq_getElem_cons hx, List.drop_eq_getElem_cons hy, lcmp]

/-- Two texts' comparison from a place on. -/
theorem bcmp_drop {xs ys : Bs} {i : Nat} (hx : i < xs.length) (hy : i < ys.length) : bcmp (xs.drop i) (ys.drop i) = if xs[i] = ys[i] then bcmp (xs.drop (i + 1)) (ys.drop (i + 1)) else if xs[i] < ys[i] then -1 else 1 := by
  rw [List.drop_eq_getElem_cons hx, List.drop_eq_getElem_cons hy, bcmp]

theorem bcmp_end {xs ys : Bs} {i : Nat} (h : i = xs.length ∨ i = ys.length) (hx : i ≤ xs.length) (hy : i ≤ ys.length) : bcmp (xs.drop i) (ys.drop i) = if xs.length = ys.length then 0 else if xs.length < ys.length then -1 else 1 := by
  rcases Nat.lt_trichotomy xs.length ys.length with hl | hl | hl
  · obtain rfl : i = xs.length := by omega
    rw [List.drop_of_length_le (Nat.le_refl _), List.drop_eq_getElem_cons hl, if_neg (by omega), if_pos hl, bcmp]
  · obtain rfl : i = xs.length := by omega
    rw [List.drop_of_length_le (Nat.le_refl _), List.drop_of_length_le (by omega), if_pos hl, bcmp]
  · obtain rfl : i = ys.length := by omega
    rw [List.drop_of_length_le (Nat.le_refl ys.length), List.drop_eq_getElem_cons hl, if_neg (by omega), if_neg (by omega), bcmp]

theorem lcmp_end {xs ys : List Bs} {i : Nat} (h : i = xs.length ∨ i = ys.length) (hx : i ≤ xs.length) (hy : i ≤ ys.length) : lcmp (xs.drop i) (ys.drop i) = if xs.length = ys.length then 0 else if xs.length < ys.length then -1 else 1 := by
  rcases Nat.lt_trichotomy xs.length ys.length with hl | hl | hl
  · obtain rfl : i = xs.length := by omega
    rw [List.drop_of_length_le (Nat.le_refl _), List.drop_eq_getElem_cons hl, if_neg (by omega), if_pos hl, lcmp]
  · obtain rfl : i = xs.length := by omega
    rw [List.drop_of_length_le (Nat.le_refl _), List.drop_of_length_le (by omega), if_pos hl, lcmp]
  · obtain rfl : i = ys.length := by omega
    rw [List.drop_of_length_le (Nat.le_refl ys.length), List.drop_eq_getElem_cons hl, if_neg (by omega), if_neg (by omega), lcmp]

end Go.Proofs.NmPlain

/- names.Name and the reference's Name, of any text. -/
namespace Go.Proofs.YtocoonkachbjaaaGreatDoor
open Go.RowKit Go.Proofs.NmPlain
set_option linter.unusedVariables false

/-- May a byte stand at a place of a name? -/
def okAt (i : Nat) (b : UInt8) : Bool := (decide (97 ≤ b.toNat) && decide (b.toNat ≤ 122)) || (decide (i ≠ 0) && isSign b.toNat)
def nameAux : Nat → Bs → Bool
  | _, [] => true
  | i, b :: l => okAt i b && nameAux (i + 1) l
/-- Is a text a name? -/
def nameB (l : Bs) : Bool := decide (1 ≤ l.length ∧ l.length ≤ 32) && nameAux 0 l

theorem nameAux_drop {l : Bs} {p : Nat} (h : p < l.length) : nameAux p (l.drop p) = (okAt p l[p] && nameAux (p + 1) (l.drop (p + 1))) := by
  rw [List.drop_eq_getElem_cons h, nameAux]

theorem nameB_len {l : Bs} (h : ¬ (1 ≤ l.length ∧ l.length ≤ 32)) : nameB l = false := by unfold nameB; rw [decide_eq_false h]; rfl
theorem nameB_aux {l : Bs} (h : 1 ≤ l.length ∧ l.length ≤ 32) : nameB l = nameAux 0 l := by unfold nameB; rw [decide_eq_true h]; rfl

theorem isSign_high {c : Nat} (h : 128 ≤ c) : isSign c = false := by
  unfold isSign
  have a : decide (c ≤ 57) = false := by simp; omega
  have b : (c == 45) = false := by rw [beq_eq_false_iff_ne]; omega
  have d : (c == 95) = false := by rw [beq_eq_false_iff_ne]; omega
  rw [a, b, d]; simp

theorem okAt_letter {i : Nat} {b : UInt8} (h1 : 97 ≤ b.toNat) (h2 : b.toNat ≤ 122) : okAt i b = true := by simp [okAt, h1, h2]
theorem okAt_zero {b : UInt8} (h : b.toNat < 97 ∨ 122 < b.toNat) : okAt 0 b = false := by
  unfold okAt
  have : (decide (97 ≤ b.toNat) && decide (b.toNat ≤ 122)) = false := by
    rcases h with h | h
    · rw [decide_eq_false (by omega)]; rfl
    · rw [decide_eq_false (p := b.toNat ≤ 122) (by omega), Bool.and_false]
  rw [this]; simp
theorem okAt_sign {i : Nat} {b : UInt8} (hi : i ≠ 0) (h : b.toNat < 97 ∨ 122 < b.toNat) : okAt i b = isSign b.toNat := by
  unfold okAt
  have : (decide (97 ≤ b.toNat) && decide (b.toNat ≤ 122)) = false := by
    rcases h with h | h
    · rw [decide_eq_false (by omega)]; rfl
    · rw [decide_eq_false (p := b.toNat ≤ 122) (by omega), Bool.and_false]
  rw [this, decide_eq_true hi]; simp

theorem decode_valid (s : ByteArray) (p : Nat) (h : p < s.size) (ha : 128 ≤ (s[p]'h).toNat) : Utf8.valid ((Utf8.decode s p).1 : Int) = true := by
  unfold Utf8.decode
  dsimp only
  have hnot : ¬ (s.get! (p + 0)).toNat < 128 := by rw [get_at s p h]; omega
  rw [if_neg hnot]
  have hve : Utf8.valid ((Utf8.runeError : Nat) : Int) = true := by decide
  split
  · split
    · rename_i h1 h2
      have h3 : (s.get! (p + 0)).toNat % 32 < 32 := Nat.mod_lt _ (by omega)
      have h4 : (s.get! (p + 1)).toNat % 64 < 64 := Nat.mod_lt _ (by omega)
      generalize (s.get! (p + 0)).toNat % 32 = a at *
      generalize (s.get! (p + 1)).toNat % 64 = b at *
      simp only [Utf8.valid, Bool.or_eq_true, Bool.and_eq_true, decide_eq_true_eq]; left; constructor <;> omega
    · exact hve
  · split
    · split
      · rename_i h1 h2 h3
        simp only [Bool.and_eq_true] at h3; exact h3.2
      · exact hve
    · split
      · split
        · rename_i h1 h2 h3 h4
          simp only [Bool.and_eq_true] at h4; exact h4.2
        · exact hve
      · exact hve

/-- What the round knows: the rune at a place, and what the signs say of it. -/
structure RuneAt (s : ByteArray) (p : Nat) (h : p < s.size) (c d : Nat) (q : Bool) : Prop where
  dec : Utf8.decode s p = (c, d)
  pos : 1 ≤ d
  small : (s[p]'h).toNat < 97 → c < 97
  letter : 97 ≤ (s[p]'h).toNat → (s[p]'h).toNat ≤ 122 → 97 ≤ c ∧ c ≤ 122 ∧ d = 1
  great : 122 < (s[p]'h).toNat → 122 < c
  le : c ≤ 2147483647
  one : q = true → d = 1
  sign : isSign (s[p]'h).toNat = q
  says : ∀ W : World, Calls Tryz.prog 62 #[.string ⟨#[48, 49, 50, 51, 52, 53, 54, 55, 56, 57, 45, 95]⟩, .int .i32 c] W fun e w' => e = .returned (.bool q) ∧ Below W.heap.size W w'

theorem rune_at (s : ByteArray) (p : Nat) (h : p < s.size) : ∃ c d q, RuneAt s p h c d q := by
  by_cases ha : (s[p]'h).toNat < 128
  · have e := decode_ascii s p h ha
    refine ⟨_, _, isSign (s[p]'h).toNat, e, Nat.le_refl _, fun h => h, fun a b => ⟨a, b, rfl⟩, fun h => h, by omega, fun _ => rfl, rfl, fun W => ?_⟩
    exact (containsRune_ascii _ ha W).mono fun e w' ⟨a, b⟩ => ⟨a, by rw [b]; exact Below.refl _ _⟩
  · have hd := decode_high s p h (by omega)
    have hv := decode_valid s p h (by omega)
    refine ⟨(Utf8.decode s p).1, (Utf8.decode s p).2, false, rfl, hd.2, (fun h => by omega), (fun a b => by omega), (fun _ => by omega), decode_le s p, (fun h => by cases h), isSign_high (by omega), fun W => ?_⟩
    exact containsRune_high _ (by omega) hv W

def NRel (s : ByteArray) (w wr : World) : Prop :=
  ∃ p : Nat, p ≤ s.size ∧ wr.heap[w.heap.size]? = some (.stringIter s p) ∧ nameAux 0 s.data.toList = nameAux p (s.data.toList.drop p) ∧ Below w.heap.size w wr

set_option maxHeartbeats 1000000 in
theorem name_any (s : ByteArray) (hs : s.size ≤ 9223372036854775807) (w : World) :
    Calls Tryz.prog 22 #[.string s] w fun e w' => e = .returned (.bool (nameB s.data.toList)) ∧ Below w.heap.size w w' := by
  by_cases hl : 1 ≤ s.size ∧ s.size ≤ 32
  · have hnb : nameB s.data.toList = nameAux 0 s.data.toList := nameB_aux (by rw [← size_toList]; exact hl)
    have hne : s.toList.isEmpty = false := by
      rw [Lib.toList_data]
      have : s.data.toList.length ≠ 0 := by rw [← size_toList]; omega
      cases h : s.data.toList with
      | nil => rw [h] at this; simp at this
      | cons _ _ => rfl
    obtain ⟨l1, l2⟩ := hl
    rw [hnb]
    clear hnb
    go_enter Tryz.func22, Tryz.ntmps22
    go_wp2
    go_loopw [3, 4, 5] (fun _ _ _ wr => NRel s w wr) (fun _ _ _ wr => s.size - wr.iterPos w.heap.size)
    case atStart => exact ⟨0, Nat.zero_le _, World.iter_heap _ _ _, rfl, (Below.refl _ _).alloc (Nat.le_refl _) _⟩
    case round =>
      obtain ⟨p, hp, hit, haux, hbw⟩ := hrel
      have hsz : w.heap.size < wr.heap.size := (Array.getElem?_eq_some_iff.1 hit).1
      have HA := Lib.hid haux
      clear haux
      by_cases h : p < s.size
      · obtain ⟨c, d, q, hr⟩ := rune_at s p h
        have hnx : ∀ ty, (Instr.next (.pointer (some ⟨w.heap.size, 0, none⟩)) true ty).run Tryz.prog wr = .ok (.tuple #[.bool true, .int .i64 p, .int .i32 c]) (wr.iterAt w.heap.size s (p + d)) := fun ty => by
          have := Lib.run_next_any_at (P := Tryz.prog) (ty := ty) wr w.heap.size s p hit h
          rw [hr.dec] at this; exact this
        have hit2 := Lib.iterAt_heap wr w.heap.size s p (p + d) hit
        have hbw2 := Lib.below_iterAt hbw (k := w.heap.size) (Nat.le_refl _) s (p + d)
        have hsz2 : w.heap.size < (wr.iterAt w.heap.size s (p + d)).heap.size := by rw [Lib.iterAt_size]; exact hsz
        have hle := hr.le
        have hstep : nameAux p (s.data.toList.drop p) = (okAt p s[p] && nameAux (p + 1) (s.data.toList.drop (p + 1))) := nameAux_drop (by rw [← size_toList]; exact h)
        by_cases hlet : 97 ≤ (s[p]'h).toNat ∧ (s[p]'h).toNat ≤ 122
        · obtain ⟨c1, c2, rfl⟩ := hr.letter hlet.1 hlet.2
          have hok := okAt_letter (i := p) hlet.1 hlet.2
          have HN : Hid (nameAux 0 s.data.toList = nameAux (p + 1) (s.data.toList.drop (p + 1))) := by
            show _ = _; rw [HA.out, hstep, hok, Bool.true_and]
          clear hstep hok hr hlet
          go_wp2
          go_roundw
          case rel => exact ⟨p + 1, by omega, hit2, HN, hbw2⟩
          case measure =>
            simp only [World.iterPos, hit2, hit]
            omega
        · have hnl : (s[p]'h).toNat < 97 ∨ 122 < (s[p]'h).toNat := by omega
          have hcnl : c < 97 ∨ 122 < c := hnl.elim (fun h => .inl (hr.small h)) (fun h => .inr (hr.great h))
          by_cases hp0 : p = 0
          · subst hp0
            have hok := okAt_zero hnl
            have HN : Hid (nameAux 0 s.data.toList = false) := by
              show _ = _; rw [HA.out, hstep, hok, Bool.false_and]
            clear hstep hok hr hlet hnl
            simp only [Nat.zero_add] at hbw2
            rcases hcnl with hcc | hcc
            · go_wp2
              go_ret
              exact ⟨Ut.ret_bool HN.out.symm, hbw2⟩
            · have hd1 : decide ((c : Int) ≤ 122) = false := by simp; omega
              go_wp2
              go_ret
              exact ⟨Ut.ret_bool HN.out.symm, hbw2⟩
          · have hok := okAt_sign hp0 hnl
            rw [hr.sign] at hok
            have hq0 : ((p : Int) == 0) = false := by rw [beq_eq_false_iff_ne]; omega
            have HS := Lib.hid hr.says
            cases q
            · have HN : Hid (nameAux 0 s.data.toList = false) := by
                show _ = _; rw [HA.out, hstep, hok, Bool.false_and]
              clear hstep hok hr hlet hnl
              rcases hcnl with hcc | hcc
              · go_wp2_with (go_at_call 62; refine (HS.out _).mono ?_; rintro e w2 ⟨rfl, hb2⟩)
                go_ret
                exact ⟨Ut.ret_bool HN.out.symm, hbw2.trans (hb2.mono (Nat.le_of_lt hsz2))⟩
              · have hd1 : decide ((c : Int) ≤ 122) = false := by simp; omega
                go_wp2_with (go_at_call 62; refine (HS.out _).mono ?_; rintro e w2 ⟨rfl, hb2⟩)
                go_ret
                exact ⟨Ut.ret_bool HN.out.symm, hbw2.trans (hb2.mono (Nat.le_of_lt hsz2))⟩
            · obtain rfl := hr.one rfl
              have HN : Hid (nameAux 0 s.data.toList = nameAux (p + 1) (s.data.toList.drop (p + 1))) := by
                show _ = _; rw [HA.out, hstep, hok, Bool.true_and]
              clear hstep hok hr hlet hnl
              rcases hcnl with hcc | hcc
              · go_wp2_with (go_at_call 62; refine (HS.out _).mono ?_; rintro e w2 ⟨rfl, hb2⟩)
                have hit3 : w2.heap[w.heap.size]? = some (.stringIter s (p + 1)) := (hb2.block _ hsz2).trans hit2
                go_roundw
                case rel => exact ⟨p + 1, by omega, hit3, HN, hbw2.trans (hb2.mono (Nat.le_of_lt hsz2))⟩
                case measure =>
                  simp only [World.iterPos, hit3, hit]
                  omega
              · have hd1 : decide ((c : Int) ≤ 122) = false := by simp; omega
                go_wp2_with (go_at_call 62; refine (HS.out _).mono ?_; rintro e w2 ⟨rfl, hb2⟩)
                have hit3 : w2.heap[w.heap.size]? = some (.stringIter s (p + 1)) := (hb2.block _ hsz2).trans hit2
                go_roundw
                case rel => exact ⟨p + 1, by omega, hit3, HN, hbw2.trans (hb2.mono (Nat.le_of_lt hsz2))⟩
                case measure =>
                  simp only [World.iterPos, hit3, hit]
                  omega
      · have hnx : ∀ ty, (Instr.next (.pointer (some ⟨w.heap.size, 0, none⟩)) true ty).run Tryz.prog wr = _ := fun ty => Lib.run_next_end_at wr w.heap.size s p ty hit h
        have HN : Hid (nameAux 0 s.data.toList = true) := by
          show _ = _; rw [HA.out, List.drop_of_length_le (by rw [← size_toList]; omega)]; rfl
        go_wp2
        go_ret
        exact ⟨Ut.ret_bool HN.out.symm, hbw⟩
  · have hnb : nameB s.data.toList = false := nameB_len (by rw [← size_toList]; exact hl)
    rw [hnb]
    clear hnb
    by_cases h0 : s.size = 0
    · have hem : s.toList.isEmpty = true := by
        rw [Lib.toList_data, List.isEmpty_iff_length_eq_zero, ← size_toList]; exact h0
      have H0 := Lib.hid h0
      clear h0 hl
      go_enter Tryz.func22, Tryz.ntmps22
      go_wp2
      go_ret
      exact ⟨rfl, Below.refl _ _⟩
    · have hem : s.toList.isEmpty = false := by
        rw [Lib.toList_data]
        have : s.data.toList.length ≠ 0 := by rw [← size_toList]; omega
        cases h : s.data.toList with
        | nil => rw [h] at this; simp at this
        | cons _ _ => rfl
      have h2 : (32 : Int) < (s.size : Int) := by omega
      clear hl h0
      go_enter Tryz.func22, Tryz.ntmps22
      go_wp2
      go_ret
      exact ⟨rfl, Below.refl _ _⟩

end Go.Proofs.YtocoonkachbjaaaGreatDoor
