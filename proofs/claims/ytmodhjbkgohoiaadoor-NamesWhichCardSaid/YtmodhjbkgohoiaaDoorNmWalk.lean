/- What names.Compare and the reference's Compare hand back, of any two texts. -/
import Derived.Test.YtmodhjbkgohoiaaDoorProg
import Derived.Test.YtmodhjbkgohoiaaDoorShelf
import Derived.Test.YtmodhjbkgohoiaaDoorNmPlain
import Derived.WalkKit
import Derived.WalkLawsBesides
import Derived.WalkSpells
import Derived.Lib.Hide
import Derived.BigQuiet
import Derived.Deep.QuietTactic
import Derived.Deep.RegionWith
namespace Go.Proofs.YtmodhjbkgohoiaaDoor
open Go.RowKit Go.Proofs.NmPlain
set_option linter.unusedVariables false

theorem ret_int {k : IntKind} {a b : Int} (h : a = b) : Ending.returned (.int k a) = .returned (.int k b) := by rw [h]

set_option maxHeartbeats 400000 in
/-- cmp.Compare at texts. -/
theorem cmp_str (x y : ByteArray) (w : World) :
    Calls Tryd.prog 28 #[.string x, .string y] w fun e w' => e = .returned (.int .i64 (bcmp x.data.toList y.data.toList)) ∧ w = w' := by
  have hr := bcmp_range x.data.toList y.data.toList
  have hl0 := bytesLess_bcmp x.data.toList y.data.toList
  rw [← Lib.toList_data, ← Lib.toList_data] at hl0 hr ⊢
  by_cases hx : x = y
  · have e0 : bcmp x.toList y.toList = 0 := (bcmp_zero _ _).2 (by rw [hx])
    have hl : Op.bytesLess x.toList y.toList = false := by rw [hl0, e0]; rfl
    have he : (x.toList == y.toList) = true := by rw [hx]; simp
    rw [e0]
    clear hl0 hr e0 hx
    go_enter Tryd.func28, Tryd.ntmps28
    go_wp2
    go_ret
    exact ⟨rfl, rfl⟩
  · have hz : bcmp x.toList y.toList ≠ 0 := fun h => hx (by
      have := (bcmp_zero _ _).1 h
      rw [Lib.toList_data, Lib.toList_data] at this
      cases x; cases y; simpa using this)
    have he : (x.toList == y.toList) = false := by
      rw [beq_eq_false_iff_ne]; intro h; exact hz ((bcmp_zero _ _).2 h)
    by_cases h1 : bcmp x.toList y.toList = -1
    · have hl : Op.bytesLess x.toList y.toList = true := by rw [hl0, h1]; rfl
      rw [h1]
      clear hl0 hr h1 hz hx
      go_enter Tryd.func28, Tryd.ntmps28
      go_wp2
      go_ret
      exact ⟨rfl, rfl⟩
    · have hl : Op.bytesLess x.toList y.toList = false := by rw [hl0]; simp [h1]
      have h2 : bcmp x.toList y.toList = 1 := by omega
      rw [h2]
      clear hl0 hr h1 h2 hz hx
      go_enter Tryd.func28, Tryd.ntmps28
      go_wp2
      go_ret
      exact ⟨rfl, rfl⟩

/-- strings.Cut at a dot, in its two ways. -/
theorem cut_dot (s : ByteArray) (m : Int) (w : World) (hs : s.size < 4294967281) (hm : w.cell? ⟨0, 0, none⟩ = some (.int .i64 m)) :
    Calls Tryd.prog 27 #[.string s, .string ⟨#[46]⟩] w fun e w' => ∃ x r f n, e = .returned (.tuple #[.string x, .string r, .bool f]) ∧ w' = w.drewN n ∧ ((f = false ∧ CutNo s x) ∨ (f = true ∧ CutYes s x r)) :=
  (Tryd.strings_Cut s ⟨#[46]⟩ m w hs hm).mono fun e w' ⟨he, n, hw⟩ => ⟨_, _, _, n, he, hw, cut_says s⟩

def strSize : Value → Nat
  | .string s => s.size
  | _ => 0

set_option maxHeartbeats 1000000 in
theorem compare_any (a b : ByteArray) (m : Int) (w : World) (ha : a.size < 4294967281) (hb : b.size < 4294967281) (hm : w.cell? ⟨0, 0, none⟩ = some (.int .i64 m)) :
    Calls Tryd.prog 20 #[.string a, .string b] w fun e w' => e = .returned (.int .i64 (ncmp a.data.toList b.data.toList)) ∧ ∃ n, w' = w.drewN n := by
  go_enter Tryd.func20, Tryd.ntmps20
  go_wp2
  go_loopw [0, 1] (fun x y wr => ∃ s t : ByteArray, x = .string s ∧ y = .string t ∧ s.size ≤ a.size ∧ t.size ≤ b.size ∧ ncmp s.data.toList t.data.toList = ncmp a.data.toList b.data.toList ∧ ∃ n, wr = w.drewN n) (fun x _ _ => strSize x)
  case atStart => exact ⟨a, b, rfl, rfl, Nat.le_refl _, Nat.le_refl _, rfl, 0, rfl⟩
  case round =>
    obtain ⟨s, t, rfl, rfl, hs, ht, hc, n, rfl⟩ := hrel
    have HC := Lib.hid hc; clear hc
    go_wp2_with fail
    refine (cut_dot s m _ (by omega) (by simp [hm])).mono ?_
    rintro e w1 ⟨x, r, f, n1, rfl, rfl, hx⟩
    have HX := Lib.hid hx; clear hx
    go_wp2_with fail
    refine (cut_dot t m _ (by omega) (by simp [hm])).mono ?_
    rintro e w2 ⟨y, r2, f2, n2, rfl, rfl, hy⟩
    have HY := Lib.hid hy; clear hy
    go_wp2_with fail
    refine (cmp_str x y _).mono ?_
    rintro e w3 ⟨rfl, rfl⟩
    by_cases hz : bcmp x.data.toList y.data.toList = 0
    · have hq : (bcmp x.data.toList y.data.toList != 0) = false := by rw [hz]; rfl
      have HZ := Lib.hid hz; clear hz
      cases f <;> cases f2
      · go_wp2
        go_ret
        obtain ⟨_, rfl, hx⟩ | ⟨h, _⟩ := HX.out
        · obtain ⟨_, rfl, hy⟩ | ⟨h, _⟩ := HY.out
          · exact ⟨ret_int (by rw [← HC.out, ncmp_both hx hy HZ.out]), _, rfl⟩
          · cases h
        · cases h
      · go_wp2
        go_ret
        obtain ⟨_, rfl, hx⟩ | ⟨h, _⟩ := HX.out
        · obtain ⟨h, _⟩ | ⟨_, hy, _⟩ := HY.out
          · cases h
          · exact ⟨ret_int (by rw [← HC.out, ncmp_left hx hy HZ.out]), _, rfl⟩
        · cases h
      · go_wp2
        go_ret
        obtain ⟨h, _⟩ | ⟨_, hx, _⟩ := HX.out
        · cases h
        · obtain ⟨_, rfl, hy⟩ | ⟨h, _⟩ := HY.out
          · exact ⟨ret_int (by rw [← HC.out, ncmp_right hx hy HZ.out]), _, rfl⟩
          · cases h
      · go_wp2
        go_roundw
        case rel =>
          obtain ⟨h, _⟩ | ⟨_, hx, hx2⟩ := HX.out
          · cases h
          · obtain ⟨h, _⟩ | ⟨_, hy, hy2⟩ := HY.out
            · cases h
            · exact ⟨r, r2, rfl, rfl, by omega, by omega, by rw [← HC.out, ncmp_next hx hy HZ.out], _, rfl⟩
        case measure =>
          obtain ⟨h, _⟩ | ⟨_, hx, hx2⟩ := HX.out
          · cases h
          · simpa [strSize] using hx2
    · have hq : (bcmp x.data.toList y.data.toList != 0) = true := by rw [bne_iff_ne]; exact hz
      have HZ := Lib.hid hz; clear hz
      go_wp2
      go_ret
      refine ⟨ret_int ?_, _, rfl⟩
      rw [← HC.out]
      obtain ⟨_, rfl, hx⟩ | ⟨_, hx, _⟩ := HX.out
      · obtain ⟨_, rfl, hy⟩ | ⟨_, hy, _⟩ := HY.out
        · exact (ncmp_part hx hy HZ.out).symm
        · exact (ncmp_part hx hy HZ.out).symm
      · obtain ⟨_, rfl, hy⟩ | ⟨_, hy, _⟩ := HY.out
        · exact (ncmp_part hx hy HZ.out).symm
        · exact (ncmp_part hx hy HZ.out).symm

end Go.Proofs.YtmodhjbkgohoiaaDoor
