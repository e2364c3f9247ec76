/- The law ClockKnown. -/
import Derived.Test.YtbgplehmjejikaaGreatDoorClkLaw3
import Derived.Test.YtbgplehmjejikaaGreatDoorLit
import Derived.Deep.RegionHeld3
namespace Go.Proofs.YtbgplehmjejikaaGreatDoor
open Go.RowKit
set_option linter.unusedVariables false
namespace Ck

def kl : List Int := [-9223372036854775808, -1, 0, 1, 59, 60, 61, 3599, 3600, 86399, 86400, 1073741824, 1073741825, 1099511627775, 1099511627776, 1099511627777, 9223372036854775807]
def vN (n : Int) : Value := .int .i64 n
theorem kl_wf : ∀ k, k < 17 → (Lit.int .i64 (kl.getD k 0)).wf = true := by decide +kernel

/-- What all the laws ask. -/
structure KC (w0 w : World) : Prop where
  ctx : Ctx w
  hg : erHandle w
  bel : Below w0.heap.size w0 w
theorem KC.step {w0 w w' : World} (h : KC w0 w) (hb : Below w.heap.size w w') : KC w0 w' :=
  ⟨h.ctx.below hb, h.hg.below h.hg.lt hb, h.bel.trans (hb.mono h.bel.size)⟩

/-- A law that is true whatever it is asked: what it leaves. -/
def Yes (w0 : World) (g : Nat) (vs : List Value) (w : World) (e : Ending) (w' : World) : Prop := e = .returned (.bool true) ∧ KC w0 w' ∧ LitAt w' g vs ∧ Below w.heap.size w w'

theorem yes_of {w0 w : World} {g : Nat} {vs : List Value} (hk : KC w0 w) (hl : LitAt w g vs) {f : Nat} {args : Array Value} (h : Calls Tryz.prog f args w fun e w' => e = .returned (.bool true) ∧ Below w.heap.size w w') : Calls Tryz.prog f args w (Yes w0 g vs w) :=
  h.mono fun e w' ⟨h1, h2⟩ => ⟨h1, hk.step h2, hl.below h2, h2⟩

def R1 (w0 : World) (g : Nat) (vs : List Value) (n : Nat) (i : Value) (w : World) : Prop := ∃ k : Nat, k ≤ n ∧ i = .int .i64 k ∧ KC w0 w ∧ LitAt w g vs

theorem at_kl {w : World} {gg : Nat} (h : LitAt w gg (kl.map vN)) {k : Nat} (hk : k < 17) : w.cell? ⟨gg, k, none⟩ = some (.int .i64 (kl.getD k 0)) := h.get hk 0

set_option maxRecDepth 100000 in
theorem prt_top : prt 1099511627776 = [49, 50, 55, 50, 53, 56, 50, 57, 100, 51, 54, 109, 49, 54, 115] := by decide +kernel
def kp : ByteArray := ⟨#[49, 50, 55, 50, 53, 56, 50, 57, 100, 51, 54, 109, 49, 55, 115]⟩
set_option maxRecDepth 100000 in
theorem kp_parse : parseL kp.data.toList = (0, 12) := by decide +kernel

set_option maxRecDepth 100000 in
set_option maxHeartbeats 8000000 in
theorem knownEnds_any (w : World) (hk : KC w w) : Calls Tryz.prog 4 #[] w fun e w' => e = .returned (.bool true) ∧ Below w.heap.size w w' := by
  have hb0 : Below w.heap.size w (w.alloc (.cells (kl.map vN).toArray 3)) := (Below.refl _ _).alloc (Nat.le_refl _) _
  have HS : Hid (R1 w w.heap.size (kl.map vN) 17 (.int .i64 0) (w.alloc (.cells (kl.map vN).toArray 3))) := ⟨0, Nat.zero_le _, rfl, hk.step hb0, lit0 _ _ _⟩
  have HK := Lib.hid hk
  have HPRG := Lib.hid (fun w' (hk : KC w w') => (by
    have := print_yes 1099511627776 rfl (by decide) w' hk.ctx.hp hk.ctx.ht
    rw [prt_top] at this
    exact this : Calls Tryz.prog 12 #[.int .i64 1099511627776] w' fun e w2 => e = .returned (.tuple #[.string ⟨#[49, 50, 55, 50, 53, 56, 50, 57, 100, 51, 54, 109, 49, 54, 115]⟩, .nilIface]) ∧ Below w'.heap.size w' w2))
  clear hb0 hk
  go_enter Tryz.func4, Tryz.ntmps4
  go_wp2
  go_loopw [2] (fun i wr => R1 w w.heap.size (kl.map vN) 17 i wr) (fun i _ => 17 - (intOf i).toNat)
  case atStart => exact HS.out
  case round =>
    obtain ⟨i, hi, rfl, hc, hl⟩ := hrel
    have HC := Lib.hid hc; have HL := Lib.hid hl
    clear hc hl HS
    have b1 : (0 : Int) ≤ (i : Int) := by omega
    by_cases h : i < 17
    · have b2 : (i : Int) < 17 := by omega
      have hwx := kl_wf i h
      have HX := Lib.hid (fun w' (hl : LitAt w' w.heap.size (kl.map vN)) => at_kl hl h)
      obtain ⟨x, hx⟩ : ∃ x, x = kl.getD i 0 := ⟨_, rfl⟩
      rw [← hx] at HX hwx
      have HWX := Lib.hid hwx
      have c1 := HX.out _ HL.out
      have HP := Lib.hid (fun w' (hk : KC w w') (hl : LitAt w' w.heap.size (kl.map vN)) => yes_of hk hl (clockPrints_core x w' hk.hg hk.ctx.hp hk.ctx.ht))
      have HT := Lib.hid (fun w' (hk : KC w w') (hl : LitAt w' w.heap.size (kl.map vN)) => yes_of hk hl (clockThere_core x w' hk.ctx))
      clear hx hwx
      go_wp2_with fail
      refine (HP.out _ HC.out HL.out).mono ?_
      rintro e w1 ⟨rfl, hk1, hl1, hb1⟩
      have c2 := HX.out _ hl1
      have HC1 := Lib.hid hk1; have HL1 := Lib.hid hl1
      clear hk1 hl1 hb1 HC HL
      go_wp2_with fail
      refine (HT.out _ HC1.out HL1.out).mono ?_
      rintro e w2 ⟨rfl, hk2, hl2, hb2⟩
      have HC2 := Lib.hid hk2; have HL2 := Lib.hid hl2
      clear hk2 hl2 hb2 HC1 HL1 c1 c2
      go_wp2
      go_loopw [3] (fun i wr => R1 w w.heap.size (kl.map vN) 17 i wr) (fun i _ => 17 - (intOf i).toNat)
      case atStart => exact ⟨0, Nat.zero_le _, rfl, HC2.out, HL2.out⟩
      case round =>
        obtain ⟨k, hk, rfl, hc, hl⟩ := hrel
        have HC := Lib.hid hc; have HL := Lib.hid hl
        clear hc hl HC2 HL2
        have b3 : (0 : Int) ≤ (k : Int) := by omega
        by_cases h2 : k < 17
        · have b4 : (k : Int) < 17 := by omega
          have hwy := kl_wf k h2
          have HY := Lib.hid (fun w' (hl : LitAt w' w.heap.size (kl.map vN)) => at_kl hl h2)
          obtain ⟨y, hy⟩ : ∃ x, x = kl.getD k 0 := ⟨_, rfl⟩
          rw [← hy] at HY hwy
          have c1 := HX.out _ HL.out
          have c2 := HY.out _ HL.out
          have HA := Lib.hid (fun w' (hk : KC w w') (hl : LitAt w' w.heap.size (kl.map vN)) (_ : w'.cell? ⟨w.heap.size, i, none⟩ = some (.int .i64 x)) (_ : w'.cell? ⟨w.heap.size, k, none⟩ = some (.int .i64 y)) =>
            (yes_of hk hl (clockAfter_core x HWX.out y hwy w' hk.hg)).mono fun e w2 h => (⟨h.1, h.2.1, h.2.2.1, HX.out _ h.2.2.1, HY.out _ h.2.2.1⟩ : e = .returned (.bool true) ∧ KC w w2 ∧ LitAt w2 w.heap.size (kl.map vN) ∧ w2.cell? ⟨w.heap.size, i, none⟩ = some (.int .i64 x) ∧ w2.cell? ⟨w.heap.size, k, none⟩ = some (.int .i64 y)))
          have HF := Lib.hid (fun w' (hk : KC w w') (hl : LitAt w' w.heap.size (kl.map vN)) (_ : w'.cell? ⟨w.heap.size, i, none⟩ = some (.int .i64 x)) (_ : w'.cell? ⟨w.heap.size, k, none⟩ = some (.int .i64 y)) =>
            (yes_of hk hl (clockLeft_core x HWX.out y hwy w' hk.ctx.hp hk.ctx.ht)).mono fun e w2 h => (⟨h.1, h.2.1, h.2.2.1, HX.out _ h.2.2.1, HY.out _ h.2.2.1⟩ : e = .returned (.bool true) ∧ KC w w2 ∧ LitAt w2 w.heap.size (kl.map vN) ∧ w2.cell? ⟨w.heap.size, i, none⟩ = some (.int .i64 x) ∧ w2.cell? ⟨w.heap.size, k, none⟩ = some (.int .i64 y)))
          have HD : Hid (∀ w', Below wr.heap.size wr w' → KC w w' ∧ LitAt w' w.heap.size (kl.map vN)) := fun w' hb => ⟨HC.out.step hb, HL.out.below hb⟩
          have HWY := Lib.hid hwy
          have hdr : Below wr.heap.size wr wr.drew := (Below.refl _ _).drew
          have HDR := Lib.hid hdr
          clear hy hwy hdr
          go_wp2
          go_region_held3 (fun w' => w'.cell? ⟨w.heap.size, i, none⟩ = some (.int .i64 x) ∧ w'.cell? ⟨w.heap.size, k, none⟩ = some (.int .i64 y)) (go_keep) (first
            | (go_at_call 8; refine (HA.out _ ?_ ?_ ?_ ?_).mono ?_; (exact (HD.out _ HDR.out).1); (exact (HD.out _ HDR.out).2); (simp [*]); (simp [*]); rintro e w3 ⟨rfl, hk3, hl3, c3, c4⟩; (have HK3 := Lib.hid hk3; have HL3 := Lib.hid hl3; clear hk3 hl3))
            | (go_at_call 9; refine (HF.out _ ?_ ?_ ?_ ?_).mono ?_; (exact HK3.out); (exact HL3.out); (simp [*]); (simp [*]); rintro e w4 ⟨rfl, hk4, hl4, c5, c6⟩; (have HK4 := Lib.hid hk4; have HL4 := Lib.hid hl4; clear hk4 hl4)))
          have HC4 := HK4; have HL4' := HL4
          clear HK3 HL3 HC HL HA HF HD
          go_wp2
          go_loopw [4] (fun i wr => R1 w w.heap.size (kl.map vN) 17 i wr) (fun i _ => 17 - (intOf i).toNat)
          case atStart => exact ⟨0, Nat.zero_le _, rfl, HC4.out, HL4'.out⟩
          case round =>
            obtain ⟨m, hm, rfl, hc, hl⟩ := hrel
            have HC := Lib.hid hc; have HL := Lib.hid hl
            clear hc hl HC4 HL4' HK4 HL4
            have b5 : (0 : Int) ≤ (m : Int) := by omega
            by_cases h3 : m < 17
            · have b6 : (m : Int) < 17 := by omega
              have HZ := Lib.hid (fun w' (hl : LitAt w' w.heap.size (kl.map vN)) => at_kl hl h3)
              obtain ⟨z, hz⟩ : ∃ x, x = kl.getD m 0 := ⟨_, rfl⟩
              rw [← hz] at HZ
              have c1 := HX.out _ HL.out
              have c2 := HY.out _ HL.out
              have c3 := HZ.out _ HL.out
              have HA := Lib.hid (fun w' (hk : KC w w') (hl : LitAt w' w.heap.size (kl.map vN)) =>
                (yes_of hk hl (clockUntil_core x y z w' hk.hg)).mono fun e w2 h => (⟨h.1, h.2.1, h.2.2.1, HX.out _ h.2.2.1, HY.out _ h.2.2.1, HZ.out _ h.2.2.1⟩ : e = .returned (.bool true) ∧ KC w w2 ∧ LitAt w2 w.heap.size (kl.map vN) ∧ w2.cell? ⟨w.heap.size, i, none⟩ = some (.int .i64 x) ∧ w2.cell? ⟨w.heap.size, k, none⟩ = some (.int .i64 y) ∧ w2.cell? ⟨w.heap.size, m, none⟩ = some (.int .i64 z)))
              have HF := Lib.hid (fun w' (hk : KC w w') (hl : LitAt w' w.heap.size (kl.map vN)) =>
                (yes_of hk hl (clockLives_core x y z w' hk.ctx.hp hk.ctx.ht)).mono fun e w2 h => (⟨h.1, h.2.1, h.2.2.1, HX.out _ h.2.2.1, HY.out _ h.2.2.1, HZ.out _ h.2.2.1⟩ : e = .returned (.bool true) ∧ KC w w2 ∧ LitAt w2 w.heap.size (kl.map vN) ∧ w2.cell? ⟨w.heap.size, i, none⟩ = some (.int .i64 x) ∧ w2.cell? ⟨w.heap.size, k, none⟩ = some (.int .i64 y) ∧ w2.cell? ⟨w.heap.size, m, none⟩ = some (.int .i64 z)))
              have HD : Hid (KC w wr.drew ∧ LitAt wr.drew w.heap.size (kl.map vN)) := ⟨HC.out.step ((Below.refl _ _).drew), HL.out.below ((Below.refl _ _).drew)⟩
              clear hz
              go_wp2
              go_region_held3 (fun w' => w'.cell? ⟨w.heap.size, i, none⟩ = some (.int .i64 x) ∧ w'.cell? ⟨w.heap.size, k, none⟩ = some (.int .i64 y) ∧ w'.cell? ⟨w.heap.size, m, none⟩ = some (.int .i64 z)) (go_keep) (first
                | (go_at_call 10; refine (HA.out _ ?_ ?_).mono ?_; (exact HD.out.1); (exact HD.out.2); rintro e w5 ⟨rfl, hk5, hl5, d1, d2, d3⟩; (have HK5 := Lib.hid hk5; have HL5 := Lib.hid hl5; clear hk5 hl5))
                | (go_at_call 11; refine (HF.out _ ?_ ?_).mono ?_; (exact HK5.out); (exact HL5.out); rintro e w6 ⟨rfl, hk6, hl6, d4, d5, d6⟩; (have HK6 := Lib.hid hk6; have HL6 := Lib.hid hl6; clear hk6 hl6)))
              go_wp2
              go_roundw
              case rel => exact ⟨m + 1, by omega, by go_num, HK6.out, HL6.out⟩
              case measure => simp [intOf]; omega
            · have b6 : (17 : Int) ≤ (m : Int) := by omega
              go_wp2
              go_roundw
              case rel => exact ⟨k + 1, by omega, by go_num, HC.out, HL.out⟩
              case measure => simp [intOf]; omega
        · have b4 : (17 : Int) ≤ (k : Int) := by omega
          go_wp2
          go_roundw
          case rel => exact ⟨i + 1, by omega, by go_num, HC.out, HL.out⟩
          case measure => simp [intOf]; omega
    · have b2 : (17 : Int) ≤ (i : Int) := by omega
      have HPR := HPRG.out _ HC.out
      have HPA := Lib.hid (fun w' (hk : KC w w') => cparse_any kp (by decide) w' hk.ctx.he hk.ctx.hp)
      unfold PPost at HPA
      rw [kp_parse] at HPA
      have HWK := Lib.hid (fun w' (hk : KC w w') => works_any w' hk.ctx.hp hk.ctx.ht)
      have HPL := Lib.hid (fun w' (hk : KC w w') => plain_any 12 12 (by omega) (by omega) w' hk.hg)
      obtain ⟨V, hV⟩ : ∃ V, V = errVal 12 := ⟨_, rfl⟩
      simp only at HPA
      rw [← hV] at HPA HPL
      have HP := Lib.hid HPR
      clear hV HPR HL HPRG
      go_wp2_with fail
      refine HP.out.mono ?_
      rintro e w1 ⟨rfl, hb1⟩
      have HC1 := Lib.hid (HC.out.step hb1)
      clear hb1 HP
      go_wp2_with fail
      refine (HPA.out _ HC1.out).mono ?_
      rintro e w2 ⟨rfl, hb2⟩
      have HC2 := Lib.hid (HC1.out.step hb2)
      clear hb2
      go_wp2_with fail
      refine (HWK.out _ HC2.out).mono ?_
      rintro e w3 ⟨rfl, hb3⟩
      have HC3 := Lib.hid (HC2.out.step hb3)
      clear hb3
      go_wp2_with fail
      refine (HPL.out _ HC3.out).mono ?_
      rintro e w4 ⟨rfl, hb4⟩
      have HC4 := Lib.hid (HC3.out.step hb4)
      go_wp2
      go_ret
      exact ⟨rfl, HC4.out.bel⟩

end Ck
end Go.Proofs.YtbgplehmjejikaaGreatDoor
