/- filled, works. -/
import Derived.Test.YtkmgpajodbadmaaDoorHpNew
import Derived.Test.YtkmgpajodbadmaaDoorHpSpec
import Derived.Test.YtkmgpajodbadmaaDoorArgPairs
import Derived.Test.YtkmgpajodbadmaaDoorPick
namespace Go.Proofs.YtkmgpajodbadmaaDoor
open Go.RowKit Go.Proofs.Ar
set_option linter.unusedVariables false
namespace Hp

theorem lit_pairs (w : World) (ps : List It) (t : TypeId) : PairArg (w.alloc (.cells (encL ps).toArray t)) (.slice (some ⟨w.heap.size, 0, none⟩) ps.length ps.length) ps :=
  ⟨_, ps.length, rfl, fun j hj => ⟨w.heap.size, 0, rfl, by simp, by
    have h := encL_at ps j hj
    rw [g_eq hj] at h
    refine ⟨?_, ?_⟩
    · rw [cell_of_row _ _ _ _ _ _ (Ut.alloc_at w (.cells (encL ps).toArray t))]; simpa using h.1
    · rw [cell_of_row _ _ _ _ _ _ (Ut.alloc_at w (.cells (encL ps).toArray t))]; simpa using h.2⟩⟩

def FilledPost (ps : List It) (w : World) (e : Ending) (w' : World) : Prop :=
  ∃ H F L, e = .returned (.pointer (some ⟨H, 0, none⟩)) ∧ HeapAt w.heap.size H 64 L F w' ∧ List.Perm L (fin ps) ∧ Below w.heap.size w w'

def FillRel (ps : List It) (H : Nat) (w : World) (i : Value) (wr : World) : Prop :=
  ∃ (k : Nat) (L : List It) (F : Nat → Prop), k ≤ ps.length ∧ i = .int .i64 k ∧ HeapAt w.heap.size H 64 L F wr ∧ List.Perm L (fin (ps.take k)) ∧ Below w.heap.size w wr

set_option maxHeartbeats 4000000 in
theorem filled_any (v : Value) (ps : List It) (hl : (ps.length : Int) ≤ 9223372036854775807) (w : World) (ht : PairArg w v ps) : Calls Tryd.prog 64 #[v] w (FilledPost ps w) := by
  have HN := Lib.hid (hnew_any 64 (by omega) (by omega) w)
  obtain ⟨q, c, rfl, h1⟩ := ht
  have H1 := Lib.hid h1
  clear h1
  go_enter Tryd.func64, Tryd.ntmps64
  go_wp2_with fail
  refine HN.out.mono ?_
  rintro e w1 ⟨H, F0, rfl, hh, hb1⟩
  have HS : Hid (FillRel ps H w (.int .i64 0) w1) := ⟨0, [], F0, Nat.zero_le _, rfl, hh, by simp [fin], hb1⟩
  clear hh hb1
  go_wp2
  go_loopw [5] (fun i wr => FillRel ps H w i wr) (fun i _ => ps.length - (intOf i).toNat)
  case atStart => exact HS.out
  case round =>
    obtain ⟨k, L, F, hk, rfl, hh, hp, hbl⟩ := hrel
    have HH := Lib.hid hh; have HP := Lib.hid hp; have HBL := Lib.hid hbl
    clear hh hp hbl HS
    have b1 : (0 : Int) ≤ (k : Int) := by omega
    by_cases h : k < ps.length
    · have b2 : (k : Int) < (ps.length : Int) := by omega
      obtain ⟨g1, o1, rfl, hg1, k1, k2⟩ := H1.out k h
      have hfn := fin_next h
      have HFN := Lib.hid hfn
      obtain ⟨p, hpk⟩ : ∃ p, p = ps[k] := ⟨_, rfl⟩
      rw [← hpk] at k1 k2 HFN
      have k1' : wr.cell? ⟨g1, o1 + k * 2, none⟩ = some (.int .i64 p.1) := (HBL.out.cell (p := ⟨g1, o1 + k * 2, none⟩) hg1).trans k1
      have k2' : wr.cell? ⟨g1, o1 + k * 2 + 1, none⟩ = some (.int .i64 p.2) := (HBL.out.cell (p := ⟨g1, o1 + k * 2 + 1, none⟩) hg1).trans k2
      have hmod : 0 ≤ p.1 % 64 ∧ p.1 % 64 < ((64 : Nat) : Int) := by omega
      have HMOD := Lib.hid hmod
      have HPK := Lib.hid (fun w' (hc1 : w'.cell? ⟨g1, o1 + k * 2, none⟩ = some (.int .i64 p.1)) (hc2 : w'.cell? ⟨g1, o1 + k * 2 + 1, none⟩ = some (.int .i64 p.2)) =>
        (Pk.pick_any p.1 64 (by omega) (by omega) w').mono fun e w2 h => (⟨h.1, h.2, h.2 ▸ hc1, h.2 ▸ hc2⟩ : e = .returned (.int .i64 (p.1 % 64)) ∧ w' = w2 ∧ w2.cell? ⟨g1, o1 + k * 2, none⟩ = some (.int .i64 p.1) ∧ w2.cell? ⟨g1, o1 + k * 2 + 1, none⟩ = some (.int .i64 p.2)))
      have hszw : w.heap.size ≤ wr.heap.size := HBL.out.size
      have HST := Lib.hid (fun w' (hh : HeapAt w.heap.size H 64 L F w') (hsz : w.heap.size ≤ w'.heap.size) (hc1 : w'.cell? ⟨g1, o1 + k * 2, none⟩ = some (.int .i64 p.1)) (hc2 : w'.cell? ⟨g1, o1 + k * 2 + 1, none⟩ = some (.int .i64 p.2)) =>
        (hset_any w.heap.size H 64 L F w' hh (by omega) hsz (p.1 % 64) p.2).mono fun e w2 h => (by
          unfold SetPost at h
          rw [if_pos HMOD.out] at h
          obtain ⟨h1, L', F', h2, h3, h4, h5⟩ := h
          have hF : ¬ F g1 := fun hf => by have := (hh.lt g1 hf).1; omega
          have hlt : g1 < w'.heap.size := by omega
          exact ⟨h1, ⟨L', F', h2, h3.trans (by rw [HFN.out]; exact List.Perm.cons _ (without_perm HP.out _)), h4.below hsz (fun i hi hf => by have := (hh.lt i hf).1; omega)⟩,
            (h4.cell (p := ⟨g1, o1 + k * 2, none⟩) hlt hF).trans hc1, (h4.cell (p := ⟨g1, o1 + k * 2 + 1, none⟩) hlt hF).trans hc2⟩ :
          e = .returned .nilIface ∧ (∃ L' F', HeapAt w.heap.size H 64 L' F' w2 ∧ List.Perm L' (fin (ps.take (k + 1))) ∧ Below w.heap.size w' w2) ∧ w2.cell? ⟨g1, o1 + k * 2, none⟩ = some (.int .i64 p.1) ∧ w2.cell? ⟨g1, o1 + k * 2 + 1, none⟩ = some (.int .i64 p.2)))
      have HHD : Hid (HeapAt w.heap.size H 64 L F wr.drew ∧ w.heap.size ≤ wr.drew.heap.size ∧ Below w.heap.size w wr.drew) := ⟨HH.out.below ((Below.refl _ _).drew), hszw, HBL.out.drew⟩
      clear k1 k2 hmod hszw hpk hfn
      go_wp2
      go_region_held3 (fun w' => w'.cell? ⟨g1, o1 + k * 2, none⟩ = some (.int .i64 p.1) ∧ w'.cell? ⟨g1, o1 + k * 2 + 1, none⟩ = some (.int .i64 p.2)) (go_keep) (first
        | (go_at_call 11; refine (HPK.out _ ?_ ?_).mono ?_; (simp [*]); (simp [*]); rintro e w3 ⟨rfl, rfl, n1, n2⟩)
        | (go_at_call 16; refine (HST.out _ ?_ ?_ ?_ ?_).mono ?_; (exact HHD.out.1); (exact HHD.out.2.1); (simp [*]); (simp [*]); rintro e w4 ⟨rfl, ⟨L', F', hh4, hp4, hb4⟩, n3, n4⟩; (have HH4 := Lib.hid hh4; have HP4 := Lib.hid hp4; have HB4 := Lib.hid hb4; clear hh4 hp4 hb4)))
      go_wp2
      go_roundw
      case rel => exact ⟨k + 1, L', F', by omega, by go_num, HH4.out, HP4.out, HHD.out.2.2.trans HB4.out⟩
      case measure => simp [intOf]; omega
    · have hkl : k = ps.length := by omega
      have b2 : (ps.length : Int) ≤ (k : Int) := by omega
      have HR : Hid (FilledPost ps w (.returned (.pointer (some ⟨H, 0, none⟩))) wr) := ⟨H, F, L, rfl, HH.out, by have := HP.out; rw [hkl, List.take_length] at this; exact this, HBL.out⟩
      clear hkl
      go_wp2
      go_ret
      exact HR.out

set_option maxHeartbeats 2000000 in
theorem hworks_any (w : World) : Calls Tryd.prog 43 #[] w fun e w' => e = .returned (.bool true) ∧ Below w.heap.size w w' := by
  have hb0 : Below w.heap.size w (w.alloc (.cells (encL w3).toArray 96)) := (Below.refl _ _).alloc (Nat.le_refl _) _
  have hf := filled_any (.slice (some ⟨w.heap.size, 0, none⟩) 3 3) w3 (by decide) _ (lit_pairs w w3 96)
  have HF := Lib.hid hf; have HB0 := Lib.hid hb0
  clear hf hb0
  go_enter Tryd.func43, Tryd.ntmps43
  go_wp2_with fail
  refine HF.out.mono ?_
  rintro e w1 ⟨H, F, L, rfl, hh, hp, hb1⟩
  have HB1 : Hid (Below w.heap.size w w1) := HB0.out.trans (hb1.mono HB0.out.size)
  have HH := Lib.hid hh; have HP := Lib.hid hp
  have HL := Lib.hid (least_any _ H 64 L F w1 hh)
  clear hh hp hb1
  go_wp2_with fail
  refine HL.out.mono ?_
  rintro e w2 ⟨⟨i, k, b, rfl, hl⟩, hb2⟩
  obtain ⟨rfl, rfl, rfl, hlen⟩ := w3_least HP.out hl
  have HB2 : Hid (Below w.heap.size w w2) := HB1.out.trans (hb2.mono HB1.out.size)
  have HLE := Lib.hid (len_any _ H 64 L F w2 (HH.out.below hb2))
  rw [hlen] at HLE
  clear hl hb2 hlen
  go_wp2_with fail
  refine HLE.out.mono ?_
  rintro e w3 ⟨rfl, rfl⟩
  go_wp2
  go_ret
  exact ⟨rfl, HB2.out⟩

end Hp
end Go.Proofs.YtkmgpajodbadmaaDoor
