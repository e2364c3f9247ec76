/- The document's Kids (printed by wip/mkrkids.py). -/
import Derived.Test.YtocoonkachbjaaaVwFirst
import Derived.Test.YtocoonkachbjaaaVwDepths
import Derived.Test.YtocoonkachbjaaaAgg
namespace Go.Proofs.Ytocoonkachbjaaa
open Go.RowKit Go.Maps
set_option linter.unusedVariables false
namespace Vw
def ksel (ss : List Sess) (b : Int) (j : Nat) : Bool := decide ((b = 0 ∧ parI (bu ss) j < 0) ∨ (b ≠ 0 ∧ 0 ≤ firstI ss b ∧ parI (bu ss) j = firstI ss b))
def csAt (ss : List Sess) (j : Nat) : List Value := match ss[j]? with
  | some s => s.cells
  | none => []
theorem csAt_at {ss : List Sess} {j : Nat} (h : j < ss.length) : csAt ss j = ss[j].cells := by unfold csAt; rw [List.getElem?_eq_getElem h]
/-- Those that hang below one, by places. -/
def kidsTo (ss : List Sess) (b : Int) (k : Nat) : List Nat := (List.range k).filter (ksel ss b)
theorem Sess.one (s : Sess) : ∀ u ∈ s.cells, u.oneCell' = true := by
  intro u hu
  simp only [Sess.cells, List.mem_cons, List.not_mem_nil, or_false] at hu
  rcases hu with rfl | rfl | rfl | rfl | rfl | rfl | rfl | rfl | rfl | rfl | rfl | rfl <;> rfl
theorem kidsTo_le (ss : List Sess) (b : Int) (k : Nat) : (kidsTo ss b k).length ≤ k := by
  have := List.length_filter_le (ksel ss b) (List.range k)
  unfold kidsTo; simpa using this
theorem kidsTo_yes {ss : List Sess} {b : Int} {k : Nat} (h : ksel ss b k = true) : kidsTo ss b (k + 1) = kidsTo ss b k ++ [k] := by unfold kidsTo; rw [List.range_succ, List.filter_append]; simp [h]
theorem kidsTo_no {ss : List Sess} {b : Int} {k : Nat} (h : ksel ss b k = false) : kidsTo ss b (k + 1) = kidsTo ss b k := by unfold kidsTo; rw [List.range_succ, List.filter_append]; simp [h]
def KdRel (ss : List Sess) (b : Int) (w : World) (d i : Value) (wr : World) : Prop :=
  ∃ k : Nat, k ≤ ss.length ∧ i = .int .i64 k ∧ wr.ownsRow w.heap.size 40 12 d (kidsTo ss b k).length ((kidsTo ss b k).flatMap (csAt ss)) ∧ Below w.heap.size w wr
theorem KdRel.yes {ss : List Sess} {b : Int} {w wr w1 : World} {d v' : Value} {k : Nat} {o : Obj} (h : k < ss.length) (hs : ksel ss b k = true) (hown : wr.ownsRow w.heap.size 40 12 d (kidsTo ss b k).length ((kidsTo ss b k).flatMap (csAt ss))) (hbl : Below w.heap.size w wr)
    (hown' : w1.ownsRow w.heap.size 40 12 v' ((kidsTo ss b k).length + 1) ((kidsTo ss b k).flatMap (csAt ss) ++ csAt ss k)) (hgrow : (wr.alloc o).grownBy w1 d.ownBlock) : KdRel ss b w v' (.int .i64 ((k + 1 : Nat) : Int)) w1 :=
  ⟨k + 1, by omega, rfl, by rw [kidsTo_yes hs, List.flatMap_append, List.length_append]; simpa using hown', Ut.below_app hbl hbl.size hown hgrow⟩
theorem KdRel.no {ss : List Sess} {b : Int} {w wr : World} {d : Value} {k : Nat} (h : k < ss.length) (hs : ksel ss b k = false) (hown : wr.ownsRow w.heap.size 40 12 d (kidsTo ss b k).length ((kidsTo ss b k).flatMap (csAt ss))) (hbl : Below w.heap.size w wr) : KdRel ss b w d (.int .i64 ((k + 1 : Nat) : Int)) wr :=
  ⟨k + 1, by omega, rfl, by rw [kidsTo_no hs]; exact hown, hbl⟩
theorem vinfo_sess : (Try.prog.info? 40).map (fun i => (i.zero, i.size, i.bytes)) = some (some (.agg #[.int .i64 0, .int .i64 0, .int .i64 0, .int .i64 0, .int .i64 0, .string ByteArray.empty, .string ByteArray.empty, .int .u64 0, .int .i64 0, .int .i64 0, .int .i64 0, .int .i64 0]), 12, 112) := by kernel_rfl

set_option maxHeartbeats 8000000 in
theorem rkids_any (v : Value) (ss : List Sess) (hl : ss.length ≤ 65536) (b : Int) (w : World) (h1 : SessArg w v ss) :
    Calls Try.prog 7 #[v, .int .i64 b] w fun e w' => (∃ d, e = .returned d ∧ w'.ownsRow w.heap.size 40 12 d (kidsTo ss b ss.length).length ((kidsTo ss b ss.length).flatMap (csAt ss))) ∧ Below w.heap.size w w' := by
  have HA := Lib.hid h1
  obtain ⟨p, cap, rfl, h2⟩ := h1
  have H := Lib.hid h2
  clear h2
  obtain ⟨i0, hi, hz0, hz1, hz2⟩ := info_parts vinfo_sess
  have hlI : (ss.length : Int) ≤ 9223372036854775807 := by omega
  have HF := Lib.hid (rfirst_any _ ss hlI b w HA.out)
  obtain ⟨F, hF⟩ : ∃ F, F = firstI ss b := ⟨_, rfl⟩
  rw [← hF] at HF
  have HFE := Lib.hid hF
  clear hF
  go_enter Try.func7, Try.ntmps7
  go_wp2_with fail
  refine HF.out.mono ?_
  rintro e w0 ⟨rfl, hb0⟩
  have HB0 := Lib.hid hb0
  clear hb0
  go_wp2
  go_loopw [6, 7, 8] (fun d i _ wr => KdRel ss b w d i wr) (fun _ i _ _ => ss.length - (intOf i).toNat)
  case atStart => exact ⟨0, Nat.zero_le _, rfl, World.ownsRow_nil _ _ _ _, HB0.out⟩
  case round =>
    obtain ⟨k, hk, rfl, hown, hbr⟩ := hrel
    have HO := Lib.hid hown; have HB := Lib.hid hbr
    clear hown hbr
    have b0 : (0 : Int) ≤ (k : Int) := by omega
    by_cases h : k < ss.length
    · have b1 : (k : Int) < (ss.length : Int) := by omega
      have HC := Lib.hid (rparent_any _ ss hlI k h wr (HA.out.below HB.out))
      have hkl := kidsTo_le ss b k
      have am1 : (kidsTo ss b k).length + 1 ≤ maxLen := by unfold maxLen; omega
      have am2 : ((kidsTo ss b k).length + 1) * 112 ≤ 140737488355328 := by omega
      have w1' : IntKind.i64.wrap ((k : Int) + 1) = ((k + 1 : Nat) : Int) := by rw [IntWalk.i64_in _ (by omega)]; rfl
      obtain ⟨g, o, rfl, hg, hc⟩ := H.out k h
      obtain ⟨Q, hQ⟩ : ∃ Q, Q = parI (bu ss) k := ⟨_, rfl⟩
      rw [← hQ] at HC
      have HQE := Lib.hid hQ
      clear hQ
      go_wp2_with fail
      refine HC.out.mono ?_
      rintro e w2 ⟨rfl, hb2⟩
      have HB2 : Hid (Below w.heap.size w w2) := HB.out.trans (hb2.mono HB.out.size)
      have HO2 := Lib.hid (vown_kept HO.out hb2)
      have hzw : w.heap.size ≤ w2.heap.size := HB2.out.size
      have HPY := Lib.hid (fun (d v' : Value) (w3 : World) (ob : Obj) (a1 : ksel ss b k = true) (a2 : w2.ownsRow w.heap.size 40 12 d (kidsTo ss b k).length ((kidsTo ss b k).flatMap (csAt ss))) (a3 : Below w.heap.size w w2) => KdRel.yes (ss := ss) (b := b) (w := w) (wr := w2) (w1 := w3) (v' := v') (d := d) (k := k) (o := ob) h a1 a2 a3)
      have HPN := Lib.hid (fun (d : Value) (a1 : ksel ss b k = false) (a2 : w2.ownsRow w.heap.size 40 12 d (kidsTo ss b k).length ((kidsTo ss b k).flatMap (csAt ss))) (a3 : Below w.heap.size w w2) => KdRel.no (ss := ss) (b := b) (w := w) (wr := w2) (d := d) (k := k) h a1 a2 a3)
      obtain ⟨cs, hcs⟩ : ∃ cs, cs = csAt ss k := ⟨_, rfl⟩
      have hrg : w2.rangeAt g (o + k * 12) cs := fun j u hu => (HB2.out.cell (p := ⟨g, o + k * 12 + j, none⟩) hg).trans (hc j u (by rw [hcs, csAt_at h] at hu; exact hu))
      have HCL : Hid (cs.length = 12) := by show _ = _; rw [hcs, csAt_at h]; rfl
      have HC1 : Hid (∀ u ∈ cs, u.oneCell' = true) := by show ∀ _, _; rw [hcs, csAt_at h]; exact ss[k].one
      rw [← hcs] at HPY
      have HRG := Lib.hid hrg
      clear hb2 hcs h hc hkl hk hrg
      by_cases hb : b = 0
      · have hbq : (b == 0) = true := by simp [hb]
        have hbn : (b != 0) = false := by simp [hb]
        have HBZ := Lib.hid hb; clear hb
        by_cases hq : Q < 0
        · have HS : Hid (ksel ss b k = true) := by show _ = _; unfold ksel; rw [← HQE.out, ← HFE.out]; exact decide_eq_true (.inl ⟨HBZ.out, hq⟩)
          go_wp2_with (first
            | (refine wpList_load_mid rfl 40 _ rfl _ _ rfl cs _ HRG.out Try.underlying40 rfl (by rw [HCL.out]; kernel_rfl) ?_)
            | (refine Ag.wpList_one (by rfl) 22 40 _ (by rfl) cs (by rfl) i0 _ Try.underlying22 hi hz0 (by rw [hz1]; exact HCL.out) (by rw [hz1]; decide) (by rw [hz1]; decide) ?_)
            | (at_builtin; refine wpList_append_own _ rfl _ _ 22 rfl w.heap.size 40 i0 (.agg #[.int .i64 0, .int .i64 0, .int .i64 0, .int .i64 0, .int .i64 0, .string ByteArray.empty, .string ByteArray.empty, .int .u64 0, .int .i64 0, .int .i64 0, .int .i64 0, .int .i64 0]) 12 112 Try.underlying22 hi hz0 hz1 hz2 rfl (by decide) _ _ _ rfl (HO2.out.alloc _) ⟨w2.heap.size, 0, none⟩ 1 1 cs rfl HCL.out (World.news_of_block (Ut.alloc_at _ _)) HC1.out am1 am2 (by simp; exact Nat.le_succ_of_le hzw) ?_; intro v' w3 hown' hgrow _))
          have HU := Lib.hid (HPY.out _ _ _ _ HS.out HO2.out HB2.out hown' hgrow)
          clear hown' hgrow
          go_wp2
          go_roundw
          case rel => exact HU.out
          case measure => simp [intOf]; omega
        · have HS : Hid (ksel ss b k = false) := by show _ = _; unfold ksel; rw [← HQE.out, ← HFE.out]; have hbz := HBZ.out; exact decide_eq_false (by omega)
          have hq2 : 0 ≤ Q := by omega
          have HU := Lib.hid (HPN.out _ HS.out HO2.out HB2.out)
          go_wp2
          go_roundw
          case rel => exact HU.out
          case measure => simp [intOf]; omega
      · have hbq : (b == 0) = false := by rw [beq_eq_false_iff_ne]; exact hb
        have hbn : (b != 0) = true := by simp [hb]
        have HBZ := Lib.hid hb; clear hb
        by_cases hp : F < 0
        · have HS : Hid (ksel ss b k = false) := by show _ = _; unfold ksel; rw [← HQE.out, ← HFE.out]; have hbz := HBZ.out; exact decide_eq_false (by omega)
          have HU := Lib.hid (HPN.out _ HS.out HO2.out HB2.out)
          go_wp2
          go_roundw
          case rel => exact HU.out
          case measure => simp [intOf]; omega
        · have hp2 : 0 ≤ F := by omega
          by_cases he : Q = F
          · have HS : Hid (ksel ss b k = true) := by show _ = _; unfold ksel; rw [← HQE.out, ← HFE.out]; exact decide_eq_true (.inr ⟨HBZ.out, hp2, he⟩)
            subst he
            have hqq : (Q == Q) = true := by simp
            go_wp2_with (first
              | (refine wpList_load_mid rfl 40 _ rfl _ _ rfl cs _ HRG.out Try.underlying40 rfl (by rw [HCL.out]; kernel_rfl) ?_)
              | (refine Ag.wpList_one (by rfl) 22 40 _ (by rfl) cs (by rfl) i0 _ Try.underlying22 hi hz0 (by rw [hz1]; exact HCL.out) (by rw [hz1]; decide) (by rw [hz1]; decide) ?_)
              | (at_builtin; refine wpList_append_own _ rfl _ _ 22 rfl w.heap.size 40 i0 (.agg #[.int .i64 0, .int .i64 0, .int .i64 0, .int .i64 0, .int .i64 0, .string ByteArray.empty, .string ByteArray.empty, .int .u64 0, .int .i64 0, .int .i64 0, .int .i64 0, .int .i64 0]) 12 112 Try.underlying22 hi hz0 hz1 hz2 rfl (by decide) _ _ _ rfl (HO2.out.alloc _) ⟨w2.heap.size, 0, none⟩ 1 1 cs rfl HCL.out (World.news_of_block (Ut.alloc_at _ _)) HC1.out am1 am2 (by simp; exact Nat.le_succ_of_le hzw) ?_; intro v' w3 hown' hgrow _))
            have HU := Lib.hid (HPY.out _ _ _ _ HS.out HO2.out HB2.out hown' hgrow)
            clear hown' hgrow
            go_wp2
            go_roundw
            case rel => exact HU.out
            case measure => simp [intOf]; omega
          · have HS : Hid (ksel ss b k = false) := by show _ = _; unfold ksel; rw [← HQE.out, ← HFE.out]; have hbz := HBZ.out; exact decide_eq_false (by omega)
            have hqq : (Q == F) = false := by rw [beq_eq_false_iff_ne]; exact he
            have HU := Lib.hid (HPN.out _ HS.out HO2.out HB2.out)
            go_wp2
            go_roundw
            case rel => exact HU.out
            case measure => simp [intOf]; omega
    · have b1 : (ss.length : Int) ≤ (k : Int) := by omega
      have e : k = ss.length := by omega
      have h3 := HO.out
      rw [e] at h3
      have HO3 := Lib.hid h3
      clear h h3
      go_wp2
      go_ret
      exact ⟨⟨_, rfl, HO3.out⟩, HB.out⟩
end Vw
end Go.Proofs.Ytocoonkachbjaaa
