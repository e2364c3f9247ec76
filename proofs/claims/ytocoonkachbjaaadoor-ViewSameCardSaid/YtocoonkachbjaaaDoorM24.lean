/- Several texts in one: what each proves its own first comment says. -/
import Derived.Test.YtocoonkachbjaaaDoorM23
import Derived.Test.YtocoonkachbjaaaDoorM4

/- ViewWhole: the law's walk. -/
namespace Go.Proofs.YtocoonkachbjaaaDoor
open Go.RowKit Go.Maps Go.Proofs.NmPlain Go.Proofs.Ar Go.Proofs.YtocoonkachbjaaaDoor.Sc
set_option linter.unusedVariables false
namespace Vw
attribute [local go_sem] Oper.semAt_some

theorem line_post {ls : List ByteArray} {ss : List Sess} {now : Int} {i : Nat} (hi : i < ss.length) {e : Ending} (h : LinePost ls ss[i] now e) : e = .returned (.tuple #[.string (lineS ls ss now i), errVal (lineAt ls ss now i).2]) := by
  unfold LinePost at h
  rw [h]; unfold lineS; rw [lineAt_at hi]
/-- How far the k-th line of the tree is in; what 'last' holds ahead of it. -/
def farK (ss : List Sess) (k : Nat) : Nat := match (ordV ss)[k]? with
  | some x => x.1
  | none => 0
def lastF (ss : List Sess) : Nat → Int
  | 0 => -2
  | k + 1 => 2 * (farK ss k : Int)
theorem farK_at {ss : List Sess} {k : Nat} (h : k < (ordV ss).length) : farK ss k = (ordV ss)[k].1 := by unfold farK; rw [List.getElem?_eq_getElem h]
theorem farK_le {ss : List Sess} {k : Nat} (h : k < (ordV ss).length) : farK ss k ≤ ss.length := by
  rw [farK_at h]; exact ordV_far ss _ (List.getElem_mem h)
theorem lastF_step {ss : List Sess} {k : Nat} (h : k < (ordV ss).length) : 2 * (farK ss k : Int) ≤ lastF ss k + 2 := by
  cases k with
  | zero => rw [farK_at h, ordV_zero ss h]; show (2 : Int) * ((0 : Nat) : Int) ≤ -2 + 2; omega
  | succ k =>
    show _ ≤ 2 * (farK ss k : Int) + 2
    rw [farK_at h, farK_at (Nat.lt_of_succ_lt h)]
    have := ordV_step ss k h
    omega
theorem lastF_bd {ss : List Sess} {k : Nat} (h : k ≤ (ordV ss).length) : -2 ≤ lastF ss k ∧ lastF ss k ≤ 2 * (ss.length : Int) := by
  cases k with
  | zero => exact ⟨Int.le_refl _, by show (-2 : Int) ≤ _; omega⟩
  | succ k =>
    have := farK_le (ss := ss) (k := k) h
    show (-2 : Int) ≤ 2 * (farK ss k : Int) ∧ 2 * (farK ss k : Int) ≤ _
    omega
/-- Which lines were seen, where the law notes it. -/
def SeenAt (sb : Nat) (seen : Nat → Bool) (A : World) : Prop := A.heap[sb]? = some (.cells (arr 100 fun j => .bool (seen j)) 48 (0, 0))
structure WO (T : Nat → ByteArray) (ss : List Sess) (sb : Nat) (W4 : World) (k : Nat) (seen : Nat → Bool) (A : World) : Prop where
  le : k ≤ ss.length
  cnt : ∀ x, cSeen T seen ss.length x = cTree T ((ordV ss).take k) x
  at_ : SeenAt sb seen A
  only : Only (fun x => x = sb) W4 A
theorem SeenAt.set {sb k : Nat} {seen : Nat → Bool} {A : World} (h : SeenAt sb seen A) : SeenAt sb (fun j => if j = k then true else seen j) (A.setCell ⟨sb, k, none⟩ (.bool true)) := by
  unfold SeenAt
  rw [heap_setCell_same _ _ _ _ _ _ h, arr_set]
  have e : (fun i => if i = k then Value.bool true else Value.bool (seen i)) = fun j => .bool (if j = k then true else seen j) := by
    funext i; by_cases hi : i = k <;> simp [hi]
  rw [e]
set_option maxRecDepth 100000 in
set_option maxHeartbeats 2000000 in
theorem viewWhole_core (v : Value) (ss : List Sess) (hlm : (ss.length : Int) ≤ 9223372036854775807) (hok : ∀ s ∈ ss, SessOK s) (now : Int) (wn : (Lit.int .i64 now).wf = true) (w : World) (he : VEnv w) (h1 : SessArg w v ss) :
    Calls Tryd.prog 4 #[v, .int .i64 now] w fun e w' => e = .returned (.bool true) ∧ Below w.heap.size w w' := by
  obtain ⟨p0, c0, rfl, -⟩ := id h1
  have HA := Lib.hid h1
  have HWK := Lib.hid (fun (w' : World) (hb : Below w.heap.size w w') => vworks_any w' (he.below hb))
  have HBK := Lib.hid (vbook_any w he.max)
  have HE := Lib.hid he; have HOK := Lib.hid hok
  clear he h1 hok
  by_cases hbig : 100 < ss.length
  · have b1 : (100 : Int) < (ss.length : Int) := by omega
    clear hbig
    go_enter Tryd.func4, Tryd.ntmps4
    go_wp2_with fail
    refine HBK.out.mono ?_
    rintro e w1 ⟨lo, B, rfl, hB, hb1⟩
    have HB1 := Lib.hid hb1
    clear hB hb1
    go_wp2_with fail
    refine (HWK.out _ HB1.out).mono ?_
    rintro e w2 ⟨rfl, hb2⟩
    have HB2 : Hid (Below w.heap.size w w2) := HB1.out.trans (hb2.mono HB1.out.size)
    clear hb2
    go_wp2_with fail
    refine (HWK.out _ HB2.out).mono ?_
    rintro e w3 ⟨rfl, hb3⟩
    have HB3 : Hid (Below w.heap.size w w3) := HB2.out.trans (hb3.mono HB2.out.size)
    clear hb3
    go_wp2
    go_ret
    exact ⟨rfl, HB3.out⟩
  have b1 : (ss.length : Int) ≤ 100 := by omega
  have HLN := Lib.hid (show ss.length ≤ 100 by omega)
  clear hbig hlm
  go_enter Tryd.func4, Tryd.ntmps4
  go_wp2_with fail
  refine HBK.out.mono ?_
  rintro e w1 ⟨lo, B, rfl, hB, hb1⟩
  have HB1 := Lib.hid hb1; have HB := Lib.hid hB
  clear hB hb1
  go_wp2_with fail
  refine (HWK.out _ HB1.out).mono ?_
  rintro e w2 ⟨rfl, hb2⟩
  have HB12 := Lib.hid hb2
  have HB2 : Hid (Below w.heap.size w w2) := HB1.out.trans (hb2.mono HB1.out.size)
  have HTR := Lib.hid (tree_any vbk_book now wn _ ss (by have := HLN.out; omega) HOK.out w2 (HE.out.below HB2.out) (HB.out.below hb2) (HA.out.below HB2.out))
  clear hb2
  go_wp2_with fail
  refine HTR.out.mono ?_
  rintro e w3 ⟨hp, hb3⟩
  have HB23 := Lib.hid hb3
  have HB3 : Hid (Below w.heap.size w w3) := HB2.out.trans (hb3.mono HB2.out.size)
  clear hb3 HTR
  rcases hp with ⟨i, hi, -, -, rfl⟩ | ⟨hall, d, rfl, hown⟩
  · clear hi
    go_wp2
    go_ret
    exact ⟨rfl, HB3.out⟩
  rw [ordV_len] at hown
  obtain ⟨q, cd, rfl, -⟩ := own_any_shape hown
  have HOWN := Lib.hid hown; have HALL := Lib.hid hall
  clear hown hall
  have hne : ((ss.length : Int) != (ss.length : Int)) = false := by simp
  go_wp2_with fail
  -- THE LOOPS
  have hzc : Tryd.zeroCells48 = arr 100 (fun _ => .bool false) := by kernel_rfl
  rw [hzc]
  clear hzc
  obtain ⟨W4, hW4⟩ : ∃ W4, W4 = w3.alloc (.cells (arr 100 (fun _ => .bool false)) 48) := ⟨_, rfl⟩
  have hwo : WO (lineS vbk ss now) ss w3.heap.size W4 0 (fun _ => false) W4 := ⟨Nat.zero_le _, fun x => by simp [cSeen, cTree], by rw [hW4]; exact Ut.alloc_at _ _, Only.refl _ _⟩
  have hb34 : Below w3.heap.size w3 W4 := by rw [hW4]; exact (Below.refl _ _).alloc (Nat.le_refl _) _
  have HW0 := Lib.hid hwo
  have HON : Hid (∀ A, Only (fun x => x = w3.heap.size) W4 A → Below w3.heap.size w3 A) := fun A h => hb34.trans (h.below hb34.size (fun i hi e => by omega))
  rw [← hW4]
  clear hW4 hwo hb34
  go_loopw [9, 10] (fun la i wr => ∃ (k : Nat) (seen : Nat → Bool), i = .int .i64 k ∧ la = .int .i64 (lastF ss k) ∧ WO (lineS vbk ss now) ss w3.heap.size W4 k seen wr) (fun _ i _ => ss.length - (intOf i).toNat)
  case atStart => exact ⟨0, _, rfl, rfl, HW0.out⟩
  case round =>
    obtain ⟨k, seen, rfl, rfl, hwo⟩ := hrel
    have HWO := Lib.hid hwo
    have hk := hwo.le
    have hbr := HON.out wr hwo.only
    have HBR := Lib.hid hbr
    clear hwo
    have z0 : (0 : Int) ≤ (k : Int) := by omega
    by_cases h : k < ss.length
    · have z1 : (k : Int) < (ss.length : Int) := by omega
      have hko : k < (ordV ss).length := by rw [ordV_len]; exact h
      obtain ⟨pl, hpl⟩ : ∃ pl, pl = (ordV ss)[k] := ⟨_, rfl⟩
      have hpi : pl.2 < ss.length := by rw [hpl]; exact ordV_lt ss _ (List.getElem_mem hko)
      have hfk : farK ss k = pl.1 := by rw [farK_at hko, hpl]
      have hfl := farK_le hko
      have hst := lastF_step hko
      have hbd := lastF_bd (Nat.le_of_lt hko)
      obtain ⟨L, hL⟩ : ∃ L, L = lastF ss k := ⟨_, rfl⟩
      rw [← hL] at hst hbd ⊢
      obtain ⟨c, r, hT, hc, hLs⟩ := treeS_list (ls := vbk) (now := now) (x := pl) hpi (HALL.out _ hpi)
      have hcut := treeS_cut (ls := vbk) (ss := ss) (now := now) (x := pl)
      obtain ⟨TS, hTS⟩ : ∃ TS, TS = treeS vbk ss now pl := ⟨_, rfl⟩
      obtain ⟨X, hX⟩ : ∃ X, X = lineS vbk ss now pl.2 := ⟨_, rfl⟩
      rw [← hTS] at hT hcut
      rw [← hX] at hcut
      obtain ⟨m, hm⟩ : ∃ m : Nat, m = 2 * pl.1 := ⟨_, rfl⟩
      rw [← hm] at hT hcut
      have hsz : m ≤ TS.size := by
        have h1 : TS.size = TS.data.toList.length := rfl
        rw [h1, hT, List.length_append, List.length_replicate]; omega
      have HBL := Lib.hid (fun (W : World) => blanks_any TS m (by have := HLN.out; omega) c r hT hc W)
      have hta : ∀ A, Below w3.heap.size w3 A → ∃ g o, q = some ⟨g, o, none⟩ ∧ A.cell? ⟨g, o + k, none⟩ = some (.string TS) := fun A hb => by
        have h1 : TextArg A (.slice q ss.length cd) ((ordV ss).map (treeS vbk ss now)) := by
          have h2 := Tx.own_arg (ps := (ordV ss).map (treeS vbk ss now)) (w := w3) (v := .slice q ss.length cd) (base := w2.heap.size) (by rw [List.length_map, ordV_len, List.map_map]; exact HOWN.out)
          exact h2.below hb
        obtain ⟨p, cap, e, h3⟩ := h1
        obtain ⟨rfl, -, -⟩ := Value.slice.inj e
        obtain ⟨g, o, h4, -, h5⟩ := h3 k (by rw [List.length_map]; exact hko)
        refine ⟨g, o, h4, ?_⟩
        rw [h5, List.getElem_map, ← hpl, ← hTS]
      obtain ⟨g, o, rfl, x1⟩ := hta wr HBR.out
      have HTA : Hid (∀ A, Below w3.heap.size w3 A → A.cell? ⟨g, o + k, none⟩ = some (.string TS)) := fun A hb => by
        obtain ⟨g', o', e, h9⟩ := hta A hb
        cases e; exact h9
      have q1 : (m : Int).tmod 2 = 0 := by rw [hm]; show ((2 * pl.1 : Nat) : Int).tmod 2 = 0; rw [Int.tmod_eq_emod_of_nonneg (by omega)]; omega
      have q2 : decide (L + 2 < (m : Int)) = false := decide_eq_false (by omega)
      have wL : IntKind.i64.wrap (L + 2) = L + 2 := IntWalk.i64_in _ (by omega)
      have HK := Lib.hid h; have HKO := Lib.hid hko; have HPL := Lib.hid hpl; have HXX := Lib.hid hX
      have HM : Hid ((m : Int) = lastF ss (k + 1)) := by
        show (m : Int) = 2 * (farK ss k : Int)
        rw [hfk, hm]; omega
      have hmz : (m : Int) ≤ (TS.size : Int) := by omega
      have m0 : (0 : Int) ≤ (m : Int) := by omega
      clear h hpi hfk hfl hst hbd hL hT hc hLs hTS hX hm hta hbr
      go_wp2_with fail
      refine (HBL.out wr).mono ?_
      rintro e w5 ⟨rfl, hb5⟩
      have HB45 : Hid (Only (fun x => x = w3.heap.size) W4 w5 ∧ SeenAt w3.heap.size seen w5) := by
        refine ⟨HWO.out.only.trans (Only.of_below hb5) (fun i _ hi => hi), ?_⟩
        have h9 := HWO.out.at_
        exact (hb5.block _ (Array.getElem?_eq_some_iff.1 h9).1).trans h9
      clear hb5 HBL x1
      go_wp2_with fail
      have hd1 : decide (k < ss.length) = true := decide_eq_true HK.out
      go_loopw [12, 13] (fun f j wr => ∃ (mj : Nat) (fb : Bool), mj ≤ ss.length ∧ j = .int .i64 mj ∧ f = .bool fb ∧ Only (fun x => x = w3.heap.size) W4 wr ∧ ((fb = false ∧ (∀ t, t < mj → seen t = true ∨ lineS vbk ss now t ≠ X) ∧ SeenAt w3.heap.size seen wr) ∨ (fb = true ∧ ∃ t, t < ss.length ∧ seen t = false ∧ lineS vbk ss now t = X ∧ SeenAt w3.heap.size (fun j => if j = t then true else seen j) wr))) (fun _ j _ => ss.length - (intOf j).toNat)
      case atStart => exact ⟨0, false, Nat.zero_le _, rfl, rfl, HB45.out.1, .inl ⟨rfl, fun t ht => absurd ht (Nat.not_lt_zero _), HB45.out.2⟩⟩
      case round =>
        obtain ⟨mj, fb, hmj, rfl, rfl, hon, hca⟩ := hrel
        have HON6 := Lib.hid hon; have HCA := Lib.hid hca
        have HB6 := Lib.hid (HON.out wr hon)
        clear hon hca
        have y0 : (0 : Int) ≤ (mj : Int) := by omega
        cases fb with
        | true =>
          have HNX : Hid (∃ seen', WO (lineS vbk ss now) ss w3.heap.size W4 (k + 1) seen' wr) := by
            rcases HCA.out with ⟨h, -⟩ | ⟨-, t, ht, hs, hx, hsa⟩
            · cases h
            · exact ⟨_, HK.out, fun x => cSeen_next HKO.out ht HWO.out.cnt hs (by rw [hx, HXX.out, HPL.out]) x, hsa, HON6.out⟩
          clear HCA
          by_cases h : mj < ss.length
          · have y1 : (mj : Int) < (ss.length : Int) := by omega
            clear h hmj
            obtain ⟨seen', hnx⟩ := HNX.out
            have HNX := Lib.hid hnx
            clear hnx
            go_wp2
            go_roundw
            case rel => exact ⟨k + 1, _, by go_num, by rw [HM.out], HNX.out⟩
            case measure => have := HK.out; simp [intOf]; omega
          · have y1 : (ss.length : Int) ≤ (mj : Int) := by omega
            clear h hmj
            obtain ⟨seen', hnx⟩ := HNX.out
            have HNX := Lib.hid hnx
            clear hnx
            go_wp2
            go_roundw
            case rel => exact ⟨k + 1, _, by go_num, by rw [HM.out], HNX.out⟩
            case measure => have := HK.out; simp [intOf]; omega
        | false =>
          have hne : (∀ t, t < mj → seen t = true ∨ lineS vbk ss now t ≠ X) ∧ SeenAt w3.heap.size seen wr := by
            rcases HCA.out with ⟨-, h⟩ | ⟨h, -⟩
            · exact h
            · cases h
          clear HCA
          by_cases h : mj < ss.length
          · have y1 : (mj : Int) < (ss.length : Int) := by omega
            have hd2 : decide (mj < ss.length) = true := decide_eq_true h
            have HMJ := Lib.hid h
            obtain ⟨g1, o1, rfl, hg1, k1⟩ := HA.out.at HMJ.out
            obtain ⟨cs, hcs⟩ : ∃ cs, cs = ss[mj].cells := ⟨_, rfl⟩
            have hbw : Below w.heap.size w wr := HB3.out.trans (HB6.out.mono HB3.out.size)
            have HRG : Hid (wr.rangeAt g1 (o1 + mj * 12) cs) := fun j u hu => (hbw.cell (p := ⟨g1, o1 + mj * 12 + j, none⟩) hg1).trans (k1 j u (by rw [hcs] at hu; exact hu))
            have HCL : Hid (cs.length = 12) := by show _ = _; rw [hcs]; rfl
            have hlnc : Calls Tryd.prog 16 #[.pointer (some ⟨B, 0, none⟩), .agg cs.toArray, .int .i64 now] wr fun e w' => (e = .returned (.tuple #[.string (lineS vbk ss now mj), .nilIface])) ∧ Below wr.heap.size wr w' := by
              rw [hcs]
              refine (vline_any vbk_book now wn ss[mj] (HOK.out _ (List.getElem_mem HMJ.out)) wr (HE.out.below hbw) (HB.out.below (HB12.out.trans ((HB23.out.trans (HB6.out.mono HB23.out.size)).mono HB12.out.size)))).mono fun e w' hp => ⟨?_, hp.2⟩
              have h3 := line_post HMJ.out hp.1
              rw [HALL.out mj HMJ.out] at h3
              exact h3
            have HLC := Lib.hid hlnc
            have HNE := Lib.hid hne
            obtain ⟨LS, hLS⟩ : ∃ LS, LS = lineS vbk ss now mj := ⟨_, rfl⟩
            rw [← hLS] at HLC
            have HLS := Lib.hid hLS
            clear hlnc hcs k1 hg1 hbw hne h hmj hLS
            go_wp2_with (refine wpList_load_mid (by rfl) 30 _ (by rfl) _ _ (by rfl) cs _ HRG.out Tryd.underlying30 rfl (by rw [HCL.out]; kernel_rfl) ?_)
            refine HLC.out.mono ?_
            rintro e w7 ⟨rfl, hb7⟩
            have HON7 : Hid (Only (fun x => x = w3.heap.size) W4 w7) := HON6.out.trans (Only.of_below hb7) (fun i _ hi => hi)
            have hsa7 : SeenAt w3.heap.size seen w7 := (hb7.block _ (Array.getElem?_eq_some_iff.1 HNE.out.2).1).trans HNE.out.2
            have x4 := HTA.out w7 (HON.out w7 HON7.out)
            have x5 : w7.cell? ⟨w3.heap.size, mj, none⟩ = some (.bool (seen mj)) := by rw [block_cell hsa7, arr_at (by have := HMJ.out; have := HLN.out; omega)]
            have x6 : w7.frozen? ⟨w3.heap.size, mj, none⟩ = false := block_free hsa7 _
            have y2 : (mj : Int) < 100 := by have := HMJ.out; have := HLN.out; omega
            have HSA7 := Lib.hid hsa7
            clear hb7 hsa7 HLC
            cases hs : seen mj with
            | true =>
              rw [hs] at x5
              have HREL : Hid (∀ t, t < mj + 1 → seen t = true ∨ lineS vbk ss now t ≠ X) := fun t ht => by
                rcases Nat.lt_succ_iff_lt_or_eq.1 ht with h9 | rfl
                · exact HNE.out.1 t h9
                · exact .inl hs
              clear hs
              go_wp2
              go_roundw
              case rel => exact ⟨mj + 1, false, HMJ.out, by go_num, rfl, HON7.out, .inl ⟨rfl, HREL.out, HSA7.out⟩⟩
              case measure => have := HMJ.out; simp [intOf]; omega
            | false =>
              rw [hs] at x5
              have HS := Lib.hid hs
              clear hs
              by_cases hx : LS = X
              · have hq : (LS.toList == X.toList) = true := by rw [hx]; simp
                have HEQ : Hid (lineS vbk ss now mj = X) := HLS.out.symm.trans hx
                have HSA8 := Lib.hid (HSA7.out.set (k := mj))
                have HON8 : Hid (Only (fun x => x = w3.heap.size) W4 (w7.setCell ⟨w3.heap.size, mj, none⟩ (.bool true))) := HON7.out.setCell (p := ⟨w3.heap.size, mj, none⟩) (fun _ => rfl) _
                clear hx
                go_wp2
                go_roundw
                case rel => exact ⟨mj + 1, true, HMJ.out, by go_num, rfl, HON8.out, .inr ⟨rfl, mj, HMJ.out, HS.out, HEQ.out, HSA8.out⟩⟩
                case measure => have := HMJ.out; simp [intOf]; omega
              · have hq : (LS.toList == X.toList) = false := by
                  rw [beq_eq_false_iff_ne]; intro h9; exact hx (by rw [Lib.toList_data, Lib.toList_data] at h9; exact ByteArray.ext (Array.toList_inj.1 h9))
                have HREL : Hid (∀ t, t < mj + 1 → seen t = true ∨ lineS vbk ss now t ≠ X) := fun t ht => by
                  rcases Nat.lt_succ_iff_lt_or_eq.1 ht with h9 | rfl
                  · exact HNE.out.1 t h9
                  · exact .inr (by rw [← HLS.out]; exact hx)
                clear hx
                go_wp2
                go_roundw
                case rel => exact ⟨mj + 1, false, HMJ.out, by go_num, rfl, HON7.out, .inl ⟨rfl, HREL.out, HSA7.out⟩⟩
                case measure => have := HMJ.out; simp [intOf]; omega
          · exact (cSeen_some (T := lineS vbk ss now) HKO.out HWO.out.cnt (fun t ht => by
              rw [← HPL.out, ← HXX.out]
              exact hne.1 t (by omega))).elim
    · have z1 : (ss.length : Int) ≤ (k : Int) := by omega
      obtain rfl : k = ss.length := by omega
      clear h
      go_wp2
      go_ret
      exact ⟨rfl, HB3.out.trans (HBR.out.mono HB3.out.size)⟩
end Vw
end Go.Proofs.YtocoonkachbjaaaDoor
