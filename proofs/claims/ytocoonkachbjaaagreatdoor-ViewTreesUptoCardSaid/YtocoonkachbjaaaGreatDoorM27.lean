/- Several texts in one: what each proves its own first comment says. -/
import Derived.Test.YtocoonkachbjaaaGreatDoorM26
import Derived.Test.YtocoonkachbjaaaGreatDoorM15
import Derived.Test.YtocoonkachbjaaaGreatDoorM12
import Derived.Test.YtocoonkachbjaaaGreatDoorM22
import Derived.Test.YtocoonkachbjaaaGreatDoorRows
import Derived.Test.YtocoonkachbjaaaGreatDoorM5

/- The document's Tree. -/
namespace Go.Proofs.YtocoonkachbjaaaGreatDoor
open Go.RowKit Go.Maps Go.Proofs.NmPlain Go.Proofs.Ar Go.Proofs.YtocoonkachbjaaaGreatDoor.Sc
set_option linter.unusedVariables false
namespace Vw
theorem vrline_any {bv : Value} {ls : List ByteArray} (hbk : IsBook ls) (now : Int) (wn : (Lit.int .i64 now).wf = true) (s : Sess) (hs : SessOK s) (hz : s.user.size ≤ 1048576 ∧ s.label.size ≤ 1048576) (w : World) (ha : TextArg w bv ls) :
    Calls Tryz.prog 8 #[bv, .agg s.cells.toArray, .int .i64 now] w fun e w' => RLinePost ls s now e ∧ Below w.heap.size w w' :=
  rline_any bv ls s now wn w ⟨hbk, hs.sc, hz.1, hz.2, ha, hs.wd⟩
theorem rline_post {ls : List ByteArray} {ss : List Sess} {now : Int} {i : Nat} (hi : i < ss.length) {e : Ending} (h : RLinePost ls ss[i] now e) : e = .returned (.tuple #[.string (lineS ls ss now i), .int .i64 (lineAt ls ss now i).2]) := by
  unfold RLinePost at h
  rw [h]; unfold lineS; rw [lineAt_at hi]
def RTreePost (ls : List ByteArray) (ss : List Sess) (now : Int) (base : Nat) (e : Ending) (w' : World) : Prop :=
  (∃ i : Nat, i < ss.length ∧ (∀ j, j < i → (lineAt ls ss now j).2 = 0) ∧ (lineAt ls ss now i).2 ≠ 0 ∧ e = .returned (.tuple #[.slice none 0 0, .int .i64 (lineAt ls ss now i).2, .int .i64 (i : Int)])) ∨
  ((∀ j, j < ss.length → (lineAt ls ss now j).2 = 0) ∧ ∃ d, e = .returned (.tuple #[d, .int .i64 0, .int .i64 0]) ∧ w'.ownsRow base 9 1 d (ordV ss).length (treeV ls ss now (ordV ss)))

theorem rpadS_step (m : Nat) (L : ByteArray) : (⟨#[32, 32]⟩ : ByteArray) ++ (padS m ++ L) = padS (m + 1) ++ L := by
  have h1 : ((⟨#[32, 32]⟩ : ByteArray) ++ (padS m ++ L)).data.toList = (padS (m + 1) ++ L).data.toList := by
    rw [ByteArray.data_append, Array.toList_append, ByteArray.data_append, Array.toList_append, ByteArray.data_append, Array.toList_append]
    show [32, 32] ++ (Lib.repeatL [32, 32] m ++ _) = ([32, 32] ++ Lib.repeatL [32, 32] m) ++ _
    rw [List.append_assoc]
  exact ByteArray.ext (Array.toList_inj.1 h1)
theorem rpadS_zero (L : ByteArray) : padS 0 ++ L = L := by
  have h1 : (padS 0 ++ L).data.toList = L.data.toList := by
    rw [ByteArray.data_append, Array.toList_append]; rfl
  exact ByteArray.ext (Array.toList_inj.1 h1)

set_option maxRecDepth 100000 in
set_option maxHeartbeats 2000000 in
theorem rtree_any {bv : Value} {ls : List ByteArray} (hbk : IsBook ls) (now : Int) (wn : (Lit.int .i64 now).wf = true) (v : Value) (ss : List Sess) (hl : ss.length ≤ 300) (hok : ∀ s ∈ ss, SessOK s) (hsz : ∀ s ∈ ss, s.user.size ≤ 1048576 ∧ s.label.size ≤ 1048576) (w : World) (ha : TextArg w bv ls) (h1 : SessArg w v ss) :
    Calls Tryz.prog 12 #[bv, v, .int .i64 now] w fun e w' => RTreePost ls ss now w.heap.size e w' ∧ Below w.heap.size w w' := by
  obtain ⟨p0, c0, rfl, -⟩ := id h1
  obtain ⟨qb, cb, rfl, -⟩ := id ha
  have HA := Lib.hid h1
  obtain ⟨bv, hbv⟩ : ∃ bv, bv = Value.slice qb ls.length cb := ⟨_, rfl⟩
  have hbs : ∃ q c, bv = .slice q ls.length c := ⟨qb, cb, hbv⟩
  rw [← hbv] at ha ⊢
  have HLN : Hid (∀ (k : Nat) (hk : k < ss.length) (cs : List Value), cs = ss[k].cells → ∀ W, Below w.heap.size w W → Calls Tryz.prog 8 #[bv, .agg cs.toArray, .int .i64 now] W fun e w' => (e = .returned (.tuple #[.string (lineS ls ss now k), .int .i64 (lineAt ls ss now k).2])) ∧ Below W.heap.size W w') := by
    rintro k hk _ rfl W hb
    exact (vrline_any hbk now wn ss[k] (hok _ (List.getElem_mem hk)) (hsz _ (List.getElem_mem hk)) W (ha.below hb)).mono fun e w' hp => ⟨rline_post hk hp.1, hp.2⟩
  have HDP := Lib.hid (fun (W : World) (hb : Below w.heap.size w W) => rdepths_any _ ss (by omega) W (h1.below hb))
  have HOR := Lib.hid (fun (W : World) (hb : Below w.heap.size w W) => rorder_any _ ss (by omega) W (h1.below hb))
  have l0 : (ss.length : Int) ≤ 300 := by omega
  have HL := Lib.hid hl
  obtain ⟨i0, hi0, hz0, hz1, hz2⟩ := info_parts vinfo_str
  clear ha h1 hok hsz hl hbv hbs
  go_enter Tryz.func12, Tryz.ntmps12
  go_wp2_with fail
  go_loopw [9] (fun i wr => ∃ k : Nat, k ≤ ss.length ∧ i = .int .i64 k ∧ (∀ j, j < k → (lineAt ls ss now j).2 = 0) ∧ Below w.heap.size w wr) (fun i _ => ss.length - (intOf i).toNat)
  case atStart => exact ⟨0, Nat.zero_le _, rfl, fun j hj => absurd hj (Nat.not_lt_zero _), Below.refl _ _⟩
  case round =>
    obtain ⟨k, hk, rfl, hall, hb⟩ := hrel
    have HALL := Lib.hid hall; have HB := Lib.hid hb
    clear hall hb
    have z0 : (0 : Int) ≤ (k : Int) := by omega
    by_cases h : k < ss.length
    · have z1 : (k : Int) < (ss.length : Int) := by omega
      have HK := Lib.hid h
      obtain ⟨g1, o1, rfl, hg1, k1⟩ := HA.out.at HK.out
      obtain ⟨cs, hcs⟩ : ∃ cs, cs = ss[k].cells := ⟨_, rfl⟩
      have HRG : Hid (wr.rangeAt g1 (o1 + k * 12) cs) := fun j u hu => (HB.out.cell (p := ⟨g1, o1 + k * 12 + j, none⟩) hg1).trans (k1 j u (by rw [hcs] at hu; exact hu))
      have HCL : Hid (cs.length = 12) := by show _ = _; rw [hcs]; rfl
      have hln := HLN.out k HK.out cs hcs wr HB.out
      obtain ⟨no, hno⟩ : ∃ no, no = (lineAt ls ss now k).2 := ⟨_, rfl⟩
      rw [← hno] at hln
      have HLN2 := Lib.hid hln; have HNO := Lib.hid hno
      clear hln hcs h hk k1 hg1 hno
      go_wp2_with (refine wpList_load_mid (by rfl) 30 _ (by rfl) _ _ (by rfl) cs _ HRG.out Tryz.underlying30 rfl (by rw [HCL.out]; kernel_rfl) ?_)
      refine HLN2.out.mono ?_
      rintro e w2 ⟨rfl, hb2⟩
      have HB2 : Hid (Below w.heap.size w w2) := HB.out.trans (hb2.mono HB.out.size)
      clear hb2
      by_cases h0 : no = 0
      · have hq : (no != 0) = false := by simp [h0]
        have HN : Hid (∀ j, j < k + 1 → (lineAt ls ss now j).2 = 0) := fun j hj => by
          rcases Nat.lt_succ_iff_lt_or_eq.1 hj with h9 | rfl
          · exact HALL.out j h9
          · rw [← HNO.out]; exact h0
        clear h0
        go_wp2
        go_roundw
        case rel => exact ⟨k + 1, HK.out, by go_num, HN.out, HB2.out⟩
        case measure => have := HK.out; simp [intOf]; omega
      · have hq : (no != 0) = true := by simp [h0]
        have HN0 : Hid ((lineAt ls ss now k).2 ≠ 0) := by show _ ≠ _; rw [← HNO.out]; exact h0
        clear h0
        go_wp2
        go_ret3
        exact ⟨.inl ⟨k, HK.out, HALL.out, HN0.out, by rw [← HNO.out]; rfl⟩, HB2.out⟩
    · have z1 : (ss.length : Int) ≤ (k : Int) := by omega
      obtain rfl : k = ss.length := by omega
      have hd0 : decide (ss.length < ss.length) = false := decide_eq_false h
      clear h hk
      go_wp2_with fail
      refine (HDP.out wr HB.out).mono ?_
      rintro e w3 ⟨⟨dd, rfl, hod⟩, hb3⟩
      obtain ⟨qd, cd, rfl, -⟩ := own_any_shape hod
      have HOD := Lib.hid hod; have HB13 := Lib.hid hb3
      have HB3 : Hid (Below w.heap.size w w3) := HB.out.trans (hb3.mono HB.out.size)
      clear hod hb3
      go_wp2_with fail
      refine (HOR.out w3 HB3.out).mono ?_
      rintro e w4 ⟨⟨dd, rfl, hoo⟩, hb4⟩
      obtain ⟨qo, co, rfl, -⟩ := own_any_shape hoo
      have HOO := Lib.hid hoo; have HB34 := Lib.hid hb4
      have HB4 : Hid (Below w.heap.size w w4) := HB3.out.trans (hb4.mono HB3.out.size)
      clear hoo hb4
      have HOD4 : Hid (∀ A, Below w4.heap.size w4 A → In.IntArg A (.slice qd ss.length cd) ((List.range ss.length).map fun j => (Vt.dep (bu ss) j : Int)) ∧ In.IntArg A (.slice qo ss.length co) (ints (Vt.ordI (bu ss) ss.length))) := fun A hb => by
        have h3 : Below w3.heap.size w3 A := HB34.out.trans (hb.mono HB34.out.size)
        refine ⟨?_, ?_⟩
        · refine In.own_ints (f := Value.int .i64) (n := ss.length) (fun _ => rfl) (by simp) (base := wr.heap.size) ?_
          have h4 := own_keep HOD.out (fun b e => h3.block b (HOD.out.lt b e).2)
          have e : ((List.range ss.length).map fun j => (Vt.dep (bu ss) j : Int)).map (Value.int .i64) = (List.range ss.length).map (dv (bu ss)) := by rw [List.map_map]; rfl
          rw [e]; exact h4
        · have h4 := own_keep HOO.out (fun b e => hb.block b (HOO.out.lt b e).2)
          exact nv_ints h4
      have HS4 : Hid (∀ A, Below w4.heap.size w4 A → Below w.heap.size w A) := fun A hb => HB4.out.trans (hb.mono HB4.out.size)
      go_wp2_with fail
      obtain ⟨wo, rfl⟩ : ∃ x, x = wr := ⟨_, rfl⟩
      go_loopw [14, 15] (fun d i wr => ∃ k : Nat, k ≤ ss.length ∧ i = .int .i64 k ∧ wr.ownsRow w4.heap.size 9 1 d k (treeV ls ss now ((ordV ss).take k)) ∧ Below w4.heap.size w4 wr) (fun _ i _ => ss.length - (intOf i).toNat)
      case atStart => exact ⟨0, Nat.zero_le _, rfl, World.ownsRow_nil _ _ _ _, Below.refl _ _⟩
      case round =>
        obtain ⟨k, hk, rfl, hown, hb⟩ := hrel
        obtain ⟨qz, cz, rfl, -⟩ := own_any_shape hown
        have HO := Lib.hid hown; have HB5 := Lib.hid hb
        clear hown hb
        have z0' : (0 : Int) ≤ (k : Int) := by omega
        by_cases h : k < ss.length
        · have z1' : (k : Int) < (ss.length : Int) := by omega
          have hko : k < (ordV ss).length := by rw [ordV_len]; exact h
          have hd1 : decide (k < ss.length) = true := decide_eq_true h
          obtain ⟨far, hfar⟩ : ∃ far, far = (ordV ss)[k].1 := ⟨_, rfl⟩
          obtain ⟨i, hi⟩ : ∃ i, i = (ordV ss)[k].2 := ⟨_, rfl⟩
          have hin : i < ss.length := by rw [hi]; exact ordV_lt ss _ (List.getElem_mem hko)
          have hfl : far ≤ 300 := by have := ordV_far ss _ (List.getElem_mem hko); have := HL.out; rw [hfar]; omega
          have hdp : Vt.dep (bu ss) i = far := by
            have h9 : (ordV ss)[k] ∈ Vt.ordL (bu ss) ss.length := by rw [← ordV_ordL]; exact List.getElem_mem hko
            rw [hfar, hi]; exact (Vt.ord_dep (bu ss) ss.length _ h9).symm
          have hoi : (ints (Vt.ordI (bu ss) ss.length))[k]? = some (i : Int) := by
            unfold ints Vt.ordI
            rw [List.map_map, List.getElem?_map, ← ordV_ordL, List.getElem?_eq_getElem hko, hi]; rfl
          have hcell : ∀ A, Below w4.heap.size w4 A → ∃ ga oa gb ob, qo = some ⟨ga, oa, none⟩ ∧ qd = some ⟨gb, ob, none⟩ ∧ A.cell? ⟨ga, oa + k, none⟩ = some (.int .i64 i) ∧ A.cell? ⟨gb, ob + i, none⟩ = some (.int .i64 far) := fun A hb => by
            obtain ⟨⟨p1, c1, e1, h1⟩, ⟨p2, c2, e2, h2⟩⟩ := HOD4.out A hb
            obtain ⟨rfl, -, -⟩ := Value.slice.inj e1
            obtain ⟨rfl, -, -⟩ := Value.slice.inj e2
            obtain ⟨gb, ob, k1, -, k2⟩ := h1 i (by simpa using hin)
            have hkl : k < (ints (Vt.ordI (bu ss) ss.length)).length := (List.getElem?_eq_some_iff.1 hoi).1
            obtain ⟨ga, oa, k3, -, k4⟩ := h2 k hkl
            refine ⟨ga, oa, gb, ob, k3, k1, ?_, ?_⟩
            · rw [k4, (List.getElem?_eq_some_iff.1 hoi).2]
            · rw [k2]; simp [hdp]
          obtain ⟨ga, oa, gb, ob, rfl, rfl, x1, -⟩ := hcell wr HB5.out
          have HCE : Hid (∀ A, Below w4.heap.size w4 A → A.cell? ⟨ga, oa + k, none⟩ = some (.int .i64 i) ∧ A.cell? ⟨gb, ob + i, none⟩ = some (.int .i64 far)) := fun A hb => by
            obtain ⟨ga', oa', gb', ob', e1, e2, h1, h2⟩ := hcell A hb
            cases e1; cases e2
            exact ⟨h1, h2⟩
          have HK := Lib.hid h; have HIN := Lib.hid hin
          obtain ⟨g1, o1, rfl, hg1, k1⟩ := HA.out.at HIN.out
          obtain ⟨cs, hcs⟩ : ∃ cs, cs = ss[i].cells := ⟨_, rfl⟩
          have hbw := HS4.out wr HB5.out
          have HRG : Hid (wr.rangeAt g1 (o1 + i * 12) cs) := fun j u hu => (hbw.cell (p := ⟨g1, o1 + i * 12 + j, none⟩) hg1).trans (k1 j u (by rw [hcs] at hu; exact hu))
          have HCL : Hid (cs.length = 12) := by show _ = _; rw [hcs]; rfl
          have hln := HLN.out i HIN.out cs hcs wr hbw
          rw [HALL.out i HIN.out] at hln
          obtain ⟨LS, hLS⟩ : ∃ LS, LS = lineS ls ss now i := ⟨_, rfl⟩
          rw [← hLS] at hln
          have HLN2 := Lib.hid hln
          have HLZ : Hid (LS.size ≤ 20000) := by show _ ≤ _; rw [hLS]; exact lineS_size hbk ss now i
          have HTS : Hid (padS far ++ LS = treeS ls ss now (ordV ss)[k]) := by show _ = _; unfold treeS; rw [hLS, hfar, hi]
          have HFL := Lib.hid hfl
          have i0' : (0 : Int) ≤ (i : Int) := by omega
          have i1' : (i : Int) < (ss.length : Int) := by omega
          clear hln hcs h hk k1 hg1 hLS hfar hi hin hfl hdp hoi hcell hbw
          go_wp2_with (refine wpList_load_mid (by rfl) 30 _ (by rfl) _ _ (by rfl) cs _ HRG.out Tryz.underlying30 rfl (by rw [HCL.out]; kernel_rfl) ?_)
          refine HLN2.out.mono ?_
          rintro e w5 ⟨rfl, hb5⟩
          have HB6 : Hid (Below w4.heap.size w4 w5) := HB5.out.trans (hb5.mono HB5.out.size)
          have HO5 : Hid (w5.ownsRow w4.heap.size 9 1 (.slice qz k cz) k (treeV ls ss now ((ordV ss).take k))) := own_keep HO.out (fun b e => hb5.block b (HO.out.lt b e).2)
          obtain ⟨y1, y2⟩ := HCE.out w5 HB6.out
          clear hb5 HLN2 x1
          go_wp2_with fail
          go_loopw [16, 18] (fun s j wr => ∃ m : Nat, m ≤ far ∧ j = .int .i64 m ∧ s = .string (padS m ++ LS) ∧ wr = w5) (fun _ j _ => far - (intOf j).toNat)
          case atStart => exact ⟨0, Nat.zero_le _, rfl, by rw [rpadS_zero], rfl⟩
          case round =>
            obtain ⟨m, hm, rfl, rfl, rfl⟩ := hrel
            have m0 : (0 : Int) ≤ (m : Int) := by omega
            by_cases h : m < far
            · have m1 : (m : Int) < (far : Int) := by omega
              have HM := Lib.hid h
              have hstep := rpadS_step m LS
              have hcat : ¬ (9223372036854775807 < (⟨#[32, 32]⟩ : ByteArray).size + (padS m ++ LS).size) := by
                rw [ByteArray.size_append, padS_size]
                have := HLZ.out; have := HFL.out
                have h2 : (⟨#[32, 32]⟩ : ByteArray).size = 2 := rfl
                omega
              obtain ⟨PL, hPL⟩ : ∃ PL, PL = padS m ++ LS := ⟨_, rfl⟩
              obtain ⟨PN, hPN⟩ : ∃ PN, PN = padS (m + 1) ++ LS := ⟨_, rfl⟩
              rw [← hPL, ← hPN] at hstep
              rw [← hPL] at hcat ⊢
              have HPN := Lib.hid hPN
              have hw1 : wrap64 ((m : Int) + 1) = ((m + 1 : Nat) : Int) := by have := HFL.out; rw [IntWalk.wrap64_in _ (by omega)]; rfl
              have HW1 := Lib.hid hw1
              clear h hPL hPN hm hw1
              go_wp2
              go_roundw
              case rel => rw [HW1.out]; exact ⟨m + 1, HM.out, rfl, by rw [HPN.out], trivial⟩
              case measure => rw [HW1.out]; have := HM.out; simp [intOf]; omega
            · have m1 : (far : Int) ≤ (m : Int) := by omega
              obtain rfl : m = far := by omega
              have hdm : decide (m < m) = false := decide_eq_false h
              rw [HTS.out]
              obtain ⟨TV, hTV⟩ : ∃ TV, TV = treeS ls ss now (ordV ss)[k] := ⟨_, rfl⟩
              rw [← hTV]
              have am1 : k + 1 ≤ maxLen := by have := HL.out; have := HK.out; unfold maxLen; omega
              have am2 : (k + 1) * 16 ≤ 140737488355328 := by have := HL.out; have := HK.out; omega
              have hbz := HB6.out.size
              have k3 : w4.heap.size ≤ (wr.alloc (.cells #[.string TV] 9)).heap.size := by rw [World.size_alloc]; omega
              have HTV := Lib.hid hTV
              clear h hm hTV hbz
              go_wp2_with (at_builtin; (refine wpList_append_own_at _ rfl _ _ 22 rfl w4.heap.size 9 i0 (.string ByteArray.empty) 1 16 Tryz.underlying22 hi0 hz0 hz1 hz2 rfl (by decide) _ _ _ rfl (HO5.out.alloc _) ⟨wr.heap.size, 0, none⟩ 1 1 [.string TV] rfl rfl (World.news_of_block (Ut.alloc_at _ _)) (by intro u hu; rw [List.mem_singleton.1 hu]; rfl) am1 am2 k3 ?_); (intro v' w1 hown' hgrow hnil hat; obtain ⟨q', r', rfl, -⟩ := own_any_shape hown'; have HBN := Lib.hid (below_app HB6.out HB6.out.size HO5.out hgrow); have HON := Lib.hid hown'; clear hown' hgrow hat hnil))
              go_roundw
              case rel =>
                refine ⟨k + 1, HK.out, by go_num, ?_, HBN.out⟩
                have e : treeV ls ss now ((ordV ss).take (k + 1)) = treeV ls ss now ((ordV ss).take k) ++ [.string TV] := by
                  unfold treeV
                  rw [← List.take_append_getElem hko, List.map_append, HTV.out]; rfl
                rw [e]; exact HON.out
              case measure => have := HK.out; simp [intOf]; omega
        · have z1' : (ss.length : Int) ≤ (k : Int) := by omega
          obtain rfl : k = ss.length := by omega
          have HT : Hid ((ordV ss).take ss.length = ordV ss) := List.take_of_length_le (by rw [ordV_len]; exact Nat.le_refl _)
          clear h hk
          go_wp2
          go_ret3
          refine ⟨.inr ⟨HALL.out, _, rfl, ?_⟩, HS4.out _ HB5.out⟩
          have h9 := HO.out
          rw [HT.out] at h9
          rw [ordV_len]
          exact Ut.own_base h9 HB4.out.size
end Vw
end Go.Proofs.YtocoonkachbjaaaGreatDoor

/- lineagekit.KeptFullSessions, KeptSessions: a lent list that lies as it was lent. -/
namespace Go.Proofs.YtocoonkachbjaaaGreatDoor
open Go.RowKit
set_option linter.unusedVariables false
namespace Vw
theorem fullS_at {ss : List Sess} {k : Nat} (h : k < (ss ++ mks 16).length) : (ss ++ mks 16)[k] = if h2 : k < ss.length then ss[k] else mkS (k - ss.length) := by
  rw [List.getElem_append]
  split
  · rfl
  · simp [mks]

set_option maxRecDepth 100000 in
set_option maxHeartbeats 4000000 in
theorem keptFullS_any (v u : Value) (ss : List Sess) (hl : ss.length ≤ 65536) (w : World) (h1 : SessArg w v (ss ++ mks 16)) (h2 : SessArg w u ss) :
    Calls Tryz.prog 48 #[v, u] w fun e w' => e = .returned (.bool true) ∧ Below w.heap.size w w' := by
  have hlen : (ss ++ mks 16).length = ss.length + 16 := by rw [List.length_append, mks_len]
  obtain ⟨p, cp, rfl, -⟩ := id h1
  obtain ⟨q, cq, rfl, -⟩ := id h2
  have H1 := Lib.hid h1; have H2 := Lib.hid h2
  have HLN := Lib.hid hlen
  rw [hlen] at H1 ⊢
  clear h1 h2 hlen
  have b0 : (ss.length : Int) ≤ 65536 := by omega
  have e0 : (((ss.length + 16 : Nat) : Int) != (ss.length : Int) + 16) = false := by rw [bne_eq_false_iff_eq]; omega
  have b1 : ((ss.length + 16 : Nat) : Int) ≤ 65552 := by omega
  obtain ⟨n, hn⟩ : ∃ n, n = ss.length + 16 := ⟨_, rfl⟩
  have hn2 : ss.length ≤ n := by omega
  have HN := Lib.hid hn
  rw [← hn] at e0 b1 H1 ⊢
  clear hl hn
  go_enter Tryz.func48, Tryz.ntmps48
  go_wp2
  go_loopw [5, 6] (fun i _ wr => ∃ k : Nat, k ≤ n ∧ i = .int .i64 k ∧ Below w.heap.size w wr) (fun i _ _ => n - (intOf i).toNat)
  case atStart => exact ⟨0, Nat.zero_le _, rfl, Below.refl _ _⟩
  case round =>
    obtain ⟨k, hk, rfl, hbl⟩ := hrel
    have HBL := Lib.hid hbl
    clear hbl
    have b2 : (0 : Int) ≤ (k : Int) := by omega
    by_cases h : k < n
    · have b3 : (k : Int) < (n : Int) := by omega
      have hk1 : k < (ss ++ mks 16).length := by rw [HLN.out, ← HN.out]; exact h
      obtain ⟨g1, o1, rfl, hg1, k1⟩ := H1.out.at hk1
      obtain ⟨sk, hsk⟩ : ∃ sk, sk = (ss ++ mks 16)[k] := ⟨_, rfl⟩
      rw [← hsk] at k1
      rw [fullS_at hk1] at hsk
      have HR1 : Hid (∀ w', Below w.heap.size w w' → w'.rangeAt g1 (o1 + k * 12) sk.cells) := fun w' hb j x hx => (hb.cell (p := ⟨g1, o1 + k * 12 + j, none⟩) hg1).trans (k1 j x hx)
      have HG1 := Lib.hid hg1
      clear k1 hk1 hg1
      have HSL : Hid (sk.cells.length = 12) := rfl
      have HS1 := Lib.hid sk.one
      by_cases hs : k < ss.length
      · rw [dif_pos hs] at hsk
        obtain ⟨g2, o2, rfl, hg2, k2⟩ := H2.out.at hs
        rw [← hsk] at k2
        have HR2 : Hid (∀ w', Below w.heap.size w w' → w'.rangeAt g2 (o2 + k * 12) sk.cells) := fun w' hb j x hx => (hb.cell (p := ⟨g2, o2 + k * 12 + j, none⟩) hg2).trans (k2 j x hx)
        have b4 : (k : Int) < (ss.length : Int) := by omega
        have hmt := Lib.hid (fun w' => markS_neg ((k : Int) - (ss.length : Int)) (by omega) (by omega) w')
        clear k2 hsk hg2
        go_wp2_with fail
        refine (hmt.out _).mono ?_
        rintro e w2 ⟨t, rfl, hb2⟩
        obtain ⟨cs, hcs⟩ : ∃ cs, cs = (mkT t).cells := ⟨_, rfl⟩
        have HCL : Hid (cs.length = 12) := by show _ = _; rw [hcs]; rfl
        have HC1 : Hid (∀ u ∈ cs, u.oneCell' = true) := by show ∀ _, _; rw [hcs]; exact (mkT t).one
        rw [← hcs]
        have HB2 := Lib.hid (HBL.out.trans (hb2.mono HBL.out.size))
        have hzw : w.heap.size ≤ w2.heap.size := HB2.out.size
        obtain ⟨ck, hck⟩ : ∃ ck, ck = sk.cells := ⟨_, rfl⟩
        have HKL : Hid (ck.length = 12) := by show _ = _; rw [hck]; rfl
        have HK1 : Hid (∀ u ∈ ck, u.oneCell' = true) := by show ∀ _, _; rw [hck]; exact sk.one
        have HRA : Hid ((w2.alloc (.cells cs.toArray 30)).rangeAt g2 (o2 + k * 12) ck) := by show _; rw [hck]; exact HR2.out _ (HB2.out.alloc hzw _)
        have HBA : Hid (Below w.heap.size w (w2.alloc (.cells sk.cells.toArray 30))) := HB2.out.alloc hzw _
        have HQ1 : Hid (∀ w', (∃ n, w' = (w2.alloc (.cells sk.cells.toArray 30)).drewN n) → w'.rangeAt g1 (o1 + k * 12) sk.cells) := by rintro w' ⟨n, rfl⟩ j x hx; rw [World.cell?_drewN]; exact HR1.out _ HBA.out j x hx
        have HQ2 : Hid (∀ w', (∃ n, w' = (w2.alloc (.cells sk.cells.toArray 30)).drewN n) → w'.rangeAt w2.heap.size 0 sk.cells) := by
          rintro w' ⟨n, rfl⟩ j x hx
          rw [World.cell?_drewN, Nat.zero_add, block_cell (Ut.alloc_at _ _)]
          simpa using hx
        have HCK := Lib.hid hck
        clear hb2 hcs hck hs
        go_wp2_with (first
          | (refine Ag.wpList_store_new (by rfl) 30 (.tmp 6) (.tmp 23) (by rfl) cs (by rfl) (by rfl) (by rw [HCL.out]; kernel_rfl) (by rw [HCL.out]; rfl) HC1.out ?_)
          | (refine wpList_load_mid (by rfl) 30 (.tmp 30) (by rfl) _ _ (by rfl) ck _ HRA.out Tryz.underlying30 rfl (by rw [HKL.out]; kernel_rfl) ?_)
          | (refine Ag.wpList_store_new (by rfl) 30 (.tmp 6) (.tmp 31) (by rfl) ck (by rfl) (by rfl) (by rw [HKL.out]; kernel_rfl) (by rw [List.size_toArray, HCL.out, HKL.out]) HK1.out ?_))
        rw [HCK.out]
        clear HRA
        refine wp_region_quiet_lit (by kernel_rfl) (by kernel_rfl) ?_
        quiet_step (fail)
        quiet_step (fail)
        quiet_step (fail)
        refine wpQuiet_load_mid (by rfl) 30 (.tmp 34) rfl g1 (o1 + k * 12) rfl sk.cells _ HQ1.out Tryz.underlying30 rfl (by kernel_rfl) ?_
        refine wpQuiet_load_mid (by rfl) 30 (.tmp 6) rfl w2.heap.size 0 rfl sk.cells _ HQ2.out Tryz.underlying30 rfl (by kernel_rfl) ?_
        refine wpQuiet_value (.bool false) (by rfl) (fun w' _ => exec_neq_sess sk _ (.tmp 35) (.tmp 36) rfl rfl rfl w') ?_
        refine wpQuiet_nil ?_
        rintro _ ⟨nq, rfl⟩
        go_wp2
        go_roundw
        case rel => exact ⟨k + 1, by omega, by go_num, Ut.below_drewN HBA.out _⟩
        case measure => simp [intOf]; omega
      · rw [dif_neg hs] at hsk
        have b4 : (ss.length : Int) ≤ (k : Int) := by omega
        have hkn : k < ss.length + 16 := by rw [← HN.out]; exact h
        have e1 : (k : Int) - (ss.length : Int) = ((k - ss.length : Nat) : Int) := by omega
        have hmt := Lib.hid (fun w' => markS_any (k - ss.length) (by omega) w')
        rw [← e1, ← hsk] at hmt
        clear hsk hkn e1 hs
        go_wp2_with fail
        refine (hmt.out _).mono ?_
        rintro e w2 ⟨rfl, hb2⟩
        have HB2 := Lib.hid (HBL.out.trans (hb2.mono HBL.out.size))
        have hzw : w.heap.size ≤ w2.heap.size := HB2.out.size
        have HBA : Hid (Below w.heap.size w (w2.alloc (.cells sk.cells.toArray 30))) := HB2.out.alloc hzw _
        have HQ1 : Hid (∀ w', (∃ n, w' = (w2.alloc (.cells sk.cells.toArray 30)).drewN n) → w'.rangeAt g1 (o1 + k * 12) sk.cells) := by rintro w' ⟨n, rfl⟩ j x hx; rw [World.cell?_drewN]; exact HR1.out _ HBA.out j x hx
        have HQ2 : Hid (∀ w', (∃ n, w' = (w2.alloc (.cells sk.cells.toArray 30)).drewN n) → w'.rangeAt w2.heap.size 0 sk.cells) := by
          rintro w' ⟨n, rfl⟩ j x hx
          rw [World.cell?_drewN, Nat.zero_add, block_cell (Ut.alloc_at _ _)]
          simpa using hx
        obtain ⟨cs, hcs⟩ : ∃ cs, cs = sk.cells := ⟨_, rfl⟩
        have HCK := Lib.hid hcs
        rw [← hcs] at HSL HS1 ⊢
        clear hb2 hcs
        go_wp2_with (refine Ag.wpList_store_new (by rfl) 30 (.tmp 6) (.tmp 23) (by rfl) cs (by rfl) (by rfl) (by rw [HSL.out]; kernel_rfl) (by rw [HSL.out]; rfl) HS1.out ?_)
        rw [HCK.out]
        refine wp_region_quiet_lit (by kernel_rfl) (by kernel_rfl) ?_
        quiet_step (fail)
        quiet_step (fail)
        quiet_step (fail)
        refine wpQuiet_load_mid (by rfl) 30 (.tmp 34) rfl g1 (o1 + k * 12) rfl sk.cells _ HQ1.out Tryz.underlying30 rfl (by kernel_rfl) ?_
        refine wpQuiet_load_mid (by rfl) 30 (.tmp 6) rfl w2.heap.size 0 rfl sk.cells _ HQ2.out Tryz.underlying30 rfl (by kernel_rfl) ?_
        refine wpQuiet_value (.bool false) (by rfl) (fun w' _ => exec_neq_sess sk _ (.tmp 35) (.tmp 36) rfl rfl rfl w') ?_
        refine wpQuiet_nil ?_
        rintro _ ⟨nq, rfl⟩
        go_wp2
        go_roundw
        case rel => exact ⟨k + 1, by omega, by go_num, Ut.below_drewN HBA.out _⟩
        case measure => simp [intOf]; omega
    · have b3 : (n : Int) ≤ (k : Int) := by omega
      go_wp2
      go_ret
      exact ⟨rfl, HBL.out⟩

set_option maxRecDepth 100000 in
set_option maxHeartbeats 2000000 in
theorem keptS_any (base g c : Nat) (u : Value) (ss : List Sess) (hl : ss.length ≤ 65536) (w : World) (h1 : LentS base g c ss w) (hc : ss.length + 16 ≤ c) (h2 : SessArg w u ss) :
    Calls Tryz.prog 16 #[.slice (some ⟨g, 0, none⟩) ss.length c, u] w fun e w' => e = .returned (.bool true) ∧ Below w.heap.size w w' := by
  have HF := Lib.hid (keptFullS_any (.slice (some ⟨g, 0, none⟩) (ss.length + 16) c) u ss hl w h1.whole h2)
  obtain ⟨q, cq, rfl, -⟩ := h2
  have b0 : (ss.length : Int) ≤ 65536 := by omega
  have e0 : ((ss.length : Int) != (ss.length : Int)) = false := by simp
  have c0 : (0 : Int) ≤ (ss.length : Int) + 16 := by omega
  have c1 : (ss.length : Int) + 16 ≤ (c : Int) := by omega
  have e1 : ((ss.length : Int) + 16).toNat = ss.length + 16 := by omega
  clear hl h1
  go_enter Tryz.func16, Tryz.ntmps16
  go_wp2_with fail
  refine HF.out.mono ?_
  rintro e w1 ⟨rfl, hb⟩
  go_wp2
  go_ret
  exact ⟨rfl, hb⟩
end Vw
end Go.Proofs.YtocoonkachbjaaaGreatDoor

/- Lists of texts among the arguments, with the bulk of their reading. -/
namespace Go.Proofs.YtocoonkachbjaaaGreatDoor
open Go.RowKit Go.ChangeShapes Go.WideShapes Go.Deep Go.Proofs.Ar
set_option linter.unusedVariables false

theorem bulk_mem {H : Type} : ∀ (l : List (DataW H)) (x : DataW H), x ∈ l → Rows.uptoBulk x ≤ Rows.uptoBulkAll l
  | [], x, h => by simp at h
  | a :: r, x, h => by
    rw [Rows.uptoBulkAll]
    rcases List.mem_cons.1 h with rfl | h
    · omega
    · have := bulk_mem r x h; omega

theorem arg_texts_up {H : Type} {enc : TypeId × Value → H} {P : Program} {w : World} {t e : TypeId} {r : Reach} {b0 : Nat} {v : Value} {d : DataW H} {p : List MemPlace} (ht : P.underlying t = some (.slice e)) (he : P.underlying e = some .string) (hc : P.cellsOf e = 1)
    (hv : Value.okWide P w r b0 t v) (h : DataW.Trod enc P w 0 (fun _ => true) true t v d p) :
    ∃ ps : List ByteArray, TextArg w v ps ∧ (∀ s ∈ ps, s.size ≤ maxLen) ∧ ps.length ≤ maxLen ∧ ∀ s ∈ ps, s.size ≤ Rows.uptoBulk d := by
  obtain ⟨a0, len, cap, rfl⟩ := okWide_slice ht hv
  obtain ⟨fuel, hf⟩ := h
  rcases open_strs ht he hc hf with ⟨hcs, hx⟩ | ⟨a, len', cap', m, Sx, hcs, _, hl, hm, hmm, hx, hcell⟩
  · simp [Value.cells] at hcs
    obtain ⟨rfl, rfl, rfl⟩ := hcs
    exact ⟨[], ⟨none, 0, rfl, fun j hj => absurd hj (Nat.not_lt_zero _)⟩, by simp, by simp, by simp⟩
  · simp [Value.cells] at hcs
    obtain ⟨rfl, rfl, rfl⟩ := hcs
    simp only [if_true] at hmm
    subst hmm
    refine ⟨(List.range len).map Sx, ⟨some a, m, by simp, fun j hj => ?_⟩, fun s hs => ?_, by simp; omega, fun s hs => ?_⟩
    · have hj' : j < len := by simpa using hj
      have h0 := (hcell 0 (by omega)).1
      have hp := plain_of_cell (w := w) (a := a) (by simpa [Addr.add] using h0)
      have hjc := (hcell j (by omega)).1
      refine ⟨a.block, a.off, by rw [← hp], lt_of_cell (w := w) (a := a) (by simpa [Addr.add] using h0), ?_⟩
      rw [hp, add_plain_] at hjc
      simpa using hjc
    · obtain ⟨i, hi, rfl⟩ := List.mem_map.1 hs
      exact (hcell i (by have := List.mem_range.1 hi; omega)).2
    · obtain ⟨i, hi, rfl⟩ := List.mem_map.1 hs
      have hd := congrArg Prod.fst hx
      simp only at hd
      subst hd
      rw [Rows.uptoBulk]
      have hb := bulk_mem ((List.range len).map fun i => (DataW.lit (.string (Sx i).data.toList) : DataW H)) (.lit (.string (Sx i).data.toList)) (List.mem_map.2 ⟨i, hi, rfl⟩)
      rw [Rows.uptoBulk] at hb
      have e : (Sx i).data.toList.length = (Sx i).size := by simp
      omega

end Go.Proofs.YtocoonkachbjaaaGreatDoor

/- Arguments that are lists of structs whose cells are numbers, texts and bools, structs within structs among them. Of any program. -/
namespace Go.Proofs.Ar
open Go.RowKit Go.ChangeShapes Go.WideShapes Go.Deep
set_option linter.unusedVariables false

/-- The cells' types, one behind the other. -/
def leavesFs (P : Program) (g : TypeId → Option (List TypeId)) : List Field → Nat → Option (List TypeId)
  | [], _ => some []
  | fd :: r, o => if fd.offset = o then (g fd.type).bind fun m => if P.cellsOf fd.type = m.length then (leavesFs P g r (o + m.length)).map fun z => m ++ z else none else none
def leaves (P : Program) : Nat → TypeId → Option (List TypeId)
  | 0, _ => none
  | f + 1, t => match P.underlying t with
    | some (.struct fs) => (leavesFs P (leaves P f) fs.toList 0).bind fun l => if P.cellsOf t = l.length then some l else none
    | some .string => some [t]
    | some .bool => some [t]
    | some (.int _) => some [t]
    | _ => none

section
variable {H : Type} {enc : TypeId × Value → H} {P : Program} {w : World} {base : Nat} {spare : Nat → Bool} {held : Bool}

/-- A cell that reads as a value of a type. -/
def LeafIs (enc : TypeId × Value → H) (P : Program) (w : World) (base : Nat) (spare : Nat → Bool) (held : Bool) (t : TypeId) (v : Value) : Prop := ∃ n y, DataW.trod enc P w base spare held n t [v] = some y
theorem LeafIs.int {t : TypeId} {v : Value} {k : IntKind} (ht : P.underlying t = some (.int k)) (h : LeafIs enc P w base spare held t v) : ∃ n, v = .int k n ∧ (Lit.int k n).wf = true := by
  obtain ⟨n, y, h⟩ := h
  obtain ⟨q, e, _, hw⟩ := DataW.trod_int ht h
  exact ⟨q, by simpa using e, hw⟩
theorem LeafIs.string {t : TypeId} {v : Value} (ht : P.underlying t = some .string) (h : LeafIs enc P w base spare held t v) : ∃ s : ByteArray, v = .string s ∧ s.size ≤ maxLen := by
  obtain ⟨n, y, h⟩ := h
  obtain ⟨q, e, _, hw⟩ := DataW.trod_string ht h
  exact ⟨q, by simpa using e, hw⟩
theorem LeafIs.bool {t : TypeId} {v : Value} (ht : P.underlying t = some .bool) (h : LeafIs enc P w base spare held t v) : ∃ b : Bool, v = .bool b := by
  obtain ⟨n, y, h⟩ := h
  obtain ⟨q, e, _⟩ := DataW.trod_bool ht h
  exact ⟨q, by simpa using e⟩

theorem single_at {cs : List Value} {v : Value} {n : Nat} {t : TypeId} {x : DataW H × List MemPlace} (h : DataW.trod enc P w base spare held n t cs = some x) (e : cs = [v]) : cs.length = [t].length ∧ ∀ (i : Nat) (tl : TypeId) (u : Value), [t][i]? = some tl → cs[i]? = some u → LeafIs enc P w base spare held tl u := by
  subst e
  refine ⟨rfl, fun i tl u h1 h2 => ?_⟩
  cases i with
  | zero => simp at h1 h2; subst h1 h2; exact ⟨n, x, h⟩
  | succ i => simp at h1

theorem leaves_fs (f : Nat) (ih : ∀ (t : TypeId) (ls : List TypeId) (n : Nat) (cs : List Value) (x : DataW H × List MemPlace), leaves P f t = some ls → DataW.trod enc P w base spare held n t cs = some x → cs.length = ls.length ∧ ∀ (i : Nat) (tl : TypeId) (u : Value), ls[i]? = some tl → cs[i]? = some u → LeafIs enc P w base spare held tl u)
    (n : Nat) (cs : List Value) : ∀ (fs : List Field) (o : Nat) (m : List TypeId), leavesFs P (leaves P f) fs o = some m → (∀ fd ∈ fs, ∃ x, DataW.trod enc P w base spare held n fd.type ((cs.drop fd.offset).take (P.cellsOf fd.type)) = some x) →
      ∀ (i : Nat) (tl : TypeId) (u : Value), m[i]? = some tl → cs[o + i]? = some u → LeafIs enc P w base spare held tl u
  | [], o, m, h, hf, i, tl, u, h1, h2 => by
    simp [leavesFs] at h; subst h; simp at h1
  | fd :: r, o, m, h, hf, i, tl, u, h1, h2 => by
    unfold leavesFs at h
    by_cases ho : fd.offset = o
    · rw [if_pos ho] at h
      obtain ⟨m1, hm1, h⟩ := Option.bind_eq_some_iff.1 h
      by_cases hc : P.cellsOf fd.type = m1.length
      · rw [if_pos hc] at h
        obtain ⟨z, hz, rfl⟩ := Option.map_eq_some_iff.1 h
        obtain ⟨x, hx⟩ := hf fd List.mem_cons_self
        obtain ⟨hl, hat⟩ := ih _ _ _ _ _ hm1 hx
        by_cases hi : i < m1.length
        · rw [List.getElem?_append_left hi] at h1
          refine hat i tl u h1 ?_
          rw [List.getElem?_take, if_pos (by omega), List.getElem?_drop, ho]
          exact h2
        · rw [List.getElem?_append_right (by omega)] at h1
          refine leaves_fs f ih n cs r (o + m1.length) z hz (fun g hg => hf g (List.mem_cons_of_mem _ hg)) (i - m1.length) tl u h1 ?_
          rw [show o + m1.length + (i - m1.length) = o + i by omega]; exact h2
      · rw [if_neg hc] at h; cases h
    · rw [if_neg ho] at h; cases h

theorem leaves_at : ∀ (f : Nat) (t : TypeId) (ls : List TypeId) (n : Nat) (cs : List Value) (x : DataW H × List MemPlace), leaves P f t = some ls → DataW.trod enc P w base spare held n t cs = some x → cs.length = ls.length ∧ ∀ (i : Nat) (tl : TypeId) (u : Value), ls[i]? = some tl → cs[i]? = some u → LeafIs enc P w base spare held tl u
  | 0, t, ls, n, cs, x, h, hx => by simp [leaves] at h
  | f + 1, t, ls, n, cs, x, h, hx => by
    unfold leaves at h
    split at h
    · rename_i fs hu
      obtain ⟨l, hl, h⟩ := Option.bind_eq_some_iff.1 h
      by_cases hc : P.cellsOf t = l.length
      · rw [if_pos hc] at h
        cases h
        obtain ⟨xs, k, _, _, hlen, hxs, hat⟩ := DataW.trod_struct hu hx
        refine ⟨hlen.trans hc, fun i tl u h1 h2 => leaves_fs f (leaves_at f) k cs fs.toList 0 _ hl (fun fd hfd => ?_) i tl u h1 (by simpa using h2)⟩
        obtain ⟨j, hj, e⟩ := List.getElem_of_mem hfd
        have hj' : j < fs.size := by simpa using hj
        have hget : fs[j]? = some fd := by rw [← e]; simp [hj']
        have hx2 : j < xs.length := by rw [hxs]; exact hj'
        exact ⟨xs[j], (hat j fd hget).trans (List.getElem?_eq_getElem hx2)⟩
      · rw [if_neg hc] at h; cases h
    · rename_i hu
      cases h
      obtain ⟨s, e, _⟩ := DataW.trod_string hu hx
      exact single_at hx e
    · rename_i hu
      cases h
      obtain ⟨s, e, _⟩ := DataW.trod_bool hu hx
      exact single_at hx e
    · rename_i k hu
      cases h
      obtain ⟨s, e, _⟩ := DataW.trod_int hu hx
      exact single_at hx e
    · cases h

/-- A value is a list of rows of c cells each, wherever it lies. -/
def RowArg (w : World) (v : Value) (c : Nat) (rs : List (List Value)) : Prop :=
  ∃ p cap, v = .slice p rs.length cap ∧ ∀ j (hj : j < rs.length), rs[j].length = c ∧ ∃ g o, p = some ⟨g, o, none⟩ ∧ g < w.heap.size ∧ ∀ (i : Nat) (u : Value), rs[j][i]? = some u → w.cell? ⟨g, o + (j * c + i), none⟩ = some u

theorem RowArg.below {w w' : World} {v : Value} {c : Nat} {rs : List (List Value)} (h : RowArg w v c rs) (hb : Below w.heap.size w w') : RowArg w' v c rs := by
  obtain ⟨p, cap, rfl, h⟩ := h
  refine ⟨p, cap, rfl, fun j hj => ?_⟩
  obtain ⟨hc, g, o, h1, h2, h3⟩ := h j hj
  exact ⟨hc, g, o, h1, Nat.lt_of_lt_of_le h2 hb.size, fun i u hi => (hb.cell (p := ⟨g, o + (j * c + i), none⟩) h2).trans (h3 i u hi)⟩

theorem arg_rows {t e : TypeId} {r : Reach} {b0 : Nat} {v : Value} {d : DataW H} {p : List MemPlace} (f : Nat) (ls : List TypeId) (hls : leaves P f e = some ls) (h0 : 0 < ls.length) (ht : P.underlying t = some (.slice e)) (ce : P.cellsOf e = ls.length)
    (hv : Value.okWide P w r b0 t v) (h : DataW.Trod enc P w 0 (fun _ => true) true t v d p) :
    ∃ rs : List (List Value), RowArg w v ls.length rs ∧ (∀ s ∈ rs, s.length = ls.length ∧ ∀ (i : Nat) (tl : TypeId) (u : Value), ls[i]? = some tl → s[i]? = some u → LeafIs enc P w 0 (fun _ => true) true tl u) ∧ rs.length ≤ maxLen := by
  obtain ⟨a0, len, cap, rfl⟩ := okWide_slice ht hv
  obtain ⟨fuel, hf⟩ := h
  rcases open_slice ht hf with ⟨hcs, hx⟩ | ⟨a, len', cap', m, n, D, Pl, hcs, _, hl, hm, hmm, hx, hcell⟩
  · simp [Value.cells] at hcs
    obtain ⟨rfl, rfl, rfl⟩ := hcs
    exact ⟨[], ⟨none, 0, rfl, fun j hj => absurd hj (Nat.not_lt_zero _)⟩, by simp, by simp⟩
  · simp [Value.cells] at hcs
    obtain ⟨rfl, rfl, rfl⟩ := hcs
    simp only [if_true] at hmm
    subst hmm
    have each : ∀ i, i < m → ∃ q : List Value, q.length = ls.length ∧ (∀ k, k < ls.length → w.cell? (a.add (i * ls.length + k)) = q[k]?) ∧ ∀ (k : Nat) (tl : TypeId) (u : Value), ls[k]? = some tl → q[k]? = some u → LeafIs enc P w 0 (fun _ => true) true tl u := fun i hi => by
      obtain ⟨cs', h1, h2⟩ := hcell i hi
      rw [ce] at h1
      obtain ⟨_, hlen, hc⟩ := World.cells?_some h1
      obtain ⟨hl2, hat⟩ := leaves_at f e ls _ _ _ hls h2
      exact ⟨cs', hl2, fun k hk => by rw [← add_add]; exact hc k hk, hat⟩
    obtain ⟨S, hS⟩ := choose_lt each
    refine ⟨(List.range len).map S, ⟨some a, m, by simp, fun j hj => ?_⟩, fun s hs => ?_, by simp; omega⟩
    · have hj' : j < len := by simpa using hj
      obtain ⟨g1, g2, g3⟩ := hS j (by omega)
      obtain ⟨k1, k2, k3⟩ := hS 0 (by omega)
      have h0' := k2 0 h0
      have hsome : (S 0)[0]? = some ((S 0)[0]'(by omega)) := List.getElem?_eq_getElem (by omega)
      rw [hsome] at h0'
      have hcell0 : w.cell? a = some ((S 0)[0]'(by omega)) := by simpa [Addr.add] using h0'
      have hp := plain_of_cell hcell0
      have e : ((List.range len).map S)[j] = S j := by simp
      refine ⟨by rw [e]; exact g1, a.block, a.off, by rw [← hp], lt_of_cell hcell0, fun i u hi => ?_⟩
      rw [e] at hi
      have hil : i < ls.length := by rw [← g1]; exact (List.getElem?_eq_some_iff.1 hi).1
      have := g2 i hil
      rw [hp, add_plain_, hi] at this
      exact this
    · obtain ⟨i, hi, rfl⟩ := List.mem_map.1 hs
      obtain ⟨g1, g2, g3⟩ := hS i (by have := List.mem_range.1 hi; omega)
      exact ⟨g1, g3⟩
end

end Go.Proofs.Ar
