/- Several texts in one: what each proves its own first comment says. -/
import Derived.Test.YtocoonkachbjaaaGreatDoorM21
import Derived.Test.YtocoonkachbjaaaGreatDoorM20
import Derived.Test.YtocoonkachbjaaaGreatDoorM15
import Derived.Test.YtocoonkachbjaaaGreatDoorM13
import Derived.Test.YtocoonkachbjaaaGreatDoorM11
import Derived.Deep.MidRow
import Derived.Laws.Rows
import Derived.WalkKit
import Derived.Test.YtocoonkachbjaaaGreatDoorProg

/- ViewBelow (printed by wip/mkbelow.py). -/
namespace Go.Proofs.YtocoonkachbjaaaGreatDoor
open Go.RowKit Go.Proofs.Ar
set_option linter.unusedVariables false
namespace Vw
/-- The law's kids, as a list that reads. -/
theorem lkids_sess (ss : List Sess) (hl : ss.length ≤ 65536) (b : Int) (bk bf : Nat) (C : Nat → Prop) (m : Nat) (hm : m ≤ 65536) (w0 w : World) (hC : ∀ b, C b → b < w.heap.size ∧ w.heap[b]? = w0.heap[b]?)
    (hseq : ∀ n, Fo.SeqF Fence.wide n Tryz.prog 93 #[.pointer (some ⟨bk, 0, none⟩), .pointer (some ⟨bf, 0, none⟩)] (encS ss) (fun ys => ys = kidsOf ss b) (fun p => p <+: kidsOf ss b) C w0) :
    Calls Tryz.prog 55 #[.func (.func 93) #[] #[.pointer (some ⟨bk, 0, none⟩), .pointer (some ⟨bf, 0, none⟩)], .int .i64 m] w fun e w' => (∃ q c, e = .returned (.slice q (min m (kidsOf ss b).length) c) ∧ SessArg w' (.slice q (min m (kidsOf ss b).length) c) (pickS ss ((kidsOf ss b).take m))) ∧ Below w.heap.size w w' :=
  (lkids_any ss hl (kidsOf ss b) (fun i hi => kidsOf_lt i hi) bk bf C m hm w0 w hC hseq).mono fun e w' ⟨⟨d, he, hown⟩, hb⟩ => by
    obtain ⟨q, c, rfl, -⟩ := own_any_shape hown
    have e1 : ((kidsOf ss b).take m).length = min m (kidsOf ss b).length := List.length_take
    have h2 := own_pick (fun i hi => kidsOf_lt i (List.mem_of_mem_take hi)) rfl hown
    rw [e1] at he h2
    exact ⟨⟨q, c, he, h2⟩, hb⟩
/-- The law's pre, as lists that read. -/
theorem lpre_sess (ss : List Sess) (hl : ss.length ≤ 65536) (b : Int) (bf bq : Nat) (C : Nat → Prop) (m : Nat) (hm : m ≤ 65536) (w0 w : World) (hC : ∀ b, C b → b < w.heap.size ∧ w.heap[b]? = w0.heap[b]?)
    (hseq : ∀ n, Fo.SeqF Fence.wide n Tryz.prog 92 #[.pointer (some ⟨bf, 0, none⟩), .pointer (some ⟨bq, 0, none⟩)] (encP ss) (fun ys => ys = preL ss b) (fun p => p <+: preL ss b) C w0) :
    Calls Tryz.prog 52 #[.func (.func 92) #[] #[.pointer (some ⟨bf, 0, none⟩), .pointer (some ⟨bq, 0, none⟩)], .int .i64 m] w fun e w' => (∃ q1 c1 q2 c2, e = .returned (.tuple #[.slice q1 (min m (preL ss b).length) c1, .slice q2 (min m (preL ss b).length) c2]) ∧ In.IntArg w' (.slice q1 (min m (preL ss b).length) c1) (ints (((preL ss b).take m).map Prod.fst)) ∧ SessArg w' (.slice q2 (min m (preL ss b).length) c2) (pickS ss (((preL ss b).take m).map Prod.snd))) ∧ Below w.heap.size w w' :=
  (lpre_any ss hl (preL ss b) (preL_lt ss b) bf bq C m hm w0 w hC hseq).mono fun e w' ⟨⟨d1, d2, he, hf, ho⟩, hb⟩ => by
    obtain ⟨q1, c1, rfl, -⟩ := own_any_shape hf
    obtain ⟨q2, c2, rfl, -⟩ := own_any_shape ho
    have e1 : ((preL ss b).take m).length = min m (preL ss b).length := List.length_take
    have h2 := own_pick (l := ((preL ss b).take m).map Prod.snd) (fun i hi => by
      obtain ⟨x, hx, rfl⟩ := List.mem_map.1 hi
      exact preL_lt ss b x (List.mem_of_mem_take hx)) (by rw [List.length_map]) ho
    have h3 := farV_ints rfl hf
    rw [e1] at he h2 h3
    exact ⟨⟨q1, c1, q2, c2, he, h3, h2⟩, hb⟩
theorem pick_big {ss : List Sess} {l : List Nat} (hl : ∀ i ∈ l, i < ss.length) (h : l.length ≤ 65536) : ((pickS ss l).length : Int) ≤ 9223372036854775807 := by
  rw [(pick_cells hl).2]; omega
theorem preS_lt {ss : List Sess} {b : Int} : ∀ i ∈ (preL ss b).map Prod.snd, i < ss.length := fun i hi => by
  obtain ⟨x, hx, rfl⟩ := List.mem_map.1 hi
  exact preL_lt ss b x hx
theorem int_take {w : World} {q : Option Addr} {n c c' m : Nat} {ps : List Int} (h : In.IntArg w (.slice q n c) ps) (hm : m ≤ ps.length) : In.IntArg w (.slice q m c') (ps.take m) := by
  obtain ⟨p, cap, e, h⟩ := h
  cases e
  refine ⟨q, c', by rw [List.length_take, Nat.min_eq_left hm], fun j hj => ?_⟩
  have hj2 : j < ps.length := by rw [List.length_take] at hj; omega
  obtain ⟨g, o, h1, h2, h3⟩ := h j hj2
  exact ⟨g, o, h1, h2, by rw [h3, List.getElem_take]⟩
theorem only_setCells {G : Nat → Prop} {a : World} {b : Nat} (hb : G b) : ∀ (vs : List Value) (o : Nat) (w : World), Only G a w → Only G a (w.setCells b o vs)
  | [], _, _, h => h
  | v :: r, o, w, h => by
    rw [World.setCells]
    exact only_setCells hb r _ _ (h.setCell (p := ⟨b, o, none⟩) (fun _ => hb) v)
theorem LentS.there {base g c : Nat} {ss : List Sess} {w : World} (h : LentS base g c ss w) : w.there g 0 ((ss.length + 16) * 12) := fun j hj => by
  have hlen : (allV (ss ++ mks 16)).length = (ss.length + 16) * 12 := by rw [allV_len, List.length_append, mks_len]
  refine ⟨?_, World.ownsRow.frozenAt h _⟩
  rw [Nat.zero_add, World.ownsRow.cellAt (w := w) h j (by rw [← hlen] at hj; first | exact hj | omega)]
  rw [← hlen] at hj
  simp [hj]
theorem there_part {w : World} {g N k : Nat} (h : w.there g 0 N) (n : Nat) (hk : k + n ≤ N) : w.there g k n := fun j hj => by
  have := h (k + j) (by omega)
  rwa [Nat.zero_add] at this
/-- What the law writes over the list that it lent. -/
def overS : Sess := ⟨0, 1, 0, 1, 0, .empty, .empty, 0, 0, 0, 0, 0⟩

set_option maxRecDepth 100000 in
set_option maxHeartbeats 2000000 in
theorem viewBelow_core (v : Value) (ss : List Sess) (hlm : (ss.length : Int) ≤ 9223372036854775807) (hwf : ∀ s ∈ ss, (Lit.int .i64 s.birth).wf = true ∧ (Lit.int .i64 s.ub).wf = true) (b most : Int) (w : World) (h1 : SessArg w v ss) :
    Calls Tryz.prog 57 #[v, .int .i64 b, .int .i64 most] w fun e w' => e = .returned (.bool true) ∧ Below w.heap.size w w' := by
  have HA := Lib.hid h1
  obtain ⟨p0, cap0, rfl, -⟩ := h1
  by_cases hl : ss.length ≤ 300
  · have l0 : (ss.length : Int) ≤ 300 := by omega
    have HL := Lib.hid (show ss.length ≤ 65536 by omega)
    have HWF := Lib.hid hwf
    have HLE := Lib.hid (lentS_any _ ss HL.out w HA.out)
    clear hwf
    go_enter Tryz.func57, Tryz.ntmps57
    go_wp2_with fail
    refine HLE.out.mono ?_
    rintro e w1 ⟨g, c, rfl, hlent, hc1, hc2, hb1⟩
    obtain ⟨lv, hlv⟩ : ∃ lv, lv = Value.slice (some ⟨g, 0, none⟩) ss.length c := ⟨_, rfl⟩
    have hsl : SessArg w1 lv ss := by rw [hlv]; exact hlent.sess
    have HK := Lib.hid (vkids_any lv ss HL.out HWF.out b w1 hsl)
    have HLT := Lib.hid hlent; have HB1 := Lib.hid hb1; have HSL := Lib.hid hsl; have HLV := Lib.hid hlv; have HC1 := Lib.hid hc1
    rw [← hlv]
    clear hlent hb1 hsl hlv hc1 hc2
    go_wp2_with fail
    refine HK.out.mono ?_
    rintro e w2 ⟨⟨bk, bf, rfl, hs2⟩, hb2⟩
    have HSK := Lib.hid hs2; have HB2 := Lib.hid hb2
    have HP := Lib.hid (vpre_any lv ss HL.out HWF.out b w2 (HSL.out.below hb2))
    clear hs2 hb2 HK
    go_wp2_with fail
    refine HP.out.mono ?_
    rintro e w3 ⟨⟨bf3, bq3, rfl, hs3⟩, hb3⟩
    have HSP := Lib.hid hs3; have HB3 := Lib.hid hb3
    have HB13 : Hid (Below w.heap.size w w3) := HB1.out.trans ((HB2.out.trans (hb3.mono HB2.out.size)).mono HB1.out.size)
    have HRK := Lib.hid (rkids_any _ ss HL.out b w3 (HA.out.below HB13.out))
    clear hs3 hb3 HP
    have hf1 := fun (a b : Nat) (w : World) => (by kernel_rfl : (binOp .eql 97 (.func (.func 93) #[] #[.pointer (some ⟨a, 0, none⟩), .pointer (some ⟨b, 0, none⟩)]) .nilFunc).run Tryz.prog w = .ok (.bool false) w)
    have hf2 := fun (a b : Nat) (w : World) => (by kernel_rfl : (binOp .eql 92 (.func (.func 92) #[] #[.pointer (some ⟨a, 0, none⟩), .pointer (some ⟨b, 0, none⟩)]) .nilFunc).run Tryz.prog w = .ok (.bool false) w)
    go_wp2_with fail
    clear hf1 hf2
    refine HRK.out.mono ?_
    rintro e w4 ⟨⟨d, rfl, hown⟩, hb4⟩
    obtain ⟨qk, ck, rfl, hck⟩ := own_any_shape hown
    rw [kids_same] at hown hck ⊢
    have HCK := Lib.hid hck
    have HWK := Lib.hid hown
    have HB4 := Lib.hid hb4
    have HB14 : Hid (Below w.heap.size w w4) := HB13.out.trans (hb4.mono HB13.out.size)
    have HRP := Lib.hid (rpre_any _ ss HL.out b w4 (HA.out.below HB14.out))
    clear hown hck hb4 HRK
    go_wp2_with fail
    refine HRP.out.mono ?_
    rintro e w5 ⟨⟨df, d, rfl, hof, hoo⟩, hb5⟩
    obtain ⟨qf, cf, rfl, hcf⟩ := own_any_shape hof
    obtain ⟨qo, co, rfl, hco⟩ := own_any_shape hoo
    have HCF := Lib.hid hcf; have HCO := Lib.hid hco
    have HWF2 := Lib.hid hof
    rw [outV_sesL] at hoo
    have HWS := Lib.hid hoo
    have HB5 := Lib.hid hb5
    have HB15 : Hid (Below w.heap.size w w5) := HB14.out.trans (hb5.mono HB14.out.size)
    have hlt5 : LentS w.heap.size g c ss w5 := HLT.out.below (HB2.out.trans ((HB3.out.trans ((HB4.out.trans (hb5.mono HB4.out.size)).mono HB3.out.size)).mono HB2.out.size))
    have hkp := keptS_any w.heap.size g c _ ss HL.out w5 hlt5 HC1.out (HA.out.below HB15.out)
    rw [← HLV.out] at hkp
    have HKP := Lib.hid hkp
    have HLT5 := Lib.hid hlt5
    clear hof hoo hcf hco hb5 HRP hlt5 hkp
    go_wp2_with fail
    refine HKP.out.mono ?_
    rintro e w6 ⟨rfl, hb6⟩
    have hlt6 := HLT5.out.below hb6
    have HTH6 := Lib.hid hlt6.there
    have HG : Hid (w.heap.size ≤ g ∧ g < w1.heap.size) := by
      have := HLT.out.2
      rcases this with ⟨h1, h2⟩ | ⟨g', c', cur, e, h2, h3, h4⟩
      · omega
      · cases e; exact ⟨h2, (Array.getElem?_eq_some_iff.1 h3).1⟩
    have HB6 := Lib.hid hb6
    have HB16 : Hid (Below w.heap.size w w6) := HB15.out.trans (hb6.mono HB15.out.size)
    clear hlt6 hb6 HKP
    rw [HLV.out]
    go_wp2_with fail
    go_loopw [13] (fun i wr => ∃ k : Nat, k ≤ ss.length ∧ i = .int .i64 k ∧ Only (fun x => x = g) w6 wr ∧ wr.there g 0 ((ss.length + 16) * 12)) (fun i _ => ss.length - (intOf i).toNat)
    case atStart => exact ⟨0, Nat.zero_le _, rfl, Only.refl _ _, HTH6.out⟩
    case round =>
      obtain ⟨k, hk, rfl, hon, hth⟩ := hrel
      have HON := Lib.hid hon; have HTH := Lib.hid hth
      clear hon hth
      have b2 : (0 : Int) ≤ (k : Int) := by omega
      by_cases h : k < ss.length
      · have b3 : (k : Int) < (ss.length : Int) := by omega
        have HTK := Lib.hid (there_part HTH.out 12 (k := k * 12) (by omega))
        have HK1 := Lib.hid h
        clear h
        obtain ⟨cs, hcs⟩ : ∃ cs, cs = overS.cells := ⟨_, rfl⟩
        have HCS := Lib.hid hcs
        have HCL : Hid (cs.length = 12) := by show _ = _; rw [hcs]; rfl
        have HC1 : Hid (∀ u ∈ cs, u.oneCell' = true) := by show ∀ _, _; rw [hcs]; exact overS.one
        have HTC : Hid (wr.there g (k * 12) cs.toArray.size) := by show wr.there _ _ _; rw [List.size_toArray, HCL.out]; exact HTK.out
        have HON2 : Hid (Only (fun x => x = g) w6 (wr.setCells g (k * 12) cs)) := only_setCells (G := fun x => x = g) rfl _ _ _ HON.out
        have HTH2 : Hid ((wr.setCells g (k * 12) cs).there g 0 ((ss.length + 16) * 12)) := World.there_setCells HTH.out _ _ _
        clear hcs
        go_wp2_with (refine wpList_store_mid (by rfl) 30 (.tmp 60) (.tmp 59) (by rfl) g (k * 12) cs.toArray (by rfl) (by rw [HCS.out]; rfl) HTC.out (by rw [List.size_toArray, HCL.out]; kernel_rfl) (all_oneCell_toArray HC1.out) ?_)
        go_roundw
        case rel => have := HK1.out; exact ⟨k + 1, by omega, by go_num, HON2.out, HTH2.out⟩
        case measure => have := HK1.out; simp [intOf]; omega
      · have b3 : (ss.length : Int) ≤ (k : Int) := by omega
        have hdk : decide (k < ss.length) = false := decide_eq_false h
        clear h HTH
        obtain ⟨w7, rfl⟩ : ∃ x, x = wr := ⟨_, rfl⟩
        have HON7 := Lib.hid HON.out
        have HB17 : Hid (Below w.heap.size w w7) := HB16.out.trans (HON7.out.below HB16.out.size (fun i hi e => by have := HG.out.1; omega))
        have HKW : Hid (∀ (W : World) (m : Nat) (mi : Int), mi = (m : Int) → m ≤ 65536 → Below w7.heap.size w7 W → Calls Tryz.prog 55 #[.func (.func 93) #[] #[.pointer (some ⟨bk, 0, none⟩), .pointer (some ⟨bf, 0, none⟩)], .int .i64 mi] W fun e w' => (∃ q c, e = .returned (.slice q (min m (kidsOf ss b).length) c) ∧ SessArg w' (.slice q (min m (kidsOf ss b).length) c) (pickS ss ((kidsOf ss b).take m))) ∧ Below W.heap.size W w') := by
          rintro W m _ rfl hm hb
          refine lkids_sess ss HL.out b bk bf _ m hm w2 W (fun x hx => ?_) HSK.out
          have h1 := hx.1; have h2 := hx.2
          have s3 := HB3.out.size; have s4 := HB4.out.size; have s5 := HB5.out.size; have s6 := HB6.out.size; have s7 := HON7.out.size; have g2 := HG.out.2
          refine ⟨Nat.lt_of_lt_of_le h2 (by have := hb.size; omega), ?_⟩
          rw [hb.block x (by omega), HON7.out.block x (by omega) (fun e => by omega), HB6.out.block x (by omega), HB5.out.block x (by omega), HB4.out.block x (by omega), HB3.out.block x (by omega)]
        have HPW : Hid (∀ (W : World) (m : Nat) (mi : Int), mi = (m : Int) → m ≤ 65536 → Below w7.heap.size w7 W → Calls Tryz.prog 52 #[.func (.func 92) #[] #[.pointer (some ⟨bf3, 0, none⟩), .pointer (some ⟨bq3, 0, none⟩)], .int .i64 mi] W fun e w' => (∃ q1 c1 q2 c2, e = .returned (.tuple #[.slice q1 (min m (preL ss b).length) c1, .slice q2 (min m (preL ss b).length) c2]) ∧ In.IntArg w' (.slice q1 (min m (preL ss b).length) c1) (ints (((preL ss b).take m).map Prod.fst)) ∧ SessArg w' (.slice q2 (min m (preL ss b).length) c2) (pickS ss (((preL ss b).take m).map Prod.snd))) ∧ Below W.heap.size W w') := by
          rintro W m _ rfl hm hb
          refine lpre_sess ss HL.out b bf3 bq3 _ m hm w3 W (fun x hx => ?_) HSP.out
          have h1 := hx.1; have h2 := hx.2
          have s2 := HB2.out.size; have s4 := HB4.out.size; have s5 := HB5.out.size; have s6 := HB6.out.size; have s7 := HON7.out.size; have g2 := HG.out.2
          refine ⟨Nat.lt_of_lt_of_le h2 (by have := hb.size; omega), ?_⟩
          rw [hb.block x (by omega), HON7.out.block x (by omega) (fun e => by omega), HB6.out.block x (by omega), HB5.out.block x (by omega), HB4.out.block x (by omega)]
        have HWK7 : Hid (∀ W, Below w7.heap.size w7 W → SessArg W (.slice qk (kidsOf ss b).length ck) (pickS ss (kidsOf ss b)) ∧ In.IntArg W (.slice qf (preL ss b).length cf) (ints ((preL ss b).map Prod.fst)) ∧ SessArg W (.slice qo (preL ss b).length co) (pickS ss ((preL ss b).map Prod.snd))) := fun W hb => by
          have s2 := HB2.out.size; have s3 := HB3.out.size; have s4 := HB4.out.size; have s5 := HB5.out.size; have s6 := HB6.out.size; have s7 := HON7.out.size; have g2 := HG.out.2
          have k5 : ∀ x, w3.heap.size ≤ x → x < w5.heap.size → W.heap[x]? = w5.heap[x]? := fun x h1 h2 => by
            rw [hb.block x (by omega), HON7.out.block x (by omega) (fun e => by omega), HB6.out.block x (by omega)]
          have k4 : ∀ x, w3.heap.size ≤ x → x < w4.heap.size → W.heap[x]? = w4.heap[x]? := fun x h1 h2 => by
            rw [k5 x h1 (by omega), HB5.out.block x (by omega)]
          refine ⟨own_pick (fun i hi => kidsOf_lt i hi) rfl (own_keep HWK.out (fun x e => k4 x (HWK.out.lt x e).1 (HWK.out.lt x e).2)), farV_ints rfl (own_keep HWF2.out (fun x e => k5 x (Nat.le_trans s4 (HWF2.out.lt x e).1) (HWF2.out.lt x e).2)), ?_⟩
          refine own_pick (l := (preL ss b).map Prod.snd) (fun i hi => ?_) (by rw [List.length_map]) (own_keep HWS.out (fun x e => k5 x (Nat.le_trans s4 (HWS.out.lt x e).1) (HWS.out.lt x e).2))
          obtain ⟨x, hx, rfl⟩ := List.mem_map.1 hi
          exact preL_lt ss b x hx
        go_wp2_with fail
        have hM1 : min 1000 (kidsOf ss b).length = (kidsOf ss b).length := Nat.min_eq_right (by have := kidsOf_len (ss := ss) (b := b); omega)
        have hM2 : min 1000 (preL ss b).length = (preL ss b).length := Nat.min_eq_right (by have := preL_len ss b; omega)
        have hT1 : (kidsOf ss b).take 1000 = kidsOf ss b := List.take_of_length_le (by have := kidsOf_len (ss := ss) (b := b); omega)
        have hT2 : (preL ss b).take 1000 = preL ss b := List.take_of_length_le (by have := preL_len ss b; omega)
        have HLK : Hid (((pickS ss (kidsOf ss b)).length : Int) ≤ 9223372036854775807) := by
          have := (pick_cells (ss := ss) (l := kidsOf ss b) (fun i hi => kidsOf_lt i hi)).2
          have h2 := kidsOf_len (ss := ss) (b := b)
          show _ ≤ _; omega
        have HLS : Hid (((pickS ss ((preL ss b).map Prod.snd)).length : Int) ≤ 9223372036854775807) := by
          have := (pick_cells (ss := ss) (l := (preL ss b).map Prod.snd) (fun i hi => by
            obtain ⟨x, hx, rfl⟩ := List.mem_map.1 hi
            exact preL_lt ss b x hx)).2
          have h2 := preL_len ss b
          rw [List.length_map] at this
          show _ ≤ _; omega
        have HLF : Hid (((ints ((preL ss b).map Prod.fst)).length : Int) ≤ 9223372036854775807) := by
          have h2 := preL_len ss b
          show _ ≤ _
          simp only [ints, List.length_map]; omega
        have HMT := Lib.hid (And.intro hM1 (And.intro hM2 (And.intro hT1 hT2)))
        clear hM1 hM2 hT1 hT2
        clear HON HON7 HG HTH6 HLT5 HWS HWF2 HWK HSP HSK HLT HSL HLV HC1 HB1 HB2 HB3 HB4 HB5 HB6 HB13 HB14 HB15 HB16 HA HWF HLE b2 hk b3
        go_loopw [14, 15, 16] (fun t x y wr => ∃ k : Nat, k ≤ 2 ∧ t = .int .i64 k ∧ Below w7.heap.size w7 wr) (fun t _ _ _ => 2 - (intOf t).toNat)
        case atStart => exact ⟨0, Nat.zero_le _, rfl, Below.refl _ _⟩
        case round =>
          obtain ⟨t, ht, rfl, hbr⟩ := hrel
          have HBR := Lib.hid hbr
          have t0 : (0 : Int) ≤ (t : Int) := by omega
          by_cases h : t < 2
          · have t1 : (t : Int) < 2 := by omega
            have HT := Lib.hid h
            have HC1 := Lib.hid (HPW.out wr 1000 1000 rfl (by decide) HBR.out)
            clear h hbr ht
            go_wp2_with fail
            refine HC1.out.mono ?_
            rintro e wa ⟨⟨q1, c1, q2, c2, rfl, hf1, hs1⟩, hba⟩
            rw [HMT.out.2.1, HMT.out.2.2.2] at hf1 hs1
            rw [HMT.out.2.1]
            have HBA : Hid (Below w7.heap.size w7 wa) := HBR.out.trans (hba.mono HBR.out.size)
            have HF1 := Lib.hid hf1; have HS1 := Lib.hid hs1
            have HC2 := Lib.hid (HKW.out wa 1000 1000 rfl (by decide) HBA.out)
            clear hf1 hs1 hba HC1
            go_wp2_with fail
            refine HC2.out.mono ?_
            rintro e wb ⟨⟨q3, c3, rfl, hk3⟩, hbb⟩
            rw [HMT.out.1, HMT.out.2.2.1] at hk3
            rw [HMT.out.1]
            have HBB : Hid (Below w7.heap.size w7 wb) := HBA.out.trans (hbb.mono HBA.out.size)
            have HF2 := Lib.hid (HF1.out.below hbb); have HS2 := Lib.hid (HS1.out.below hbb)
            have HC3 := Lib.hid (sameS_any _ _ (pickS ss (kidsOf ss b)) HLK.out wb hk3 (HWK7.out wb HBB.out).1)
            clear hk3 hbb HC2 HF1 HS1
            go_wp2_with fail
            refine HC3.out.mono ?_
            rintro e wc2 ⟨rfl, hbc⟩
            have HBC : Hid (Below w7.heap.size w7 wc2) := HBB.out.trans (hbc.mono HBB.out.size)
            have HS3 := Lib.hid (HS2.out.below hbc)
            have HC4 := Lib.hid (In.same_any _ _ (ints ((preL ss b).map Prod.fst)) (ints ((preL ss b).map Prod.fst)) HLF.out HLF.out wc2 (HF2.out.below hbc) (HWK7.out wc2 HBC.out).2.1)
            clear hbc HC3 HF2 HS2
            go_wp2_with fail
            refine HC4.out.mono ?_
            rintro e wd ⟨rfl, hbd⟩
            have HBD : Hid (Below w7.heap.size w7 wd) := HBC.out.trans (hbd.mono HBC.out.size)
            have HC5 := Lib.hid (sameS_any _ _ (pickS ss ((preL ss b).map Prod.snd)) HLS.out wd (HS3.out.below hbd) (HWK7.out wd HBD.out).2.2)
            clear hbd HC4 HS3
            go_wp2_with fail
            refine HC5.out.mono ?_
            rintro e we ⟨rfl, hbe⟩
            have HBE : Hid (Below w7.heap.size w7 we) := HBD.out.trans (hbe.mono HBD.out.size)
            clear hbe HC5
            go_wp2
            go_roundw
            case rel => have := HT.out; exact ⟨t + 1, by omega, by go_num, HBE.out⟩
            case measure => have := HT.out; simp [intOf]; omega
          · have t1 : (2 : Int) ≤ (t : Int) := by omega
            clear h hbr ht
            obtain ⟨w8, rfl⟩ : ∃ x, x = wr := ⟨_, rfl⟩
            obtain ⟨m, hm⟩ : ∃ m : Nat, most % 6 = (m : Int) := ⟨(most % 6).toNat, by omega⟩
            have hm6 : m ≤ 65536 := by omega
            have hpk := Pk.pick_any most 6 (by decide) (by decide) w8
            rw [hm] at hpk
            have HPK := Lib.hid hpk
            have HPC := Lib.hid (HPW.out w8 m m rfl hm6 HBR.out)
            have HM6 := Lib.hid hm6
            clear hpk hm hm6
            go_wp2_with fail
            refine HPK.out.mono ?_
            rintro e w9 ⟨rfl, rfl⟩
            go_wp2_with fail
            refine HPC.out.mono ?_
            rintro e w10 ⟨⟨q1, c1, q2, c2, rfl, hf1, hs1⟩, hb10⟩
            have HB10 : Hid (Below w7.heap.size w7 w10) := HBR.out.trans (hb10.mono HBR.out.size)
            have HF1 := Lib.hid hf1; have HS1 := Lib.hid hs1
            clear hf1 hs1 hb10 HPC HPK
            go_wp2_with fail
            obtain ⟨kk, hkk⟩ : ∃ kk, kk = min m (kidsOf ss b).length := ⟨_, rfl⟩
            obtain ⟨kp, hkp⟩ : ∃ kp, kp = min m (preL ss b).length := ⟨_, rfl⟩
            have hkki : (if (kidsOf ss b).length < m then ((kidsOf ss b).length : Int) else (m : Int)) = (kk : Int) := by split <;> omega
            have hkkm : min (m : Int) ((kidsOf ss b).length : Int) = (kk : Int) := by omega
            have hkpm : min (m : Int) ((preL ss b).length : Int) = (kp : Int) := by omega
            have hkpi : (if (preL ss b).length < m then ((preL ss b).length : Int) else (m : Int)) = (kp : Int) := by split <;> omega
            have z1 : (0 : Int) ≤ (kk : Int) := by omega
            have z2 : (0 : Int) ≤ (kp : Int) := by omega
            have z3 : (kk : Int) ≤ (ck : Int) := by have := HCK.out; omega
            have z4 : (kp : Int) ≤ (cf : Int) := by have := HCF.out; omega
            have z5 : (kp : Int) ≤ (co : Int) := by have := HCO.out; omega
            have HKT : Hid ((kidsOf ss b).take kk = (kidsOf ss b).take m ∧ (preL ss b).take kp = (preL ss b).take m ∧ kk ≤ (kidsOf ss b).length ∧ kp ≤ (preL ss b).length) := by
              refine ⟨?_, ?_, by omega, by omega⟩
              · rw [hkk, ← List.take_take, List.take_length]
              · rw [hkp, ← List.take_take, List.take_length]
            have HLM : Hid (((ints (((preL ss b).take m).map Prod.fst)).length : Int) ≤ 9223372036854775807) := by
              have h2 := preL_len ss b
              show _ ≤ _
              simp only [ints, List.length_map, List.length_take]; omega
            have HKC := Lib.hid (fun (W : World) (hb : Below w7.heap.size w7 W) => HKW.out W m m rfl HM6.out hb)
            rw [← hkp] at HF1 HS1 ⊢
            rw [← hkk] at HKC
            clear hkk hkp HKW HPW
            refine (wpIn_wide (n := 8)).1 ?_
            refine Hi.begin_ (S := fun w' => Below w7.heap.size w7 w') (Z := fun _ => false) (by kernel_rfl) HB10.out.drew (fun _ => ?_)
            refine Hi.take (i := 0) (k := 95) (v := ?_) (fun _ => trivial) (by kernel_rfl) rfl rfl (by kernel_rfl) (by kernel_rfl) (by kernel_rfl) (fun _ _ _ h => h) (by kernel_rfl) (by kernel_rfl) (Or.inl ⟨by rfl, ?_⟩) (by assumption) ?_
            rotate_left
            · intro wq hSw; clear hSw; go_simp; (try with_reducible rfl)
            simp only [List.set_cons_succ, List.set_cons_zero]
            refine Hi.take (i := 1) (k := 96) (v := ?_) (fun _ => trivial) (by kernel_rfl) rfl rfl (by kernel_rfl) (by kernel_rfl) (by kernel_rfl) (fun _ _ _ h => h) (by kernel_rfl) (by kernel_rfl) (Or.inl ⟨by rfl, ?_⟩) (by assumption) ?_
            rotate_left
            · intro wq hSw; clear hSw; go_simp; (try with_reducible rfl)
            simp only [List.set_cons_succ, List.set_cons_zero]
            refine Hi.take (i := 3) (k := 98) (v := ?_) (fun _ => trivial) (by kernel_rfl) rfl rfl (by kernel_rfl) (by kernel_rfl) (by kernel_rfl) (fun _ _ _ h => h) (by kernel_rfl) (by kernel_rfl) (Or.inl ⟨by rfl, ?_⟩) (by assumption) ?_
            rotate_left
            · intro wq hSw; clear hSw; go_simp; (try with_reducible rfl)
            simp only [List.set_cons_succ, List.set_cons_zero]
            refine Hi.take (i := 4) (k := 99) (v := ?_) (fun _ => trivial) (by kernel_rfl) rfl rfl (by kernel_rfl) (by kernel_rfl) (by kernel_rfl) (fun _ _ _ h => h) (by kernel_rfl) (by kernel_rfl) (Or.inl ⟨by rfl, ?_⟩) (by assumption) ?_
            rotate_left
            · intro wq hSw; clear hSw; go_simp; (try with_reducible rfl)
            simp only [List.set_cons_succ, List.set_cons_zero]
            refine Hi.take (i := 5) (k := 100) (v := ?_) (fun _ => trivial) (by kernel_rfl) rfl rfl (by kernel_rfl) (by kernel_rfl) (by kernel_rfl) (fun _ _ _ h => h) (by kernel_rfl) (by kernel_rfl) (Or.inl ⟨by rfl, ?_⟩) (by assumption) ?_
            rotate_left
            · intro wq hSw; clear hSw; go_simp; (try with_reducible rfl)
            simp only [List.set_cons_succ, List.set_cons_zero]
            refine Hi.take (i := 6) (k := 101) (v := ?_) (fun _ => trivial) (by kernel_rfl) rfl rfl (by kernel_rfl) (by kernel_rfl) (by kernel_rfl) (fun _ _ _ h => h) (by kernel_rfl) (by kernel_rfl) (Or.inl ⟨by rfl, ?_⟩) (by assumption) ?_
            rotate_left
            · intro wq hSw; clear hSw; go_simp; (try with_reducible rfl)
            simp only [List.set_cons_succ, List.set_cons_zero]
            refine Hi.take (i := 7) (k := 102) (v := ?_) (fun _ => trivial) (by kernel_rfl) rfl rfl (by kernel_rfl) (by kernel_rfl) (by kernel_rfl) (fun _ _ _ h => h) (by kernel_rfl) (by kernel_rfl) (Or.inl ⟨by rfl, ?_⟩) (by assumption) ?_
            rotate_left
            · intro wq hSw; clear hSw; go_simp; (try with_reducible rfl)
            simp only [List.set_cons_succ, List.set_cons_zero]
            refine Hi.take (i := 8) (k := 103) (v := ?_) (fun _ => trivial) (by kernel_rfl) rfl rfl (by kernel_rfl) (by kernel_rfl) (by kernel_rfl) (fun _ _ _ h => h) (by kernel_rfl) (by kernel_rfl) (Or.inl ⟨by rfl, ?_⟩) (by assumption) ?_
            rotate_left
            · intro wq hSw; clear hSw; go_simp; (try with_reducible rfl)
            simp only [List.set_cons_succ, List.set_cons_zero]
            refine Hi.call_ (i := 2) (k := 97) (fun _ => trivial) (fun h => by simp [Fence.wide] at h) (by intro c h; cases h) rfl rfl (by kernel_rfl) (by rfl) (by go_simp) ((callsIn_wide.2 (HKC.out _ HB10.out.drew)).mono ?_)
            rintro e w11 ⟨⟨q3, c3, rfl, hk3⟩, hb11⟩
            have HB11 : Below w7.heap.size w7 w11 := HB10.out.drew.trans (hb11.mono HB10.out.size)
            refine ⟨_, rfl, fun _ => HB11, fun _ => ?_⟩
            simp only [List.set_cons_succ, List.set_cons_zero]
            have hs11 := HS1.out.below (w' := w11) ((Below.refl w10.heap.size w10).drew.trans (show Below w10.heap.size w10.drew w11 from hb11))
            have hf11 := HF1.out.below (w' := w11) ((Below.refl w10.heap.size w10).drew.trans (show Below w10.heap.size w10.drew w11 from hb11))
            have hwk11 := (HWK7.out w11 HB11).1.take (c' := ck) (m := kk) (by rw [(pick_cells (ss := ss) (fun i hi => kidsOf_lt i hi)).2]; exact HKT.out.2.2.1)
            rw [pick_take (fun i hi => kidsOf_lt i hi), HKT.out.1] at hwk11
            have HC1 := Lib.hid (sameS_any _ _ (pickS ss ((kidsOf ss b).take m)) (pick_big (fun i hi => kidsOf_lt i (List.mem_of_mem_take hi)) (by rw [List.length_take]; have := HKT.out.2.2.1; have := kidsOf_len (ss := ss) (b := b); omega)) w11 hk3 hwk11)
            have HS11 := Lib.hid hs11; have HF11 := Lib.hid hf11
            clear hs11 hf11 hwk11 hk3 hb11
            refine Hi.call_ (i := 9) (k := 104) (fun _ => trivial) (fun h => by simp [Fence.wide] at h) (by intro c h; cases h) rfl rfl (by kernel_rfl) (by rfl) (by go_simp) ((callsIn_wide.2 HC1.out).mono ?_)
            rintro e w12 ⟨rfl, hb12⟩
            have HB12 : Below w7.heap.size w7 w12 := HB11.trans (hb12.mono HB11.size)
            refine ⟨_, rfl, fun _ => HB12, fun _ => ?_⟩
            simp only [List.set_cons_succ, List.set_cons_zero]
            have HS12 := Lib.hid (HS11.out.below hb12); have HF12 := Lib.hid (HF11.out.below hb12)
            clear HB11 hb12 HC1
            refine Hi.take (i := 10) (k := 105) (v := ?_) (fun _ => trivial) (by kernel_rfl) rfl rfl (by kernel_rfl) (by kernel_rfl) (by kernel_rfl) (fun _ _ _ h => h) (by kernel_rfl) (by kernel_rfl) (Or.inl ⟨by rfl, ?_⟩) (by assumption) ?_
            rotate_left
            · intro wq hSw; clear hSw; go_simp; (try with_reducible rfl)
            simp only [List.set_cons_succ, List.set_cons_zero]
            refine Hi.take (i := 11) (k := 106) (v := ?_) (fun _ => trivial) (by kernel_rfl) rfl rfl (by kernel_rfl) (by kernel_rfl) (by kernel_rfl) (fun _ _ _ h => h) (by kernel_rfl) (by kernel_rfl) (Or.inl ⟨by rfl, ?_⟩) (by assumption) ?_
            rotate_left
            · intro wq hSw; clear hSw; go_simp; (try with_reducible rfl)
            simp only [List.set_cons_succ, List.set_cons_zero]
            refine Hi.take (i := 12) (k := 107) (v := ?_) (fun _ => trivial) (by kernel_rfl) rfl rfl (by kernel_rfl) (by kernel_rfl) (by kernel_rfl) (fun _ _ _ h => h) (by kernel_rfl) (by kernel_rfl) (Or.inl ⟨by rfl, ?_⟩) (by assumption) ?_
            rotate_left
            · intro wq hSw; clear hSw; go_simp; (try with_reducible rfl)
            simp only [List.set_cons_succ, List.set_cons_zero]
            refine Hi.take (i := 13) (k := 108) (v := ?_) (fun _ => trivial) (by kernel_rfl) rfl rfl (by kernel_rfl) (by kernel_rfl) (by kernel_rfl) (fun _ _ _ h => h) (by kernel_rfl) (by kernel_rfl) (Or.inl ⟨by rfl, ?_⟩) (by assumption) ?_
            rotate_left
            · intro wq hSw; clear hSw; go_simp; (try with_reducible rfl)
            simp only [List.set_cons_succ, List.set_cons_zero]
            refine Hi.take (i := 14) (k := 109) (v := ?_) (fun _ => trivial) (by kernel_rfl) rfl rfl (by kernel_rfl) (by kernel_rfl) (by kernel_rfl) (fun _ _ _ h => h) (by kernel_rfl) (by kernel_rfl) (Or.inl ⟨by rfl, ?_⟩) (by assumption) ?_
            rotate_left
            · intro wq hSw; clear hSw; go_simp; (try with_reducible rfl)
            simp only [List.set_cons_succ, List.set_cons_zero]
            refine Hi.take (i := 15) (k := 110) (v := ?_) (fun _ => trivial) (by kernel_rfl) rfl rfl (by kernel_rfl) (by kernel_rfl) (by kernel_rfl) (fun _ _ _ h => h) (by kernel_rfl) (by kernel_rfl) (Or.inl ⟨by rfl, ?_⟩) (by assumption) ?_
            rotate_left
            · intro wq hSw; clear hSw; go_simp; (try with_reducible rfl)
            simp only [List.set_cons_succ, List.set_cons_zero]
            refine Hi.take (i := 16) (k := 111) (v := ?_) (fun _ => trivial) (by kernel_rfl) rfl rfl (by kernel_rfl) (by kernel_rfl) (by kernel_rfl) (fun _ _ _ h => h) (by kernel_rfl) (by kernel_rfl) (Or.inl ⟨by rfl, ?_⟩) (by assumption) ?_
            rotate_left
            · intro wq hSw; clear hSw; go_simp; (try with_reducible rfl)
            simp only [List.set_cons_succ, List.set_cons_zero]
            refine Hi.take (i := 17) (k := 112) (v := ?_) (fun _ => trivial) (by kernel_rfl) rfl rfl (by kernel_rfl) (by kernel_rfl) (by kernel_rfl) (fun _ _ _ h => h) (by kernel_rfl) (by kernel_rfl) (Or.inl ⟨by rfl, ?_⟩) (by assumption) ?_
            rotate_left
            · intro wq hSw; clear hSw; go_simp; (try with_reducible rfl)
            simp only [List.set_cons_succ, List.set_cons_zero]
            have hwf12 := int_take (c' := cf) (m := kp) (HWK7.out w12 HB12).2.1 (by simp only [ints, List.length_map]; exact HKT.out.2.2.2)
            have e1 : (ints ((preL ss b).map Prod.fst)).take kp = ints (((preL ss b).take m).map Prod.fst) := by unfold ints; rw [← List.map_take, ← List.map_take, HKT.out.2.1]
            rw [e1] at hwf12
            have HC4 := Lib.hid ((In.same_any _ _ (ints (((preL ss b).take m).map Prod.fst)) (ints (((preL ss b).take m).map Prod.fst)) HLM.out HLM.out w12 HF12.out hwf12).mono (R' := fun e w' => e = .returned (.bool true) ∧ Below w12.heap.size w12 w') (fun e w' h => ⟨h.1.trans (by rw [decide_eq_true rfl]), h.2⟩))
            clear hwf12 e1 HF12
            refine Hi.call_ (i := 18) (k := 113) (fun _ => trivial) (fun h => by simp [Fence.wide] at h) (by intro c h; cases h) rfl rfl (by kernel_rfl) (by rfl) (by go_simp) ((callsIn_wide.2 HC4.out).mono ?_)
            rintro e w13 ⟨rfl, hb13⟩
            have HB13 : Below w7.heap.size w7 w13 := HB12.trans (hb13.mono HB12.size)
            refine ⟨_, rfl, fun _ => HB13, fun _ => ?_⟩
            simp only [List.set_cons_succ, List.set_cons_zero]
            have HS13 := Lib.hid (HS12.out.below hb13)
            clear HB12 hb13 HC4 HS12
            refine Hi.take (i := 19) (k := 114) (v := ?_) (fun _ => trivial) (by kernel_rfl) rfl rfl (by kernel_rfl) (by kernel_rfl) (by kernel_rfl) (fun _ _ _ h => h) (by kernel_rfl) (by kernel_rfl) (Or.inl ⟨by rfl, ?_⟩) (by assumption) ?_
            rotate_left
            · intro wq hSw; clear hSw; go_simp; (try with_reducible rfl)
            simp only [List.set_cons_succ, List.set_cons_zero]
            refine Hi.take (i := 20) (k := 115) (v := ?_) (fun _ => trivial) (by kernel_rfl) rfl rfl (by kernel_rfl) (by kernel_rfl) (by kernel_rfl) (fun _ _ _ h => h) (by kernel_rfl) (by kernel_rfl) (Or.inl ⟨by rfl, ?_⟩) (by assumption) ?_
            rotate_left
            · intro wq hSw; clear hSw; go_simp; (try with_reducible rfl)
            simp only [List.set_cons_succ, List.set_cons_zero]
            refine Hi.take (i := 21) (k := 116) (v := ?_) (fun _ => trivial) (by kernel_rfl) rfl rfl (by kernel_rfl) (by kernel_rfl) (by kernel_rfl) (fun _ _ _ h => h) (by kernel_rfl) (by kernel_rfl) (Or.inl ⟨by rfl, ?_⟩) (by assumption) ?_
            rotate_left
            · intro wq hSw; clear hSw; go_simp; (try with_reducible rfl)
            simp only [List.set_cons_succ, List.set_cons_zero]
            refine Hi.take (i := 22) (k := 117) (v := ?_) (fun _ => trivial) (by kernel_rfl) rfl rfl (by kernel_rfl) (by kernel_rfl) (by kernel_rfl) (fun _ _ _ h => h) (by kernel_rfl) (by kernel_rfl) (Or.inl ⟨by rfl, ?_⟩) (by assumption) ?_
            rotate_left
            · intro wq hSw; clear hSw; go_simp; (try with_reducible rfl)
            simp only [List.set_cons_succ, List.set_cons_zero]
            refine Hi.take (i := 23) (k := 118) (v := ?_) (fun _ => trivial) (by kernel_rfl) rfl rfl (by kernel_rfl) (by kernel_rfl) (by kernel_rfl) (fun _ _ _ h => h) (by kernel_rfl) (by kernel_rfl) (Or.inl ⟨by rfl, ?_⟩) (by assumption) ?_
            rotate_left
            · intro wq hSw; clear hSw; go_simp; (try with_reducible rfl)
            simp only [List.set_cons_succ, List.set_cons_zero]
            refine Hi.take (i := 24) (k := 119) (v := ?_) (fun _ => trivial) (by kernel_rfl) rfl rfl (by kernel_rfl) (by kernel_rfl) (by kernel_rfl) (fun _ _ _ h => h) (by kernel_rfl) (by kernel_rfl) (Or.inl ⟨by rfl, ?_⟩) (by assumption) ?_
            rotate_left
            · intro wq hSw; clear hSw; go_simp; (try with_reducible rfl)
            simp only [List.set_cons_succ, List.set_cons_zero]
            refine Hi.take (i := 25) (k := 120) (v := ?_) (fun _ => trivial) (by kernel_rfl) rfl rfl (by kernel_rfl) (by kernel_rfl) (by kernel_rfl) (fun _ _ _ h => h) (by kernel_rfl) (by kernel_rfl) (Or.inl ⟨by rfl, ?_⟩) (by assumption) ?_
            rotate_left
            · intro wq hSw; clear hSw; go_simp; (try with_reducible rfl)
            simp only [List.set_cons_succ, List.set_cons_zero]
            refine Hi.take (i := 26) (k := 121) (v := ?_) (fun _ => trivial) (by kernel_rfl) rfl rfl (by kernel_rfl) (by kernel_rfl) (by kernel_rfl) (fun _ _ _ h => h) (by kernel_rfl) (by kernel_rfl) (Or.inl ⟨by rfl, ?_⟩) (by assumption) ?_
            rotate_left
            · intro wq hSw; clear hSw; go_simp; (try with_reducible rfl)
            simp only [List.set_cons_succ, List.set_cons_zero]
            refine Hi.take (i := 27) (k := 122) (v := ?_) (fun _ => trivial) (by kernel_rfl) rfl rfl (by kernel_rfl) (by kernel_rfl) (by kernel_rfl) (fun _ _ _ h => h) (by kernel_rfl) (by kernel_rfl) (Or.inl ⟨by rfl, ?_⟩) (by assumption) ?_
            rotate_left
            · intro wq hSw; clear hSw; go_simp; (try with_reducible rfl)
            simp only [List.set_cons_succ, List.set_cons_zero]
            have hws13 := (HWK7.out w13 HB13).2.2.take (c' := co) (m := kp) (by rw [(pick_cells (ss := ss) preS_lt).2, List.length_map]; exact HKT.out.2.2.2)
            rw [pick_take preS_lt, ← List.map_take, HKT.out.2.1] at hws13
            have HC5 := Lib.hid (sameS_any _ _ (pickS ss (((preL ss b).take m).map Prod.snd)) (pick_big (fun i hi => by
              obtain ⟨x, hx, rfl⟩ := List.mem_map.1 hi
              exact preL_lt ss b x (List.mem_of_mem_take hx)) (by rw [List.length_map, List.length_take]; have := preL_len ss b; omega)) w13 HS13.out hws13)
            clear hws13 HS13
            refine Hi.call_ (i := 28) (k := 123) (fun _ => trivial) (fun h => by simp [Fence.wide] at h) (by intro c h; cases h) rfl rfl (by kernel_rfl) (by rfl) (by go_simp) ((callsIn_wide.2 HC5.out).mono ?_)
            rintro e w14 ⟨rfl, hb14⟩
            have HB14 : Below w7.heap.size w7 w14 := HB13.trans (hb14.mono HB13.size)
            refine ⟨_, rfl, fun _ => HB14, fun _ => ?_⟩
            simp only [List.set_cons_succ, List.set_cons_zero]
            have HBE := Lib.hid (HB17.out.trans (HB14.mono HB17.out.size))
            clear HB13 hb14 HC5
            refine Hi.take (i := 29) (k := 124) (v := ?_) (fun _ => trivial) (by kernel_rfl) rfl rfl (by kernel_rfl) (by kernel_rfl) (by kernel_rfl) (fun _ _ _ h => h) (by kernel_rfl) (by kernel_rfl) (Or.inl ⟨by rfl, ?_⟩) (by assumption) ?_
            rotate_left
            · intro wq hSw; clear hSw; go_simp; (try with_reducible rfl)
            simp only [List.set_cons_succ, List.set_cons_zero]
            refine Hi.take (i := 30) (k := 6) (v := ?_) (fun _ => trivial) (by kernel_rfl) rfl rfl (by kernel_rfl) (by kernel_rfl) (by kernel_rfl) (fun _ _ _ h => h) (by kernel_rfl) (by kernel_rfl) (Or.inl ⟨by rfl, ?_⟩) (by assumption) ?_
            rotate_left
            · intro wq hSw; clear hSw; go_simp; (try with_reducible rfl)
            simp only [List.set_cons_succ, List.set_cons_zero]
            refine Hi.done_ (by kernel_rfl) ?_ _
            go_wp2
            go_ret
            exact ⟨rfl, HBE.out⟩
  · have l0 : (300 : Int) < (ss.length : Int) := by omega
    go_enter Tryz.func57, Tryz.ntmps57
    go_wp2
    go_ret
    exact ⟨rfl, Below.refl _ _⟩
end Vw
end Go.Proofs.YtocoonkachbjaaaGreatDoor

/- knownSaid: the chapter's examples. -/
namespace Go.Proofs.YtocoonkachbjaaaGreatDoor
open Go.RowKit Go.Maps Go.Proofs.NmPlain Go.Proofs.Ar Go.Proofs.YtocoonkachbjaaaGreatDoor.Sc
set_option linter.unusedVariables false
namespace Vw
def wantT : List ByteArray := [⟨#[51, 32, 97, 110, 110, 32, 108, 111, 103, 105, 110, 32, 108, 111, 119, 32, 91, 109, 97, 105, 108, 46, 114, 101, 97, 100, 32, 109, 97, 105, 108, 46, 115, 101, 110, 100, 32, 112, 97, 121, 93, 32, 49, 109]⟩,
  ⟨#[32, 32, 53, 32, 97, 110, 110, 47, 112, 104, 111, 110, 101, 32, 100, 101, 108, 101, 103, 97, 116, 101, 100, 32, 108, 111, 119, 32, 91, 109, 97, 105, 108, 46, 114, 101, 97, 100, 93, 32, 53, 48, 115]⟩,
  ⟨#[32, 32, 32, 32, 57, 32, 97, 110, 110, 47, 112, 97, 121, 32, 114, 97, 105, 115, 101, 100, 32, 109, 105, 100, 32, 91, 109, 97, 105, 108, 46, 114, 101, 97, 100, 93, 32, 49, 48, 115]⟩,
  ⟨#[55, 32, 98, 111, 98, 32, 108, 111, 103, 105, 110, 32, 104, 105, 103, 104, 32, 91, 93, 32, 48, 115]⟩]
set_option maxRecDepth 100000 in
theorem kn_tree : treeX vbk vfour 40 = wantT := by decide +kernel
set_option maxRecDepth 100000 in
theorem kn_bad : badAt vbk vfour 40 = none := by decide +kernel
set_option maxRecDepth 100000 in
theorem kn_pre : preL vfour 3 = [(0, 0), (1, 1), (2, 3)] := by decide +kernel
set_option maxRecDepth 100000 in
theorem kn_k4 : kidsOf vfour 4 = [] := by decide +kernel
set_option maxRecDepth 100000 in
theorem kn_k0 : kidsOf vfour 0 = [0, 2] := by decide +kernel
theorem vfour_ok : ∀ s ∈ vfour, SessOK s := by
  intro s hs
  simp only [vfour, List.mem_cons, List.not_mem_nil, or_false] at hs
  rcases hs with rfl | rfl | rfl | rfl <;> exact ⟨by decide, by decide, by decide, by decide, by decide, by decide⟩
theorem own_lit_sess (w : World) (ss : List Sess) (h : ss.length ≤ 65536) : (w.alloc (.cells (allV ss).toArray 30)).ownsRow w.heap.size 30 12 (.slice (some ⟨w.heap.size, 0, none⟩) ss.length ss.length) ss.length (allV ss) :=
  ⟨allV_len ss, .inr ⟨w.heap.size, ss.length, (allV ss).toArray, rfl, Nat.le_refl _, Ut.alloc_at _ _, Nat.le_refl _, by unfold maxLen; omega, by simp [allV_len], by rw [← allV_len]; simp⟩⟩

set_option maxRecDepth 100000 in
set_option maxHeartbeats 2000000 in
theorem knownSaid_any (w : World) (he : VEnv w) : Calls Tryz.prog 17 #[] w fun e w' => e = .returned (.bool true) ∧ Below w.heap.size w w' := by
  have HE := Lib.hid he
  have HWK := Lib.hid (fun (w' : World) (hb : Below w.heap.size w w') => vworks_any w' (he.below hb))
  clear he
  go_enter Tryz.func17, Tryz.ntmps17
  go_wp2_with fail
  refine (HWK.out w (Below.refl _ _)).mono ?_
  rintro e w1 ⟨rfl, hb1⟩
  have HB1 := Lib.hid hb1
  clear hb1
  go_wp2_with fail
  refine (vbook_any w1 (HE.out.below HB1.out).max).mono ?_
  rintro e w2 ⟨lo, B, rfl, hB, hb2⟩
  have HBK := Lib.hid hB
  have HB2 : Hid (Below w.heap.size w w2) := HB1.out.trans (hb2.mono HB1.out.size)
  clear hB hb2
  go_wp2_with fail
  refine (vfour_any w2).mono ?_
  rintro e w3 ⟨rfl, hw3⟩
  have hb3 : Below w2.heap.size w2 w3 := by rw [hw3]; exact (Below.refl _ _).alloc (Nat.le_refl _) _
  have hsa : SessArg w3 (.slice (some ⟨w2.heap.size, 0, none⟩) 4 4) vfour := by
    rw [hw3]
    exact sess_of_own (own_lit_sess w2 vfour (by decide))
  obtain ⟨v4, hv4⟩ : ∃ v4, v4 = Value.slice (some ⟨w2.heap.size, 0, none⟩) 4 4 := ⟨_, rfl⟩
  rw [← hv4] at hsa ⊢
  have HB3 : Hid (Below w.heap.size w w3) := HB2.out.trans (hb3.mono HB2.out.size)
  have HSA := Lib.hid hsa
  have HTR := Lib.hid (tree_any vbk_book 40 (by decide) v4 vfour (by decide) vfour_ok w3 (HE.out.below HB3.out) (HBK.out.below hb3) hsa)
  clear hw3 hb3 hsa hv4
  go_wp2_with fail
  refine HTR.out.mono ?_
  rintro e w4 ⟨hp, hb4⟩
  obtain ⟨d, rfl, hown⟩ := hp.both hb4.size
  have eE : treeE vbk vfour 40 = .nilIface := by unfold treeE; rw [kn_bad]
  rw [kn_tree] at hown
  rw [eE]
  obtain ⟨q1, r1, rfl, -⟩ := own_any_shape hown
  have HOWN := Lib.hid hown; have HB34 := Lib.hid hb4
  have HB4 : Hid (Below w.heap.size w w4) := HB3.out.trans (hb4.mono HB3.out.size)
  clear hp hb4 hown eE HTR
  obtain ⟨W5, hW5⟩ : ∃ W5, W5 = w4.alloc (.cells (wantT.map Value.string).toArray 9) := ⟨_, rfl⟩
  have hb45 : Below w4.heap.size w4 W5 := by rw [hW5]; exact (Below.refl _ _).alloc (Nat.le_refl _) _
  have HTW : Hid (TextArg W5 (.slice (some ⟨w4.heap.size, 0, none⟩) 4 4) wantT) := by
    show TextArg _ _ _
    rw [hW5]; exact Tx.lit_arg w4 wantT 9
  have HB45 := Lib.hid hb45
  have HB35 : Hid (Below w3.heap.size w3 W5) := HB34.out.trans (hb45.mono HB34.out.size)
  have HB5 : Hid (Below w.heap.size w W5) := HB4.out.trans (hb45.mono HB4.out.size)
  have HPR := Lib.hid (vpre_any v4 vfour (by decide) (fun s hs => ⟨(vfour_ok s hs).wb, (vfour_ok s hs).wu⟩) 3 W5 (HSA.out.below HB35.out))
  clear hb45
  go_wp2_with fail
  change Calls _ _ _ (w4.alloc (.cells (wantT.map Value.string).toArray 9)) _
  rw [← hW5]
  clear hW5
  refine HPR.out.mono ?_
  rintro e w6 ⟨⟨bf, bq, rfl, hsp⟩, hb6⟩
  have hpr : ∀ mi : Int, mi = ((99 : Nat) : Int) → Calls Tryz.prog 52 #[.func (.func 92) #[] #[.pointer (some ⟨bf, 0, none⟩), .pointer (some ⟨bq, 0, none⟩)], .int .i64 mi] w6 fun e w' => (∃ q1 c1 q2 c2, e = .returned (.tuple #[.slice q1 3 c1, .slice q2 3 c2]) ∧ In.IntArg w' (.slice q1 3 c1) [0, 1, 2] ∧ SessArg w' (.slice q2 3 c2) (pickS vfour [0, 1, 3])) ∧ Below w6.heap.size w6 w' := by
    rintro mi rfl
    have h := lpre_sess vfour (by decide) 3 bf bq _ 99 (by decide) w6 w6 (fun b hb => ⟨hb.2, rfl⟩) hsp
    rw [kn_pre] at h
    exact h
  have HPRE := Lib.hid (hpr 99 rfl)
  have HB56 := Lib.hid hb6
  have HB36 : Hid (Below w3.heap.size w3 w6) := HB35.out.trans (hb6.mono HB35.out.size)
  have HB46 : Hid (Below w4.heap.size w4 w6) := HB45.out.trans (hb6.mono HB45.out.size)
  have HB6 : Hid (Below w.heap.size w w6) := HB5.out.trans (hb6.mono HB5.out.size)
  clear hsp hb6 hpr HPR
  go_wp2_with fail
  refine HPRE.out.mono ?_
  rintro e w7 ⟨⟨qf, cf, qs, cs, rfl, hf, hs⟩, hb7⟩
  have HF := Lib.hid hf; have HS := Lib.hid hs
  have HB37 : Hid (Below w3.heap.size w3 w7) := HB36.out.trans (hb7.mono HB36.out.size)
  have HB47 : Hid (Below w4.heap.size w4 w7) := HB46.out.trans (hb7.mono HB46.out.size)
  have HB57 : Hid (Below W5.heap.size W5 w7) := HB56.out.trans (hb7.mono HB56.out.size)
  have HB7 : Hid (Below w.heap.size w w7) := HB6.out.trans (hb7.mono HB6.out.size)
  clear hf hs hb7 HPRE
  go_wp2_with fail
  refine (HWK.out w7 HB7.out).mono ?_
  rintro e w8 ⟨rfl, hb8⟩
  have HB78 := Lib.hid hb8
  have t1 : TextArg w8 (.slice q1 4 r1) wantT := Tx.own_arg (own_keep HOWN.out (fun b e => (HB47.out.trans (hb8.mono HB47.out.size)).block b (HOWN.out.lt b e).2))
  have t2 : TextArg w8 (.slice (some ⟨w4.heap.size, 0, none⟩) 4 4) wantT := HTW.out.below (HB57.out.trans (hb8.mono HB57.out.size))
  have hsm := (Tx.same_any _ _ wantT wantT (by decide) (by decide) w8 t1 t2).mono (R' := fun e w' => e = .returned (.bool true) ∧ Below w8.heap.size w8 w') (fun e w' h => ⟨h.1.trans (by rw [decide_eq_true rfl]), h.2⟩)
  have HSM := Lib.hid hsm
  clear hb8 t1 t2 hsm
  go_wp2_with fail
  refine HSM.out.mono ?_
  rintro e w9 ⟨rfl, hb9⟩
  have HB79 : Hid (Below w7.heap.size w7 w9) := HB78.out.trans (hb9.mono HB78.out.size)
  clear hb9 HSM
  go_wp2_with fail
  have hbA : Below w9.heap.size w9 (w9.alloc (.cells #[.int .i64 0, .int .i64 1, .int .i64 2] 3)) := (Below.refl _ _).alloc (Nat.le_refl _) _
  have i1 := HF.out.below (HB79.out.trans (hbA.mono HB79.out.size))
  have i2 : In.IntArg (w9.alloc (.cells #[.int .i64 0, .int .i64 1, .int .i64 2] 3)) (.slice (some ⟨w9.heap.size, 0, none⟩) 3 3) [0, 1, 2] := In.lit_ints w9 [0, 1, 2] 3
  have hsi := (In.same_any _ _ [0, 1, 2] [0, 1, 2] (by decide) (by decide) _ i1 i2).mono (R' := fun e w' => e = .returned (.bool true) ∧ Below (w9.alloc (.cells #[.int .i64 0, .int .i64 1, .int .i64 2] 3)).heap.size (w9.alloc (.cells #[.int .i64 0, .int .i64 1, .int .i64 2] 3)) w') (fun e w' h => ⟨h.1.trans (by rw [decide_eq_true rfl]), h.2⟩)
  refine hsi.mono ?_
  clear hsi i1 i2
  rintro e wa ⟨rfl, hba⟩
  have HB7A : Hid (Below w7.heap.size w7 wa) := HB79.out.trans ((hbA.trans (hba.mono hbA.size)).mono HB79.out.size)
  have HB3A : Hid (Below w3.heap.size w3 wa) := HB37.out.trans (HB7A.out.mono HB37.out.size)
  have HBA : Hid (Below w.heap.size w wa) := HB7.out.trans (HB7A.out.mono HB7.out.size)
  clear hbA hba
  obtain ⟨p0, cap0, e0, hs0⟩ := HS.out.below HB7A.out
  obtain ⟨g, o, rfl, -, hc⟩ := hs0 2 (by decide)
  cases e0
  have hx : wa.cell? ⟨g, o + 2 * 12 + 1, none⟩ = some (.int .i64 9) := hc 1 _ rfl
  have HKC := Lib.hid (fun (b : Int) (W : World) (hb : Below w3.heap.size w3 W) => vkids_any v4 vfour (by decide) (fun s hs => ⟨(vfour_ok s hs).wb, (vfour_ok s hs).wu⟩) b W (HSA.out.below hb))
  clear hs0 hc
  go_wp2_with fail
  refine (HKC.out 4 wa HB3A.out).mono ?_
  rintro e wb ⟨⟨bk, bg, rfl, hsk⟩, hbb⟩
  have hkd : ∀ mi : Int, mi = ((99 : Nat) : Int) → Calls Tryz.prog 55 #[.func (.func 93) #[] #[.pointer (some ⟨bk, 0, none⟩), .pointer (some ⟨bg, 0, none⟩)], .int .i64 mi] wb fun e w' => (∃ q c, e = .returned (.slice q 0 c)) ∧ Below wb.heap.size wb w' := by
    rintro mi rfl
    have h := lkids_sess vfour (by decide) 4 bk bg _ 99 (by decide) wb wb (fun b hb => ⟨hb.2, rfl⟩) hsk
    rw [kn_k4] at h
    exact h.mono fun e w' h => ⟨by obtain ⟨⟨q, c, h1, -⟩, -⟩ := h; exact ⟨q, c, h1⟩, h.2⟩
  have HKD := Lib.hid (hkd 99 rfl)
  have HB3B : Hid (Below w3.heap.size w3 wb) := HB3A.out.trans (hbb.mono HB3A.out.size)
  have HBB : Hid (Below w.heap.size w wb) := HBA.out.trans (hbb.mono HBA.out.size)
  clear hsk hbb hkd hx
  go_wp2_with fail
  refine HKD.out.mono ?_
  rintro e wc ⟨⟨qc, cc, rfl⟩, hbc⟩
  have HB3C : Hid (Below w3.heap.size w3 wc) := HB3B.out.trans (hbc.mono HB3B.out.size)
  have HBC : Hid (Below w.heap.size w wc) := HBB.out.trans (hbc.mono HBB.out.size)
  clear hbc HKD
  go_wp2_with fail
  refine (HKC.out 0 wc HB3C.out).mono ?_
  rintro e wd ⟨⟨bk, bg, rfl, hsk⟩, hbd⟩
  have hkd : ∀ mi : Int, mi = ((99 : Nat) : Int) → Calls Tryz.prog 55 #[.func (.func 93) #[] #[.pointer (some ⟨bk, 0, none⟩), .pointer (some ⟨bg, 0, none⟩)], .int .i64 mi] wd fun e w' => (∃ q c, e = .returned (.slice q 2 c)) ∧ Below wd.heap.size wd w' := by
    rintro mi rfl
    have h := lkids_sess vfour (by decide) 0 bk bg _ 99 (by decide) wd wd (fun b hb => ⟨hb.2, rfl⟩) hsk
    rw [kn_k0] at h
    exact h.mono fun e w' h => ⟨by obtain ⟨⟨q, c, h1, -⟩, -⟩ := h; exact ⟨q, c, h1⟩, h.2⟩
  have HKD := Lib.hid (hkd 99 rfl)
  have HBD : Hid (Below w.heap.size w wd) := HBC.out.trans (hbd.mono HBC.out.size)
  clear hsk hbd hkd
  go_wp2_with fail
  refine HKD.out.mono ?_
  rintro e wf ⟨⟨qd, cd, rfl⟩, hbf⟩
  have HBF : Hid (Below w.heap.size w wf) := HBD.out.trans (hbf.mono HBD.out.size)
  clear hbf HKD
  go_wp2
  go_ret
  exact ⟨rfl, HBF.out⟩
end Vw
end Go.Proofs.YtocoonkachbjaaaGreatDoor

/- One session of a list is set anew. No program in sight. -/
namespace Go.Proofs.YtocoonkachbjaaaGreatDoor
open Go.RowKit
set_option linter.unusedVariables false
namespace Vw
theorem put_allV (ss : List Sess) (r : Nat) (hr : r < ss.length) (s : Sess) : Ag.put (allV ss).toArray (r * 12) s.cells = (allV (ss.set r s)).toArray := by
  apply Array.ext_getElem?
  intro i
  have hs : s.cells.length = 12 := rfl
  rw [Ag.put_at, hs, List.size_toArray, allV_len]
  by_cases hi : i < ss.length * 12
  · have hk : i / 12 < ss.length := by omega
    have hk2 : i / 12 < (ss.set r s).length := by rw [List.length_set]; exact hk
    have e : i = i / 12 * 12 + i % 12 := by omega
    have hm : i % 12 < 12 := by omega
    have h2 : (allV (ss.set r s)).toArray[i]? = (ss.set r s)[i / 12].cells[i % 12]? := by
      rw [List.getElem?_toArray]
      conv => lhs; rw [e]
      exact all_cell hk2 hm
    have h1 : (allV ss).toArray[i]? = ss[i / 12].cells[i % 12]? := by
      rw [List.getElem?_toArray]
      conv => lhs; rw [e]
      exact all_cell hk hm
    rw [h2, h1]
    by_cases hb : r = i / 12
    · rw [if_pos (by omega)]
      have e3 : i - r * 12 = i % 12 := by omega
      rw [e3, List.getElem_set, if_pos hb]
    · rw [if_neg (by omega), List.getElem_set, if_neg hb]
  · rw [if_neg (by omega), List.getElem?_toArray, List.getElem?_toArray, List.getElem?_eq_none (by rw [allV_len]; omega), List.getElem?_eq_none (by rw [allV_len, List.length_set]; omega)]
end Vw
end Go.Proofs.YtocoonkachbjaaaGreatDoor

/- Loads of whole structs by operations that are guarded. No program's code. -/
namespace Go.Proofs.YtocoonkachbjaaaGreatDoor
open Go.RowKit
set_option linter.unusedVariables false
namespace Gd
theorem wpList_wanted {P : Program} {ops : Array Oper} {rest : List Oper} {o : Oper} {a : Act} {w : World} {Q : Exit → Act → World → Prop} (hw : Region.wanted o (yielded ops a.tmps) = true)
    (h : ∀ K : Act → World → Prop, (∀ a w, wpList P ops Q rest a w → K a w) → o.wp P a w K Q) : wpList P ops Q (o :: rest) a w :=
  wpList_step fun K hK => by rw [if_pos hw]; exact h K hK
theorem load_row {P : Program} {ops : Array Oper} {rest : List Oper} {o : Oper} {a : Act} {w : World} {Q : Exit → Act → World → Prop} (hw : Region.wanted o (yielded ops a.tmps) = true) (ty : TypeId) (x : Operand) (ho : o.op = .load ty x)
    (b : Nat) (hx : a.eval x = .pointer (some ⟨b, 0, none⟩)) (ty' : TypeId) (cells : Array Value) (fr : Nat × Nat) (d : TypeDesc) (hb : w.heap[b]? = some (.cells cells ty' fr)) (hu : P.underlying ty = some d) (hd : d.isRow = true) (hi : (P.info? ty).map (·.size) = some cells.size)
    (h : wpList P ops Q rest (a.put o.dst (.agg cells)) w) : wpList P ops Q (o :: rest) a w := by
  have hr : w.rangeAt b 0 cells.toList := fun j v hj => by
    rw [cell_of_row _ _ _ _ _ _ hb, Nat.zero_add]; simpa using hj
  exact wpList_wanted hw fun _ hK => wp_load_mid ty x ho b 0 hx cells.toList d hr hu hd (by simpa using hi) (by simpa using hK _ _ h)
theorem load_mid {P : Program} {ops : Array Oper} {rest : List Oper} {o : Oper} {a : Act} {w : World} {Q : Exit → Act → World → Prop} (hw : Region.wanted o (yielded ops a.tmps) = true) (ty : TypeId) (x : Operand) (ho : o.op = .load ty x)
    (b k : Nat) (hx : a.eval x = .pointer (some ⟨b, k, none⟩)) (cs : List Value) (d : TypeDesc) (hc : w.rangeAt b k cs) (hu : P.underlying ty = some d) (hd : d.isRow = true) (hi : (P.info? ty).map (·.size) = some cs.length)
    (h : wpList P ops Q rest (a.put o.dst (.agg cs.toArray)) w) : wpList P ops Q (o :: rest) a w :=
  wpList_wanted hw fun _ hK => wp_load_mid ty x ho b k hx cs d hc hu hd hi (hK _ _ h)
end Gd
end Go.Proofs.YtocoonkachbjaaaGreatDoor
