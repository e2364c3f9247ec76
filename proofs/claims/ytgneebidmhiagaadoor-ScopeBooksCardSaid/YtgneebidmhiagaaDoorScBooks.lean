/- The law ScopeBooks. -/
import Derived.Test.YtgneebidmhiagaaDoorScLaw
import Derived.Test.YtgneebidmhiagaaDoorLent
import Derived.Test.YtgneebidmhiagaaDoorApartT
namespace Go.Proofs.YtgneebidmhiagaaDoor
open Go.RowKit Go.Maps Go.ChangeMaps Go.Proofs.NmPlain Go.Proofs.Ar
set_option linter.unusedVariables false
namespace Sc

theorem fam_pair {B C : Nat} {w : World} {e : TypeId} {a b : Value} {xs ys : List Value} (h1 : w.ownsRow B e 1 a xs.length xs) (h2 : w.ownsRow C e 1 b ys.length ys) (hC : B ≤ C) (ha : ∀ g, a.ownBlock = some g → g < C) : Fam B w e [a, b] (fun k => if k = 0 then xs else ys) := by
  refine ⟨fun k hk => ?_, fun j k hj hk hjk g hg => ?_⟩
  · match k, hk with
    | 0, _ => simpa using h1
    | 1, _ => simpa using Ut.own_base h2 hC
  · match j, k, hj, hk with
    | 0, 1, _, _ =>
      simp only [List.getElem_cons_zero, List.getElem_cons_succ] at hg ⊢
      have h3 := ha g hg
      intro e; have := (h2.lt g e).1; omega
    | 1, 0, _, _ =>
      simp only [List.getElem_cons_zero, List.getElem_cons_succ] at hg ⊢
      have h3 := (h2.lt g hg).1
      intro e; have := ha g e; omega
    | 0, 0, _, _ => omega
    | 1, 1, _, _ => omega

/-- While the lent list is written over. -/
def ZRel (base lo g c B : Nat) (ls : List ByteArray) (w : World) (i : Value) (wr : World) : Prop :=
  ∃ k : Nat, k ≤ ls.length ∧ i = .int .i64 k ∧ (∃ zs, wr.ownsRow base 9 1 (.slice (some ⟨g, 0, none⟩) (ls.length + 16) c) (ls.length + 16) zs) ∧ BookAt lo wr B ls ∧ Below base w wr

theorem ZRel.cell {base g c n : Nat} {wr : World} {zs : List Value} (h : wr.ownsRow base 9 1 (.slice (some ⟨g, 0, none⟩) (n + 16) c) (n + 16) zs) {k : Nat} (hk : k < n) :
    (∃ u, wr.cell? ⟨g, k, none⟩ = some u) ∧ wr.frozen? ⟨g, k, none⟩ = false := by
  obtain ⟨g', c', e, h1, h2, h3, h4, h5⟩ := Ut.own_cells h (by omega)
  obtain ⟨rfl, rfl⟩ : g = g' ∧ c = c' := by simpa using e
  refine ⟨⟨_, (h5 k (by omega)).trans (List.getElem?_eq_getElem (by have := h.1; omega))⟩, World.ownsRow.frozenAt h k⟩

theorem ZRel.store {base lo g c B k : Nat} {ls : List ByteArray} {w wr : World} {zs : List Value} (hk : k < ls.length) (h : wr.ownsRow base 9 1 (.slice (some ⟨g, 0, none⟩) (ls.length + 16) c) (ls.length + 16) zs)
    (hB : BookAt lo wr B ls) (hb : Below base w wr) (hg0 : base ≤ g) (hg : g < lo) (u : Value) : ZRel base lo g c B ls w (.int .i64 ((k : Int) + 1)) (wr.setCell ⟨g, k, none⟩ u) := by
  refine ⟨k + 1, by omega, by go_num, ⟨_, (World.ownsRow.stored h k u).1⟩, hB.kept fun i hi _ => ?_, hb.setCell hg0 _⟩
  exact Below.heap_setCell _ _ _ _ (by simp; omega)

def GRel (ls : List ByteArray) (w : World) (i : Value) (wr : World) : Prop :=
  ∃ k : Nat, k ≤ ls.length ∧ k ≤ 65 ∧ i = .int .i64 k ∧ (∀ j (h : j < ls.length), j < k → ls[j].size ≤ 16777216) ∧ w = wr

set_option maxHeartbeats 8000000 in
theorem scopeBooks_core (v : Value) (ls : List ByteArray) (hl : (ls.length + 16) * 16 ≤ 140737488355328) (hz9 : ∀ s ∈ ls, s.size ≤ maxLen) (w : World) (hg : erHandle w) (hm : MaxAt w) (ht : TextArg w v ls) :
    Calls Tryd.prog 3 #[v] w fun e w' => e = .returned (.bool true) ∧ Below w.heap.size w w' := by
  have hlI : (ls.length : Int) ≤ 9223372036854775807 := by omega
  have H0 := Lib.hid ht
  have HLL := Lib.hid hl
  have HR := Lib.hid (fun (hz : ls.length ≤ 64 → ∀ s ∈ ls, s.size ≤ 16777216) => refnew_any v ls hlI hz w ht)
  have HLE := Lib.hid (fun w' (hb : Below w.heap.size w w') => Lt.lent_any v ls hl w' (ht.below hb))
  have HN := Lib.hid (fun v' (hz : ls.length ≤ 64 → ∀ s ∈ ls, s.size ≤ 16777216) w' (hb : Below w.heap.size w w') (h : TextArg w' v' ls) => new_any v' ls hlI hz w' (hm.below hb) h)
  have HK := Lib.hid (fun base g c w' (hb : Below w.heap.size w w') (h : Lt.Lent base g c ls w') => Lt.kept_any base g c v ls hl w' h (ht.below hb))
  have HRA := Lib.hid (fun (h64 : ls.length ≤ 64) w' (hb : Below w.heap.size w w') => refall_any v ls h64 w' (ht.below hb))
  have HSM := Lib.hid (fun v' w' (hb : Below w.heap.size w w') (h : TextArg w' v' ls) => (by
    have := Tx.same_any v' v ls ls hlI hlI w' h (ht.below hb)
    rw [decide_eq_true rfl] at this
    exact this : Calls Tryd.prog 16 #[v', v] w' fun e w2 => e = .returned (.bool true) ∧ Below w'.heap.size w' w2))
  have HT := Lib.hid (fun w' (hb : Below w.heap.size w w') => told_any (newL ls).1 (newL ls).2 (by rcases new_cases ls with h | h; rw [h]; exact Int.le_refl _; omega) (by rcases new_cases ls with h | h; rw [h]; show (0 : Int) ≤ 24; omega; omega) (fun h0 => by
    rcases new_cases ls with h | h
    · rw [h]; show (-1 : Int) < 0; omega
    · omega) w' (hg.below hg.lt hb))
  obtain ⟨q, c, rfl, h1⟩ := ht
  have H1 := Lib.hid h1
  have b0 : (ls.length : Int) ≤ 8796093022192 := by omega
  have HZ9 := Lib.hid (fun j (h : j < ls.length) => hz9 ls[j] (List.getElem_mem h))
  clear h1 hl hm hg hlI hz9
  go_enter Tryd.func3, Tryd.ntmps3
  go_wp2
  go_loopw [3] (fun i wr => GRel ls w i wr) (fun i _ => ls.length - (intOf i).toNat)
  case atStart => exact ⟨0, Nat.zero_le _, by omega, rfl, fun j _ h => absurd h (Nat.not_lt_zero _), rfl⟩
  case round =>
    obtain ⟨k, hk, hk65, rfl, hsm, rfl⟩ := hrel
    have b2 : (0 : Int) ≤ (k : Int) := by omega
    have HSMALL := Lib.hid hsm
    clear hsm
    have hout : (ls.length ≤ k ∨ 64 < k) → Hid (ls.length ≤ 64 → ∀ s ∈ ls, s.size ≤ 16777216) := fun h h64 s hs => by
      obtain ⟨j, hj, rfl⟩ := List.getElem_of_mem hs
      exact HSMALL.out j hj (by omega)
    by_cases h : k < ls.length ∧ k ≤ 64
    · obtain ⟨h1, h2⟩ := h
      have b3 : (k : Int) < (ls.length : Int) := by omega
      have b4 : (k : Int) ≤ 64 := by omega
      obtain ⟨g1, o1, rfl, hg1, k1⟩ := H1.out k h1
      have hs9 := HZ9.out k h1
      have hs8 : (ls[k].size : Int) ≤ 9223372036854775807 := by unfold maxLen at hs9; omega
      have hs7 : ls[k].size ≤ 16777216 → Hid (∀ j (h : j < ls.length), j < k + 1 → ls[j].size ≤ 16777216) := fun h j hj hjk => by
        rcases Nat.lt_or_ge j k with h3 | h3
        · exact HSMALL.out j hj h3
        · have : j = k := by omega
          subst this; exact h
      obtain ⟨x, hx⟩ : ∃ x, x = ls[k] := ⟨_, rfl⟩
      rw [← hx] at k1 hs7 hs8
      clear hx hs9 hout
      by_cases h3 : x.size ≤ 16777216
      · have b5 : (x.size : Int) ≤ 16777216 := by omega
        have HX := hs7 h3
        clear hs7 h3
        go_wp2
        go_roundw
        case rel => exact ⟨k + 1, by omega, by omega, by go_num, HX.out, rfl⟩
        case measure => simp [intOf]; omega
      · have b5 : (16777216 : Int) < (x.size : Int) := by omega
        clear hs7 h3
        go_wp2
        go_ret
        exact ⟨rfl, Below.refl _ _⟩
    · have HOUT := hout (by omega)
      clear hout
      have HB := Lib.hid (fun h => book_of (ls := ls) h)
      rcases new_cases ls with hn | ⟨hn1, hn2⟩
      · have hbk := HB.out hn
        have h64 := hbk.len
        have b3 : (ls.length : Int) ≤ (k : Int) := by omega
        have HR' := Lib.hid (HR.out HOUT.out)
        have HN' := Lib.hid (fun v' => HN.out v' HOUT.out)
        have HRA' := Lib.hid (HRA.out h64)
        have HNL := Lib.hid hn
        have HBK := Lib.hid hbk
        have H64 := Lib.hid h64
        rw [hn] at HR' HT
        have e0 : errV (0, (-1 : Int)).1 (0, (-1 : Int)).2 = .nilIface := rfl
        rw [e0] at HT
        clear e0 HR HN HRA HB hn hbk h h64 H1 HZ9 HSMALL
        go_wp2_with fail
        refine HR'.out.mono ?_
        rintro e w1 ⟨rfl, hb1⟩
        go_wp2_with fail
        refine (HLE.out _ hb1).mono ?_
        rintro e w2 ⟨g, cc, rfl, hL, hb2⟩
        have hb12 := hb1.trans (hb2.mono hb1.size)
        have HL2 := Lib.hid hL
        have HB12 := Lib.hid hb12
        clear hb2 hL hb12
        go_wp2_with fail
        refine (HN'.out _ _ HB12.out HL2.out.texts).mono ?_
        rintro e w3 ⟨hp, hb3⟩
        rcases hp with ⟨-, B, rfl, hB⟩ | ⟨h, -⟩
        · have HB3 := Lib.hid hB
          have HL3 := Lib.hid (HL2.out.below hb3)
          have HB13 := Lib.hid (HB12.out.trans (hb3.mono HB12.out.size))
          obtain ⟨lo, hlo⟩ : ∃ lo, lo = w2.heap.size := ⟨_, rfl⟩
          rw [← hlo] at HB3
          have HG := Lib.hid (show w.heap.size ≤ g ∧ g < lo by rw [hlo]; exact ⟨Nat.le_trans hb1.size HL2.out.cells.1, HL2.out.cells.2.1⟩)
          have HBASE := Lib.hid hb1.size
          clear hb1 hb3 hB hlo HL2 HB12
          go_wp2_with fail
          refine (HT.out _ HB13.out).mono ?_
          rintro e w4 ⟨rfl, hb4⟩
          have HB4 := Lib.hid (HB3.out.below hb4)
          have HL4 := Lib.hid (HL3.out.below hb4)
          have HB14 := Lib.hid (HB13.out.trans (hb4.mono HB13.out.size))
          clear hb4 HB3 HL3 HB13
          go_wp2_with fail
          refine (HK.out _ g cc _ HB14.out HL4.out).mono ?_
          rintro e w5 ⟨rfl, hb5⟩
          have HB5 := Lib.hid (HB4.out.below hb5)
          have HL5 := Lib.hid (HL4.out.below hb5)
          have HB15 := Lib.hid (HB14.out.trans (hb5.mono HB14.out.size))
          clear hb5 HB4 HL4 HB14
          have HS : Hid (ZRel w.heap.size lo g cc B ls w (.int .i64 0) w5) := ⟨0, Nat.zero_le _, rfl, ⟨_, Ut.own_base HL5.out HBASE.out⟩, HB5.out, HB15.out⟩
          clear HL5 HB5 HB15
          go_wp2
          go_loopw [9] (fun i wr => ZRel w.heap.size lo g cc B ls w i wr) (fun i _ => ls.length - (intOf i).toNat)
          case atStart => exact HS.out
          case round =>
            obtain ⟨m, hm, rfl, ⟨zs, hzs⟩, hbk, hbl⟩ := hrel
            have c1 : (0 : Int) ≤ (m : Int) := by omega
            have HZS := Lib.hid hzs; have HBK2 := Lib.hid hbk; have HBL := Lib.hid hbl
            clear hzs hbk hbl
            by_cases h : m < ls.length
            · have c2 : (m : Int) < (ls.length : Int) := by omega
              obtain ⟨⟨u, k1⟩, k2⟩ := ZRel.cell HZS.out h
              have HST := Lib.hid (fun u => ZRel.store h HZS.out HBK2.out HBL.out HG.out.1 HG.out.2 u)
              go_wp2
              go_roundw
              case rel => exact HST.out _
              case measure => simp [intOf]; omega
            · have c2 : (ls.length : Int) ≤ (m : Int) := by omega
              have HA := Lib.hid (fun w' (hb : BookAt lo w' B ls) => all_any lo B ls H64.out w' hb)
              have HNM := Lib.hid (fun w' (hb : BookAt lo w' B ls) => names_any lo B ls H64.out w' hb)
              have hqa : ((allS ls : Int) == (allS ls : Int)) = true := by simp
              obtain ⟨A, hA⟩ : ∃ A, A = allS ls := ⟨_, rfl⟩
              rw [← hA] at HA HRA' hqa
              clear hA HZS HS HT HK HN' HLE HR' HG HBASE
              go_wp2_with fail
              refine (HNM.out _ HBK2.out).mono ?_
              rintro e w6 ⟨q1, r1, rfl, ho1, d6⟩
              have g6 := HBL.out.trans (d6.mono HBL.out.size)
              have HO1 := Lib.hid ho1
              have HK6 := Lib.hid (HBK2.out.below d6)
              have z6 : wr.heap.size ≤ w6.heap.size := d6.size
              have zw : w.heap.size ≤ wr.heap.size := HBL.out.size
              have G6 := Lib.hid g6; have D6 := Lib.hid d6
              clear ho1 g6 d6
              go_wp2_with fail
              refine (HNM.out _ HK6.out).mono ?_
              rintro e w7 ⟨q2, r2, rfl, ho2, d7⟩
              have HO2 := Lib.hid ho2
              have HO1' := Lib.hid (Ut.own_below HO1.out d7)
              have HB1 : Hid (∀ g, (Value.slice q1 ls.length r1).ownBlock = some g → g < w6.heap.size) := fun g hg => (HO1.out.lt g hg).2
              have HK7 := Lib.hid (HK6.out.below d7)
              have G7 := Lib.hid (G6.out.trans (d7.mono G6.out.size))
              have D7 := Lib.hid (D6.out.trans (d7.mono z6))
              have z7 : w6.heap.size ≤ w7.heap.size := d7.size
              have HAP : Hid (∀ w', Below w7.heap.size w7 w' → Calls Tryd.prog 19 #[.slice (some ⟨w'.heap.size, 0, none⟩) 2 2] (w'.alloc (.cells #[.slice q1 ls.length r1, .slice q2 ls.length r2] 22)) fun e w2 => e = .returned (.bool true) ∧ Below w.heap.size w w2 ∧ BookAt lo w2 B ls) := fun w' hb => by
                have hc : Below wr.heap.size wr (w'.alloc (.cells #[.slice q1 ls.length r1, .slice q2 ls.length r2] 22)) := (D7.out.trans (hb.mono (Nat.le_trans z6 z7))).alloc (Nat.le_trans (Nat.le_trans z6 z7) hb.size) _
                have hb2 : Below w7.heap.size w7 (w'.alloc (.cells #[.slice q1 ls.length r1, .slice q2 ls.length r2] 22)) := hb.alloc hb.size _
                have hF := (fam_pair (xs := ls.map Value.string) (ys := ls.map Value.string) (by simpa using HO1'.out) (by simpa using HO2.out) z6 HB1.out).below hb2
                have h3 := H64.out
                have := apartTexts_any wr.heap.size w'.heap.size _ [.slice q1 ls.length r1, .slice q2 ls.length r2] _ hF (Ut.alloc_at _ _) (by have := hb.size; simp; omega) (by simp) (by simp) (fun k => by
                  show ((if k = 0 then ls.map Value.string else ls.map Value.string).length : Int) ≤ _
                  split <;> (rw [List.length_map]; omega))
                exact this.mono fun e w2 ⟨h1, h2⟩ => ⟨h1, HBL.out.trans ((hc.trans h2).mono zw), HBK2.out.below (hc.trans h2)⟩
              have HS1 := Lib.hid (fun w' (hb : Below w7.heap.size w7 w') => HSM.out (.slice q1 ls.length r1) w' (G7.out.trans (hb.mono G7.out.size)) ((Tx.own_arg HO1'.out).below hb))
              have HS2 := Lib.hid (fun w' (hb : Below w7.heap.size w7 w') => HSM.out (.slice q2 ls.length r2) w' (G7.out.trans (hb.mono G7.out.size)) ((Tx.own_arg HO2.out).below hb))
              clear ho2 d7 HO1 HO2 HO1' HB1 HK6 D6 D7 HBK2 z6 z7 zw
              go_wp2_with fail
              refine (HS1.out _ (Below.refl _ _)).mono ?_
              rintro e w8 ⟨rfl, d8⟩
              have g8 : Below w7.heap.size w7 w8 := d8
              go_wp2_with fail
              refine (HS2.out _ g8).mono ?_
              rintro e w9 ⟨rfl, d9⟩
              have g9 : Below w7.heap.size w7 w9 := g8.trans (d9.mono g8.size)
              have HK9 := Lib.hid (HK7.out.below g9)
              go_wp2_with fail
              refine (HA.out _ HK9.out).mono ?_
              rintro e w10 ⟨rfl, rfl⟩
              go_wp2_with fail
              refine (HRA'.out _ (G7.out.trans (g9.mono G7.out.size))).mono ?_
              rintro e w11 ⟨rfl, rfl⟩
              go_wp2_with fail
              refine (HAP.out _ g9).mono ?_
              rintro e w12 ⟨rfl, d12, k12⟩
              have D12 := Lib.hid d12; have K12 := Lib.hid k12
              clear d8 d9 g8 g9 d12 k12
              go_wp2_with fail
              refine (HNM.out _ K12.out).mono ?_
              rintro e w13 ⟨q3, r3, rfl, ho3, d13⟩
              have HS3 := Lib.hid (HSM.out (.slice q3 ls.length r3) _ (D12.out.trans (d13.mono D12.out.size)) (Tx.own_arg ho3))
              have D13 := Lib.hid (D12.out.trans (d13.mono D12.out.size))
              clear ho3 d13
              go_wp2_with fail
              refine HS3.out.mono ?_
              rintro e w14 ⟨rfl, d14⟩
              go_wp2
              go_ret
              exact ⟨rfl, D13.out.trans (d14.mono D13.out.size)⟩
        · exact absurd HNL.out h
      · have hq : ((newL ls).1 != 0) = true := by rw [bne_iff_ne]; omega
        have HR' := Lib.hid (HR.out HOUT.out)
        have HN' := Lib.hid (fun v' => HN.out v' HOUT.out)
        have HNE : Hid (newL ls ≠ (0, -1)) := fun e => by rw [e] at hn1; exact absurd hn1 (by decide)
        obtain ⟨V, hV⟩ : ∃ V, V = errV (newL ls).1 (newL ls).2 := ⟨_, rfl⟩
        unfold NewPost at HN'
        rw [← hV] at HT HN'
        obtain ⟨⟨no, at_⟩, hx⟩ : ∃ x, x = newL ls := ⟨_, rfl⟩
        rw [← hx] at HR' hq HT HN' HNE
        simp only at HR' hq HT
        clear hx HR HN HRA HB H1 HZ9 HSMALL hn1 hn2 HSM hV
        have key : Hid True := trivial
        rcases (show ls.length ≤ k ∨ (k < ls.length ∧ 64 < k) by omega) with hx | ⟨hx, hx2⟩
        all_goals (
          first
            | (have b3 : (k : Int) < (ls.length : Int) := by omega)
            | (have b3 : (ls.length : Int) ≤ (k : Int) := by omega)
          try (have b4 : (64 : Int) < (k : Int) := by omega)
          clear hx h
          go_wp2_with fail
          refine HR'.out.mono ?_
          rintro e w1 ⟨rfl, hb1⟩
          go_wp2_with fail
          refine (HLE.out _ hb1).mono ?_
          rintro e w2 ⟨g, cc, rfl, hL, hb2⟩
          have hb12 := hb1.trans (hb2.mono hb1.size)
          have HL2 := Lib.hid hL
          have HB12 := Lib.hid hb12
          clear hb2 hL hb12
          go_wp2_with fail
          refine (HN'.out _ _ HB12.out HL2.out.texts).mono ?_
          rintro e w3 ⟨hp, hb3⟩
          rcases hp with ⟨h, -⟩ | ⟨-, rfl⟩
          · exact absurd h HNE.out
          · have HL3 := Lib.hid (HL2.out.below hb3)
            have HB13 := Lib.hid (HB12.out.trans (hb3.mono HB12.out.size))
            clear hb1 hb3 HL2 HB12
            go_wp2_with fail
            refine (HT.out _ HB13.out).mono ?_
            rintro e w4 ⟨rfl, hb4⟩
            have HL4 := Lib.hid (HL3.out.below hb4)
            have HB14 := Lib.hid (HB13.out.trans (hb4.mono HB13.out.size))
            clear hb4 HL3 HB13
            go_wp2_with fail
            refine (HK.out _ g cc _ HB14.out HL4.out).mono ?_
            rintro e w5 ⟨rfl, hb5⟩
            have HB15 := Lib.hid (HB14.out.trans (hb5.mono HB14.out.size))
            go_wp2
            go_ret
            exact ⟨rfl, HB15.out⟩)

end Sc

theorem scopeBooks_walk (v : Value) (ls : List ByteArray) (hl : ls.length ≤ maxLen) (hz : ∀ s ∈ ls, s.size ≤ maxLen) (w : World) (hL : laidMetH Tryd.prog Rows.scopeBooksRow.laid w) (hsh : w.ShapedOpen Tryd.prog) (ht : TextArg w v ls) (hn : ls.length * 16 ≤ 140737488351232) :
    Calls Tryd.prog 3 #[v] w fun e w' => e = .returned (.bool true) ∧ Below w.heap.size w w' :=
  Sc.scopeBooks_core v ls (by omega) hz w (handle_of_laid hL (by kernel_rfl)) (max_of_shape w hsh) ht

end Go.Proofs.YtgneebidmhiagaaDoor
