/- The law ScopeBelow. -/
import Derived.Test.YtgneebidmhiagaaDoorScJoined
import Derived.Test.YtgneebidmhiagaaDoorPick
namespace Go.Proofs.YtgneebidmhiagaaDoor
open Go.RowKit Go.Maps Go.ChangeMaps Go.Proofs.NmPlain Go.Proofs.Ar
set_option linter.unusedVariables false
namespace Sc

/-- What the law gathers: those below name k, but for it. -/
def wantAt (ls : List ByteArray) (k : Nat) (l : Bs) (i : Nat) : Bool := match ls[i]? with
  | some x => !decide (i = k) && underB x.data.toList l
  | none => false
theorem wantAt_at {ls : List ByteArray} {k : Nat} {l : Bs} {i : Nat} (h : i < ls.length) : wantAt ls k l i = (!decide (i = k) && underB ls[i].data.toList l) := by
  unfold wantAt; rw [List.getElem?_eq_getElem h]
theorem want_bel {ls : List ByteArray} (hb : IsBook ls) {k : Nat} (hk : k < ls.length) : setBy (wantAt ls k ls[k].data.toList) ls.length = bel ls ls[k].data.toList := by
  unfold bel
  refine setBy_congr fun i hi => ?_
  rw [wantAt_at hi, belAt_at hi]
  congr 1
  by_cases e : i = k
  · subst e; simp
  · have : ¬ ls[i].data.toList = ls[k].data.toList := fun h => e (hb.once i k hi hk (by
      cases ha : ls[i]; cases hb : ls[k]
      rw [ha, hb] at h
      simpa using h))
    rw [decide_eq_false e, decide_eq_false this]

theorem wrap_nat {a : Nat} (h : a < 18446744073709551616) : IntKind.u64.wrap (a : Int) = (a : Int) := IntWalk.u64_in _ ⟨Int.natCast_nonneg _, Int.ofNat_le.2 (Nat.le_of_lt_succ h)⟩

set_option maxHeartbeats 8000000 in
theorem scopeBelow_core (v : Value) (ls : List ByteArray) (hl : ls.length ≤ maxLen) (hz : ∀ s ∈ ls, s.size ≤ 1048576) (which : Int) (w : World) (hg : erHandle w) (hm : MaxAt w) (ht : TextArg w v ls) :
    Calls Tryd.prog 8 #[v, .int .i64 which] w fun e w' => e = .returned (.bool true) ∧ Below w.heap.size w w' := by
  have hlI : (ls.length : Int) ≤ 9223372036854775807 := by unfold maxLen at hl; omega
  have hz2 : ∀ s ∈ ls, s.size ≤ 16777216 := fun s h => Nat.le_trans (hz s h) (by omega)
  have HWK := Lib.hid (works_any w hm)
  have HN := Lib.hid (fun w' (hb : Below w.heap.size w w') => new_any v ls hlI (fun _ => hz2) w' (hm.below hb) (ht.below hb))
  obtain ⟨q, c, rfl, hcell⟩ := id ht
  have HCELL := Lib.hid hcell
  clear hcell
  go_enter Tryd.func8, Tryd.ntmps8
  go_wp2_with fail
  refine HWK.out.mono ?_
  rintro e x1 ⟨rfl, hb1⟩
  go_wp2_with fail
  refine (HN.out _ hb1).mono ?_
  rintro e x2 ⟨hp, hb2⟩
  have c2 : Below w.heap.size w x2 := hb1.trans (hb2.mono hb1.size)
  rcases new_shape _ _ _ _ hp with ⟨hbk, B, rfl, hB⟩ | ⟨ty, x, rfl⟩
  · have e0 : errV 0 (-1) = .nilIface := rfl
    have HP0 := Lib.hid (fun w' (hb : BookAt x1.heap.size w' B ls) (hb2 : Below w.heap.size w w') => parse_any _ B ls hbk hz2 ⟨#[42]⟩ (by decide) w' (hm.below hb2) hb)
    have HA := Lib.hid (fun w' (hb : BookAt x1.heap.size w' B ls) => all_any _ B ls hbk.len w' hb)
    have e1 : parseL ls (⟨#[42]⟩ : ByteArray).data.toList = (allS ls, 0, -1) := parse_star ls
    unfold ParsePost at HP0
    rw [e1] at HP0
    simp only [e0] at HP0
    have HB2 := Lib.hid hB
    have hal : allS ls < 18446744073709551616 := by have := allS_lt hbk.len; omega
    obtain ⟨A, hA⟩ : ∃ A, A = allS ls := ⟨_, rfl⟩
    rw [← hA] at HP0 HA
    have hq1 : ((A : Int) == (A : Int)) = true := by simp
    have hq2 : ((A : Int) != (A : Int)) = false := by simp
    have hlen := hbk.len
    clear hp hB hb2 HWK HN e1 hA hal
    go_wp2_with fail
    refine (HP0.out _ HB2.out c2).mono ?_
    rintro e x3 ⟨rfl, b3⟩
    have c3 := c2.trans (b3.mono c2.size)
    have HB3 := Lib.hid (HB2.out.below b3)
    clear b3 HB2
    by_cases h0 : ls.length = 0
    · have d1 : ((ls.length : Int) == 0) = true := by rw [h0]; rfl
      clear h0 hz hz2 hm hg ht HCELL
      go_wp2_with fail
      refine (HA.out _ HB3.out).mono ?_
      rintro e x4 ⟨rfl, rfl⟩
      go_wp2_with fail
      refine (HA.out _ HB3.out).mono ?_
      rintro e x4 ⟨rfl, rfl⟩
      go_wp2
      go_ret
      exact ⟨rfl, c3⟩
    · have d1 : ((ls.length : Int) == 0) = false := by rw [beq_eq_false_iff_ne]; omega
      have hn0 : (0 : Int) < (ls.length : Int) := by omega
      have HPK := Lib.hid (fun w' => Pk.pick_any which (ls.length : Int) hn0 (by omega) w')
      have hk1 := Int.emod_nonneg which (show (ls.length : Int) ≠ 0 by omega)
      have hk2 := Int.emod_lt_of_pos which hn0
      obtain ⟨k, hk⟩ : ∃ k : Nat, which % (ls.length : Int) = (k : Int) := ⟨(which % (ls.length : Int)).toNat, by omega⟩
      rw [hk] at HPK
      have hkl : k < ls.length := by omega
      clear hk1 hk2 hk h0
      obtain ⟨g1, o1, rfl, hg1, k1⟩ := HCELL.out k hkl
      have hpn := parse_name hbk hkl
      have hpb := parse_below hbk hkl
      have hwb := want_bel hbk hkl
      have hxd := hbk.dots k hkl
      have hxs : ls[k].size ≤ 16777216 := hz2 _ (List.getElem_mem hkl)
      obtain ⟨x, hx⟩ : ∃ x, x = ls[k] := ⟨_, rfl⟩
      rw [← hx] at hpn hpb hwb hxd hxs k1
      have hx132 : x.size ≤ 132 := by have h := dotB_le hxd; rw [← size_toList] at h; exact h
      have HP1 := Lib.hid (fun w' (hb : BookAt x1.heap.size w' B ls) (hb2 : Below w.heap.size w w') => parse_any _ B ls hbk hz2 x (by omega) w' (hm.below hb2) hb)
      have HP2 := Lib.hid (fun w' (hb : BookAt x1.heap.size w' B ls) (hb2 : Below w.heap.size w w') => parse_any _ B ls hbk hz2 (x ++ ⟨#[46, 42]⟩) (by simp only [ByteArray.size_append]; have e : (⟨#[46, 42]⟩ : ByteArray).size = 2 := rfl; rw [e]; omega) w' (hm.below hb2) hb)
      have hxa : (x ++ ⟨#[46, 42]⟩ : ByteArray).data.toList = x.data.toList ++ [46, 42] := by simp
      unfold ParsePost at HP1 HP2
      rw [hxa, hpb] at HP2
      rw [hpn] at HP1
      simp only [e0] at HP1
      have HUN := Lib.hid (fun (y : ByteArray) (hy : y.size ≤ 16777216) w' (hb2 : Below w.heap.size w w') => under_any y x (by omega) (by omega) w' (hm.below hb2))
      obtain ⟨l, hlx⟩ : ∃ l, l = x.data.toList := ⟨_, rfl⟩
      rw [← hlx] at HP2 HUN hwb
      have hS := setBy_u64 (belAt ls l) (n := ls.length) hbk.len
      have hS2 : bel ls l < 18446744073709551616 := hS
      obtain ⟨S, hSe⟩ : ∃ S, S = bel ls l := ⟨_, rfl⟩
      rw [← hSe] at HP2 hwb hS2
      have HWB := Lib.hid hwb
      have hpw : (((2 ^ k : Nat) : Int) != IntKind.u64.wrap ((2 : Int) ^ k)) = false := by rw [wrap_pow (by omega)]; simp
      obtain ⟨D, hD⟩ : ∃ D : Nat, D = 2 ^ k := ⟨_, rfl⟩
      rw [← hD] at HP1 hpw
      have b1 : (0 : Int) ≤ (k : Int) := by omega
      have b2 : (k : Int) < (ls.length : Int) := by omega
      have b3 : (k : Int) ≤ 63 := by omega
      have HK1 := Lib.hid k1
      have k13 : x3.cell? ⟨g1, o1 + k, none⟩ = some (.string x) := (c3.cell (p := ⟨g1, o1 + k, none⟩) hg1).trans k1
      have HZ := Lib.hid hz2
      have HGG := Lib.hid (fun w' (hb : Below w.heap.size w w') => Fl.at_flt 0 10 (by omega) (by omega) w' (hg.below hg.lt hb))
      clear hpn hpb hwb hxd hxs hx hxa hlx hS hSe hD k1 hz hz2 hm hg ht hl hlI
      go_wp2_with fail
      refine (HA.out _ HB3.out).mono ?_
      rintro e x4 ⟨rfl, rfl⟩
      go_wp2_with fail
      refine (HPK.out _).mono ?_
      rintro e x4 ⟨rfl, rfl⟩
      go_wp2_with fail
      refine (HP1.out _ HB3.out c3).mono ?_
      rintro e x5 ⟨rfl, b5⟩
      have c5 := c3.trans (b5.mono c3.size)
      have HB5 := Lib.hid (HB3.out.below b5)
      clear b5 HB3 k13
      go_wp2
      go_loopw [10, 11] (fun s i wr => ∃ m : Nat, m ≤ ls.length ∧ i = .int .i64 m ∧ s = .int .u64 (setBy (wantAt ls k l) m : Nat) ∧ Below x5.heap.size x5 wr) (fun _ i _ => ls.length - (intOf i).toNat)
      case atStart => exact ⟨0, Nat.zero_le _, rfl, rfl, Below.refl _ _⟩
      case round =>
        obtain ⟨m, hm2, rfl, rfl, hbr5⟩ := hrel
        have hbr : Below w.heap.size w wr := c5.trans (hbr5.mono c5.size)
        by_cases h : m < ls.length
        · obtain ⟨g2, o2, ep, hg2, j1⟩ := HCELL.out m h
          cases ep
          have j1' : wr.cell? ⟨g1, o1 + m, none⟩ = some (.string ls[m]) := (hbr.cell (p := ⟨g1, o1 + m, none⟩) hg1).trans j1
          have j2' : wr.cell? ⟨g1, o1 + k, none⟩ = some (.string x) := (hbr.cell (p := ⟨g1, o1 + k, none⟩) hg1).trans HK1.out
          have hwa := wantAt_at (k := k) (l := l) h
          have hys : ls[m].size ≤ 16777216 := HZ.out _ (List.getElem_mem h)
          obtain ⟨y, hy⟩ : ∃ y, y = ls[m] := ⟨_, rfl⟩
          rw [← hy] at hwa j1' hys
          have b5 : (0 : Int) ≤ (m : Int) := by omega
          have b6 : (m : Int) < (ls.length : Int) := by omega
          have b7 : (m : Int) ≤ 63 := by omega
          clear j1 hy
          by_cases he : m = k
          · have HO := Lib.hid (set_no (p := wantAt ls k l) (k := m) (by rw [hwa]; simp [he]))
            have q1 : ((m : Int) != (k : Int)) = false := by rw [he]; simp
            have he2 : k = m := he.symm
            clear hwa he he2
            go_wp2
            go_quiet (fail)
            go_wp2
            go_roundw
            case rel => exact ⟨m + 1, by omega, by go_num, by rw [HO.out], Ut.below_drewN hbr5 _⟩
            case measure => simp [intOf]; omega
          · have q1 : ((m : Int) != (k : Int)) = true := by rw [bne_iff_ne]; omega
            have HR := Lib.hid (fun (w' : World) (hc1 : w'.cell? ⟨g1, o1 + m, none⟩ = some (.string y)) (hc2 : w'.cell? ⟨g1, o1 + k, none⟩ = some (.string x)) (hb : Below w.heap.size w w') =>
              (HUN.out y hys w' hb).mono fun e w'' h => (⟨h.1, h.2, (h.2.cell (p := ⟨g1, o1 + m, none⟩) (lt_of_cell hc1)).trans hc1, (h.2.cell (p := ⟨g1, o1 + k, none⟩) (lt_of_cell hc2)).trans hc2⟩ : _ ∧ _ ∧ w''.cell? ⟨g1, o1 + m, none⟩ = some (.string y) ∧ w''.cell? ⟨g1, o1 + k, none⟩ = some (.string x)))
            have hbd : Below w.heap.size w wr.drew := hbr.drew
            cases hun : underB y.data.toList l with
            | true =>
              have HO := Lib.hid (or_set (p := wantAt ls k l) (k := m) (by omega) (by rw [hwa]; simp [he, hun]))
              rw [hun] at HR
              clear hwa he hun
              go_wp2
              go_region_held3 (fun w' => w'.cell? ⟨g1, o1 + m, none⟩ = some (.string y) ∧ w'.cell? ⟨g1, o1 + k, none⟩ = some (.string x)) (go_keep) (first | (go_at_call 30; refine (HR.out _ ?_ ?_ ?_).mono ?_; (simp [*]); (simp [*]); (exact hbd); rintro e w3 ⟨rfl, hb3, k3, k4⟩))
              go_wp2
              go_roundw
              case rel => exact ⟨m + 1, by omega, by go_num, by rw [HO.out], hbr5.drew.trans (hb3.mono hbr5.drew.size)⟩
              case measure => simp [intOf]; omega
            | false =>
              have HO := Lib.hid (set_no (p := wantAt ls k l) (k := m) (by rw [hwa]; simp [he, hun]))
              rw [hun] at HR
              clear hwa he hun
              go_wp2
              go_region_held3 (fun w' => w'.cell? ⟨g1, o1 + m, none⟩ = some (.string y) ∧ w'.cell? ⟨g1, o1 + k, none⟩ = some (.string x)) (go_keep) (first | (go_at_call 30; refine (HR.out _ ?_ ?_ ?_).mono ?_; (simp [*]); (simp [*]); (exact hbd); rintro e w3 ⟨rfl, hb3, k3, k4⟩))
              go_wp2
              go_roundw
              case rel => exact ⟨m + 1, by omega, by go_num, by rw [HO.out], hbr5.drew.trans (hb3.mono hbr5.drew.size)⟩
              case measure => simp [intOf]; omega
        · obtain rfl : m = ls.length := by omega
          rw [HWB.out]
          have j2' : wr.cell? ⟨g1, o1 + k, none⟩ = some (.string x) := (hbr.cell (p := ⟨g1, o1 + k, none⟩) hg1).trans HK1.out
          have HB6 := Lib.hid (HB5.out.below hbr5)
          by_cases hS0 : S = 0
          · rw [if_pos hS0] at HP2
            have q2 : ((S : Int) == 0) = true := by rw [hS0]; rfl
            have e5 : errV 10 0 = .iface 71 (Fl.fv 0 10) := errV_flt (by omega) (by omega)
            simp only [e5] at HP2
            obtain ⟨F, hF⟩ : ∃ F, F = Fl.fv 0 10 := ⟨_, rfl⟩
            rw [← hF] at HP2 HGG
            clear hS0 e5 hF h
            go_wp2_with fail
            refine (HP2.out _ HB6.out hbr).mono ?_
            rintro e x7 ⟨rfl, b7⟩
            have c7 := hbr.trans (b7.mono hbr.size)
            go_wp2_with fail
            refine (HGG.out _ c7).mono ?_
            rintro e x8 ⟨rfl, b8⟩
            have c8 := c7.trans (b8.mono c7.size)
            go_wp2
            go_ret
            exact ⟨rfl, c8⟩
          · rw [if_neg hS0] at HP2
            have q2 : ((S : Int) == 0) = false := by rw [beq_eq_false_iff_ne]; omega
            have q3 : ((S : Int) == (S : Int)) = true := by simp
            simp only [e0] at HP2
            clear hS0 h
            go_wp2_with fail
            refine (HP2.out _ HB6.out hbr).mono ?_
            rintro e x7 ⟨rfl, b7⟩
            have c7 := hbr.trans (b7.mono hbr.size)
            go_wp2
            go_ret
            exact ⟨rfl, c7⟩
  · clear hp HWK HN hz hz2 ht hm hg
    go_wp2
    go_ret
    exact ⟨rfl, c2⟩

end Sc

theorem scopeBelow_walk (v : Value) (ls : List ByteArray) (hl : ls.length ≤ maxLen) (hz : ∀ s ∈ ls, s.size ≤ maxLen) (which : Int) (wf : (Lit.int .i64 which).wf = true) (w : World) (hL : laidMetH Tryd.prog Rows.scopeBelowRow.laid w) (hsh : w.ShapedOpen Tryd.prog) (ht : TextArg w v ls) (hy : ∀ s ∈ ls, s.size ≤ 1048576) :
    Calls Tryd.prog 8 #[v, .int .i64 which] w fun e w' => e = .returned (.bool true) ∧ Below w.heap.size w w' :=
  Sc.scopeBelow_core v ls hl hy which w (handle_of_laid hL (by kernel_rfl)) (max_of_shape w hsh) ht

end Go.Proofs.YtgneebidmhiagaaDoor
