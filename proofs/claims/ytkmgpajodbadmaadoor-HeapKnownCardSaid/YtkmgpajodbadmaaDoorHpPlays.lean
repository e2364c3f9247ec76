/- The law HeapPlays. -/
import Derived.Test.YtkmgpajodbadmaaDoorHpAsked
import Derived.Test.YtkmgpajodbadmaaDoorHandle
import Derived.Test.YtkmgpajodbadmaaDoorArgActs
namespace Go.Proofs.YtkmgpajodbadmaaDoor
open Go.RowKit Go.Proofs.Ar
set_option linter.unusedVariables false
namespace Hp

theorem hnew_no (n : Int) (h0 : n < 1 ∨ 65536 < n) (w : World) : Calls Tryd.prog 6 #[.int .i64 n] w fun e w' => e = .returned (.tuple #[.pointer none, .iface 65 (.int .i64 1)]) ∧ w = w' := by
  by_cases h : n < 1
  · clear h0
    go_enter Tryd.func6, Tryd.ntmps6
    go_wp2
    go_ret2
    exact ⟨rfl, rfl⟩
  · have h1 : 1 ≤ n := by omega
    have h2 : 65536 < n := by omega
    clear h0 h
    go_enter Tryd.func6, Tryd.ntmps6
    go_wp2
    go_ret2
    exact ⟨rfl, rfl⟩

/-- Behind an act on both. -/
theorem Both.act {lo H r n : Nat} {L L' R' : List It} {F F' : Nat → Prop} {v v' : Value} {w w3 w4 : World} (h : Both lo H r n L (srt L) F v w) (hh : HeapAt lo H n L' F' w3) (ho : Only F w w3) (hn : ∀ k, F' k → F k ∨ w.heap.size ≤ k)
    (hr : RefAt lo r n R' v' w4) (ho2 : Only (fun b => b = r) w3 w4) (hv : ∀ b, v'.ownBlock = some b → w3.heap.size ≤ b) (e : R' = srt L') : Both lo H r n L' (srt L') F' v' w4 ∧ Only (fun k => F k ∨ k = r) w w4 := by
  have h1 := h.heaps hh ho hn
  subst e
  exact ⟨h1.refs hr ho2 (fun b e => .inl (hv b e)), (ho.mono (G := fun k => F k ∨ k = r) (fun _ _ h => .inl h)).trans ho2 (fun _ _ h => .inr h)⟩

/-- All that there is while a script is played. -/
structure PlayAt (lo H r n : Nat) (w0 : World) (L : List It) (F : Nat → Prop) (v : Value) (Bs : Nat) (zs : List It) (was : Value) (wr : World) : Prop where
  both : Both lo H r n L (srt L) F v wr
  held : Held lo r Bs F zs was wr
  zn : zs.length ≤ n
  bel : Below lo w0 wr
  low : lo ≤ wr.heap.size

theorem PlayAt.below {lo H r n : Nat} {w0 : World} {L : List It} {F : Nat → Prop} {v : Value} {Bs : Nat} {zs : List It} {was : Value} {w w' : World} (h : PlayAt lo H r n w0 L F v Bs zs was w) (hb : Below w.heap.size w w') : PlayAt lo H r n w0 L F v Bs zs was w' :=
  ⟨h.both.below hb, h.held.below hb, h.zn, h.bel.trans (hb.mono h.low), Nat.le_trans h.low hb.size⟩
theorem PlayAt.act {lo H r n : Nat} {w0 : World} {L L' R' : List It} {F F' : Nat → Prop} {v v' : Value} {Bs : Nat} {zs : List It} {was : Value} {w w3 w4 : World} (h : PlayAt lo H r n w0 L F v Bs zs was w) (hh : HeapAt lo H n L' F' w3) (ho : Only F w w3) (hn : ∀ k, F' k → F k ∨ w.heap.size ≤ k)
    (hr : RefAt lo r n R' v' w4) (ho2 : Only (fun b => b = r) w3 w4) (hv : ∀ b, v'.ownBlock = some b → w3.heap.size ≤ b) (e : R' = srt L') : PlayAt lo H r n w0 L' F' v' Bs zs was w4 := by
  obtain ⟨h1, h2⟩ := h.both.act hh ho hn hr ho2 hv e
  refine ⟨h1, h.held.only h2 (fun k hk => hk) hn, h.zn, h.bel.trans (h2.below h.low (fun i hi hf => ?_)), Nat.le_trans h.low h2.size⟩
  rcases hf with hf | hf
  · have := (h.both.heap.lt i hf).1; omega
  · have := h.both.ref.loR; omega
/-- A block that is none of theirs keeps its cells. -/
theorem act_cells {lo H r n : Nat} {L : List It} {F : Nat → Prop} {v : Value} {w w3 : World} (h : Both lo H r n L (srt L) F v w) (ho : Only F w w3) {xa : Nat} (hx : xa < w.heap.size) (hF : ¬ F xa) (j : Nat) : w3.cell? ⟨xa, j, none⟩ = w.cell? ⟨xa, j, none⟩ := ho.cell (p := ⟨xa, j, none⟩) hx hF

def PlayRel (lo H r n : Nat) (w0 : World) (m : Nat) (old was i : Value) (wr : World) : Prop :=
  ∃ (k : Nat) (L : List It) (F : Nat → Prop) (v : Value) (Bs : Nat) (zs : List It), k ≤ m ∧ i = .int .i64 k ∧ old = .func (.func 33) #[] #[.pointer (some ⟨Bs, 0, none⟩)] ∧ PlayAt lo H r n w0 L F v Bs zs was wr

theorem ItAt.below {lo Bs : Nat} {zs : List It} {w w' : World} (h : ItAt lo Bs zs w) (hb : Below w.heap.size w w') : ItAt lo Bs zs w' := by
  obtain ⟨h1, sv, h2, h3, h4⟩ := h
  exact ⟨h1, sv, (hb.cell (p := ⟨Bs, 0, none⟩) (World.block_lt_of_cell? w _ h2)).trans h2, (h3.below hb).mono hb.size, h4⟩

set_option maxRecDepth 100000 in
set_option maxHeartbeats 4000000 in
theorem heapPlays_core (n : Int) (v : Value) (ps : List Tri) (hl : (ps.length : Int) ≤ 9223372036854775807) (w : World) (hg : erHandle w) (ht : TriArg w v ps) :
    Calls Tryd.prog 3 #[.int .i64 n, v] w fun e w' => e = .returned (.bool true) ∧ Below w.heap.size w w' := by
  by_cases hbad : n < 1 ∨ 65536 < n
  · have HN := Lib.hid (hnew_no n hbad w)
    have HR := Lib.hid (rnew_no n hbad w)
    have HP := Lib.hid (plain_errno 1 1 (by omega) (by omega) w hg)
    clear hbad ht hg hl
    go_enter Tryd.func3, Tryd.ntmps3
    go_wp2_with fail
    refine HN.out.mono ?_
    rintro e w1 ⟨rfl, rfl⟩
    go_wp2_with fail
    refine HR.out.mono ?_
    rintro e w1 ⟨rfl, rfl⟩
    go_wp2_with fail
    refine HP.out.mono ?_
    rintro e w1 ⟨rfl, hb⟩
    go_wp2
    go_ret
    exact ⟨rfl, hb⟩
  · obtain ⟨N, rfl⟩ : ∃ N : Nat, n = N := ⟨n.toNat, by omega⟩
    have h0 : 1 ≤ N := by omega
    have h1 : (N : Int) ≤ 65536 := by omega
    have HN := Lib.hid (hnew_any N h0 h1 w)
    have HRN := Lib.hid (fun w' => rnew_any N h0 h1 w')
    have HER := Lib.hid (fun w' (hb : Below w.heap.size w w') => hg.below hg.lt hb)
    have HT := Lib.hid ht
    obtain ⟨q, c, rfl, hcells⟩ := ht
    have HC := Lib.hid hcells
    have H1 := Lib.hid h1
    clear hbad hg h0 h1 hcells
    go_enter Tryd.func3, Tryd.ntmps3
    go_wp2_with fail
    refine HN.out.mono ?_
    rintro e w1 ⟨H, F0, rfl, hh1, hb1⟩
    go_wp2_with fail
    refine (HRN.out _).mono ?_
    rintro e w2 ⟨r, rfl, hr2, hb2⟩
    have hs1 := hb1.size
    have hb12 : Below w.heap.size w w2 := hb1.trans (hb2.mono hb1.size)
    have hboth : Both w.heap.size H r N [] (srt []) F0 (.slice none 0 0) w2 := by
      have e : srt [] = [] := List.eq_nil_of_length_eq_zero (srt_len [])
      rw [e]
      exact ⟨hh1.below hb2, ⟨hr2.top, Ut.own_base hr2.row hs1, Nat.le_trans hs1 hr2.loR⟩, fun hf => by have := (hh1.lt _ hf).2; have := hr2.loR; omega, fun b e => by simp [Value.ownBlock] at e⟩
    have HBO := Lib.hid hboth; have HB12 := Lib.hid hb12
    clear hh1 hb1 hr2 hb2 hs1 hboth hb12
    have HPL := Lib.hid (plain_nil 0 w2)
    go_wp2_with fail
    refine HPL.out.mono ?_
    rintro e w3 ⟨rfl, hb3⟩
    have hbo3 := HBO.out.below hb3
    have hbw3 : Below w.heap.size w w3 := HB12.out.trans (hb3.mono HB12.out.size)
    have HBO3 := Lib.hid hbo3; have HBW3 := Lib.hid hbw3
    clear hb3 hbo3 hbw3 HBO HB12
    by_cases hbig : 2000 < ps.length
    · have b0 : (2000 : Int) < (ps.length : Int) := by omega
      clear hbig
      go_wp2
      go_ret
      exact ⟨rfl, HBW3.out⟩
    · have b0 : (ps.length : Int) ≤ 2000 := by omega
      clear hbig
      have HA := Lib.hid (all_any _ H N [] F0 w3 HBO3.out.heap H1.out)
      go_wp2_with fail
      refine HA.out.mono ?_
      rintro e w4 ⟨Bs, rfl, hit, hb4⟩
      have hbo4 := HBO3.out.below hb4
      have HPR := Lib.hid (rpairs_any _ r N (srt []) _ w4 hbo4.ref (by rw [srt_len]; simp))
      have HBO4 := Lib.hid hbo4
      have HIT := Lib.hid hit; have HB4 := Lib.hid hb4
      clear hbo4 hit hb4
      go_wp2_with fail
      refine HPR.out.mono ?_
      rintro e w5 ⟨was, rfl, hrow, hb5⟩
      have hst : PlayRel w.heap.size H r N w ps.length (.func (.func 33) #[] #[.pointer (some ⟨Bs, 0, none⟩)]) was (.int .i64 (0 : Nat)) w5 := by
        have hbw : Below w.heap.size w w5 := HBW3.out.trans ((HB4.out.trans (hb5.mono HB4.out.size)).mono HBW3.out.size)
        have hF : ∀ k, F0 k → k < w3.heap.size := fun k hk => (HBO3.out.heap.lt k hk).2
        have hsz : w3.heap.size ≤ w4.heap.size := HB4.out.size
        refine ⟨0, [], F0, .slice none 0 0, Bs, srt [], Nat.zero_le _, rfl, rfl, HBO4.out.below hb5, Held.got (w := w3) (HIT.out.below hb5) (Nat.le_refl _) HBW3.out.size hF HBO3.out.ref.lt (Ut.own_base hrow (Nat.le_trans HBW3.out.size hsz)) (fun b e => ?_), by rw [srt_len]; simp, hbw, hbw.size⟩
        have h1 := (hrow.lt b e).1
        have h2 := HBO3.out.ref.lt
        exact ⟨fun hf => by have := hF b hf; omega, by omega⟩
      have HST := Lib.hid hst
      obtain ⟨qw, rw_, rfl⟩ := own_any_shape hrow
      clear hst hrow hb5
      go_wp2
      go_loopw [9, 10, 11] (fun old was i wr => PlayRel w.heap.size H r N w ps.length old was i wr) (fun _ _ i _ => ps.length - (intOf i).toNat)
      case atStart => exact HST.out
      case round =>
        obtain ⟨k, L, F, v, Bs2, zs, hk, rfl, rfl, hpl⟩ := hrel
        have HPA := Lib.hid hpl
        clear hpl
        by_cases h : k < ps.length
        · have b1 : (0 : Int) ≤ (k : Int) := by omega
          have b2 : (k : Int) < (ps.length : Int) := by omega
          obtain ⟨g1, o1, rfl, hg1, k1, k2, k3⟩ := HC.out k h
          obtain ⟨p, hpk⟩ : ∃ p, p = ps[k] := ⟨_, rfl⟩
          rw [← hpk] at k1 k2 k3
          have k1' : wr.cell? ⟨g1, o1 + k * 3, none⟩ = some (.int .i64 p.1) := (HPA.out.bel.cell (p := ⟨g1, o1 + k * 3, none⟩) hg1).trans k1
          have k2' : wr.cell? ⟨g1, o1 + k * 3 + 1, none⟩ = some (.int .i64 p.2.1) := (HPA.out.bel.cell (p := ⟨g1, o1 + k * 3 + 1, none⟩) hg1).trans k2
          have k3' : wr.cell? ⟨g1, o1 + k * 3 + 2, none⟩ = some (.int .i64 p.2.2) := (HPA.out.bel.cell (p := ⟨g1, o1 + k * 3 + 2, none⟩) hg1).trans k3
          have HK := Lib.hid h
          have HPI := Lib.hid (fun w' => Pk.pick_any p.1 4 (by omega) (by omega) w')
          obtain ⟨d, hd⟩ : ∃ d, d = p.1 % 4 := ⟨_, rfl⟩
          rw [← hd] at HPI
          obtain ⟨wx, hwx⟩ : ∃ wx, wx = wr.alloc (.cells #[.int .i64 p.1, .int .i64 p.2.1, .int .i64 p.2.2] 38) := ⟨_, rfl⟩
          have x0 : wx.cell? ⟨wr.heap.size, 0, none⟩ = some (.int .i64 p.1) := by rw [hwx]; simp
          have x1 : wx.cell? ⟨wr.heap.size, 1, none⟩ = some (.int .i64 p.2.1) := by rw [hwx]; simp
          have x2 : wx.cell? ⟨wr.heap.size, 2, none⟩ = some (.int .i64 p.2.2) := by rw [hwx]; simp
          have hbx : Below wr.heap.size wr wx := by rw [hwx]; exact (Below.refl _ _).alloc (Nat.le_refl _) _
          have hpx := HPA.out.below (hbx.drew)
          have HPX := Lib.hid hpx
          have HPY := Lib.hid (HPA.out.below hbx)
          have hsx : wr.heap.size < wx.heap.size := by rw [hwx]; simp
          have HSX := Lib.hid hsx
          have HFX : Hid (¬ F wr.heap.size) := fun hf => by have := (HPA.out.both.heap.lt _ hf).2; omega
          have hln := HPA.out.both.heap.good.len
          have HLN : Hid (((srt L).length : Int) ≤ 65536) := by
            have := H1.out
            show _ ≤ _
            rw [srt_len]; omega
          clear k1 k2 k3 hpk hg1 hbx hpx hsx h hln hd
          go_wp2_with fail
          refine (HPI.out _).mono ?_
          rintro e w6 ⟨rfl, rfl⟩
          rw [← hwx]
          have HWX := Lib.hid hwx
          clear hwx k1' k2' k3'
          by_cases d2 : d = 2
          · have e1 : (d == 2) = true := by simp [d2]
            clear d2
            have hkey := keyOf_srt HPX.out.both.heap.good p.2.1
            have HDR := Lib.hid (hdrop_any _ H N L F wx.drew HPX.out.both.heap H1.out p.2.1)
            have HRD := Lib.hid (fun w' (hr : RefAt w.heap.size r N (srt L) v w') (hlo : w.heap.size ≤ w'.heap.size) => (rdrop_any _ r N (srt L) v w' hr HLN.out p.2.1 hlo).mono fun e w2 h2 => (by
              unfold RDropPost at h2; rw [hkey] at h2; exact h2 :
              e = .returned (.bool (keyOf L p.2.1).isSome) ∧ ∃ v', RefAt w.heap.size r N (without (srt L) p.2.1) v' w2 ∧ Only (fun b => b = r) w' w2 ∧ ∀ b, v'.ownBlock = some b → w'.heap.size ≤ b))
            have q5 : ((keyOf L p.2.1).isSome != (keyOf L p.2.1).isSome) = false := by simp
            clear hkey
            go_wp2
            go_region_held3 (fun w' => w'.cell? ⟨wr.heap.size, 1, none⟩ = some (.int .i64 p.2.1)) (go_keep) (first
              | (go_at_call 12; refine HDR.out.mono ?_; rintro e w3 ⟨rfl, L', F', hh3, hp3, ho3, hn3⟩; (have n1 : w3.cell? ⟨wr.heap.size, 1, none⟩ = some (.int .i64 p.2.1) := (act_cells HPX.out.both ho3 HSX.out HFX.out 1).trans x1); (have HB3 := Lib.hid (HPX.out.both.heaps hh3 ho3 hn3)); have HH3 := Lib.hid hh3; have HP3 := Lib.hid hp3; have HO3 := Lib.hid ho3; have HN3 := Lib.hid hn3; clear hh3 hp3 ho3 hn3)
              | (go_at_call 13; refine (HRD.out _ HB3.out.ref (Nat.le_trans HPX.out.low HO3.out.size)).mono ?_; rintro e w4 ⟨rfl, v', hr4, ho4, hv4⟩; (have n2 : w4.cell? ⟨wr.heap.size, 1, none⟩ = some (.int .i64 p.2.1) := (ho4.cell (p := ⟨wr.heap.size, 1, none⟩) (Nat.lt_of_lt_of_le HSX.out HO3.out.size) (fun e => by have h1 := HPA.out.both.ref.lt; have h2 : wr.heap.size = r := e; omega)).trans n1); (have HPN := Lib.hid (HPX.out.act HH3.out HO3.out HN3.out hr4 ho4 hv4 (by rw [srt_without]; exact (srt_congr HP3.out).symm))); clear hr4 ho4 hv4))
            have HAS := Lib.hid (asked_any _ H r N L' F' v' w4 HPN.out.both H1.out p.2.1)
            go_wp2_with fail
            refine HAS.out.mono ?_
            rintro e w9 ⟨rfl, hb9⟩
            have HPE := Lib.hid (HPN.out.below hb9)
            clear hb9
            go_wp2
            go_roundw
            case rel => exact ⟨k + 1, L', F', v', Bs2, zs, by have := HK.out; omega, by go_num, rfl, HPE.out⟩
            case measure => have := HK.out; simp [intOf]; omega
          · have e1 : (d == 2) = false := by simp [d2]
            clear d2
            by_cases d3 : d = 3
            · have e2 : (d == 3) = true := by simp [d3]
              clear d3
              obtain ⟨qv, cv, rfl⟩ := HPA.out.both.ref.shape
              have HPR := Lib.hid (rpairs_any _ r N (srt L) _ wx HPY.out.both.ref HLN.out)
              go_wp2_with fail
              refine HPR.out.mono ?_
              rintro e w3 ⟨all, rfl, hrow, hb3⟩
              have hp3 := HPY.out.below hb3
              have HP3 := Lib.hid hp3
              have r3 := hp3.both.ref.c_l
              have y1 : w3.cell? ⟨wr.heap.size, 1, none⟩ = some (.int .i64 p.2.1) := (hb3.cell (p := ⟨wr.heap.size, 1, none⟩) HSX.out).trans x1
              have y2 : w3.cell? ⟨wr.heap.size, 2, none⟩ = some (.int .i64 p.2.2) := (hb3.cell (p := ⟨wr.heap.size, 2, none⟩) HSX.out).trans x2
              have HSX3 := Lib.hid (Nat.lt_of_lt_of_le HSX.out hb3.size)
              obtain ⟨qa, ca, rfl⟩ := own_any_shape hrow
              have HROW := Lib.hid hrow
              have hfl : (flat (srt L)).length = (srt L).length * 2 := flat_len (srt L)
              obtain ⟨Z, hZ⟩ : ∃ Z : Nat, Z = (srt L).length + 2 := ⟨_, rfl⟩
              have hzz : IntKind.i64.wrap (((srt L).length : Int) + 2) = (Z : Int) := by have := HLN.out; rw [IntWalk.i64_in _ (by omega)]; omega
              have hmod : 0 ≤ p.2.2 % (Z : Int) ∧ p.2.2 % (Z : Int) < (Z : Int) := ⟨Int.emod_nonneg _ (by omega), Int.emod_lt_of_pos _ (by omega)⟩
              obtain ⟨mM, hmM⟩ : ∃ mM : Nat, p.2.2 % (Z : Int) = mM := ⟨(p.2.2 % (Z : Int)).toNat, by omega⟩
              have HPI2 := Lib.hid (fun w' => Pk.pick_any p.2.2 (Z : Int) (by omega) (by have := HLN.out; omega) w')
              rw [hmM] at HPI2 hmod
              have hm64 : (mM : Int) ≤ 65537 := by have := HLN.out; omega
              have HAL := Lib.hid (fun w' (hb : Below w3.heap.size w3 w') => all_any _ H N L F w' (HP3.out.both.heap.below hb) H1.out)
              obtain ⟨K, hK⟩ : ∃ K, K = (srt L).length * 2 := ⟨_, rfl⟩
              obtain ⟨T, hT⟩ : ∃ T, T = 2 * mM := ⟨_, rfl⟩
              have htt : IntKind.i64.wrap (2 * (mM : Int)) = (T : Int) := by rw [IntWalk.i64_in _ (by omega)]; omega
              rw [← hK]
              have hslen : L.length = (srt L).length := (srt_len L).symm
              have hia : In.IntArg w3 (.slice qa K ca) (flat (srt L)) := In.own_ints (n := K) (fun _ => rfl) (by omega) (by rw [hK]; exact hrow)
              have hcap : K ≤ ca := by rw [hK]; exact own_cap hrow (Nat.le_refl _)
              have HPN1 := Lib.hid (fun (B3 : Nat) (w7 w8 : World) (hit : ItAt w7.heap.size B3 (srt L) w8) (hb7 : Below w3.heap.size w3 w7) (hb8 : Below w7.heap.size w7 w8) => (by
                have hb38 := hb7.trans (hb8.mono hb7.size)
                have hp8 := HP3.out.below hb38
                have hwr3 : wr.heap.size ≤ w3.heap.size := Nat.le_of_lt HSX3.out
                have hF : ∀ k, F k → k < wr.heap.size := fun k hk => (HPA.out.both.heap.lt k hk).2
                have hr8 : w8.ownsRow w.heap.size 3 1 (.slice qa K ca) ((srt L).length * 2) ((flat (srt L)).map vJ) := by
                  rw [hK]; exact Ut.own_below (Ut.own_base hrow (Nat.le_trans HPA.out.low (Nat.le_of_lt HSX.out))) hb38
                exact ⟨hp8.both, Held.got (w := wr) hit (Nat.le_trans hwr3 hb7.size) HPA.out.low hF HPA.out.both.ref.lt hr8 (fun b e => by
                  have h1 := (hrow.lt b (by rw [← hK]; exact e)).1
                  have h2 := HSX.out
                  have h3 := HPA.out.both.ref.lt
                  exact ⟨fun hf => by have := hF b hf; omega, by omega⟩), by rw [srt_len]; exact HPA.out.both.heap.good.len, hp8.bel, hp8.low⟩ : PlayAt w.heap.size H r N w L F (.slice qv (srt L).length cv) B3 (srt L) (.slice qa K ca) w8))
              have HSZ := Lib.hid hzz; have HTT := Lib.hid htt
              by_cases hKT : K < T
              · have hpre : (flat (srt L)).take K = flat ((srt L).take mM) := by
                  rw [List.take_of_length_le (by omega), List.take_of_length_le (by omega)]
                have hi2 := int_prefix (m := K) (c' := ca) hia (by omega)
                rw [hpre] at hi2
                have HI2 := Lib.hid hi2
                have HSI := Lib.hid (fun (w' : World) (pv : Value) (ha : In.IntArg w' pv (flat ((srt L).take mM))) (hb : Below w3.heap.size w3 w') => In.same_any pv (.slice qa K ca) (flat ((srt L).take mM)) (flat ((srt L).take mM)) (by rw [flat_len, List.length_take]; have := HLN.out; omega) (by rw [flat_len, List.length_take]; have := HLN.out; omega) w' ha (HI2.out.below hb))
                have hbd : Below w3.heap.size w3 w3.drew := (Below.refl _ _).drew
                have HBD := Lib.hid hbd
                have HBD2 := Lib.hid (hbd.drew)
                have b5 : (0 : Int) ≤ (T : Int) := by omega
                have b6 : (0 : Int) ≤ (K : Int) := by omega
                have b7 : (K : Int) ≤ (ca : Int) := by omega
                have HM := Lib.hid hm64
                clear hi2 hpre hia hslen hfl hZ hmod hmM hm64 hrow hp3 hb3 hK hT hbd hcap
                go_wp2
                go_region_held3 (fun w' => w'.cell? ⟨wr.heap.size, 1, none⟩ = some (.int .i64 p.2.1) ∧ w'.cell? ⟨wr.heap.size, 2, none⟩ = some (.int .i64 p.2.2) ∧ w'.cell? ⟨r, 1, none⟩ = some (.slice qv (srt L).length cv)) (go_keep) (first
                  | (go_at_call 11; refine (HPI2.out _).mono ?_; rintro e w4 ⟨rfl, rfl⟩))
                clear hzz
                have HX := Lib.hid (fun (w' : World) (hb : Below w3.heap.size w3 w') => (⟨(hb.cell (p := ⟨wr.heap.size, 1, none⟩) HSX3.out).trans y1, (hb.cell (p := ⟨wr.heap.size, 2, none⟩) HSX3.out).trans y2⟩ : w'.cell? ⟨wr.heap.size, 1, none⟩ = some (.int .i64 p.2.1) ∧ w'.cell? ⟨wr.heap.size, 2, none⟩ = some (.int .i64 p.2.2)))
                have HMZ : Hid (((srt L).length : Int) ≤ 1048575 ∧ (mM : Int) ≤ 1048575) := ⟨by have := HLN.out; omega, by have := HM.out; omega⟩
                have HDE : Hid (decide (flat ((srt L).take mM) = flat ((srt L).take mM)) = true) := by show _ = _; simp
                have hmin : min (T : Int) (K : Int) = ((K : Nat) : Int) := by omega
                have htl : (flat ((srt L).take mM)).length = ((srt L).take mM).length * 2 := flat_len _
                have HTL := Lib.hid htl
                clear htl
                go_wp2
                go_region_held3 (fun w' => w'.cell? ⟨wr.heap.size, 1, none⟩ = some (.int .i64 p.2.1) ∧ w'.cell? ⟨wr.heap.size, 2, none⟩ = some (.int .i64 p.2.2)) (go_keep) (first
                  | (go_at_call 9; refine (HAL.out _ HBD2.out).mono ?_; rintro e w4 ⟨B2, rfl, hit4, hb4⟩; (have hb34 := HBD2.out.trans (hb4.mono HBD2.out.size)); obtain ⟨n1, n2⟩ := HX.out _ hb34; (have HPRS := Lib.hid (pairs_any B2 mM _ (srt L) w4 hit4 HMZ.out.1 HMZ.out.2)); have HB34 := Lib.hid hb34; clear hit4 hb4 hb34)
                  | (go_at_call 15; refine HPRS.out.mono ?_; rintro e w5 ⟨pv, rfl, hrow5, hb5⟩; (have hb35 := HB34.out.trans (hb5.mono HB34.out.size)); obtain ⟨n3, n4⟩ := HX.out _ hb35; (have HSAME := Lib.hid (HSI.out w5 pv (In.own_ints (fun _ => rfl) HTL.out.symm hrow5) hb35)); have HB35 := Lib.hid hb35; rw [HDE.out] at HSAME; clear hrow5 hb5 hb35)
                  | (go_at_call 14; refine HSAME.out.mono ?_; rintro e w6 ⟨rfl, hb6⟩; (have hb36 := HB35.out.trans (hb6.mono HB35.out.size)); obtain ⟨n5, n6⟩ := HX.out _ hb36; have HB36 := Lib.hid hb36; clear hb6 hb36))
                all_goals (
                  clear htt hmin
                  have HAL2 := Lib.hid (HAL.out _ HB36.out)
                  go_wp2_with fail
                  refine HAL2.out.mono ?_
                  rintro e w7 ⟨B3, rfl, hit7, hb7⟩
                  have hb37 := HB36.out.trans (hb7.mono HB36.out.size)
                  obtain ⟨n7, n8⟩ := HX.out _ hb37
                  have HPN := Lib.hid (HPN1.out B3 w6 w7 hit7 HB36.out hb7)
                  clear hit7 hb7 hb37
                  have HAS := Lib.hid (asked_any _ H r N L F _ w7 HPN.out.both H1.out p.2.1)
                  go_wp2_with fail
                  refine HAS.out.mono ?_
                  rintro e w9 ⟨rfl, hb9⟩
                  have HPE := Lib.hid (HPN.out.below hb9)
                  clear hb9
                  go_wp2
                  go_roundw
                  case rel => exact ⟨k + 1, L, F, _, B3, srt L, by have := HK.out; omega, by go_num, rfl, HPE.out⟩
                  case measure => have := HK.out; simp [intOf]; omega)
              · have hKT2 : T ≤ K := by omega
                have hpre : (flat (srt L)).take T = flat ((srt L).take mM) := by rw [hT]; exact flat_take _ _
                have hi2 := int_prefix (m := T) (c' := ca) hia (by omega)
                rw [hpre] at hi2
                have HI2 := Lib.hid hi2
                have HSI := Lib.hid (fun (w' : World) (pv : Value) (ha : In.IntArg w' pv (flat ((srt L).take mM))) (hb : Below w3.heap.size w3 w') => In.same_any pv (.slice qa T ca) (flat ((srt L).take mM)) (flat ((srt L).take mM)) (by rw [flat_len, List.length_take]; have := HLN.out; omega) (by rw [flat_len, List.length_take]; have := HLN.out; omega) w' ha (HI2.out.below hb))
                have hbd : Below w3.heap.size w3 w3.drew := (Below.refl _ _).drew
                have HBD := Lib.hid hbd
                have HBD2 := Lib.hid (hbd.drew)
                have b5 : (0 : Int) ≤ (T : Int) := by omega
                have b6 : (0 : Int) ≤ (K : Int) := by omega
                have b7 : (K : Int) ≤ (ca : Int) := by omega
                have b8 : (T : Int) ≤ (ca : Int) := by omega
                have HM := Lib.hid hm64
                clear hi2 hpre hia hslen hfl hZ hmod hmM hm64 hrow hp3 hb3 hK hT hbd hcap
                go_wp2
                go_region_held3 (fun w' => w'.cell? ⟨wr.heap.size, 1, none⟩ = some (.int .i64 p.2.1) ∧ w'.cell? ⟨wr.heap.size, 2, none⟩ = some (.int .i64 p.2.2) ∧ w'.cell? ⟨r, 1, none⟩ = some (.slice qv (srt L).length cv)) (go_keep) (first
                  | (go_at_call 11; refine (HPI2.out _).mono ?_; rintro e w4 ⟨rfl, rfl⟩))
                clear hzz
                have HX := Lib.hid (fun (w' : World) (hb : Below w3.heap.size w3 w') => (⟨(hb.cell (p := ⟨wr.heap.size, 1, none⟩) HSX3.out).trans y1, (hb.cell (p := ⟨wr.heap.size, 2, none⟩) HSX3.out).trans y2⟩ : w'.cell? ⟨wr.heap.size, 1, none⟩ = some (.int .i64 p.2.1) ∧ w'.cell? ⟨wr.heap.size, 2, none⟩ = some (.int .i64 p.2.2)))
                have HMZ : Hid (((srt L).length : Int) ≤ 1048575 ∧ (mM : Int) ≤ 1048575) := ⟨by have := HLN.out; omega, by have := HM.out; omega⟩
                have HDE : Hid (decide (flat ((srt L).take mM) = flat ((srt L).take mM)) = true) := by show _ = _; simp
                have hmin : min (T : Int) (K : Int) = ((T : Nat) : Int) := by omega
                have htl : (flat ((srt L).take mM)).length = ((srt L).take mM).length * 2 := flat_len _
                have HTL := Lib.hid htl
                clear htl
                go_wp2
                go_region_held3 (fun w' => w'.cell? ⟨wr.heap.size, 1, none⟩ = some (.int .i64 p.2.1) ∧ w'.cell? ⟨wr.heap.size, 2, none⟩ = some (.int .i64 p.2.2)) (go_keep) (first
                  | (go_at_call 9; refine (HAL.out _ HBD2.out).mono ?_; rintro e w4 ⟨B2, rfl, hit4, hb4⟩; (have hb34 := HBD2.out.trans (hb4.mono HBD2.out.size)); obtain ⟨n1, n2⟩ := HX.out _ hb34; (have HPRS := Lib.hid (pairs_any B2 mM _ (srt L) w4 hit4 HMZ.out.1 HMZ.out.2)); have HB34 := Lib.hid hb34; clear hit4 hb4 hb34)
                  | (go_at_call 15; refine HPRS.out.mono ?_; rintro e w5 ⟨pv, rfl, hrow5, hb5⟩; (have hb35 := HB34.out.trans (hb5.mono HB34.out.size)); obtain ⟨n3, n4⟩ := HX.out _ hb35; (have HSAME := Lib.hid (HSI.out w5 pv (In.own_ints (fun _ => rfl) HTL.out.symm hrow5) hb35)); have HB35 := Lib.hid hb35; rw [HDE.out] at HSAME; clear hrow5 hb5 hb35)
                  | (go_at_call 14; refine HSAME.out.mono ?_; rintro e w6 ⟨rfl, hb6⟩; (have hb36 := HB35.out.trans (hb6.mono HB35.out.size)); obtain ⟨n5, n6⟩ := HX.out _ hb36; have HB36 := Lib.hid hb36; clear hb6 hb36))
                all_goals (
                  clear htt hmin
                  have HAL2 := Lib.hid (HAL.out _ HB36.out)
                  go_wp2_with fail
                  refine HAL2.out.mono ?_
                  rintro e w7 ⟨B3, rfl, hit7, hb7⟩
                  have hb37 := HB36.out.trans (hb7.mono HB36.out.size)
                  obtain ⟨n7, n8⟩ := HX.out _ hb37
                  have HPN := Lib.hid (HPN1.out B3 w6 w7 hit7 HB36.out hb7)
                  clear hit7 hb7 hb37
                  have HAS := Lib.hid (asked_any _ H r N L F _ w7 HPN.out.both H1.out p.2.1)
                  go_wp2_with fail
                  refine HAS.out.mono ?_
                  rintro e w9 ⟨rfl, hb9⟩
                  have HPE := Lib.hid (HPN.out.below hb9)
                  clear hb9
                  go_wp2
                  go_roundw
                  case rel => exact ⟨k + 1, L, F, _, B3, srt L, by have := HK.out; omega, by go_num, rfl, HPE.out⟩
                  case measure => have := HK.out; simp [intOf]; omega)
            · have e2 : (d == 3) = false := by simp [d3]
              clear d3
              by_cases hin : 0 ≤ p.2.1 ∧ p.2.1 < (N : Int)
              · have HSE := Lib.hid ((hset_any _ H N L F wx.drew HPX.out.both.heap H1.out HPX.out.low p.2.1 p.2.2).mono fun e w2 h2 => (by
                  unfold SetPost at h2; rw [if_pos hin] at h2; exact h2 :
                  e = .returned .nilIface ∧ ∃ L' F', HeapAt w.heap.size H N L' F' w2 ∧ List.Perm L' ((p.2.1, p.2.2) :: without L p.2.1) ∧ Only F wx.drew w2 ∧ ∀ k, F' k → F k ∨ wx.drew.heap.size ≤ k))
                have HRS := Lib.hid (fun w' (hr : RefAt w.heap.size r N (srt L) v w') (hlo : w.heap.size ≤ w'.heap.size) => (rset_any _ r N (srt L) v w' hr HLN.out p.2.1 p.2.2 hlo).mono fun e w2 h2 => (by
                  unfold RSetPost at h2; rw [if_pos hin] at h2; exact h2 :
                  e = .returned (.int .i64 0) ∧ ∃ R' v', RefAt w.heap.size r N R' v' w2 ∧ R'.Perm ((p.2.1, p.2.2) :: without (srt L) p.2.1) ∧ (((srt L).Pairwise fun x y => ahd y x = false) → R'.Pairwise fun x y => ahd y x = false) ∧ Only (fun b => b = r) w' w2 ∧ ∀ b, v'.ownBlock = some b → w'.heap.size ≤ b))
                have HPLN := Lib.hid (fun w' => plain_nil 0 w')
                clear hin
                go_wp2
                go_region_held3 (fun w' => w'.cell? ⟨wr.heap.size, 1, none⟩ = some (.int .i64 p.2.1) ∧ w'.cell? ⟨wr.heap.size, 2, none⟩ = some (.int .i64 p.2.2)) (go_keep) (first
                  | (go_at_call 16; refine HSE.out.mono ?_; rintro e w3 ⟨rfl, L', F', hh3, hp3, ho3, hn3⟩; (have n1 : w3.cell? ⟨wr.heap.size, 1, none⟩ = some (.int .i64 p.2.1) := (act_cells HPX.out.both ho3 HSX.out HFX.out 1).trans x1); (have n12 : w3.cell? ⟨wr.heap.size, 2, none⟩ = some (.int .i64 p.2.2) := (act_cells HPX.out.both ho3 HSX.out HFX.out 2).trans x2); (have HB3 := Lib.hid (HPX.out.both.heaps hh3 ho3 hn3)); have HH3 := Lib.hid hh3; have HP3 := Lib.hid hp3; have HO3 := Lib.hid ho3; have HN3 := Lib.hid hn3; clear hh3 hp3 ho3 hn3)
                  | (go_at_call 17; refine (HRS.out _ HB3.out.ref (Nat.le_trans HPX.out.low HO3.out.size)).mono ?_; rintro e w4 ⟨rfl, R', v', hr4, hp4, hs4, ho4, hv4⟩; (have n2 : w4.cell? ⟨wr.heap.size, 1, none⟩ = some (.int .i64 p.2.1) := (ho4.cell (p := ⟨wr.heap.size, 1, none⟩) (Nat.lt_of_lt_of_le HSX.out HO3.out.size) (fun e => by have h1 := HPA.out.both.ref.lt; have h2 : wr.heap.size = r := e; omega)).trans n1); (have n22 : w4.cell? ⟨wr.heap.size, 2, none⟩ = some (.int .i64 p.2.2) := (ho4.cell (p := ⟨wr.heap.size, 2, none⟩) (Nat.lt_of_lt_of_le HSX.out HO3.out.size) (fun e => by have h1 := HPA.out.both.ref.lt; have h2 : wr.heap.size = r := e; omega)).trans n12); (have HPM := Lib.hid (HPX.out.act HH3.out HO3.out HN3.out hr4 ho4 hv4 (srt_unique (hp4.trans ((List.Perm.cons _ (without_perm (srt_perm L) _)).trans HP3.out.symm)) (hs4 (srt_sorted L))))); have HSX4 := Lib.hid (Nat.lt_of_lt_of_le HSX.out (Nat.le_trans HO3.out.size ho4.size)); clear hr4 ho4 hv4 hp4 hs4)
                  | (go_at_call 8; refine (HPLN.out _).mono ?_; rintro e w5 ⟨rfl, hb5⟩; (have n3 : w5.cell? ⟨wr.heap.size, 1, none⟩ = some (.int .i64 p.2.1) := (hb5.cell (p := ⟨wr.heap.size, 1, none⟩) HSX4.out).trans n2); (have n32 : w5.cell? ⟨wr.heap.size, 2, none⟩ = some (.int .i64 p.2.2) := (hb5.cell (p := ⟨wr.heap.size, 2, none⟩) HSX4.out).trans n22); (have HPN := Lib.hid (HPM.out.below hb5)); clear hb5))
                have HAS := Lib.hid (asked_any _ H r N L' F' v' w5 HPN.out.both H1.out p.2.1)
                go_wp2_with fail
                refine HAS.out.mono ?_
                rintro e w9 ⟨rfl, hb9⟩
                have HPE := Lib.hid (HPN.out.below hb9)
                clear hb9
                go_wp2
                go_roundw
                case rel => exact ⟨k + 1, L', F', v', Bs2, zs, by have := HK.out; omega, by go_num, rfl, HPE.out⟩
                case measure => have := HK.out; simp [intOf]; omega
              · have HSE := Lib.hid ((hset_any _ H N L F wx.drew HPX.out.both.heap H1.out HPX.out.low p.2.1 p.2.2).mono fun e w2 h2 => (by
                  unfold SetPost at h2; rw [if_neg hin] at h2; exact h2 :
                  e = .returned (.iface 65 (.int .i64 1)) ∧ wx.drew = w2))
                have HRS := Lib.hid ((rset_any _ r N (srt L) v wx.drew HPX.out.both.ref HLN.out p.2.1 p.2.2 HPX.out.low).mono fun e w2 h2 => (by
                  unfold RSetPost at h2; rw [if_neg hin] at h2; exact h2 :
                  e = .returned (.int .i64 1) ∧ wx.drew = w2))
                have HPLN := Lib.hid (plain_errno 1 1 (by omega) (by omega) wx.drew (HER.out _ HPX.out.bel))
                clear hin
                go_wp2
                go_region_held3 (fun w' => w'.cell? ⟨wr.heap.size, 1, none⟩ = some (.int .i64 p.2.1) ∧ w'.cell? ⟨wr.heap.size, 2, none⟩ = some (.int .i64 p.2.2)) (go_keep) (first
                  | (go_at_call 16; refine HSE.out.mono ?_; rintro e w3 ⟨rfl, rfl⟩)
                  | (go_at_call 17; refine HRS.out.mono ?_; rintro e w4 ⟨rfl, rfl⟩)
                  | (go_at_call 8; refine HPLN.out.mono ?_; rintro e w5 ⟨rfl, hb5⟩; (have n3 : w5.cell? ⟨wr.heap.size, 1, none⟩ = some (.int .i64 p.2.1) := (hb5.cell (p := ⟨wr.heap.size, 1, none⟩) HSX.out).trans x1); (have n32 : w5.cell? ⟨wr.heap.size, 2, none⟩ = some (.int .i64 p.2.2) := (hb5.cell (p := ⟨wr.heap.size, 2, none⟩) HSX.out).trans x2); (have HPN := Lib.hid (HPX.out.below hb5)); clear hb5))
                have HAS := Lib.hid (asked_any _ H r N L F v w5 HPN.out.both H1.out p.2.1)
                go_wp2_with fail
                refine HAS.out.mono ?_
                rintro e w9 ⟨rfl, hb9⟩
                have HPE := Lib.hid (HPN.out.below hb9)
                clear hb9
                go_wp2
                go_roundw
                case rel => exact ⟨k + 1, L, F, v, Bs2, zs, by have := HK.out; omega, by go_num, rfl, HPE.out⟩
                case measure => have := HK.out; simp [intOf]; omega
        · have HRES : Hid (zs.take N = zs) := List.take_of_length_le HPA.out.zn
          have HRS : Hid ((srt L).take N = srt L) := List.take_of_length_le (by rw [srt_len]; exact HPA.out.both.heap.good.len)
          have hsz1 : (zs.length : Int) ≤ 65536 := by have := HPA.out.zn; have := H1.out; omega
          have hsz2 : ((srt L).length : Int) ≤ 65536 := by have := HPA.out.both.heap.good.len; have := H1.out; rw [srt_len]; omega
          have HZ1 := Lib.hid hsz1; have HZ2 := Lib.hid hsz2
          have hfl1 := flat_len zs
          have hfl2 := flat_len (srt L)
          have HF1 := Lib.hid hfl1; have HF2 := Lib.hid hfl2
          have HPRS := Lib.hid (fun (w' : World) (hb : Below wr.heap.size wr w') => (by
            have := pairs_any Bs2 N _ zs w' (HPA.out.below hb).held.itAt (by have := HZ1.out; omega) (by have := H1.out; omega)
            rw [HRES.out] at this; exact this :
            Calls Tryd.prog 15 #[.func (.func 33) #[] #[.pointer (some ⟨Bs2, 0, none⟩)], .int .i64 N] w' fun e w2 => ∃ v, e = .returned v ∧ w2.ownsRow w'.heap.size 3 1 v (zs.length * 2) ((flat zs).map vJ) ∧ Below w'.heap.size w' w2))
          have HSM := Lib.hid (fun (w' : World) (pv : Value) (ha : In.IntArg w' pv (flat zs)) (hb : Below wr.heap.size wr w') => (by
            have := In.same_any pv u10 (flat zs) (flat zs) (by rw [flat_len]; have := HZ1.out; omega) (by rw [flat_len]; have := HZ1.out; omega) w' ha (In.own_ints (fun _ => rfl) HF1.out.symm (HPA.out.below hb).held.row)
            simpa using this : Calls Tryd.prog 14 #[pv, u10] w' fun e w2 => e = .returned (.bool true) ∧ Below w'.heap.size w' w2))
          have HAL := Lib.hid (fun (w' : World) (hb : Below wr.heap.size wr w') => all_any _ H N L F w' (HPA.out.both.heap.below hb) H1.out)
          have HRP := Lib.hid (fun (w' : World) (hb : Below wr.heap.size wr w') => rpairs_any _ r N (srt L) v w' (HPA.out.both.ref.below hb) HZ2.out)
          have HBEL := Lib.hid HPA.out.bel
          have HLOW := Lib.hid HPA.out.low
          obtain ⟨qz, rz, rfl⟩ := own_any_shape HPA.out.held.row
          have b2 : (ps.length : Int) ≤ (k : Int) := by omega
          clear hsz1 hsz2 hfl1 hfl2 h hk
          go_wp2_with fail
          refine (HPRS.out _ (Below.refl _ _)).mono ?_
          rintro e w2 ⟨pv, rfl, hrow2, hb2⟩
          go_wp2_with fail
          refine (HSM.out _ pv (In.own_ints (fun _ => rfl) HF1.out.symm hrow2) hb2).mono ?_
          rintro e w3 ⟨rfl, hb3⟩
          have hb13 := hb2.trans (hb3.mono hb2.size)
          clear hb2 hb3 hrow2
          go_wp2_with fail
          refine (HPRS.out _ hb13).mono ?_
          rintro e w4 ⟨pv, rfl, hrow4, hb4⟩
          have hb14 := hb13.trans (hb4.mono hb13.size)
          clear hb13 hb4
          go_wp2_with fail
          refine (HSM.out _ pv (In.own_ints (fun _ => rfl) HF1.out.symm hrow4) hb14).mono ?_
          rintro e w5 ⟨rfl, hb5⟩
          have hb15 := hb14.trans (hb5.mono hb14.size)
          clear hb14 hb5 hrow4
          go_wp2_with fail
          refine (HAL.out _ hb15).mono ?_
          rintro e w6 ⟨B6, rfl, hit6, hb6⟩
          have HP6 := Lib.hid (pairs_any B6 N _ (srt L) w6 hit6 (by have := HZ2.out; omega) (by have := H1.out; omega))
          have hb16 := hb15.trans (hb6.mono hb15.size)
          rw [HRS.out] at HP6
          clear hb15 hb6 hit6
          go_wp2_with fail
          refine HP6.out.mono ?_
          rintro e w7 ⟨pv, rfl, hrow7, hb7⟩
          have hb17 := hb16.trans (hb7.mono hb16.size)
          clear hb16 hb7
          go_wp2_with fail
          refine (HRP.out _ hb17).mono ?_
          rintro e w8 ⟨qv8, rfl, hrow8, hb8⟩
          have hb18 := hb17.trans (hb8.mono hb17.size)
          have hs8 := In.same_any pv qv8 (flat (srt L)) (flat (srt L)) (by rw [flat_len]; have := HZ2.out; omega) (by rw [flat_len]; have := HZ2.out; omega) w8 (In.own_ints (fun _ => rfl) HF2.out.symm (Ut.own_below hrow7 hb8)) (In.own_ints (fun _ => rfl) HF2.out.symm hrow8)
          have HS8 := Lib.hid hs8
          clear hb17 hb8 hrow7 hrow8 hs8
          go_wp2_with fail
          refine HS8.out.mono ?_
          rintro e w9 ⟨rfl, hb9⟩
          have HZZ := Lib.hid (hb18.trans (hb9.mono hb18.size))
          clear hb18 hb9
          go_wp2
          go_ret
          exact ⟨by simp, HBEL.out.trans (HZZ.out.mono HLOW.out)⟩

end Hp

theorem heapPlays_walk (n : Int) (wn : (Lit.int .i64 n).wf = true) (v : Value) (ps : List Tri) (hl : ps.length ≤ maxLen) (hz : ∀ s ∈ ps, (Lit.int .i64 s.1).wf = true ∧ (Lit.int .i64 s.2.1).wf = true ∧ (Lit.int .i64 s.2.2).wf = true) (w : World) (hL : laidMetH Tryd.prog Rows.heapPlaysRow.laid w) (ht : TriArg w v ps) :
    Calls Tryd.prog 3 #[.int .i64 n, v] w fun e w' => e = .returned (.bool true) ∧ Below w.heap.size w w' :=
  Hp.heapPlays_core n v ps (by unfold maxLen at hl; omega) w (handle_of_laid hL (by kernel_rfl)) ht

end Go.Proofs.YtkmgpajodbadmaaDoor
