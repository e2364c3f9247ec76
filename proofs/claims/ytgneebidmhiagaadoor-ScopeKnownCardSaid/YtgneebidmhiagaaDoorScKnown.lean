/- The law ScopeKnown. -/
import Derived.Test.YtgneebidmhiagaaDoorScMany
import Derived.Test.YtgneebidmhiagaaDoorLit
namespace Go.Proofs.YtgneebidmhiagaaDoor
open Go.RowKit Go.Maps Go.ChangeMaps Go.Proofs.NmPlain Go.Proofs.Ar
set_option linter.unusedVariables false
namespace Sc

def kt : List ByteArray := [⟨#[109, 97, 105, 108, 46, 42]⟩, ⟨#[42]⟩, ⟨#[]⟩, ⟨#[109, 97, 105, 108, 32, 109, 97, 105, 108]⟩, ⟨#[32, 32, 32]⟩]
def kw : List Nat := [6, 15, 0, 1, 0]
def kx : List ByteArray := [⟨#[112, 97, 121]⟩, ⟨#[32, 112, 97, 121]⟩, ⟨#[102, 105, 108, 101, 115, 46, 42]⟩, ⟨#[109, 97, 105, 108, 46, 42, 46, 42]⟩, ⟨#[77, 97, 105, 108]⟩, ⟨#[109, 97, 105, 108, 32, 46, 42]⟩, ⟨#[109, 97, 105, 108, 32, 42, 120]⟩, ⟨#[109, 97, 105, 108, 9, 102, 105, 108, 101, 115]⟩]
def kn : List Nat := [10, 10, 10, 4, 4, 4, 4, 4]
def ka : List Nat := [0, 1, 0, 0, 0, 5, 5, 0]
def vS : ByteArray → Value := Value.string
def vU (n : Nat) : Value := .int .u64 (n : Int)
def vI (n : Nat) : Value := .int .i64 (n : Int)
set_option maxRecDepth 100000 in
theorem kt_parse : ∀ k, k < 5 → parseL bk (kt.getD k ByteArray.empty).data.toList = (kw.getD k 0, 0, -1) := by decide +kernel
theorem kt_size : ∀ k, k < 5 → (kt.getD k ByteArray.empty).size ≤ 140737488351232 := by decide +kernel
set_option maxRecDepth 100000 in
theorem kx_parse : ∀ k, k < 8 → parseL bk (kx.getD k ByteArray.empty).data.toList = (0, ((kn.getD k 0 : Nat) : Int), ((ka.getD k 0 : Nat) : Int)) := by decide +kernel
theorem kx_size : ∀ k, k < 8 → (kx.getD k ByteArray.empty).size ≤ 140737488351232 := by decide +kernel
theorem kn_range : ∀ k, k < 8 → 0 < kn.getD k 0 ∧ kn.getD k 0 ≤ 24 := by decide +kernel
theorem bk_print0 : printL bk 0 = ([], 0) := by decide +kernel
theorem bk_print16 : printL bk 16 = ([], 11) := by decide +kernel
def d2 : List ByteArray := [⟨#[109, 97, 105, 108]⟩, ⟨#[109, 97, 105, 108]⟩]
def d3 : List ByteArray := [⟨#[109, 97, 105, 108]⟩, ⟨#[97, 46]⟩]
theorem d2_new : newL d2 = (9, 1) := by decide +kernel
theorem d3_new : newL d3 = (8, 1) := by decide +kernel

def K1 (w : World) (lo B g1 g2 : Nat) (i : Value) (wr : World) : Prop :=
  ∃ k : Nat, k ≤ 5 ∧ i = .int .i64 k ∧ LitAt wr g1 (kt.map vS) ∧ LitAt wr g2 (kw.map vU) ∧ BookAt lo wr B bk ∧ Below w.heap.size w wr
def K2 (w : World) (lo B g1 g2 g3 : Nat) (i : Value) (wr : World) : Prop :=
  ∃ k : Nat, k ≤ 8 ∧ i = .int .i64 k ∧ LitAt wr g1 (kx.map vS) ∧ LitAt wr g2 (kn.map vI) ∧ LitAt wr g3 (ka.map vI) ∧ BookAt lo wr B bk ∧ Below w.heap.size w wr

set_option maxRecDepth 100000 in
set_option maxHeartbeats 8000000 in
theorem scopeKnown_core (w : World) (hg : erHandle w) (hm : MaxAt w) : Calls Tryd.prog 9 #[] w fun e w' => e = .returned (.bool true) ∧ Below w.heap.size w w' := by
  have HM := Lib.hid (fun w' (hb : Below w.heap.size w w') => hm.below hb)
  have HG := Lib.hid (fun w' (hb : Below w.heap.size w w') => hg.below hg.lt hb)
  have HBK := Lib.hid (book_any w hm)
  have HWK := Lib.hid (fun w' (hb : Below w.heap.size w w') => works_any w' (hm.below hb))
  have HMN := Lib.hid (fun w' (hb : Below w.heap.size w w') => many_any w' (hg.below hg.lt hb) (hm.below hb))
  have HP := Lib.hid (fun x (hx : x.size ≤ 140737488351232) lo B w' (hb : BookAt lo w' B bk) (hb2 : Below w.heap.size w w') => parse_any lo B bk bk_book bk_small x hx w' (hm.below hb2) hb)
  have HQ0 := Lib.hid (fun lo B w' (hb : BookAt lo w' B bk) => print_any lo B bk bk_book 0 (by omega) w' hb)
  have HQ1 := Lib.hid (fun lo B w' (hb : BookAt lo w' B bk) => print_any lo B bk bk_book 16 (by omega) w' hb)
  have HN2 := Lib.hid (fun w' (hb : Below w.heap.size w w') => new_any (.slice (some ⟨w'.heap.size, 0, none⟩) 2 2) d2 (by decide) (fun _ => by decide +kernel) (w'.alloc (.cells (d2.map Value.string).toArray 9)) (hm.below (hb.alloc hb.size _)) (Tx.lit_arg w' d2 9))
  have HN3 := Lib.hid (fun w' (hb : Below w.heap.size w w') => new_any (.slice (some ⟨w'.heap.size, 0, none⟩) 2 2) d3 (by decide) (fun _ => by decide +kernel) (w'.alloc (.cells (d3.map Value.string).toArray 9)) (hm.below (hb.alloc hb.size _)) (Tx.lit_arg w' d3 9))
  unfold PrintPost at HQ0 HQ1
  rw [bk_print0] at HQ0
  rw [bk_print16] at HQ1
  unfold NewPost at HN2 HN3
  rw [d2_new] at HN2
  rw [d3_new] at HN3
  have e1 : errVal 0 = .nilIface := rfl
  have e2 : errV (9, (1 : Int)).1 (9, (1 : Int)).2 = .iface 71 (Fl.fv 1 9) := rfl
  have e3 : errV (8, (1 : Int)).1 (8, (1 : Int)).2 = .iface 71 (Fl.fv 1 8) := rfl
  simp only [e1] at HQ0
  rw [e2] at HN2
  rw [e3] at HN3
  have HPL := Lib.hid (fun w' (hb : Below w.heap.size w w') => plain_any 11 11 (by omega) (by omega) w' (hg.below hg.lt hb))
  have HA9 := Lib.hid (fun w' (hb : Below w.heap.size w w') => Fl.at_flt 1 9 (by omega) (by omega) w' (hg.below hg.lt hb))
  have HA8 := Lib.hid (fun w' (hb : Below w.heap.size w w') => Fl.at_flt 1 8 (by omega) (by omega) w' (hg.below hg.lt hb))
  have HAT := Lib.hid (fun at_ no (h0 : 1 ≤ no) (h1 : no ≤ 24) w' (hb : Below w.heap.size w w') => Fl.at_flt at_ no h0 h1 w' (hg.below hg.lt hb))
  obtain ⟨V11, hV11⟩ : ∃ V, V = errVal 11 := ⟨_, rfl⟩
  obtain ⟨F9, hF9⟩ : ∃ V, V = Fl.fv 1 9 := ⟨_, rfl⟩
  obtain ⟨F8, hF8⟩ : ∃ V, V = Fl.fv 1 8 := ⟨_, rfl⟩
  simp only at HQ1 HN2 HN3
  rw [← hV11] at HQ1 HPL
  rw [← hF9] at HN2 HA9
  rw [← hF8] at HN3 HA8
  clear hg hm e1 e2 e3 hV11 hF9 hF8
  go_enter Tryd.func9, Tryd.ntmps9
  go_wp2_with fail
  refine HBK.out.mono ?_
  rintro e w1 ⟨lo, B, rfl, hB, hb1⟩
  have HB1 := Lib.hid hB; have C1 := Lib.hid hb1
  clear hB hb1
  go_wp2_with fail
  refine (HWK.out _ C1.out).mono ?_
  rintro e w2 ⟨rfl, hb2⟩
  have C2 := Lib.hid (C1.out.trans (hb2.mono C1.out.size))
  have HB2 := Lib.hid (HB1.out.below hb2)
  have hz2 := C2.out.size
  clear hb2
  have HS : Hid (K1 w lo B w2.heap.size (w2.heap.size + 1) (.int .i64 0) ((w2.alloc (.cells (kt.map vS).toArray 9)).alloc (.cells (kw.map vU).toArray 35))) :=
    ⟨0, Nat.zero_le _, rfl, (lit0 _ _ _).alloc _, lit1 _ _ _ _, (HB2.out.below ((Below.refl _ _).alloc (Nat.le_refl _) _)).below ((Below.refl _ _).alloc (Nat.le_refl _) _), (C2.out.alloc hz2 _).alloc (by simp; omega) _⟩
  obtain ⟨G1, hG1⟩ : ∃ G, G = w2.heap.size := ⟨_, rfl⟩
  go_wp2
  go_loopw [5] (fun i wr => K1 w lo B w2.heap.size (w2.heap.size + 1) i wr) (fun i _ => 5 - (intOf i).toNat)
  case atStart => exact HS.out
  case round =>
    obtain ⟨k, hk, rfl, l1, l2, hB, hbr⟩ := hrel
    have b2 : (0 : Int) ≤ (k : Int) := by omega
    have HB3 := Lib.hid hB; have C3 := Lib.hid hbr; have L1 := Lib.hid l1; have L2 := Lib.hid l2
    clear l1 l2 hB hbr
    by_cases h : k < 5
    · have b3 : (k : Int) < 5 := by omega
      have c1 := L1.out.get (k := k) (by exact h) ByteArray.empty
      have c2 := L2.out.get (k := k) (by exact h) 0
      have hp := kt_parse k h
      have hsz := kt_size k h
      obtain ⟨x, hx⟩ : ∃ x, x = kt.getD k ByteArray.empty := ⟨_, rfl⟩
      obtain ⟨z, hz⟩ : ∃ z, z = kw.getD k 0 := ⟨_, rfl⟩
      rw [← hx] at c1 hp hsz
      rw [← hz] at c2 hp
      have HP' := Lib.hid (HP.out x hsz)
      unfold ParsePost at HP'
      rw [hp] at HP'
      have e0 : errV 0 (-1) = .nilIface := rfl
      simp only [e0] at HP'
      have hq : ((z : Int) != (z : Int)) = false := by simp
      have c1' : wr.cell? ⟨w2.heap.size, k, none⟩ = some (.string x) := c1
      have HC2 := Lib.hid (fun w' (hb : Below wr.heap.size wr w') => ((L2.out.below hb).get (k := k) (by exact h) 0).trans (by rw [← hz]; rfl : some (vU (kw.getD k 0)) = some (.int .u64 (z : Int))))
      clear c1 c2 hx hz hp hsz e0
      go_wp2_with fail
      refine (HP'.out _ _ _ HB3.out C3.out).mono ?_
      rintro e w3 ⟨rfl, hb3⟩
      have c2' := HC2.out _ hb3
      have HK : Hid (K1 w lo B w2.heap.size (w2.heap.size + 1) (.int .i64 ((k : Int) + 1)) w3) := ⟨k + 1, by omega, by go_num, L1.out.below hb3, L2.out.below hb3, HB3.out.below hb3, C3.out.trans (hb3.mono C3.out.size)⟩
      clear hb3
      go_wp2
      go_roundw
      case rel => exact HK.out
      case measure => simp [intOf]; omega
    · have b3 : (5 : Int) ≤ (k : Int) := by omega
      have hz3 := C3.out.size
      have HS2 : Hid (K2 w lo B wr.heap.size (wr.heap.size + 1) (wr.heap.size + 2) (.int .i64 0) (((wr.alloc (.cells (kx.map vS).toArray 9)).alloc (.cells (kn.map vI).toArray 3)).alloc (.cells (ka.map vI).toArray 3))) :=
        ⟨0, Nat.zero_le _, rfl, ((lit0 _ _ _).alloc _).alloc _, (lit1 _ _ _ _).alloc _, lit2 _ _ _ _ _, ((HB3.out.below ((Below.refl _ _).alloc (Nat.le_refl _) _)).below ((Below.refl _ _).alloc (Nat.le_refl _) _)).below ((Below.refl _ _).alloc (Nat.le_refl _) _), ((C3.out.alloc hz3 _).alloc (by simp; omega) _).alloc (by simp; omega) _⟩
      clear HS
      obtain ⟨wo, rfl⟩ : ∃ x, x = wr := ⟨wr, rfl⟩
      go_wp2
      go_loopw [11] (fun i wr2 => K2 w lo B wo.heap.size (wo.heap.size + 1) (wo.heap.size + 2) i wr2) (fun i _ => 8 - (intOf i).toNat)
      case atStart => exact HS2.out
      case round =>
        obtain ⟨m, hm, rfl, l1, l2, l3, hB, hbr⟩ := hrel
        have b4 : (0 : Int) ≤ (m : Int) := by omega
        have HB4 := Lib.hid hB; have C4 := Lib.hid hbr; have M1 := Lib.hid l1; have M2 := Lib.hid l2; have M3 := Lib.hid l3
        clear l1 l2 l3 hB hbr
        by_cases h8 : m < 8
        · have b5 : (m : Int) < 8 := by omega
          have c1 := M1.out.get (k := m) (by exact h8) ByteArray.empty
          have hp := kx_parse m h8
          have hsz := kx_size m h8
          obtain ⟨hn1, hn2⟩ := kn_range m h8
          have HC2 := Lib.hid (fun w' (hb : Below wr.heap.size wr w') => ((M2.out.below hb).get (k := m) (by exact h8) 0))
          have HC3 := Lib.hid (fun w' (hb : Below wr.heap.size wr w') => ((M3.out.below hb).get (k := m) (by exact h8) 0))
          obtain ⟨x, hx⟩ : ∃ x, x = kx.getD m ByteArray.empty := ⟨_, rfl⟩
          obtain ⟨n, hn⟩ : ∃ z, z = kn.getD m 0 := ⟨_, rfl⟩
          obtain ⟨a, ha⟩ : ∃ z, z = ka.getD m 0 := ⟨_, rfl⟩
          rw [← hx] at c1 hp hsz
          rw [← hn] at hp hn1 hn2 HC2
          rw [← ha] at hp HC3
          have HP' := Lib.hid (HP.out x hsz)
          unfold ParsePost at HP'
          rw [hp] at HP'
          have e0 : errV (n : Int) (a : Int) = .iface 71 (Fl.fv (a : Int) (n : Int)) := by
            unfold errV
            rw [if_neg (by omega), if_neg (by omega)]
          simp only [e0] at HP'
          have HA' := Lib.hid (HAT.out (a : Int) (n : Int) (by omega) (by omega))
          obtain ⟨F, hF⟩ : ∃ V, V = Fl.fv (a : Int) (n : Int) := ⟨_, rfl⟩
          rw [← hF] at HP' HA'
          have c1' : wr.cell? ⟨wo.heap.size, m, none⟩ = some (.string x) := c1
          clear c1 hx hn ha hp hsz e0 hF
          go_wp2_with fail
          refine (HP'.out _ _ _ HB4.out C4.out).mono ?_
          rintro e w3 ⟨rfl, hb3⟩
          have k2 : w3.cell? ⟨wo.heap.size + 1, m, none⟩ = some (.int .i64 (n : Int)) := HC2.out _ hb3
          have k3 : w3.cell? ⟨wo.heap.size + 2, m, none⟩ = some (.int .i64 (a : Int)) := HC3.out _ hb3
          have C5 := Lib.hid (C4.out.trans (hb3.mono C4.out.size))
          have HR := Lib.hid (fun (w' : World) (hc1 : w'.cell? ⟨wo.heap.size + 1, m, none⟩ = some (.int .i64 (n : Int))) (hc2 : w'.cell? ⟨wo.heap.size + 2, m, none⟩ = some (.int .i64 (a : Int))) (hb : Below w.heap.size w w') =>
            (HA'.out w' hb).mono fun e w'' h => (⟨h.1, h.2, (h.2.cell (p := ⟨wo.heap.size + 1, m, none⟩) (lt_of_cell hc1)).trans hc1, (h.2.cell (p := ⟨wo.heap.size + 2, m, none⟩) (lt_of_cell hc2)).trans hc2⟩ : _ ∧ _ ∧ w''.cell? ⟨wo.heap.size + 1, m, none⟩ = some (.int .i64 (n : Int)) ∧ w''.cell? ⟨wo.heap.size + 2, m, none⟩ = some (.int .i64 (a : Int))))
          have hbd : Below w.heap.size w w3.drew := C5.out.drew
          have HK : Hid (∀ w4, Below w3.drew.heap.size w3.drew w4 → K2 w lo B wo.heap.size (wo.heap.size + 1) (wo.heap.size + 2) (.int .i64 ((m : Int) + 1)) w4) := fun w4 hb4 => by
            have hb5 : Below wr.heap.size wr w3.drew := hb3.drew
            have hb6 := hb5.trans (hb4.mono hb5.size)
            exact ⟨m + 1, by omega, by go_num, M1.out.below hb6, M2.out.below hb6, M3.out.below hb6, HB4.out.below hb6, C4.out.trans (hb6.mono C4.out.size)⟩
          clear hb3
          go_wp2
          go_region_held3 (fun w' => w'.cell? ⟨wo.heap.size + 1, m, none⟩ = some (.int .i64 (n : Int)) ∧ w'.cell? ⟨wo.heap.size + 2, m, none⟩ = some (.int .i64 (a : Int))) (go_keep) (first | (go_at_call 28; refine (HR.out _ ?_ ?_ ?_).mono ?_; (simp [*]); (simp [*]); (exact hbd); rintro e w4 ⟨rfl, hb4, k4, k5⟩))
          go_wp2
          go_roundw
          case rel => exact HK.out _ hb4
          case measure => simp [intOf]; omega
        · have b5 : (8 : Int) ≤ (m : Int) := by omega
          go_wp2_with fail
          refine (HQ0.out _ _ _ HB4.out).mono ?_
          rintro e w3 ⟨rfl, hb3⟩
          have C5 := Lib.hid (C4.out.trans (hb3.mono C4.out.size))
          have HB5 := Lib.hid (HB4.out.below hb3)
          clear hb3
          go_wp2_with fail
          refine (HQ1.out _ _ _ HB5.out).mono ?_
          rintro e w4 ⟨rfl, hb4⟩
          have C6 := Lib.hid (C5.out.trans (hb4.mono C5.out.size))
          clear hb4
          go_wp2_with fail
          refine (HN2.out _ C6.out).mono ?_
          rintro e w5 ⟨hp, hb5⟩
          rcases hp with ⟨h, -⟩ | ⟨-, rfl⟩
          · exact absurd h (by decide)
          · have C7 := Lib.hid ((C6.out.alloc C6.out.size _).trans (hb5.mono (by simp; have := C6.out.size; omega)))
            clear hb5
            go_wp2_with fail
            refine (HN3.out _ C7.out).mono ?_
            rintro e w6 ⟨hp, hb6⟩
            rcases hp with ⟨h, -⟩ | ⟨-, rfl⟩
            · exact absurd h (by decide)
            · have C8 := Lib.hid ((C7.out.alloc C7.out.size _).trans (hb6.mono (by simp; have := C7.out.size; omega)))
              clear hb6
              go_wp2_with fail
              refine (HPL.out _ C8.out).mono ?_
              rintro e w7 ⟨rfl, hb7⟩
              have C9 := Lib.hid (C8.out.trans (hb7.mono C8.out.size))
              clear hb7
              go_wp2_with fail
              refine (HA9.out _ C9.out).mono ?_
              rintro e w8 ⟨rfl, hb8⟩
              have C10 := Lib.hid (C9.out.trans (hb8.mono C9.out.size))
              clear hb8
              go_wp2_with fail
              refine (HA8.out _ C10.out).mono ?_
              rintro e w9 ⟨rfl, hb9⟩
              have C11 := Lib.hid (C10.out.trans (hb9.mono C10.out.size))
              clear hb9
              go_wp2_with fail
              refine (HMN.out _ C11.out).mono ?_
              rintro e w10 ⟨rfl, hb10⟩
              go_wp2
              go_ret
              exact ⟨rfl, C11.out.trans (hb10.mono C11.out.size)⟩

end Sc

theorem scopeKnown_walk (w : World) (hL : laidMetH Tryd.prog Rows.scopeKnownRow.laid w) (hsh : w.ShapedOpen Tryd.prog) :
    Calls Tryd.prog 9 #[] w fun e w' => e = .returned (.bool true) ∧ Below w.heap.size w w' :=
  Sc.scopeKnown_core w (handle_of_laid hL (by kernel_rfl)) (max_of_shape w hsh)

end Go.Proofs.YtgneebidmhiagaaDoor
