/- Several texts in one: what each proves its own first comment says. -/
import Derived.Test.YtocoonkachbjaaaGreatDoorM11
import Derived.Deep.CutRange

/- The document's Order. -/
namespace Go.Proofs.YtocoonkachbjaaaGreatDoor
open Go.RowKit Go.Maps
set_option linter.unusedVariables false
namespace Vw
def nv (x : Nat) : Value := .int .i64 (x : Int)
theorem first_at (p : Nat) : ∀ (o : List Nat), p ∈ o → ∃ i : Nat, o[i]? = some p ∧ ∀ (j y : Nat), j < i → o[j]? = some y → y ≠ p
  | [], h => by cases h
  | x :: o, h => by
    by_cases e : x = p
    · exact ⟨0, by simp [e], fun j y hj => absurd hj (Nat.not_lt_zero _)⟩
    · obtain ⟨i, h1, h2⟩ := first_at p o (by
        rcases List.mem_cons.1 h with h | h
        · exact absurd h.symm e
        · exact h)
      refine ⟨i + 1, by simpa using h1, fun j y hj hy => ?_⟩
      cases j with
      | zero => have : x = y := by simpa using hy
                rw [← this]; exact e
      | succ j => exact h2 j y (by omega) (by simpa using hy)
theorem own_at {w : World} {base n : Nat} {v : Value} {o : List Nat} (h : w.ownsRow base 3 1 v n (o.map nv)) (hn : 0 < n) : ∃ g c, v = .slice (some ⟨g, 0, none⟩) n c ∧ base ≤ g ∧ g < w.heap.size ∧ ∀ (j x : Nat), o[j]? = some x → w.cell? ⟨g, j, none⟩ = some (.int .i64 (x : Int)) := by
  obtain ⟨g, c, rfl, _, _, h1, h2, h3⟩ := Ut.own_cells h hn
  refine ⟨g, c, rfl, h1, h2, fun j x hx => ?_⟩
  have hl : o.length = n := by have := h.1; simpa using this
  rw [h3 j (by rw [← hl]; exact (List.getElem?_eq_some_iff.1 hx).1), List.getElem?_map, hx]; rfl
/-- The first of a list of the call's own. -/
theorem own_take {w : World} {base e size n a cap : Nat} {q : Option Addr} {xs : List Value} (h : w.ownsRow base e size (.slice q n cap) n xs) (ha : a ≤ n) : w.ownsRow base e size (.slice q a cap) a (xs.take (a * size)) := by
  have hle : a * size ≤ n * size := Nat.mul_le_mul_right _ ha
  refine ⟨by rw [List.length_take, h.1]; omega, ?_⟩
  rcases h.2 with ⟨h1, h2⟩ | ⟨g, c, cur, h1, h2, h3, h4, h5, h6, h7⟩
  · injection h1 with e1 e2 e3
    subst e1 e2 e3
    exact .inl ⟨by rw [show a = 0 by omega], by omega⟩
  · injection h1 with e1 e2 e3
    subst e1 e3
    exact .inr ⟨g, cap, cur, rfl, h2, h3, by omega, h5, h6, by rw [← h7, List.take_take, Nat.min_eq_left hle]⟩
/-- Its back part, as a list of numbers. -/
theorem back_ints {w : World} {base n a cap : Nat} {q : Option Addr} {ps : List Int} (h : w.ownsRow base 3 1 (.slice q n cap) n (ps.map (Value.int .i64))) (ha : a ≤ n) :
    In.IntArg w (.slice (if cap = a then q else q.map (·.add (a * 1))) (n - a) (cap - a)) (ps.drop a) := by
  have hl : ps.length = n := by have := h.1; simpa using this
  refine ⟨_, _, by rw [List.length_drop, hl], fun j hj => ?_⟩
  rw [List.length_drop, hl] at hj
  rcases h.2 with ⟨h1, h2⟩ | ⟨g, c, cur, h1, h2, h3, h4, h5, h6, h7⟩
  · omega
  · injection h1 with e1 e2 e3
    subst e1 e3
    rw [if_neg (by omega)]
    refine ⟨g, a, by simp [Ap.add_plain], (Array.getElem?_eq_some_iff.1 h3).1, ?_⟩
    have := World.ownsRow.cellAt (w := w) h (a + j) (by omega)
    rw [this]
    simp [show a + j < ps.length by omega]

theorem own_any_shape {w : World} {base e size n : Nat} {v : Value} {xs : List Value} (h : w.ownsRow base e size v n xs) : ∃ q r, v = .slice q n r ∧ n ≤ r := by
  rcases h.2 with ⟨rfl, rfl⟩ | ⟨g, cap, cur, rfl, h2, h3, h4, h5⟩
  · exact ⟨_, _, rfl, Nat.le_refl _⟩
  · exact ⟨_, _, rfl, h4⟩

theorem own_grown {w w' : World} {base e size n : Nat} {v : Value} {xs : List Value} {row : Option Nat} (h : w.ownsRow base e size v n xs) (hg : w.grownBy w' row) (hne : ∀ b, v.ownBlock = some b → some b ≠ row) : w'.ownsRow base e size v n xs := by
  refine ⟨h.1, ?_⟩
  rcases h.2 with h2 | ⟨g, cap, cur, rfl, h2, h3, h4⟩
  · exact .inl h2
  · refine .inr ⟨g, cap, cur, rfl, h2, ?_, h4⟩
    rw [hg.block g (Array.getElem?_eq_some_iff.1 h3).1 (hne g rfl)]; exact h3
theorem src_own {w : World} {base e size n cap : Nat} {q : Option Addr} {xs : List Value} (h : w.ownsRow base e size (.slice q n cap) n xs) : Ap.SrcAt w q n size xs := by
  rcases h.2 with ⟨h1, h2⟩ | ⟨g, c, cur, h1, h2, h3, h4, h5, h6, h7⟩
  · exact .inl ⟨h2, List.eq_nil_of_length_eq_zero (by rw [h.1, h2]; simp)⟩
  · injection h1 with e1 e2 e3
    subst e1 e3
    refine .inr ⟨_, rfl, h.1, fun j u hu => ?_⟩
    rw [Ap.add_plain]
    have hlt : j < n * size := by rw [← h.1]; exact (List.getElem?_eq_some_iff.1 hu).1
    rw [World.ownsRow.cellAt (w := w) h j hlt]; exact hu
theorem src_grown {w w' : World} {A : Option Addr} {m size : Nat} {xs : List Value} {row : Option Nat} (h : Ap.SrcAt w A m size xs) (hg : w.grownBy w' row) (hne : ∀ a, A = some a → some a.block ≠ row) : Ap.SrcAt w' A m size xs := by
  rcases h with h | ⟨ad, rfl, h1, h2⟩
  · exact .inl h
  · refine .inr ⟨ad, rfl, h1, fun j u hu => ?_⟩
    have h3 := h2 j u hu
    have hb : (ad.add j).block = ad.block := by unfold Addr.add; split <;> rfl
    have h4 := World.block_lt_of_cell? w _ h3
    have h5 := hg.block (ad.add j).block h4 (by rw [hb]; exact hne ad rfl)
    unfold World.cell? at h3 ⊢
    rw [h5]; exact h3
def OrRel (ss : List Sess) (lo : Nat) (w1 : World) (o i : Value) (wr : World) : Prop :=
  ∃ k : Nat, k ≤ ss.length ∧ i = .int .i64 k ∧ wr.ownsRow lo 3 1 o k ((Vt.ordI (bu ss) k).map nv) ∧ Below lo w1 wr
/-- Behind both appends: the new one in its place. -/
theorem OrRel.step {ss : List Sess} {lo k a : Nat} {w1 w3 w4 w5 : World} {q : Option Addr} {c : Nat} {ob : Obj} {v1 v2 : Value} (hk : k < ss.length) (ha : a ≤ k) (hlo : w1.heap.size = lo) (hord : Vt.ordI (bu ss) (k + 1) = (Vt.ordI (bu ss) k).take a ++ k :: (Vt.ordI (bu ss) k).drop a)
    (hb3 : Below lo w1 w3) (hown3 : w3.ownsRow lo 3 1 (.slice q a c) a (((Vt.ordI (bu ss) k).take a).map nv)) (hown4 : w4.ownsRow lo 3 1 v1 (a + 1) (((Vt.ordI (bu ss) k).take a).map nv ++ [nv k])) (hg4 : (w3.alloc ob).grownBy w4 (Value.slice q a c).ownBlock)
    (hown5 : w5.ownsRow lo 3 1 v2 (a + 1 + (k - a)) (((Vt.ordI (bu ss) k).take a).map nv ++ [nv k] ++ ((Vt.ordI (bu ss) k).drop a).map nv)) (hg5 : w4.grownBy w5 v1.ownBlock) : OrRel ss lo w1 v2 (.int .i64 ((k + 1 : Nat) : Int)) w5 := by
  have hb4 := Ut.below_app hb3 (by rw [← hlo]; exact hb3.size) hown3 hg4
  refine ⟨k + 1, by omega, rfl, ?_, hb4.grown hg5 (by rw [← hlo]; exact hb4.size) (fun j hj => (hown4.lt j hj).1)⟩
  rw [show k + 1 = a + 1 + (k - a) by omega]
  rw [show a + 1 + (k - a) = k + 1 by omega] at hown5 ⊢
  rw [hord]
  simpa using hown5

def OrAt (ss : List Sess) (k : Nat) (W : World) (at_ : Value) (wc : World) : Prop :=
  ∃ a : Nat, at_ = .int .i64 a ∧ a ≤ k ∧ Vt.ordI (bu ss) (k + 1) = (Vt.ordI (bu ss) k).take a ++ k :: (Vt.ordI (bu ss) k).drop a ∧ Below W.heap.size W wc

set_option maxRecDepth 100000 in
set_option maxHeartbeats 4000000 in
theorem rorder_any (v : Value) (ss : List Sess) (hl : ss.length ≤ 65536) (w : World) (h1 : SessArg w v ss) :
    Calls Tryz.prog 45 #[v] w fun e w' => (∃ d, e = .returned d ∧ w'.ownsRow w.heap.size 3 1 d ss.length ((Vt.ordI (bu ss) ss.length).map nv)) ∧ Below w.heap.size w w' := by
  have HA := Lib.hid h1
  obtain ⟨p, cap, rfl, -⟩ := h1
  obtain ⟨i0, hi, hz0, hz1, hz2⟩ := info_parts vinfo_int
  have hlI : (ss.length : Int) ≤ 9223372036854775807 := by omega
  have HD := Lib.hid (rdepths_any _ ss hl w HA.out)
  go_enter Tryz.func45, Tryz.ntmps45
  go_wp2_with fail
  refine HD.out.mono ?_
  rintro e w1 ⟨⟨d, rfl, hd⟩, hb1⟩
  have HD1 := Lib.hid hd; have HB1 := Lib.hid hb1
  clear hd hb1
  go_wp2
  go_loopw [4, 5, 6, 7, 8] (fun o i _ _ _ wr => OrRel ss w1.heap.size w1 o i wr) (fun _ i _ _ _ _ => ss.length - (intOf i).toNat)
  case atStart => exact ⟨0, Nat.zero_le _, rfl, World.ownsRow_nil _ _ _ _, Below.refl _ _⟩
  case round =>
    obtain ⟨k, hk, rfl, hown, hbr⟩ := hrel
    have HO := Lib.hid hown; have HB := Lib.hid hbr
    clear hown hbr
    have b0 : (0 : Int) ≤ (k : Int) := by omega
    by_cases h : k < ss.length
    · have b1 : (k : Int) < (ss.length : Int) := by omega
      have HC := Lib.hid (rparent_any _ ss hlI k h wr ((HA.out.below HB1.out).below (HB.out.mono (Nat.le_refl _))))
      have w1' : IntKind.i64.wrap ((k : Int) + 1) = ((k + 1 : Nat) : Int) := by rw [IntWalk.i64_in _ (by omega)]; rfl
      obtain ⟨Q, hQ⟩ : ∃ Q, Q = parI (bu ss) k := ⟨_, rfl⟩
      rw [← hQ] at HC
      have HQE := Lib.hid hQ
      clear hQ
      obtain ⟨q, c, rfl, hkc⟩ := own_any_shape HO.out
      go_wp2_with fail
      refine HC.out.mono ?_
      rintro e w2 ⟨rfl, hb2⟩
      have HB2 : Hid (Below w1.heap.size w1 w2) := HB.out.trans (hb2.mono HB.out.size)
      have HO2 := Lib.hid (vown_kept HO.out hb2)
      go_upto_if 23 with (fail)
      go_cut [7] from 11 to 66 (fun at_ wc => OrAt ss k w2 at_ wc)
      case rest =>
        obtain ⟨a, rfl, ha, hord, hbc⟩ := hcut
        have a0 : (0 : Int) ≤ (a : Int) := by omega
        have a1 : (a : Int) ≤ (k : Int) := by omega
        have a2 : (a : Int) ≤ (c : Int) := by omega
        have a3 : (k : Int) ≤ (c : Int) := by omega
        have HBC : Hid (Below w1.heap.size w1 wc) := HB2.out.trans (hbc.mono HB2.out.size)
        have HOC := Lib.hid (vown_kept HO2.out hbc)
        obtain ⟨q', hq', hsl⟩ := Sl.run_low (P := Tryz.prog) 82 3 q k c a 1 Tryz.underlying82 (by kernel_rfl) ha hkc
        have HIA := Lib.hid (back_ints (ps := (Vt.ordI (bu ss) k).map (fun x : Nat => (x : Int))) (by rw [List.map_map]; exact HOC.out) ha)
        rw [← hq'] at HIA
        have hsh := Sl.run_high (P := Tryz.prog) 82 3 q k c a Tryz.underlying82 (by kernel_rfl) (by omega)
        have HCP := Lib.hid (In.rcopy_any _ _ (by rw [List.length_drop, List.length_map, Vt.ordI_len]; omega) wc HIA.out)
        have hsc : w1.heap.size ≤ wc.heap.size := HBC.out.size
        have hqb : ∀ b, (Value.slice q a c).ownBlock = some b → b < wc.heap.size := fun b e => (HOC.out.lt b (by cases q <;> exact e)).2
        have HQB := Lib.hid hqb
        have am1 : a + 1 ≤ maxLen := by unfold maxLen; omega
        have am2 : (a + 1) * 8 ≤ 140737488355328 := by omega
        have am3 : a + 1 + (k - a) ≤ maxLen := by unfold maxLen; omega
        have am4 : (a + 1 + (k - a)) * 8 ≤ 140737488355328 := by omega
        have HORD := Lib.hid hord; have HAK := Lib.hid ha; have HHK := Lib.hid h; have HBCC := Lib.hid hbc
        clear hbc hq' hqb hord hb2 ha
        go_wp2_with fail
        refine HCP.out.mono ?_
        rintro e w3 ⟨⟨r, rfl, hr⟩, hb3⟩
        rw [List.length_drop, List.length_map, Vt.ordI_len, ← List.map_drop, List.map_map] at hr
        have hr2 : w3.ownsRow wc.heap.size 3 1 r (k - a) (((Vt.ordI (bu ss) k).drop a).map nv) := hr
        clear hr
        obtain ⟨qr, cr, rfl, hrc⟩ := own_any_shape hr2
        have hs3 := hb3.size
        have HB3 : Hid (Below w1.heap.size w1 w3) := HBC.out.trans (hb3.mono hsc)
        have HO3 : Hid (w3.ownsRow w1.heap.size 3 1 (.slice q a c) a (((Vt.ordI (bu ss) k).take a).map nv)) := by
          have h2 := own_take (vown_kept HOC.out hb3) HAK.out
          rw [Nat.mul_one, ← List.map_take] at h2
          exact h2
        have HR := Lib.hid hr2
        have am5 : w1.heap.size ≤ w3.heap.size := Nat.le_trans hsc hs3
        clear hr2 hb3
        go_wp2_with (first
          | (at_builtin; refine wpList_append_own_at _ rfl (.tmp 60) (.tmp 62) 82 rfl w1.heap.size 3 i0 (.int .i64 0) 1 8 Tryz.underlying82 hi hz0 hz1 hz2 rfl (by decide) _ _ _ rfl (HO3.out.alloc _) ⟨w3.heap.size, 0, none⟩ 1 1 [nv k] rfl rfl (cell_one_new _ _ _) (by intro u hu; simp at hu; subst hu; rfl) am1 am2 (by simp; exact Nat.le_succ_of_le am5) ?_; intro v1 w4 hown4 hgrow4 _ hat4; have HSR := Lib.hid (src_grown (src_own (HR.out.alloc _)) hgrow4 (fun ad e => (by intro e2; have h1 := (HR.out.lt ad.block (by rw [e]; rfl)).1; have h2 := HQB.out ad.block e2.symm; omega))); have HW4 := Lib.hid hown4; have HG4 := Lib.hid hgrow4; have am6 : w1.heap.size ≤ w4.heap.size := Nat.le_trans am5 (Nat.le_trans (by simp) HG4.out.size); clear hat4 hown4 hgrow4)
          | (at_builtin; refine Ap.wpList_any _ rfl (.tmp 64) (.tmp 65) 82 rfl w1.heap.size 3 i0 (.int .i64 0) 1 8 Tryz.underlying82 hi hz0 hz1 hz2 rfl (by decide) _ _ _ rfl HW4.out qr (k - a) cr _ rfl HSR.out (by intro u hu; obtain ⟨x, _, rfl⟩ := List.mem_map.1 hu; rfl) am3 am4 am6 ?_; intro v2 w5 hown5 hgrow5 _))
        have HU := Lib.hid (OrRel.step HHK.out HAK.out rfl HORD.out HB3.out HO3.out HW4.out HG4.out hown5 hgrow5)
        clear hown5 hgrow5
        go_wp2
        go_roundw
        case rel => exact HU.out
        case measure => simp [intOf]; omega
      case first =>
        cases hp : Vt.par (bu ss) k with
        | none =>
          have hq : Q = -1 := by rw [HQE.out]; unfold parI; rw [hp]
          have hat : OrAt ss k w2 (.int .i64 (k : Int)) w2 := ⟨k, rfl, Nat.le_refl _, by rw [Vt.ordI_none hp, List.take_of_length_le (by rw [Vt.ordI_len]; exact Nat.le_refl _), List.drop_of_length_le (by rw [Vt.ordI_len]; exact Nat.le_refl _)], Below.refl _ _⟩
          have HAT := Lib.hid hat
          subst hq
          clear hat hp hb2
          go_wp2
          go_meet
          case rel => exact HAT.out
        | some p2 =>
          have hlt := Vt.par_lt hp
          have hq : Q = (p2 : Int) := by rw [HQE.out]; unfold parI; rw [hp]
          obtain ⟨i1, hi1, hi2⟩ := first_at p2 (Vt.ordI (bu ss) k) (by
            obtain ⟨j, hj⟩ := Vt.ordI_has (l := bu ss) hlt
            exact List.mem_of_getElem? hj)
          have hi3 : i1 < k := by have := (List.getElem?_eq_some_iff.1 hi1).1; rwa [Vt.ordI_len] at this
          obtain ⟨g, c', e, hg1, hg2, hgc⟩ := own_at HO2.out (by omega)
          injection e with e1 e2 e3
          subst e1 e3
          obtain ⟨gd, cd, rfl, _, _, _, hd2, hdc⟩ := Ut.own_cells HD1.out (by omega)
          have HGC := Lib.hid hgc; have HGS := Lib.hid hg2
          have HDC : Hid (∀ j, j < ss.length → ∀ W, Below w2.heap.size w2 W → W.cell? ⟨gd, j, none⟩ = some (.int .i64 (Vt.dep (bu ss) j : Int))) := fun j hj W hW => by
            rw [hW.cell (p := ⟨gd, j, none⟩) (Nat.lt_of_lt_of_le hd2 HB2.out.size), HB2.out.cell (p := ⟨gd, j, none⟩) hd2, hdc j hj]
            simp [hj, dv]
          have HI1 := Lib.hid hi1; have HI2 := Lib.hid hi2; have HI3 := Lib.hid hi3; have HP := Lib.hid hp; have HLT := Lib.hid hlt; have HHK := Lib.hid h
          have hp0 : (0 : Int) ≤ (p2 : Int) := by omega
          subst hq
          clear hgc hg1 hg2 hd2 hdc hi1 hi2 hi3 hp hlt hb2 h
          go_wp2
          go_loopw [7] (fun i wq => ∃ j : Nat, j ≤ i1 ∧ i = .int .i64 j ∧ Below w2.heap.size w2 wq) (fun i _ => i1 - (intOf i).toNat)
          case atStart => exact ⟨0, Nat.zero_le _, rfl, Below.refl _ _⟩
          case round =>
            obtain ⟨j, hj, rfl, hbq⟩ := hrel
            obtain ⟨x, hx⟩ : ∃ x, (Vt.ordI (bu ss) k)[j]? = some x := by
              have h1 := HI3.out
              exact ⟨_, List.getElem?_eq_getElem (by rw [Vt.ordI_len]; omega)⟩
            have c1 : wr.cell? ⟨g, j, none⟩ = some (.int .i64 (x : Int)) := (hbq.cell (p := ⟨g, j, none⟩) HGS.out).trans (HGC.out j x hx)
            have j0 : (0 : Int) ≤ (j : Int) := by omega
            have j1 : (j : Int) < (k : Int) := by have := HI3.out; omega
            have w2' : IntKind.i64.wrap ((j : Int) + 1) = ((j + 1 : Nat) : Int) := by rw [IntWalk.i64_in _ (by omega)]; rfl
            by_cases e : j = i1
            · have hx2 : x = p2 := by
                rw [e, HI1.out] at hx
                exact (Option.some.inj hx).symm
              have hn : ((x : Int) != (p2 : Int)) = false := by simp [hx2]
              have HE := Lib.hid e; have HBQ := Lib.hid hbq
              clear hx hx2 e hj hbq
              obtain ⟨wq, rfl⟩ : ∃ wq : World, wq = wr := ⟨_, rfl⟩
              go_wp2
              go_loopw [7] (fun i wz => ∃ a : Nat, i1 < a ∧ a ≤ k ∧ i = .int .i64 a ∧ (∀ (z y : Nat), i1 < z → z < a → (Vt.ordI (bu ss) k)[z]? = some y → Vt.dep (bu ss) p2 < Vt.dep (bu ss) y) ∧ Below w2.heap.size w2 wz) (fun i _ => k - (intOf i).toNat)
              case atStart =>
                have h1 := HE.out; have h2 := HI3.out
                exact ⟨j + 1, by omega, by omega, rfl, fun z y h3 h4 => by omega, HBQ.out⟩
              case round =>
                obtain ⟨a, ha1, ha2, rfl, hall, hbz⟩ := hrel
                have HA1 := Lib.hid ha1; have HALL := Lib.hid hall; have HBZ := Lib.hid hbz; have HA2 := Lib.hid ha2
                have a0 : (0 : Int) ≤ (a : Int) := by omega
                have w3' : IntKind.i64.wrap ((a : Int) + 1) = ((a + 1 : Nat) : Int) := by rw [IntWalk.i64_in _ (by omega)]; rfl
                by_cases hak : a < k
                · have ak1 : (a : Int) < (k : Int) := by omega
                  obtain ⟨y, hy⟩ : ∃ y, (Vt.ordI (bu ss) k)[a]? = some y := ⟨_, List.getElem?_eq_getElem (by rw [Vt.ordI_len]; omega)⟩
                  have hyk : y < k := Vt.ordI_lt hy
                  have hkn := HHK.out
                  have hpk := HLT.out
                  have d1 : wr.cell? ⟨g, a, none⟩ = some (.int .i64 (y : Int)) := (hbz.cell (p := ⟨g, a, none⟩) HGS.out).trans (HGC.out a y hy)
                  have d2 : wr.cell? ⟨gd, y, none⟩ = some (.int .i64 (Vt.dep (bu ss) y : Int)) := HDC.out y (by omega) wr hbz
                  have d3 : wr.cell? ⟨gd, p2, none⟩ = some (.int .i64 (Vt.dep (bu ss) p2 : Int)) := HDC.out p2 (by omega) wr hbz
                  have y0 : (0 : Int) ≤ (y : Int) := by omega
                  have y1 : (y : Int) < (ss.length : Int) := by omega
                  have p1 : (p2 : Int) < (ss.length : Int) := by omega
                  obtain ⟨X, hX⟩ : ∃ X, X = Vt.dep (bu ss) y := ⟨_, rfl⟩
                  obtain ⟨Y, hY⟩ : ∃ Y, Y = Vt.dep (bu ss) p2 := ⟨_, rfl⟩
                  rw [← hX] at d2; rw [← hY] at d3
                  have HY := Lib.hid hy; have HXX := Lib.hid hX; have HYY := Lib.hid hY; have HAK := Lib.hid hak
                  clear hy hX hY hall hbz hyk hkn hpk hak ha1 ha2
                  by_cases hd : Y < X
                  · have hdi : (Y : Int) < (X : Int) := by omega
                    have hstep : Hid (∀ (z y2 : Nat), i1 < z → z < a + 1 → (Vt.ordI (bu ss) k)[z]? = some y2 → Vt.dep (bu ss) p2 < Vt.dep (bu ss) y2) := fun z y2 h1 h2 h3 => by
                      rcases Nat.lt_or_ge z a with h4 | h4
                      · exact HALL.out z y2 h1 h4 h3
                      · have e4 : z = a := by omega
                        subst e4
                        rw [HY.out] at h3
                        rw [← Option.some.inj h3, ← HXX.out, ← HYY.out]; exact hd
                    clear hd
                    go_wp2
                    go_quiet (fail)
                    go_wp2
                    go_roundw
                    case rel => exact ⟨a + 1, by have := HA1.out; omega, by have := HAK.out; omega, rfl, hstep.out, Ut.below_drewN HBZ.out _⟩
                    case measure => have := HAK.out; simp [intOf]; omega
                  · have hdi : (X : Int) ≤ (Y : Int) := by omega
                    have hord := Vt.ordI_some HP.out HI1.out HI2.out HA1.out HA2.out HALL.out (fun y2 h3 => by rw [HY.out] at h3; rw [← Option.some.inj h3, ← HXX.out, ← HYY.out]; exact hd)
                    have HORD := Lib.hid hord
                    clear hord hd
                    go_wp2
                    go_quiet (fail)
                    go_wp2
                    go_meet
                    case rel => exact ⟨a, rfl, HA2.out, HORD.out, Ut.below_drewN HBZ.out _⟩
                · have e5 : a = k := by omega
                  have hdf : decide (a < k) = false := by rw [decide_eq_false_iff_not]; omega
                  have hord := Vt.ordI_some HP.out HI1.out HI2.out HA1.out HA2.out HALL.out (fun y2 h3 => by
                    rw [List.getElem?_eq_none (by rw [Vt.ordI_len]; omega)] at h3; cases h3)
                  have HORD := Lib.hid hord
                  clear hord hak e5 hall hbz ha1 ha2
                  go_wp2
                  go_quiet (fail)
                  go_wp2
                  go_meet
                  case rel => exact ⟨a, rfl, HA2.out, HORD.out, Ut.below_drewN HBZ.out _⟩
            · have hx2 := HI2.out j x (by omega) hx
              have hn : ((x : Int) != (p2 : Int)) = true := by rw [bne_iff_ne]; omega
              have HE : Hid (j < i1) := by show _ < _; omega
              clear hx hx2 e
              go_wp2
              go_roundw
              case rel => have := HE.out; exact ⟨j + 1, by omega, rfl, hbq⟩
              case measure => have := HE.out; simp [intOf]; omega
    · have b1 : (ss.length : Int) ≤ (k : Int) := by omega
      have e : k = ss.length := by omega
      have h3 := HO.out
      rw [e] at h3
      have HO3 := Lib.hid (Ut.own_base h3 HB1.out.size)
      have HBF := Lib.hid (HB1.out.trans (HB.out.mono HB1.out.size))
      clear h h3
      go_wp2
      go_ret
      exact ⟨⟨_, rfl, HO3.out⟩, HBF.out⟩
end Vw
end Go.Proofs.YtocoonkachbjaaaGreatDoor

/- The document's first: the place of the first session of a birth number. -/
namespace Go.Proofs.YtocoonkachbjaaaGreatDoor
open Go.RowKit
set_option linter.unusedVariables false
namespace Vw
def firstL (ss : List Sess) (b : Int) : Option Nat := ss.findIdx? (fun s => s.birth == b)
def firstI (ss : List Sess) (b : Int) : Int := match firstL ss b with
  | none => -1
  | some p => p
def FsRel (ss : List Sess) (b : Int) (w : World) (i : Value) (wr : World) : Prop :=
  ∃ k : Nat, k ≤ ss.length ∧ i = .int .i64 k ∧ (∀ j (h : j < ss.length), j < k → ss[j].birth ≠ b) ∧ Below w.heap.size w wr

set_option maxRecDepth 100000 in
set_option maxHeartbeats 2000000 in
theorem rfirst_any (v : Value) (ss : List Sess) (hl : (ss.length : Int) ≤ 9223372036854775807) (b : Int) (w : World) (h1 : SessArg w v ss) :
    Calls Tryz.prog 115 #[v, .int .i64 b] w fun e w' => e = .returned (.int .i64 (firstI ss b)) ∧ Below w.heap.size w w' := by
  obtain ⟨p, cap, rfl, h⟩ := h1
  have H := Lib.hid h
  clear h
  go_enter Tryz.func115, Tryz.ntmps115
  go_wp2
  go_loopw [5] (fun i wr => FsRel ss b w i wr) (fun i _ => ss.length - (intOf i).toNat)
  case atStart => exact ⟨0, Nat.zero_le _, rfl, fun j h hj => absurd hj (Nat.not_lt_zero _), Below.refl _ _⟩
  case round =>
    obtain ⟨k, hk, rfl, hne, hbr⟩ := hrel
    have HE := Lib.hid hne; clear hne
    have b0 : (0 : Int) ≤ (k : Int) := by omega
    by_cases h : k < ss.length
    · have b1 : (k : Int) < (ss.length : Int) := by omega
      obtain ⟨g, o, rfl, hg, k2⟩ := H.out k h
      have e1 : wr.cell? ⟨g, o + k * 12 + 1, none⟩ = some (.int .i64 ss[k].birth) := (hbr.cell (p := ⟨g, o + k * 12 + 1, none⟩) hg).trans (k2 1 _ rfl)
      have w1 : IntKind.i64.wrap ((k : Int) + 1) = ((k + 1 : Nat) : Int) := by rw [IntWalk.i64_in _ (by omega)]; rfl
      have hyes : ss[k].birth = b → firstL ss b = some k := fun e => by
        unfold firstL
        rw [List.findIdx?_eq_some_iff_getElem]
        exact ⟨h, by simp [e], fun j hj => by simpa using HE.out j (by omega) hj⟩
      have hno : ss[k].birth ≠ b → ∀ j (h : j < ss.length), j < k + 1 → ss[j].birth ≠ b := fun e j h hj => by
        rcases Nat.lt_or_ge j k with h2 | h2
        · exact HE.out j h h2
        · have e2 : j = k := by omega
          subst e2; exact e
      obtain ⟨X, hX⟩ : ∃ X, X = ss[k].birth := ⟨_, rfl⟩
      rw [← hX] at e1 hyes hno
      clear k2 hX
      by_cases hx : X = b
      · have HF : Hid (Ending.returned (.int .i64 (k : Int)) = .returned (.int .i64 (firstI ss b))) := by show _ = _; unfold firstI; rw [hyes hx]
        subst hx
        have hxq : (X == X) = true := by simp
        clear hyes hno
        go_wp2
        go_ret
        exact ⟨HF.out, hbr⟩
      · have HN := Lib.hid (hno hx)
        have hxq : (X == b) = false := by rw [beq_eq_false_iff_ne]; exact hx
        clear hyes hno hx
        go_wp2
        go_roundw
        case rel => exact ⟨k + 1, by omega, rfl, HN.out, hbr⟩
        case measure => simp [intOf]; omega
    · have b1 : (ss.length : Int) ≤ (k : Int) := by omega
      have HF : Hid (Ending.returned (.int .i64 (-1)) = .returned (.int .i64 (firstI ss b))) := by
        show _ = _
        have : firstL ss b = none := by
          unfold firstL
          rw [List.findIdx?_eq_none_iff]
          intro s hs
          obtain ⟨j, hj, e⟩ := List.getElem_of_mem hs
          have := HE.out j hj (by omega)
          rw [e] at this
          simpa using this
        unfold firstI; rw [this]
      clear h
      go_wp2
      go_ret
      exact ⟨HF.out, hbr⟩
end Vw
end Go.Proofs.YtocoonkachbjaaaGreatDoor

/- The document's Kids (printed by wip/mkrkids.py). -/
namespace Go.Proofs.YtocoonkachbjaaaGreatDoor
open Go.RowKit Go.Maps
set_option linter.unusedVariables false
namespace Vw
def ksel (ss : List Sess) (b : Int) (j : Nat) : Bool := decide ((b = 0 ∧ parI (bu ss) j < 0) ∨ (b ≠ 0 ∧ 0 ≤ firstI ss b ∧ parI (bu ss) j = firstI ss b))
def csAt (ss : List Sess) (j : Nat) : List Value := match ss[j]? with
  | some s => s.cells
  | none => []
theorem csAt_at {ss : List Sess} {j : Nat} (h : j < ss.length) : csAt ss j = ss[j].cells := by unfold csAt; rw [List.getElem?_eq_getElem h]
/-- Those that hang below one, by places. -/
def kidsTo (ss : List Sess) (b : Int) (k : Nat) : List Nat := (List.range k).filter (ksel ss b)
theorem Sess.one (s : Sess) : ∀ u ∈ s.cells, u.oneCell' = true := by
  intro u hu
  simp only [Sess.cells, List.mem_cons, List.not_mem_nil, or_false] at hu
  rcases hu with rfl | rfl | rfl | rfl | rfl | rfl | rfl | rfl | rfl | rfl | rfl | rfl <;> rfl
theorem kidsTo_le (ss : List Sess) (b : Int) (k : Nat) : (kidsTo ss b k).length ≤ k := by
  have := List.length_filter_le (ksel ss b) (List.range k)
  unfold kidsTo; simpa using this
theorem kidsTo_yes {ss : List Sess} {b : Int} {k : Nat} (h : ksel ss b k = true) : kidsTo ss b (k + 1) = kidsTo ss b k ++ [k] := by unfold kidsTo; rw [List.range_succ, List.filter_append]; simp [h]
theorem kidsTo_no {ss : List Sess} {b : Int} {k : Nat} (h : ksel ss b k = false) : kidsTo ss b (k + 1) = kidsTo ss b k := by unfold kidsTo; rw [List.range_succ, List.filter_append]; simp [h]
def KdRel (ss : List Sess) (b : Int) (w : World) (d i : Value) (wr : World) : Prop :=
  ∃ k : Nat, k ≤ ss.length ∧ i = .int .i64 k ∧ wr.ownsRow w.heap.size 30 12 d (kidsTo ss b k).length ((kidsTo ss b k).flatMap (csAt ss)) ∧ Below w.heap.size w wr
theorem KdRel.yes {ss : List Sess} {b : Int} {w wr w1 : World} {d v' : Value} {k : Nat} {o : Obj} (h : k < ss.length) (hs : ksel ss b k = true) (hown : wr.ownsRow w.heap.size 30 12 d (kidsTo ss b k).length ((kidsTo ss b k).flatMap (csAt ss))) (hbl : Below w.heap.size w wr)
    (hown' : w1.ownsRow w.heap.size 30 12 v' ((kidsTo ss b k).length + 1) ((kidsTo ss b k).flatMap (csAt ss) ++ csAt ss k)) (hgrow : (wr.alloc o).grownBy w1 d.ownBlock) : KdRel ss b w v' (.int .i64 ((k + 1 : Nat) : Int)) w1 :=
  ⟨k + 1, by omega, rfl, by rw [kidsTo_yes hs, List.flatMap_append, List.length_append]; simpa using hown', Ut.below_app hbl hbl.size hown hgrow⟩
theorem KdRel.no {ss : List Sess} {b : Int} {w wr : World} {d : Value} {k : Nat} (h : k < ss.length) (hs : ksel ss b k = false) (hown : wr.ownsRow w.heap.size 30 12 d (kidsTo ss b k).length ((kidsTo ss b k).flatMap (csAt ss))) (hbl : Below w.heap.size w wr) : KdRel ss b w d (.int .i64 ((k + 1 : Nat) : Int)) wr :=
  ⟨k + 1, by omega, rfl, by rw [kidsTo_no hs]; exact hown, hbl⟩
theorem vinfo_sess : (Tryz.prog.info? 30).map (fun i => (i.zero, i.size, i.bytes)) = some (some (.agg #[.int .i64 0, .int .i64 0, .int .i64 0, .int .i64 0, .int .i64 0, .string ByteArray.empty, .string ByteArray.empty, .int .u64 0, .int .i64 0, .int .i64 0, .int .i64 0, .int .i64 0]), 12, 112) := by kernel_rfl

set_option maxRecDepth 100000 in
set_option maxHeartbeats 8000000 in
theorem rkids_any (v : Value) (ss : List Sess) (hl : ss.length ≤ 65536) (b : Int) (w : World) (h1 : SessArg w v ss) :
    Calls Tryz.prog 94 #[v, .int .i64 b] w fun e w' => (∃ d, e = .returned d ∧ w'.ownsRow w.heap.size 30 12 d (kidsTo ss b ss.length).length ((kidsTo ss b ss.length).flatMap (csAt ss))) ∧ Below w.heap.size w w' := by
  have HA := Lib.hid h1
  obtain ⟨p, cap, rfl, h2⟩ := h1
  have H := Lib.hid h2
  clear h2
  obtain ⟨i0, hi, hz0, hz1, hz2⟩ := info_parts vinfo_sess
  have hlI : (ss.length : Int) ≤ 9223372036854775807 := by omega
  have HF := Lib.hid (rfirst_any _ ss hlI b w HA.out)
  obtain ⟨F, hF⟩ : ∃ F, F = firstI ss b := ⟨_, rfl⟩
  rw [← hF] at HF
  have HFE := Lib.hid hF
  clear hF
  go_enter Tryz.func94, Tryz.ntmps94
  go_wp2_with fail
  refine HF.out.mono ?_
  rintro e w0 ⟨rfl, hb0⟩
  have HB0 := Lib.hid hb0
  clear hb0
  go_wp2
  go_loopw [6, 7, 8] (fun d i _ wr => KdRel ss b w d i wr) (fun _ i _ _ => ss.length - (intOf i).toNat)
  case atStart => exact ⟨0, Nat.zero_le _, rfl, World.ownsRow_nil _ _ _ _, HB0.out⟩
  case round =>
    obtain ⟨k, hk, rfl, hown, hbr⟩ := hrel
    have HO := Lib.hid hown; have HB := Lib.hid hbr
    clear hown hbr
    have b0 : (0 : Int) ≤ (k : Int) := by omega
    by_cases h : k < ss.length
    · have b1 : (k : Int) < (ss.length : Int) := by omega
      have HC := Lib.hid (rparent_any _ ss hlI k h wr (HA.out.below HB.out))
      have hkl := kidsTo_le ss b k
      have am1 : (kidsTo ss b k).length + 1 ≤ maxLen := by unfold maxLen; omega
      have am2 : ((kidsTo ss b k).length + 1) * 112 ≤ 140737488355328 := by omega
      have w1' : IntKind.i64.wrap ((k : Int) + 1) = ((k + 1 : Nat) : Int) := by rw [IntWalk.i64_in _ (by omega)]; rfl
      obtain ⟨g, o, rfl, hg, hc⟩ := H.out k h
      obtain ⟨Q, hQ⟩ : ∃ Q, Q = parI (bu ss) k := ⟨_, rfl⟩
      rw [← hQ] at HC
      have HQE := Lib.hid hQ
      clear hQ
      go_wp2_with fail
      refine HC.out.mono ?_
      rintro e w2 ⟨rfl, hb2⟩
      have HB2 : Hid (Below w.heap.size w w2) := HB.out.trans (hb2.mono HB.out.size)
      have HO2 := Lib.hid (vown_kept HO.out hb2)
      have hzw : w.heap.size ≤ w2.heap.size := HB2.out.size
      have HPY := Lib.hid (fun (d v' : Value) (w3 : World) (ob : Obj) (a1 : ksel ss b k = true) (a2 : w2.ownsRow w.heap.size 30 12 d (kidsTo ss b k).length ((kidsTo ss b k).flatMap (csAt ss))) (a3 : Below w.heap.size w w2) => KdRel.yes (ss := ss) (b := b) (w := w) (wr := w2) (w1 := w3) (v' := v') (d := d) (k := k) (o := ob) h a1 a2 a3)
      have HPN := Lib.hid (fun (d : Value) (a1 : ksel ss b k = false) (a2 : w2.ownsRow w.heap.size 30 12 d (kidsTo ss b k).length ((kidsTo ss b k).flatMap (csAt ss))) (a3 : Below w.heap.size w w2) => KdRel.no (ss := ss) (b := b) (w := w) (wr := w2) (d := d) (k := k) h a1 a2 a3)
      obtain ⟨cs, hcs⟩ : ∃ cs, cs = csAt ss k := ⟨_, rfl⟩
      have hrg : w2.rangeAt g (o + k * 12) cs := fun j u hu => (HB2.out.cell (p := ⟨g, o + k * 12 + j, none⟩) hg).trans (hc j u (by rw [hcs, csAt_at h] at hu; exact hu))
      have HCL : Hid (cs.length = 12) := by show _ = _; rw [hcs, csAt_at h]; rfl
      have HC1 : Hid (∀ u ∈ cs, u.oneCell' = true) := by show ∀ _, _; rw [hcs, csAt_at h]; exact ss[k].one
      rw [← hcs] at HPY
      have HRG := Lib.hid hrg
      clear hb2 hcs h hc hkl hk hrg
      by_cases hb : b = 0
      · have hbq : (b == 0) = true := by simp [hb]
        have hbn : (b != 0) = false := by simp [hb]
        have HBZ := Lib.hid hb; clear hb
        by_cases hq : Q < 0
        · have HS : Hid (ksel ss b k = true) := by show _ = _; unfold ksel; rw [← HQE.out, ← HFE.out]; exact decide_eq_true (.inl ⟨HBZ.out, hq⟩)
          go_wp2_with (first
            | (refine wpList_load_mid rfl 30 _ rfl _ _ rfl cs _ HRG.out Tryz.underlying30 rfl (by rw [HCL.out]; kernel_rfl) ?_)
            | (refine Ag.wpList_one (by rfl) 42 30 _ (by rfl) cs (by rfl) i0 _ Tryz.underlying42 hi hz0 (by rw [hz1]; exact HCL.out) (by rw [hz1]; decide) (by rw [hz1]; decide) ?_)
            | (at_builtin; refine wpList_append_own _ rfl _ _ 42 rfl w.heap.size 30 i0 (.agg #[.int .i64 0, .int .i64 0, .int .i64 0, .int .i64 0, .int .i64 0, .string ByteArray.empty, .string ByteArray.empty, .int .u64 0, .int .i64 0, .int .i64 0, .int .i64 0, .int .i64 0]) 12 112 Tryz.underlying42 hi hz0 hz1 hz2 rfl (by decide) _ _ _ rfl (HO2.out.alloc _) ⟨w2.heap.size, 0, none⟩ 1 1 cs rfl HCL.out (World.news_of_block (Ut.alloc_at _ _)) HC1.out am1 am2 (by simp; exact Nat.le_succ_of_le hzw) ?_; intro v' w3 hown' hgrow _))
          have HU := Lib.hid (HPY.out _ _ _ _ HS.out HO2.out HB2.out hown' hgrow)
          clear hown' hgrow
          go_wp2
          go_roundw
          case rel => exact HU.out
          case measure => simp [intOf]; omega
        · have HS : Hid (ksel ss b k = false) := by show _ = _; unfold ksel; rw [← HQE.out, ← HFE.out]; have hbz := HBZ.out; exact decide_eq_false (by omega)
          have hq2 : 0 ≤ Q := by omega
          have HU := Lib.hid (HPN.out _ HS.out HO2.out HB2.out)
          go_wp2
          go_roundw
          case rel => exact HU.out
          case measure => simp [intOf]; omega
      · have hbq : (b == 0) = false := by rw [beq_eq_false_iff_ne]; exact hb
        have hbn : (b != 0) = true := by simp [hb]
        have HBZ := Lib.hid hb; clear hb
        by_cases hp : F < 0
        · have HS : Hid (ksel ss b k = false) := by show _ = _; unfold ksel; rw [← HQE.out, ← HFE.out]; have hbz := HBZ.out; exact decide_eq_false (by omega)
          have HU := Lib.hid (HPN.out _ HS.out HO2.out HB2.out)
          go_wp2
          go_roundw
          case rel => exact HU.out
          case measure => simp [intOf]; omega
        · have hp2 : 0 ≤ F := by omega
          by_cases he : Q = F
          · have HS : Hid (ksel ss b k = true) := by show _ = _; unfold ksel; rw [← HQE.out, ← HFE.out]; exact decide_eq_true (.inr ⟨HBZ.out, hp2, he⟩)
            subst he
            have hqq : (Q == Q) = true := by simp
            go_wp2_with (first
              | (refine wpList_load_mid rfl 30 _ rfl _ _ rfl cs _ HRG.out Tryz.underlying30 rfl (by rw [HCL.out]; kernel_rfl) ?_)
              | (refine Ag.wpList_one (by rfl) 42 30 _ (by rfl) cs (by rfl) i0 _ Tryz.underlying42 hi hz0 (by rw [hz1]; exact HCL.out) (by rw [hz1]; decide) (by rw [hz1]; decide) ?_)
              | (at_builtin; refine wpList_append_own _ rfl _ _ 42 rfl w.heap.size 30 i0 (.agg #[.int .i64 0, .int .i64 0, .int .i64 0, .int .i64 0, .int .i64 0, .string ByteArray.empty, .string ByteArray.empty, .int .u64 0, .int .i64 0, .int .i64 0, .int .i64 0, .int .i64 0]) 12 112 Tryz.underlying42 hi hz0 hz1 hz2 rfl (by decide) _ _ _ rfl (HO2.out.alloc _) ⟨w2.heap.size, 0, none⟩ 1 1 cs rfl HCL.out (World.news_of_block (Ut.alloc_at _ _)) HC1.out am1 am2 (by simp; exact Nat.le_succ_of_le hzw) ?_; intro v' w3 hown' hgrow _))
            have HU := Lib.hid (HPY.out _ _ _ _ HS.out HO2.out HB2.out hown' hgrow)
            clear hown' hgrow
            go_wp2
            go_roundw
            case rel => exact HU.out
            case measure => simp [intOf]; omega
          · have HS : Hid (ksel ss b k = false) := by show _ = _; unfold ksel; rw [← HQE.out, ← HFE.out]; have hbz := HBZ.out; exact decide_eq_false (by omega)
            have hqq : (Q == F) = false := by rw [beq_eq_false_iff_ne]; exact he
            have HU := Lib.hid (HPN.out _ HS.out HO2.out HB2.out)
            go_wp2
            go_roundw
            case rel => exact HU.out
            case measure => simp [intOf]; omega
    · have b1 : (ss.length : Int) ≤ (k : Int) := by omega
      have e : k = ss.length := by omega
      have h3 := HO.out
      rw [e] at h3
      have HO3 := Lib.hid h3
      clear h h3
      go_wp2
      go_ret
      exact ⟨⟨_, rfl, HO3.out⟩, HB.out⟩
end Vw
end Go.Proofs.YtocoonkachbjaaaGreatDoor

/- One's block in the order, by places: as the document's Pre takes it. No program's code. -/
namespace Go.Proofs.YtocoonkachbjaaaGreatDoor
set_option linter.unusedVariables false
namespace Vt
theorem blk_at (p : Nat) : ∀ (o : List (Nat × Nat)) (i a : Nat) (x : Nat × Nat), o[i]? = some x → x.2 = p → (∀ j y, j < i → o[j]? = some y → y.2 ≠ p) → i < a → a ≤ o.length → (∀ j y, i < j → j < a → o[j]? = some y → x.1 < y.1) → (∀ y, o[a]? = some y → ¬ x.1 < y.1) →
    blk p o = (0, p) :: ((o.take a).drop (i + 1)).map (fun y => (y.1 - x.1, y.2))
  | [], i, a, x, h, _, _, _, _, _, _ => by simp at h
  | z :: r, 0, 0, x, h, e, hn, hia, ha, h1, h2 => by omega
  | z :: r, 0, a + 1, x, h, e, hn, hia, ha, h1, h2 => by
    have hz : z = x := by simpa using h
    subst hz
    obtain ⟨e1, e2⟩ := tw_at (fun y : Nat × Nat => decide (z.1 < y.1)) r a (by simpa using ha) (fun j y hj hy => decide_eq_true (h1 (j + 1) y (by omega) (by omega) (by simpa using hy))) (fun y hy => decide_eq_false (h2 y (by simpa using hy)))
    rw [blk, if_pos e, e1]
    simp
  | z :: r, i + 1, 0, x, h, e, hn, hia, ha, h1, h2 => by omega
  | z :: r, i + 1, a + 1, x, h, e, hn, hia, ha, h1, h2 => by
    have hz : z.2 ≠ p := hn 0 z (by omega) rfl
    have ih := blk_at p r i a x (by simpa using h) e (fun j y hj hy => hn (j + 1) y (by omega) (by simpa using hy)) (by omega) (by simpa using ha) (fun j y hj hj2 hy => h1 (j + 1) y (by omega) (by omega) (by simpa using hy)) (fun y hy => h2 y (by simpa using hy))
    rw [blk, if_neg hz, ih]
    simp
def blkTo (l : List (Int × Int)) (n p i a : Nat) : List (Nat × Nat) := (0, p) :: (((ordI l n).take a).drop (i + 1)).map fun y => (dep l y - dep l p, y)
theorem blkTo_len {l : List (Int × Int)} {n p i a : Nat} (ha : a ≤ n) (hia : i < a) : (blkTo l n p i a).length = a - i := by
  unfold blkTo
  rw [List.length_cons, List.length_map, List.length_drop, List.length_take, ordI_len]
  omega
theorem blkTo_one {l : List (Int × Int)} {n p i : Nat} : blkTo l n p i (i + 1) = [(0, p)] := by
  unfold blkTo
  rw [List.drop_of_length_le (by rw [List.length_take]; omega)]; rfl
theorem blkTo_succ {l : List (Int × Int)} {n p i a y : Nat} (hia : i < a) (hy : (ordI l n)[a]? = some y) : blkTo l n p i (a + 1) = blkTo l n p i a ++ [(dep l y - dep l p, y)] := by
  have hlt := (List.getElem?_eq_some_iff.1 hy).1
  unfold blkTo
  rw [List.take_succ_eq_append_getElem hlt, List.drop_append_of_le_length (by rw [List.length_take]; omega)]
  have e : (ordI l n)[a] = y := (List.getElem?_eq_some_iff.1 hy).2
  simp [e]
theorem blk_to {l : List (Int × Int)} {n p i a : Nat} (hi : (ordI l n)[i]? = some p) (hn : ∀ (j y : Nat), j < i → (ordI l n)[j]? = some y → y ≠ p) (hia : i < a) (ha : a ≤ n) (h1 : ∀ (j y : Nat), i < j → j < a → (ordI l n)[j]? = some y → dep l p < dep l y)
    (h2 : ∀ (y : Nat), (ordI l n)[a]? = some y → ¬ dep l p < dep l y) : blk p (ordL l n) = blkTo l n p i a := by
  have get : ∀ {j : Nat} {y : Nat × Nat}, (ordL l n)[j]? = some y → (ordI l n)[j]? = some y.2 := fun {j y} hy => by unfold ordI; rw [List.getElem?_map, hy]; rfl
  obtain ⟨x, hx, ex⟩ : ∃ x, (ordL l n)[i]? = some x ∧ x.2 = p := by
    unfold ordI at hi
    rw [List.getElem?_map] at hi
    exact Option.map_eq_some_iff.1 hi
  have dx := ord_dep l n x (List.mem_of_getElem? hx)
  have hh := blk_at p (ordL l n) i a x hx ex (fun j y hj hy => hn j y.2 hj (get hy)) hia (by rw [ord_len]; exact ha)
    (fun j y hj hj2 hy => by rw [dx, ex, ord_dep l n y (List.mem_of_getElem? hy)]; exact h1 j y.2 hj hj2 (get hy))
    (fun y hy => by rw [dx, ex, ord_dep l n y (List.mem_of_getElem? hy)]; exact h2 y.2 (get hy))
  rw [hh]
  unfold blkTo ordI
  rw [← List.map_take, ← List.map_drop, List.map_map, dx, ex]
  congr 1
  apply List.map_congr_left
  intro y hy
  have hm : y ∈ ordL l n := (List.take_sublist _ _).subset ((List.drop_sublist _ _).subset hy)
  simp [ord_dep l n y hm]
end Vt
end Go.Proofs.YtocoonkachbjaaaGreatDoor
