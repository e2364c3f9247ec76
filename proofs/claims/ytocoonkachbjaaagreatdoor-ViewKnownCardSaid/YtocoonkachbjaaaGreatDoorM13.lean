/- Several texts in one: what each proves its own first comment says. -/
import Derived.Test.YtocoonkachbjaaaGreatDoorM12
import Derived.Deep.RegionHeld3
import Derived.Deep.RegionLaw
import Derived.Test.YtocoonkachbjaaaGreatDoorM1
import Derived.OwnWalk
import Derived.RangeFuncWrites
import Derived.Test.YtocoonkachbjaaaGreatDoorM11
import Derived.Maps.OwnSet
import Derived.Maps.OwnOps

/- The document's Pre. -/
namespace Go.Proofs.YtocoonkachbjaaaGreatDoor
open Go.RowKit Go.Maps
set_option linter.unusedVariables false
namespace Vw
theorem own_new {w : World} {lo e size n : Nat} {cs : List Value} (hl : cs.length = n * size) (hlo : lo ≤ w.heap.size) (hn : n ≤ maxLen) : (w.alloc (.cells cs.toArray e)).ownsRow lo e size (.slice (some ⟨w.heap.size, 0, none⟩) n n) n cs :=
  ⟨hl, .inr ⟨w.heap.size, n, cs.toArray, rfl, hlo, Ut.alloc_at _ _, Nat.le_refl _, hn, by simp [hl], by rw [← hl]; simp⟩⟩
/-- What the document's Pre hands back: how far, which. -/
def preL (ss : List Sess) (b : Int) : List (Nat × Nat) := match firstL ss b with
  | none => []
  | some p => Vt.blk p (Vt.ordL (bu ss) ss.length)
def farV (l : List (Nat × Nat)) : List Value := l.map fun y => nv y.1
def outV (ss : List Sess) (l : List (Nat × Nat)) : List Value := l.flatMap fun y => csAt ss y.2
def PrRel (ss : List Sess) (p i1 lo : Nat) (w2 : World) (far out i : Value) (wr : World) : Prop :=
  ∃ a : Nat, i1 < a ∧ a ≤ ss.length ∧ i = .int .i64 a ∧ wr.ownsRow lo 3 1 far (a - i1) (farV (Vt.blkTo (bu ss) ss.length p i1 a)) ∧ wr.ownsRow lo 30 12 out (a - i1) (outV ss (Vt.blkTo (bu ss) ss.length p i1 a)) ∧
    (∀ x, far.ownBlock = some x → out.ownBlock ≠ some x) ∧ (∀ (z y : Nat), i1 < z → z < a → (Vt.ordI (bu ss) ss.length)[z]? = some y → Vt.dep (bu ss) p < Vt.dep (bu ss) y) ∧ Below lo w2 wr
theorem firstL_lt {ss : List Sess} {b : Int} {p : Nat} (h : firstL ss b = some p) : p < ss.length := by
  unfold firstL at h
  rw [List.findIdx?_eq_some_iff_getElem] at h
  exact h.1
theorem PrRel.start {ss : List Sess} {p i1 j : Nat} {w2 wr : World} (hj : j = i1) (hi : i1 < ss.length) (hb : Below w2.heap.size w2 wr) (hp : (csAt ss p).length = 12) :
    PrRel ss p i1 w2.heap.size w2 (.slice (some ⟨wr.heap.size, 0, none⟩) 1 1) (.slice (some ⟨wr.heap.size + 1, 0, none⟩) 1 1) (.int .i64 ((j + 1 : Nat) : Int)) ((wr.alloc (.cells #[.int .i64 0] 3)).alloc (.cells (csAt ss p).toArray 30)) := by
  have h1 : (wr.alloc (.cells [Value.int .i64 0].toArray 3)).ownsRow w2.heap.size 3 1 (.slice (some ⟨wr.heap.size, 0, none⟩) 1 1) 1 [.int .i64 0] := own_new rfl hb.size (by unfold maxLen; omega)
  have h2 := own_new (w := wr.alloc (.cells [Value.int .i64 0].toArray 3)) (lo := w2.heap.size) (e := 30) (size := 12) (n := 1) (cs := csAt ss p) (by rw [hp]) (by rw [World.size_alloc]; exact Nat.le_succ_of_le hb.size) (by unfold maxLen; omega)
  subst hj
  refine ⟨j + 1, by omega, by omega, rfl, ?_, ?_, ?_, fun z y h3 h4 => by omega, ?_⟩
  · rw [Vt.blkTo_one, show j + 1 - j = 1 by omega]
    exact Ut.own_below h1 ((Below.refl _ _).alloc (Nat.le_refl _) _)
  · rw [Vt.blkTo_one, show j + 1 - j = 1 by omega]
    rw [World.size_alloc] at h2
    have e : outV ss [(0, p)] = csAt ss p := by simp [outV]
    rw [e]; exact h2
  · intro x hx hy
    simp [Value.ownBlock] at hx hy
    omega
  · exact (hb.alloc hb.size _).alloc (by rw [World.size_alloc]; exact Nat.le_succ_of_le hb.size) _

theorem PrRel.step {ss : List Sess} {p i1 a y lo : Nat} {w2 wv w3 w4 : World} {fv fv' ov ov' : Value} {o1 o2 : Obj} (hlo : w2.heap.size = lo) (hia : i1 < a) (han : a < ss.length) (hy : (Vt.ordI (bu ss) ss.length)[a]? = some y)
    (hall : ∀ (z y : Nat), i1 < z → z < a → (Vt.ordI (bu ss) ss.length)[z]? = some y → Vt.dep (bu ss) p < Vt.dep (bu ss) y) (hd : Vt.dep (bu ss) p < Vt.dep (bu ss) y) (hbr : Below lo w2 wv)
    (hof : wv.ownsRow lo 3 1 fv (a - i1) (farV (Vt.blkTo (bu ss) ss.length p i1 a))) (hoo : wv.ownsRow lo 30 12 ov (a - i1) (outV ss (Vt.blkTo (bu ss) ss.length p i1 a))) (hap : ∀ x, fv.ownBlock = some x → ov.ownBlock ≠ some x)
    (hof1 : w3.ownsRow lo 3 1 fv' (a - i1 + 1) (farV (Vt.blkTo (bu ss) ss.length p i1 a) ++ [nv (Vt.dep (bu ss) y - Vt.dep (bu ss) p)])) (hg1 : (wv.alloc o1).grownBy w3 fv.ownBlock) (hat1 : fv'.ownBlock = fv.ownBlock ∨ fv'.ownBlock = some (wv.heap.size + 1))
    (hoo1 : w4.ownsRow lo 30 12 ov' (a - i1 + 1) (outV ss (Vt.blkTo (bu ss) ss.length p i1 a) ++ csAt ss y)) (hg2 : (w3.alloc o2).grownBy w4 ov.ownBlock) (hat2 : ov'.ownBlock = ov.ownBlock ∨ ov'.ownBlock = some (w3.heap.size + 1)) :
    PrRel ss p i1 lo w2 fv' ov' (.int .i64 ((a + 1 : Nat) : Int)) w4 := by
  have hs2 : lo ≤ wv.heap.size := by rw [← hlo]; exact hbr.size
  have hb3 := Ut.below_app hbr hs2 hof hg1
  have hs3 : lo ≤ w3.heap.size := by rw [← hlo]; exact hb3.size
  have hg1s : wv.heap.size + 1 ≤ w3.heap.size := by have := hg1.size; simpa using this
  have hoo3 : w3.ownsRow lo 30 12 ov (a - i1) (outV ss (Vt.blkTo (bu ss) ss.length p i1 a)) := own_grown (hoo.alloc o1) hg1 (fun b e e2 => hap b e2.symm e)
  have hb4 := Ut.below_app hb3 hs3 hoo3 hg2
  have hfo : ∀ x, fv'.ownBlock = some x → ov.ownBlock ≠ some x := fun x e e2 => by
    rcases hat1 with h | h
    · exact hap x (h ▸ e) e2
    · rw [h] at e
      have h1 := Option.some.inj e
      have h2 := (hoo.lt x e2).2
      omega
  have hsub : a + 1 - i1 = a - i1 + 1 := by omega
  refine ⟨a + 1, by omega, by omega, rfl, ?_, ?_, fun x e e2 => ?_, fun z y2 h1 h2 h3 => ?_, hb4⟩
  · rw [hsub, Vt.blkTo_succ hia hy]
    unfold farV at *
    rw [List.map_append]
    exact own_grown (hof1.alloc o2) hg2 (fun b e e2 => hfo b e e2.symm)
  · rw [hsub, Vt.blkTo_succ hia hy]
    unfold outV at *
    rw [List.flatMap_append]
    simpa using hoo1
  · rcases hat2 with h | h
    · exact hfo x e (h ▸ e2)
    · rw [h] at e2
      have h1 := Option.some.inj e2
      have h2 := (hof1.lt x e).2
      omega
  · rcases Nat.lt_or_ge z a with h4 | h4
    · exact hall z y2 h1 h4 h3
    · have e : z = a := by omega
      subst e
      rw [hy] at h3
      rw [← Option.some.inj h3]; exact hd

set_option maxRecDepth 100000 in
set_option maxHeartbeats 4000000 in
theorem rpre_any (v : Value) (ss : List Sess) (hl : ss.length ≤ 65536) (b : Int) (w : World) (h1 : SessArg w v ss) :
    Calls Tryz.prog 95 #[v, .int .i64 b] w fun e w' => (∃ df d, e = .returned (.tuple #[df, d]) ∧ w'.ownsRow w.heap.size 3 1 df (preL ss b).length (farV (preL ss b)) ∧ w'.ownsRow w.heap.size 30 12 d (preL ss b).length (outV ss (preL ss b))) ∧ Below w.heap.size w w' := by
  have HA := Lib.hid h1
  obtain ⟨p0, cap, rfl, h2⟩ := h1
  have H := Lib.hid h2
  clear h2
  obtain ⟨i0, hi, hz0, hz1, hz2⟩ := info_parts vinfo_int
  obtain ⟨i1_, hi_, hz0_, hz1_, hz2_⟩ := info_parts vinfo_sess
  have hlI : (ss.length : Int) ≤ 9223372036854775807 := by omega
  have HF := Lib.hid (rfirst_any _ ss hlI b w HA.out)
  obtain ⟨F, hF⟩ : ∃ F, F = firstI ss b := ⟨_, rfl⟩
  rw [← hF] at HF
  cases hf : firstL ss b with
  | none =>
    have e1 : F = -1 := by rw [hF]; unfold firstI; rw [hf]
    have e2 : preL ss b = [] := by unfold preL; rw [hf]
    have HE := Lib.hid e2
    subst e1
    clear hF e2 hf
    go_enter Tryz.func95, Tryz.ntmps95
    go_wp2_with fail
    refine HF.out.mono ?_
    rintro e w0 ⟨rfl, hb0⟩
    go_wp2
    go_ret2
    exact ⟨⟨_, _, rfl, by rw [HE.out]; exact World.ownsRow_nil _ _ _ _, by rw [HE.out]; exact World.ownsRow_nil _ _ _ _⟩, hb0⟩
  | some p =>
    have hpn := firstL_lt hf
    have e1 : F = (p : Int) := by rw [hF]; unfold firstI; rw [hf]
    have e2 : preL ss b = Vt.blk p (Vt.ordL (bu ss) ss.length) := by unfold preL; rw [hf]
    have HE := Lib.hid e2; have HPN := Lib.hid hpn
    subst e1
    clear hF e2 hf
    have HDP := Lib.hid (fun (w' : World) (hb : Below w.heap.size w w') => rdepths_any _ ss hl w' (HA.out.below hb))
    have HOR := Lib.hid (fun (w' : World) (hb : Below w.heap.size w w') => rorder_any _ ss hl w' (HA.out.below hb))
    have p1 : (0 : Int) ≤ (p : Int) := by omega
    have p2 : (p : Int) < (ss.length : Int) := by omega
    go_enter Tryz.func95, Tryz.ntmps95
    go_wp2_with fail
    refine HF.out.mono ?_
    rintro e w0 ⟨rfl, hb0⟩
    have HB0 := Lib.hid hb0
    clear hb0
    go_wp2_with fail
    refine (HDP.out _ HB0.out).mono ?_
    rintro e w1 ⟨⟨d, rfl, hd⟩, hb1⟩
    have HB1 := Lib.hid (HB0.out.trans (hb1.mono HB0.out.size))
    have HD1 := Lib.hid hd
    clear hb1 hd
    go_wp2_with fail
    refine (HOR.out _ HB1.out).mono ?_
    rintro e w2 ⟨⟨o, rfl, ho⟩, hb2⟩
    have HB2 := Lib.hid (HB1.out.trans (hb2.mono HB1.out.size))
    have hd2 := vown_kept HD1.out hb2
    obtain ⟨gd, cd, rfl, _, _, _, hd3, hdc⟩ := Ut.own_cells hd2 (by omega)
    obtain ⟨g, c', rfl, hg1, hg2, hgc⟩ := own_at ho (by omega)
    have HGC := Lib.hid hgc; have HGS := Lib.hid hg2
    have HDC : Hid (∀ j, j < ss.length → ∀ W, Below w2.heap.size w2 W → W.cell? ⟨gd, j, none⟩ = some (.int .i64 (Vt.dep (bu ss) j : Int))) := fun j hj W hW => by
      rw [hW.cell (p := ⟨gd, j, none⟩) hd3, hdc j hj]
      simp [hj, dv]
    obtain ⟨i1, hi1, hi2⟩ := first_at p (Vt.ordI (bu ss) ss.length) (by
      obtain ⟨j, hj⟩ := Vt.ordI_has (l := bu ss) hpn
      exact List.mem_of_getElem? hj)
    have hi3 : i1 < ss.length := by have := (List.getElem?_eq_some_iff.1 hi1).1; rwa [Vt.ordI_len] at this
    have HI1 := Lib.hid hi1; have HI2 := Lib.hid hi2; have HI3 := Lib.hid hi3
    clear hgc hg1 hg2 hd2 hd3 hdc hi1 hi2 hi3 hb2 ho hpn
    go_wp2
    go_loopw [9] (fun i wq => ∃ j : Nat, j ≤ i1 ∧ i = .int .i64 j ∧ Below w2.heap.size w2 wq) (fun i _ => i1 - (intOf i).toNat)
    case atStart => exact ⟨0, Nat.zero_le _, rfl, Below.refl _ _⟩
    case round =>
      obtain ⟨j, hj, rfl, hbq⟩ := hrel
      obtain ⟨x, hx⟩ : ∃ x, (Vt.ordI (bu ss) ss.length)[j]? = some x := by
        have h1 := HI3.out
        exact ⟨_, List.getElem?_eq_getElem (by rw [Vt.ordI_len]; omega)⟩
      have c1 : wr.cell? ⟨g, j, none⟩ = some (.int .i64 (x : Int)) := (hbq.cell (p := ⟨g, j, none⟩) HGS.out).trans (HGC.out j x hx)
      have j0 : (0 : Int) ≤ (j : Int) := by omega
      have j1 : (j : Int) < (ss.length : Int) := by have := HI3.out; omega
      have w2' : IntKind.i64.wrap ((j : Int) + 1) = ((j + 1 : Nat) : Int) := by rw [IntWalk.i64_in _ (by omega)]; rfl
      by_cases e : j = i1
      · have hx2 : x = p := by
          rw [e, HI1.out] at hx
          exact (Option.some.inj hx).symm
        have hn : ((x : Int) != (p : Int)) = false := by simp [hx2]
        have HEI := Lib.hid e; have HBQ := Lib.hid hbq
        clear hx hx2 e hj hbq
        obtain ⟨wq, rfl⟩ : ∃ wq : World, wq = wr := ⟨_, rfl⟩
        obtain ⟨ga, oa, rfl, hga, hca⟩ := H.out p HPN.out
        obtain ⟨cs, hcs⟩ : ∃ cs, cs = csAt ss p := ⟨_, rfl⟩
        have HCL : Hid (cs.length = 12) := by show _ = _; rw [hcs, csAt_at HPN.out]; rfl
        have HRG : Hid (∀ W, Below w.heap.size w W → W.rangeAt ga (oa + p * 12) cs) := fun W hW j u hu => (hW.cell (p := ⟨ga, oa + p * 12 + j, none⟩) hga).trans (hca j u (by rw [hcs, csAt_at HPN.out] at hu; exact hu))
        have HRQ := Lib.hid (World.rangeAt_alloc (HRG.out _ (HB2.out.trans (HBQ.out.mono HB2.out.size))) (.cells #[.int .i64 0] 3))
        have HST := Lib.hid (PrRel.start (ss := ss) (p := p) (i1 := i1) HEI.out HI3.out HBQ.out (by rw [← hcs]; exact HCL.out))
        rw [← hcs] at HST
        have HRY : Hid (∀ y, y < ss.length → ∀ W, Below w.heap.size w W → W.rangeAt ga (oa + y * 12) (csAt ss y)) := fun y hy W hW j u hu => by
          obtain ⟨g2, o2, e2, hg2, hc2⟩ := H.out y hy
          cases e2
          exact (hW.cell (p := ⟨ga, oa + y * 12 + j, none⟩) hg2).trans (hc2 j u (by rw [csAt_at hy] at hu; exact hu))
        clear hcs hca
        go_wp2_with (first
          | (refine wpList_load_mid rfl 30 _ rfl _ _ rfl cs _ HRQ.out Tryz.underlying30 rfl (by rw [HCL.out]; kernel_rfl) ?_)
          | (refine Ag.wpList_one (by rfl) 42 30 _ (by rfl) cs (by rfl) i1_ _ Tryz.underlying42 hi_ hz0_ (by rw [hz1_]; exact HCL.out) (by rw [hz1_]; decide) (by rw [hz1_]; decide) ?_))
        go_loopw [10, 11, 12] (fun f o i wr => PrRel ss p i1 w2.heap.size w2 f o i wr) (fun _ _ i _ => ss.length - (intOf i).toNat)
        case atStart =>
          exact HST.out
        case round =>
          obtain ⟨a, ha1, ha2, rfl, hof, hoo, hap, hall, hbr⟩ := hrel
          obtain ⟨qf, cf, rfl, hcf⟩ := own_any_shape hof
          obtain ⟨qo, co, rfl, hco⟩ := own_any_shape hoo
          have HOF := Lib.hid hof; have HOO := Lib.hid hoo; have HAP := Lib.hid hap; have HALL := Lib.hid hall; have HBR := Lib.hid hbr; have HA1 := Lib.hid ha1; have HA2 := Lib.hid ha2
          have a0 : (0 : Int) ≤ (a : Int) := by omega
          have w3' : IntKind.i64.wrap ((a : Int) + 1) = ((a + 1 : Nat) : Int) := by rw [IntWalk.i64_in _ (by omega)]; rfl
          clear hof hoo hap hall hbr
          by_cases hak : a < ss.length
          · have ak1 : (a : Int) < (ss.length : Int) := by omega
            obtain ⟨y, hy⟩ : ∃ y, (Vt.ordI (bu ss) ss.length)[a]? = some y := ⟨_, List.getElem?_eq_getElem (by rw [Vt.ordI_len]; omega)⟩
            have hyk : y < ss.length := Vt.ordI_lt hy
            have d1 : wr.cell? ⟨g, a, none⟩ = some (.int .i64 (y : Int)) := (HBR.out.cell (p := ⟨g, a, none⟩) HGS.out).trans (HGC.out a y hy)
            have d2 : wr.cell? ⟨gd, y, none⟩ = some (.int .i64 (Vt.dep (bu ss) y : Int)) := HDC.out y (by omega) wr HBR.out
            have d3 : wr.cell? ⟨gd, p, none⟩ = some (.int .i64 (Vt.dep (bu ss) p : Int)) := HDC.out p HPN.out wr HBR.out
            have y0 : (0 : Int) ≤ (y : Int) := by omega
            have y1 : (y : Int) < (ss.length : Int) := by omega
            have hdl := dep_le (bu ss) y
            obtain ⟨X, hX⟩ : ∃ X, X = Vt.dep (bu ss) y := ⟨_, rfl⟩
            obtain ⟨Y, hY⟩ : ∃ Y, Y = Vt.dep (bu ss) p := ⟨_, rfl⟩
            rw [← hX] at d2 hdl; rw [← hY] at d3
            have HY := Lib.hid hy; have HXX := Lib.hid hX; have HYY := Lib.hid hY; have HAK := Lib.hid hak; have HYK := Lib.hid hyk
            clear hy hX hY
            by_cases hd : Y < X
            · have hdi : (Y : Int) < (X : Int) := by omega
              have w4' : IntKind.i64.wrap ((X : Int) - (Y : Int)) = ((X - Y : Nat) : Int) := by rw [IntWalk.i64_in _ (by omega)]; omega
              obtain ⟨cy, hcy⟩ : ∃ cy, cy = csAt ss y := ⟨_, rfl⟩
              have HCY : Hid (cy.length = 12) := by show _ = _; rw [hcy, csAt_at HYK.out]; rfl
              have HC1 : Hid (∀ u ∈ cy, u.oneCell' = true) := by show ∀ _, _; rw [hcy, csAt_at HYK.out]; exact ss[y].one
              have HD := Lib.hid hd
              clear hd hyk hak ha1 ha2
              go_wp2
              go_quiet (fail)
              go_wp2
              obtain ⟨wv, hwv⟩ : ∃ wv, wv = wr.drewN nq := ⟨_, rfl⟩
              rw [← hwv]
              have hbv : Below wr.heap.size wr wv := by rw [hwv]; exact Ut.below_drewN (Below.refl _ _) nq
              have HBV : Hid (Below w2.heap.size w2 wv) := HBR.out.trans (hbv.mono HBR.out.size)
              have e1 : wv.cell? ⟨g, a, none⟩ = some (.int .i64 (y : Int)) := by rw [hwv]; exact d1
              have e2 : wv.cell? ⟨gd, y, none⟩ = some (.int .i64 (X : Int)) := by rw [hwv]; exact d2
              have e3 : wv.cell? ⟨gd, p, none⟩ = some (.int .i64 (Y : Int)) := by rw [hwv]; exact d3
              have HFV := Lib.hid (vown_kept HOF.out hbv)
              have HOV := Lib.hid (vown_kept HOO.out hbv)
              have HHV := Lib.hid hbv.size
              have hzw : w2.heap.size ≤ wv.heap.size := HBV.out.size
              have am1 : a - i1 + 1 ≤ maxLen := by have := HAK.out; unfold maxLen; omega
              have am2 : (a - i1 + 1) * 8 ≤ 140737488355328 := by have := HAK.out; omega
              have am3 : (a - i1 + 1) * 112 ≤ 140737488355328 := by have := HAK.out; omega
              have HF2 := Lib.hid (HFV.out.drew)
              have HE1 := Lib.hid e1
              have hyb : wv.cell? ⟨g, a, none⟩ = some (.int .i64 (y : Int)) := e1
              clear hbv d1 d2 d3 hwv hyb
              go_region_held3 (fun w' => w'.cell? ⟨g, a, none⟩ = some (.int .i64 (y : Int)) ∧ w'.cell? ⟨gd, y, none⟩ = some (.int .i64 (X : Int)) ∧ w'.cell? ⟨gd, p, none⟩ = some (.int .i64 (Y : Int))) (go_keep)
                ((refine step_append_lies _ (by rfl) (.tmp 58) (.tmp 71) 82 (by rfl) w2.heap.size 3 i0 (.int .i64 0) 1 8 Tryz.underlying82 hi hz0 hz1 hz2 rfl (by decide) _ _ _ (by rfl) (HF2.out.alloc _) ⟨wv.heap.size, 0, none⟩ 1 1 [nv (X - Y)] (by rfl) (by rfl) (cell_one_new _ _ _) (by intro u hu; simp at hu; subst hu; rfl) Nat.one_pos am1 am2 (by simp; exact Nat.le_succ_of_le hzw) (wv.heap.size + 1) (by simp) ?_; intro g3 cap3 w3 hown3 hgrow3 hat3 hlt3; have HB3 := Lib.hid (Ut.below_app (Below.drew HBV.out) hzw HF2.out hgrow3); have m1 := (HB3.out.cell (p := ⟨g, a, none⟩) HGS.out).trans (HGC.out a y HY.out); have m2 := HDC.out y HYK.out w3 HB3.out; rw [← HXX.out] at m2; have m3 := HDC.out p HPN.out w3 HB3.out; rw [← HYY.out] at m3))
              have n1 := (HB3.out.cell (p := ⟨g, a, none⟩) HGS.out).trans (HGC.out a y HY.out)
              have HRW := Lib.hid (HRY.out y HYK.out w3 (HB2.out.trans (HB3.out.mono HB2.out.size)))
              rw [← hcy] at HRW
              have HO3 : Hid (w3.ownsRow w2.heap.size 30 12 (.slice qo (a - i1) co) (a - i1) (outV ss (Vt.blkTo (bu ss) ss.length p i1 a))) := own_grown ((HOV.out.drew).alloc _) hgrow3 (fun b e e2 => HAP.out b e2.symm e)
              have hz3 : w2.heap.size ≤ w3.heap.size := HB3.out.size
              have HST2 := Lib.hid (fun (ov' : Value) (w4 : World) (o2 : Obj) h1 h2 h3 => PrRel.step (ss := ss) (p := p) (i1 := i1) (a := a) (y := y) (lo := w2.heap.size) (w2 := w2) (wv := wv.drew) (w3 := w3) (w4 := w4) (ov' := ov') (o2 := o2) rfl HA1.out HAK.out HY.out HALL.out (by rw [← HXX.out, ← HYY.out]; exact HD.out) (Below.drew HBV.out) HF2.out (HOV.out.drew) HAP.out (by rw [← HXX.out, ← HYY.out]; exact hown3) hgrow3 (by
                rcases hat3 with h | h
                · exact .inl h.symm
                · exact .inr (by rw [h]; rfl)) h1 h2 h3)
              rw [← hcy] at HST2
              clear hown3 hgrow3 hat3 hcy
              go_wp2_with (first
                | (refine wpList_load_mid rfl 30 _ rfl _ _ rfl cy _ HRW.out Tryz.underlying30 rfl (by rw [HCY.out]; kernel_rfl) ?_)
                | (refine Ag.wpList_one (by rfl) 42 30 _ (by rfl) cy (by rfl) i1_ _ Tryz.underlying42 hi_ hz0_ (by rw [hz1_]; exact HCY.out) (by rw [hz1_]; decide) (by rw [hz1_]; decide) ?_)
                | (at_builtin; refine wpList_append_own_at _ rfl (.tmp 73) (.tmp 81) 42 rfl w2.heap.size 30 i1_ _ 12 112 Tryz.underlying42 hi_ hz0_ hz1_ hz2_ rfl (by decide) _ _ _ rfl (HO3.out.alloc _) ⟨w3.heap.size, 0, none⟩ 1 1 cy rfl HCY.out (World.news_of_block (Ut.alloc_at _ _)) HC1.out am1 am3 (by simp; exact Nat.le_succ_of_le hz3) ?_; intro v4 w4 hown4 hgrow4 _ hat4))
              have HU := Lib.hid (HST2.out _ _ _ hown4 hgrow4 (hat4.imp id (fun h => by rw [h, World.size_alloc])))
              clear hown4 hgrow4 hat4
              go_wp2
              go_roundw
              case rel => exact HU.out
              case measure => have := HAK.out; simp [intOf]; omega
            · have hdi : (X : Int) ≤ (Y : Int) := by omega
              have hfin := Vt.blk_to HI1.out HI2.out HA1.out HA2.out HALL.out (fun y2 h3 => by rw [HY.out] at h3; rw [← Option.some.inj h3, ← HXX.out, ← HYY.out]; exact hd)
              have HFIN := Lib.hid hfin
              clear hfin hd hak hyk ha1 ha2
              have HL : Hid ((preL ss b).length = a - i1) := by show _ = _; rw [HE.out, HFIN.out]; exact Vt.blkTo_len HA2.out HA1.out
              go_wp2
              go_quiet (fail)
              go_wp2
              go_ret2
              have HB9 := HB2.out.trans ((Ut.below_drewN HBR.out nq).mono HB2.out.size)
              exact ⟨⟨_, _, rfl, by rw [HL.out, HE.out, HFIN.out]; exact Ut.own_base (vown_kept HOF.out (Ut.below_drewN (Below.refl _ _) nq)) HB2.out.size, by rw [HL.out, HE.out, HFIN.out]; exact Ut.own_base (vown_kept HOO.out (Ut.below_drewN (Below.refl _ _) nq)) HB2.out.size⟩, HB9⟩
          · have hdf : decide (a < ss.length) = false := by rw [decide_eq_false_iff_not]; exact hak
            have hfin := Vt.blk_to HI1.out HI2.out HA1.out HA2.out HALL.out (fun y2 h3 => by
              rw [List.getElem?_eq_none (by rw [Vt.ordI_len]; omega)] at h3; cases h3)
            have HFIN := Lib.hid hfin
            clear hfin hak ha1 ha2
            have HL : Hid ((preL ss b).length = a - i1) := by show _ = _; rw [HE.out, HFIN.out]; exact Vt.blkTo_len HA2.out HA1.out
            go_wp2
            go_quiet (fail)
            go_wp2
            go_ret2
            have HB9 := HB2.out.trans ((Ut.below_drewN HBR.out nq).mono HB2.out.size)
            exact ⟨⟨_, _, rfl, by rw [HL.out, HE.out, HFIN.out]; exact Ut.own_base (vown_kept HOF.out (Ut.below_drewN (Below.refl _ _) nq)) HB2.out.size, by rw [HL.out, HE.out, HFIN.out]; exact Ut.own_base (vown_kept HOO.out (Ut.below_drewN (Below.refl _ _) nq)) HB2.out.size⟩, HB9⟩
      · have hx2 := HI2.out j x (by omega) hx
        have hn : ((x : Int) != (p : Int)) = true := by rw [bne_iff_ne]; omega
        have HE : Hid (j < i1) := by show _ < _; omega
        clear hx hx2 e
        go_wp2
        go_roundw
        case rel => have := HE.out; exact ⟨j + 1, by omega, rfl, hbq⟩
        case measure => have := HE.out; simp [intOf]; omega
end Vw
end Go.Proofs.YtocoonkachbjaaaGreatDoor

/- What a call has written: blocks of a footprint alone. No program's code. -/
namespace Go.Proofs.YtocoonkachbjaaaGreatDoor
open Go.RowKit
set_option linter.unusedVariables false

/-- Of what was there nothing has turned but blocks of F. -/
structure Only (F : Nat → Prop) (w w' : World) : Prop where
  os : w'.os = w.os
  tape : w'.tape = w.tape
  output : w'.output = w.output
  size : w.heap.size ≤ w'.heap.size
  block : ∀ k, k < w.heap.size → ¬ F k → w'.heap[k]? = w.heap[k]?

theorem Only.refl (F : Nat → Prop) (w : World) : Only F w w := ⟨rfl, rfl, rfl, Nat.le_refl _, fun _ _ _ => rfl⟩
theorem Only.trans {F G : Nat → Prop} {a b c : World} (h : Only F a b) (k : Only G b c) (hG : ∀ i, i < a.heap.size → G i → F i) : Only F a c :=
  ⟨k.os.trans h.os, k.tape.trans h.tape, k.output.trans h.output, Nat.le_trans h.size k.size, fun i hi hF => (k.block i (Nat.lt_of_lt_of_le hi h.size) (fun hg => hF (hG i hi hg))).trans (h.block i hi hF)⟩
theorem Only.mono {F G : Nat → Prop} {w w' : World} (h : Only F w w') (hF : ∀ i, i < w.heap.size → F i → G i) : Only G w w' :=
  ⟨h.os, h.tape, h.output, h.size, fun i hi hg => h.block i hi (fun hf => hg (hF i hi hf))⟩
theorem Only.drew {F : Nat → Prop} {a w : World} (h : Only F a w) : Only F a w.drew := ⟨h.os, h.tape, h.output, h.size, h.block⟩
theorem Only.alloc {F : Nat → Prop} {a w : World} (h : Only F a w) (o : Obj) : Only F a (w.alloc o) :=
  ⟨h.os, h.tape, h.output, by simp; exact Nat.le_succ_of_le h.size, fun i hi hF => (Below.heap_alloc _ _ _ (Nat.lt_of_lt_of_le hi h.size)).trans (h.block i hi hF)⟩
theorem Only.setCell {F : Nat → Prop} {a w : World} (h : Only F a w) {p : Addr} (hp : p.block < a.heap.size → F p.block) (u : Value) : Only F a (w.setCell p u) :=
  ⟨h.os, h.tape, h.output, by simp [World.setCell]; exact h.size, fun i hi hF => (Below.heap_setCell _ _ _ _ (fun e => hF (by subst e; exact hp hi))).trans (h.block i hi hF)⟩
theorem Only.of_below {F : Nat → Prop} {w w' : World} (h : Below w.heap.size w w') : Only F w w' := ⟨h.os, h.tape, h.output, h.size, fun i hi _ => h.block i hi⟩
theorem Only.below {F : Nat → Prop} {w w' : World} (h : Only F w w') {B : Nat} (hB : B ≤ w.heap.size) (hF : ∀ i, i < B → ¬ F i) : Below B w w' :=
  ⟨h.os, h.tape, h.output, h.size, fun i hi => h.block i (Nat.lt_of_lt_of_le hi hB) (hF i hi)⟩
theorem Only.grown {F : Nat → Prop} {a w w' : World} {row : Option Nat} (h : Only F a w) (hg : w.grownBy w' row) (hr : ∀ k, k < a.heap.size → row = some k → F k) : Only F a w' :=
  ⟨hg.os.trans h.os, hg.tape.trans h.tape, hg.output.trans h.output, Nat.le_trans h.size hg.size, fun i hi hF => (hg.block i (Nat.lt_of_lt_of_le hi h.size) (fun e => hF (hr i hi e.symm))).trans (h.block i hi hF)⟩
theorem Only.row {F : Nat → Prop} {w w' : World} (h : Only F w w') {base e size n : Nat} {v : Value} {xs : List Value} (ho : w.ownsRow base e size v n xs) (hF : ∀ k, v.ownBlock = some k → ¬ F k) : w'.ownsRow base e size v n xs := by
  refine ⟨ho.1, ?_⟩
  rcases ho.2 with h2 | ⟨g, cap, cur, h1, h2, h3, h4⟩
  · exact .inl h2
  · exact .inr ⟨g, cap, cur, h1, h2, (h.block g (Array.getElem?_eq_some_iff.1 h3).1 (hF g (by rw [h1]; rfl))).trans h3, h4⟩
theorem Only.cell {F : Nat → Prop} {w w' : World} (h : Only F w w') {p : Addr} (hp : p.block < w.heap.size) (hF : ¬ F p.block) : w'.cell? p = w.cell? p := World.cell?_of_block (w := w) (h.block p.block hp hF)

end Go.Proofs.YtocoonkachbjaaaGreatDoor

/- Blocks of the call's own that lie where they lay. No program's code. -/
namespace Go.Proofs.YtocoonkachbjaaaGreatDoor
open Go.RowKit
set_option linter.unusedVariables false

/-- Blocks and what lies in them. -/
def Lies (Bx : List (Nat × Obj)) (W : World) : Prop := ∀ p ∈ Bx, W.heap[p.1]? = some p.2
theorem Lies.nil (W : World) : Lies [] W := fun p h => by cases h
theorem Lies.head {k : Nat} {o : Obj} {Bx : List (Nat × Obj)} {W : World} (h : Lies ((k, o) :: Bx) W) : W.heap[k]? = some o := h _ List.mem_cons_self
theorem Lies.tail {p : Nat × Obj} {Bx : List (Nat × Obj)} {W : World} (h : Lies (p :: Bx) W) : Lies Bx W := fun q hq => h q (List.mem_cons_of_mem _ hq)
theorem Lies.cons {k : Nat} {o : Obj} {Bx : List (Nat × Obj)} {W : World} (h1 : W.heap[k]? = some o) (h : Lies Bx W) : Lies ((k, o) :: Bx) W := fun q hq => by
  rcases List.mem_cons.1 hq with rfl | hq
  · exact h1
  · exact h q hq
theorem Lies.lt {Bx : List (Nat × Obj)} {W : World} (h : Lies Bx W) {p : Nat × Obj} (hp : p ∈ Bx) : p.1 < W.heap.size := (Array.getElem?_eq_some_iff.1 (h p hp)).1
theorem Lies.only {G : Nat → Prop} {Bx : List (Nat × Obj)} {W W' : World} (h : Lies Bx W) (ho : Only G W W') (hG : ∀ p ∈ Bx, ¬ G p.1) : Lies Bx W' := fun p hp => (ho.block p.1 (h.lt hp) (hG p hp)).trans (h p hp)
theorem Lies.below {Bx : List (Nat × Obj)} {W W' : World} (h : Lies Bx W) (hb : Below W.heap.size W W') : Lies Bx W' := fun p hp => (hb.block p.1 (h.lt hp)).trans (h p hp)
theorem Lies.alloc {Bx : List (Nat × Obj)} {W : World} (h : Lies Bx W) (o : Obj) : Lies ((W.heap.size, o) :: Bx) (W.alloc o) := Lies.cons (Ut.alloc_at _ _) (h.below ((Below.refl _ _).alloc (Nat.le_refl _) _))
/-- A store into one of them. -/
theorem Lies.set {k : Nat} {cs : Array Value} {t : TypeId} {Bx : List (Nat × Obj)} {W : World} (h : Lies ((k, .cells cs t (0, 0)) :: Bx) W) (hk : ∀ p ∈ Bx, p.1 ≠ k) (j : Nat) (v : Value) : Lies ((k, .cells (cs.setIfInBounds j v) t (0, 0)) :: Bx) (W.setCell ⟨k, j, none⟩ v) := by
  refine Lies.cons ?_ (fun p hp => (Below.heap_setCell _ _ _ _ (hk p hp)).trans (h.tail p hp))
  rw [heap_setCell_same W k j _ _ v h.head]
theorem block_cell {W : World} {b : Nat} {cs : Array Value} {t : TypeId} (h : W.heap[b]? = some (.cells cs t (0, 0))) (j : Nat) : W.cell? ⟨b, j, none⟩ = cs[j]? := cell_of_row _ _ _ _ _ _ h
theorem block_free {W : World} {b : Nat} {cs : Array Value} {t : TypeId} (h : W.heap[b]? = some (.cells cs t (0, 0))) (j : Nat) : W.frozen? ⟨b, j, none⟩ = false := by unfold World.frozen?; rw [h]; rfl

/-- 32 cells that are told by their place. -/
def arr (n : Nat) (f : Nat → Value) : Array Value := ((List.range n).map f).toArray
theorem arr_at {n : Nat} {f : Nat → Value} {j : Nat} (h : j < n) : (arr n f)[j]? = some (f j) := by simp [arr, h]
theorem arr_set {n : Nat} {f : Nat → Value} {j : Nat} (v : Value) : (arr n f).setIfInBounds j v = arr n (fun i => if i = j then v else f i) := by
  apply Array.ext_getElem?
  intro i
  unfold arr
  rw [Array.getElem?_setIfInBounds]
  by_cases hi : i < n
  · by_cases e : j = i
    · subst e; simp [hi]
    · have e2 : ¬ i = j := fun h => e h.symm
      simp [hi, e, e2]
  · by_cases e : j = i
    · subst e; simp [hi]
    · simp [hi, e]

end Go.Proofs.YtocoonkachbjaaaGreatDoor

/- The program's forest while it grows: rows of children, the map of births. -/
namespace Go.Proofs.YtocoonkachbjaaaGreatDoor
open Go.RowKit Go.Maps
set_option linter.unusedVariables false
namespace Vw

theorem own_keep {w w' : World} {base e size n : Nat} {v : Value} {xs : List Value} (h : w.ownsRow base e size v n xs) (hk : ∀ b, v.ownBlock = some b → w'.heap[b]? = w.heap[b]?) : w'.ownsRow base e size v n xs := by
  refine ⟨h.1, ?_⟩
  rcases h.2 with h2 | ⟨g, cap, cur, rfl, h2, h3, h4⟩
  · exact .inl h2
  · exact .inr ⟨g, cap, cur, rfl, h2, (hk g rfl).trans h3, h4⟩

/-- Rows of numbers: an outer block, a block of its own for each row. -/
structure RowsAt (L g m : Nat) (f : Nat → List Nat) (vs : Nat → Value) (w : World) : Prop where
  top : w.heap[g]? = some (.cells (arr m vs) 82 (0, 0))
  row : ∀ j, j < m → w.ownsRow L 3 1 (vs j) (f j).length ((f j).map nv)
  apart : ∀ i j b, i < m → j < m → i ≠ j → (vs i).ownBlock = some b → (vs j).ownBlock ≠ some b
theorem RowsAt.keep {L g m : Nat} {f : Nat → List Nat} {vs : Nat → Value} {w w' : World} (h : RowsAt L g m f vs w) (hg : w'.heap[g]? = w.heap[g]?) (hL : ∀ b, L ≤ b → b < w.heap.size → w'.heap[b]? = w.heap[b]?) : RowsAt L g m f vs w' :=
  ⟨hg.trans h.top, fun j hj => own_keep (h.row j hj) (fun b e => hL b ((h.row j hj).lt b e).1 ((h.row j hj).lt b e).2), h.apart⟩
theorem RowsAt.below {L g m : Nat} {f : Nat → List Nat} {vs : Nat → Value} {w w' : World} (h : RowsAt L g m f vs w) (hb : Below w.heap.size w w') : RowsAt L g m f vs w' :=
  h.keep (hb.block g (Array.getElem?_eq_some_iff.1 h.top).1) (fun b _ hlt => hb.block b hlt)
def upd (f : Nat → List Nat) (r n : Nat) : Nat → List Nat := fun j => if j = r then f j ++ [n] else f j
theorem RowsAt.app {L g m r n : Nat} {f : Nat → List Nat} {vs : Nat → Value} {w w3 : World} {o : Obj} {v' : Value} (h : RowsAt L g m f vs w) (hgL : g < L) (hr : r < m) (hown : w3.ownsRow L 3 1 v' ((f r).length + 1) ((f r).map nv ++ [nv n])) (hgrow : (w.alloc o).grownBy w3 (vs r).ownBlock)
    (hat : v'.ownBlock = (vs r).ownBlock ∨ v'.ownBlock = some (w.heap.size + 1)) : RowsAt L g m (upd f r n) (fun i => if i = r then v' else vs i) (w3.setCell ⟨g, r, none⟩ v') := by
  have hrow := h.row r hr
  have hgl := (Array.getElem?_eq_some_iff.1 h.top).1
  have hsz : w.heap.size + 1 ≤ w3.heap.size := by have := hgrow.size; simpa using this
  have ht3 : w3.heap[g]? = some (.cells (arr m vs) 82 (0, 0)) := by
    rw [hgrow.block g (by simp; omega) (fun e => by have := (hrow.lt g e.symm).1; omega)]
    exact (Below.heap_alloc _ _ _ hgl).trans h.top
  refine ⟨?_, fun j hj => ?_, fun i j b hi hj hij e1 e2 => ?_⟩
  · rw [heap_setCell_same w3 g r _ _ v' ht3, arr_set]
  · by_cases e : j = r
    · subst e
      have e2 : (upd f j n j) = f j ++ [n] := by unfold upd; rw [if_pos rfl]
      rw [e2, if_pos rfl, List.length_append, List.map_append]
      exact own_keep hown (fun b e3 => Below.heap_setCell _ _ _ _ (fun e4 => by have := (hown.lt b e3).1; simp only at e4; omega))
    · have e2 : (upd f r n j) = f j := by unfold upd; rw [if_neg e]
      rw [e2, if_neg e]
      have h0 := h.row j hj
      refine own_keep h0 (fun b e3 => ?_)
      have hb := h0.lt b e3
      rw [Below.heap_setCell _ _ _ _ (fun e4 => by simp only at e4; omega), hgrow.block b (by simp; omega) (fun e4 => h.apart j r b hj hr e e3 e4.symm), Below.heap_alloc _ _ _ hb.2]
  · have key : ∀ i, i < m → i ≠ r → ∀ b, v'.ownBlock = some b → (vs i).ownBlock ≠ some b := fun i hi hir b e3 e4 => by
      rcases hat with h1 | h1
      · exact h.apart i r b hi hr hir e4 (h1 ▸ e3)
      · rw [h1] at e3
        have h2 := Option.some.inj e3
        have h3 := ((h.row i hi).lt b e4).2
        omega
    by_cases ei : i = r
    · rw [if_pos ei] at e1
      by_cases ej : j = r
      · exact hij (ei.trans ej.symm)
      · rw [if_neg ej] at e2
        exact key j hj ej b e1 e2
    · rw [if_neg ei] at e1
      by_cases ej : j = r
      · rw [if_pos ej] at e2
        exact key i hi ei b e2 e1
      · rw [if_neg ej] at e2
        exact h.apart i j b hi hj hij e1 e2
theorem RowsAt.ext {L g m : Nat} {f f' : Nat → List Nat} {vs : Nat → Value} {w : World} (h : RowsAt L g m f vs w) (he : ∀ j, j < m → f' j = f j) : RowsAt L g m f' vs w :=
  ⟨h.top, fun j hj => by rw [he j hj]; exact h.row j hj, h.apart⟩

abbrev lk (s : Int) : Lit := .int .i64 s
theorem isKey (s : Int) : WideAt.IsKeyLit (lk s) := by unfold WideAt.IsKeyLit; trivial
theorem lk_ne {s t : Int} (h : s ≠ t) : lk s ≠ lk t := fun e => h (by injection e)
/-- A map's datum holds just the nearest one ahead, of each birth. -/
def MapL (D : DataW Unit) (l : List (Int × Int)) (n : Nat) : Prop := IsMap D ∧ ∀ s : Int, Maps.has D (lk s) = (Vt.lastTo l s n).isSome ∧ D.atKey (lk s) (.lit (.int .i64 0)) = .lit (.int .i64 (((Vt.lastTo l s n).getD 0 : Nat) : Int))
theorem MapL.nil (l : List (Int × Int)) : MapL (.map []) l 0 := ⟨isMap_empty, fun s => ⟨rfl, rfl⟩⟩
theorem MapL.put {D : DataW Unit} {l : List (Int × Int)} {n : Nat} {x : Int × Int} (h : MapL D l n) (hx : l[n]? = some x) : MapL (D.put (lk x.1) (.lit (.int .i64 (n : Int)))) l (n + 1) := by
  refine ⟨h.1.put _ _, fun s => ?_⟩
  rw [Vt.lastTo_succ, hx]
  by_cases e : x.1 = s
  · subst e
    simp only [Option.map_some, if_true]
    rw [has_put_same h.1 (isKey _), atKey_put_same h.1 (isKey _)]
    exact ⟨rfl, rfl⟩
  · have e2 : ¬ (Option.map (fun x : Int × Int => x.1) (some x) = some s) := by simpa using e
    rw [if_neg e2, has_put_other (lk_ne (fun h => e h.symm)), atKey_put_other (lk_ne (fun h => e h.symm))]
    exact h.2 s

/-- All cells of all sessions. -/
def allV (ss : List Sess) : List Value := ss.flatMap Sess.cells
theorem allV_len (ss : List Sess) : (allV ss).length = ss.length * 12 := by
  unfold allV
  induction ss with
  | nil => rfl
  | cons s r ih => rw [List.flatMap_cons, List.length_append, ih, List.length_cons]; simp [Sess.cells]; omega

/-- All that there is while the forest grows: behind i sessions. -/
structure GrAt (ss : List Sess) (lo L F bm g : Nat) (d : Value) (i : Nat) (w : World) : Prop where
  box : w.heap[F]? = some (.cells #[d, .slice (some ⟨g, 0, none⟩) (ss.length + 1) (ss.length + 1)] 77 (0, 0))
  clone : w.ownsRow lo 30 12 d ss.length (allV ss)
  rows : ∃ vs, RowsAt L g (ss.length + 1) (Vt.krow (bu ss) i) vs w
  map : ∃ k D, w.ownsMap Tryz.prog 3 (plainElem Tryz.prog 3) bm k D ∧ k ≤ i ∧ MapL D (bu ss) i
  lF : lo ≤ F ∧ F < L
  lg : lo ≤ g ∧ g < L
  lm : lo ≤ bm ∧ bm < L
  nFg : F ≠ g
  nFm : F ≠ bm
  ngm : g ≠ bm
  cl : ∀ b, d.ownBlock = some b → b < L ∧ b ≠ F ∧ b ≠ g ∧ b ≠ bm
  lL : lo ≤ L ∧ L ≤ w.heap.size
theorem vmap_keep {w w' : World} {k : TypeId} {R : Value → Option (DataW Unit × List MemPlace)} {b n : Nat} {D : DataW Unit} (h : w.ownsMap Tryz.prog k R b n D) (ho : w'.heap[b]? = w.heap[b]?) : w'.ownsMap Tryz.prog k R b n D := by
  obtain ⟨es, clock, hb, hF, hs, hD⟩ := h
  exact ⟨es, clock, ho.trans hb, hF, hs, hD⟩
theorem GrAt.below {ss : List Sess} {lo L F bm g : Nat} {d : Value} {i : Nat} {w w' : World} (h : GrAt ss lo L F bm g d i w) (hb : Below w.heap.size w w') : GrAt ss lo L F bm g d i w' := by
  obtain ⟨vs, hv⟩ := h.rows
  obtain ⟨k, D, hm, hk⟩ := h.map
  exact ⟨(hb.block F (Array.getElem?_eq_some_iff.1 h.box).1).trans h.box, own_keep h.clone (fun b e => hb.block b (h.clone.lt b e).2), ⟨vs, hv.below hb⟩, ⟨k, D, vmap_keep hm (hb.block bm hm.lt), hk⟩, h.lF, h.lg, h.lm, h.nFg, h.nFm, h.ngm, h.cl, h.lL.1, Nat.le_trans h.lL.2 hb.size⟩
/-- One more round: behind the append, the store into its row, the map's store. -/
theorem GrAt.step {ss : List Sess} {lo L F bm g r : Nat} {d : Value} {i : Nat} {w w3 w5 : World} {o : Obj} {v' : Value} {vs : Nat → Value} {k : Nat} {D : DataW Unit} (h : GrAt ss lo L F bm g d i w) (hi : i < ss.length) (hr : r = Vt.upN (bu ss) i) (hv : RowsAt L g (ss.length + 1) (Vt.krow (bu ss) i) vs w) (hM : MapL D (bu ss) i) (hk : k ≤ i)
    (hown : w3.ownsRow L 3 1 v' ((Vt.krow (bu ss) i r).length + 1) ((Vt.krow (bu ss) i r).map nv ++ [nv i])) (hgrow : (w.alloc o).grownBy w3 (vs r).ownBlock) (hat : v'.ownBlock = (vs r).ownBlock ∨ v'.ownBlock = some (w.heap.size + 1))
    (hmap : w5.ownsMap Tryz.prog 3 (plainElem Tryz.prog 3) bm (k + 1) (D.put (lk ss[i].birth) (.lit (.int .i64 (i : Int))))) (hg5 : (w3.setCell ⟨g, r, none⟩ v').grownBy w5 (some bm)) : GrAt ss lo L F bm g d (i + 1) w5 ∧ Below lo w w5 := by
  have hrn : r < ss.length + 1 := by rw [hr]; have := Vt.upN_le (bu ss) i; omega
  have hrow := hv.row r hrn
  have hra := hv.app h.lg.2 hrn hown hgrow hat
  have hw3 : w.heap.size + 1 ≤ w3.heap.size := by have := hgrow.size; simpa using this
  have hw4 : (w3.setCell ⟨g, r, none⟩ v').heap.size = w3.heap.size := by simp [World.setCell]
  have old : ∀ b, b < w.heap.size → b < L → b ≠ g → b ≠ bm → w5.heap[b]? = w.heap[b]? := fun b h1 h2 h3 h4 => by
    rw [hg5.block b (by rw [hw4]; omega) (fun e => h4 (Option.some.inj e)), Below.heap_setCell _ _ _ _ (fun e => h3 e), hgrow.block b (by simp; omega) (fun e => by have := (hrow.lt b e.symm).1; omega), Below.heap_alloc _ _ _ h1]
  have hra5 := hra.keep (w' := w5) (hg5.block g (by rw [hw4]; have := (Array.getElem?_eq_some_iff.1 hv.top).1; omega) (fun e => h.ngm (Option.some.inj e))) (fun b h1 h2 => hg5.block b h2 (fun e => by have := Option.some.inj e; have := h.lm.2; omega))
  refine ⟨⟨(old F (Array.getElem?_eq_some_iff.1 h.box).1 h.lF.2 h.nFg h.nFm).trans h.box, own_keep h.clone (fun b e => old b (h.clone.lt b e).2 (h.cl b e).1 (h.cl b e).2.2.1 (h.cl b e).2.2.2), ⟨_, hra5.ext (fun j hj => ?_)⟩, ⟨k + 1, _, hmap, by omega, hM.put (bu_at hi)⟩, h.lF, h.lg, h.lm, h.nFg, h.nFm, h.ngm, h.cl, h.lL.1, ?_⟩, ?_⟩
  · rw [Vt.krow_succ, ← hr]
    unfold upd
    by_cases e : j = r
    · subst e; simp
    · simp [e]
  · have := hg5.size; have := h.lL.2; omega
  · have h1 := h.lL; have h2 := h.lg.1; have h3 := h.lm.1
    have b1 : Below lo w w3 := ((Below.refl lo w).alloc (by omega) o).grown hgrow (by simp; omega) (fun j hj => by have := (hrow.lt j hj).1; omega)
    have b2 : Below lo w (w3.setCell ⟨g, r, none⟩ v') := b1.setCell h2 v'
    exact b2.grown hg5 (by rw [hw4]; omega) (fun j hj => by have := Option.some.inj hj; omega)
end Vw
end Go.Proofs.YtocoonkachbjaaaGreatDoor

/- slices.Clone at sessions; slices.IndexFunc with first's closure; first. -/
namespace Go.Proofs.YtocoonkachbjaaaGreatDoor
open Go.RowKit Go.Maps
set_option linter.unusedVariables false
namespace Vw

theorem all_at {ss : List Sess} {j i : Nat} {u : Value} (hu : (allV ss)[j]? = some u) : ∃ (k : Nat) (h : k < ss.length) (i : Nat), j = k * 12 + i ∧ ss[k].cells[i]? = some u := by
  induction ss generalizing j with
  | nil => simp [allV] at hu
  | cons s r ih =>
    unfold allV at hu
    rw [List.flatMap_cons] at hu
    have hc : s.cells.length = 12 := rfl
    rcases Nat.lt_or_ge j 12 with h | h
    · rw [List.getElem?_append_left (by rw [hc]; exact h)] at hu
      exact ⟨0, by simp, j, by omega, hu⟩
    · rw [List.getElem?_append_right (by rw [hc]; exact h), hc] at hu
      obtain ⟨k, hk, i, e, h2⟩ := ih hu
      exact ⟨k + 1, by simpa using hk, i, by omega, by simpa using h2⟩
theorem all_cell {ss : List Sess} {k i : Nat} (h : k < ss.length) (hi : i < 12) : (allV ss)[k * 12 + i]? = ss[k].cells[i]? := by
  induction ss generalizing k with
  | nil => simp at h
  | cons s r ih =>
    unfold allV
    rw [List.flatMap_cons]
    have hc : s.cells.length = 12 := rfl
    cases k with
    | zero => rw [List.getElem?_append_left (by omega)]; simp
    | succ k =>
      rw [List.getElem?_append_right (by rw [hc]; omega), hc, show (k + 1) * 12 + i - 12 = k * 12 + i by omega]
      exact ih (by simpa using h)
theorem all_one {ss : List Sess} : ∀ u ∈ allV ss, u.oneCell' = true := fun u hu => by
  obtain ⟨s, _, h⟩ := List.mem_flatMap.1 hu
  exact s.one u h
theorem sess_src {w : World} {p : Option Addr} {cap : Nat} {ss : List Sess} (h : SessArg w (.slice p ss.length cap) ss) : Ap.SrcAt w p ss.length 12 (allV ss) := by
  obtain ⟨p2, c2, e, hc⟩ := h
  injection e with e1 e2 e3
  subst e1
  rcases Nat.eq_zero_or_pos ss.length with h0 | h0
  · exact .inl ⟨h0, List.eq_nil_of_length_eq_zero (by rw [allV_len, h0])⟩
  · obtain ⟨g, o, rfl, _, _⟩ := hc 0 h0
    refine .inr ⟨_, rfl, allV_len ss, fun j u hu => ?_⟩
    obtain ⟨k, hk, i, rfl, h2⟩ := all_at (i := 0) hu
    obtain ⟨g2, o2, e2, _, h3⟩ := hc k hk
    cases e2
    have := h3 i u h2
    have e : (⟨g, o, none⟩ : Addr).add (k * 12 + i) = ⟨g, o + k * 12 + i, none⟩ := by rw [Addr.add_mid, Nat.add_assoc]
    rw [e]; exact this
/-- Out of an own row. -/
theorem sess_of_own {w : World} {base cap : Nat} {q : Option Addr} {ss : List Sess} (h : w.ownsRow base 30 12 (.slice q ss.length cap) ss.length (allV ss)) : SessArg w (.slice q ss.length cap) ss := by
  refine ⟨q, cap, rfl, fun j hj => ?_⟩
  rcases h.2 with ⟨h1, h2⟩ | ⟨g, c, cur, h1, h2, h3, h4, h5, h6, h7⟩
  · omega
  · injection h1 with e1 e2 e3
    subst e1 e3
    refine ⟨g, 0, rfl, (Array.getElem?_eq_some_iff.1 h3).1, fun i u hi => ?_⟩
    have hi2 : i < 12 := (List.getElem?_eq_some_iff.1 hi).1
    rw [Nat.zero_add, World.ownsRow.cellAt (w := w) h (j * 12 + i) (by omega), all_cell hj hi2]
    exact hi

set_option maxRecDepth 100000 in
set_option maxHeartbeats 2000000 in
theorem vclone_any (v : Value) (ss : List Sess) (hl : ss.length ≤ 65536) (w : World) (h1 : SessArg w v ss) :
    Calls Tryz.prog 82 #[v] w fun e w' => (∃ d, e = .returned d ∧ w'.ownsRow w.heap.size 30 12 d ss.length (allV ss)) ∧ Below w.heap.size w w' := by
  have HA := Lib.hid h1
  obtain ⟨p, cap, rfl, h2⟩ := h1
  obtain ⟨i0, hi, hz0, hz1, hz2⟩ := info_parts vinfo_sess
  have hq := fun (w : World) a n c n2 c2 => Lib.run_eql_slice_nil (P := Tryz.prog) w 42 30 a n c n2 c2 Tryz.underlying42
  cases p with
  | none =>
    have he : ss = [] := by
      rcases Nat.eq_zero_or_pos ss.length with h | h
      · exact List.eq_nil_of_length_eq_zero h
      · obtain ⟨g, o, e, _⟩ := h2 0 h
        cases e
    subst he
    clear h2 HA
    go_enter Tryz.func82, Tryz.ntmps82
    go_wp2
    go_ret
    exact ⟨⟨_, rfl, World.ownsRow_nil _ _ _ _⟩, Below.refl _ _⟩
  | some ad =>
    have HS := Lib.hid (sess_src HA.out)
    have hown0 : (w.alloc (.cells [].toArray 30)).ownsRow w.heap.size 30 12 (.slice (some ⟨w.heap.size, 0, none⟩) 0 0) 0 [] := own_new rfl (Nat.le_refl _) (Nat.zero_le _)
    have HO0 := Lib.hid hown0
    have HS1 : Hid (Ap.SrcAt (w.alloc (.cells #[] 30)) (some ad) ss.length 12 (allV ss)) := sess_src (HA.out.below ((Below.refl _ _).alloc (Nat.le_refl _) _))
    have am1 : 0 + ss.length ≤ maxLen := by unfold maxLen; omega
    have am2 : (0 + ss.length) * 112 ≤ 140737488355328 := by omega
    have hb0 : Below w.heap.size w (w.alloc (.cells #[] 30)) := (Below.refl _ _).alloc (Nat.le_refl _) _
    have HB0 := Lib.hid hb0
    clear h2 hown0 hb0
    go_enter Tryz.func82, Tryz.ntmps82
    go_wp2_with (at_builtin; refine Ap.wpList_any _ rfl (.tmp 5) (.tmp 6) 42 rfl w.heap.size 30 i0 _ 12 112 Tryz.underlying42 hi hz0 hz1 hz2 rfl (by decide) _ 0 [] rfl HO0.out (some ad) ss.length cap _ rfl HS1.out all_one am1 am2 (by simp) ?_; intro v2 w5 hown5 hgrow5 _)
    go_ret
    rw [Nat.zero_add, List.nil_append] at hown5
    exact ⟨⟨_, rfl, hown5⟩, HB0.out.grown hgrow5 (by simp) (fun j hj => by have h : w.heap.size = j := Option.some.inj hj; omega)⟩

theorem cs_birth {ss : List Sess} {k : Nat} (h : k < ss.length) : (csAt ss k)[1]? = some (.int .i64 ss[k].birth) := by rw [csAt_at h]; rfl

/-- The closure that first hands to IndexFunc. -/
theorem first1_any (cs : List Value) (B b : Int) (bb : Nat) (hc : cs[1]? = some (.int .i64 B)) (w : World) (hb : w.cell? ⟨bb, 0, none⟩ = some (.int .i64 b)) :
    Calls Tryz.prog 114 #[.agg cs.toArray, .pointer (some ⟨bb, 0, none⟩)] w fun e w' => e = .returned (.bool (B == b)) ∧ Below w.heap.size w w' := by
  have h1 : (w.alloc (.cells cs.toArray 30)).cell? ⟨w.heap.size, 1, none⟩ = some (.int .i64 B) := by
    rw [cell_of_row _ _ _ _ _ _ (Ut.alloc_at _ _)]
    simpa using hc
  have h2 : (w.alloc (.cells cs.toArray 30)).cell? ⟨bb, 0, none⟩ = some (.int .i64 b) := (((Below.refl _ _).alloc (Nat.le_refl _) _).cell (p := ⟨bb, 0, none⟩) (World.block_lt_of_cell? w _ hb)).trans hb
  have HB : Hid (Below w.heap.size w (w.alloc (.cells cs.toArray 30))) := (Below.refl _ _).alloc (Nat.le_refl _) _
  clear hc hb
  go_enter Tryz.func114, Tryz.ntmps114
  go_wp2
  go_ret
  exact ⟨rfl, HB.out⟩

set_option maxRecDepth 100000 in
set_option maxHeartbeats 2000000 in
theorem vindex_any (v : Value) (ss : List Sess) (hl : (ss.length : Int) ≤ 9223372036854775807) (b : Int) (bb : Nat) (w : World) (h1 : SessArg w v ss) (hb : w.cell? ⟨bb, 0, none⟩ = some (.int .i64 b)) :
    Calls Tryz.prog 113 #[v, .func (.func 114) #[] #[.pointer (some ⟨bb, 0, none⟩)]] w fun e w' => e = .returned (.int .i64 (firstI ss b)) ∧ Below w.heap.size w w' := by
  obtain ⟨p, cap, rfl, h⟩ := h1
  have H := Lib.hid h
  have HBB := Lib.hid hb
  clear h hb
  go_enter Tryz.func113, Tryz.ntmps113
  go_wp2
  go_loopw [8] (fun i wr => FsRel ss b w i wr) (fun i _ => ss.length - (intOf i).toNat)
  case atStart => exact ⟨0, Nat.zero_le _, rfl, fun j h hj => absurd hj (Nat.not_lt_zero _), Below.refl _ _⟩
  case round =>
    obtain ⟨k, hk, rfl, hne, hbr⟩ := hrel
    have HE := Lib.hid hne; have HBR := Lib.hid hbr; clear hne
    have b0 : (0 : Int) ≤ (k : Int) := by omega
    by_cases h : k < ss.length
    · have b1 : (k : Int) < (ss.length : Int) := by omega
      obtain ⟨g, o, rfl, hg, k2⟩ := H.out k h
      obtain ⟨cs, hcs⟩ : ∃ cs, cs = csAt ss k := ⟨_, rfl⟩
      have HRG : Hid (wr.rangeAt g (o + k * 12) cs) := fun j u hu => (hbr.cell (p := ⟨g, o + k * 12 + j, none⟩) hg).trans (k2 j u (by rw [hcs, csAt_at h] at hu; exact hu))
      have HCL : Hid (cs.length = 12) := by show _ = _; rw [hcs, csAt_at h]; rfl
      have hcb : cs[1]? = some (.int .i64 ss[k].birth) := by rw [hcs]; exact cs_birth h
      have w1 : IntKind.i64.wrap ((k : Int) + 1) = ((k + 1 : Nat) : Int) := by rw [IntWalk.i64_in _ (by omega)]; rfl
      have hyes : ss[k].birth = b → firstL ss b = some k := fun e => by
        unfold firstL
        rw [List.findIdx?_eq_some_iff_getElem]
        exact ⟨h, by simp [e], fun j hj => by simpa using HE.out j (by omega) hj⟩
      have hno : ss[k].birth ≠ b → ∀ j (h : j < ss.length), j < k + 1 → ss[j].birth ≠ b := fun e j h hj => by
        rcases Nat.lt_or_ge j k with h2 | h2
        · exact HE.out j h h2
        · have e2 : j = k := by omega
          subst e2; exact e
      obtain ⟨X, hX⟩ : ∃ X, X = ss[k].birth := ⟨_, rfl⟩
      rw [← hX] at hcb hyes hno
      have HC := Lib.hid (first1_any cs X b bb hcb wr ((hbr.cell (p := ⟨bb, 0, none⟩) (World.block_lt_of_cell? w _ HBB.out)).trans HBB.out))
      clear k2 hX hcs hcb hbr
      go_wp2_with (first
        | (refine wpList_load_mid rfl 30 _ rfl _ _ rfl cs _ HRG.out Tryz.underlying30 rfl (by rw [HCL.out]; kernel_rfl) ?_)
        | fail)
      refine HC.out.mono ?_
      rintro e w2 ⟨rfl, hb2⟩
      have HB2 : Hid (Below w.heap.size w w2) := HBR.out.trans (hb2.mono HBR.out.size)
      clear hb2
      by_cases hx : X = b
      · have HF : Hid (Ending.returned (.int .i64 (k : Int)) = .returned (.int .i64 (firstI ss b))) := by show _ = _; unfold firstI; rw [hyes hx]
        have hxq : (X == b) = true := by simp [hx]
        clear hyes hno hx
        go_wp2
        go_ret
        exact ⟨HF.out, HB2.out⟩
      · have HN := Lib.hid (hno hx)
        have hxq : (X == b) = false := by rw [beq_eq_false_iff_ne]; exact hx
        clear hyes hno hx
        go_wp2
        go_roundw
        case rel => exact ⟨k + 1, by omega, rfl, HN.out, HB2.out⟩
        case measure => simp [intOf]; omega
    · have b1 : (ss.length : Int) ≤ (k : Int) := by omega
      have HF : Hid (Ending.returned (.int .i64 (-1)) = .returned (.int .i64 (firstI ss b))) := by
        show _ = _
        have : firstL ss b = none := by
          unfold firstL
          rw [List.findIdx?_eq_none_iff]
          intro s hs
          obtain ⟨j, hj, e⟩ := List.getElem_of_mem hs
          have := HE.out j hj (by omega)
          rw [e] at this
          simpa using this
        unfold firstI; rw [this]
      clear h
      go_wp2
      go_ret
      exact ⟨HF.out, hbr⟩

set_option maxRecDepth 100000 in
set_option maxHeartbeats 2000000 in
theorem vfirst_any (v K : Value) (ss : List Sess) (hl : (ss.length : Int) ≤ 9223372036854775807) (b : Int) (w : World) (h1 : SessArg w v ss) (hv1 : v.oneCell' = true) (hK1 : K.oneCell' = true) :
    Calls Tryz.prog 91 #[.agg #[v, K], .int .i64 b] w fun e w' => e = .returned (.int .i64 (firstI ss b)) ∧ Below w.heap.size w w' := by
  obtain ⟨W, hW⟩ : ∃ W, W = (w.alloc (.cells #[v, K] 77)).alloc (.cells #[.int .i64 b] 3) := ⟨_, rfl⟩
  have hbW : Below w.heap.size w W := by rw [hW]; exact ((Below.refl _ _).alloc (Nat.le_refl _) _).alloc (by simp) _
  have HI := Lib.hid (vindex_any v ss hl b (w.heap.size + 1) W (h1.below hbW) (by rw [hW]; simp))
  have HB := Lib.hid hbW
  have hf0 : ((w.alloc (.cells #[v, K] 77)).alloc (.cells #[.int .i64 b] 3)).cell? ⟨w.heap.size, 0, none⟩ = some v := by simp
  subst hW
  clear hbW
  go_enter Tryz.func91, Tryz.ntmps91
  go_wp2_with fail
  refine HI.out.mono ?_
  rintro e w2 ⟨rfl, hb2⟩
  have HB2 := Lib.hid (HB.out.trans (hb2.mono HB.out.size))
  clear hb2
  go_wp2
  go_ret
  exact ⟨rfl, HB2.out⟩
end Vw
end Go.Proofs.YtocoonkachbjaaaGreatDoor
