/- The document's Depths. -/
import Derived.Test.YtocoonkachbjaaaVwSess
import Derived.Maps.Own
namespace Go.Proofs.Ytocoonkachbjaaa
open Go.RowKit Go.Maps
set_option linter.unusedVariables false
namespace Vw
theorem vown_kept {w w' : World} {lo e size n : Nat} {v : Value} {xs : List Value} (h : w.ownsRow lo e size v n xs) (hb : Below w.heap.size w w') : w'.ownsRow lo e size v n xs := by
  refine ⟨h.1, ?_⟩
  rcases h.2 with h2 | ⟨g, cap, cur, h1, h2, h3, h4⟩
  · exact .inl h2
  · refine .inr ⟨g, cap, cur, h1, h2, ?_, h4⟩
    rw [hb.block g (Array.getElem?_eq_some_iff.1 h3).1]; exact h3
theorem vinfo_int : (Try.prog.info? 3).map (fun i => (i.zero, i.size, i.bytes)) = some (some (.int .i64 0), 1, 8) := by kernel_rfl
def dv (l : List (Int × Int)) (j : Nat) : Value := .int .i64 (Vt.dep l j : Int)
def DpRel (ss : List Sess) (w : World) (d i : Value) (wr : World) : Prop :=
  ∃ k : Nat, k ≤ ss.length ∧ i = .int .i64 k ∧ wr.ownsRow w.heap.size 3 1 d k ((List.range k).map (dv (bu ss))) ∧ Below w.heap.size w wr
theorem DpRel.push {ss : List Sess} {w wr w1 : World} {d v' : Value} {k : Nat} {o : Obj} (hown : wr.ownsRow w.heap.size 3 1 d k ((List.range k).map (dv (bu ss)))) (hbl : Below w.heap.size w wr)
    (hown' : w1.ownsRow w.heap.size 3 1 v' (k + 1) ((List.range k).map (dv (bu ss)) ++ [dv (bu ss) k])) (hgrow : (wr.alloc o).grownBy w1 d.ownBlock) (h : k < ss.length) : DpRel ss w v' (.int .i64 ((k + 1 : Nat) : Int)) w1 :=
  ⟨k + 1, by omega, rfl, by rw [List.range_succ, List.map_append]; exact hown', Ut.below_app hbl hbl.size hown hgrow⟩
theorem dep_le (l : List (Int × Int)) : ∀ n, Vt.dep l n ≤ n := by
  intro n
  induction n using Nat.strongRecOn with
  | _ n ih =>
    cases hp : Vt.par l n with
    | none => rw [Vt.dep_none hp]; omega
    | some p =>
      have h1 := Vt.par_lt hp
      have h2 := ih p h1
      rw [Vt.dep_some hp]; omega

set_option maxHeartbeats 4000000 in
theorem rdepths_any (v : Value) (ss : List Sess) (hl : ss.length ≤ 65536) (w : World) (h1 : SessArg w v ss) :
    Calls Try.prog 23 #[v] w fun e w' => (∃ d, e = .returned d ∧ w'.ownsRow w.heap.size 3 1 d ss.length ((List.range ss.length).map (dv (bu ss)))) ∧ Below w.heap.size w w' := by
  have HA := Lib.hid h1
  obtain ⟨p, cap, rfl, -⟩ := h1
  obtain ⟨i0, hi, hz0, hz1, hz2⟩ := info_parts vinfo_int
  have hlI : (ss.length : Int) ≤ 9223372036854775807 := by omega
  have HLI := Lib.hid hlI
  go_enter Try.func23, Try.ntmps23
  go_wp2
  go_loopw [3, 4, 5] (fun d i _ wr => DpRel ss w d i wr) (fun _ i _ _ => ss.length - (intOf i).toNat)
  case atStart => exact ⟨0, Nat.zero_le _, rfl, World.ownsRow_nil _ _ _ _, Below.refl _ _⟩
  case round =>
    obtain ⟨k, hk, rfl, hown, hbr⟩ := hrel
    have HO := Lib.hid hown; have HB := Lib.hid hbr
    clear hown hbr
    have b0 : (0 : Int) ≤ (k : Int) := by omega
    by_cases h : k < ss.length
    · have b1 : (k : Int) < (ss.length : Int) := by omega
      have HC := Lib.hid (rparent_any _ ss hlI k h wr (HA.out.below HB.out))
      have am1 : k + 1 ≤ maxLen := by unfold maxLen; omega
      have am2 : (k + 1) * 8 ≤ 140737488355328 := by omega
      have w1' : IntKind.i64.wrap ((k : Int) + 1) = ((k + 1 : Nat) : Int) := by rw [IntWalk.i64_in _ (by omega)]; rfl
      have hk' : Hid (k < ss.length) := h
      cases hp : Vt.par (bu ss) k with
      | none =>
        have e1 : parI (bu ss) k = -1 := by unfold parI; rw [hp]
        have e2 : Hid (dv (bu ss) k = .int .i64 0) := by show _ = _; unfold dv; rw [Vt.dep_none hp]; rfl
        rw [e1] at HC
        clear e1 hp h
        go_wp2_with fail
        refine HC.out.mono ?_
        rintro e w2 ⟨rfl, hb2⟩
        have HB2 : Hid (Below w.heap.size w w2) := HB.out.trans (hb2.mono HB.out.size)
        have HO2 : Hid (w2.ownsRow w.heap.size 3 1 _ k ((List.range k).map (dv (bu ss)))) := vown_kept HO.out hb2
        have hzw : w.heap.size ≤ w2.heap.size := HB2.out.size
        clear hb2
        go_wp2_with (at_builtin; refine wpList_append_own _ rfl _ _ 31 rfl w.heap.size 3 i0 (.int .i64 0) 1 8 Try.underlying31 hi hz0 hz1 hz2 rfl (by decide) _ _ _ rfl (HO2.out.alloc _) ⟨w2.heap.size, 0, none⟩ 1 1 [Value.int .i64 0] rfl rfl (cell_one_new _ _ _) (by intro u hu; simp at hu; subst hu; rfl) am1 am2 (by simp; exact Nat.le_succ_of_le hzw) ?_; intro v' w3 hown' hgrow _)
        have HU := Lib.hid (DpRel.push HO2.out HB2.out (by rw [e2.out]; exact hown') hgrow hk'.out)
        clear hown' hgrow
        go_wp2
        go_roundw
        case rel => exact HU.out
        case measure => simp [intOf]; omega
      | some q =>
        have hql : q < k := Vt.par_lt hp
        have e1 : parI (bu ss) k = (q : Int) := by unfold parI; rw [hp]
        have hdq := dep_le (bu ss) q
        have w2' : IntKind.i64.wrap ((Vt.dep (bu ss) q : Int) + 1) = ((Vt.dep (bu ss) q + 1 : Nat) : Int) := by rw [IntWalk.i64_in _ (by omega)]; rfl
        obtain ⟨D, hD⟩ : ∃ D, D = Vt.dep (bu ss) q := ⟨_, rfl⟩
        have e2 : Hid (dv (bu ss) k = .int .i64 ((D + 1 : Nat) : Int)) := by show _ = _; unfold dv; rw [Vt.dep_some hp, hD]
        rw [e1] at HC
        rw [← hD] at w2'
        have HOC := Lib.hid (fun (w2 : World) (x : Value) (hx : w2.ownsRow w.heap.size 3 1 x k ((List.range k).map (dv (bu ss)))) => (by
          have hlen : 0 < ((List.range k).map (dv (bu ss))).length := by simp; omega
          obtain ⟨g, c, rfl, _, _, _, hg, hc⟩ := Ut.own_cells hx (by simpa using hlen)
          refine ⟨g, c, rfl, ?_⟩
          rw [hc q (by simpa using hql)]
          simp [hql, dv, hD] : ∃ g c, x = .slice (some ⟨g, 0, none⟩) k c ∧ w2.cell? ⟨g, q, none⟩ = some (.int .i64 (D : Int))))
        have c0 : (0 : Int) ≤ (q : Int) := by omega
        have c1 : (q : Int) < (k : Int) := by omega
        clear e1 hp h hdq hD hql
        go_wp2_with fail
        refine HC.out.mono ?_
        rintro e w2 ⟨rfl, hb2⟩
        have HB2 : Hid (Below w.heap.size w w2) := HB.out.trans (hb2.mono HB.out.size)
        have HO2 := Lib.hid (vown_kept HO.out hb2)
        obtain ⟨g, c, rfl, hcell⟩ := HOC.out w2 _ HO2.out
        have hzw : w.heap.size ≤ w2.heap.size := HB2.out.size
        clear hb2 HO HOC
        go_wp2_with (at_builtin; refine wpList_append_own _ rfl _ _ 31 rfl w.heap.size 3 i0 (.int .i64 0) 1 8 Try.underlying31 hi hz0 hz1 hz2 rfl (by decide) _ _ _ rfl (HO2.out.alloc _) ⟨w2.heap.size, 0, none⟩ 1 1 [Value.int .i64 ((D + 1 : Nat) : Int)] rfl rfl (cell_one_new _ _ _) (by intro u hu; simp at hu; subst hu; rfl) am1 am2 (by simp; exact Nat.le_succ_of_le hzw) ?_; intro v' w3 hown' hgrow _)
        have HU := Lib.hid (DpRel.push HO2.out HB2.out (by rw [e2.out]; exact hown') hgrow hk'.out)
        clear hown' hgrow
        go_wp2
        go_roundw
        case rel => exact HU.out
        case measure => simp [intOf]; omega
    · have b1 : (ss.length : Int) ≤ (k : Int) := by omega
      have e : k = ss.length := by omega
      have h3 := HO.out
      rw [e] at h3
      have HO3 := Lib.hid h3
      clear h3
      clear h
      go_wp2
      go_ret
      exact ⟨⟨_, rfl, HO3.out⟩, HB.out⟩
end Vw
end Go.Proofs.Ytocoonkachbjaaa
