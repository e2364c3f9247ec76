/- Several texts in one: what each proves its own first comment says. -/
import Derived.Test.YtocoonkachbjaaaGreatDoorM13
import Derived.Maps.Own
import Derived.Test.YtocoonkachbjaaaGreatDoorProg
import Derived.Test.YtocoonkachbjaaaGreatDoorM1
import Derived.BigQuiet
import Derived.Deep.QuietTactic
import Derived.Outline
import Derived.WalkLawsBesides
import Derived.WalkSpells
import Derived.Maps.AppendAt
import Derived.Deep.AppendLies
import Derived.RegionTactic
import Derived.OwnWalk
import Derived.WalkKit
import Derived.Laws.Slices

/- A new one behind one's block, by places: as the document's Order finds the place. No program's code. -/
namespace Go.Proofs.YtocoonkachbjaaaGreatDoor
set_option linter.unusedVariables false
namespace Vt

theorem tw_at {α : Type} (q : α → Bool) : ∀ (r : List α) (a : Nat), a ≤ r.length → (∀ j y, j < a → r[j]? = some y → q y = true) → (∀ y, r[a]? = some y → q y = false) → r.takeWhile q = r.take a ∧ r.dropWhile q = r.drop a
  | [], a, _, _, _ => by simp
  | x :: r, 0, _, _, h2 => by
    have := h2 x rfl
    simp [List.takeWhile, List.dropWhile, this]
  | x :: r, a + 1, h, h1, h2 => by
    have hx := h1 0 x (by omega) rfl
    obtain ⟨e1, e2⟩ := tw_at q r a (by simpa using h) (fun j y hj hy => h1 (j + 1) y (by omega) (by simpa using hy)) (fun y hy => h2 y (by simpa using hy))
    simp [List.takeWhile, List.dropWhile, hx, e1, e2]
theorem ins_at (p n : Nat) : ∀ (o : List (Nat × Nat)) (i a : Nat) (x : Nat × Nat), o[i]? = some x → x.2 = p → (∀ j y, j < i → o[j]? = some y → y.2 ≠ p) → i < a → a ≤ o.length → (∀ j y, i < j → j < a → o[j]? = some y → x.1 < y.1) → (∀ y, o[a]? = some y → ¬ x.1 < y.1) →
    ins p n o = o.take a ++ (x.1 + 1, n) :: o.drop a
  | [], i, a, x, h, _, _, _, _, _, _ => by simp at h
  | z :: r, 0, 0, x, h, e, hn, hia, ha, h1, h2 => by omega
  | z :: r, 0, a + 1, x, h, e, hn, hia, ha, h1, h2 => by
    have hz : z = x := by simpa using h
    subst hz
    obtain ⟨e1, e2⟩ := tw_at (fun y : Nat × Nat => decide (z.1 < y.1)) r a (by simpa using ha) (fun j y hj hy => decide_eq_true (h1 (j + 1) y (by omega) (by omega) (by simpa using hy))) (fun y hy => decide_eq_false (h2 y (by simpa using hy)))
    rw [ins, if_pos e, e1, e2]
    simp
  | z :: r, i + 1, 0, x, h, e, hn, hia, ha, h1, h2 => by omega
  | z :: r, i + 1, a + 1, x, h, e, hn, hia, ha, h1, h2 => by
    have hz : z.2 ≠ p := hn 0 z (by omega) rfl
    have ih := ins_at p n r i a x (by simpa using h) e (fun j y hj hy => hn (j + 1) y (by omega) (by simpa using hy)) (by omega) (by simpa using ha) (fun j y hj hj2 hy => h1 (j + 1) y (by omega) (by omega) (by simpa using hy)) (fun y hy => h2 y (by simpa using hy))
    rw [ins, if_neg hz, ih]
    simp

/-- The order alone. -/
def ordI (l : List (Int × Int)) (n : Nat) : List Nat := (ordL l n).map (·.2)
theorem ordI_len (l : List (Int × Int)) (n : Nat) : (ordI l n).length = n := by unfold ordI; rw [List.length_map, ord_len]
theorem ordI_lt {l : List (Int × Int)} {n j x : Nat} (h : (ordI l n)[j]? = some x) : x < n := List.mem_range.1 ((ord_perm l n).mem_iff.1 (List.mem_of_getElem? h))
theorem ordI_has {l : List (Int × Int)} {n p : Nat} (h : p < n) : ∃ j : Nat, (ordI l n)[j]? = some p := List.getElem?_of_mem ((ord_perm l n).mem_iff.2 (List.mem_range.2 h))
theorem ordI_none {l : List (Int × Int)} {n : Nat} (h : par l n = none) : ordI l (n + 1) = ordI l n ++ [n] := by simp only [ordI, ordL, h, List.map_append]; rfl
theorem ordI_some {l : List (Int × Int)} {n p i a : Nat} (h : par l n = some p) (hi : (ordI l n)[i]? = some p) (hn : ∀ (j y : Nat), j < i → (ordI l n)[j]? = some y → y ≠ p) (hia : i < a) (ha : a ≤ n) (h1 : ∀ (j y : Nat), i < j → j < a → (ordI l n)[j]? = some y → dep l p < dep l y)
    (h2 : ∀ (y : Nat), (ordI l n)[a]? = some y → ¬ dep l p < dep l y) : ordI l (n + 1) = (ordI l n).take a ++ n :: (ordI l n).drop a := by
  have get : ∀ {j : Nat} {y : Nat × Nat}, (ordL l n)[j]? = some y → (ordI l n)[j]? = some y.2 := fun {j y} hy => by unfold ordI; rw [List.getElem?_map, hy]; rfl
  obtain ⟨x, hx, ex⟩ : ∃ x, (ordL l n)[i]? = some x ∧ x.2 = p := by
    unfold ordI at hi
    rw [List.getElem?_map] at hi
    exact Option.map_eq_some_iff.1 hi
  have dx := ord_dep l n x (List.mem_of_getElem? hx)
  have hh := ins_at p n (ordL l n) i a x hx ex (fun j y hj hy => hn j y.2 hj (get hy)) hia (by rw [ord_len]; exact ha)
    (fun j y hj hj2 hy => by rw [dx, ex, ord_dep l n y (List.mem_of_getElem? hy)]; exact h1 j y.2 hj hj2 (get hy))
    (fun y hy => by rw [dx, ex, ord_dep l n y (List.mem_of_getElem? hy)]; exact h2 y.2 (get hy))
  have e : ordL l (n + 1) = ins p n (ordL l n) := by simp only [ordL, h]
  unfold ordI
  rw [e, hh]
  simp [List.map_take, List.map_drop]
end Vt
end Go.Proofs.YtocoonkachbjaaaGreatDoor

/- Rows of children as the program's grow makes them, and its map of births: plain. No program's code. -/
namespace Go.Proofs.YtocoonkachbjaaaGreatDoor
set_option linter.unusedVariables false
namespace Vt

/-- The rows: of the roots, then of each one's children. -/
def krow (l : List (Int × Int)) (n : Nat) : Nat → List Nat
  | 0 => roots l n
  | p + 1 => kidsN l n p
/-- The row in which the n-th one goes. -/
def upN (l : List (Int × Int)) (n : Nat) : Nat := match par l n with
  | none => 0
  | some p => p + 1
theorem upN_le (l : List (Int × Int)) (n : Nat) : upN l n ≤ n := by
  unfold upN
  cases h : par l n with
  | none => exact Nat.zero_le _
  | some p => exact par_lt h
theorem krow_zero (l : List (Int × Int)) (r : Nat) : krow l 0 r = [] := by cases r <;> rfl
theorem krow_succ (l : List (Int × Int)) (n r : Nat) : krow l (n + 1) r = if r = upN l n then krow l n r ++ [n] else krow l n r := by
  unfold upN
  cases h : par l n with
  | none =>
    simp only
    cases r with
    | zero => simp [krow, roots, h]
    | succ p => simp [krow, kidsN_none h]
  | some q =>
    simp only
    cases r with
    | zero => simp [krow, roots, h]
    | succ p =>
      show kidsN l (n + 1) p = _
      rw [kidsN_some h]
      unfold more
      by_cases e : p = q
      · subst e; simp [krow]
      · simp [krow, e]
theorem krow_lt (l : List (Int × Int)) (n r : Nat) : ∀ j ∈ krow l n r, j < n := fun j hj => by
  cases r with
  | zero => exact roots_lt l n j hj
  | succ p => exact (kids_up l n p j hj).2
theorem krow_len (l : List (Int × Int)) : ∀ n r, (krow l n r).length ≤ n
  | 0, r => by rw [krow_zero]; exact Nat.le_refl _
  | n + 1, r => by
    have := krow_len l n r
    rw [krow_succ]
    split
    · simp; exact this
    · omega
theorem lastTo_succ (l : List (Int × Int)) (up : Int) (k : Nat) : lastTo l up (k + 1) = if (l[k]?).map (·.1) = some up then some k else lastTo l up k := rfl
theorem upN_eq {l : List (Int × Int)} {n : Nat} {x : Int × Int} (h : l[n]? = some x) : upN l n = if x.2 = 0 then 0 else match lastTo l x.2 n with
  | none => 0
  | some p => p + 1 := by
  unfold upN par
  rw [h]
  simp only
  by_cases e : x.2 = 0
  · rw [if_pos e, if_pos e]
  · rw [if_neg e, if_neg e]
/-- The walk's children of one are those of the row behind. -/
theorem kidsN_row (l : List (Int × Int)) (n p : Nat) : kidsN l n p = krow l n (p + 1) := rfl
end Vt
end Go.Proofs.YtocoonkachbjaaaGreatDoor

/- The document's Depths. -/
namespace Go.Proofs.YtocoonkachbjaaaGreatDoor
open Go.RowKit Go.Maps
set_option linter.unusedVariables false
namespace Vw
theorem vown_kept {w w' : World} {lo e size n : Nat} {v : Value} {xs : List Value} (h : w.ownsRow lo e size v n xs) (hb : Below w.heap.size w w') : w'.ownsRow lo e size v n xs := by
  refine ⟨h.1, ?_⟩
  rcases h.2 with h2 | ⟨g, cap, cur, h1, h2, h3, h4⟩
  · exact .inl h2
  · refine .inr ⟨g, cap, cur, h1, h2, ?_, h4⟩
    rw [hb.block g (Array.getElem?_eq_some_iff.1 h3).1]; exact h3
theorem vinfo_int : (Tryz.prog.info? 3).map (fun i => (i.zero, i.size, i.bytes)) = some (some (.int .i64 0), 1, 8) := by kernel_rfl
def dv (l : List (Int × Int)) (j : Nat) : Value := .int .i64 (Vt.dep l j : Int)
def DpRel (ss : List Sess) (w : World) (d i : Value) (wr : World) : Prop :=
  ∃ k : Nat, k ≤ ss.length ∧ i = .int .i64 k ∧ wr.ownsRow w.heap.size 3 1 d k ((List.range k).map (dv (bu ss))) ∧ Below w.heap.size w wr
theorem DpRel.push {ss : List Sess} {w wr w1 : World} {d v' : Value} {k : Nat} {o : Obj} (hown : wr.ownsRow w.heap.size 3 1 d k ((List.range k).map (dv (bu ss)))) (hbl : Below w.heap.size w wr)
    (hown' : w1.ownsRow w.heap.size 3 1 v' (k + 1) ((List.range k).map (dv (bu ss)) ++ [dv (bu ss) k])) (hgrow : (wr.alloc o).grownBy w1 d.ownBlock) (h : k < ss.length) : DpRel ss w v' (.int .i64 ((k + 1 : Nat) : Int)) w1 :=
  ⟨k + 1, by omega, rfl, by rw [List.range_succ, List.map_append]; exact hown', Ut.below_app hbl hbl.size hown hgrow⟩
theorem dep_le (l : List (Int × Int)) : ∀ n, Vt.dep l n ≤ n := by
  intro n
  induction n using Nat.strongRecOn with
  | _ n ih =>
    cases hp : Vt.par l n with
    | none => rw [Vt.dep_none hp]; omega
    | some p =>
      have h1 := Vt.par_lt hp
      have h2 := ih p h1
      rw [Vt.dep_some hp]; omega

set_option maxRecDepth 100000 in
set_option maxHeartbeats 4000000 in
theorem rdepths_any (v : Value) (ss : List Sess) (hl : ss.length ≤ 65536) (w : World) (h1 : SessArg w v ss) :
    Calls Tryz.prog 44 #[v] w fun e w' => (∃ d, e = .returned d ∧ w'.ownsRow w.heap.size 3 1 d ss.length ((List.range ss.length).map (dv (bu ss)))) ∧ Below w.heap.size w w' := by
  have HA := Lib.hid h1
  obtain ⟨p, cap, rfl, -⟩ := h1
  obtain ⟨i0, hi, hz0, hz1, hz2⟩ := info_parts vinfo_int
  have hlI : (ss.length : Int) ≤ 9223372036854775807 := by omega
  have HLI := Lib.hid hlI
  go_enter Tryz.func44, Tryz.ntmps44
  go_wp2
  go_loopw [3, 4, 5] (fun d i _ wr => DpRel ss w d i wr) (fun _ i _ _ => ss.length - (intOf i).toNat)
  case atStart => exact ⟨0, Nat.zero_le _, rfl, World.ownsRow_nil _ _ _ _, Below.refl _ _⟩
  case round =>
    obtain ⟨k, hk, rfl, hown, hbr⟩ := hrel
    have HO := Lib.hid hown; have HB := Lib.hid hbr
    clear hown hbr
    have b0 : (0 : Int) ≤ (k : Int) := by omega
    by_cases h : k < ss.length
    · have b1 : (k : Int) < (ss.length : Int) := by omega
      have HC := Lib.hid (rparent_any _ ss hlI k h wr (HA.out.below HB.out))
      have am1 : k + 1 ≤ maxLen := by unfold maxLen; omega
      have am2 : (k + 1) * 8 ≤ 140737488355328 := by omega
      have w1' : IntKind.i64.wrap ((k : Int) + 1) = ((k + 1 : Nat) : Int) := by rw [IntWalk.i64_in _ (by omega)]; rfl
      have hk' : Hid (k < ss.length) := h
      cases hp : Vt.par (bu ss) k with
      | none =>
        have e1 : parI (bu ss) k = -1 := by unfold parI; rw [hp]
        have e2 : Hid (dv (bu ss) k = .int .i64 0) := by show _ = _; unfold dv; rw [Vt.dep_none hp]; rfl
        rw [e1] at HC
        clear e1 hp h
        go_wp2_with fail
        refine HC.out.mono ?_
        rintro e w2 ⟨rfl, hb2⟩
        have HB2 : Hid (Below w.heap.size w w2) := HB.out.trans (hb2.mono HB.out.size)
        have HO2 : Hid (w2.ownsRow w.heap.size 3 1 _ k ((List.range k).map (dv (bu ss)))) := vown_kept HO.out hb2
        have hzw : w.heap.size ≤ w2.heap.size := HB2.out.size
        clear hb2
        go_wp2_with (at_builtin; refine wpList_append_own _ rfl _ _ 82 rfl w.heap.size 3 i0 (.int .i64 0) 1 8 Tryz.underlying82 hi hz0 hz1 hz2 rfl (by decide) _ _ _ rfl (HO2.out.alloc _) ⟨w2.heap.size, 0, none⟩ 1 1 [Value.int .i64 0] rfl rfl (cell_one_new _ _ _) (by intro u hu; simp at hu; subst hu; rfl) am1 am2 (by simp; exact Nat.le_succ_of_le hzw) ?_; intro v' w3 hown' hgrow _)
        have HU := Lib.hid (DpRel.push HO2.out HB2.out (by rw [e2.out]; exact hown') hgrow hk'.out)
        clear hown' hgrow
        go_wp2
        go_roundw
        case rel => exact HU.out
        case measure => simp [intOf]; omega
      | some q =>
        have hql : q < k := Vt.par_lt hp
        have e1 : parI (bu ss) k = (q : Int) := by unfold parI; rw [hp]
        have hdq := dep_le (bu ss) q
        have w2' : IntKind.i64.wrap ((Vt.dep (bu ss) q : Int) + 1) = ((Vt.dep (bu ss) q + 1 : Nat) : Int) := by rw [IntWalk.i64_in _ (by omega)]; rfl
        obtain ⟨D, hD⟩ : ∃ D, D = Vt.dep (bu ss) q := ⟨_, rfl⟩
        have e2 : Hid (dv (bu ss) k = .int .i64 ((D + 1 : Nat) : Int)) := by show _ = _; unfold dv; rw [Vt.dep_some hp, hD]
        rw [e1] at HC
        rw [← hD] at w2'
        have HOC := Lib.hid (fun (w2 : World) (x : Value) (hx : w2.ownsRow w.heap.size 3 1 x k ((List.range k).map (dv (bu ss)))) => (by
          have hlen : 0 < ((List.range k).map (dv (bu ss))).length := by simp; omega
          obtain ⟨g, c, rfl, _, _, _, hg, hc⟩ := Ut.own_cells hx (by simpa using hlen)
          refine ⟨g, c, rfl, ?_⟩
          rw [hc q (by simpa using hql)]
          simp [hql, dv, hD] : ∃ g c, x = .slice (some ⟨g, 0, none⟩) k c ∧ w2.cell? ⟨g, q, none⟩ = some (.int .i64 (D : Int))))
        have c0 : (0 : Int) ≤ (q : Int) := by omega
        have c1 : (q : Int) < (k : Int) := by omega
        clear e1 hp h hdq hD hql
        go_wp2_with fail
        refine HC.out.mono ?_
        rintro e w2 ⟨rfl, hb2⟩
        have HB2 : Hid (Below w.heap.size w w2) := HB.out.trans (hb2.mono HB.out.size)
        have HO2 := Lib.hid (vown_kept HO.out hb2)
        obtain ⟨g, c, rfl, hcell⟩ := HOC.out w2 _ HO2.out
        have hzw : w.heap.size ≤ w2.heap.size := HB2.out.size
        clear hb2 HO HOC
        go_wp2_with (at_builtin; refine wpList_append_own _ rfl _ _ 82 rfl w.heap.size 3 i0 (.int .i64 0) 1 8 Tryz.underlying82 hi hz0 hz1 hz2 rfl (by decide) _ _ _ rfl (HO2.out.alloc _) ⟨w2.heap.size, 0, none⟩ 1 1 [Value.int .i64 ((D + 1 : Nat) : Int)] rfl rfl (cell_one_new _ _ _) (by intro u hu; simp at hu; subst hu; rfl) am1 am2 (by simp; exact Nat.le_succ_of_le hzw) ?_; intro v' w3 hown' hgrow _)
        have HU := Lib.hid (DpRel.push HO2.out HB2.out (by rw [e2.out]; exact hown') hgrow hk'.out)
        clear hown' hgrow
        go_wp2
        go_roundw
        case rel => exact HU.out
        case measure => simp [intOf]; omega
    · have b1 : (ss.length : Int) ≤ (k : Int) := by omega
      have e : k = ss.length := by omega
      have h3 := HO.out
      rw [e] at h3
      have HO3 := Lib.hid h3
      clear h3
      clear h
      go_wp2
      go_ret
      exact ⟨⟨_, rfl, HO3.out⟩, HB.out⟩
end Vw
end Go.Proofs.YtocoonkachbjaaaGreatDoor

/- lineageref0.SameInts of any two lists of numbers, wherever they lie. -/
namespace Go.Proofs.YtocoonkachbjaaaGreatDoor
open Go.RowKit
set_option linter.unusedVariables false
namespace In

/-- A value is a list of numbers, wherever it lies. -/
def IntArg (w : World) (v : Value) (ps : List Int) : Prop :=
  ∃ p cap, v = .slice p ps.length cap ∧ ∀ j (hj : j < ps.length), ∃ g o, p = some ⟨g, o, none⟩ ∧ g < w.heap.size ∧ w.cell? ⟨g, o + j, none⟩ = some (.int .i64 ps[j])
theorem IntArg.below {w w' : World} {v : Value} {ps : List Int} (h : IntArg w v ps) (hb : Below w.heap.size w w') : IntArg w' v ps := by
  obtain ⟨p, cap, rfl, h⟩ := h
  refine ⟨p, cap, rfl, fun j hj => ?_⟩
  obtain ⟨g, o, h1, h2, h3⟩ := h j hj
  exact ⟨g, o, h1, Nat.lt_of_lt_of_le h2 hb.size, (hb.cell (p := ⟨g, o + j, none⟩) h2).trans h3⟩
/-- A list of the call's own. -/
theorem own_ints {w : World} {base n : Nat} {v : Value} {ps : List Int} {f : Int → Value} (hf : ∀ x, f x = .int .i64 x) (hn : n = ps.length) (h : w.ownsRow base 3 1 v n (ps.map f)) : IntArg w v ps := by
  subst hn
  rcases Nat.eq_zero_or_pos ps.length with h0 | h0
  · have e : ps = [] := List.eq_nil_of_length_eq_zero h0
    subst e
    rcases h.2 with ⟨rfl, _⟩ | ⟨g, cap, cur, rfl, _⟩
    · exact ⟨none, 0, rfl, fun j hj => absurd hj (Nat.not_lt_zero _)⟩
    · exact ⟨_, cap, rfl, fun j hj => absurd hj (Nat.not_lt_zero _)⟩
  · obtain ⟨g, c, rfl, _, _, _, hg, hc⟩ := Ut.own_cells h h0
    exact ⟨_, c, rfl, fun j hj => ⟨g, 0, rfl, hg, by rw [Nat.zero_add, hc j hj]; simp [hj, hf]⟩⟩
theorem lit_ints (w : World) (ps : List Int) (t : TypeId) : IntArg (w.alloc (.cells (ps.map (Value.int .i64)).toArray t)) (.slice (some ⟨w.heap.size, 0, none⟩) ps.length ps.length) ps :=
  ⟨_, ps.length, rfl, fun j hj => ⟨w.heap.size, 0, rfl, by simp, by
    unfold World.cell?
    rw [Ut.alloc_at]
    simp [hj]⟩⟩

def SameRel (ps qs : List Int) (w : World) (i : Value) (wr : World) : Prop :=
  ∃ k : Nat, k ≤ ps.length ∧ i = .int .i64 k ∧ ps.take k = qs.take k ∧ Below w.heap.size w wr

set_option maxRecDepth 100000 in
set_option maxHeartbeats 1000000 in
theorem same_any (v u : Value) (ps qs : List Int) (hp : (ps.length : Int) ≤ 9223372036854775807) (hq : (qs.length : Int) ≤ 9223372036854775807) (w : World) (h1 : IntArg w v ps) (h2 : IntArg w u qs) :
    Calls Tryz.prog 54 #[v, u] w fun e w' => e = .returned (.bool (decide (ps = qs))) ∧ Below w.heap.size w w' := by
  obtain ⟨p, cp, rfl, h1⟩ := h1
  obtain ⟨q, cq, rfl, h2⟩ := h2
  have H1 := Lib.hid h1; have H2 := Lib.hid h2
  clear h1 h2
  by_cases hl : ps.length = qs.length
  · have e1 : ((ps.length : Int) != (qs.length : Int)) = false := by rw [hl]; simp
    have HL := Lib.hid hl
    clear hl
    go_enter Tryz.func54, Tryz.ntmps54
    go_wp2
    go_loopw [5] (fun i wr => SameRel ps qs w i wr) (fun i _ => ps.length - (intOf i).toNat)
    case atStart => exact ⟨0, Nat.zero_le _, rfl, by simp, Below.refl _ _⟩
    case round =>
      obtain ⟨k, hk, rfl, heq, hbr⟩ := hrel
      have HE := Lib.hid heq; clear heq
      by_cases h : k < ps.length
      · have hlt : k < qs.length := by rw [← HL.out]; exact h
        obtain ⟨g1, o1, rfl, hg1, k1⟩ := H1.out k h
        obtain ⟨g2, o2, rfl, hg2, k2⟩ := H2.out k hlt
        have k1' : wr.cell? ⟨g1, o1 + k, none⟩ = some (.int .i64 ps[k]) := (hbr.cell (p := ⟨g1, o1 + k, none⟩) hg1).trans k1
        have k2' : wr.cell? ⟨g2, o2 + k, none⟩ = some (.int .i64 qs[k]) := (hbr.cell (p := ⟨g2, o2 + k, none⟩) hg2).trans k2
        have hyes : ps[k] = qs[k] → ps.take (k + 1) = qs.take (k + 1) := fun e => by
          rw [List.take_succ_eq_append_getElem h, List.take_succ_eq_append_getElem hlt, HE.out, e]
        have hno : ps[k] ≠ qs[k] → decide (ps = qs) = false := fun e => by
          rw [decide_eq_false_iff_not]; intro e2; apply e
          have : ps[k]? = qs[k]? := by rw [e2]
          rw [List.getElem?_eq_getElem h, List.getElem?_eq_getElem hlt] at this
          exact Option.some.inj this
        obtain ⟨p, hpk⟩ : ∃ p, p = ps[k] := ⟨_, rfl⟩
        obtain ⟨q, hqk⟩ : ∃ q, q = qs[k] := ⟨_, rfl⟩
        clear k1 k2 H1 H2
        rw [← hpk] at k1' hyes hno; rw [← hqk] at k2' hyes hno
        have HY := Lib.hid hyes; have HN := Lib.hid hno
        clear hyes hno hpk hqk
        have b1 : (0 : Int) ≤ (k : Int) := by omega
        have b2 : (k : Int) < (ps.length : Int) := by omega
        have b3 : (k : Int) < (qs.length : Int) := by omega
        by_cases hz : p = q
        · have HT : Hid (ps.take (k + 1) = qs.take (k + 1)) := HY.out hz
          subst hz
          have hn : (p == p) = true := by simp
          go_wp2
          go_quiet (fail)
          go_wp2
          go_roundw
          case rel => exact ⟨k + 1, by omega, by go_num, HT, Ut.below_drewN hbr _⟩
          case measure => simp [intOf]; omega
        · have hn : (p == q) = false := by simp [hz]
          have HZ := Lib.hid hz; clear hz
          go_wp2
          go_quiet (fail)
          go_wp2
          go_ret
          exact ⟨Ut.ret_bool (by rw [HN.out HZ.out]), Ut.below_drewN hbr _⟩
      · obtain rfl : k = ps.length := by omega
        have HG : Hid (decide (ps = qs) = true) := by
          show _ = _
          have e := HE.out
          rw [List.take_length, HL.out, List.take_length] at e
          rw [decide_eq_true_eq]; exact e
        clear HE HL
        go_wp2
        go_ret
        exact ⟨Ut.ret_bool HG.out.symm, hbr⟩
  · have e1 : ((ps.length : Int) != (qs.length : Int)) = true := by rw [bne_iff_ne]; omega
    have HG : Hid (decide (ps = qs) = false) := by
      show _ = _; rw [decide_eq_false_iff_not]; intro e; exact hl (by rw [e])
    clear hl
    go_enter Tryz.func54, Tryz.ntmps54
    go_wp2
    go_ret
    exact ⟨Ut.ret_bool HG.out.symm, Below.refl _ _⟩

end In
end Go.Proofs.YtocoonkachbjaaaGreatDoor

/- lineageref0.CopyInts of any list of numbers, wherever it lies. -/
namespace Go.Proofs.YtocoonkachbjaaaGreatDoor
open Go.RowKit Go.Maps
set_option linter.unusedVariables false
namespace In
theorem cinfo_int : (Tryz.prog.info? 3).map (fun i => (i.zero, i.size, i.bytes)) = some (some (.int .i64 0), 1, 8) := by kernel_rfl
def CpRel (ps : List Int) (w : World) (d i : Value) (wr : World) : Prop :=
  ∃ k : Nat, k ≤ ps.length ∧ i = .int .i64 k ∧ wr.ownsRow w.heap.size 3 1 d k ((ps.take k).map (Value.int .i64)) ∧ Below w.heap.size w wr
theorem CpRel.push {ps : List Int} {w wr w1 : World} {d v' : Value} {k : Nat} {o : Obj} (hown : wr.ownsRow w.heap.size 3 1 d k ((ps.take k).map (Value.int .i64))) (hbl : Below w.heap.size w wr) (h : k < ps.length)
    (hown' : w1.ownsRow w.heap.size 3 1 v' (k + 1) ((ps.take k).map (Value.int .i64) ++ [Value.int .i64 ps[k]])) (hgrow : (wr.alloc o).grownBy w1 d.ownBlock) : CpRel ps w v' (.int .i64 ((k + 1 : Nat) : Int)) w1 :=
  ⟨k + 1, by omega, rfl, by rw [List.take_succ_eq_append_getElem h, List.map_append]; exact hown', Ut.below_app hbl hbl.size hown hgrow⟩

set_option maxRecDepth 100000 in
set_option maxHeartbeats 2000000 in
theorem rcopy_any (v : Value) (ps : List Int) (hl : ps.length ≤ 65536) (w : World) (h1 : IntArg w v ps) :
    Calls Tryz.prog 89 #[v] w fun e w' => (∃ d, e = .returned d ∧ w'.ownsRow w.heap.size 3 1 d ps.length (ps.map (Value.int .i64))) ∧ Below w.heap.size w w' := by
  obtain ⟨p, cap, rfl, h1⟩ := h1
  have H1 := Lib.hid h1
  clear h1
  obtain ⟨i0, hi, hz0, hz1, hz2⟩ := info_parts cinfo_int
  go_enter Tryz.func89, Tryz.ntmps89
  go_wp2
  go_loopw [3, 4] (fun d i wr => CpRel ps w d i wr) (fun _ i _ => ps.length - (intOf i).toNat)
  case atStart => exact ⟨0, Nat.zero_le _, rfl, World.ownsRow_nil _ _ _ _, Below.refl _ _⟩
  case round =>
    obtain ⟨k, hk, rfl, hown, hbr⟩ := hrel
    have HO := Lib.hid hown; have HB := Lib.hid hbr
    have hzw : w.heap.size ≤ wr.heap.size := hbr.size
    clear hown
    have b0 : (0 : Int) ≤ (k : Int) := by omega
    by_cases h : k < ps.length
    · have b1 : (k : Int) < (ps.length : Int) := by omega
      obtain ⟨g1, o1, rfl, hg1, k1⟩ := H1.out k h
      have k1' : wr.cell? ⟨g1, o1 + k, none⟩ = some (.int .i64 ps[k]) := (hbr.cell (p := ⟨g1, o1 + k, none⟩) hg1).trans k1
      have am1 : k + 1 ≤ maxLen := by unfold maxLen; omega
      have am2 : (k + 1) * 8 ≤ 140737488355328 := by omega
      have w1' : IntKind.i64.wrap ((k : Int) + 1) = ((k + 1 : Nat) : Int) := by rw [IntWalk.i64_in _ (by omega)]; rfl
      have HP := Lib.hid (fun (v' : Value) (w1 : World) (d : Value) (o : Obj) (a1 : wr.ownsRow w.heap.size 3 1 d k ((ps.take k).map (Value.int .i64))) (a2 : Below w.heap.size w wr) => CpRel.push (ps := ps) (w := w) (wr := wr) (w1 := w1) (d := d) (v' := v') (k := k) (o := o) a1 a2 h)
      obtain ⟨X, hX⟩ : ∃ X, X = ps[k] := ⟨_, rfl⟩
      rw [← hX] at k1' HP
      clear k1 hX h
      go_wp2_with (at_builtin; refine wpList_append_own _ rfl _ _ 82 rfl w.heap.size 3 i0 (.int .i64 0) 1 8 Tryz.underlying82 hi hz0 hz1 hz2 rfl (by decide) _ _ _ rfl (HO.out.alloc _) ⟨wr.heap.size, 0, none⟩ 1 1 [Value.int .i64 X] rfl rfl (cell_one_new _ _ _) (by intro u hu; simp at hu; subst hu; rfl) am1 am2 (by simp; exact Nat.le_succ_of_le hzw) ?_; intro v' w3 hown' hgrow _)
      have HU := Lib.hid (HP.out _ _ _ _ HO.out HB.out hown' hgrow)
      clear hown' hgrow
      go_wp2
      go_roundw
      case rel => exact HU.out
      case measure => simp [intOf]; omega
    · have b1 : (ps.length : Int) ≤ (k : Int) := by omega
      have e : k = ps.length := by omega
      have h3 := HO.out
      rw [e, List.take_length] at h3
      have HO3 := Lib.hid h3
      clear h h3
      go_wp2
      go_ret
      exact ⟨⟨_, rfl, HO3.out⟩, HB.out⟩
end In
end Go.Proofs.YtocoonkachbjaaaGreatDoor

/- append onto a list of the call's own: the source is another list, a part of it, nil or empty too. No program's code. -/
namespace Go.Proofs.YtocoonkachbjaaaGreatDoor
open Go Go.RowKit
set_option linter.unusedVariables false
namespace Ap

/-- What a source holds: nothing, or these cells from its address on. -/
def SrcAt (w : World) (A : Option Addr) (m size : Nat) (xs : List Value) : Prop :=
  (m = 0 ∧ xs = []) ∨ ∃ ad, A = some ad ∧ xs.length = m * size ∧ ∀ j u, xs[j]? = some u → w.cell? (ad.add j) = some u

section
variable {P : Program} (w : World)

theorem run_nil (base : Nat) (t ty e : TypeId) (i : TypeInfo) (size : Nat) (ht : P.underlying t = some (.slice e)) (hi : P.info? e = some i) (v : Value) (n : Nat) (xs : List Value) (hown : w.ownsRow base e size v n xs) (c : Nat) :
    (Builtin.append_ #[t, t] ty #[v, .slice none 0 c]).run P w = .ok v w := by
  obtain ⟨_, h⟩ := hown
  rcases h with ⟨rfl, rfl⟩ | ⟨gg, cap, cur, rfl, _, _, hnc, _⟩
  · simp [Builtin.append_, run_underlying ht, sizeOf, typeInfo, hi, Builtin.lenOf, Builtin.firstCells]
  · simp [Builtin.append_, run_underlying ht, sizeOf, typeInfo, hi, Builtin.lenOf, Builtin.firstCells, hnc, storeCells]

theorem run_any (base : Nat) (t ty e : TypeId) (i : TypeInfo) (z : Value) (size bytes : Nat) (ht : P.underlying t = some (.slice e)) (hi : P.info? e = some i) (hz : i.zero = some z)
    (hsize : i.size = size) (hby : i.bytes = bytes) (hzs : z.cells.size = size) (hsz : 0 < size) (v : Value) (n : Nat) (xs : List Value) (hown : w.ownsRow base e size v n xs)
    (A : Option Addr) (m c : Nat) (news : List Value) (hr : SrcAt w A m size news) (h1 : ∀ u ∈ news, u.oneCell' = true) (h63 : n + m ≤ maxLen) (hbytes : (n + m) * bytes ≤ 140737488355328) (hbase : base ≤ w.heap.size) :
    ∃ v' w', (Builtin.append_ #[t, t] ty #[v, .slice A m c]).run P w = .ok v' w' ∧ w'.ownsRow base e size v' (n + m) (xs ++ news) ∧ w.grownBy w' v.ownBlock ∧ (v'.ownBlock = v.ownBlock ∨ v'.ownBlock = some w.heap.size) := by
  rcases hr with ⟨rfl, rfl⟩ | ⟨ad, rfl, hl, hc⟩
  · rcases A with _ | ad
    · exact ⟨v, w, run_nil w base t ty e i size ht hi v n xs hown c, by simpa using hown, World.grownBy.refl w _, .inl rfl⟩
    · obtain ⟨v', w', hrun, h2, h3, _, h5⟩ := run_append_own_at (P := P) w base t ty e i z size bytes ht hi hz hsize hby hzs hsz v n xs hown ad 0 c [] (by simp) (fun j u h => by simp at h) h1 h63 hbytes hbase
      exact ⟨v', w', hrun, h2, h3, h5⟩
  · obtain ⟨v', w', hrun, h2, h3, _, h5⟩ := run_append_own_at (P := P) w base t ty e i z size bytes ht hi hz hsize hby hzs hsz v n xs hown ad m c news hl hc h1 h63 hbytes hbase
    exact ⟨v', w', hrun, h2, h3, h5⟩

theorem wpList_any {ops : Array Oper} {rest : List Oper} {o : Oper} {a : Act} {Q : Exit → Act → World → Prop} (hgd : o.guard = none) (s x : Operand) (t : TypeId)
    (ho : o.op = .call { callee := .builtin .append, args := #[s, x], argTypes := #[t, t] })
    (base : Nat) (e : TypeId) (i : TypeInfo) (z : Value) (size bytes : Nat) (ht : P.underlying t = some (.slice e)) (hi : P.info? e = some i) (hz : i.zero = some z)
    (hsize : i.size = size) (hby : i.bytes = bytes) (hzs : z.cells.size = size) (hsz : 0 < size) (v : Value) (n : Nat) (xs : List Value) (hs : a.eval s = v) (hown : w.ownsRow base e size v n xs)
    (A : Option Addr) (m c : Nat) (news : List Value) (hx : a.eval x = .slice A m c) (hr : SrcAt w A m size news) (h1 : ∀ u ∈ news, u.oneCell' = true) (h63 : n + m ≤ maxLen) (hbytes : (n + m) * bytes ≤ 140737488355328) (hbase : base ≤ w.heap.size)
    (h : ∀ v' w', w'.ownsRow base e size v' (n + m) (xs ++ news) → w.grownBy w' v.ownBlock → (v'.ownBlock = v.ownBlock ∨ v'.ownBlock = some w.heap.size) → wpList P ops Q rest (a.put o.dst v') w') : wpList P ops Q (o :: rest) a w := by
  refine wpList_plain hgd fun K hK => ?_
  obtain ⟨v', w', hr, h2, h3, h4⟩ := run_any (P := P) w base t o.type e i z size bytes ht hi hz hsize hby hzs hsz v n xs hown A m c news hr h1 h63 hbytes hbase
  unfold Oper.wp execOp
  simp only [ho, resolve, invoke, builtin, Sem.run_bind, Sem.run_pure, Result.andThen_ok, List.map_toArray, List.map_cons, List.map_nil, hs, hx, hr]
  exact hK _ _ (h v' w' h2 h3 h4)

theorem step_any {ops : Array Oper} {o : Oper} {a : Act} {K : Act → World → Prop} {Q : Exit → Act → World → Prop} {E : Prop} (hgd : o.guard = none) (s x : Operand) (t : TypeId)
    (ho : o.op = .call { callee := .builtin .append, args := #[s, x], argTypes := #[t, t] })
    (base : Nat) (e : TypeId) (i : TypeInfo) (z : Value) (size bytes : Nat) (ht : P.underlying t = some (.slice e)) (hi : P.info? e = some i) (hz : i.zero = some z)
    (hsize : i.size = size) (hby : i.bytes = bytes) (hzs : z.cells.size = size) (hsz : 0 < size) (v : Value) (n : Nat) (xs : List Value) (hs : a.eval s = v) (hown : w.ownsRow base e size v n xs)
    (A : Option Addr) (m c : Nat) (news : List Value) (hx : a.eval x = .slice A m c) (hr : SrcAt w A m size news) (h1 : ∀ u ∈ news, u.oneCell' = true) (h63 : n + m ≤ maxLen) (hbytes : (n + m) * bytes ≤ 140737488355328) (hbase : base ≤ w.heap.size)
    (h : ∀ v' w', w'.ownsRow base e size v' (n + m) (xs ++ news) → w.grownBy w' v.ownBlock → (v'.ownBlock = v.ownBlock ∨ v'.ownBlock = some w.heap.size) → K (a.put o.dst v') w') :
    if Region.wanted o (yielded ops a.tmps) = true then Oper.wp P o a w K Q else E := by
  have hw : Region.wanted o (yielded ops a.tmps) = true := by simp [Region.wanted, hgd]
  rw [if_pos hw]
  obtain ⟨v', w', hr, h2, h3, h4⟩ := run_any (P := P) w base t o.type e i z size bytes ht hi hz hsize hby hzs hsz v n xs hown A m c news hr h1 h63 hbytes hbase
  unfold Oper.wp execOp
  simp only [ho, resolve, invoke, builtin, Sem.run_bind, Sem.run_pure, Result.andThen_ok, List.map_toArray, List.map_cons, List.map_nil, hs, hx, hr]
  exact h v' w' h2 h3 h4
end

theorem add_add_ (a : Addr) (i j : Nat) : (a.add i).add j = a.add (i + j) := by
  unfold Addr.add
  by_cases hi : i = 0 <;> by_cases hj : j = 0 <;> simp [hi, hj, Nat.add_assoc]
theorem add_plain (gv k : Nat) : (⟨gv, 0, none⟩ : Addr).add k = ⟨gv, k, none⟩ := by
  unfold Addr.add
  by_cases h : k = 0
  · subst h; simp
  · simp [h]

/-- The back part of a list of the call's own, whatever the model spells where the cut is at the very end. -/
theorem SrcAt.back {w : World} {base e size n k cap : Nat} {q : Option Addr} {xs : List Value} (h : w.ownsRow base e size (.slice q n cap) n xs) (hk : k ≤ n) : SrcAt w (if cap = k then q else q.map (·.add (k * size))) (n - k) size (xs.drop (k * size)) := by
  obtain ⟨hl, h2⟩ := h
  by_cases he : k = n
  · subst he
    exact .inl ⟨by omega, by rw [← hl]; simp⟩
  · rcases h2 with ⟨h2, h3⟩ | ⟨gg, c, cur, h2, h3, h4, h5, h6, h7, h8⟩
    · injection h2 with _ h2 _; omega
    · injection h2 with e1 e2 e3
      subst e1 e3
      rw [if_neg (by omega)]
      refine .inr ⟨_, rfl, by rw [List.length_drop, hl, Nat.sub_mul], fun j u hu => ?_⟩
      show w.cell? (Addr.add (Addr.add ⟨gg, 0, none⟩ (k * size)) j) = some u
      rw [add_add_, add_plain]
      rw [List.getElem?_drop] at hu
      have hlt : k * size + j < n * size := by rw [← hl]; exact (List.getElem?_eq_some_iff.1 hu).1
      have := World.ownsRow.cellAt (w := w) (base := base) (e := e) (size := size) (n := n) (xs := xs) (g := gg) (cap := cap) ⟨hl, .inr ⟨gg, cap, cur, rfl, h3, h4, h5, h6, h7, h8⟩⟩ (k * size + j) (by omega)
      rw [this]; exact hu
end Ap
end Go.Proofs.YtocoonkachbjaaaGreatDoor

/- Reslicing, its address a letter: no ways. No program's code. -/
namespace Go.Proofs.YtocoonkachbjaaaGreatDoor
open Go.RowKit
set_option linter.unusedVariables false
set_option linter.unusedSimpArgs false
namespace Sl
theorem run_low {P : Program} (t e : TypeId) (q : Option Addr) (n c a size : Nat) (hu : P.underlying t = some (.slice e)) (hsz : (P.info? e).map (·.size) = some size) (ha : a ≤ n) (hn : n ≤ c) :
    ∃ q', q' = (if c = a then q else q.map (·.add (a * size))) ∧ ∀ w : World, (Instr.slice t (.slice q n c) (some (.int .i64 (a : Int))) none none).run P w = .ok (.slice q' (n - a) (c - a)) w := by
  refine ⟨_, rfl, fun w => ?_⟩
  cases hi : P.info? e with
  | none => simp [hi] at hsz
  | some i =>
    have hs : i.size = size := by simpa [hi] using hsz
    unfold Instr.slice Instr.sliceBounds
    have h0 : (0 : Int) ≤ (a : Int) := by omega
    have h1 : (a : Int) ≤ (n : Int) := by omega
    have hb := run_sliceBound (P := P) (w := w) .i64 (a : Int) n
    simp [run_underlying hu, run_sliceBound, ha, hn, sizeOf, typeInfo, hi, hs, Sem.run_bind]
theorem run_high {P : Program} (t e : TypeId) (q : Option Addr) (n c a : Nat) (hu : P.underlying t = some (.slice e)) (hsz : (P.info? e).isSome = true) (ha : a ≤ c) (w : World) :
    (Instr.slice t (.slice q n c) none (some (.int .i64 (a : Int))) none).run P w = .ok (.slice q a c) w := by
  cases hi : P.info? e with
  | none => simp [hi] at hsz
  | some i =>
    unfold Instr.slice Instr.sliceBounds
    have e0 : q.map (·.add 0) = q := by cases q with
      | none => rfl
      | some x => simp [Addr.add]
    by_cases hc : c = 0
    · have h0 : a = 0 := by omega
      subst hc h0
      simp [run_underlying hu, run_sliceBound, sizeOf, typeInfo, hi, Sem.run_bind]
    · simp [run_underlying hu, run_sliceBound, ha, sizeOf, typeInfo, hi, Sem.run_bind, hc, e0]
end Sl
end Go.Proofs.YtocoonkachbjaaaGreatDoor
