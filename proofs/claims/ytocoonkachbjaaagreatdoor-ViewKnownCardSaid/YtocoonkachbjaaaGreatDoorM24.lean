/- Several texts in one: what each proves its own first comment says. -/
import Derived.Test.YtocoonkachbjaaaGreatDoorM19
import Derived.Test.YtocoonkachbjaaaGreatDoorM23
import Derived.Test.YtocoonkachbjaaaGreatDoorM11
import Derived.Test.YtocoonkachbjaaaGreatDoorM22
import Derived.Test.YtocoonkachbjaaaGreatDoorM21
import Derived.Test.YtocoonkachbjaaaGreatDoorM18

/- ViewSame's plain law: the tree is what stands below each login, one behind the other; and the list of lines in its box. -/
namespace Go.Proofs.YtocoonkachbjaaaGreatDoor
open Go.RowKit Go.Proofs.NmPlain Go.Proofs.YtocoonkachbjaaaGreatDoor.Sc
set_option linter.unusedVariables false
namespace Vw
theorem own_first {ss : List Sess} (h : Own ss ss.length) {r : Nat} (hr : r < ss.length) : firstL ss ss[r].birth = some r := by
  unfold firstL
  rw [List.findIdx?_eq_some_iff_getElem]
  refine ⟨hr, by simp, fun j hj => ?_⟩
  have h1 := h r j hr (Nat.lt_trans hj hr) hr hj
  intro e
  exact h1 (by simpa using (of_decide_eq_true e).symm)
/-- The birth at a place. -/
def birthAt (ss : List Sess) (r : Nat) : Int := match ss[r]? with
  | some s => s.birth
  | none => 0
theorem birthAt_at {ss : List Sess} {r : Nat} (h : r < ss.length) : birthAt ss r = ss[r].birth := by unfold birthAt; rw [List.getElem?_eq_getElem h]
/-- What stands below these, one behind the other. -/
def wantL (ss : List Sess) (rs : List Nat) : List (Nat × Nat) := rs.flatMap fun r => preL ss (birthAt ss r)
theorem wantL_snoc (ss : List Sess) (rs : List Nat) (r : Nat) : wantL ss (rs ++ [r]) = wantL ss rs ++ preL ss (birthAt ss r) := by simp [wantL, List.flatMap_append]
theorem pre_each (kids : Nat → List Nat) (f far : Nat) : ∀ l : List Nat, Vt.pre kids f far l = l.flatMap fun r => Vt.pre kids f far [r]
  | [] => by rw [Vt.pre_nil]; rfl
  | r :: l => by
    have e : r :: l = [r] ++ l := rfl
    rw [e, Vt.pre_append, pre_each kids f far l]
    simp
theorem flatMap_same {α β : Type} {f g : α → List β} : ∀ {l : List α}, (∀ a ∈ l, f a = g a) → l.flatMap f = l.flatMap g
  | [], _ => rfl
  | a :: l, h => by rw [List.flatMap_cons, List.flatMap_cons, h a List.mem_cons_self, flatMap_same (fun b hb => h b (List.mem_cons_of_mem _ hb))]
theorem wantL_all {ss : List Sess} (h : Own ss ss.length) : wantL ss (kidsOf ss 0) = ordV ss := by
  have e : kidsOf ss 0 = Vt.roots (bu ss) ss.length := by unfold kidsOf; rw [if_pos rfl]
  rw [e]
  unfold wantL ordV
  rw [pre_each]
  refine flatMap_same (fun r hr => ?_)
  have hlt := Vt.roots_lt _ _ r hr
  rw [birthAt_at hlt, preL_pre, own_first h hlt]
theorem wantL_len {ss : List Sess} (h : Own ss ss.length) {rs : List Nat} (hp : rs <+: kidsOf ss 0) : (wantL ss rs).length ≤ ss.length := by
  obtain ⟨t, ht⟩ := hp
  have h1 := congrArg List.length (wantL_all h)
  rw [← ht, ordV_len] at h1
  unfold wantL at h1 ⊢
  rw [List.flatMap_append, List.length_append] at h1
  omega
/-- The lines, as far as they have come, in their box. -/
structure SU (W8 : World) (b8 : Nat) (d : Value) (xs : List ByteArray) (Fp : Nat → Prop) (A : World) : Prop where
  box : Boxed A b8 22 d
  row : A.ownsRow (b8 + 1) 9 1 d xs.length (xs.map Value.string)
  fp : ∀ b, Fp b ↔ b = b8 ∨ d.ownBlock = some b
  bel : Below b8 W8 A
theorem SU.far {W8 A : World} {b8 : Nat} {d : Value} {xs : List ByteArray} {Fp : Nat → Prop} (h : SU W8 b8 d xs Fp A) {b : Nat} (hb : Fp b) : b8 ≤ b := by
  rcases (h.fp b).1 hb with h1 | h1
  · omega
  · have := (h.row.lt b h1).1; omega
theorem SU.turn {W8 A A' : World} {b8 : Nat} {d : Value} {xs : List ByteArray} {Fp : Nat → Prop} {row : Option Nat} (h : SU W8 b8 d xs Fp A) (hg : A.grownBy A' row) (hrow : ∀ r, row = some r → b8 + 1 ≤ r ∧ ¬ Fp r) : SU W8 b8 d xs Fp A' := by
  have hlt := h.box.lt
  exact ⟨h.box.kept hg (fun e => by have := (hrow _ e.symm).1; omega), own_keep h.row (fun b e => hg.block b (h.row.lt b e).2 (fun e2 => (hrow b e2.symm).2 ((h.fp b).2 (.inr e)))), h.fp, h.bel.grown hg (by omega) (fun k e => by have := (hrow k e).1; omega)⟩
theorem SU.below {W8 A A' : World} {b8 : Nat} {d : Value} {xs : List ByteArray} {Fp : Nat → Prop} (h : SU W8 b8 d xs Fp A) (hb : Below A.heap.size A A') : SU W8 b8 d xs Fp A' :=
  h.turn (row := none) ⟨hb.os, hb.tape, hb.output, hb.size, fun k hk _ => hb.block k hk⟩ (fun r e => by cases e)
theorem SU.push {W8 A w1 : World} {b8 : Nat} {d v' : Value} {xs : List ByteArray} {x : ByteArray} {Fp : Nat → Prop} {o1 : Obj} (h : SU W8 b8 d xs Fp A)
    (hown' : w1.ownsRow (b8 + 1) 9 1 v' (xs.length + 1) (xs.map Value.string ++ [.string x])) (hgrow : (A.alloc o1).grownBy w1 d.ownBlock) (hat : v'.ownBlock = d.ownBlock ∨ v'.ownBlock = some (A.alloc o1).heap.size) :
    Boxed w1 b8 22 d ∧ ∃ Fp', SU W8 b8 v' (xs ++ [x]) Fp' (w1.setCell ⟨b8, 0, none⟩ v') ∧ Only Fp A (w1.setCell ⟨b8, 0, none⟩ v') ∧ ∀ b, Fp' b → Fp b ∨ A.heap.size ≤ b := by
  obtain ⟨p1, p2, p3, p4, p5⟩ := push_box h.box (Nat.lt_succ_self _) h.row hown' hgrow hat
  have hlt := h.box.lt
  refine ⟨p1, fun b => b = b8 ∨ v'.ownBlock = some b, ⟨p2, ?_, fun b => Iff.rfl, h.bel.trans (p4.below (by omega) (fun i hi hf => by have := h.far ((h.fp i).2 hf); omega))⟩, p4.mono (fun i _ hi => (h.fp i).2 hi), ?_⟩
  · rw [List.length_append, List.map_append]; exact p3
  · rintro b (rfl | h1)
    · exact .inl ((h.fp _).2 (.inl rfl))
    · exact (p5 b h1).imp (fun h2 => (h.fp b).2 (.inr h2)) id
theorem padS_step (m : Nat) (L : ByteArray) : (⟨#[32, 32]⟩ : ByteArray) ++ (padS m ++ L) = padS (m + 1) ++ L := by
  have h1 : ((⟨#[32, 32]⟩ : ByteArray) ++ (padS m ++ L)).data.toList = (padS (m + 1) ++ L).data.toList := by
    rw [ByteArray.data_append, Array.toList_append, ByteArray.data_append, Array.toList_append, ByteArray.data_append, Array.toList_append]
    show [32, 32] ++ (Lib.repeatL [32, 32] m ++ _) = ([32, 32] ++ Lib.repeatL [32, 32] m) ++ _
    rw [List.append_assoc]
  exact ByteArray.ext (Array.toList_inj.1 h1)
theorem padS_zero (L : ByteArray) : padS 0 ++ L = L := by
  have h1 : (padS 0 ++ L).data.toList = L.data.toList := by
    rw [ByteArray.data_append, Array.toList_append]; rfl
  exact ByteArray.ext (Array.toList_inj.1 h1)
end Vw
end Go.Proofs.YtocoonkachbjaaaGreatDoor

/- ViewKids: the law's walk. -/
namespace Go.Proofs.YtocoonkachbjaaaGreatDoor
open Go.RowKit Go.Proofs.Ar
set_option linter.unusedVariables false
namespace Vw
attribute [local go_sem] Oper.semAt_some
theorem res_bool {fn : Func} {p : Tmp} (h : fn.results = #[.cell p 4]) (tmps : Array Value) (w : World) (g : Nat) (v : Value) (hp : tmps.getD p undef = .pointer (some ⟨g, 0, none⟩)) (hb : Boxed w g 4 v) : (results fn tmps).run Tryz.prog w = .ok v w := by
  have hp' : tmps[p]?.getD undef = .pointer (some ⟨g, 0, none⟩) := by simpa using hp
  have hu := run_underlying Tryz.underlying4 w
  have hc := hb.cell
  have hl : (loadVar 4 ⟨g, 0, none⟩).run Tryz.prog w = .ok v w := by
    simp [loadVar, isAgg, Sem.run_bind, hu, go_sem, hc]
  simp [results, h, hp', asAddr, hl]
/-- Those one step below. -/
def fil (l : List (Nat × Nat)) : List Nat := (l.filter fun x => decide (x.1 = 1)).map Prod.snd
theorem fil_yes (l : List (Nat × Nat)) (i : Nat) : fil (l ++ [(1, i)]) = fil l ++ [i] := by simp [fil, List.filter_append]
theorem fil_no (l : List (Nat × Nat)) (x : Nat × Nat) (h : x.1 ≠ 1) : fil (l ++ [x]) = fil l := by simp [fil, List.filter_append, h]
theorem fil_len (l : List (Nat × Nat)) : (fil l).length ≤ l.length := by
  unfold fil; rw [List.length_map]; exact List.length_filter_le _ _
/-- The list of those one step below, as far as it has come, in its box. -/
structure VU (ss : List Sess) (w : World) (base R b5 b6 : Nat) (bi : Int) (d : Value) (l : List Nat) (Fp : Nat → Prop) (A : World) : Prop where
  box : Boxed A b6 42 d
  row : A.ownsRow base 30 12 d l.length (csL ss l)
  fp : ∀ b, Fp b ↔ b = b6 ∨ d.ownBlock = some b
  res : Boxed A R 4 (.bool false)
  bir : Boxed A b5 3 (.int .i64 bi)
  bel : Below w.heap.size w A
  ord : w.heap.size ≤ R ∧ R < b5 ∧ b5 < b6 ∧ b6 < base
theorem VU.turn {ss : List Sess} {w A A' : World} {base R b5 b6 : Nat} {bi : Int} {d : Value} {l : List Nat} {Fp : Nat → Prop} {row : Option Nat} (h : VU ss w base R b5 b6 bi d l Fp A) (hg : A.grownBy A' row) (hrow : ∀ r, row = some r → base ≤ r ∧ ¬ Fp r) : VU ss w base R b5 b6 bi d l Fp A' := by
  obtain ⟨o1, o2, o3, o4⟩ := h.ord
  have hne : ∀ b, b < base → some b ≠ row := fun b hb e => by have := (hrow b e.symm).1; omega
  have hlt := h.box.lt
  exact ⟨h.box.kept hg (hne _ o4), own_keep h.row (fun b e => hg.block b (h.row.lt b e).2 (fun e2 => (hrow b e2.symm).2 ((h.fp b).2 (.inr e)))), h.fp, h.res.kept hg (hne _ (by omega)), h.bir.kept hg (hne _ (by omega)),
    h.bel.grown hg (by omega) (fun k e => by have := (hrow k e).1; omega), h.ord⟩
theorem VU.push {ss : List Sess} {w A w1 : World} {base R b5 b6 : Nat} {bi : Int} {d v' : Value} {l : List Nat} {x : Nat} {Fp : Nat → Prop} {o1 : Obj} (h : VU ss w base R b5 b6 bi d l Fp A)
    (hown' : w1.ownsRow base 30 12 v' (l.length + 1) (csL ss l ++ csAt ss x)) (hgrow : (A.alloc o1).grownBy w1 d.ownBlock) (hat : v'.ownBlock = d.ownBlock ∨ v'.ownBlock = some (A.alloc o1).heap.size) :
    Boxed w1 b6 42 d ∧ ∃ Fp', VU ss w base R b5 b6 bi v' (l ++ [x]) Fp' (w1.setCell ⟨b6, 0, none⟩ v') ∧ Only Fp A (w1.setCell ⟨b6, 0, none⟩ v') ∧ ∀ b, Fp' b → Fp b ∨ A.heap.size ≤ b := by
  obtain ⟨o1, o2, o3, o4⟩ := h.ord
  obtain ⟨p1, p2, p3, p4, p5⟩ := push_box h.box o4 h.row hown' hgrow hat
  have hlt := h.box.lt
  have far : ∀ b, (b = b6 ∨ d.ownBlock = some b) → b6 ≤ b := fun b hb => by
    rcases hb with h1 | h1
    · omega
    · have := (h.row.lt b h1).1; omega
  refine ⟨p1, fun b => b = b6 ∨ v'.ownBlock = some b, ⟨p2, ?_, fun b => Iff.rfl, (p4.block R (by omega) (fun hf => by have := far _ hf; omega)).trans h.res, (p4.block b5 (by omega) (fun hf => by have := far _ hf; omega)).trans h.bir, h.bel.trans (p4.below (by omega) (fun i hi hf => by have := far _ hf; omega)), h.ord⟩, p4.mono (fun i _ hi => (h.fp i).2 hi), ?_⟩
  · rw [List.length_append, csL_snoc]; exact p3
  · rintro b (rfl | h1)
    · exact .inl ((h.fp _).2 (.inl rfl))
    · exact (p5 b h1).imp (fun h2 => (h.fp b).2 (.inr h2)) id

set_option maxRecDepth 100000 in
set_option maxHeartbeats 2000000 in
theorem viewKids_core (v : Value) (ss : List Sess) (hlm : (ss.length : Int) ≤ 9223372036854775807) (hwf : ∀ s ∈ ss, (Lit.int .i64 s.birth).wf = true ∧ (Lit.int .i64 s.ub).wf = true) (which : Int) (w : World) (he : VEnv w) (h1 : SessArg w v ss) :
    Calls Tryz.prog 60 #[v, .int .i64 which] w fun e w' => e = .returned (.bool true) ∧ Below w.heap.size w w' := by
  obtain ⟨p0, c0, rfl, -⟩ := id h1
  have HA := Lib.hid h1
  obtain ⟨W1, hW1⟩ : ∃ W1, W1 = w.alloc (.cells #[.bool false] 4) := ⟨_, rfl⟩
  have hb1 : Below w.heap.size w W1 := by rw [hW1]; exact (Below.refl _ _).alloc (Nat.le_refl _) _
  have hx1 : Boxed W1 w.heap.size 4 (.bool false) := by rw [hW1]; exact Boxed.new _ _ _
  have HB1 := Lib.hid hb1
  have HFIN := Lib.hid (fun (w' : World) (hb : Below W1.heap.size W1 w') => (by
    have hx : Boxed w' w.heap.size 4 (.bool false) := (hb.block _ hx1.lt).trans hx1
    exact ⟨hx.cell, hx.frozen, hx.set _, (hb1.trans (hb.mono hb1.size)).setCell (p := ⟨w.heap.size, 0, none⟩) (Nat.le_refl _) _⟩ : w'.cell? ⟨w.heap.size, 0, none⟩ = some (.bool false) ∧ w'.frozen? ⟨w.heap.size, 0, none⟩ = false ∧ Boxed (w'.setCell ⟨w.heap.size, 0, none⟩ (.bool true)) w.heap.size 4 (.bool true) ∧ Below w.heap.size w (w'.setCell ⟨w.heap.size, 0, none⟩ (.bool true))))
  have HX1 := Lib.hid hx1
  have HWK := Lib.hid (fun (w' : World) (hb : Below W1.heap.size W1 w') => vworks_any w' (he.below (hb1.trans (hb.mono hb1.size))))
  have HTW := Lib.hid (fun (w' : World) (hb : Below W1.heap.size W1 w') (hle : (ss.length : Int) ≤ 100) => twice_any _ ss (by omega) w' (h1.below (hb1.trans (hb.mono hb1.size))))
  clear he hb1 hx1
  by_cases hn0 : ss.length = 0
  · obtain rfl := List.eq_nil_of_length_eq_zero hn0
    clear hlm hn0 HTW HA hwf h1
    go_enter Tryz.func60, Tryz.ntmps60
    go_wp2_with fail
    rw [← hW1]
    clear hW1
    refine (HWK.out _ (Below.refl _ _)).mono ?_
    rintro e w2 ⟨rfl, hb2⟩
    have HB2 := Lib.hid hb2
    clear hb2
    go_wp2_with fail
    refine (HWK.out _ HB2.out).mono ?_
    rintro e w3 ⟨rfl, hb3⟩
    obtain ⟨f1, f2, f3, f4⟩ := HFIN.out w3 (HB2.out.trans (hb3.mono HB2.out.size))
    have F3 := Lib.hid f3; have F4 := Lib.hid f4
    clear f3 f4 hb3
    go_wp2_with fail
    refine bodyPost_ret (res_bool rfl _ _ w.heap.size _ rfl F3.out) rfl ?_
    exact ⟨rfl, F4.out⟩
  by_cases hbig : 100 < ss.length
  · have b1 : (100 : Int) < (ss.length : Int) := by omega
    clear hlm hn0 HTW HA hwf h1 hbig
    go_enter Tryz.func60, Tryz.ntmps60
    go_wp2_with fail
    rw [← hW1]
    clear hW1
    refine (HWK.out _ (Below.refl _ _)).mono ?_
    rintro e w2 ⟨rfl, hb2⟩
    have HB2 := Lib.hid hb2
    clear hb2
    go_wp2_with fail
    refine (HWK.out _ HB2.out).mono ?_
    rintro e w3 ⟨rfl, hb3⟩
    obtain ⟨f1, f2, f3, f4⟩ := HFIN.out w3 (HB2.out.trans (hb3.mono HB2.out.size))
    have F3 := Lib.hid f3; have F4 := Lib.hid f4
    clear f3 f4 hb3
    go_wp2_with fail
    refine bodyPost_ret (res_bool rfl _ _ w.heap.size _ rfl F3.out) rfl ?_
    exact ⟨rfl, F4.out⟩
  have b1 : (ss.length : Int) ≤ 100 := by omega
  have b2 : ((ss.length : Int) == 0) = false := by rw [beq_eq_false_iff_ne]; omega
  have b3 : decide (100 < (ss.length : Int)) = false := decide_eq_false (by omega)
  have HLN := Lib.hid (show 0 < ss.length ∧ ss.length ≤ 100 by omega)
  have HWF := Lib.hid hwf
  clear hlm hn0 hbig hwf h1
  refine (callsIn_wide (n := 9)).1 ?_
  refine callsIn_of_wp_marks Tryz.func60 rfl trivial ?_ rfl
  simp only [Tryz.ntmps60, List.size_toArray, List.length_cons, List.length_nil, Nat.reduceAdd, Nat.reduceSub, Array.replicate_succ, Array.replicate_zero, List.push_toArray, List.append_toArray, List.nil_append, List.cons_append]
  refine wpIn_wide.2 ?_
  go_wp2_with fail
  rw [← hW1]
  clear hW1
  refine (HWK.out _ (Below.refl _ _)).mono ?_
  rintro e w2 ⟨rfl, hb2⟩
  have HB2 := Lib.hid hb2
  clear hb2
  go_wp2_with fail
  refine (HTW.out _ HB2.out b1).mono ?_
  rintro e w3 ⟨⟨q, rfl, hq⟩, hb3⟩
  have HB3 : Hid (Below W1.heap.size W1 w3) := HB2.out.trans (hb3.mono HB2.out.size)
  clear hq hb3 HTW
  cases q with
  | true =>
    go_wp2_with fail
    refine (HWK.out _ HB3.out).mono ?_
    rintro e w4 ⟨rfl, hb4⟩
    obtain ⟨f1, f2, f3, f4⟩ := HFIN.out w4 (HB3.out.trans (hb4.mono HB3.out.size))
    have F3 := Lib.hid f3; have F4 := Lib.hid f4
    clear f3 f4 hb4
    go_wp2_with fail
    exact ⟨_, res_bool rfl _ _ w.heap.size _ rfl F3.out, rfl, F4.out⟩
  | false =>
    obtain ⟨j, hj⟩ : ∃ j : Nat, which % (ss.length : Int) = (j : Int) := ⟨(which % (ss.length : Int)).toNat, by have := Int.emod_nonneg which (b := (ss.length : Int)) (by have := HLN.out; omega); omega⟩
    have hjl : j < ss.length := by have := Int.emod_lt_of_pos which (b := (ss.length : Int)) (by have := HLN.out; omega); omega
    have hpk := Pk.pick_any which ss.length (by have := HLN.out; omega) (by omega) w3
    rw [hj] at hpk
    have HPK := Lib.hid hpk
    have j0 : (0 : Int) ≤ (j : Int) := by omega
    have j1 : (j : Int) < (ss.length : Int) := by omega
    obtain ⟨g1, o1, rfl, hg1, k1⟩ := HA.out.at hjl
    have hx : w3.cell? ⟨g1, o1 + j * 12 + 1, none⟩ = some (.int .i64 ss[j].birth) := ((HB1.out.trans (HB3.out.mono HB1.out.size)).cell (p := ⟨g1, o1 + j * 12 + 1, none⟩) hg1).trans (k1 1 _ rfl)
    obtain ⟨bi, hbi⟩ : ∃ bi, bi = ss[j].birth := ⟨_, rfl⟩
    rw [← hbi] at hx
    have HJ := Lib.hid hjl
    clear hpk hj hjl k1 hbi
    go_wp2_with fail
    refine HPK.out.mono ?_
    rintro e w4 ⟨rfl, rfl⟩
    have hb4 : Below W1.heap.size W1 (w3.alloc (.cells #[.int .i64 bi] 3)) := HB3.out.alloc HB3.out.size _
    have HB4 := Lib.hid hb4
    by_cases hz : bi = 0
    · have hq : (bi == 0) = true := by simp [hz]
      obtain ⟨f1, f2, f3, f4⟩ := HFIN.out _ hb4
      have F3 := Lib.hid f3; have F4 := Lib.hid f4
      clear f3 f4 hb4 hz
      go_wp2_with fail
      exact ⟨_, res_bool rfl _ _ w.heap.size _ rfl F3.out, rfl, F4.out⟩
    have hq : (bi == 0) = false := by simp [hz]
    have HBZ := Lib.hid hz
    obtain ⟨W6, hW6⟩ : ∃ W6, W6 = (w3.alloc (.cells #[.int .i64 bi] 3)).alloc (.cells #[.slice none 0 0] 42) := ⟨_, rfl⟩
    have hs6 : W6.heap.size = w3.heap.size + 2 := by rw [hW6, World.size_alloc, World.size_alloc]
    have hb36 : Below w3.heap.size w3 W6 := by rw [hW6]; exact ((Below.refl _ _).alloc (Nat.le_refl _) _).alloc (by simp) _
    have hx5 : Boxed W6 w3.heap.size 3 (.int .i64 bi) := by rw [hW6]; exact (Boxed.new w3 3 (.int .i64 bi)).alloc _
    have hx6 : Boxed W6 (w3.heap.size + 1) 42 (.slice none 0 0) := by
      rw [hW6]
      have := Boxed.new (w3.alloc (.cells #[.int .i64 bi] 3)) 42 (.slice none 0 0)
      rwa [World.size_alloc] at this
    have hxR : Boxed W6 w.heap.size 4 (.bool false) := (hb36.block _ (Nat.lt_of_lt_of_le HX1.out.lt HB3.out.size)).trans ((HB3.out.block _ HX1.out.lt).trans HX1.out)
    have hbw6 : Below w.heap.size w W6 := HB1.out.trans ((HB3.out.trans (hb36.mono HB3.out.size)).mono HB1.out.size)
    have c5 := hx5.cell
    have HS6 := Lib.hid hs6; have HX5 := Lib.hid hx5; have HX6 := Lib.hid hx6; have HXR := Lib.hid hxR; have HBW6 := Lib.hid hbw6
    have HPR := Lib.hid (vpre_any _ ss (by have := HLN.out; omega) HWF.out bi W6 (HA.out.below hbw6))
    clear hb4 hz hs6 hb36 hx5 hx6 hxR hbw6
    go_wp2_with fail
    rw [← hW6]
    clear hW6
    refine HPR.out.mono ?_
    rintro e w7 ⟨⟨bf, bq, rfl, hseq⟩, hb7⟩
    have HSEQ := Lib.hid (hseq 8); have HB7 := Lib.hid hb7
    have HU0 : Hid (VU ss w W6.heap.size w.heap.size w3.heap.size (w3.heap.size + 1) bi (.slice none 0 0) (fil []) (fun b => b = w3.heap.size + 1) w7) :=
      ⟨(hb7.block _ HX6.out.lt).trans HX6.out, World.ownsRow_nil _ _ _ _, fun b => ⟨.inl, fun h => h.elim id (fun h => by cases h)⟩, (hb7.block _ HXR.out.lt).trans HXR.out, (hb7.block _ HX5.out.lt).trans HX5.out, HBW6.out.trans (hb7.mono HBW6.out.size),
        ⟨Nat.le_refl _, by have h1 := HX1.out.lt; have h2 := HB3.out.size; omega, Nat.lt_succ_self _, by have := HS6.out; omega⟩⟩
    obtain ⟨i0, hi0, hz0, hz1, hz2⟩ := info_parts vinfo_sess
    clear hseq hb7 HPR
    go_wp2_with fail
    refine (wpIn_wide (n := 9)).1 ?_
    refine Fo.range_foot_new (F := Fence.wide) (n := 9) rfl (by omega) (gf := 92) (lb := #[.pointer (some ⟨bf, 0, none⟩), .pointer (some ⟨bq, 0, none⟩)]) rfl trivial (enters_of Tryz.func92 (by kernel_rfl) rfl)
      HSEQ.out (fun _ => rfl) (fun b hb => ⟨hb.2, rfl⟩)
      (fun pre Fp A => ∃ d, VU ss w W6.heap.size w.heap.size w3.heap.size (w3.heap.size + 1) bi d (fil pre) Fp A) (fun _ _ _ _ => False) (fun b => b = w3.heap.size + 1) (fun b hb => ⟨by have := HS6.out; have := HB7.out.size; omega, fun h => by have := h.1; have := HS6.out; omega⟩)
      ?hU (fun _ _ _ _ _ _ h _ _ _ => h) ⟨_, HU0.out⟩
      (fun x b => { tmps := #[.slice (some ⟨g1, o1, none⟩) ss.length c0, .int .i64 which, undef, undef, .pointer (some ⟨w.heap.size, 0, none⟩), .pointer (some ⟨w3.heap.size, 0, none⟩), .pointer (some ⟨w3.heap.size + 1, 0, none⟩), .int .i64 (x.1 : Int), .pointer (some ⟨b, 0, none⟩), .bool true, .bool false, .bool false, .slice (some ⟨g1, o1, none⟩) ss.length c0, .int .i64 ss.length, .bool false, .bool false, .bool false, .slice (some ⟨g1, o1, none⟩) ss.length c0, .int .i64 ss.length, .bool false, .bool false, .bool false, .slice (some ⟨g1, o1, none⟩) ss.length c0, .bool false, .bool false, undef, .slice (some ⟨g1, o1, none⟩) ss.length c0, .int .i64 which, .slice (some ⟨g1, o1, none⟩) ss.length c0, .int .i64 ss.length, .int .i64 j, .pointer (some ⟨g1, o1 + j * 12, none⟩), .pointer (some ⟨g1, o1 + j * 12 + 1, none⟩), .int .i64 bi, .int .i64 bi, .bool false, .slice (some ⟨g1, o1, none⟩) ss.length c0, .int .i64 bi, .func (.func 92) #[] #[.pointer (some ⟨bf, 0, none⟩), .pointer (some ⟨bq, 0, none⟩)], .int .i64 (x.1 : Int), .agg (csAt ss x.2).toArray, undef, undef, undef, undef, undef, undef, undef, undef, undef, undef, undef, undef, undef, undef, undef, undef, undef, undef, undef, undef], defers := [] })
      (fun x => .cells (csAt ss x.2).toArray 30)
      ?assign ?body ?done (fun _ _ _ _ _ _ _ h => h.elim)
    case hU =>
      rintro pre Fp A A' row ⟨d, h1⟩ hsz hg hrow
      exact ⟨d, h1.turn hg (fun r e => ⟨by have := (hrow r e).1; have := HB7.out.size; omega, (hrow r e).2⟩)⟩
    case assign =>
      rintro l2 x A K ⟨pre, hpre⟩ hK
      have hin : x.2 < ss.length := preL_lt ss bi x (hpre.subset (by simp))
      unfold encP
      obtain ⟨cs, hcs⟩ : ∃ cs, cs = csAt ss x.2 := ⟨_, rfl⟩
      have HCL : Hid (cs.length = 12) := by show _ = _; rw [hcs]; exact cs_len hin
      have HC1 : Hid (∀ u ∈ cs, u.oneCell' = true) := by show ∀ _, _; rw [hcs, csAt_at hin]; exact ss[x.2].one
      rw [← hcs] at hK ⊢
      clear hcs hin hpre
      gi_wp2_with (refine Ag.wpListIn_store_new (by rfl) 30 (.tmp 8) (.tmp 40) (by rfl) cs (by rfl) (by rfl) (by rw [HCL.out]; kernel_rfl) (by rw [HCL.out]; rfl) HC1.out ?_)
      exact hK
    case body =>
      rintro l2 pre ⟨far, i⟩ Fp b A ⟨d, hu⟩ hszA hpre hold hbA hbb
      have hin : i < ss.length := preL_lt ss bi (far, i) (hpre.subset (by simp))
      have hpl : (fil pre).length + 1 ≤ 200 := by
        have h1 := hpre.length_le
        have h2 := preL_len ss bi
        have h3 := fil_len pre
        have h4 := HLN.out
        rw [List.length_append] at h1; simp at h1; omega
      have HZ0 : Hid (far = 0 → ss[i].birth = bi) := fun h0 => by
        have h1 := preL_zero (ss := ss) (b := bi) (far, i) (hpre.subset (by simp)) h0
        exact firstL_birth h1
      obtain ⟨q1, r1, rfl, -⟩ := own_any_shape hu.row
      have hc1 := hu.box.cell
      have hc5 := hu.bir.cell
      obtain ⟨cs, hcs⟩ : ∃ cs, cs = csAt ss i := ⟨_, rfl⟩
      have HCL : Hid (cs.length = 12) := by show _ = _; rw [hcs]; exact cs_len hin
      have HC1 : Hid (∀ u ∈ cs, u.oneCell' = true) := by show ∀ _, _; rw [hcs, csAt_at hin]; exact ss[i].one
      have hcb : A.cell? ⟨b, 1, none⟩ = some (.int .i64 ss[i].birth) := by
        rw [block_cell hbb]
        show (csAt ss i).toArray[1]? = _
        rw [csAt_at hin]; rfl
      show Code.wpIn _ _ _ _ _ { tmps := #[.slice (some ⟨g1, o1, none⟩) ss.length c0, .int .i64 which, undef, undef, .pointer (some ⟨w.heap.size, 0, none⟩), .pointer (some ⟨w3.heap.size, 0, none⟩), .pointer (some ⟨w3.heap.size + 1, 0, none⟩), .int .i64 (far : Int), .pointer (some ⟨b, 0, none⟩), .bool true, .bool false, .bool false, .slice (some ⟨g1, o1, none⟩) ss.length c0, .int .i64 ss.length, .bool false, .bool false, .bool false, .slice (some ⟨g1, o1, none⟩) ss.length c0, .int .i64 ss.length, .bool false, .bool false, .bool false, .slice (some ⟨g1, o1, none⟩) ss.length c0, .bool false, .bool false, undef, .slice (some ⟨g1, o1, none⟩) ss.length c0, .int .i64 which, .slice (some ⟨g1, o1, none⟩) ss.length c0, .int .i64 ss.length, .int .i64 j, .pointer (some ⟨g1, o1 + j * 12, none⟩), .pointer (some ⟨g1, o1 + j * 12 + 1, none⟩), .int .i64 bi, .int .i64 bi, .bool false, .slice (some ⟨g1, o1, none⟩) ss.length c0, .int .i64 bi, .func (.func 92) #[] #[.pointer (some ⟨bf, 0, none⟩), .pointer (some ⟨bq, 0, none⟩)], .int .i64 (far : Int), .agg (csAt ss i).toArray, undef, undef, undef, undef, undef, undef, undef, undef, undef, undef, undef, undef, undef, undef, undef, undef, undef, undef, undef, undef], defers := [] } A
      have hbb : A.heap[b]? = some (.cells (csAt ss i).toArray 30 (0, 0)) := hbb
      rw [← hcs] at hbb ⊢
      have HU := Lib.hid hu
      have HPU := Lib.hid (fun (v1 : Value) (w1 : World) (o1 : Obj) => VU.push (v' := v1) (w1 := w1) (x := i) (o1 := o1) hu)
      rw [← hcs] at HPU
      have HRG : Hid (A.rangeAt b 0 cs) := box_range hbb
      have HR1 := Lib.hid hu.row
      have k3 : W6.heap.size ≤ (A.alloc (.cells cs.toArray 30)).heap.size := by have := HB7.out.size; rw [World.size_alloc]; omega
      have am1 : (fil pre).length + 1 ≤ maxLen := by unfold maxLen; omega
      have am2 : ((fil pre).length + 1) * 112 ≤ 140737488355328 := by omega
      obtain ⟨fi, hfi⟩ : ∃ fi : Int, fi = (far : Int) := ⟨_, rfl⟩
      rw [← hfi]
      have HFI := Lib.hid hfi
      have HSZ := Lib.hid hszA
      have hz0 := HZ0.out
      clear HZ0
      obtain ⟨bx, hbx⟩ : ∃ bx, bx = ss[i].birth := ⟨_, rfl⟩
      rw [← hbx] at hcb hz0
      have HZ0 := Lib.hid hz0
      clear hz0 hbx
      clear hu hbb hcs hin hszA hold hbA hpre hpl
      rcases Nat.lt_or_ge far 1 with hf | hf
      · obtain rfl : far = 0 := by omega
        have hbe := HZ0.out rfl
        have q0 : (fi == 0) = true := by rw [hfi]; rfl
        have q1 : (fi == 1) = false := by rw [hfi]; rfl
        rw [hbe] at hcb
        clear hf hfi hbe
        gi_wp2
        exact ⟨Fp, ⟨_, by rw [fil_no _ _ (by show (0 : Nat) ≠ 1; omega)]; exact HU.out⟩, Only.refl _ _, fun b h => .inl h⟩
      · rcases Nat.lt_or_ge far 2 with hf2 | hf2
        · obtain rfl : far = 1 := by omega
          have q0 : (fi == 0) = false := by rw [hfi]; rfl
          have q1 : (fi == 1) = true := by rw [hfi]; rfl
          clear hf hfi hf2 hcb hc5
          gi_wp2_with (first
            | (refine Ag.wpListIn_load (by rfl) 30 _ (by rfl) _ _ (by rfl) cs _ HRG.out Tryz.underlying30 rfl (by rw [HCL.out]; kernel_rfl) ?_)
            | (refine Ag.wpListIn_one (by rfl) 42 30 _ (by rfl) cs (by rfl) i0 _ Tryz.underlying42 hi0 hz0 (by rw [hz1]; exact HCL.out) (by rw [hz1]; decide) (by rw [hz1]; decide) ?_)
            | (gi_at_builtin; (refine wpListIn_append_own_at _ rfl _ _ 42 rfl W6.heap.size 30 i0 (.agg #[.int .i64 0, .int .i64 0, .int .i64 0, .int .i64 0, .int .i64 0, .string ByteArray.empty, .string ByteArray.empty, .int .u64 0, .int .i64 0, .int .i64 0, .int .i64 0, .int .i64 0]) 12 112 Tryz.underlying42 hi0 hz0 hz1 hz2 rfl (by decide) _ _ _ rfl (HR1.out.alloc _) ⟨A.heap.size, 0, none⟩ 1 1 cs rfl HCL.out (World.news_of_block (Ut.alloc_at _ _)) HC1.out am1 am2 k3 ?_); (intro v' w1 hown' hgrow hnil hat; obtain ⟨q', r', rfl, -⟩ := own_any_shape hown'; obtain ⟨hb1, Fp', hn1⟩ := HPU.out _ _ _ hown' hgrow hat; (have hc1 := hb1.cell); (have hf1 := hb1.frozen); (have HN := Lib.hid hn1); clear hown' hgrow hat hn1 hb1 hnil)))
          exact ⟨Fp', ⟨_, by rw [fil_yes]; exact HN.out.1⟩, HN.out.2.1, HN.out.2.2⟩
        · have q0 : (fi == 0) = false := by rw [beq_eq_false_iff_ne, hfi]; omega
          have q1 : (fi == 1) = false := by rw [beq_eq_false_iff_ne, hfi]; omega
          have HF2 := Lib.hid hf2
          clear hf hfi hf2 hcb hc5
          gi_wp2
          exact ⟨Fp, ⟨_, by rw [fil_no _ _ (by show far ≠ 1; have := HF2.out; omega)]; exact HU.out⟩, Only.refl _ _, fun b h => .inl h⟩
    case done =>
      rintro D ys Fp A rfl hD ⟨d, hu⟩ hnf hK
      obtain ⟨q1, r1, rfl, -⟩ := own_any_shape hu.row
      have HFL : Hid (fil (preL ss bi) = kidsOf ss bi) := preL_one HBZ.out
      have hrow := hu.row
      rw [HFL.out] at hrow
      have HU := Lib.hid hu; have HROW := Lib.hid hrow; have HD := Lib.hid hD; have HKDD := Lib.hid hK; have HNF := Lib.hid hnf
      have HSA := Lib.hid (show ∀ wq, Below A.heap.size A wq → wq.cell? ⟨w3.heap.size, 0, none⟩ = some (.int .i64 bi) ∧ wq.cell? ⟨w3.heap.size + 1, 0, none⟩ = some (.slice q1 (kidsOf ss bi).length r1) from fun wq hb => by
        have h1 : Boxed wq w3.heap.size 3 (.int .i64 bi) := (hb.block _ hu.bir.lt).trans hu.bir
        have h2 : Boxed wq (w3.heap.size + 1) 42 (.slice q1 (fil (preL ss bi)).length r1) := (hb.block _ hu.box.lt).trans hu.box
        rw [HFL.out] at h2
        exact ⟨h1.cell, h2.cell⟩)
      clear hu hrow hD hK hnf
      go_wp2_with fail
      refine (wpIn_wide (n := 8)).1 ?_
      refine Hi.nop ?_
      refine Hi.begin_ (S := fun w' => Below A.heap.size A w') (Z := fun i => i == 6) (by kernel_rfl) (Below.refl _ _).drew (fun hS0 => ?_)
      refine Hi.take (i := 0) (k := 55) (v := ?_) (fun _ => trivial) (by kernel_rfl) rfl rfl (by kernel_rfl) (by kernel_rfl) (by kernel_rfl) (fun _ _ _ h => h) (by kernel_rfl) (by kernel_rfl) (Or.inl ⟨by rfl, ?_⟩) (by assumption) ?_
      rotate_left
      · intro wq hSw; clear hSw; go_simp; (try with_reducible rfl)
      simp only [List.set_cons_succ, List.set_cons_zero]
      refine Hi.take (i := 1) (k := 56) (v := ?_) (fun _ => trivial) (by kernel_rfl) rfl rfl (by kernel_rfl) (by kernel_rfl) (by kernel_rfl) (fun _ _ _ h => h) (by kernel_rfl) (by kernel_rfl) (Or.inl ⟨by rfl, ?_⟩) (by assumption) ?_
      rotate_left
      · intro wq hSw; have h5 := HSA.out wq hSw; obtain ⟨h5, h6⟩ := h5; clear hSw; go_simp; (try with_reducible rfl)
      simp only [List.set_cons_succ, List.set_cons_zero]
      refine Hi.take (i := 4) (k := 59) (v := ?_) (fun _ => trivial) (by kernel_rfl) rfl rfl (by kernel_rfl) (by kernel_rfl) (by kernel_rfl) (fun _ _ _ h => h) (by kernel_rfl) (by kernel_rfl) (Or.inl ⟨by rfl, ?_⟩) (by assumption) ?_
      rotate_left
      · intro wq hSw; have h5 := HSA.out wq hSw; obtain ⟨h5, h6⟩ := h5; clear hSw; go_simp; (try with_reducible rfl)
      simp only [List.set_cons_succ, List.set_cons_zero]
      have hkc := vkids_any _ ss (by have := HLN.out; omega) HWF.out bi A.drew (HA.out.below (HU.out.bel.drew))
      have HKC := Lib.hid hkc
      clear hkc
      refine Hi.call_ (i := 2) (k := 57) (fun _ => trivial) (fun h => by simp [Fence.wide] at h) (by intro c h; cases h) rfl rfl (by kernel_rfl) (by rfl) (by go_simp) ((callsIn_wide.2 HKC.out).mono ?_)
      rintro e wa ⟨⟨bk, bg, rfl, hsk⟩, hba⟩
      have HSK := Lib.hid hsk
      have hbA : Below A.heap.size A wa := (Below.refl _ _).drew.trans hba
      refine ⟨_, rfl, fun _ => hbA, fun _ => ?_⟩
      simp only [List.set_cons_succ, List.set_cons_zero]
      have hkd : ∀ mi : Int, mi = ((1000 : Nat) : Int) → Calls Tryz.prog 55 #[.func (.func 93) #[] #[.pointer (some ⟨bk, 0, none⟩), .pointer (some ⟨bg, 0, none⟩)], .int .i64 mi] wa fun e w' => (∃ q c, e = .returned (.slice q (kidsOf ss bi).length c) ∧ SessArg w' (.slice q (kidsOf ss bi).length c) (pickS ss (kidsOf ss bi))) ∧ Below wa.heap.size wa w' := by
        rintro mi rfl
        have h1 := lkids_sess ss (by have := HLN.out; omega) bi bk bg _ 1000 (by decide) wa wa (fun b hb => ⟨hb.2, rfl⟩) HSK.out
        have e1 : min 1000 (kidsOf ss bi).length = (kidsOf ss bi).length := Nat.min_eq_right (by have := kidsOf_len (ss := ss) (b := bi); have := HLN.out; omega)
        have e2 : (kidsOf ss bi).take 1000 = kidsOf ss bi := List.take_of_length_le (by have := kidsOf_len (ss := ss) (b := bi); have := HLN.out; omega)
        rw [e1, e2] at h1
        exact h1
      have HKD := Lib.hid (hkd 1000 rfl)
      have HBA := Lib.hid hbA
      clear hkd hsk hba hbA HSK HKC
      refine Hi.call_ (i := 3) (k := 58) (fun _ => trivial) (fun h => by simp [Fence.wide] at h) (by intro c h; cases h) rfl rfl (by kernel_rfl) (by rfl) (by go_simp) ((callsIn_wide.2 HKD.out).mono ?_)
      rintro e wb ⟨⟨q3, c3, rfl, hk3⟩, hbb⟩
      have hbB : Below A.heap.size A wb := HBA.out.trans (hbb.mono HBA.out.size)
      refine ⟨_, rfl, fun _ => hbB, fun _ => ?_⟩
      simp only [List.set_cons_succ, List.set_cons_zero]
      have hsm := sameS_any _ _ (pickS ss (kidsOf ss bi)) (pick_big (fun i hi => kidsOf_lt i hi) (by have := kidsOf_len (ss := ss) (b := bi); have := HLN.out; omega)) wb hk3 (own_pick (cap := r1) (fun i hi => kidsOf_lt i hi) rfl (own_keep HROW.out (fun b e => hbB.block b (HROW.out.lt b e).2)))
      have HSM := Lib.hid hsm
      have HBB := Lib.hid hbB
      clear hsm hk3 hbb hbB HKD
      refine Hi.call_ (i := 5) (k := 60) (fun _ => trivial) (fun h => by simp [Fence.wide] at h) (by intro c h; cases h) rfl rfl (by kernel_rfl) (by rfl) (by go_simp) ((callsIn_wide.2 HSM.out).mono ?_)
      rintro e wc ⟨rfl, hbc⟩
      have hbC : Below A.heap.size A wc := HBB.out.trans (hbc.mono HBB.out.size)
      refine ⟨_, rfl, fun _ => hbC, fun _ => ?_⟩
      simp only [List.set_cons_succ, List.set_cons_zero]
      have hxr : Boxed wc w.heap.size 4 (.bool false) := (hbC.block _ HU.out.res.lt).trans HU.out.res
      have r0 := hxr.cell
      have r2 := hxr.frozen
      have HXR2 := Lib.hid hxr; have HBC := Lib.hid hbC
      clear hbC hbc hxr HSM
      refine Hi.eff_ (i := 6) (w' := wc.setCell ⟨w.heap.size, 0, none⟩ (.bool true)) (fun _ => trivial) (by intro c h; cases h) rfl rfl (by kernel_rfl) (by rfl) (by go_simp) (fun h => by cases h) ?_
      refine Hi.done_ (by kernel_rfl) (Hi.nop_normal ?_) _
      clear r0 r2
      go_wp2
      have hd := (HBC.out.block D (Array.getElem?_eq_some_iff.1 HKDD.out).1).trans HKDD.out
      have hne : D ≠ w.heap.size := by have := HD.out; have := HU.out.ord; have := HB7.out.size; omega
      have hd2 : (wc.setCell ⟨w.heap.size, 0, none⟩ (.bool true)).heap[D]? = some (.deferred (some [])) := (Below.heap_setCell _ _ _ _ hne).trans hd
      refine ⟨by simp, .inl ⟨_, _, rfl, run_takeDeferred hd2, ?_⟩⟩
      refine ⟨_, res_bool rfl _ _ w.heap.size (.bool true) rfl ((World.putObj_heap_other hne.symm).trans (HXR2.out.set (.bool true))), rfl, ?_⟩
      have hbel : Below w.heap.size w wc := HU.out.bel.trans (HBC.out.mono HU.out.bel.size)
      exact (hbel.setCell (p := ⟨w.heap.size, 0, none⟩) (Nat.le_refl _) (.bool true)).grown (grownBy_putObj' _ D (.deferred none)) (by rw [World.size_setCell]; exact hbel.size) (fun k e => by cases e; have := HD.out; have := HU.out.ord; have := HB7.out.size; omega)
end Vw
end Go.Proofs.YtocoonkachbjaaaGreatDoor
