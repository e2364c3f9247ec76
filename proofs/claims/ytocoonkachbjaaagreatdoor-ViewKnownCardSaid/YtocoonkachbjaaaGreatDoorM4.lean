/- Several texts in one: what each proves its own first comment says. -/
import Derived.Test.YtocoonkachbjaaaGreatDoorM3
import Derived.Lib.SplitLaws
import Derived.Deep.Strs
import Derived.Carry
import Derived.WalkKit
import Derived.Deep.Draws
import Derived.Test.YtocoonkachbjaaaGreatDoorProg
import Derived.Test.YtocoonkachbjaaaGreatDoorM1
import Derived.BigQuiet
import Derived.Deep.QuietTactic
import Derived.Outline
import Derived.WalkLawsBesides
import Derived.WalkSpells
import Derived.Lib.Strings
import Derived.Lib.Hide
import Derived.Deep.RegionWith
import Derived.Maps.AppendAt
import Derived.Laws.BitsAllLaws
import Derived.Laws.Shifts
import Derived.IntWalk
import Derived.Lib.Join
import Derived.Deep.RegionHeld3
import Derived.WalkSmall

/- names.Parts, Dotted: what they hand back, of any text of at most 2^25 bytes. -/
namespace Go.Proofs.YtocoonkachbjaaaGreatDoor
open Go.RowKit Go.Proofs.NmPlain
set_option linter.unusedVariables false

theorem splitK_split : ∀ (k : Nat) (l : Bs), l.count 46 ≤ k → Lib.splitK [46] 0 k l = split l
  | 0, l, h => by
    have hn : ∀ c ∈ l, c ≠ 46 := fun c hc e => by
      rw [e] at hc
      have := List.count_pos_iff.2 hc
      omega
    rw [split_plain l hn]; rfl
  | k + 1, l, h => by
    have hg := Lib.index_ge l [46]
    by_cases hi : Lib.index l [46] = -1
    · rw [split_none l hi]; simp [Lib.splitK, hi]
    · obtain ⟨i, hi'⟩ : ∃ i : Nat, Lib.index l [46] = i := ⟨(Lib.index l [46]).toNat, by omega⟩
      have hr := Lib.index_room l [46] (by omega)
      rw [split_some l i hi']
      have hil : i < l.length := by simp at hr; omega
      have hc : (l.drop (i + 1)).count 46 ≤ k := by
        have e1 : l.count 46 = (l.take (i + 1)).count 46 + (l.drop (i + 1)).count 46 := by rw [← List.count_append, List.take_append_drop]
        have e2 : 0 < (l.take (i + 1)).count 46 := by
          refine List.count_pos_iff.2 ?_
          rcases Lib.index_spec l [46] with ⟨h1, _⟩ | ⟨j, h1, h2, h3, _⟩
          · omega
          · obtain rfl : j = i := by omega
            have := Lib.occAt_head (c := 46) (t := []) rfl h3
            rw [List.getElem?_eq_getElem hil] at this
            rw [List.take_succ_eq_append_getElem hil]
            simp at this; simp [this]
        omega
      have ih := splitK_split k (l.drop (i + 1)) hc
      rw [← ih]
      have hne : (Lib.index l [46] == -1) = false := by rw [beq_eq_false_iff_ne]; exact hi
      simp [Lib.splitK, hi']

theorem splitB_split (s : ByteArray) : (Lib.splitB ⟨#[46]⟩ 0 (Lib.countB s ⟨#[46]⟩) s).map (·.data.toList) = split s.data.toList := by
  rw [Lib.splitB_data]
  exact splitK_split _ _ (by rw [show Lib.countB s ⟨#[46]⟩ = Lib.count s.data.toList [46] from rfl, Lib.count_one]; exact Nat.le_refl _)

/-- Is a text a scope's name? -/
def dotB (l : Bs) : Bool := decide ((split l).length ≤ 4) && (split l).all nameB

def MaxAt (w : World) : Prop := ∃ m, w.cell? ⟨2, 0, none⟩ = some (.int .i64 m)
theorem MaxAt.lt {w : World} (h : MaxAt w) : 2 < w.heap.size := by
  obtain ⟨m, hm⟩ := h; exact World.block_lt_of_cell? w _ hm
theorem MaxAt.below {w w' : World} (h : MaxAt w) (hb : Below w.heap.size w w') : MaxAt w' := by
  have hl := h.lt
  obtain ⟨m, hm⟩ := h
  exact ⟨m, (hb.cell (p := ⟨2, 0, none⟩) hl).trans hm⟩

/-- A list of texts that lies whole in a block of its own. -/
def TextsAt (w : World) (g : Nat) (ps : List ByteArray) : Prop := w.heap[g]? = some (.cells (ps.map Value.string).toArray 9 (0, 0))
theorem TextsAt.lt {w : World} {g : Nat} {ps : List ByteArray} (h : TextsAt w g ps) : g < w.heap.size := (Array.getElem?_eq_some_iff.1 h).1
theorem TextsAt.cell {w : World} {g : Nat} {ps : List ByteArray} (h : TextsAt w g ps) {j : Nat} (hj : j < ps.length) : w.cell? ⟨g, j, none⟩ = some (.string ps[j]) := by
  unfold TextsAt at h
  simp [World.cell?, h, hj]
theorem TextsAt.below {w w' : World} {g : Nat} {ps : List ByteArray} (h : TextsAt w g ps) {B : Nat} (hB : g < B) (hb : Below B w w') : TextsAt w' g ps := (hb.block g hB).trans h

def AllRel (ps : List ByteArray) (w : World) (i : Value) (wr : World) : Prop :=
  ∃ k : Nat, k ≤ ps.length ∧ i = .int .i64 k ∧ (∀ j (hj : j < k) (hl : j < ps.length), nameB ps[j].data.toList = true) ∧ Below w.heap.size w wr

set_option maxHeartbeats 1000000 in
theorem all_any (g : Nat) (ps : List ByteArray) (w : World) (hl : (ps.length : Int) ≤ 16777217) (hps : ∀ j (hj : j < ps.length), ps[j].size ≤ 9223372036854775807) (ht : TextsAt w g ps) :
    Calls Tryz.prog 101 #[.slice (some ⟨g, 0, none⟩) ps.length ps.length] w fun e w' => e = .returned (.bool (ps.all fun p => nameB p.data.toList)) ∧ Below w.heap.size w w' := by
  have hgl := ht.lt
  have HT := Lib.hid ht; clear ht
  have HP := Lib.hid hps; clear hps
  go_enter Tryz.func101, Tryz.ntmps101
  go_wp2
  go_loopw [4, 7] (fun _ i wr => AllRel ps w i wr) (fun _ i _ => ps.length - (intOf i).toNat)
  case atStart => exact ⟨0, Nat.zero_le _, rfl, fun j hj => absurd hj (Nat.not_lt_zero _), Below.refl _ _⟩
  case round =>
    obtain ⟨k, hk, rfl, hall, hbw⟩ := hrel
    have HA := Lib.hid hall
    clear hall
    by_cases h : k < ps.length
    · have hc : wr.cell? ⟨g, k, none⟩ = some (.string ps[k]) := TextsAt.cell (HT.out.below hgl hbw) h
      have hn := name_any ps[k] (HP.out k h) wr
      have hfin : nameB ps[k].data.toList = false → (ps.all fun p => nameB p.data.toList) = false := fun hf => by
        rw [List.all_eq_false]; exact ⟨ps[k], List.getElem_mem h, by simp [hf]⟩
      have hnext : nameB ps[k].data.toList = true → ∀ j (hj : j < k + 1) (hl : j < ps.length), nameB ps[j].data.toList = true := fun hf j hj hl => by
        rcases Nat.lt_or_ge j k with h1 | h1
        · exact HA.out j h1 hl
        · obtain rfl : j = k := by omega
          exact hf
      obtain ⟨x, hx⟩ : ∃ x, x = ps[k] := ⟨_, rfl⟩
      obtain ⟨q, hq⟩ : ∃ q, q = nameB ps[k].data.toList := ⟨_, rfl⟩
      rw [← hx] at hc
      rw [← hq, ← hx] at hn
      rw [← hq] at hfin hnext
      have HN := Lib.hid hn; have HF := Lib.hid hfin; have HX := Lib.hid hnext
      clear hn hfin hnext hx hq
      have hwr := hbw.size
      cases q
      · go_wp2_with (go_at_call 22; refine HN.out.mono ?_; rintro e w2 ⟨rfl, hb2⟩)
        go_ret
        exact ⟨Ut.ret_bool (HF.out (by simp)).symm, hbw.trans (hb2.mono hwr)⟩
      · go_wp2_with (go_at_call 22; refine HN.out.mono ?_; rintro e w2 ⟨rfl, hb2⟩)
        go_roundw
        case rel => exact ⟨k + 1, by omega, by go_num, HX.out (by simp), hbw.trans (hb2.mono hwr)⟩
        case measure => simp [intOf]; omega
    · obtain rfl : k = ps.length := by omega
      have hfin : (ps.all fun p => nameB p.data.toList) = true := by
        rw [List.all_eq_true]
        intro p hp
        obtain ⟨j, hj, rfl⟩ := List.mem_iff_getElem.1 hp
        exact HA.out j hj hj
      have HF := Lib.hid hfin
      clear hfin
      go_wp2
      go_ret
      exact ⟨Ut.ret_bool HF.out.symm, hbw⟩

/-- What Parts hands back: nothing; or the pieces, in a block of their own. -/
def PartsPost (l : Bs) (w : World) (v : Value) (w' : World) : Prop :=
  (dotB l = false ∧ v = .slice none 0 0) ∨ (dotB l = true ∧ ∃ g ps, v = .slice (some ⟨g, 0, none⟩) ps.length ps.length ∧ w.heap.size ≤ g ∧ ps.map (·.data.toList) = split l ∧ TextsAt w' g ps)

set_option maxHeartbeats 1000000 in
theorem parts_any (s : ByteArray) (hs : (s.size : Int) ≤ 16777216) (w : World) (hm : MaxAt w) :
    Calls Tryz.prog 61 #[.string s] w fun e w' => ∃ v, e = .returned v ∧ PartsPost s.data.toList w v w' ∧ Below w.heap.size w w' := by
  obtain ⟨m, hm⟩ := hm
  have hsp := Tryz.strings_Split s ⟨#[46]⟩ m w (by omega) hm (Nat.le_refl 1)
  have hlen : (Lib.splitB ⟨#[46]⟩ 0 (Lib.countB s ⟨#[46]⟩) s).length = Lib.countB s ⟨#[46]⟩ + 1 := Lib.splitB_all ⟨#[46]⟩ (Nat.le_refl 1) _ _ _ rfl
  have hdat := splitB_split s
  obtain ⟨ps, hps⟩ : ∃ ps, ps = Lib.splitB ⟨#[46]⟩ 0 (Lib.countB s ⟨#[46]⟩) s := ⟨_, rfl⟩
  rw [← hps] at hsp hlen hdat
  rw [← hlen] at hsp
  have hcl : Lib.countB s ⟨#[46]⟩ ≤ s.size := Lib.countB_le ⟨#[46]⟩ (Nat.le_refl 1) _ _ (Nat.le_refl _)
  have hpl : (ps.length : Int) ≤ 16777217 := by omega
  have hpz : ∀ j (hj : j < ps.length), ps[j].size ≤ 9223372036854775807 := fun j hj => by
    have := split_len s.data.toList ps[j].data.toList (by rw [← hdat]; exact List.mem_map.2 ⟨_, List.getElem_mem hj, rfl⟩)
    rw [← size_toList, ← size_toList] at this; omega
  have hsl : (split s.data.toList).length = ps.length := by rw [← hdat]; simp
  have hal : (split s.data.toList).all nameB = ps.all fun p => nameB p.data.toList := by rw [← hdat, List.all_map]; rfl
  have ht : TextsAt (w.alloc (.cells (ps.map Value.string).toArray 9)) w.heap.size ps := Ut.alloc_at _ _
  have hcall := all_any w.heap.size ps _ hpl hpz ht
  have hb0 : Below w.heap.size w (w.alloc (.cells (ps.map Value.string).toArray 9)) := (Below.refl _ _).alloc (Nat.le_refl _) _
  have HSP := Lib.hid hsp; have HC := Lib.hid hcall; have HSL := Lib.hid hsl; have HAL := Lib.hid hal; have HD := Lib.hid hdat; have HTA := Lib.hid ht
  clear hsp hcall hsl hal hdat hps hlen hcl hpz ht hm
  by_cases h4 : ps.length ≤ 4
  · obtain ⟨q, hq⟩ : ∃ q, q = ps.all fun p => nameB p.data.toList := ⟨_, rfl⟩
    have HC2 : Hid (Calls Tryz.prog 101 #[.slice (some ⟨w.heap.size, 0, none⟩) ps.length ps.length] (w.alloc (.cells (ps.map Value.string).toArray 9)) fun e w' => e = .returned (.bool q) ∧ Below (w.alloc (.cells (ps.map Value.string).toArray 9)).heap.size (w.alloc (.cells (ps.map Value.string).toArray 9)) w') := by rw [hq]; exact HC.out
    have HQ : Hid (dotB s.data.toList = q) := by show _ = _; unfold dotB; rw [HSL.out, HAL.out, ← hq, decide_eq_true h4, Bool.true_and]
    clear hq HC
    cases q
    · go_enter Tryz.func61, Tryz.ntmps61
      go_wp2_with fail
      refine HSP.out.mono ?_
      rintro e w1 ⟨rfl, rfl⟩
      go_wp2_with (go_at_call 101; refine HC2.out.mono ?_; rintro e w2 ⟨rfl, hb2⟩)
      go_ret
      exact ⟨_, rfl, .inl ⟨HQ.out, rfl⟩, hb0.trans (hb2.mono hb0.size)⟩
    · go_enter Tryz.func61, Tryz.ntmps61
      go_wp2_with fail
      refine HSP.out.mono ?_
      rintro e w1 ⟨rfl, rfl⟩
      go_wp2_with (go_at_call 101; refine HC2.out.mono ?_; rintro e w2 ⟨rfl, hb2⟩)
      go_ret
      exact ⟨_, rfl, .inr ⟨HQ.out, w.heap.size, ps, rfl, Nat.le_refl _, HD.out, HTA.out.below (TextsAt.lt HTA.out) hb2⟩, hb0.trans (hb2.mono hb0.size)⟩
  · have HQ : Hid (dotB s.data.toList = false) := by show _ = _; unfold dotB; rw [HSL.out, decide_eq_false h4, Bool.false_and]
    have h5 : (4 : Int) < (ps.length : Int) := by omega
    clear HC h4
    go_enter Tryz.func61, Tryz.ntmps61
    go_wp2_with fail
    refine HSP.out.mono ?_
    rintro e w1 ⟨rfl, rfl⟩
    go_wp2
    go_ret
    exact ⟨_, rfl, .inl ⟨HQ.out, rfl⟩, hb0⟩

end Go.Proofs.YtocoonkachbjaaaGreatDoor

/- names.Dotted, names.Under, of any texts of at most 2^24 bytes. -/
namespace Go.Proofs.YtocoonkachbjaaaGreatDoor
open Go.RowKit Go.Proofs.NmPlain
set_option linter.unusedVariables false

set_option maxHeartbeats 1000000 in
theorem dotted_any (s : ByteArray) (hs : (s.size : Int) ≤ 16777216) (w : World) (hm : MaxAt w) :
    Calls Tryz.prog 21 #[.string s] w fun e w' => e = .returned (.bool (dotB s.data.toList)) ∧ Below w.heap.size w w' := by
  have hp := parts_any s hs w hm
  have HP := Lib.hid hp
  clear hp hm
  have hq := fun (w : World) a n c => run_neq_slice_nil_any (P := Tryz.prog) w 22 9 a n c 0 0 Tryz.underlying22
  go_enter Tryz.func21, Tryz.ntmps21
  go_wp2_with fail
  refine HP.out.mono ?_
  rintro e w1 ⟨v, rfl, hv, hb⟩
  rcases hv with ⟨hd, rfl⟩ | ⟨hd, g, ps, rfl, hg, hsp, ht⟩
  · have HD := Lib.hid hd; clear hd
    go_wp2
    go_ret
    exact ⟨Ut.ret_bool HD.out.symm, hb⟩
  · have HD := Lib.hid hd; clear hd hsp ht
    go_wp2
    go_ret
    exact ⟨Ut.ret_bool HD.out.symm, hb⟩

/-- Does one scope's name stand under another? -/
def underB (l m : Bs) : Bool := dotB l && dotB m && decide ((split m).length ≤ (split l).length) && decide ((split l).take (split m).length = split m)

end Go.Proofs.YtocoonkachbjaaaGreatDoor

/- Arguments that are lists of texts: what a walk is told of them. Of any program. -/
namespace Go.Proofs.Ar
open Go.RowKit Go.ChangeShapes Go.WideShapes Go.Deep
set_option linter.unusedVariables false

/-- A value is a list of texts, wherever it lies. -/
def TextArg (w : World) (v : Value) (ps : List ByteArray) : Prop :=
  ∃ p cap, v = .slice p ps.length cap ∧ ∀ j (hj : j < ps.length), ∃ g o, p = some ⟨g, o, none⟩ ∧ g < w.heap.size ∧ w.cell? ⟨g, o + j, none⟩ = some (.string ps[j])

theorem TextArg.below {w w' : World} {v : Value} {ps : List ByteArray} (h : TextArg w v ps) (hb : Below w.heap.size w w') : TextArg w' v ps := by
  obtain ⟨p, cap, rfl, h⟩ := h
  refine ⟨p, cap, rfl, fun j hj => ?_⟩
  obtain ⟨g, o, h1, h2, h3⟩ := h j hj
  exact ⟨g, o, h1, Nat.lt_of_lt_of_le h2 hb.size, (hb.cell (p := ⟨g, o + j, none⟩) h2).trans h3⟩

section
variable {H : Type} {enc : TypeId × Value → H} {P : Program} {w : World}

end

end Go.Proofs.Ar

/- lineageref0.SameTexts of any two lists of texts, wherever they lie. -/
namespace Go.Proofs.YtocoonkachbjaaaGreatDoor
open Go.RowKit Go.Proofs.Ar
set_option linter.unusedVariables false
namespace Tx

theorem own_arg {w : World} {base : Nat} {v : Value} {ps : List ByteArray} (h : w.ownsRow base 9 1 v ps.length (ps.map Value.string)) : TextArg w v ps := by
  rcases Nat.eq_zero_or_pos ps.length with h0 | h0
  · have e : ps = [] := List.eq_nil_of_length_eq_zero h0
    subst e
    rcases h.2 with ⟨rfl, _⟩ | ⟨g, cap, cur, rfl, _⟩
    · exact ⟨none, 0, rfl, fun j hj => absurd hj (Nat.not_lt_zero _)⟩
    · exact ⟨_, cap, rfl, fun j hj => absurd hj (Nat.not_lt_zero _)⟩
  · obtain ⟨g, c, rfl, _, _, _, hg, hc⟩ := Ut.own_cells h h0
    exact ⟨_, c, rfl, fun j hj => ⟨g, 0, rfl, hg, by rw [Nat.zero_add, hc j hj]; simp [hj]⟩⟩

theorem lit_arg (w : World) (ps : List ByteArray) (t : TypeId) : TextArg (w.alloc (.cells (ps.map Value.string).toArray t)) (.slice (some ⟨w.heap.size, 0, none⟩) ps.length ps.length) ps :=
  ⟨_, ps.length, rfl, fun j hj => ⟨w.heap.size, 0, rfl, by simp, by
    unfold World.cell?
    rw [Ut.alloc_at]
    simp [hj]⟩⟩

def SameRel (ps qs : List ByteArray) (w : World) (i : Value) (wr : World) : Prop :=
  ∃ k : Nat, k ≤ ps.length ∧ i = .int .i64 k ∧ ps.take k = qs.take k ∧ Below w.heap.size w wr

theorem bytes_eq (p : ByteArray) : (p.toList == p.toList) = true := by simp
theorem str_ne {p q : ByteArray} (h : p ≠ q) : (p.toList == q.toList) = false := by
  rw [beq_eq_false_iff_ne]
  intro e
  apply h
  rw [Lib.toList_data, Lib.toList_data] at e
  cases p; cases q
  simpa using e

set_option maxHeartbeats 1000000 in
theorem same_any (v u : Value) (ps qs : List ByteArray) (hp : (ps.length : Int) ≤ 9223372036854775807) (hq : (qs.length : Int) ≤ 9223372036854775807) (w : World) (h1 : TextArg w v ps) (h2 : TextArg w u qs) :
    Calls Tryz.prog 13 #[v, u] w fun e w' => e = .returned (.bool (decide (ps = qs))) ∧ Below w.heap.size w w' := by
  obtain ⟨p, cp, rfl, h1⟩ := h1
  obtain ⟨q, cq, rfl, h2⟩ := h2
  have H1 := Lib.hid h1; have H2 := Lib.hid h2
  clear h1 h2
  by_cases hl : ps.length = qs.length
  · have e1 : ((ps.length : Int) != (qs.length : Int)) = false := by rw [hl]; simp
    have HL := Lib.hid hl
    clear hl
    go_enter Tryz.func13, Tryz.ntmps13
    go_wp2
    go_loopw [5] (fun i wr => SameRel ps qs w i wr) (fun i _ => ps.length - (intOf i).toNat)
    case atStart => exact ⟨0, Nat.zero_le _, rfl, by simp, Below.refl _ _⟩
    case round =>
      obtain ⟨k, hk, rfl, heq, hbr⟩ := hrel
      have HE := Lib.hid heq; clear heq
      by_cases h : k < ps.length
      · have hlt : k < qs.length := by rw [← HL.out]; exact h
        obtain ⟨g1, o1, rfl, hg1, k1⟩ := H1.out k h
        obtain ⟨g2, o2, rfl, hg2, k2⟩ := H2.out k hlt
        have k1' : wr.cell? ⟨g1, o1 + k, none⟩ = some (.string ps[k]) := (hbr.cell (p := ⟨g1, o1 + k, none⟩) hg1).trans k1
        have k2' : wr.cell? ⟨g2, o2 + k, none⟩ = some (.string qs[k]) := (hbr.cell (p := ⟨g2, o2 + k, none⟩) hg2).trans k2
        have hyes : ps[k] = qs[k] → ps.take (k + 1) = qs.take (k + 1) := fun e => by
          rw [List.take_succ_eq_append_getElem h, List.take_succ_eq_append_getElem hlt, HE.out, e]
        have hno : ps[k] ≠ qs[k] → decide (ps = qs) = false := fun e => by
          rw [decide_eq_false_iff_not]; intro e2; apply e
          have : ps[k]? = qs[k]? := by rw [e2]
          rw [List.getElem?_eq_getElem h, List.getElem?_eq_getElem hlt] at this
          exact Option.some.inj this
        obtain ⟨p, hpk⟩ : ∃ p, p = ps[k] := ⟨_, rfl⟩
        obtain ⟨q, hqk⟩ : ∃ q, q = qs[k] := ⟨_, rfl⟩
        clear k1 k2 H1 H2
        rw [← hpk] at k1' hyes hno; rw [← hqk] at k2' hyes hno
        have HY := Lib.hid hyes; have HN := Lib.hid hno
        clear hyes hno hpk hqk
        have b1 : (0 : Int) ≤ (k : Int) := by omega
        have b2 : (k : Int) < (ps.length : Int) := by omega
        have b3 : (k : Int) < (qs.length : Int) := by omega
        by_cases hz : p = q
        · have HT : Hid (ps.take (k + 1) = qs.take (k + 1)) := HY.out hz
          subst hz
          have hn := bytes_eq p
          go_wp2
          go_quiet (fail)
          go_wp2
          go_roundw
          case rel => exact ⟨k + 1, by omega, by go_num, HT, Ut.below_drewN hbr _⟩
          case measure => simp [intOf]; omega
        · have hn : (p.toList == q.toList) = false := str_ne hz
          have HZ := Lib.hid hz; clear hz
          go_wp2
          go_quiet (fail)
          go_wp2
          go_ret
          exact ⟨Ut.ret_bool (by rw [HN.out HZ.out]), Ut.below_drewN hbr _⟩
      · obtain rfl : k = ps.length := by omega
        have HG : Hid (decide (ps = qs) = true) := by
          show _ = _
          have e := HE.out
          rw [List.take_length, HL.out, List.take_length] at e
          rw [decide_eq_true_eq]; exact e
        clear HE HL
        go_wp2
        go_ret
        exact ⟨Ut.ret_bool HG.out.symm, hbr⟩
  · have e1 : ((ps.length : Int) != (qs.length : Int)) = true := by rw [bne_iff_ne]; omega
    have HG : Hid (decide (ps = qs) = false) := by
      show _ = _; rw [decide_eq_false_iff_not]; intro e; exact hl (by rw [e])
    clear hl
    go_enter Tryz.func13, Tryz.ntmps13
    go_wp2
    go_ret
    exact ⟨Ut.ret_bool HG.out.symm, Below.refl _ _⟩

end Tx
end Go.Proofs.YtocoonkachbjaaaGreatDoor

/- Books of scopes, plain: which lists of names are books; sets of them as numbers. No program's code. -/
namespace Go.Proofs.YtocoonkachbjaaaGreatDoor
open Go.Proofs.NmPlain
set_option linter.unusedVariables false

def hasB (l : List ByteArray) (x : ByteArray) : Bool := l.any fun y => decide (y = x)
theorem hasB_iff {l : List ByteArray} {x : ByteArray} : hasB l x = true ↔ x ∈ l := by
  simp [hasB, List.any_eq_true]

/-- What is wrong with a list of names from place i on: the number, the place. -/
def newAt (ls : List ByteArray) (i : Nat) : Int × Int :=
  if h : i < ls.length then
    if dotB ls[i].data.toList = false then (8, i) else if hasB (ls.take i) ls[i] = true then (9, i) else newAt ls (i + 1)
  else (0, -1)
termination_by ls.length - i
def newL (ls : List ByteArray) : Int × Int := if 64 < ls.length then (5, -1) else newAt ls 0

theorem newAt_end {ls : List ByteArray} {i : Nat} (h : ls.length ≤ i) : newAt ls i = (0, -1) := by
  unfold newAt; rw [dif_neg (by omega)]
theorem newAt_name {ls : List ByteArray} {i : Nat} (h : i < ls.length) (hd : dotB ls[i].data.toList = false) : newAt ls i = (8, (i : Int)) := by
  unfold newAt; rw [dif_pos h, if_pos hd]
theorem newAt_twice {ls : List ByteArray} {i : Nat} (h : i < ls.length) (hd : dotB ls[i].data.toList = true) (hm : ls[i] ∈ ls.take i) : newAt ls i = (9, (i : Int)) := by
  unfold newAt; rw [dif_pos h, if_neg (by rw [hd]; simp), if_pos (hasB_iff.2 hm)]
theorem newAt_next {ls : List ByteArray} {i : Nat} (h : i < ls.length) (hd : dotB ls[i].data.toList = true) (hm : ls[i] ∉ ls.take i) : newAt ls i = newAt ls (i + 1) := by
  rw [newAt, dif_pos h, if_neg (by rw [hd]; simp), if_neg (fun h => hm (hasB_iff.1 h))]

/-- A list that is a book's. -/
structure IsBook (ls : List ByteArray) : Prop where
  len : ls.length ≤ 64
  dots : ∀ i (h : i < ls.length), dotB ls[i].data.toList = true
  once : ∀ i j (hi : i < ls.length) (hj : j < ls.length), ls[i] = ls[j] → i = j

theorem newAt_ok : ∀ (n i : Nat) (ls : List ByteArray), ls.length - i = n → newAt ls i = (0, -1) → ∀ j, i ≤ j → ∀ h : j < ls.length, dotB ls[j].data.toList = true ∧ ls[j] ∉ ls.take j := by
  intro n
  induction n with
  | zero => intro i ls hn _ j hj h; omega
  | succ n ih =>
    intro i ls hn hok j hj h
    have hi : i < ls.length := by omega
    cases hd : dotB ls[i].data.toList with
    | false => rw [newAt_name hi hd] at hok; simp at hok
    | true =>
      by_cases hm : ls[i] ∈ ls.take i
      · rw [newAt_twice hi hd hm] at hok; simp at hok
      · rw [newAt_next hi hd hm] at hok
        by_cases e : j = i
        · subst e; exact ⟨hd, hm⟩
        · exact ih (i + 1) ls (by omega) hok j (by omega) h

theorem book_of {ls : List ByteArray} (h : newL ls = (0, -1)) : IsBook ls := by
  unfold newL at h
  split at h
  · simp at h
  · rename_i hl
    have hall := newAt_ok _ 0 ls rfl h
    refine ⟨by omega, fun i hi => (hall i (Nat.zero_le _) hi).1, fun i j hi hj e => ?_⟩
    rcases Nat.lt_trichotomy i j with hlt | he | hlt
    · exfalso
      refine (hall j (Nat.zero_le _) hj).2 ?_
      rw [← e, List.mem_take_iff_getElem]
      exact ⟨i, by omega, rfl⟩
    · exact he
    · exfalso
      refine (hall i (Nat.zero_le _) hi).2 ?_
      rw [e, List.mem_take_iff_getElem]
      exact ⟨j, by omega, rfl⟩

theorem newAt_range : ∀ (n i : Nat) (ls : List ByteArray), ls.length - i = n → newAt ls i = (0, -1) ∨ (((newAt ls i).1 = 8 ∨ (newAt ls i).1 = 9) ∧ 0 ≤ (newAt ls i).2) := by
  intro n
  induction n with
  | zero => intro i ls hn; exact .inl (newAt_end (by omega))
  | succ n ih =>
    intro i ls hn
    have hi : i < ls.length := by omega
    cases hd : dotB ls[i].data.toList with
    | false => rw [newAt_name hi hd]; exact .inr ⟨.inl rfl, by simp⟩
    | true =>
      by_cases hm : ls[i] ∈ ls.take i
      · rw [newAt_twice hi hd hm]; exact .inr ⟨.inr rfl, by simp⟩
      · rw [newAt_next hi hd hm]; exact ih (i + 1) ls (by omega)

/-- The set of those places below n of which p holds. -/
def setBy (p : Nat → Bool) : Nat → Nat
  | 0 => 0
  | n + 1 => if p n then setBy p n ||| 2 ^ n else setBy p n

theorem setBy_bit (p : Nat → Bool) : ∀ n i, (setBy p n).testBit i = (decide (i < n) && p i)
  | 0, i => by simp [setBy]
  | n + 1, i => by
    have ih := setBy_bit p n i
    unfold setBy
    by_cases hp : p n = true
    · rw [if_pos hp, Nat.testBit_or, ih, Nat.testBit_two_pow]
      by_cases e : n = i
      · subst e; simp [hp]
      · by_cases h : i < n
        · simp [h, e, show i < n + 1 by omega]
        · simp [h, e, show ¬ i < n + 1 by omega]
    · rw [if_neg hp, ih]
      by_cases e : i = n
      · subst e; simp [hp]
      · by_cases h : i < n
        · simp [h, show i < n + 1 by omega]
        · simp [h, show ¬ i < n + 1 by omega]

theorem setBy_lt (p : Nat → Bool) : ∀ n, setBy p n < 2 ^ n := fun n =>
  Nat.lt_pow_two_of_testBit _ fun i hi => by rw [setBy_bit]; simp [show ¬ i < n by omega]

theorem setBy_all (n : Nat) : setBy (fun _ => true) n = 2 ^ n - 1 :=
  Nat.eq_of_testBit_eq fun i => by rw [setBy_bit, Nat.testBit_two_pow_sub_one]; simp

/-- All scopes of a book. -/
def allS (ls : List ByteArray) : Nat := 2 ^ ls.length - 1
theorem allS_lt {ls : List ByteArray} (h : ls.length ≤ 64) : allS ls ≤ 18446744073709551615 := by
  have : 2 ^ ls.length ≤ 2 ^ 64 := Nat.pow_le_pow_right (by omega) h
  unfold allS; omega

end Go.Proofs.YtocoonkachbjaaaGreatDoor

/- (Without the names' comparison.) The reference's pieces of a text: a new list of texts, of the call's own. -/
namespace Go.Proofs.YtocoonkachbjaaaGreatDoor
open Go.RowKit Go.Proofs.NmPlain
set_option linter.unusedVariables false

theorem nm_info : (Tryz.prog.info? 9).map (fun i => (i.zero, i.size, i.bytes)) = some (some (.string ByteArray.empty), 1, 16) := by kernel_rfl

/-- Behind an append of one element to a list of the call's own. -/
theorem below_app {B : Nat} {w wr w1 : World} {e size n : Nat} {v : Value} {xs : List Value} {o : Obj} (hnx : Below B w wr) (hB : B ≤ wr.heap.size) (hown : wr.ownsRow B e size v n xs) (hgrow : (wr.alloc o).grownBy w1 v.ownBlock) : Below B w w1 :=
  (hnx.alloc hB o).grown hgrow (by simp; omega) (fun j hj => (hown.lt j hj).1)

end Go.Proofs.YtocoonkachbjaaaGreatDoor

/- The reference's Name and Dotted, of any text. -/
namespace Go.Proofs.YtocoonkachbjaaaGreatDoor
open Go.RowKit Go.Proofs.NmPlain
set_option linter.unusedVariables false

/-- What a byte is to the reference's Name, told by ranges. -/
theorem sign_low {n : Nat} (h : n < 48) (h2 : n ≠ 45) : isSign n = false := by
  unfold isSign
  have a : decide (48 ≤ n) = false := by simp; omega
  have b : (n == 45) = false := by rw [beq_eq_false_iff_ne]; omega
  have d : (n == 95) = false := by rw [beq_eq_false_iff_ne]; omega
  rw [a, b, d]; simp
theorem sign_mid {n : Nat} (h : 57 < n) (h2 : n ≠ 95) : isSign n = false := by
  unfold isSign
  have a : decide (n ≤ 57) = false := by simp; omega
  have b : (n == 45) = false := by rw [beq_eq_false_iff_ne]; omega
  have d : (n == 95) = false := by rw [beq_eq_false_iff_ne]; omega
  rw [a, b, d]; simp
theorem sign_digit {n : Nat} (h : 48 ≤ n) (h2 : n ≤ 57) : isSign n = true := by
  unfold isSign
  rw [decide_eq_true h, decide_eq_true h2]; simp

set_option maxHeartbeats 2000000 in
theorem refname_any (s : ByteArray) (hs : s.size ≤ 16777216) (w : World) :
    Calls Tryz.prog 30 #[.string s] w fun e w' => e = .returned (.bool (nameB s.data.toList)) ∧ Below w.heap.size w w' := by
  by_cases hl : 1 ≤ s.size ∧ s.size ≤ 32
  · have hnb : nameB s.data.toList = nameAux 0 s.data.toList := nameB_aux (by rw [← size_toList]; exact hl)
    obtain ⟨l1, l2⟩ := hl
    rw [hnb]
    clear hnb
    go_enter Tryz.func30, Tryz.ntmps30
    go_wp2
    go_loopw [3] (fun i wr => ∃ k : Nat, k ≤ s.size ∧ i = .int .i64 k ∧ nameAux 0 s.data.toList = nameAux k (s.data.toList.drop k) ∧ Below w.heap.size w wr) (fun i _ => s.size - (intOf i).toNat)
    case atStart => exact ⟨0, Nat.zero_le _, rfl, rfl, Below.refl _ _⟩
    case round =>
      obtain ⟨k, hk, rfl, haux, hbw⟩ := hrel
      have HA := Lib.hid haux
      clear haux
      by_cases h : k < s.size
      · have b1 : (0 : Int) ≤ (k : Int) := by omega
        have b2 : (k : Int) < (s.size : Int) := by omega
        have hstep : nameAux k (s.data.toList.drop k) = (okAt k s[k] && nameAux (k + 1) (s.data.toList.drop (k + 1))) := nameAux_drop (by rw [← size_toList]; exact h)
        have HST := Lib.hid hstep
        clear hstep
        by_cases hlet : 97 ≤ s[k].toNat ∧ s[k].toNat ≤ 122
        · have g1 : (97 : Int) ≤ (s[k].toNat : Int) := by omega
          have g2 : (s[k].toNat : Int) ≤ 122 := by omega
          have HN : Hid (nameAux 0 s.data.toList = nameAux (k + 1) (s.data.toList.drop (k + 1))) := by
            show _ = _; rw [HA.out, HST.out, okAt_letter hlet.1 hlet.2, Bool.true_and]
          clear HST HA hlet
          go_wp2
          go_roundw
          case rel => exact ⟨k + 1, by omega, by go_num, HN, hbw⟩
          case measure => simp [intOf]; omega
        · have hnl : s[k].toNat < 97 ∨ 122 < s[k].toNat := by omega
          by_cases hk0 : k = 0
          · have hok : okAt k s[k] = false := by subst hk0; exact okAt_zero hnl
            have hq0 : ((k : Int) == 0) = true := by subst hk0; rfl
            clear hk0
            clear hlet
            rcases hnl with hcc | hcc
            · have g1 : (s[k].toNat : Int) < 97 := by omega
              have HN : Hid (nameAux 0 s.data.toList = false) := by
                show _ = _; rw [HA.out, HST.out, hok, Bool.false_and]
              clear HST HA hok hcc
              go_wp2
              go_ret
              exact ⟨Ut.ret_bool HN.out.symm, hbw⟩
            · have g1 : (97 : Int) ≤ (s[k].toNat : Int) := by omega
              have g2 : decide ((s[k].toNat : Int) ≤ 122) = false := by simp; omega
              have HN : Hid (nameAux 0 s.data.toList = false) := by
                show _ = _; rw [HA.out, HST.out, hok, Bool.false_and]
              clear HST HA hok hcc
              go_wp2
              go_ret
              exact ⟨Ut.ret_bool HN.out.symm, hbw⟩
          · have hok := okAt_sign hk0 hnl
            have hq0 : ((k : Int) == 0) = false := by rw [beq_eq_false_iff_ne]; omega
            clear hlet
            by_cases r1 : s[k].toNat < 48
            · have g1 : (s[k].toNat : Int) < 97 := by omega
              have g2 : (s[k].toNat : Int) < 48 := by omega
              by_cases r2 : s[k].toNat = 45
              · have hsg : isSign s[k].toNat = true := by rw [r2]; rfl
                have q0 : ((s[k].toNat : Int) != 45) = false := by rw [r2]; rfl
                have HN : Hid (nameAux 0 s.data.toList = nameAux (k + 1) (s.data.toList.drop (k + 1))) := by
                  show _ = _; rw [HA.out, HST.out, hok, hsg, Bool.true_and]
                clear HST HA hok hsg r1 r2 hnl
                go_wp2
                go_roundw
                case rel => exact ⟨k + 1, by omega, by go_num, HN, hbw⟩
                case measure => simp [intOf]; omega
              · have hsg : isSign s[k].toNat = false := sign_low r1 r2
                have q0 : ((s[k].toNat : Int) != 45) = true := by rw [bne_iff_ne]; omega
                have q1 : ((s[k].toNat : Int) != 95) = true := by rw [bne_iff_ne]; omega
                have HN : Hid (nameAux 0 s.data.toList = false) := by
                  show _ = _; rw [HA.out, HST.out, hok, hsg, Bool.false_and]
                clear HST HA hok hsg r1 r2 hnl
                go_wp2
                go_ret
                exact ⟨Ut.ret_bool HN.out.symm, hbw⟩
            · by_cases r2 : s[k].toNat ≤ 57
              · have g1 : (s[k].toNat : Int) < 97 := by omega
                have g2 : (48 : Int) ≤ (s[k].toNat : Int) := by omega
                have g3 : (s[k].toNat : Int) ≤ 57 := by omega
                have g4 : decide ((s[k].toNat : Int) < 48) = false := by simp; omega
                have hsg : isSign s[k].toNat = true := sign_digit (by omega) r2
                have HN : Hid (nameAux 0 s.data.toList = nameAux (k + 1) (s.data.toList.drop (k + 1))) := by
                  show _ = _; rw [HA.out, HST.out, hok, hsg, Bool.true_and]
                clear HST HA hok hsg r1 r2 hnl
                go_wp2
                go_roundw
                case rel => exact ⟨k + 1, by omega, by go_num, HN, hbw⟩
                case measure => simp [intOf]; omega
              · have g2 : decide ((s[k].toNat : Int) < 48) = false := by simp; omega
                have g3 : 57 < (s[k].toNat : Int) := by omega
                have q0 : ((s[k].toNat : Int) != 45) = true := by rw [bne_iff_ne]; omega
                by_cases r3 : s[k].toNat = 95
                · have g1 : (s[k].toNat : Int) < 97 := by omega
                  have hsg : isSign s[k].toNat = true := by rw [r3]; rfl
                  have q1 : ((s[k].toNat : Int) != 95) = false := by rw [r3]; rfl
                  have HN : Hid (nameAux 0 s.data.toList = nameAux (k + 1) (s.data.toList.drop (k + 1))) := by
                    show _ = _; rw [HA.out, HST.out, hok, hsg, Bool.true_and]
                  clear HST HA hok hsg r1 r2 r3 hnl
                  go_wp2
                  go_roundw
                  case rel => exact ⟨k + 1, by omega, by go_num, HN, hbw⟩
                  case measure => simp [intOf]; omega
                · have hsg : isSign s[k].toNat = false := sign_mid (by omega) r3
                  have q1 : ((s[k].toNat : Int) != 95) = true := by rw [bne_iff_ne]; omega
                  rcases hnl with hcc | hcc
                  · have g1 : (s[k].toNat : Int) < 97 := by omega
                    have HN : Hid (nameAux 0 s.data.toList = false) := by
                      show _ = _; rw [HA.out, HST.out, hok, hsg, Bool.false_and]
                    clear HST HA hok hsg r1 r2 r3 hcc
                    go_wp2
                    go_ret
                    exact ⟨Ut.ret_bool HN.out.symm, hbw⟩
                  · have g1 : (97 : Int) ≤ (s[k].toNat : Int) := by omega
                    have g4 : decide ((s[k].toNat : Int) ≤ 122) = false := by simp; omega
                    have HN : Hid (nameAux 0 s.data.toList = false) := by
                      show _ = _; rw [HA.out, HST.out, hok, hsg, Bool.false_and]
                    clear HST HA hok hsg r1 r2 r3 hcc
                    go_wp2
                    go_ret
                    exact ⟨Ut.ret_bool HN.out.symm, hbw⟩
      · have HN : Hid (nameAux 0 s.data.toList = true) := by
          show _ = _; rw [HA.out, List.drop_of_length_le (by rw [← size_toList]; omega)]; rfl
        obtain rfl : k = s.size := by omega
        clear HA h
        go_wp2
        go_ret
        exact ⟨Ut.ret_bool HN.out.symm, hbw⟩
  · have hnb : nameB s.data.toList = false := nameB_len (by rw [← size_toList]; exact hl)
    rw [hnb]
    clear hnb
    by_cases h0 : s.size < 1
    · have h1 : (s.size : Int) < 1 := by omega
      clear hl h0
      go_enter Tryz.func30, Tryz.ntmps30
      go_wp2
      go_ret
      exact ⟨rfl, Below.refl _ _⟩
    · have h1 : decide ((s.size : Int) < 1) = false := by simp; omega
      have h2 : (32 : Int) < (s.size : Int) := by omega
      clear hl h0
      go_enter Tryz.func30, Tryz.ntmps30
      go_wp2
      go_ret
      exact ⟨rfl, Below.refl _ _⟩

end Go.Proofs.YtocoonkachbjaaaGreatDoor

/- The plain laws of the names' comparison: it is an order; a text is its pieces with dots between. No program in sight. -/
namespace Go.Proofs.NmPlain

/-- What makes a comparison an order. -/
structure Ord (α : Type) (c : α → α → Int) : Prop where
  anti : ∀ a b, c b a = - c a b
  zero : ∀ a b, c a b = 0 ↔ a = b
  trans : ∀ a b d, c a b ≤ 0 → c b d ≤ 0 → c a d ≤ 0
  range : ∀ a b, -1 ≤ c a b ∧ c a b ≤ 1

theorem Ord.refl {α : Type} {c : α → α → Int} (h : Ord α c) (a : α) : c a a = 0 := (h.zero a a).2 rfl
theorem Ord.lt_trans {α : Type} {c : α → α → Int} (h : Ord α c) {a b d : α} (h1 : c a b < 0) (h2 : c b d ≤ 0) : c a d < 0 := by
  have h3 := h.trans a b d (by omega) h2
  rcases Int.lt_or_eq_of_le h3 with h4 | h4
  · exact h4
  · have e := (h.zero a d).1 h4
    subst e
    have := h.anti a b
    omega
/-- Pieces with dots between. -/
def joinD : List Bs → Bs
  | [] => []
  | [p] => p
  | p :: q :: r => p ++ 46 :: joinD (q :: r)

theorem join_split : ∀ s : Bs, joinD (split s) = s
  | [] => rfl
  | b :: l => by
    have ih := join_split l
    unfold split
    have hne := split_ne l
    by_cases hb : b = 46
    · rw [if_pos hb]
      cases h : split l with
      | nil => exact absurd h hne
      | cons p r => rw [h] at ih; rw [joinD, ih, hb]; rfl
    · rw [if_neg hb]
      cases h : split l with
      | nil => exact absurd h hne
      | cons p r =>
        rw [h] at ih
        cases r with
        | nil => simp only [joinD] at ih ⊢; rw [ih]
        | cons q r => simp only [joinD] at ih ⊢; rw [← ih]; rfl
end Go.Proofs.NmPlain

/- The reference's Dotted and Under; the law NamesUnder's walk. -/
namespace Go.Proofs.YtocoonkachbjaaaGreatDoor
open Go.RowKit Go.Proofs.NmPlain
set_option linter.unusedVariables false

theorem max_of_shape (w : World) (hsh : w.ShapedOpen Tryz.prog) : MaxAt w := by first | exact Tryz.laysM145.s1_3 w hsh | exact Tryz.laysM146.s1_3 w hsh | exact Tryz.laysM219.s1_3 w hsh | exact Tryz.laysM143.s1_3 w hsh | exact Tryz.laysM138.s1_3 w hsh

theorem str_ne {a b : ByteArray} (h : a ≠ b) : (a.toList == b.toList) = false := by
  rw [beq_eq_false_iff_ne, Lib.toList_data, Lib.toList_data]
  intro e; apply h
  cases a; cases b; simpa using e

theorem join_len : ∀ l : List Bs, (∀ p ∈ l, p.length ≤ 32) → (joinD l).length ≤ 33 * l.length
  | [], _ => by simp [joinD]
  | [p], h => by have := h p (by simp); simp [joinD]; omega
  | p :: q :: r, h => by
    have h1 := h p (by simp)
    have ih := join_len (q :: r) (fun x hx => h x (by simp at hx; simp [hx]))
    simp only [joinD, List.length_append, List.length_cons] at ih ⊢
    omega

theorem nameB_le {l : Bs} (h : nameB l = true) : l.length ≤ 32 := by
  unfold nameB at h
  simp only [Bool.and_eq_true, decide_eq_true_eq] at h
  exact h.1.2

theorem dotB_len {l : Bs} (h : 132 < l.length) : dotB l = false := by
  cases hd : dotB l with
  | false => rfl
  | true =>
    unfold dotB at hd
    simp only [Bool.and_eq_true, decide_eq_true_eq, List.all_eq_true] at hd
    have := join_len (split l) (fun p hp => nameB_le (hd.2 p hp))
    rw [join_split] at this
    omega

end Go.Proofs.YtocoonkachbjaaaGreatDoor

/- lineageref03.New, All: of any list of names, wherever it lies. -/
namespace Go.Proofs.YtocoonkachbjaaaGreatDoor
open Go.RowKit Go.Proofs.NmPlain Go.Proofs.Ar
set_option linter.unusedVariables false
namespace Sc

theorem bytes_eq (p : ByteArray) : (p.toList == p.toList) = true := by simp

theorem TextArg.at_ {w wr : World} {v : Value} {ps : List ByteArray} (h : TextArg w v ps) (hb : Below w.heap.size w wr) : TextArg wr v ps := h.below hb

theorem mem_take {ls : List ByteArray} {i j : Nat} (hj : j < ls.length) (hij : j < i) {x : ByteArray} (h : ls[j] = x) : x ∈ ls.take i := by
  rw [List.mem_take_iff_getElem]
  exact ⟨j, by omega, h⟩

/-- Behind the first n names: all these. -/
theorem setBy_all_next (n : Nat) : setBy (fun _ => true) (n + 1) = setBy (fun _ => true) n ||| 2 ^ n := by
  show (if (fun _ => true) n = true then _ else _) = _
  rw [if_pos rfl]

theorem setBy_u64 (p : Nat → Bool) {n : Nat} (h : n ≤ 64) : setBy p n < 18446744073709551616 := by
  have h1 := setBy_lt p n
  have h2 : 2 ^ n ≤ 2 ^ 64 := Nat.pow_le_pow_right (by omega) h
  omega
theorem pow_u64 {n : Nat} (h : n < 64) : 2 ^ n < 18446744073709551616 := by
  have h2 : 2 ^ n < 2 ^ 64 := Nat.pow_lt_pow_right (by omega) h
  omega

theorem wrap_pow {k : Nat} (h : k < 64) : IntKind.u64.wrap ((2 : Int) ^ k) = ((2 ^ k : Nat) : Int) := by
  have h2 := pow_u64 h
  rw [show ((2 : Int) ^ k) = ((2 ^ k : Nat) : Int) by simp, IntWalk.u64_in _ ⟨Int.natCast_nonneg _, Int.ofNat_le.2 (Nat.le_of_lt_succ h2)⟩]

theorem or_bit {S k : Nat} (hS : S < 18446744073709551616) (h : k < 64) : bits .or .u64 (S : Int) (IntKind.u64.wrap ((2 : Int) ^ k)) = ((S ||| 2 ^ k : Nat) : Int) := by
  rw [wrap_pow h, u64_or_nat _ _ hS (pow_u64 h)]

set_option maxHeartbeats 2000000 in
theorem refall_any (v : Value) (ls : List ByteArray) (hl : ls.length ≤ 64) (w : World) (h1 : TextArg w v ls) :
    Calls Tryz.prog 72 #[v] w fun e w' => e = .returned (.int .u64 (allS ls : Nat)) ∧ w = w' := by
  obtain ⟨p, cp, rfl, -⟩ := h1
  have hA : allS ls = setBy (fun _ => true) ls.length := (setBy_all _).symm
  rw [hA]
  clear hA
  go_enter Tryz.func72, Tryz.ntmps72
  go_wp2
  go_loop [3, 4] (fun s i => ∃ k : Nat, k ≤ ls.length ∧ i = .int .i64 k ∧ s = .int .u64 (setBy (fun _ => true) k : Nat)) (fun _ i => ls.length - (intOf i).toNat)
  case atStart => exact ⟨0, Nat.zero_le _, rfl, rfl⟩
  case round =>
    obtain ⟨k, hk, rfl, rfl⟩ := hrel
    by_cases h : k < ls.length
    · have b1 : (0 : Int) ≤ (k : Int) := by omega
      have b2 : (k : Int) < (ls.length : Int) := by omega
      have b3 : (k : Int) ≤ 63 := by omega
      have HO : Hid (bits .or .u64 (setBy (fun _ => true) k : Int) (IntKind.u64.wrap ((2 : Int) ^ k)) = (setBy (fun _ => true) (k + 1) : Int)) := by
        show _ = _
        rw [or_bit (setBy_u64 _ (by omega)) (by omega), ← setBy_all_next]
      go_wp2
      exact ⟨⟨k + 1, by omega, by go_num, by rw [HO.out]⟩, by simp [intOf]; omega⟩
    · obtain rfl : k = ls.length := by omega
      go_wp2
      go_ret
      exact ⟨rfl, rfl⟩

end Sc
end Go.Proofs.YtocoonkachbjaaaGreatDoor

/- Words of a book, sets read and printed, plain. No program's code. -/
namespace Go.Proofs.YtocoonkachbjaaaGreatDoor
open Go.Proofs.NmPlain
set_option linter.unusedVariables false
namespace Sc

/-- A set, or the error that there is none. -/
def fin (s : Nat) : Nat × Int := if s = 0 then (0, 10) else (s, 0)
def eqAt (ls : List ByteArray) (l : Bs) (i : Nat) : Bool := match ls[i]? with
  | some x => decide (x.data.toList = l)
  | none => false
def belAt (ls : List ByteArray) (l : Bs) (i : Nat) : Bool := match ls[i]? with
  | some x => !decide (x.data.toList = l) && underB x.data.toList l
  | none => false
/-- What a word is: a set, an error's number. -/
def wordL (ls : List ByteArray) (l : Bs) : Nat × Int :=
  if l = [42] then (allS ls, 0)
  else if dotB l = true then fin (setBy (eqAt ls l) ls.length)
  else if 2 ≤ l.length ∧ l.drop (l.length - 2) = [46, 42] ∧ dotB (l.take (l.length - 2)) = true then fin (setBy (belAt ls (l.take (l.length - 2))) ls.length)
  else (0, 4)

/-- The words of a text that begins at place k: each with its place. -/
def wordsAt (k : Nat) : Bs → List (Nat × Bs)
  | [] => []
  | c :: r => if c = 32 then wordsAt (k + 1) r else (k, c :: r.takeWhile (· ≠ 32)) :: wordsAt (k + 1 + (r.takeWhile (· ≠ 32)).length) (r.drop (r.takeWhile (· ≠ 32)).length)
termination_by l => l.length
decreasing_by
  · simp
  · simp; omega

/-- A set read word by word: the set, the error, its place. -/
def parseW (ls : List ByteArray) : List (Nat × Bs) → Nat → Nat × Int × Int
  | [], s => (s, 0, -1)
  | (k, l) :: r, s => if (wordL ls l).2 = 0 then parseW ls r (s ||| (wordL ls l).1) else (0, (wordL ls l).2, k)
def parseL (ls : List ByteArray) (l : Bs) : Nat × Int × Int := if 4096 < l.length then (0, 3, -1) else parseW ls (wordsAt 0 l) 0

/-- The names of a set, among the first k. -/
def selTo (ls : List ByteArray) (s : Nat) : Nat → List ByteArray
  | 0 => []
  | k + 1 => selTo ls s k ++ (if s.testBit k then (match ls[k]? with | some x => [x] | none => []) else [])
theorem sel_yes {ls : List ByteArray} {s k : Nat} (h : k < ls.length) (hb : s.testBit k = true) : selTo ls s (k + 1) = selTo ls s k ++ [ls[k]] := by
  show selTo ls s k ++ _ = _; rw [if_pos hb, List.getElem?_eq_getElem h]
theorem sel_no {ls : List ByteArray} {s k : Nat} (hb : s.testBit k = false) : selTo ls s (k + 1) = selTo ls s k := by
  show selTo ls s k ++ _ = _; rw [if_neg (by rw [hb]; simp), List.append_nil]
def printL (ls : List ByteArray) (s : Nat) : Bs × Int := if 2 ^ ls.length ≤ s then ([], 11) else (Lib.join ((selTo ls s ls.length).map (·.data.toList)) [32], 0)

theorem sel_len (ls : List ByteArray) (s : Nat) : ∀ k, (selTo ls s k).length ≤ k
  | 0 => Nat.le_refl _
  | k + 1 => by
    have ih := sel_len ls s k
    unfold selTo
    rw [List.length_append]
    split
    · split <;> simp <;> omega
    · simp; omega
theorem sel_mem (ls : List ByteArray) (s : Nat) : ∀ k, ∀ x ∈ selTo ls s k, ∃ i, ∃ h : i < ls.length, i < k ∧ x = ls[i] ∧ s.testBit i = true
  | 0, x, hx => by simp [selTo] at hx
  | k + 1, x, hx => by
    unfold selTo at hx
    rw [List.mem_append] at hx
    rcases hx with hx | hx
    · obtain ⟨i, h, h1, h2⟩ := sel_mem ls s k x hx
      exact ⟨i, h, by omega, h2⟩
    · split at hx
      · rename_i hb
        split at hx
        · rename_i y hy
          obtain ⟨h, e⟩ := List.getElem?_eq_some_iff.1 hy
          exact ⟨k, h, by omega, by rw [List.mem_singleton.1 hx, e], hb⟩
        · simp at hx
      · simp at hx

/-- What isn't in the book: nothing, just if the set is below its bound. -/
theorem andNot_zero {s n : Nat} (hs : s < 18446744073709551616) (hn : n ≤ 64) : (s &&& (18446744073709551615 - (2 ^ n - 1)) = 0) ↔ s < 2 ^ n := by
  have hp : 2 ^ n ≤ 2 ^ 64 := Nat.pow_le_pow_right (by omega) hn
  have hp0 : 0 < 2 ^ n := Nat.pow_pos (by omega)
  have hb : ∀ i, (18446744073709551615 - (2 ^ n - 1)).testBit i = (decide (i < 64) && !decide (i < n)) := fun i => by
    have e : 18446744073709551615 - (2 ^ n - 1) = 2 ^ 64 - ((2 ^ n - 1) + 1) := by omega
    rw [e, Nat.testBit_two_pow_sub_succ (by omega), Nat.testBit_two_pow_sub_one]
  constructor
  · intro h
    refine Nat.lt_pow_two_of_testBit _ fun i hi => ?_
    have h2 := congrArg (fun x => x.testBit i) h
    simp only [Nat.testBit_and, hb, Nat.zero_testBit] at h2
    by_cases h64 : i < 64
    · simpa [h64, show ¬ i < n by omega] using h2
    · exact Nat.testBit_lt_two_pow (Nat.lt_of_lt_of_le (by simpa using hs) (Nat.pow_le_pow_right (by omega) (show 64 ≤ i by omega)))
  · intro h
    refine Nat.eq_of_testBit_eq fun i => ?_
    rw [Nat.testBit_and, hb, Nat.zero_testBit]
    by_cases hi : i < n
    · simp [hi]
    · rw [Nat.testBit_lt_two_pow (Nat.lt_of_lt_of_le h (Nat.pow_le_pow_right (by omega) (show n ≤ i by omega)))]
      simp

end Sc
end Go.Proofs.YtocoonkachbjaaaGreatDoor

/- lineageref03.word: of any book's names and any word. -/
namespace Go.Proofs.YtocoonkachbjaaaGreatDoor
open Go.RowKit Go.Proofs.NmPlain Go.Proofs.Ar
set_option linter.unusedVariables false
namespace Sc

end Sc
end Go.Proofs.YtocoonkachbjaaaGreatDoor

/- A text's words, each with its place, plain. No program's code. -/
namespace Go.Proofs.YtocoonkachbjaaaGreatDoor
open Go.Proofs.NmPlain
set_option linter.unusedVariables false
namespace Sc

end Sc
end Go.Proofs.YtocoonkachbjaaaGreatDoor

/- lineageref03.Parse: of any book's names and any text. -/
namespace Go.Proofs.YtocoonkachbjaaaGreatDoor
open Go.RowKit Go.Proofs.NmPlain Go.Proofs.Ar
set_option linter.unusedVariables false
namespace Sc

/-- While a text is read. -/
def PRel (ls : List ByteArray) (t : ByteArray) (w : World) (s i : Value) (wr : World) : Prop :=
  ∃ k S : Nat, k ≤ t.size ∧ i = .int .i64 k ∧ s = .int .u64 (S : Int) ∧ S < 18446744073709551616 ∧ parseW ls (wordsAt k (t.data.toList.drop k)) S = parseL ls t.data.toList ∧ Below w.heap.size w wr

end Sc
end Go.Proofs.YtocoonkachbjaaaGreatDoor

/- lineageref03.Print: of any book and set. -/
namespace Go.Proofs.YtocoonkachbjaaaGreatDoor
open Go.RowKit Go.Proofs.NmPlain Go.Proofs.Ar
set_option linter.unusedVariables false
namespace Sc

theorem dotB_nil : dotB [] = false := by decide
theorem dotB_ne {l : Bs} (h : dotB l = true) : l ≠ [] := by
  rintro rfl; rw [dotB_nil] at h; cases h
theorem dotB_le {l : Bs} (h : dotB l = true) : l.length ≤ 132 := by
  rcases Nat.lt_or_ge 132 l.length with h2 | h2
  · rw [dotB_len h2] at h; cases h
  · exact h2

theorem join_snoc (xs : List Bs) (x sep : Bs) (h : xs ≠ []) : Lib.join (xs ++ [x]) sep = Lib.join xs sep ++ sep ++ x := by
  cases xs with
  | nil => exact absurd rfl h
  | cons a r => rw [List.cons_append, Lib.join_cons, Lib.join_cons]; simp [Lib.joinTail]
theorem join_ne (xs : List Bs) (sep : Bs) (h : xs ≠ []) (hx : ∀ x ∈ xs, x ≠ []) : Lib.join xs sep ≠ [] := by
  cases xs with
  | nil => exact absurd rfl h
  | cons a r =>
    rw [Lib.join_cons]
    have := hx a (by simp)
    intro e
    exact this (List.append_eq_nil_iff.1 e).1

/-- The text of a set's names among the first k. -/
def jn (ls : List ByteArray) (s k : Nat) : Bs := Lib.join ((selTo ls s k).map (·.data.toList)) [32]
theorem jn_ne {ls : List ByteArray} (hb : IsBook ls) (s k : Nat) (h : selTo ls s k ≠ []) : jn ls s k ≠ [] := by
  refine join_ne _ _ (by simpa using h) ?_
  intro x hx
  obtain ⟨y, hy, rfl⟩ := List.mem_map.1 hx
  obtain ⟨i, hi, _, rfl, _⟩ := sel_mem ls s k y hy
  exact dotB_ne (hb.dots i hi)
theorem jn_no {ls : List ByteArray} {s k : Nat} (h : s.testBit k = false) : jn ls s (k + 1) = jn ls s k := by
  unfold jn; rw [sel_no h]
theorem jn_first {ls : List ByteArray} (hb : IsBook ls) {s k : Nat} (hk : k < ls.length) (h : s.testBit k = true) (he : jn ls s k = []) : jn ls s (k + 1) = ls[k].data.toList := by
  have e : selTo ls s k = [] := by
    cases hs : selTo ls s k with
    | nil => rfl
    | cons a r => exact absurd he (jn_ne hb s k (by rw [hs]; simp))
  unfold jn; rw [sel_yes hk h, e]
  simp [Lib.join_one]
theorem jn_more {ls : List ByteArray} {s k : Nat} (hk : k < ls.length) (h : s.testBit k = true) (he : jn ls s k ≠ []) : jn ls s (k + 1) = jn ls s k ++ [32] ++ ls[k].data.toList := by
  have e : (selTo ls s k).map (·.data.toList) ≠ [] := by
    intro e; apply he; unfold jn; rw [e]; rfl
  unfold jn; rw [sel_yes hk h, List.map_append, List.map_cons, List.map_nil, join_snoc _ _ _ e]

theorem bit_at {s : Nat} (hs : s < 18446744073709551616) (k : Nat) : (bits .and .u64 ((s : Int) / 2 ^ k) 1 == 1) = s.testBit k := by
  have e : ((s : Int) / 2 ^ k) = ((s / 2 ^ k : Nat) : Int) := by simp
  have hle : s / 2 ^ k ≤ s := Nat.div_le_self _ _
  rw [e, and_one_u64 _ (Int.natCast_nonneg _) (Int.ofNat_le.2 (Nat.le_trans hle (Nat.le_of_lt_succ hs))), Nat.testBit_eq_decide_div_mod_eq]
  by_cases h : s / 2 ^ k % 2 = 1
  · rw [decide_eq_true h, beq_iff_eq]; omega
  · rw [decide_eq_false h, beq_eq_false_iff_ne]; omega

/-- While a set is printed. -/
def QRel (ls : List ByteArray) (s : Nat) (w : World) (t i : Value) (wr : World) : Prop :=
  ∃ (k : Nat) (T : ByteArray), k ≤ ls.length ∧ i = .int .i64 k ∧ t = .string T ∧ T.data.toList = jn ls s k ∧ T.size ≤ 133 * k ∧ wr = w

theorem ret2 {a : ByteArray} {l : Bs} {b : Int} {p : Bs × Int} (h : p = (l, b)) (ha : a.data.toList = l) : Ending.returned (.tuple #[.string a, .int .i64 b]) = .returned (.tuple #[.string ⟨p.1.toArray⟩, .int .i64 p.2]) := by
  subst h; subst ha; rfl

set_option maxHeartbeats 4000000 in
theorem refprint_any (v : Value) (ls : List ByteArray) (hb : IsBook ls) (s : Nat) (hs : s < 18446744073709551616) (w : World) (h1 : TextArg w v ls) :
    Calls Tryz.prog 33 #[v, .int .u64 (s : Int)] w fun e w' => e = .returned (.tuple #[.string ⟨(printL ls s).1.toArray⟩, .int .i64 (printL ls s).2]) ∧ w = w' := by
  have hA := refall_any v ls hb.len w h1
  have hal := allS_lt hb.len
  have han := u64_andNot_nat s (allS ls) hs (by omega)
  have hz := andNot_zero hs hb.len
  have hal2 : allS ls = 2 ^ ls.length - 1 := rfl
  rw [← hal2] at hz
  obtain ⟨A, hA2⟩ : ∃ A, A = allS ls := ⟨_, rfl⟩
  obtain ⟨X, hX⟩ : ∃ X, X = s &&& (18446744073709551615 - allS ls) := ⟨_, rfl⟩
  rw [← hX] at hz han
  rw [← hA2] at hA han
  have HA := Lib.hid hA; have HAN := Lib.hid han
  have hlen : (ls.length : Int) ≤ 64 := by have := hb.len; omega
  clear hA han hal hal2 hA2 hX
  by_cases h : s < 2 ^ ls.length
  · have q1 : (bits .andNot .u64 (s : Int) (A : Int) != 0) = false := by rw [HAN.out, bne_eq_false_iff_eq]; have := hz.2 h; omega
    have HP : Hid (printL ls s = (jn ls s ls.length, 0)) := by show _ = _; unfold printL; rw [if_neg (by omega)]; rfl
    have HB := Lib.hid hb
    have H1 := Lib.hid h1
    have HS := Lib.hid hs
    clear hz h hb h1 hs
    obtain ⟨p, cp, rfl, h1⟩ := H1.out
    have H2 := Lib.hid h1
    clear h1 H1
    go_enter Tryz.func33, Tryz.ntmps33
    go_wp2_with fail
    refine HA.out.mono ?_
    rintro e w1 ⟨rfl, rfl⟩
    go_wp2
    go_loopw [6, 7] (fun t i wr => QRel ls s w t i wr) (fun _ i _ => ls.length - (intOf i).toNat)
    case atStart => exact ⟨0, ByteArray.empty, Nat.zero_le _, rfl, rfl, rfl, by simp, rfl⟩
    case round =>
      obtain ⟨k, T, hk, rfl, rfl, hT, hTs, rfl⟩ := hrel
      have b2 : (0 : Int) ≤ (k : Int) := by omega
      by_cases h : k < ls.length
      · have b3 : (k : Int) < (ls.length : Int) := by omega
        have b4 : (k : Int) ≤ 63 := by omega
        obtain ⟨g1, o1, rfl, hg1, k1⟩ := H2.out k h
        have hxs : ls[k].size ≤ 132 := by
          have := dotB_le (HB.out.dots k h); rw [← size_toList] at this; exact this
        have hTz : T.size ≤ 9000 := by omega
        have hq := bit_at HS.out k
        cases hbit : s.testBit k with
        | true =>
          rw [hbit] at hq
          by_cases he : jn ls s k = []
          · have HN := Lib.hid (jn_first HB.out h hbit he)
            have q3 : (!T.toList.isEmpty) = false := by rw [Lib.toList_data, hT, he]; rfl
            have HT : Hid (T.data.toList = []) := by show _ = _; rw [hT, he]
            clear hT hbit he
            go_wp2
            refine ⟨⟨k + 1, _, by omega, by go_num, rfl, ?_, ?_, rfl⟩, by simp [intOf]; omega⟩
            · rw [HN.out]; simp [HT.out]
            · simp only [ByteArray.size_append]; omega
          · have HN := Lib.hid (jn_more h hbit he)
            have q3 : (!T.toList.isEmpty) = true := by
              rw [Lib.toList_data, hT]
              cases hj : jn ls s k with
              | nil => exact absurd hj he
              | cons a r => rfl
            have HT := Lib.hid hT
            clear hT hbit he
            go_wp2
            refine ⟨⟨k + 1, _, by omega, by go_num, rfl, ?_, ?_, rfl⟩, by simp [intOf]; omega⟩
            · rw [HN.out, ← HT.out]; simp
            · simp only [ByteArray.size_append]
              have e1 : (⟨#[32]⟩ : ByteArray).size = 1 := rfl
              rw [e1]; omega
        | false =>
          rw [hbit] at hq
          have HN := Lib.hid (jn_no (ls := ls) hbit)
          have HT := Lib.hid hT
          clear hT hbit
          go_wp2
          exact ⟨⟨k + 1, _, by omega, by go_num, rfl, by rw [HN.out]; exact HT.out, by omega, rfl⟩, by simp [intOf]; omega⟩
      · obtain rfl : k = ls.length := by omega
        go_wp2
        go_ret2
        exact ⟨ret2 HP.out hT, rfl⟩
  · have q1 : (bits .andNot .u64 (s : Int) (A : Int) != 0) = true := by rw [HAN.out, bne_iff_ne]; have := fun e => h (hz.1 e); omega
    have HP : Hid (printL ls s = ([], 11)) := by show _ = _; unfold printL; rw [if_pos (by omega)]
    clear hz h hb hs
    obtain ⟨p, cp, rfl, h1⟩ := h1
    clear h1
    go_enter Tryz.func33, Tryz.ntmps33
    go_wp2_with fail
    refine HA.out.mono ?_
    rintro e w1 ⟨rfl, rfl⟩
    go_wp2
    go_ret2
    exact ⟨ret2 HP.out rfl, rfl⟩

end Sc
end Go.Proofs.YtocoonkachbjaaaGreatDoor
