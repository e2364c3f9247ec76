/- Several texts in one: what each proves its own first comment says. -/
import Derived.Test.YtocoonkachbjaaaGreatDoorM4
import Derived.Lib.SplitLaws
import Derived.Deep.Strs
import Derived.Carry
import Derived.WalkKit
import Derived.Deep.Draws
import Derived.Test.YtocoonkachbjaaaGreatDoorProg
import Derived.Test.YtocoonkachbjaaaGreatDoorM1
import Derived.BigQuiet
import Derived.Deep.QuietTactic
import Derived.Outline
import Derived.WalkLawsBesides
import Derived.WalkSpells
import Derived.Lib.Strings
import Derived.Lib.Hide
import Derived.Deep.RegionWith
import Derived.Maps.AppendAt

/- names.Parts, Dotted: what they hand back, of any text of at most 2^25 bytes. -/
namespace Go.Proofs.YtocoonkachbjaaaGreatDoor
open Go.RowKit Go.Proofs.NmPlain
set_option linter.unusedVariables false

theorem splitK_split : ∀ (k : Nat) (l : Bs), l.count 46 ≤ k → Lib.splitK [46] 0 k l = split l
  | 0, l, h => by
    have hn : ∀ c ∈ l, c ≠ 46 := fun c hc e => by
      rw [e] at hc
      have := List.count_pos_iff.2 hc
      omega
    rw [split_plain l hn]; rfl
  | k + 1, l, h => by
    have hg := Lib.index_ge l [46]
    by_cases hi : Lib.index l [46] = -1
    · rw [split_none l hi]; simp [Lib.splitK, hi]
    · obtain ⟨i, hi'⟩ : ∃ i : Nat, Lib.index l [46] = i := ⟨(Lib.index l [46]).toNat, by omega⟩
      have hr := Lib.index_room l [46] (by omega)
      rw [split_some l i hi']
      have hil : i < l.length := by simp at hr; omega
      have hc : (l.drop (i + 1)).count 46 ≤ k := by
        have e1 : l.count 46 = (l.take (i + 1)).count 46 + (l.drop (i + 1)).count 46 := by rw [← List.count_append, List.take_append_drop]
        have e2 : 0 < (l.take (i + 1)).count 46 := by
          refine List.count_pos_iff.2 ?_
          rcases Lib.index_spec l [46] with ⟨h1, _⟩ | ⟨j, h1, h2, h3, _⟩
          · omega
          · obtain rfl : j = i := by omega
            have := Lib.occAt_head (c := 46) (t := []) rfl h3
            rw [List.getElem?_eq_getElem hil] at this
            rw [List.take_succ_eq_append_getElem hil]
            simp at this; simp [this]
        omega
      have ih := splitK_split k (l.drop (i + 1)) hc
      rw [← ih]
      have hne : (Lib.index l [46] == -1) = false := by rw [beq_eq_false_iff_ne]; exact hi
      simp [Lib.splitK, hi']

theorem splitB_split (s : ByteArray) : (Lib.splitB ⟨#[46]⟩ 0 (Lib.countB s ⟨#[46]⟩) s).map (·.data.toList) = split s.data.toList := by
  rw [Lib.splitB_data]
  exact splitK_split _ _ (by rw [show Lib.countB s ⟨#[46]⟩ = Lib.count s.data.toList [46] from rfl, Lib.count_one]; exact Nat.le_refl _)

/-- Is a text a scope's name? -/
def dotB (l : Bs) : Bool := decide ((split l).length ≤ 4) && (split l).all nameB

def MaxAt (w : World) : Prop := ∃ m, w.cell? ⟨2, 0, none⟩ = some (.int .i64 m)
theorem MaxAt.lt {w : World} (h : MaxAt w) : 2 < w.heap.size := by
  obtain ⟨m, hm⟩ := h; exact World.block_lt_of_cell? w _ hm
theorem MaxAt.below {w w' : World} (h : MaxAt w) (hb : Below w.heap.size w w') : MaxAt w' := by
  have hl := h.lt
  obtain ⟨m, hm⟩ := h
  exact ⟨m, (hb.cell (p := ⟨2, 0, none⟩) hl).trans hm⟩

/-- A list of texts that lies whole in a block of its own. -/
def TextsAt (w : World) (g : Nat) (ps : List ByteArray) : Prop := w.heap[g]? = some (.cells (ps.map Value.string).toArray 9 (0, 0))
theorem TextsAt.lt {w : World} {g : Nat} {ps : List ByteArray} (h : TextsAt w g ps) : g < w.heap.size := (Array.getElem?_eq_some_iff.1 h).1
theorem TextsAt.cell {w : World} {g : Nat} {ps : List ByteArray} (h : TextsAt w g ps) {j : Nat} (hj : j < ps.length) : w.cell? ⟨g, j, none⟩ = some (.string ps[j]) := by
  unfold TextsAt at h
  simp [World.cell?, h, hj]
theorem TextsAt.below {w w' : World} {g : Nat} {ps : List ByteArray} (h : TextsAt w g ps) {B : Nat} (hB : g < B) (hb : Below B w w') : TextsAt w' g ps := (hb.block g hB).trans h

def AllRel (ps : List ByteArray) (w : World) (i : Value) (wr : World) : Prop :=
  ∃ k : Nat, k ≤ ps.length ∧ i = .int .i64 k ∧ (∀ j (hj : j < k) (hl : j < ps.length), nameB ps[j].data.toList = true) ∧ Below w.heap.size w wr

set_option maxHeartbeats 1000000 in
theorem all_any (g : Nat) (ps : List ByteArray) (w : World) (hl : (ps.length : Int) ≤ 16777217) (hps : ∀ j (hj : j < ps.length), ps[j].size ≤ 9223372036854775807) (ht : TextsAt w g ps) :
    Calls Tryz.prog 101 #[.slice (some ⟨g, 0, none⟩) ps.length ps.length] w fun e w' => e = .returned (.bool (ps.all fun p => nameB p.data.toList)) ∧ Below w.heap.size w w' := by
  have hgl := ht.lt
  have HT := Lib.hid ht; clear ht
  have HP := Lib.hid hps; clear hps
  go_enter Tryz.func101, Tryz.ntmps101
  go_wp2
  go_loopw [4, 7] (fun _ i wr => AllRel ps w i wr) (fun _ i _ => ps.length - (intOf i).toNat)
  case atStart => exact ⟨0, Nat.zero_le _, rfl, fun j hj => absurd hj (Nat.not_lt_zero _), Below.refl _ _⟩
  case round =>
    obtain ⟨k, hk, rfl, hall, hbw⟩ := hrel
    have HA := Lib.hid hall
    clear hall
    by_cases h : k < ps.length
    · have hc : wr.cell? ⟨g, k, none⟩ = some (.string ps[k]) := TextsAt.cell (HT.out.below hgl hbw) h
      have hn := name_any ps[k] (HP.out k h) wr
      have hfin : nameB ps[k].data.toList = false → (ps.all fun p => nameB p.data.toList) = false := fun hf => by
        rw [List.all_eq_false]; exact ⟨ps[k], List.getElem_mem h, by simp [hf]⟩
      have hnext : nameB ps[k].data.toList = true → ∀ j (hj : j < k + 1) (hl : j < ps.length), nameB ps[j].data.toList = true := fun hf j hj hl => by
        rcases Nat.lt_or_ge j k with h1 | h1
        · exact HA.out j h1 hl
        · obtain rfl : j = k := by omega
          exact hf
      obtain ⟨x, hx⟩ : ∃ x, x = ps[k] := ⟨_, rfl⟩
      obtain ⟨q, hq⟩ : ∃ q, q = nameB ps[k].data.toList := ⟨_, rfl⟩
      rw [← hx] at hc
      rw [← hq, ← hx] at hn
      rw [← hq] at hfin hnext
      have HN := Lib.hid hn; have HF := Lib.hid hfin; have HX := Lib.hid hnext
      clear hn hfin hnext hx hq
      have hwr := hbw.size
      cases q
      · go_wp2_with (go_at_call 22; refine HN.out.mono ?_; rintro e w2 ⟨rfl, hb2⟩)
        go_ret
        exact ⟨Ut.ret_bool (HF.out (by simp)).symm, hbw.trans (hb2.mono hwr)⟩
      · go_wp2_with (go_at_call 22; refine HN.out.mono ?_; rintro e w2 ⟨rfl, hb2⟩)
        go_roundw
        case rel => exact ⟨k + 1, by omega, by go_num, HX.out (by simp), hbw.trans (hb2.mono hwr)⟩
        case measure => simp [intOf]; omega
    · obtain rfl : k = ps.length := by omega
      have hfin : (ps.all fun p => nameB p.data.toList) = true := by
        rw [List.all_eq_true]
        intro p hp
        obtain ⟨j, hj, rfl⟩ := List.mem_iff_getElem.1 hp
        exact HA.out j hj hj
      have HF := Lib.hid hfin
      clear hfin
      go_wp2
      go_ret
      exact ⟨Ut.ret_bool HF.out.symm, hbw⟩

/-- What Parts hands back: nothing; or the pieces, in a block of their own. -/
def PartsPost (l : Bs) (w : World) (v : Value) (w' : World) : Prop :=
  (dotB l = false ∧ v = .slice none 0 0) ∨ (dotB l = true ∧ ∃ g ps, v = .slice (some ⟨g, 0, none⟩) ps.length ps.length ∧ w.heap.size ≤ g ∧ ps.map (·.data.toList) = split l ∧ TextsAt w' g ps)

set_option maxHeartbeats 1000000 in
theorem parts_any (s : ByteArray) (hs : (s.size : Int) ≤ 16777216) (w : World) (hm : MaxAt w) :
    Calls Tryz.prog 61 #[.string s] w fun e w' => ∃ v, e = .returned v ∧ PartsPost s.data.toList w v w' ∧ Below w.heap.size w w' := by
  obtain ⟨m, hm⟩ := hm
  have hsp := Tryz.strings_Split s ⟨#[46]⟩ m w (by omega) hm (Nat.le_refl 1)
  have hlen : (Lib.splitB ⟨#[46]⟩ 0 (Lib.countB s ⟨#[46]⟩) s).length = Lib.countB s ⟨#[46]⟩ + 1 := Lib.splitB_all ⟨#[46]⟩ (Nat.le_refl 1) _ _ _ rfl
  have hdat := splitB_split s
  obtain ⟨ps, hps⟩ : ∃ ps, ps = Lib.splitB ⟨#[46]⟩ 0 (Lib.countB s ⟨#[46]⟩) s := ⟨_, rfl⟩
  rw [← hps] at hsp hlen hdat
  rw [← hlen] at hsp
  have hcl : Lib.countB s ⟨#[46]⟩ ≤ s.size := Lib.countB_le ⟨#[46]⟩ (Nat.le_refl 1) _ _ (Nat.le_refl _)
  have hpl : (ps.length : Int) ≤ 16777217 := by omega
  have hpz : ∀ j (hj : j < ps.length), ps[j].size ≤ 9223372036854775807 := fun j hj => by
    have := split_len s.data.toList ps[j].data.toList (by rw [← hdat]; exact List.mem_map.2 ⟨_, List.getElem_mem hj, rfl⟩)
    rw [← size_toList, ← size_toList] at this; omega
  have hsl : (split s.data.toList).length = ps.length := by rw [← hdat]; simp
  have hal : (split s.data.toList).all nameB = ps.all fun p => nameB p.data.toList := by rw [← hdat, List.all_map]; rfl
  have ht : TextsAt (w.alloc (.cells (ps.map Value.string).toArray 9)) w.heap.size ps := Ut.alloc_at _ _
  have hcall := all_any w.heap.size ps _ hpl hpz ht
  have hb0 : Below w.heap.size w (w.alloc (.cells (ps.map Value.string).toArray 9)) := (Below.refl _ _).alloc (Nat.le_refl _) _
  have HSP := Lib.hid hsp; have HC := Lib.hid hcall; have HSL := Lib.hid hsl; have HAL := Lib.hid hal; have HD := Lib.hid hdat; have HTA := Lib.hid ht
  clear hsp hcall hsl hal hdat hps hlen hcl hpz ht hm
  by_cases h4 : ps.length ≤ 4
  · obtain ⟨q, hq⟩ : ∃ q, q = ps.all fun p => nameB p.data.toList := ⟨_, rfl⟩
    have HC2 : Hid (Calls Tryz.prog 101 #[.slice (some ⟨w.heap.size, 0, none⟩) ps.length ps.length] (w.alloc (.cells (ps.map Value.string).toArray 9)) fun e w' => e = .returned (.bool q) ∧ Below (w.alloc (.cells (ps.map Value.string).toArray 9)).heap.size (w.alloc (.cells (ps.map Value.string).toArray 9)) w') := by rw [hq]; exact HC.out
    have HQ : Hid (dotB s.data.toList = q) := by show _ = _; unfold dotB; rw [HSL.out, HAL.out, ← hq, decide_eq_true h4, Bool.true_and]
    clear hq HC
    cases q
    · go_enter Tryz.func61, Tryz.ntmps61
      go_wp2_with fail
      refine HSP.out.mono ?_
      rintro e w1 ⟨rfl, rfl⟩
      go_wp2_with (go_at_call 101; refine HC2.out.mono ?_; rintro e w2 ⟨rfl, hb2⟩)
      go_ret
      exact ⟨_, rfl, .inl ⟨HQ.out, rfl⟩, hb0.trans (hb2.mono hb0.size)⟩
    · go_enter Tryz.func61, Tryz.ntmps61
      go_wp2_with fail
      refine HSP.out.mono ?_
      rintro e w1 ⟨rfl, rfl⟩
      go_wp2_with (go_at_call 101; refine HC2.out.mono ?_; rintro e w2 ⟨rfl, hb2⟩)
      go_ret
      exact ⟨_, rfl, .inr ⟨HQ.out, w.heap.size, ps, rfl, Nat.le_refl _, HD.out, HTA.out.below (TextsAt.lt HTA.out) hb2⟩, hb0.trans (hb2.mono hb0.size)⟩
  · have HQ : Hid (dotB s.data.toList = false) := by show _ = _; unfold dotB; rw [HSL.out, decide_eq_false h4, Bool.false_and]
    have h5 : (4 : Int) < (ps.length : Int) := by omega
    clear HC h4
    go_enter Tryz.func61, Tryz.ntmps61
    go_wp2_with fail
    refine HSP.out.mono ?_
    rintro e w1 ⟨rfl, rfl⟩
    go_wp2
    go_ret
    exact ⟨_, rfl, .inl ⟨HQ.out, rfl⟩, hb0⟩

end Go.Proofs.YtocoonkachbjaaaGreatDoor

/- names.Dotted, names.Under, of any texts of at most 2^24 bytes. -/
namespace Go.Proofs.YtocoonkachbjaaaGreatDoor
open Go.RowKit Go.Proofs.NmPlain
set_option linter.unusedVariables false

set_option maxHeartbeats 1000000 in
theorem dotted_any (s : ByteArray) (hs : (s.size : Int) ≤ 16777216) (w : World) (hm : MaxAt w) :
    Calls Tryz.prog 21 #[.string s] w fun e w' => e = .returned (.bool (dotB s.data.toList)) ∧ Below w.heap.size w w' := by
  have hp := parts_any s hs w hm
  have HP := Lib.hid hp
  clear hp hm
  have hq := fun (w : World) a n c => run_neq_slice_nil_any (P := Tryz.prog) w 22 9 a n c 0 0 Tryz.underlying22
  go_enter Tryz.func21, Tryz.ntmps21
  go_wp2_with fail
  refine HP.out.mono ?_
  rintro e w1 ⟨v, rfl, hv, hb⟩
  rcases hv with ⟨hd, rfl⟩ | ⟨hd, g, ps, rfl, hg, hsp, ht⟩
  · have HD := Lib.hid hd; clear hd
    go_wp2
    go_ret
    exact ⟨Ut.ret_bool HD.out.symm, hb⟩
  · have HD := Lib.hid hd; clear hd hsp ht
    go_wp2
    go_ret
    exact ⟨Ut.ret_bool HD.out.symm, hb⟩

/-- Does one scope's name stand under another? -/
def underB (l m : Bs) : Bool := dotB l && dotB m && decide ((split m).length ≤ (split l).length) && decide ((split l).take (split m).length = split m)

theorem map_inj {xs ys : List ByteArray} (h : xs.map (·.data.toList) = ys.map (·.data.toList)) : xs = ys := by
  have : Function.Injective (fun x : ByteArray => x.data.toList) := fun a b e => by
    cases a; cases b; simpa using e
  exact List.map_inj_right (fun _ _ e => this e) |>.1 h

end Go.Proofs.YtocoonkachbjaaaGreatDoor

/- Arguments that are lists of texts: what a walk is told of them. Of any program. -/
namespace Go.Proofs.Ar
open Go.RowKit Go.ChangeShapes Go.WideShapes Go.Deep
set_option linter.unusedVariables false

/-- A value is a list of texts, wherever it lies. -/
def TextArg (w : World) (v : Value) (ps : List ByteArray) : Prop :=
  ∃ p cap, v = .slice p ps.length cap ∧ ∀ j (hj : j < ps.length), ∃ g o, p = some ⟨g, o, none⟩ ∧ g < w.heap.size ∧ w.cell? ⟨g, o + j, none⟩ = some (.string ps[j])

theorem TextArg.below {w w' : World} {v : Value} {ps : List ByteArray} (h : TextArg w v ps) (hb : Below w.heap.size w w') : TextArg w' v ps := by
  obtain ⟨p, cap, rfl, h⟩ := h
  refine ⟨p, cap, rfl, fun j hj => ?_⟩
  obtain ⟨g, o, h1, h2, h3⟩ := h j hj
  exact ⟨g, o, h1, Nat.lt_of_lt_of_le h2 hb.size, (hb.cell (p := ⟨g, o + j, none⟩) h2).trans h3⟩

theorem plain_of_cell {w : World} {a : Addr} {u : Value} (h : w.cell? a = some u) : a = ⟨a.block, a.off, none⟩ := by
  obtain ⟨b, o, s⟩ := a
  cases s with
  | none => rfl
  | some x =>
    unfold World.cell? at h
    split at h
    · simp at h
    · cases h

theorem lt_of_cell {w : World} {a : Addr} {u : Value} (h : w.cell? a = some u) : a.block < w.heap.size := by
  rcases Nat.lt_or_ge a.block w.heap.size with h0 | h0
  · exact h0
  · unfold World.cell? at h
    rw [Array.getElem?_eq_none h0] at h; cases h

theorem add_plain_ (b o j : Nat) : (⟨b, o, none⟩ : Addr).add j = ⟨b, o + j, none⟩ := by
  unfold Addr.add
  by_cases h : j = 0 <;> simp [h]

section
variable {H : Type} {enc : TypeId × Value → H} {P : Program} {w : World}

theorem arg_texts {t e : TypeId} {r : Reach} {b0 : Nat} {v : Value} {d : DataW H} {p : List MemPlace} (ht : P.underlying t = some (.slice e)) (he : P.underlying e = some .string) (hc : P.cellsOf e = 1)
    (hv : Value.okWide P w r b0 t v) (h : DataW.Trod enc P w 0 (fun _ => true) true t v d p) :
    ∃ ps : List ByteArray, TextArg w v ps ∧ (∀ s ∈ ps, s.size ≤ maxLen) ∧ ps.length ≤ maxLen := by
  obtain ⟨a0, len, cap, rfl⟩ := okWide_slice ht hv
  obtain ⟨fuel, hf⟩ := h
  rcases open_strs ht he hc hf with ⟨hcs, hx⟩ | ⟨a, len', cap', m, Sx, hcs, _, hl, hm, hmm, hx, hcell⟩
  · simp [Value.cells] at hcs
    obtain ⟨rfl, rfl, rfl⟩ := hcs
    exact ⟨[], ⟨none, 0, rfl, fun j hj => absurd hj (Nat.not_lt_zero _)⟩, by simp, by simp⟩
  · simp [Value.cells] at hcs
    obtain ⟨rfl, rfl, rfl⟩ := hcs
    simp only [if_true] at hmm
    subst hmm
    refine ⟨(List.range len).map Sx, ⟨some a, m, by simp, fun j hj => ?_⟩, fun s hs => ?_, by simp; omega⟩
    · have hj' : j < len := by simpa using hj
      have h0 := (hcell 0 (by omega)).1
      have hp := plain_of_cell (w := w) (a := a) (by simpa [Addr.add] using h0)
      have hjc := (hcell j (by omega)).1
      refine ⟨a.block, a.off, by rw [← hp], lt_of_cell (w := w) (a := a) (by simpa [Addr.add] using h0), ?_⟩
      rw [hp, add_plain_] at hjc
      simpa using hjc
    · obtain ⟨i, hi, rfl⟩ := List.mem_map.1 hs
      exact (hcell i (by have := List.mem_range.1 hi; omega)).2
end

end Go.Proofs.Ar

/- lineageref0.SameTexts of any two lists of texts, wherever they lie. -/
namespace Go.Proofs.YtocoonkachbjaaaGreatDoor
open Go.RowKit Go.Proofs.Ar
set_option linter.unusedVariables false
namespace Tx

theorem own_arg {w : World} {base : Nat} {v : Value} {ps : List ByteArray} (h : w.ownsRow base 9 1 v ps.length (ps.map Value.string)) : TextArg w v ps := by
  rcases Nat.eq_zero_or_pos ps.length with h0 | h0
  · have e : ps = [] := List.eq_nil_of_length_eq_zero h0
    subst e
    rcases h.2 with ⟨rfl, _⟩ | ⟨g, cap, cur, rfl, _⟩
    · exact ⟨none, 0, rfl, fun j hj => absurd hj (Nat.not_lt_zero _)⟩
    · exact ⟨_, cap, rfl, fun j hj => absurd hj (Nat.not_lt_zero _)⟩
  · obtain ⟨g, c, rfl, _, _, _, hg, hc⟩ := Ut.own_cells h h0
    exact ⟨_, c, rfl, fun j hj => ⟨g, 0, rfl, hg, by rw [Nat.zero_add, hc j hj]; simp [hj]⟩⟩

theorem lit_arg (w : World) (ps : List ByteArray) (t : TypeId) : TextArg (w.alloc (.cells (ps.map Value.string).toArray t)) (.slice (some ⟨w.heap.size, 0, none⟩) ps.length ps.length) ps :=
  ⟨_, ps.length, rfl, fun j hj => ⟨w.heap.size, 0, rfl, by simp, by
    unfold World.cell?
    rw [Ut.alloc_at]
    simp [hj]⟩⟩

def SameRel (ps qs : List ByteArray) (w : World) (i : Value) (wr : World) : Prop :=
  ∃ k : Nat, k ≤ ps.length ∧ i = .int .i64 k ∧ ps.take k = qs.take k ∧ Below w.heap.size w wr

theorem bytes_eq (p : ByteArray) : (p.toList == p.toList) = true := by simp
theorem str_ne {p q : ByteArray} (h : p ≠ q) : (p.toList == q.toList) = false := by
  rw [beq_eq_false_iff_ne]
  intro e
  apply h
  rw [Lib.toList_data, Lib.toList_data] at e
  cases p; cases q
  simpa using e

set_option maxHeartbeats 1000000 in
theorem same_any (v u : Value) (ps qs : List ByteArray) (hp : (ps.length : Int) ≤ 9223372036854775807) (hq : (qs.length : Int) ≤ 9223372036854775807) (w : World) (h1 : TextArg w v ps) (h2 : TextArg w u qs) :
    Calls Tryz.prog 13 #[v, u] w fun e w' => e = .returned (.bool (decide (ps = qs))) ∧ Below w.heap.size w w' := by
  obtain ⟨p, cp, rfl, h1⟩ := h1
  obtain ⟨q, cq, rfl, h2⟩ := h2
  have H1 := Lib.hid h1; have H2 := Lib.hid h2
  clear h1 h2
  by_cases hl : ps.length = qs.length
  · have e1 : ((ps.length : Int) != (qs.length : Int)) = false := by rw [hl]; simp
    have HL := Lib.hid hl
    clear hl
    go_enter Tryz.func13, Tryz.ntmps13
    go_wp2
    go_loopw [5] (fun i wr => SameRel ps qs w i wr) (fun i _ => ps.length - (intOf i).toNat)
    case atStart => exact ⟨0, Nat.zero_le _, rfl, by simp, Below.refl _ _⟩
    case round =>
      obtain ⟨k, hk, rfl, heq, hbr⟩ := hrel
      have HE := Lib.hid heq; clear heq
      by_cases h : k < ps.length
      · have hlt : k < qs.length := by rw [← HL.out]; exact h
        obtain ⟨g1, o1, rfl, hg1, k1⟩ := H1.out k h
        obtain ⟨g2, o2, rfl, hg2, k2⟩ := H2.out k hlt
        have k1' : wr.cell? ⟨g1, o1 + k, none⟩ = some (.string ps[k]) := (hbr.cell (p := ⟨g1, o1 + k, none⟩) hg1).trans k1
        have k2' : wr.cell? ⟨g2, o2 + k, none⟩ = some (.string qs[k]) := (hbr.cell (p := ⟨g2, o2 + k, none⟩) hg2).trans k2
        have hyes : ps[k] = qs[k] → ps.take (k + 1) = qs.take (k + 1) := fun e => by
          rw [List.take_succ_eq_append_getElem h, List.take_succ_eq_append_getElem hlt, HE.out, e]
        have hno : ps[k] ≠ qs[k] → decide (ps = qs) = false := fun e => by
          rw [decide_eq_false_iff_not]; intro e2; apply e
          have : ps[k]? = qs[k]? := by rw [e2]
          rw [List.getElem?_eq_getElem h, List.getElem?_eq_getElem hlt] at this
          exact Option.some.inj this
        obtain ⟨p, hpk⟩ : ∃ p, p = ps[k] := ⟨_, rfl⟩
        obtain ⟨q, hqk⟩ : ∃ q, q = qs[k] := ⟨_, rfl⟩
        clear k1 k2 H1 H2
        rw [← hpk] at k1' hyes hno; rw [← hqk] at k2' hyes hno
        have HY := Lib.hid hyes; have HN := Lib.hid hno
        clear hyes hno hpk hqk
        have b1 : (0 : Int) ≤ (k : Int) := by omega
        have b2 : (k : Int) < (ps.length : Int) := by omega
        have b3 : (k : Int) < (qs.length : Int) := by omega
        by_cases hz : p = q
        · have HT : Hid (ps.take (k + 1) = qs.take (k + 1)) := HY.out hz
          subst hz
          have hn := bytes_eq p
          go_wp2
          go_quiet (fail)
          go_wp2
          go_roundw
          case rel => exact ⟨k + 1, by omega, by go_num, HT, Ut.below_drewN hbr _⟩
          case measure => simp [intOf]; omega
        · have hn : (p.toList == q.toList) = false := str_ne hz
          have HZ := Lib.hid hz; clear hz
          go_wp2
          go_quiet (fail)
          go_wp2
          go_ret
          exact ⟨Ut.ret_bool (by rw [HN.out HZ.out]), Ut.below_drewN hbr _⟩
      · obtain rfl : k = ps.length := by omega
        have HG : Hid (decide (ps = qs) = true) := by
          show _ = _
          have e := HE.out
          rw [List.take_length, HL.out, List.take_length] at e
          rw [decide_eq_true_eq]; exact e
        clear HE HL
        go_wp2
        go_ret
        exact ⟨Ut.ret_bool HG.out.symm, hbr⟩
  · have e1 : ((ps.length : Int) != (qs.length : Int)) = true := by rw [bne_iff_ne]; omega
    have HG : Hid (decide (ps = qs) = false) := by
      show _ = _; rw [decide_eq_false_iff_not]; intro e; exact hl (by rw [e])
    clear hl
    go_enter Tryz.func13, Tryz.ntmps13
    go_wp2
    go_ret
    exact ⟨Ut.ret_bool HG.out.symm, Below.refl _ _⟩

end Tx
end Go.Proofs.YtocoonkachbjaaaGreatDoor

/- Books of scopes, plain: which lists of names are books; sets of them as numbers. No program's code. -/
namespace Go.Proofs.YtocoonkachbjaaaGreatDoor
open Go.Proofs.NmPlain
set_option linter.unusedVariables false

def hasB (l : List ByteArray) (x : ByteArray) : Bool := l.any fun y => decide (y = x)
theorem hasB_iff {l : List ByteArray} {x : ByteArray} : hasB l x = true ↔ x ∈ l := by
  simp [hasB, List.any_eq_true]

/-- What is wrong with a list of names from place i on: the number, the place. -/
def newAt (ls : List ByteArray) (i : Nat) : Int × Int :=
  if h : i < ls.length then
    if dotB ls[i].data.toList = false then (8, i) else if hasB (ls.take i) ls[i] = true then (9, i) else newAt ls (i + 1)
  else (0, -1)
termination_by ls.length - i
def newL (ls : List ByteArray) : Int × Int := if 64 < ls.length then (5, -1) else newAt ls 0

theorem newAt_end {ls : List ByteArray} {i : Nat} (h : ls.length ≤ i) : newAt ls i = (0, -1) := by
  unfold newAt; rw [dif_neg (by omega)]
theorem newAt_name {ls : List ByteArray} {i : Nat} (h : i < ls.length) (hd : dotB ls[i].data.toList = false) : newAt ls i = (8, (i : Int)) := by
  unfold newAt; rw [dif_pos h, if_pos hd]
theorem newAt_twice {ls : List ByteArray} {i : Nat} (h : i < ls.length) (hd : dotB ls[i].data.toList = true) (hm : ls[i] ∈ ls.take i) : newAt ls i = (9, (i : Int)) := by
  unfold newAt; rw [dif_pos h, if_neg (by rw [hd]; simp), if_pos (hasB_iff.2 hm)]
theorem newAt_next {ls : List ByteArray} {i : Nat} (h : i < ls.length) (hd : dotB ls[i].data.toList = true) (hm : ls[i] ∉ ls.take i) : newAt ls i = newAt ls (i + 1) := by
  rw [newAt, dif_pos h, if_neg (by rw [hd]; simp), if_neg (fun h => hm (hasB_iff.1 h))]

/-- A list that is a book's. -/
structure IsBook (ls : List ByteArray) : Prop where
  len : ls.length ≤ 64
  dots : ∀ i (h : i < ls.length), dotB ls[i].data.toList = true
  once : ∀ i j (hi : i < ls.length) (hj : j < ls.length), ls[i] = ls[j] → i = j

theorem newAt_ok : ∀ (n i : Nat) (ls : List ByteArray), ls.length - i = n → newAt ls i = (0, -1) → ∀ j, i ≤ j → ∀ h : j < ls.length, dotB ls[j].data.toList = true ∧ ls[j] ∉ ls.take j := by
  intro n
  induction n with
  | zero => intro i ls hn _ j hj h; omega
  | succ n ih =>
    intro i ls hn hok j hj h
    have hi : i < ls.length := by omega
    cases hd : dotB ls[i].data.toList with
    | false => rw [newAt_name hi hd] at hok; simp at hok
    | true =>
      by_cases hm : ls[i] ∈ ls.take i
      · rw [newAt_twice hi hd hm] at hok; simp at hok
      · rw [newAt_next hi hd hm] at hok
        by_cases e : j = i
        · subst e; exact ⟨hd, hm⟩
        · exact ih (i + 1) ls (by omega) hok j (by omega) h

theorem book_of {ls : List ByteArray} (h : newL ls = (0, -1)) : IsBook ls := by
  unfold newL at h
  split at h
  · simp at h
  · rename_i hl
    have hall := newAt_ok _ 0 ls rfl h
    refine ⟨by omega, fun i hi => (hall i (Nat.zero_le _) hi).1, fun i j hi hj e => ?_⟩
    rcases Nat.lt_trichotomy i j with hlt | he | hlt
    · exfalso
      refine (hall j (Nat.zero_le _) hj).2 ?_
      rw [← e, List.mem_take_iff_getElem]
      exact ⟨i, by omega, rfl⟩
    · exact he
    · exfalso
      refine (hall i (Nat.zero_le _) hi).2 ?_
      rw [e, List.mem_take_iff_getElem]
      exact ⟨j, by omega, rfl⟩

theorem newAt_range : ∀ (n i : Nat) (ls : List ByteArray), ls.length - i = n → newAt ls i = (0, -1) ∨ (((newAt ls i).1 = 8 ∨ (newAt ls i).1 = 9) ∧ 0 ≤ (newAt ls i).2) := by
  intro n
  induction n with
  | zero => intro i ls hn; exact .inl (newAt_end (by omega))
  | succ n ih =>
    intro i ls hn
    have hi : i < ls.length := by omega
    cases hd : dotB ls[i].data.toList with
    | false => rw [newAt_name hi hd]; exact .inr ⟨.inl rfl, by simp⟩
    | true =>
      by_cases hm : ls[i] ∈ ls.take i
      · rw [newAt_twice hi hd hm]; exact .inr ⟨.inr rfl, by simp⟩
      · rw [newAt_next hi hd hm]; exact ih (i + 1) ls (by omega)

/-- The set of those places below n of which p holds. -/
def setBy (p : Nat → Bool) : Nat → Nat
  | 0 => 0
  | n + 1 => if p n then setBy p n ||| 2 ^ n else setBy p n

theorem setBy_bit (p : Nat → Bool) : ∀ n i, (setBy p n).testBit i = (decide (i < n) && p i)
  | 0, i => by simp [setBy]
  | n + 1, i => by
    have ih := setBy_bit p n i
    unfold setBy
    by_cases hp : p n = true
    · rw [if_pos hp, Nat.testBit_or, ih, Nat.testBit_two_pow]
      by_cases e : n = i
      · subst e; simp [hp]
      · by_cases h : i < n
        · simp [h, e, show i < n + 1 by omega]
        · simp [h, e, show ¬ i < n + 1 by omega]
    · rw [if_neg hp, ih]
      by_cases e : i = n
      · subst e; simp [hp]
      · by_cases h : i < n
        · simp [h, show i < n + 1 by omega]
        · simp [h, show ¬ i < n + 1 by omega]

theorem setBy_lt (p : Nat → Bool) : ∀ n, setBy p n < 2 ^ n := fun n =>
  Nat.lt_pow_two_of_testBit _ fun i hi => by rw [setBy_bit]; simp [show ¬ i < n by omega]

theorem setBy_congr {p q : Nat → Bool} {n : Nat} (h : ∀ i, i < n → p i = q i) : setBy p n = setBy q n :=
  Nat.eq_of_testBit_eq fun i => by
    rw [setBy_bit, setBy_bit]
    by_cases hi : i < n
    · rw [h i hi]
    · simp [hi]

theorem setBy_all (n : Nat) : setBy (fun _ => true) n = 2 ^ n - 1 :=
  Nat.eq_of_testBit_eq fun i => by rw [setBy_bit, Nat.testBit_two_pow_sub_one]; simp

theorem setBy_one {n k : Nat} (hk : k < n) : setBy (fun i => i == k) n = 2 ^ k :=
  Nat.eq_of_testBit_eq fun i => by
    rw [setBy_bit, Nat.testBit_two_pow]
    by_cases e : k = i
    · subst e; simp [hk]
    · have : (i == k) = false := by simp; omega
      simp [e, this]

theorem setBy_none {p : Nat → Bool} {n : Nat} (h : ∀ i, i < n → p i = false) : setBy p n = 0 :=
  Nat.eq_of_testBit_eq fun i => by
    rw [setBy_bit]
    by_cases hi : i < n
    · rw [h i hi]; simp
    · simp [hi]

/-- All scopes of a book. -/
def allS (ls : List ByteArray) : Nat := 2 ^ ls.length - 1
theorem allS_lt {ls : List ByteArray} (h : ls.length ≤ 64) : allS ls ≤ 18446744073709551615 := by
  have : 2 ^ ls.length ≤ 2 ^ 64 := Nat.pow_le_pow_right (by omega) h
  unfold allS; omega

end Go.Proofs.YtocoonkachbjaaaGreatDoor

/- (Without the names' comparison.) The reference's pieces of a text: a new list of texts, of the call's own. -/
namespace Go.Proofs.YtocoonkachbjaaaGreatDoor
open Go.RowKit Go.Proofs.NmPlain
set_option linter.unusedVariables false

theorem nm_info : (Tryz.prog.info? 9).map (fun i => (i.zero, i.size, i.bytes)) = some (some (.string ByteArray.empty), 1, 16) := by kernel_rfl

/-- Behind an append of one element to a list of the call's own. -/
theorem below_app {B : Nat} {w wr w1 : World} {e size n : Nat} {v : Value} {xs : List Value} {o : Obj} (hnx : Below B w wr) (hB : B ≤ wr.heap.size) (hown : wr.ownsRow B e size v n xs) (hgrow : (wr.alloc o).grownBy w1 v.ownBlock) : Below B w w1 :=
  (hnx.alloc hB o).grown hgrow (by simp; omega) (fun j hj => (hown.lt j hj).1)

end Go.Proofs.YtocoonkachbjaaaGreatDoor

/- The reference's Name and Dotted, of any text. -/
namespace Go.Proofs.YtocoonkachbjaaaGreatDoor
open Go.RowKit Go.Proofs.NmPlain
set_option linter.unusedVariables false

/-- What a byte is to the reference's Name, told by ranges. -/
theorem sign_low {n : Nat} (h : n < 48) (h2 : n ≠ 45) : isSign n = false := by
  unfold isSign
  have a : decide (48 ≤ n) = false := by simp; omega
  have b : (n == 45) = false := by rw [beq_eq_false_iff_ne]; omega
  have d : (n == 95) = false := by rw [beq_eq_false_iff_ne]; omega
  rw [a, b, d]; simp
theorem sign_mid {n : Nat} (h : 57 < n) (h2 : n ≠ 95) : isSign n = false := by
  unfold isSign
  have a : decide (n ≤ 57) = false := by simp; omega
  have b : (n == 45) = false := by rw [beq_eq_false_iff_ne]; omega
  have d : (n == 95) = false := by rw [beq_eq_false_iff_ne]; omega
  rw [a, b, d]; simp
theorem sign_digit {n : Nat} (h : 48 ≤ n) (h2 : n ≤ 57) : isSign n = true := by
  unfold isSign
  rw [decide_eq_true h, decide_eq_true h2]; simp

set_option maxHeartbeats 2000000 in
theorem refname_any (s : ByteArray) (hs : s.size ≤ 16777216) (w : World) :
    Calls Tryz.prog 30 #[.string s] w fun e w' => e = .returned (.bool (nameB s.data.toList)) ∧ Below w.heap.size w w' := by
  by_cases hl : 1 ≤ s.size ∧ s.size ≤ 32
  · have hnb : nameB s.data.toList = nameAux 0 s.data.toList := nameB_aux (by rw [← size_toList]; exact hl)
    obtain ⟨l1, l2⟩ := hl
    rw [hnb]
    clear hnb
    go_enter Tryz.func30, Tryz.ntmps30
    go_wp2
    go_loopw [3] (fun i wr => ∃ k : Nat, k ≤ s.size ∧ i = .int .i64 k ∧ nameAux 0 s.data.toList = nameAux k (s.data.toList.drop k) ∧ Below w.heap.size w wr) (fun i _ => s.size - (intOf i).toNat)
    case atStart => exact ⟨0, Nat.zero_le _, rfl, rfl, Below.refl _ _⟩
    case round =>
      obtain ⟨k, hk, rfl, haux, hbw⟩ := hrel
      have HA := Lib.hid haux
      clear haux
      by_cases h : k < s.size
      · have b1 : (0 : Int) ≤ (k : Int) := by omega
        have b2 : (k : Int) < (s.size : Int) := by omega
        have hstep : nameAux k (s.data.toList.drop k) = (okAt k s[k] && nameAux (k + 1) (s.data.toList.drop (k + 1))) := nameAux_drop (by rw [← size_toList]; exact h)
        have HST := Lib.hid hstep
        clear hstep
        by_cases hlet : 97 ≤ s[k].toNat ∧ s[k].toNat ≤ 122
        · have g1 : (97 : Int) ≤ (s[k].toNat : Int) := by omega
          have g2 : (s[k].toNat : Int) ≤ 122 := by omega
          have HN : Hid (nameAux 0 s.data.toList = nameAux (k + 1) (s.data.toList.drop (k + 1))) := by
            show _ = _; rw [HA.out, HST.out, okAt_letter hlet.1 hlet.2, Bool.true_and]
          clear HST HA hlet
          go_wp2
          go_roundw
          case rel => exact ⟨k + 1, by omega, by go_num, HN, hbw⟩
          case measure => simp [intOf]; omega
        · have hnl : s[k].toNat < 97 ∨ 122 < s[k].toNat := by omega
          by_cases hk0 : k = 0
          · have hok : okAt k s[k] = false := by subst hk0; exact okAt_zero hnl
            have hq0 : ((k : Int) == 0) = true := by subst hk0; rfl
            clear hk0
            clear hlet
            rcases hnl with hcc | hcc
            · have g1 : (s[k].toNat : Int) < 97 := by omega
              have HN : Hid (nameAux 0 s.data.toList = false) := by
                show _ = _; rw [HA.out, HST.out, hok, Bool.false_and]
              clear HST HA hok hcc
              go_wp2
              go_ret
              exact ⟨Ut.ret_bool HN.out.symm, hbw⟩
            · have g1 : (97 : Int) ≤ (s[k].toNat : Int) := by omega
              have g2 : decide ((s[k].toNat : Int) ≤ 122) = false := by simp; omega
              have HN : Hid (nameAux 0 s.data.toList = false) := by
                show _ = _; rw [HA.out, HST.out, hok, Bool.false_and]
              clear HST HA hok hcc
              go_wp2
              go_ret
              exact ⟨Ut.ret_bool HN.out.symm, hbw⟩
          · have hok := okAt_sign hk0 hnl
            have hq0 : ((k : Int) == 0) = false := by rw [beq_eq_false_iff_ne]; omega
            clear hlet
            by_cases r1 : s[k].toNat < 48
            · have g1 : (s[k].toNat : Int) < 97 := by omega
              have g2 : (s[k].toNat : Int) < 48 := by omega
              by_cases r2 : s[k].toNat = 45
              · have hsg : isSign s[k].toNat = true := by rw [r2]; rfl
                have q0 : ((s[k].toNat : Int) != 45) = false := by rw [r2]; rfl
                have HN : Hid (nameAux 0 s.data.toList = nameAux (k + 1) (s.data.toList.drop (k + 1))) := by
                  show _ = _; rw [HA.out, HST.out, hok, hsg, Bool.true_and]
                clear HST HA hok hsg r1 r2 hnl
                go_wp2
                go_roundw
                case rel => exact ⟨k + 1, by omega, by go_num, HN, hbw⟩
                case measure => simp [intOf]; omega
              · have hsg : isSign s[k].toNat = false := sign_low r1 r2
                have q0 : ((s[k].toNat : Int) != 45) = true := by rw [bne_iff_ne]; omega
                have q1 : ((s[k].toNat : Int) != 95) = true := by rw [bne_iff_ne]; omega
                have HN : Hid (nameAux 0 s.data.toList = false) := by
                  show _ = _; rw [HA.out, HST.out, hok, hsg, Bool.false_and]
                clear HST HA hok hsg r1 r2 hnl
                go_wp2
                go_ret
                exact ⟨Ut.ret_bool HN.out.symm, hbw⟩
            · by_cases r2 : s[k].toNat ≤ 57
              · have g1 : (s[k].toNat : Int) < 97 := by omega
                have g2 : (48 : Int) ≤ (s[k].toNat : Int) := by omega
                have g3 : (s[k].toNat : Int) ≤ 57 := by omega
                have g4 : decide ((s[k].toNat : Int) < 48) = false := by simp; omega
                have hsg : isSign s[k].toNat = true := sign_digit (by omega) r2
                have HN : Hid (nameAux 0 s.data.toList = nameAux (k + 1) (s.data.toList.drop (k + 1))) := by
                  show _ = _; rw [HA.out, HST.out, hok, hsg, Bool.true_and]
                clear HST HA hok hsg r1 r2 hnl
                go_wp2
                go_roundw
                case rel => exact ⟨k + 1, by omega, by go_num, HN, hbw⟩
                case measure => simp [intOf]; omega
              · have g2 : decide ((s[k].toNat : Int) < 48) = false := by simp; omega
                have g3 : 57 < (s[k].toNat : Int) := by omega
                have q0 : ((s[k].toNat : Int) != 45) = true := by rw [bne_iff_ne]; omega
                by_cases r3 : s[k].toNat = 95
                · have g1 : (s[k].toNat : Int) < 97 := by omega
                  have hsg : isSign s[k].toNat = true := by rw [r3]; rfl
                  have q1 : ((s[k].toNat : Int) != 95) = false := by rw [r3]; rfl
                  have HN : Hid (nameAux 0 s.data.toList = nameAux (k + 1) (s.data.toList.drop (k + 1))) := by
                    show _ = _; rw [HA.out, HST.out, hok, hsg, Bool.true_and]
                  clear HST HA hok hsg r1 r2 r3 hnl
                  go_wp2
                  go_roundw
                  case rel => exact ⟨k + 1, by omega, by go_num, HN, hbw⟩
                  case measure => simp [intOf]; omega
                · have hsg : isSign s[k].toNat = false := sign_mid (by omega) r3
                  have q1 : ((s[k].toNat : Int) != 95) = true := by rw [bne_iff_ne]; omega
                  rcases hnl with hcc | hcc
                  · have g1 : (s[k].toNat : Int) < 97 := by omega
                    have HN : Hid (nameAux 0 s.data.toList = false) := by
                      show _ = _; rw [HA.out, HST.out, hok, hsg, Bool.false_and]
                    clear HST HA hok hsg r1 r2 r3 hcc
                    go_wp2
                    go_ret
                    exact ⟨Ut.ret_bool HN.out.symm, hbw⟩
                  · have g1 : (97 : Int) ≤ (s[k].toNat : Int) := by omega
                    have g4 : decide ((s[k].toNat : Int) ≤ 122) = false := by simp; omega
                    have HN : Hid (nameAux 0 s.data.toList = false) := by
                      show _ = _; rw [HA.out, HST.out, hok, hsg, Bool.false_and]
                    clear HST HA hok hsg r1 r2 r3 hcc
                    go_wp2
                    go_ret
                    exact ⟨Ut.ret_bool HN.out.symm, hbw⟩
      · have HN : Hid (nameAux 0 s.data.toList = true) := by
          show _ = _; rw [HA.out, List.drop_of_length_le (by rw [← size_toList]; omega)]; rfl
        obtain rfl : k = s.size := by omega
        clear HA h
        go_wp2
        go_ret
        exact ⟨Ut.ret_bool HN.out.symm, hbw⟩
  · have hnb : nameB s.data.toList = false := nameB_len (by rw [← size_toList]; exact hl)
    rw [hnb]
    clear hnb
    by_cases h0 : s.size < 1
    · have h1 : (s.size : Int) < 1 := by omega
      clear hl h0
      go_enter Tryz.func30, Tryz.ntmps30
      go_wp2
      go_ret
      exact ⟨rfl, Below.refl _ _⟩
    · have h1 : decide ((s.size : Int) < 1) = false := by simp; omega
      have h2 : (32 : Int) < (s.size : Int) := by omega
      clear hl h0
      go_enter Tryz.func30, Tryz.ntmps30
      go_wp2
      go_ret
      exact ⟨rfl, Below.refl _ _⟩

end Go.Proofs.YtocoonkachbjaaaGreatDoor
