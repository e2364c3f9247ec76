/- names.Parts, Dotted: what they hand back, of any text of at most 2^25 bytes. -/
import Derived.Test.YtocoonkachbjaaaGreatDoorNmName
import Derived.Lib.SplitLaws
namespace Go.Proofs.YtocoonkachbjaaaGreatDoor
open Go.RowKit Go.Proofs.NmPlain
set_option linter.unusedVariables false

theorem splitK_split : ∀ (k : Nat) (l : Bs), l.count 46 ≤ k → Lib.splitK [46] 0 k l = split l
  | 0, l, h => by
    have hn : ∀ c ∈ l, c ≠ 46 := fun c hc e => by
      rw [e] at hc
      have := List.count_pos_iff.2 hc
      omega
    rw [split_plain l hn]; rfl
  | k + 1, l, h => by
    have hg := Lib.index_ge l [46]
    by_cases hi : Lib.index l [46] = -1
    · rw [split_none l hi]; simp [Lib.splitK, hi]
    · obtain ⟨i, hi'⟩ : ∃ i : Nat, Lib.index l [46] = i := ⟨(Lib.index l [46]).toNat, by omega⟩
      have hr := Lib.index_room l [46] (by omega)
      rw [split_some l i hi']
      have hil : i < l.length := by simp at hr; omega
      have hc : (l.drop (i + 1)).count 46 ≤ k := by
        have e1 : l.count 46 = (l.take (i + 1)).count 46 + (l.drop (i + 1)).count 46 := by rw [← List.count_append, List.take_append_drop]
        have e2 : 0 < (l.take (i + 1)).count 46 := by
          refine List.count_pos_iff.2 ?_
          rcases Lib.index_spec l [46] with ⟨h1, _⟩ | ⟨j, h1, h2, h3, _⟩
          · omega
          · obtain rfl : j = i := by omega
            have := Lib.occAt_head (c := 46) (t := []) rfl h3
            rw [List.getElem?_eq_getElem hil] at this
            rw [List.take_succ_eq_append_getElem hil]
            simp at this; simp [this]
        omega
      have ih := splitK_split k (l.drop (i + 1)) hc
      rw [← ih]
      have hne : (Lib.index l [46] == -1) = false := by rw [beq_eq_false_iff_ne]; exact hi
      simp [Lib.splitK, hi']

theorem splitB_split (s : ByteArray) : (Lib.splitB ⟨#[46]⟩ 0 (Lib.countB s ⟨#[46]⟩) s).map (·.data.toList) = split s.data.toList := by
  rw [Lib.splitB_data]
  exact splitK_split _ _ (by rw [show Lib.countB s ⟨#[46]⟩ = Lib.count s.data.toList [46] from rfl, Lib.count_one]; exact Nat.le_refl _)

/-- Is a text a scope's name? -/
def dotB (l : Bs) : Bool := decide ((split l).length ≤ 4) && (split l).all nameB

def MaxAt (w : World) : Prop := ∃ m, w.cell? ⟨2, 0, none⟩ = some (.int .i64 m)
theorem MaxAt.lt {w : World} (h : MaxAt w) : 2 < w.heap.size := by
  obtain ⟨m, hm⟩ := h; exact World.block_lt_of_cell? w _ hm
theorem MaxAt.below {w w' : World} (h : MaxAt w) (hb : Below w.heap.size w w') : MaxAt w' := by
  have hl := h.lt
  obtain ⟨m, hm⟩ := h
  exact ⟨m, (hb.cell (p := ⟨2, 0, none⟩) hl).trans hm⟩

/-- A list of texts that lies whole in a block of its own. -/
def TextsAt (w : World) (g : Nat) (ps : List ByteArray) : Prop := w.heap[g]? = some (.cells (ps.map Value.string).toArray 9 (0, 0))
theorem TextsAt.lt {w : World} {g : Nat} {ps : List ByteArray} (h : TextsAt w g ps) : g < w.heap.size := (Array.getElem?_eq_some_iff.1 h).1
theorem TextsAt.cell {w : World} {g : Nat} {ps : List ByteArray} (h : TextsAt w g ps) {j : Nat} (hj : j < ps.length) : w.cell? ⟨g, j, none⟩ = some (.string ps[j]) := by
  unfold TextsAt at h
  simp [World.cell?, h, hj]
theorem TextsAt.below {w w' : World} {g : Nat} {ps : List ByteArray} (h : TextsAt w g ps) {B : Nat} (hB : g < B) (hb : Below B w w') : TextsAt w' g ps := (hb.block g hB).trans h

def AllRel (ps : List ByteArray) (w : World) (i : Value) (wr : World) : Prop :=
  ∃ k : Nat, k ≤ ps.length ∧ i = .int .i64 k ∧ (∀ j (hj : j < k) (hl : j < ps.length), nameB ps[j].data.toList = true) ∧ Below w.heap.size w wr

set_option maxHeartbeats 1000000 in
theorem all_any (g : Nat) (ps : List ByteArray) (w : World) (hl : (ps.length : Int) ≤ 16777217) (hps : ∀ j (hj : j < ps.length), ps[j].size ≤ 9223372036854775807) (ht : TextsAt w g ps) :
    Calls Tryz.prog 101 #[.slice (some ⟨g, 0, none⟩) ps.length ps.length] w fun e w' => e = .returned (.bool (ps.all fun p => nameB p.data.toList)) ∧ Below w.heap.size w w' := by
  have hgl := ht.lt
  have HT := Lib.hid ht; clear ht
  have HP := Lib.hid hps; clear hps
  go_enter Tryz.func101, Tryz.ntmps101
  go_wp2
  go_loopw [4, 7] (fun _ i wr => AllRel ps w i wr) (fun _ i _ => ps.length - (intOf i).toNat)
  case atStart => exact ⟨0, Nat.zero_le _, rfl, fun j hj => absurd hj (Nat.not_lt_zero _), Below.refl _ _⟩
  case round =>
    obtain ⟨k, hk, rfl, hall, hbw⟩ := hrel
    have HA := Lib.hid hall
    clear hall
    by_cases h : k < ps.length
    · have hc : wr.cell? ⟨g, k, none⟩ = some (.string ps[k]) := TextsAt.cell (HT.out.below hgl hbw) h
      have hn := name_any ps[k] (HP.out k h) wr
      have hfin : nameB ps[k].data.toList = false → (ps.all fun p => nameB p.data.toList) = false := fun hf => by
        rw [List.all_eq_false]; exact ⟨ps[k], List.getElem_mem h, by simp [hf]⟩
      have hnext : nameB ps[k].data.toList = true → ∀ j (hj : j < k + 1) (hl : j < ps.length), nameB ps[j].data.toList = true := fun hf j hj hl => by
        rcases Nat.lt_or_ge j k with h1 | h1
        · exact HA.out j h1 hl
        · obtain rfl : j = k := by omega
          exact hf
      obtain ⟨x, hx⟩ : ∃ x, x = ps[k] := ⟨_, rfl⟩
      obtain ⟨q, hq⟩ : ∃ q, q = nameB ps[k].data.toList := ⟨_, rfl⟩
      rw [← hx] at hc
      rw [← hq, ← hx] at hn
      rw [← hq] at hfin hnext
      have HN := Lib.hid hn; have HF := Lib.hid hfin; have HX := Lib.hid hnext
      clear hn hfin hnext hx hq
      have hwr := hbw.size
      cases q
      · go_wp2_with (go_at_call 22; refine HN.out.mono ?_; rintro e w2 ⟨rfl, hb2⟩)
        go_ret
        exact ⟨Ut.ret_bool (HF.out (by simp)).symm, hbw.trans (hb2.mono hwr)⟩
      · go_wp2_with (go_at_call 22; refine HN.out.mono ?_; rintro e w2 ⟨rfl, hb2⟩)
        go_roundw
        case rel => exact ⟨k + 1, by omega, by go_num, HX.out (by simp), hbw.trans (hb2.mono hwr)⟩
        case measure => simp [intOf]; omega
    · obtain rfl : k = ps.length := by omega
      have hfin : (ps.all fun p => nameB p.data.toList) = true := by
        rw [List.all_eq_true]
        intro p hp
        obtain ⟨j, hj, rfl⟩ := List.mem_iff_getElem.1 hp
        exact HA.out j hj hj
      have HF := Lib.hid hfin
      clear hfin
      go_wp2
      go_ret
      exact ⟨Ut.ret_bool HF.out.symm, hbw⟩

/-- What Parts hands back: nothing; or the pieces, in a block of their own. -/
def PartsPost (l : Bs) (w : World) (v : Value) (w' : World) : Prop :=
  (dotB l = false ∧ v = .slice none 0 0) ∨ (dotB l = true ∧ ∃ g ps, v = .slice (some ⟨g, 0, none⟩) ps.length ps.length ∧ w.heap.size ≤ g ∧ ps.map (·.data.toList) = split l ∧ TextsAt w' g ps)

set_option maxHeartbeats 1000000 in
theorem parts_any (s : ByteArray) (hs : (s.size : Int) ≤ 16777216) (w : World) (hm : MaxAt w) :
    Calls Tryz.prog 61 #[.string s] w fun e w' => ∃ v, e = .returned v ∧ PartsPost s.data.toList w v w' ∧ Below w.heap.size w w' := by
  obtain ⟨m, hm⟩ := hm
  have hsp := Tryz.strings_Split s ⟨#[46]⟩ m w (by omega) hm (Nat.le_refl 1)
  have hlen : (Lib.splitB ⟨#[46]⟩ 0 (Lib.countB s ⟨#[46]⟩) s).length = Lib.countB s ⟨#[46]⟩ + 1 := Lib.splitB_all ⟨#[46]⟩ (Nat.le_refl 1) _ _ _ rfl
  have hdat := splitB_split s
  obtain ⟨ps, hps⟩ : ∃ ps, ps = Lib.splitB ⟨#[46]⟩ 0 (Lib.countB s ⟨#[46]⟩) s := ⟨_, rfl⟩
  rw [← hps] at hsp hlen hdat
  rw [← hlen] at hsp
  have hcl : Lib.countB s ⟨#[46]⟩ ≤ s.size := Lib.countB_le ⟨#[46]⟩ (Nat.le_refl 1) _ _ (Nat.le_refl _)
  have hpl : (ps.length : Int) ≤ 16777217 := by omega
  have hpz : ∀ j (hj : j < ps.length), ps[j].size ≤ 9223372036854775807 := fun j hj => by
    have := split_len s.data.toList ps[j].data.toList (by rw [← hdat]; exact List.mem_map.2 ⟨_, List.getElem_mem hj, rfl⟩)
    rw [← size_toList, ← size_toList] at this; omega
  have hsl : (split s.data.toList).length = ps.length := by rw [← hdat]; simp
  have hal : (split s.data.toList).all nameB = ps.all fun p => nameB p.data.toList := by rw [← hdat, List.all_map]; rfl
  have ht : TextsAt (w.alloc (.cells (ps.map Value.string).toArray 9)) w.heap.size ps := Ut.alloc_at _ _
  have hcall := all_any w.heap.size ps _ hpl hpz ht
  have hb0 : Below w.heap.size w (w.alloc (.cells (ps.map Value.string).toArray 9)) := (Below.refl _ _).alloc (Nat.le_refl _) _
  have HSP := Lib.hid hsp; have HC := Lib.hid hcall; have HSL := Lib.hid hsl; have HAL := Lib.hid hal; have HD := Lib.hid hdat; have HTA := Lib.hid ht
  clear hsp hcall hsl hal hdat hps hlen hcl hpz ht hm
  by_cases h4 : ps.length ≤ 4
  · obtain ⟨q, hq⟩ : ∃ q, q = ps.all fun p => nameB p.data.toList := ⟨_, rfl⟩
    have HC2 : Hid (Calls Tryz.prog 101 #[.slice (some ⟨w.heap.size, 0, none⟩) ps.length ps.length] (w.alloc (.cells (ps.map Value.string).toArray 9)) fun e w' => e = .returned (.bool q) ∧ Below (w.alloc (.cells (ps.map Value.string).toArray 9)).heap.size (w.alloc (.cells (ps.map Value.string).toArray 9)) w') := by rw [hq]; exact HC.out
    have HQ : Hid (dotB s.data.toList = q) := by show _ = _; unfold dotB; rw [HSL.out, HAL.out, ← hq, decide_eq_true h4, Bool.true_and]
    clear hq HC
    cases q
    · go_enter Tryz.func61, Tryz.ntmps61
      go_wp2_with fail
      refine HSP.out.mono ?_
      rintro e w1 ⟨rfl, rfl⟩
      go_wp2_with (go_at_call 101; refine HC2.out.mono ?_; rintro e w2 ⟨rfl, hb2⟩)
      go_ret
      exact ⟨_, rfl, .inl ⟨HQ.out, rfl⟩, hb0.trans (hb2.mono hb0.size)⟩
    · go_enter Tryz.func61, Tryz.ntmps61
      go_wp2_with fail
      refine HSP.out.mono ?_
      rintro e w1 ⟨rfl, rfl⟩
      go_wp2_with (go_at_call 101; refine HC2.out.mono ?_; rintro e w2 ⟨rfl, hb2⟩)
      go_ret
      exact ⟨_, rfl, .inr ⟨HQ.out, w.heap.size, ps, rfl, Nat.le_refl _, HD.out, HTA.out.below (TextsAt.lt HTA.out) hb2⟩, hb0.trans (hb2.mono hb0.size)⟩
  · have HQ : Hid (dotB s.data.toList = false) := by show _ = _; unfold dotB; rw [HSL.out, decide_eq_false h4, Bool.false_and]
    have h5 : (4 : Int) < (ps.length : Int) := by omega
    clear HC h4
    go_enter Tryz.func61, Tryz.ntmps61
    go_wp2_with fail
    refine HSP.out.mono ?_
    rintro e w1 ⟨rfl, rfl⟩
    go_wp2
    go_ret
    exact ⟨_, rfl, .inl ⟨HQ.out, rfl⟩, hb0⟩

end Go.Proofs.YtocoonkachbjaaaGreatDoor
