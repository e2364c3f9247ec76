/- Several texts in one: what each proves its own first comment says. -/
import Derived.Test.YtocoonkachbjaaaGreatDoorM5

/- (*scope.Book).Print: of any Book and set. -/
namespace Go.Proofs.YtocoonkachbjaaaGreatDoor
open Go.RowKit Go.Maps Go.ChangeMaps Go.Proofs.NmPlain Go.Proofs.Ar
set_option linter.unusedVariables false
namespace Sc

/-- strings.Join with a blank, of a list of the call's own. -/
theorem join_own (v : Value) (xs : List ByteArray) (lo : Nat) (w : World) (h : w.ownsRow lo 9 1 v xs.length (xs.map Value.string)) (hn : xs.length ≤ 1048576) (hl : (Lib.join (xs.map (·.data.toList)) [32]).length ≤ 140737488355328) :
    Calls Tryz.prog 28 #[v, .string ⟨#[32]⟩] w fun e w' => e = .returned (.string ⟨(Lib.join (xs.map (·.data.toList)) [32]).toArray⟩) ∧ Below w.heap.size w w' := by
  rcases Nat.eq_zero_or_pos xs.length with h0 | h0
  · have e : xs = [] := List.eq_nil_of_length_eq_zero h0
    subst e
    obtain ⟨q, c, rfl⟩ := own_shape h
    refine (Tryz.strings_Join_none q c ⟨#[32]⟩ w).mono fun e w' ⟨h1, h2⟩ => ⟨?_, by rw [h2]; exact Below.refl _ _⟩
    rw [h1]; rfl
  · obtain ⟨g, c, rfl, h1, h2, h3, hg, hc⟩ := Ut.own_cells h h0
    refine Tryz.strings_Join g 0 c xs ⟨#[32]⟩ w (fun j x hj => ?_) hg (by omega) h1 hl
    obtain ⟨hj2, e⟩ := List.getElem?_eq_some_iff.1 hj
    rw [Nat.zero_add, hc j hj2]
    simp [hj2, e]

theorem join_len_le {xs : List Bs} (h : ∀ x ∈ xs, x.length ≤ 132) : (Lib.join xs [32]).length ≤ 133 * xs.length := by
  cases xs with
  | nil => simp [Lib.join_nil]
  | cons a r =>
    rw [Lib.join_cons, List.length_append, Lib.joinTail_length]
    have ha := h a (by simp)
    have hr : ∀ r : List Bs, (∀ x ∈ r, x.length ≤ 132) → Lib.lens r ≤ 132 * r.length := by
      intro r
      induction r with
      | nil => intro _; simp [Lib.lens]
      | cons b r ih =>
        intro h
        have h1 := h b (by simp)
        have h2 := ih fun x hx => h x (by simp [hx])
        simp only [Lib.lens, List.map_cons, List.sum_cons, List.length_cons] at h2 ⊢
        omega
    have h3 := hr r fun x hx => h x (by simp [hx])
    simp only [List.length_cons, List.length_nil] at h3 ⊢
    omega

/-- While a set's names are gathered. -/
def SRel (ls : List ByteArray) (s : Nat) (w : World) (l i : Value) (wr : World) : Prop :=
  ∃ k : Nat, k ≤ ls.length ∧ i = .int .i64 k ∧ wr.ownsRow w.heap.size 9 1 l (selTo ls s k).length ((selTo ls s k).map Value.string) ∧ Below w.heap.size w wr

theorem SRel.push {ls : List ByteArray} {s k : Nat} {w wr w1 : World} {l v' : Value} {o : Obj} (hk : k < ls.length) (hb : s.testBit k = true) (hbl : Below w.heap.size w wr)
    (hown : wr.ownsRow w.heap.size 9 1 l (selTo ls s k).length ((selTo ls s k).map Value.string))
    (hown' : w1.ownsRow w.heap.size 9 1 v' ((selTo ls s k).length + 1) ((selTo ls s k).map Value.string ++ [.string ls[k]])) (hgrow : (wr.alloc o).grownBy w1 l.ownBlock) : SRel ls s w v' (.int .i64 ((k : Int) + 1)) w1 := by
  refine ⟨k + 1, by omega, by go_num, ?_, Ut.below_app hbl hbl.size hown hgrow⟩
  rw [sel_yes hk hb]
  simpa using hown'

def PrintPost (ls : List ByteArray) (s : Nat) (e : Ending) : Prop := e = .returned (.tuple #[.string ⟨(printL ls s).1.toArray⟩, errVal (printL ls s).2])
theorem PrintPost.mk {ls : List ByteArray} {s : Nat} {a : ByteArray} {l : Bs} {no : Int} {v : Value} (h : printL ls s = (l, no)) (ha : a = ⟨l.toArray⟩) (hv : v = errVal no) : PrintPost ls s (.returned (.tuple #[.string a, v])) := by
  unfold PrintPost; rw [h, ha, hv]

set_option maxHeartbeats 4000000 in
theorem print_any (lo B : Nat) (ls : List ByteArray) (hbk : IsBook ls) (s : Nat) (hs : s < 18446744073709551616) (w : World) (hb : BookAt lo w B ls) :
    Calls Tryz.prog 25 #[.pointer (some ⟨B, 0, none⟩), .int .u64 (s : Int)] w fun e w' => PrintPost ls s e ∧ Below w.heap.size w w' := by
  have hA := all_any lo B ls hbk.len w hb
  have hal := allS_lt hbk.len
  have han := u64_andNot_nat s (allS ls) hs (by omega)
  have hz := andNot_zero hs hbk.len
  have hal2 : allS ls = 2 ^ ls.length - 1 := rfl
  rw [← hal2] at hz
  obtain ⟨A, hA2⟩ : ∃ A, A = allS ls := ⟨_, rfl⟩
  obtain ⟨X, hX⟩ : ∃ X, X = s &&& (18446744073709551615 - allS ls) := ⟨_, rfl⟩
  rw [← hX] at hz han
  rw [← hA2] at hA han
  have HA := Lib.hid hA; have HAN := Lib.hid han
  have hlen : (ls.length : Int) ≤ 64 := by have := hbk.len; omega
  clear hA han hal hal2 hA2 hX
  by_cases h : s < 2 ^ ls.length
  · have q1 : (bits .andNot .u64 (s : Int) (A : Int) != 0) = false := by rw [HAN.out, bne_eq_false_iff_eq]; have := hz.2 h; omega
    have HP : Hid (printL ls s = (jn ls s ls.length, 0)) := by show _ = _; unfold printL; rw [if_neg (by omega)]; rfl
    have HJ : Hid ((jn ls s ls.length).length ≤ 140737488355328) := by
      show _ ≤ _
      have h1 := join_len_le (xs := (selTo ls s ls.length).map (·.data.toList)) (fun x hx => by
        obtain ⟨y, hy, rfl⟩ := List.mem_map.1 hx
        obtain ⟨i, hi, _, rfl, _⟩ := sel_mem ls s ls.length y hy
        exact dotB_le (hbk.dots i hi))
      have h2 := sel_len ls s ls.length
      have h3 := hbk.len
      rw [List.length_map] at h1
      show (Lib.join _ _).length ≤ _
      omega
    have HB := Lib.hid hbk
    have HS := Lib.hid hs
    obtain ⟨q, c, bm, c0, c1, h1, hmp⟩ := hb.out
    obtain ⟨p, c', e, h1⟩ := h1
    cases e
    have H2 := Lib.hid h1
    obtain ⟨i0, hi, hz0, hz1, hz2⟩ := info_parts nm_info
    clear hz h hbk h1 hs c1 hmp hb
    go_enter Tryz.func25, Tryz.ntmps25
    go_wp2_with fail
    refine HA.out.mono ?_
    rintro e w1 ⟨rfl, rfl⟩
    go_wp2
    go_loopw [6, 20] (fun l i wr => SRel ls s w l i wr) (fun _ i _ => ls.length - (intOf i).toNat)
    case atStart => exact ⟨0, Nat.zero_le _, rfl, World.ownsRow_nil _ _ _ _, Below.refl _ _⟩
    case round =>
      obtain ⟨k, hk, rfl, hown, hbl⟩ := hrel
      have HO := Lib.hid hown; have HBL := Lib.hid hbl
      have hzw : w.heap.size ≤ wr.heap.size := hbl.size
      have hsl := sel_len ls s k
      clear hown hbl
      have b2 : (0 : Int) ≤ (k : Int) := by omega
      by_cases h : k < ls.length
      · have b3 : (k : Int) < (ls.length : Int) := by omega
        have b4 : (k : Int) ≤ 63 := by omega
        obtain ⟨g1, o1, rfl, hg1, k1⟩ := H2.out k h
        have k1' : wr.cell? ⟨g1, o1 + k, none⟩ = some (.string ls[k]) := (HBL.out.cell (p := ⟨g1, o1 + k, none⟩) hg1).trans k1
        have hq := bit_at HS.out k
        clear k1
        cases hbit : s.testBit k with
        | true =>
          rw [hbit] at hq
          have HBIT := Lib.hid hbit
          have am1 : (selTo ls s k).length + 1 ≤ maxLen := by unfold maxLen; omega
          have am2 : ((selTo ls s k).length + 1) * 16 ≤ 140737488355328 := by omega
          clear hbit
          go_wp2_with (at_builtin; refine wpList_append_own _ rfl _ _ 22 rfl w.heap.size 9 i0 (.string ByteArray.empty) 1 16 Tryz.underlying22 hi hz0 hz1 hz2 rfl (by decide) _ _ _ rfl (HO.out.alloc _) ⟨wr.heap.size, 0, none⟩ 1 1 [.string ls[k]] rfl rfl (cell_one_new _ _ _) (by intro u hu; simp at hu; subst hu; rfl) am1 am2 (by simp; exact Nat.le_succ_of_le hzw) ?_; intro v' w1 hown' hgrow _)
          have HU := Lib.hid (SRel.push h HBIT.out HBL.out HO.out hown' hgrow)
          clear hown' hgrow
          go_wp2
          go_roundw
          case rel => exact HU.out
          case measure => simp [intOf]; omega
        | false =>
          rw [hbit] at hq
          have HN := Lib.hid (sel_no (ls := ls) hbit)
          clear hbit
          go_wp2
          go_roundw
          case rel => exact ⟨k + 1, by omega, by go_num, by rw [HN.out]; exact HO.out, HBL.out⟩
          case measure => simp [intOf]; omega
      · obtain rfl : k = ls.length := by omega
        have HJN := Lib.hid (join_own _ (selTo ls s ls.length) _ _ HO.out (by omega) HJ.out)
        go_wp2_with fail
        refine HJN.out.mono ?_
        rintro e w2 ⟨rfl, hb2⟩
        go_wp2
        go_ret2
        exact ⟨PrintPost.mk HP.out rfl rfl, HBL.out.trans (hb2.mono HBL.out.size)⟩
  · have q1 : (bits .andNot .u64 (s : Int) (A : Int) != 0) = true := by rw [HAN.out, bne_iff_ne]; have := fun e => h (hz.1 e); omega
    have HP : Hid (printL ls s = ([], 11)) := by show _ = _; unfold printL; rw [if_pos (by omega)]
    clear hz h hbk hs hb
    go_enter Tryz.func25, Tryz.ntmps25
    go_wp2_with fail
    refine HA.out.mono ?_
    rintro e w1 ⟨rfl, rfl⟩
    go_wp2
    go_ret2
    exact ⟨PrintPost.mk HP.out rfl rfl, Below.refl _ _⟩

end Sc
end Go.Proofs.YtocoonkachbjaaaGreatDoor
