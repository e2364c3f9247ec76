/- A heap: Set, Drop, Key, Least, Len. -/
import Derived.Test.YtkmgpajodbadmaaHpDrop
namespace Go.Proofs.Ytkmgpajodbadmaa
open Go.RowKit
set_option linter.unusedVariables false
namespace Hp

theorem Good.len {L : List It} {n : Nat} (h : Good L n) : L.length ≤ n := by
  have h1 : (L.map Prod.fst) ⊆ (List.range n).map fun (k : Nat) => (k : Int) := fun i hi => by
    obtain ⟨x, hx, rfl⟩ := List.mem_map.1 hi
    have := h.range x hx
    exact List.mem_map.2 ⟨x.1.toNat, List.mem_range.2 (by omega), by omega⟩
  have := List.Nodup.length_le_of_subset h.nodup h1
  simpa using this

/-- A number's key. -/
def keyOf (L : List It) (i : Int) : Option Int := (L.find? fun x => x.1 == i).map Prod.snd
theorem keyOf_some {L : List It} {n : Nat} (h : Good L n) {x : It} (hx : x ∈ L) : keyOf L x.1 = some x.2 := by
  unfold keyOf
  cases hf : L.find? fun y => y.1 == x.1 with
  | none => exact absurd (List.find?_eq_none.1 hf x hx) (by simp)
  | some y =>
    have h1 := List.find?_some hf
    have h2 := List.mem_of_find?_eq_some hf
    obtain ⟨i, hi, e1⟩ := g_of_mem h2
    obtain ⟨j, hj, e2⟩ := g_of_mem hx
    have : i = j := h.inj hi hj (by rw [e1, e2]; simpa using h1)
    subst this
    rw [← e1, e2]; rfl
theorem keyOf_none {L : List It} {i : Int} (h : ∀ x ∈ L, x.1 ≠ i) : keyOf L i = none := by
  unfold keyOf
  rw [List.find?_eq_none.2 (fun x hx => by simpa using h x hx)]; rfl
def without (L : List It) (i : Int) : List It := L.filter fun x => x.1 != i
theorem without_none {L : List It} {i : Int} (h : ∀ x ∈ L, x.1 ≠ i) : without L i = L := by
  unfold without
  rw [List.filter_eq_self]
  intro x hx; simpa using h x hx
theorem without_perm {L L' : List It} (h : List.Perm L L') (i : Int) : List.Perm (without L i) (without L' i) := h.filter _
theorem without_cons {L : List It} {n : Nat} {x : It} (h : Good (x :: L) n) : without (x :: L) x.1 = L := by
  have h1 : ∀ y ∈ L, y.1 ≠ x.1 := fun y hy e => by
    have := List.nodup_cons.1 (show (x.1 :: L.map Prod.fst).Nodup from h.nodup)
    exact this.1 (List.mem_map.2 ⟨y, hy, e⟩)
  unfold without
  rw [List.filter_cons, if_neg (by simp)]
  exact without_none h1
theorem Good.without {L : List It} {n : Nat} (h : Good L n) (i : Int) : Good (without L i) n :=
  ⟨h.nodup.sublist ((List.filter_sublist).map _), fun x hx => h.range x ((List.mem_filter.1 hx).1)⟩
theorem Good.cons {L : List It} {n : Nat} (h : Good L n) {x : It} (h0 : 0 ≤ x.1) (h1 : x.1 < (n : Int)) (hn : ∀ y ∈ L, y.1 ≠ x.1) : Good (x :: L) n :=
  ⟨by rw [List.map_cons, List.nodup_cons]; exact ⟨fun hm => by obtain ⟨y, hy, e⟩ := List.mem_map.1 hm; exact hn y hy e, h.nodup⟩, fun y hy => by
    rcases List.mem_cons.1 hy with rfl | hy
    · exact ⟨h0, h1⟩
    · exact h.range y hy⟩

/-- A heap for n numbers, that holds L; its blocks are F. -/
def HeapAt (lo H n : Nat) (L : List It) (F : Nat → Prop) (w : World) : Prop :=
  ∃ hb ga ca v ats, QAt lo H hb ga ca v L ats w ∧ Good L n ∧ Pos ats L n L.length ∧ HeapOrd L ∧ ∀ k, F k ↔ (k = hb ∨ Ft H ga v k)

theorem HeapAt.only {lo H n : Nat} {L : List It} {F G : Nat → Prop} {w w' : World} (h : HeapAt lo H n L F w) (ho : Only G w w') (hFG : ∀ k, F k → ¬ G k) : HeapAt lo H n L F w' := by
  obtain ⟨hb, ga, ca, v, ats, h1, h2, h3, h4, h5⟩ := h
  refine ⟨hb, ga, ca, v, ats, h1.only ho (fun k hk => ⟨fun e => ?_, fun e => ?_, fun e => ?_, fun e => ?_⟩), h2, h3, h4, h5⟩
  · exact hFG k ((h5 k).2 (.inr (.inl e))) hk
  · exact hFG k ((h5 k).2 (.inl e)) hk
  · exact hFG k ((h5 k).2 (.inr (.inr (.inl e)))) hk
  · exact hFG k ((h5 k).2 (.inr (.inr (.inr e)))) hk
theorem HeapAt.below {lo H n : Nat} {L : List It} {F : Nat → Prop} {w w' : World} (h : HeapAt lo H n L F w) (hb : Below w.heap.size w w') : HeapAt lo H n L F w' :=
  h.only (Only.of_below (F := fun _ => False) hb) (fun _ _ h => h)
theorem HeapAt.lt {lo H n : Nat} {L : List It} {F : Nat → Prop} {w : World} (h : HeapAt lo H n L F w) (k : Nat) (hk : F k) : lo ≤ k ∧ k < w.heap.size := by
  obtain ⟨hb, ga, ca, v, ats, h1, h2, h3, h4, h5⟩ := h
  obtain ⟨_, _, _, _, _, _, n1, n2, n3, n4⟩ := h1.ne
  rcases (h5 k).1 hk with e | e | e | e
  · rw [e]; exact ⟨h1.loB, n2⟩
  · rw [e]; exact ⟨h1.loH, n1⟩
  · rw [e]; exact ⟨n4, n3⟩
  · exact h1.row.lt k e
theorem HeapAt.good {lo H n : Nat} {L : List It} {F : Nat → Prop} {w : World} (h : HeapAt lo H n L F w) : Good L n := by
  obtain ⟨hb, ga, ca, v, ats, h1, h2, h3, h4, h5⟩ := h; exact h2
theorem HeapAt.ord {lo H n : Nat} {L : List It} {F : Nat → Prop} {w : World} (h : HeapAt lo H n L F w) : HeapOrd L := by
  obtain ⟨hb, ga, ca, v, ats, h1, h2, h3, h4, h5⟩ := h; exact h4

/-- Where a number stands. -/
def PlaceIs (L : List It) (i p : Int) : Prop := (∃ k, k < L.length ∧ (g L k).1 = i ∧ p = (k : Int)) ∨ ((∀ x ∈ L, x.1 ≠ i) ∧ p = -1)

theorem place_any (lo H hb ga ca n : Nat) (v : Value) (L : List It) (ats : List Int) (w : World) (hq : QAt lo H hb ga ca v L ats w) (hG : Good L n) (hP : Pos ats L n L.length) (hn : (n : Int) ≤ 65536) (i : Int) :
    Calls Try.prog 28 #[.pointer (some ⟨H, 0, none⟩), .int .i64 i] w fun e w' => ∃ p, e = .returned (.int .i64 p) ∧ PlaceIs L i p ∧ w = w' := by
  have c1 := hq.c_at
  have hal := hP.len
  by_cases h0 : i < 0
  · have HR : Hid (PlaceIs L i (-1)) := .inr ⟨fun x hx e => by have := hG.range x hx; omega, rfl⟩
    clear hq hG hP
    go_enter Try.func28, Try.ntmps28
    go_wp2
    go_ret
    exact ⟨_, rfl, HR.out, rfl⟩
  · obtain ⟨m, rfl⟩ : ∃ m : Nat, i = m := ⟨i.toNat, by omega⟩
    by_cases h1 : m < ats.length
    · obtain ⟨u, c2, -⟩ := hq.at_cell h1
      have hu : u = ats[m] := by
        obtain ⟨g', c', e, q1, q2, q3, q4, q5⟩ := Ut.own_cells hq.at_ (by omega)
        obtain ⟨rfl, rfl⟩ : ga = g' ∧ ca = c' := by simpa using e
        have := (q5 m h1).symm.trans c2
        simpa [h1, vI] using this.symm
      have HR : Hid (PlaceIs L (m : Int) u) := by
        by_cases hex : ∀ k, k < L.length → (g L k).1 ≠ (m : Int)
        · refine .inr ⟨fun x hx e => ?_, ?_⟩
          · obtain ⟨k, hk, e2⟩ := g_of_mem hx
            exact hex k hk (by rw [e2]; exact e)
          · have := hP.gone m (by omega) hex
            rw [hu]; simpa [h1] using this
        · obtain ⟨k, hk⟩ := Classical.not_forall.1 hex
          obtain ⟨hk1, hk2⟩ := Classical.not_imp.1 hk
          have e := Classical.not_not.1 hk2
          refine .inl ⟨k, hk1, e, ?_⟩
          have := hP.here k hk1 (by omega)
          rw [e] at this
          rw [hu]; simpa [h1] using this
      have b1 : (0 : Int) ≤ (m : Int) := by omega
      have b2 : (m : Int) < (ats.length : Int) := by omega
      clear hq hG hP hu hal
      go_enter Try.func28, Try.ntmps28
      go_wp2
      go_ret
      exact ⟨_, rfl, HR.out, rfl⟩
    · have HR : Hid (PlaceIs L (m : Int) (-1)) := .inr ⟨fun x hx e => by have := hG.range x hx; omega, rfl⟩
      have b1 : (0 : Int) ≤ (m : Int) := by omega
      have b2 : (ats.length : Int) ≤ (m : Int) := by omega
      clear hq hG hP hal
      go_enter Try.func28, Try.ntmps28
      go_wp2
      go_ret
      exact ⟨_, rfl, HR.out, rfl⟩

theorem key_any (lo H n : Nat) (L : List It) (F : Nat → Prop) (w : World) (h : HeapAt lo H n L F w) (hn : (n : Int) ≤ 65536) (i : Int) :
    Calls Try.prog 11 #[.pointer (some ⟨H, 0, none⟩), .int .i64 i] w fun e w' => e = .returned (.tuple #[.int .i64 ((keyOf L i).getD 0), .bool (keyOf L i).isSome]) ∧ w = w' := by
  obtain ⟨hb, ga, ca, v, ats, hq, hG, hP, hO, hF⟩ := h
  have HP := Lib.hid (place_any lo H hb ga ca n v L ats w hq hG hP hn i)
  have c1 := hq.c_l
  by_cases hex : ∀ x ∈ L, x.1 ≠ i
  · have HK := Lib.hid (keyOf_none hex)
    have HE := Lib.hid hex
    clear hex hq hG hP hO hF
    go_enter Try.func11, Try.ntmps11
    go_wp2_with fail
    refine HP.out.mono ?_
    rintro e w1 ⟨p, rfl, hp, rfl⟩
    rcases hp with ⟨k, h1, h2, -⟩ | ⟨-, rfl⟩
    · exact absurd h2 (HE.out _ (g_mem h1))
    · go_wp2
      go_ret2
      exact ⟨by rw [HK.out]; rfl, rfl⟩
  · have HE := Lib.hid hex
    have HROW := Lib.hid hq.row
    have HG := Lib.hid hG
    clear hex hq hG hP hO hF
    go_enter Try.func11, Try.ntmps11
    go_wp2_with fail
    refine HP.out.mono ?_
    rintro e w1 ⟨p, rfl, hp, rfl⟩
    rcases hp with ⟨k, h1, h2, rfl⟩ | ⟨h, -⟩
    · obtain ⟨gv, cap, rfl, r1, r2, r3, r4, r5, -⟩ := row_cells HROW.out rfl (by omega)
      obtain ⟨k1, k2⟩ := r4 k h1
      have HK : Hid (keyOf L i = some (g L k).2) := by
        show _ = _
        rw [← h2]; exact keyOf_some HG.out (g_mem h1)
      have b1 : (0 : Int) ≤ (k : Int) := by omega
      have b2 : (k : Int) < (L.length : Int) := by omega
      obtain ⟨y, hy⟩ : ∃ y, y = g L k := ⟨_, rfl⟩
      rw [← hy] at k1 k2 HK
      clear h1 h2 r1 r2 r3 r4 r5 hy
      go_wp2
      go_ret2
      exact ⟨by rw [HK.out]; rfl, rfl⟩
    · exact absurd h HE.out

theorem len_any (lo H n : Nat) (L : List It) (F : Nat → Prop) (w : World) (h : HeapAt lo H n L F w) :
    Calls Try.prog 12 #[.pointer (some ⟨H, 0, none⟩)] w fun e w' => e = .returned (.int .i64 L.length) ∧ w = w' := by
  obtain ⟨hb, ga, ca, v, ats, hq, hG, hP, hO, hF⟩ := h
  have c1 := hq.c_l
  obtain ⟨qv, rv, hv⟩ : ∃ q r, v = .slice q L.length r := by
    rcases hq.row.2 with ⟨h1, h2⟩ | ⟨gv, cap, cur, h1, _⟩
    · exact ⟨none, 0, by rw [h1, h2]⟩
    · exact ⟨_, cap, h1⟩
  subst hv
  clear hq hG hP hO hF
  go_enter Try.func12, Try.ntmps12
  go_wp2
  go_ret
  exact ⟨rfl, rfl⟩

/-- The least one, if any. -/
def LeastIs (L : List It) (i k : Int) (b : Bool) : Prop := (L = [] ∧ i = 0 ∧ k = 0 ∧ b = false) ∨ (b = true ∧ (i, k) ∈ L ∧ ∀ x ∈ L, ahd x (i, k) = false)

theorem least_any (lo H n : Nat) (L : List It) (F : Nat → Prop) (w : World) (h : HeapAt lo H n L F w) :
    Calls Try.prog 18 #[.pointer (some ⟨H, 0, none⟩)] w fun e w' => (∃ i k b, e = .returned (.tuple #[.int .i64 i, .int .i64 k, .bool b]) ∧ LeastIs L i k b) ∧ Below w.heap.size w w' := by
  obtain ⟨hb, ga, ca, v, ats, hq, hG, hP, hO, hF⟩ := h
  have c1 := hq.c_l
  by_cases h0 : L.length = 0
  · obtain ⟨qv, rv, hv⟩ : ∃ q r, v = .slice q L.length r := by
      rcases hq.row.2 with ⟨h1, h2⟩ | ⟨gv, cap, cur, h1, _⟩
      · exact ⟨none, 0, by rw [h1, h2]⟩
      · exact ⟨_, cap, h1⟩
    subst hv
    have HL : Hid (L = []) := List.eq_nil_of_length_eq_zero h0
    rw [h0] at c1
    clear hq hG hP hO hF h0
    go_enter Try.func18, Try.ntmps18
    go_wp2
    go_ret3
    exact ⟨⟨0, 0, false, rfl, .inl ⟨HL.out, rfl, rfl, rfl⟩⟩, Below.refl _ _⟩
  · obtain ⟨gv, cap, rfl, r1, r2, r3, r4, r5, -⟩ := row_cells hq.row rfl (by omega)
    obtain ⟨k1, k2⟩ := r4 0 (by omega)
    have HR : Hid (LeastIs L (g L 0).1 (g L 0).2 true) := .inr ⟨rfl, g_mem (by omega), fun x hx => by
      obtain ⟨k, hk, e⟩ := g_of_mem hx
      rw [← e]; exact hO.least k hk⟩
    obtain ⟨y, hy⟩ : ∃ y, y = g L 0 := ⟨_, rfl⟩
    rw [← hy] at k1 k2 HR
    have e0 : ((L.length : Int) == 0) = false := by rw [beq_eq_false_iff_ne]; omega
    have b1 : (0 : Int) < (L.length : Int) := by omega
    clear hq hG hP hO hF r1 r2 r3 r4 r5 hy h0
    go_enter Try.func18, Try.ntmps18
    go_wp2
    go_quiet (fail)
    go_wp2
    go_ret3
    exact ⟨⟨_, _, _, rfl, HR.out⟩, Ut.below_drewN (Below.refl _ _) _⟩

end Hp
end Go.Proofs.Ytkmgpajodbadmaa
