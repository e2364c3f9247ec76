/- The law ExpiryOrder. -/
import Derived.Test.YtkmgpajodbadmaaEoRest
import Derived.Test.YtkmgpajodbadmaaEoWorks
import Derived.Test.YtkmgpajodbadmaaRoundHeld
import Derived.Test.YtkmgpajodbadmaaRangeMut
import Derived.Test.YtkmgpajodbadmaaPick
import Derived.Test.YtkmgpajodbadmaaLeaves
import Derived.Test.YtkmgpajodbadmaaInts
import Derived.Shelf.RegionOpen
import Derived.Deep.Cut
namespace Go.Proofs.Ytkmgpajodbadmaa
open Go.RowKit Go.Proofs.Ar
set_option linter.unusedVariables false
namespace Ex
open Hp (It)
attribute [local go_sem] Oper.semAt_some

def dl (ps : List Int) (j : Nat) : Int := (ps.getD j 0) % 1099511627777
theorem dl_range (ps : List Int) (j : Nat) : 0 ≤ dl ps j ∧ dl ps j ≤ 1099511627776 := by unfold dl; omega
theorem zeros : (#[.int .i64 0, .int .i64 0, .int .i64 0, .int .i64 0, .int .i64 0, .int .i64 0, .int .i64 0, .int .i64 0, .int .i64 0, .int .i64 0, .int .i64 0, .int .i64 0, .int .i64 0, .int .i64 0, .int .i64 0, .int .i64 0, .int .i64 0, .int .i64 0, .int .i64 0, .int .i64 0, .int .i64 0, .int .i64 0, .int .i64 0, .int .i64 0, .int .i64 0, .int .i64 0, .int .i64 0, .int .i64 0, .int .i64 0, .int .i64 0, .int .i64 0, .int .i64 0] : Array Value) = arr 32 (fun _ => .int .i64 0) := rfl

theorem falses : (#[.bool false, .bool false, .bool false, .bool false, .bool false, .bool false, .bool false, .bool false, .bool false, .bool false, .bool false, .bool false, .bool false, .bool false, .bool false, .bool false, .bool false, .bool false, .bool false, .bool false, .bool false, .bool false, .bool false, .bool false, .bool false, .bool false, .bool false, .bool false, .bool false, .bool false, .bool false, .bool false] : Array Value) = arr 32 (fun _ => .bool false) := rfl
/-- While the entries are put in: those from k on. -/
structure PutAt (lo E : Nat) (w : World) (s a : Nat) (now : Int) (m : Nat) (D : Nat → Int) (k : Nat) (wr : World) : Prop where
  ex : ∃ N S F, ExpAt lo E N S F wr ∧ PartOf D k m S ∧ N ≤ m - k ∧ (∀ j, (j = s ∨ j = s + 1 ∨ j = a ∨ j = a + 1) → ¬ F j)
  box : Lies [(s, .cells #[.int .i64 now] 3 (0, 0)), (s + 1, .cells #[.bool false] 4 (0, 0)), (a, .cells (arr 32 (atV D k m)) 49 (0, 0)), (a + 1, .cells #[.int .i64 m] 3 (0, 0))] wr
  bel : Below w.heap.size w wr
  place : w.heap.size ≤ s ∧ s + 2 ≤ a ∧ w.heap.size ≤ lo ∧ lo ≤ wr.heap.size

def PutRel (lo E : Nat) (w : World) (s a : Nat) (now : Int) (m : Nat) (D : Nat → Int) (i : Value) (wr : World) : Prop :=
  (∃ k : Nat, k < m ∧ i = .int .i64 (k : Int) ∧ PutAt lo E w s a now m D (k + 1) wr) ∨ (i = .int .i64 (-1) ∧ PutAt lo E w s a now m D 0 wr)

theorem atV_same (D : Nat → Int) (m : Nat) : arr 32 (atV D m m) = arr 32 (fun _ => .int .i64 0) := by
  congr 1
  funext j
  unfold atV
  rw [if_neg (by omega)]
theorem atV_step (D : Nat → Int) {k m : Nat} (h : k < m) : (fun i => if i = k then Value.int .i64 (D k) else atV D (k + 1) m i) = atV D k m := by
  funext j
  unfold atV
  by_cases e : j = k
  · subst e; rw [if_pos rfl, if_pos (by omega)]
  · rw [if_neg e]
    by_cases h2 : k + 1 ≤ j ∧ j < m
    · rw [if_pos h2, if_pos (by omega)]
    · rw [if_neg h2, if_neg (by omega)]
theorem PutAt.store {lo E : Nat} {w : World} {s a : Nat} {now : Int} {m : Nat} {D : Nat → Int} {k : Nat} {wr : World} (h : PutAt lo E w s a now m D (k + 1) wr) (hk : k < m) :
    (∃ N S F, ExpAt lo E N S F (wr.setCell ⟨a, k, none⟩ (.int .i64 (D k))) ∧ PartOf D (k + 1) m S ∧ N ≤ m - (k + 1) ∧ (∀ j, (j = s ∨ j = s + 1 ∨ j = a ∨ j = a + 1) → ¬ F j)) ∧
    Lies [(s, .cells #[.int .i64 now] 3 (0, 0)), (s + 1, .cells #[.bool false] 4 (0, 0)), (a, .cells (arr 32 (atV D k m)) 49 (0, 0)), (a + 1, .cells #[.int .i64 m] 3 (0, 0))] (wr.setCell ⟨a, k, none⟩ (.int .i64 (D k))) ∧
    Below w.heap.size w (wr.setCell ⟨a, k, none⟩ (.int .i64 (D k))) := by
  obtain ⟨⟨N, S, F, h1, h2, h3, h4⟩, hb, hbel, hp⟩ := h
  have ho : Only (fun b => b = a) wr (wr.setCell ⟨a, k, none⟩ (.int .i64 (D k))) := (Only.refl (fun b => b = a) wr).setCell (p := ⟨a, k, none⟩) (fun _ => rfl) _
  refine ⟨⟨N, S, F, h1.only ho (fun j hj e => h4 a (by simp) (e ▸ hj)), h2, h3, h4⟩, ?_, hbel.setCell (by show w.heap.size ≤ a; omega) _⟩
  have hb1 := hb.perm (By := (a, .cells (arr 32 (atV D (k + 1) m)) 49 (0, 0)) :: (s, .cells #[.int .i64 now] 3 (0, 0)) :: (s + 1, .cells #[.bool false] 4 (0, 0)) :: (a + 1, .cells #[.int .i64 m] 3 (0, 0)) :: []) (fun p hp => by
    simp only [List.mem_cons, List.not_mem_nil, or_false] at hp ⊢; rcases hp with rfl | rfl | rfl | rfl <;> simp)
  have hb2 := hb1.set (fun p hp => by simp only [List.mem_cons, List.not_mem_nil, or_false] at hp; rcases hp with rfl | rfl | rfl <;> simp <;> omega) k (.int .i64 (D k))
  rw [arr_set, atV_step D hk] at hb2
  exact hb2.perm (fun p hp => by simp only [List.mem_cons, List.not_mem_nil, or_false] at hp ⊢; rcases hp with rfl | rfl | rfl | rfl <;> simp)
theorem PutAt.put {lo E : Nat} {w : World} {s a : Nat} {now : Int} {m : Nat} {D : Nat → Int} {k : Nat} {W w' : World} {N : Nat} {S : List Ent} {F : Nat → Prop} (hx : ExpAt lo E N S F W) (hpt : PartOf D (k + 1) m S) (hN : N ≤ m - (k + 1)) (hf : ∀ j, (j = s ∨ j = s + 1 ∨ j = a ∨ j = a + 1) → ¬ F j)
    (hb : Lies [(s, .cells #[.int .i64 now] 3 (0, 0)), (s + 1, .cells #[.bool false] 4 (0, 0)), (a, .cells (arr 32 (atV D k m)) 49 (0, 0)), (a + 1, .cells #[.int .i64 m] 3 (0, 0))] W) (hbel : Below w.heap.size w W)
    (hp : w.heap.size ≤ s ∧ s + 2 ≤ a ∧ w.heap.size ≤ lo ∧ lo ≤ W.heap.size) (hk : k < m) (hm : m ≤ 32) {e : Ending} (h : SetPost lo E N S F (Ex.mk D k) W e w') : e = .returned .nilIface ∧ PutAt lo E w s a now m D k w' := by
  obtain ⟨he, F', hx', ho, hn⟩ := h
  have hbl : ∀ j, (j = s ∨ j = s + 1 ∨ j = a ∨ j = a + 1) → j < W.heap.size := fun j hj => by
    have l0 := hb.lt List.mem_cons_self
    have l1 := hb.lt (List.mem_cons_of_mem _ List.mem_cons_self)
    have l2 := hb.lt (List.mem_cons_of_mem _ (List.mem_cons_of_mem _ List.mem_cons_self))
    have l3 := hb.lt (List.mem_cons_of_mem _ (List.mem_cons_of_mem _ (List.mem_cons_of_mem _ List.mem_cons_self)))
    simp only at l0 l1 l2 l3
    omega
  refine ⟨he, ⟨⟨N + 1, _, F', hx', part_step hpt hk hm, by omega, fun j hj hf2 => ?_⟩, hb.only ho (fun p hp2 => hf _ (by simp only [List.mem_cons, List.not_mem_nil, or_false] at hp2; rcases hp2 with rfl | rfl | rfl | rfl <;> simp)), hbel.trans (ho.below hbel.size (fun i hi hf2 => ?_)), hp.1, hp.2.1, hp.2.2.1, Nat.le_trans hp.2.2.2 ho.size⟩⟩
  · rcases hn j hf2 with e | e
    · exact hf j hj e
    · have := hbl j hj; omega
  · have := (hx.lt i hf2).1; omega

set_option maxRecDepth 100000 in
set_option maxHeartbeats 8000000 in
theorem order_in (v : Value) (ps : List Int) (now : Int) (w : World) (ht : In.IntArg w v ps) (hl : (ps.length : Int) ≤ 9223372036854775807) :
    CallsIn Fence.wide 8 Try.prog 6 #[v, .int .i64 now] w fun e w' => e = .returned (.bool true) ∧ Below w.heap.size w w' := by
  obtain ⟨q, c, rfl, hcells⟩ := ht
  have HC := Lib.hid hcells
  have HWK := Lib.hid (fun w' => eworks_any w')
  have HNEW := Lib.hid (fun w' => enew_any w')
  obtain ⟨m, hm⟩ : ∃ m : Nat, m = min ps.length 32 := ⟨_, rfl⟩
  have hmin : min (ps.length : Int) 32 = (m : Int) := by omega
  have hm32 : (m : Int) ≤ 32 := by omega
  have HM : Hid (m ≤ 32 ∧ m ≤ ps.length) := ⟨by omega, by omega⟩
  clear hcells hm
  refine callsIn_of_wp_marks Try.func6 rfl trivial ?_ rfl
  simp only [Try.ntmps6, List.size_toArray, List.length_cons, List.length_nil, Nat.reduceAdd, Nat.reduceSub, Array.replicate_succ, Array.replicate_zero, List.push_toArray, List.append_toArray, List.nil_append, List.cons_append]
  refine wpIn_wide.2 ?_
  go_wp2_with fail
  refine (HWK.out _).mono ?_
  rintro e w1 ⟨rfl, hb1⟩
  obtain ⟨w0, hw0⟩ : ∃ w0, w0 = (w.alloc (.cells #[.int .i64 now] 3)).alloc (.cells #[.bool false] 4) := ⟨_, rfl⟩
  rw [← hw0] at hb1
  have hl0 : Lies [(w.heap.size + 1, .cells #[.bool false] 4 (0, 0)), (w.heap.size, .cells #[.int .i64 now] 3 (0, 0))] w0 := by
    have := ((Lies.nil w).alloc (.cells #[.int .i64 now] 3)).alloc (.cells #[.bool false] 4)
    rw [hw0]; simpa using this
  have hb0 : Below w.heap.size w w0 := by rw [hw0]; exact ((Below.refl _ _).alloc (Nat.le_refl _) _).alloc (by simp) _
  have hs0 : w0.heap.size = w.heap.size + 2 := by rw [hw0]; simp
  have HL1 := Lib.hid (hl0.below hb1)
  have HB1 := Lib.hid (hb0.trans (hb1.mono (by omega)))
  have HS1 : Hid (w.heap.size + 2 ≤ w1.heap.size) := by have := hb1.size; show _ ≤ _; omega
  have HW0 := Lib.hid hw0
  clear hb1 hl0 hb0 hs0 hw0
  go_wp2_with fail
  refine (HNEW.out _).mono ?_
  rintro e w2 ⟨E, F0, rfl, hx2, hb2⟩
  have HX2 := Lib.hid hx2; have HB2 := Lib.hid hb2
  clear hx2 hb2
  go_wp2_with fail
  rw [zeros]
  obtain ⟨w3, hw3⟩ : ∃ w3, w3 = (w2.alloc (.cells (arr 32 (fun _ => .int .i64 0)) 49)).alloc (.cells #[.int .i64 (m : Int)] 3) := ⟨_, rfl⟩
  rw [← hw3]
  have hst : PutRel w1.heap.size E w w.heap.size w2.heap.size now m (dl ps) (.int .i64 ((m : Int) - 1)) w3 := by
    have hb3 : Below w2.heap.size w2 w3 := by rw [hw3]; exact ((Below.refl _ _).alloc (Nat.le_refl _) _).alloc (by simp) _
    have hl3 : Lies [(w2.heap.size + 1, .cells #[.int .i64 (m : Int)] 3 (0, 0)), (w2.heap.size, .cells (arr 32 (fun _ => .int .i64 0)) 49 (0, 0))] w3 := by
      have := ((Lies.nil w2).alloc (.cells (arr 32 (fun _ => .int .i64 0)) 49)).alloc (.cells #[.int .i64 (m : Int)] 3)
      rw [hw3]; simpa using this
    have hl1 := (HL1.out.below HB2.out).below hb3
    have hput : PutAt w1.heap.size E w w.heap.size w2.heap.size now m (dl ps) m w3 := by
      have hs1 := HS1.out
      have hs2 := HB2.out.size
      refine ⟨⟨0, [], F0, HX2.out.below hb3, part_nil _ _, by omega, fun j hj hf => ?_⟩, fun p hp => ?_, HB1.out.trans ((HB2.out.trans (hb3.mono hs2)).mono (by omega)), Nat.le_refl _, by omega, by omega, Nat.le_trans hs2 hb3.size⟩
      · have h1 := HX2.out.lt j hf
        omega
      · rw [atV_same] at hp
        simp only [List.mem_cons, List.not_mem_nil, or_false] at hp
        rcases hp with rfl | rfl | rfl | rfl
        · exact hl1 _ (by simp)
        · exact hl1 _ (by simp)
        · exact hl3 _ (by simp)
        · exact hl3 _ (by simp)
    cases m with
    | zero => exact .inr ⟨rfl, hput⟩
    | succ k => exact .inl ⟨k, Nat.lt_succ_self _, by congr 1; omega, hput⟩
  have HST := Lib.hid hst; have HW3 := Lib.hid hw3
  clear hst hw3
  go_loopw [8] (fun i wr => PutRel w1.heap.size E w w.heap.size w2.heap.size now m (dl ps) i wr) (fun i _ => (intOf i + 1).toNat)
  case atStart => exact HST.out
  case round =>
    rcases hrel with ⟨k, hkm, rfl, hput⟩ | ⟨rfl, hput⟩
    · obtain ⟨g1, o1, rfl, hg1, k1⟩ := HC.out k (by have := HM.out; omega)
      obtain ⟨x, hx⟩ : ∃ x, x = ps[k]'(by have := HM.out; omega) := ⟨_, rfl⟩
      rw [← hx] at k1
      have k1' := (hput.bel.cell (p := ⟨g1, o1 + k, none⟩) hg1).trans k1
      have hxd : x % 1099511627777 = dl ps k := by
        have h : k < ps.length := by have := HM.out; omega
        unfold dl; rw [hx]; simp [h]
      have HPI := Lib.hid (fun w' => Pk.pick_any x 1099511627777 (by omega) (by omega) w')
      rw [hxd] at HPI
      have hdr := dl_range ps k
      obtain ⟨d, hd⟩ : ∃ d, d = dl ps k := ⟨_, rfl⟩
      have ha := block_cell (hput.box _ (List.mem_cons_of_mem _ (List.mem_cons_of_mem _ List.mem_cons_self))) k
      rw [arr_at (by have := HM.out; omega)] at ha
      have haf := block_free (hput.box _ (List.mem_cons_of_mem _ (List.mem_cons_of_mem _ List.mem_cons_self))) k
      obtain ⟨⟨N, S, F, e1, e2, e3, e4⟩, e5, e6⟩ := hput.store hkm
      have HSE := Lib.hid (eset_ok w1.heap.size E N S F _ e1 (by simp [World.setCell]; exact hput.place.2.2.2) (by omega) (k : Int) ((k : Int) + 1) (dl ps k) (by unfold okE; omega))
      have HPU := Lib.hid (fun (e : Ending) (w' : World) (h : SetPost w1.heap.size E N S F (Ex.mk (dl ps) k) (wr.setCell ⟨w2.heap.size, k, none⟩ (.int .i64 (dl ps k))) e w') => PutAt.put (w := w) (s := w.heap.size) (a := w2.heap.size) (now := now) (m := m) e1 e2 e3 e4 e5 e6 ⟨hput.place.1, hput.place.2.1, hput.place.2.2.1, by simp [World.setCell]; exact hput.place.2.2.2⟩ hkm (by have := HM.out; omega) h)
      have b1 : (0 : Int) ≤ (k : Int) := by omega
      have b2 : (k : Int) < (ps.length : Int) := by have := HM.out; omega
      have b3 : (k : Int) < 32 := by have := HM.out; omega
      rw [← hd] at HPI HSE HPU
      obtain ⟨u, hu⟩ : ∃ u, u = atV (dl ps) (k + 1) m k := ⟨_, rfl⟩
      rw [← hu] at ha
      have HKM := Lib.hid hkm; have HD := Lib.hid hd
      have hcc : (wr.setCell ⟨w2.heap.size, k, none⟩ (.int .i64 d)).cell? ⟨w2.heap.size, k, none⟩ = some (.int .i64 d) := by
        have := block_cell (e5 _ (List.mem_cons_of_mem _ (List.mem_cons_of_mem _ List.mem_cons_self))) k
        rw [arr_at (by omega)] at this
        rw [hd]; rw [this]; unfold atV; rw [if_pos (by omega)]
      clear hput hx hxd hdr hd hu e1 e2 e3 e4 e5 e6 k1 hg1 hkm
      go_wp2_with fail
      refine (HPI.out _).mono ?_
      rintro e w4 ⟨rfl, rfl⟩
      go_wp2_with fail
      refine HSE.out.mono ?_
      rintro e w5 hs5
      obtain ⟨rfl, hput5⟩ := HPU.out _ _ (by
        have e2 : Ex.mk (dl ps) k = ((k : Int), (k : Int) + 1, d) := by rw [HD.out]; rfl
        rw [e2]; exact hs5)
      have HP5 := Lib.hid hput5
      clear hs5 hput5 hcc haf ha k1'
      go_wp2
      go_roundw
      case rel =>
        cases k with
        | zero => exact .inr ⟨rfl, HP5.out⟩
        | succ k' => exact .inl ⟨k', by have := HKM.out; omega, by congr 1; omega, HP5.out⟩
      case measure => simp [intOf]
    · obtain ⟨⟨N, S, F, e1, e2, e3, e4⟩, e5, e6, e7⟩ := hput
      have HE1 := Lib.hid e1; have HE2 := Lib.hid e2; have HE4 := Lib.hid e4; have HE5 := Lib.hid e5; have HE6 := Lib.hid e6; have HE7 := Lib.hid e7
      have HDU := Lib.hid (fun w' => edue_any E now w')
      clear e1 e2 e3 e4 e5 e6 e7
      go_upto_region 15 with (fail)
      rw [falses]
      obtain ⟨w5, hw5⟩ : ∃ w5, w5 = ((wr.alloc (.cells (arr 32 (fun _ => .bool false)) 53)).alloc (.cells #[.int .i64 0] 3)).alloc (.cells #[.int .i64 (-1), .int .i64 0] 52) := ⟨_, rfl⟩
      rw [← hw5]
      have hb5 : Below wr.heap.size wr w5 := by rw [hw5]; exact (((Below.refl _ _).alloc (Nat.le_refl _) _).alloc (by simp) _).alloc (by simp; omega) _
      have hl5 : Lies [(wr.heap.size + 1 + 1, .cells #[.int .i64 (-1), .int .i64 0] 52 (0, 0)), (wr.heap.size + 1, .cells #[.int .i64 0] 3 (0, 0)), (wr.heap.size, .cells (arr 32 (fun _ => .bool false)) 53 (0, 0))] w5 := by
        have := (((Lies.nil wr).alloc (.cells (arr 32 (fun _ => .bool false)) 53)).alloc (.cells #[.int .i64 0] 3)).alloc (.cells #[.int .i64 (-1), .int .i64 0] 52)
        rw [hw5]; simpa using this
      have hs5 : w5.heap.size = wr.heap.size + 3 := by rw [hw5]; simp
      have HL5 := Lib.hid hl5; have HB5 := Lib.hid hb5; have HS5 := Lib.hid hs5; have HW5 := Lib.hid hw5
      have c0 := block_cell (((HE5.out).below hb5) _ List.mem_cons_self) 0
      have c0' : w5.cell? ⟨w.heap.size, 0, none⟩ = some (.int .i64 now) := c0
      clear hl5 hb5 hs5 hw5 c0
      go_wp2_with fail
      refine (HDU.out _).mono ?_
      rintro e w6 ⟨rfl, hw6⟩
      clear c0'
      go_wp2_with fail
      rw [← hw6]
      have hst6 : OU w1.heap.size E w w6 w.heap.size w2.heap.size wr.heap.size now m (dl ps) S [] w6 ∧ w6.heap.size = wr.heap.size + 5 := by
        have hb6 : Below w5.heap.size w5 w6 := by rw [hw6]; exact ((Below.refl _ _).alloc (Nat.le_refl _) _).alloc (by simp) _
        have hs6 : w6.heap.size = wr.heap.size + 5 := by have := HS5.out; rw [hw6]; simp; omega
        have hl6 : Lies [(w5.heap.size + 1, .cells #[.int .i64 now] 3 (0, 0)), (w5.heap.size, .cells #[.pointer (some ⟨E, 0, none⟩)] 47 (0, 0))] w6 := by
          have := ((Lies.nil w5).alloc (.cells #[.pointer (some ⟨E, 0, none⟩)] 47)).alloc (.cells #[.int .i64 now] 3)
          rw [hw6]; simpa using this
        have e5 : w5.heap.size = wr.heap.size + 3 := HS5.out
        rw [e5] at hl6
        have hbb := HB5.out.trans (hb6.mono HB5.out.size)
        have hp := HE7.out
        have hx := HE1.out
        have hEl : E < wr.heap.size := by obtain ⟨H, bm, n, D, L, Fh, h1, _⟩ := hx; exact (Array.getElem?_eq_some_iff.1 h1).1
        have h4 := HE4.out
        have q1 := HE5.out.below hbb
        have q2 := HL5.out.below hb6
        have hal : w2.heap.size + 1 < wr.heap.size := HE5.out.lt (List.mem_cons_of_mem _ (List.mem_cons_of_mem _ (List.mem_cons_of_mem _ List.mem_cons_self)))
        refine ⟨⟨F, N, Nat.zero_le _, ⟨hx.below hbb, fun p hp2 => ?_, fun j hj hf => ?_, HE6.out.trans (hbb.mono HE6.out.size), Nat.le_refl _, ⟨by omega, by omega, by omega, by omega, by omega, by omega, by omega⟩, Nat.zero_le _, by simp⟩⟩, hs6⟩
        · simp only [obox, List.length_nil, outF_zero, List.mem_cons, List.not_mem_nil, or_false] at hp2
          rcases hp2 with rfl | rfl | rfl | rfl | rfl | rfl | rfl | rfl | rfl
          · exact q2 _ (by simp)
          · exact q2 _ (by simp)
          · exact q2 _ (by simp [lastL])
          · exact q1 _ (by simp)
          · exact q1 _ (by simp)
          · exact q1 _ (by simp)
          · exact q1 _ (by simp)
          · exact hl6 _ (by simp)
          · exact hl6 _ (by simp)
        · have hlt := (hx.lt j hf).2
          unfold inBox at hj
          rcases hj with e | e | e | e | e
          · exact h4 j (.inl e) hf
          · exact h4 j (.inr (.inl e)) hf
          · exact h4 j (.inr (.inr (.inl e))) hf
          · exact h4 j (.inr (.inr (.inr e))) hf
          · omega
      have HST6 := Lib.hid hst6.1; have HS6 := Lib.hid hst6.2
      have e5 : w5.heap.size = wr.heap.size + 3 := HS5.out
      have HBW6 : Hid (Below w.heap.size w w6) := by obtain ⟨⟨F1, N1, _, h1⟩, _⟩ := hst6; exact h1.bel
      clear hst6 hw6
      rw [e5]
      refine (wpIn_wide (n := 8)).1 ?_
      refine Mu.range_mut (F := Fence.wide) rfl (by decide) (gf := 36) (lb := #[.pointer (some ⟨wr.heap.size + 3, 0, none⟩), .pointer (some ⟨wr.heap.size + 3 + 1, 0, none⟩)]) rfl trivial (enters_of Try.func36 (by kernel_rfl) rfl)
        (due_seq 7 (by omega) w1.heap.size E (wr.heap.size + 3) (wr.heap.size + 4) now 40) (fun _ => rfl)
        (OU w1.heap.size E w w6 w.heap.size w2.heap.size wr.heap.size now m (dl ps) S) (OM w1.heap.size E w w6 w.heap.size w2.heap.size wr.heap.size now m (dl ps) S) (OM2 w1.heap.size E w w6 w.heap.size w2.heap.size wr.heap.size now m (dl ps) S) (OD w1.heap.size E w w6 w.heap.size w2.heap.size wr.heap.size now m (dl ps) S) (fun _ _ _ => False)
        oU_own oM2_own oD_own (fun _ _ _ _ _ h _ _ => h) (o_step HE2.out.1) HST6.out
        (fun y b => { tmps := #[.slice q ps.length c, .int .i64 now, undef, .pointer (some ⟨w.heap.size, 0, none⟩), .pointer (some ⟨w.heap.size + 1, 0, none⟩), .pointer (some ⟨E, 0, none⟩), .pointer (some ⟨w2.heap.size, 0, none⟩), .pointer (some ⟨w2.heap.size + 1, 0, none⟩), .int .i64 (-1), .pointer (some ⟨wr.heap.size, 0, none⟩), .pointer (some ⟨wr.heap.size + 1, 0, none⟩), .pointer (some ⟨wr.heap.size + 1 + 1, 0, none⟩), .pointer (some ⟨b, 0, none⟩), undef, undef, undef, undef, undef, undef, .bool true, .bool false, .pointer (some ⟨E, 0, none⟩), .slice q ps.length c, .int .i64 (ps.length : Int), .int .i64 (m : Int), .int .i64 (m : Int), .int .i64 ((m : Int) - 1), .int .i64 (-1), .bool false, u29, u30, u31, u32, u33, u34, u35, u36, u37, u38, u39, u40, u41, u42, u43, u44, u45, u46, u47, .agg #[.int .i64 (-1), .int .i64 0], .pointer (some ⟨E, 0, none⟩), .int .i64 now, .func (.func 36) #[] #[.pointer (some ⟨wr.heap.size + 3, 0, none⟩), .pointer (some ⟨wr.heap.size + 3 + 1, 0, none⟩)], .agg #[.int .i64 y.1, .int .i64 y.2], undef, undef, undef, undef, undef, undef, undef, undef, undef, undef, undef, undef, undef, undef, undef, undef, undef, undef, undef, undef, undef, undef, undef, undef, undef, undef, undef, undef, undef, undef, undef, undef, undef, undef, undef, undef, undef, undef, undef, undef, undef, undef, undef, undef, undef, undef, undef, undef, undef, undef, undef, undef, undef, undef, undef, undef, undef, undef, undef, undef, undef, undef, undef, undef, undef, undef, undef, undef, undef, undef, undef, undef, undef, undef, undef, undef, undef, undef, undef, undef, undef, undef, undef, undef, undef, undef, undef, undef, undef, undef, undef, undef, undef, undef, undef, undef, undef, undef, undef, undef, undef, undef, undef, undef, undef, undef, undef, undef, undef, undef, undef, undef, undef, undef, undef, undef, undef, undef, undef, undef, undef, undef, undef, undef, undef], defers := [] }) (fun y W => W.alloc (.cells #[.int .i64 y.1, .int .i64 y.2] 52)) oM_lay ?assign ?body ?done (fun _ _ _ _ _ h _ => h.elim)
      case assign =>
        intro l y W K hK
        gi_wp2
        exact hK
      case body =>
        rintro l pre y b W ⟨⟨F', N', hk, hy, hle, hor⟩, hbk, hbl⟩
        simp only at hk hy hle hor hbk hbl
        obtain ⟨j, -, hjm, hej⟩ := part_mem HE2.out (List.getElem_mem hk)
        have hy2 : y = ((j : Int), (j : Int) + 1) := by rw [hy, hej]; rfl
        subst hy2
        have hp := hor.place
        have hSl := part_len HE2.out
        have y0 : W.cell? ⟨b, 0, none⟩ = some (.int .i64 (j : Int)) := by rw [block_cell hbk]; rfl
        have y1 : W.cell? ⟨b, 1, none⟩ = some (.int .i64 ((j : Int) + 1)) := by rw [block_cell hbk]; rfl
        have hj1 : S[pre.length].1 = (j : Int) := by rw [hej]; rfl
        have hj2 : S[pre.length].2.2 = dl ps j := by rw [hej]; rfl
        have hj32 : j < 32 := by have := HM.out; omega
        have oO := hor.box _ (show (wr.heap.size, _) ∈ obox w.heap.size w2.heap.size wr.heap.size E now m (dl ps) S pre.length by unfold obox; exact List.mem_cons_self)
        have oC : W.heap[wr.heap.size + 1 ]? = some (.cells #[.int .i64 (pre.length : Int)] 3 (0, 0)) := hor.box (wr.heap.size + 1, _) (by simp [obox])
        have oL : W.heap[wr.heap.size + 2]? = some (.cells #[.int .i64 (lastL S pre.length).1, .int .i64 (lastL S pre.length).2] 52 (0, 0)) := hor.box (wr.heap.size + 2, _) (by simp [obox])
        have oZ : W.heap[w.heap.size]? = some (.cells #[.int .i64 now] 3 (0, 0)) := hor.box (w.heap.size, _) (by simp [obox])
        have oA : W.heap[w2.heap.size]? = some (.cells (arr 32 (atV (dl ps) 0 m)) 49 (0, 0)) := hor.box (w2.heap.size, _) (by simp [obox])
        have oN : W.heap[w2.heap.size + 1]? = some (.cells #[.int .i64 (m : Int)] 3 (0, 0)) := hor.box (w2.heap.size + 1, _) (by simp [obox])
        have cO : W.cell? ⟨wr.heap.size, j, none⟩ = some (.bool false) := by rw [block_cell oO, arr_at hj32, outF_new HE2.out.1 hk hj1]
        have cOf := block_free oO j
        have cC : W.cell? ⟨wr.heap.size + 1, 0, none⟩ = some (.int .i64 (pre.length : Int)) := by rw [block_cell oC]; rfl
        have cCf := block_free oC 0
        have cL0 : W.cell? ⟨wr.heap.size + 1 + 1, 0, none⟩ = some (.int .i64 (lastL S pre.length).1) := by rw [block_cell oL]; rfl
        have cL1 : W.cell? ⟨wr.heap.size + 1 + 1, 1, none⟩ = some (.int .i64 (lastL S pre.length).2) := by rw [block_cell oL]; rfl
        have cLf : ∀ z, W.frozen? ⟨wr.heap.size + 1 + 1, z, none⟩ = false := fun z => block_free oL z
        have cZ : W.cell? ⟨w.heap.size, 0, none⟩ = some (.int .i64 now) := by rw [block_cell oZ]; rfl
        have cA : ∀ z, z < m → W.cell? ⟨w2.heap.size, z, none⟩ = some (.int .i64 (dl ps z)) := fun z hz => by rw [block_cell oA, arr_at (by have := HM.out; omega)]; unfold atV; rw [if_pos (by omega)]
        have cN : W.cell? ⟨w2.heap.size + 1, 0, none⟩ = some (.int .i64 (m : Int)) := by rw [block_cell oN]; rfl
        have hnd := o_next (y := ((j : Int), (j : Int) + 1)) ((hor.below (Below.drew (Below.refl _ _))).below (Below.drew (Below.refl _ _))) (((KeepsOthers.drew W).from w6.heap.size).trans ((KeepsOthers.drew W.drew).from w6.heap.size)) hk hj1 hj32 hle
        rw [hej] at hnd
        have HND := Lib.hid hnd
        have hled : dl ps j ≤ now := by rw [← hj2]; exact hle
        have cAj := cA j hjm
        have hk32 : (pre.length : Int) + 1 ≤ (m : Int) := by omega
        have f1 : (0 : Int) ≤ (j : Int) := by omega
        have f2 : (j : Int) < (m : Int) := by omega
        have f3 : (j : Int) < 32 := by omega
        have f4 : decide (m ≤ j) = false := by simp; omega
        have d1 : ¬ wr.heap.size = w2.heap.size + 1 := by omega
        have d2 : ¬ wr.heap.size = w2.heap.size := by omega
        have d3 : ¬ wr.heap.size + 1 = w2.heap.size := by omega
        have d4 : ¬ w2.heap.size + 1 = wr.heap.size := by omega
        have d5 : ¬ w2.heap.size = wr.heap.size := by omega
        have d6 : ¬ w2.heap.size = wr.heap.size + 1 := by omega
        obtain ⟨d, hd⟩ : ∃ d, d = dl ps j := ⟨_, rfl⟩
        rw [← hd] at cAj hled
        have hbW : b < W.heap.size := (Array.getElem?_eq_some_iff.1 hbk).1
        have hbo : b ≠ wr.heap.size := by have h1 : w6.heap.size ≤ b := hbl; omega
        have HCA := Lib.hid cA; have HDJ := Lib.hid hd
        have hfacts : pre.length = 0 ∨ ∃ i, i < m ∧ lastL S pre.length = ((i : Int), (i : Int) + 1) ∧ dl ps i ≤ dl ps j ∧ (dl ps i = dl ps j → (i : Int) ≤ (j : Int)) := by
          rcases Nat.eq_zero_or_pos pre.length with e0 | e0
          · exact .inl e0
          · obtain ⟨kk, hkk⟩ : ∃ kk, pre.length = kk + 1 := ⟨pre.length - 1, by omega⟩
            have hkl : kk < S.length := by omega
            obtain ⟨i, -, him, hei⟩ := part_mem HE2.out (List.getElem_mem hkl)
            have hs := sorted_at HE2.out.1 (i := kk) (k := pre.length) (by omega) hk
            rw [hej, hei] at hs
            have hs2 : ¬ (dl ps j < dl ps i ∨ (dl ps j = dl ps i ∧ (j : Int) < (i : Int))) := hs
            refine .inr ⟨i, him, ?_, by omega, fun e => by omega⟩
            rw [hkk, lastL_succ hkl, hei]; rfl
        have HF := Lib.hid hfacts
        clear hfacts cA hd hj1 hj2 hnd hor oO oC oL oZ oA oN hbk hej hle hp hk hSl hjm hj32 hbl hy
        have m1 : ((pre.length : Int) + 1) ≤ 40 := by omega
        have f5 : IntKind.i64.wrap ((j : Int) + 1) = (j : Int) + 1 := IntWalk.i64_in _ (by omega)
        have f6 : (((j : Int) + 1) != ((j : Int) + 1)) = false := by simp
        have f7 : decide (now < d) = false := by simp; omega
        gi_wp2_with fail
        refine Mu.region_round (S := fun w' => w'.cell? ⟨b, 0, none⟩ = some (.int .i64 (j : Int)) ∧ w'.cell? ⟨b, 1, none⟩ = some (.int .i64 ((j : Int) + 1)) ∧ w'.cell? ⟨w2.heap.size + 1, 0, none⟩ = some (.int .i64 (m : Int)) ∧ w'.cell? ⟨wr.heap.size, j, none⟩ = some (.bool false) ∧ w'.cell? ⟨w2.heap.size, j, none⟩ = some (.int .i64 d) ∧ w'.cell? ⟨w.heap.size, 0, none⟩ = some (.int .i64 now)) (by kernel_rfl) ?_ ?_ ?_ (fun hHeld => ?_)
        · rintro ⟨a, w', h⟩; exact h
        · intro o ho c hc; simp at ho; rcases ho with rfl | rfl | rfl | rfl | rfl | rfl | rfl | rfl | rfl | rfl | rfl | rfl | rfl | rfl | rfl | rfl | rfl | rfl | rfl | rfl | rfl | rfl | rfl | rfl | rfl | rfl | rfl | rfl | rfl | rfl | rfl <;> cases hc
        · exact ⟨y0, y1, cN, cO, cAj, cZ⟩
        refine Mu.take_some (i := 0) (k := 53) (v := ?_) rfl rfl (by kernel_rfl) (by kernel_rfl) (by kernel_rfl) (fun _ _ _ h => h) (Or.inl ⟨by rfl, ?_⟩) (by assumption) ?_
        rotate_left
        · intro wq hSw; (try dsimp only at hSw); go_simp; (try with_reducible rfl)
        simp only [List.set_cons_succ, List.set_cons_zero]
        refine Mu.take_some (i := 1) (k := 54) (v := ?_) rfl rfl (by kernel_rfl) (by kernel_rfl) (by kernel_rfl) (fun _ _ _ h => h) (Or.inl ⟨by rfl, ?_⟩) (by assumption) ?_
        rotate_left
        · intro wq hSw; (try dsimp only at hSw); go_simp; (try with_reducible rfl)
        simp only [List.set_cons_succ, List.set_cons_zero]
        refine Mu.take_some (i := 2) (k := 55) (v := ?_) rfl rfl (by kernel_rfl) (by kernel_rfl) (by kernel_rfl) (fun _ _ _ h => h) (Or.inl ⟨by rfl, ?_⟩) (by assumption) ?_
        rotate_left
        · intro wq hSw; (try dsimp only at hSw); go_simp; (try with_reducible rfl)
        simp only [List.set_cons_succ, List.set_cons_zero]
        refine Mu.take_some (i := 3) (k := 56) (v := ?_) rfl rfl (by kernel_rfl) (by kernel_rfl) (by kernel_rfl) (fun _ _ _ h => h) (Or.inl ⟨by rfl, ?_⟩) (by assumption) ?_
        rotate_left
        · intro wq hSw; (try dsimp only at hSw); go_simp; (try with_reducible rfl)
        simp only [List.set_cons_succ, List.set_cons_zero]
        refine Mu.take_some (i := 4) (k := 57) (v := ?_) rfl rfl (by kernel_rfl) (by kernel_rfl) (by kernel_rfl) (fun _ _ _ h => h) (Or.inl ⟨by rfl, ?_⟩) (by assumption) ?_
        rotate_left
        · intro wq hSw; (try dsimp only at hSw); go_simp; (try with_reducible rfl)
        simp only [List.set_cons_succ, List.set_cons_zero]
        refine Mu.take_some (i := 5) (k := 58) (v := ?_) rfl rfl (by kernel_rfl) (by kernel_rfl) (by kernel_rfl) (fun _ _ _ h => h) (Or.inl ⟨by rfl, ?_⟩) (by assumption) ?_
        rotate_left
        · intro wq hSw; (try dsimp only at hSw); go_simp; (try with_reducible rfl)
        simp only [List.set_cons_succ, List.set_cons_zero]
        refine Mu.take_some (i := 6) (k := 59) (v := ?_) rfl rfl (by kernel_rfl) (by kernel_rfl) (by kernel_rfl) (fun _ _ _ h => h) (Or.inl ⟨by rfl, ?_⟩) (by assumption) ?_
        rotate_left
        · intro wq hSw; (try dsimp only at hSw); go_simp; (try with_reducible rfl)
        simp only [List.set_cons_succ, List.set_cons_zero]
        refine Mu.take_some (i := 7) (k := 60) (v := ?_) rfl rfl (by kernel_rfl) (by kernel_rfl) (by kernel_rfl) (fun _ _ _ h => h) (Or.inl ⟨by rfl, ?_⟩) (by assumption) ?_
        rotate_left
        · intro wq hSw; (try dsimp only at hSw); go_simp; (try with_reducible rfl)
        simp only [List.set_cons_succ, List.set_cons_zero]
        refine Mu.take_some (i := 8) (k := 61) (v := ?_) rfl rfl (by kernel_rfl) (by kernel_rfl) (by kernel_rfl) (fun _ _ _ h => h) (Or.inl ⟨by rfl, ?_⟩) (by assumption) ?_
        rotate_left
        · intro wq hSw; (try dsimp only at hSw); go_simp; (try with_reducible rfl)
        simp only [List.set_cons_succ, List.set_cons_zero]
        refine Mu.take_some (i := 9) (k := 62) (v := ?_) rfl rfl (by kernel_rfl) (by kernel_rfl) (by kernel_rfl) (fun _ _ _ h => h) (Or.inl ⟨by rfl, ?_⟩) (by assumption) ?_
        rotate_left
        · intro wq hSw; (try dsimp only at hSw); go_simp; (try with_reducible rfl)
        simp only [List.set_cons_succ, List.set_cons_zero]
        refine Mu.take_some (i := 10) (k := 63) (v := ?_) rfl rfl (by kernel_rfl) (by kernel_rfl) (by kernel_rfl) (fun _ _ _ h => h) (Or.inl ⟨by rfl, ?_⟩) (by assumption) ?_
        rotate_left
        · intro wq hSw; (try dsimp only at hSw); go_simp; (try with_reducible rfl)
        simp only [List.set_cons_succ, List.set_cons_zero]
        refine Mu.take_some (i := 11) (k := 64) (v := ?_) rfl rfl (by kernel_rfl) (by kernel_rfl) (by kernel_rfl) (fun _ _ _ h => h) (Or.inl ⟨by rfl, ?_⟩) (by assumption) ?_
        rotate_left
        · intro wq hSw; (try dsimp only at hSw); go_simp; (try with_reducible rfl)
        simp only [List.set_cons_succ, List.set_cons_zero]
        refine Mu.take_some (i := 12) (k := 65) (v := ?_) rfl rfl (by kernel_rfl) (by kernel_rfl) (by kernel_rfl) (fun _ _ _ h => h) (Or.inl ⟨by rfl, ?_⟩) (by assumption) ?_
        rotate_left
        · intro wq hSw; (try dsimp only at hSw); go_simp; (try with_reducible rfl)
        simp only [List.set_cons_succ, List.set_cons_zero]
        refine Mu.take_some (i := 13) (k := 66) (v := ?_) rfl rfl (by kernel_rfl) (by kernel_rfl) (by kernel_rfl) (fun _ _ _ h => h) (Or.inl ⟨by rfl, ?_⟩) (by assumption) ?_
        rotate_left
        · intro wq hSw; (try dsimp only at hSw); go_simp; (try with_reducible rfl)
        simp only [List.set_cons_succ, List.set_cons_zero]
        refine Mu.take_some (i := 14) (k := 67) (v := ?_) rfl rfl (by kernel_rfl) (by kernel_rfl) (by kernel_rfl) (fun _ _ _ h => h) (Or.inl ⟨by rfl, ?_⟩) (by assumption) ?_
        rotate_left
        · intro wq hSw; (try dsimp only at hSw); go_simp; (try with_reducible rfl)
        simp only [List.set_cons_succ, List.set_cons_zero]
        refine Mu.take_some (i := 15) (k := 68) (v := ?_) rfl rfl (by kernel_rfl) (by kernel_rfl) (by kernel_rfl) (fun _ _ _ h => h) (Or.inl ⟨by rfl, ?_⟩) (by assumption) ?_
        rotate_left
        · intro wq hSw; (try dsimp only at hSw); go_simp; (try with_reducible rfl)
        simp only [List.set_cons_succ, List.set_cons_zero]
        refine Mu.take_some (i := 16) (k := 69) (v := ?_) rfl rfl (by kernel_rfl) (by kernel_rfl) (by kernel_rfl) (fun _ _ _ h => h) (Or.inl ⟨by rfl, ?_⟩) (by assumption) ?_
        rotate_left
        · intro wq hSw; (try dsimp only at hSw); go_simp; (try with_reducible rfl)
        simp only [List.set_cons_succ, List.set_cons_zero]
        refine Mu.take_some (i := 17) (k := 70) (v := ?_) rfl rfl (by kernel_rfl) (by kernel_rfl) (by kernel_rfl) (fun _ _ _ h => h) (Or.inl ⟨by rfl, ?_⟩) (by assumption) ?_
        rotate_left
        · intro wq hSw; (try dsimp only at hSw); go_simp; (try with_reducible rfl)
        simp only [List.set_cons_succ, List.set_cons_zero]
        refine Mu.take_some (i := 18) (k := 71) (v := ?_) rfl rfl (by kernel_rfl) (by kernel_rfl) (by kernel_rfl) (fun _ _ _ h => h) (Or.inl ⟨by rfl, ?_⟩) (by assumption) ?_
        rotate_left
        · intro wq hSw; (try dsimp only at hSw); go_simp; (try with_reducible rfl)
        simp only [List.set_cons_succ, List.set_cons_zero]
        refine Mu.take_some (i := 19) (k := 72) (v := ?_) rfl rfl (by kernel_rfl) (by kernel_rfl) (by kernel_rfl) (fun _ _ _ h => h) (Or.inl ⟨by rfl, ?_⟩) (by assumption) ?_
        rotate_left
        · intro wq hSw; (try dsimp only at hSw); go_simp; (try with_reducible rfl)
        simp only [List.set_cons_succ, List.set_cons_zero]
        refine Mu.take_some (i := 20) (k := 73) (v := ?_) rfl rfl (by kernel_rfl) (by kernel_rfl) (by kernel_rfl) (fun _ _ _ h => h) (Or.inl ⟨by rfl, ?_⟩) (by assumption) ?_
        rotate_left
        · intro wq hSw; (try dsimp only at hSw); go_simp; (try with_reducible rfl)
        simp only [List.set_cons_succ, List.set_cons_zero]
        refine Mu.take_some (i := 21) (k := 74) (v := ?_) rfl rfl (by kernel_rfl) (by kernel_rfl) (by kernel_rfl) (fun _ _ _ h => h) (Or.inl ⟨by rfl, ?_⟩) (by assumption) ?_
        rotate_left
        · intro wq hSw; (try dsimp only at hSw); go_simp; (try with_reducible rfl)
        simp only [List.set_cons_succ, List.set_cons_zero]
        refine Mu.take_some (i := 22) (k := 75) (v := ?_) rfl rfl (by kernel_rfl) (by kernel_rfl) (by kernel_rfl) (fun _ _ _ h => h) (Or.inl ⟨by rfl, ?_⟩) (by assumption) ?_
        rotate_left
        · intro wq hSw; (try dsimp only at hSw); go_simp; (try with_reducible rfl)
        simp only [List.set_cons_succ, List.set_cons_zero]
        refine Mu.take_some (i := 23) (k := 76) (v := ?_) rfl rfl (by kernel_rfl) (by kernel_rfl) (by kernel_rfl) (fun _ _ _ h => h) (Or.inl ⟨by rfl, ?_⟩) (by assumption) ?_
        rotate_left
        · intro wq hSw; (try dsimp only at hSw); go_simp; (try with_reducible rfl)
        simp only [List.set_cons_succ, List.set_cons_zero]
        refine Mu.take_some (i := 24) (k := 77) (v := ?_) rfl rfl (by kernel_rfl) (by kernel_rfl) (by kernel_rfl) (fun _ _ _ h => h) (Or.inl ⟨by rfl, ?_⟩) (by assumption) ?_
        rotate_left
        · intro wq hSw; (try dsimp only at hSw); go_simp; (try with_reducible rfl)
        simp only [List.set_cons_succ, List.set_cons_zero]
        refine Mu.take_some (i := 25) (k := 78) (v := ?_) rfl rfl (by kernel_rfl) (by kernel_rfl) (by kernel_rfl) (fun _ _ _ h => h) (Or.inl ⟨by rfl, ?_⟩) (by assumption) ?_
        rotate_left
        · intro wq hSw; (try dsimp only at hSw); go_simp; (try with_reducible rfl)
        simp only [List.set_cons_succ, List.set_cons_zero]
        refine Mu.take_some (i := 26) (k := 79) (v := ?_) rfl rfl (by kernel_rfl) (by kernel_rfl) (by kernel_rfl) (fun _ _ _ h => h) (Or.inl ⟨by rfl, ?_⟩) (by assumption) ?_
        rotate_left
        · intro wq hSw; (try dsimp only at hSw); go_simp; (try with_reducible rfl)
        simp only [List.set_cons_succ, List.set_cons_zero]
        refine Mu.take_some (i := 27) (k := 80) (v := ?_) rfl rfl (by kernel_rfl) (by kernel_rfl) (by kernel_rfl) (fun _ _ _ h => h) (Or.inl ⟨by rfl, ?_⟩) (by assumption) ?_
        rotate_left
        · intro wq hSw; (try dsimp only at hSw); go_simp; (try with_reducible rfl)
        simp only [List.set_cons_succ, List.set_cons_zero]
        refine Mu.take_some (i := 28) (k := 81) (v := ?_) rfl rfl (by kernel_rfl) (by kernel_rfl) (by kernel_rfl) (fun _ _ _ h => h) (Or.inl ⟨by rfl, ?_⟩) (by assumption) ?_
        rotate_left
        · intro wq hSw; (try dsimp only at hSw); go_simp; (try with_reducible rfl)
        simp only [List.set_cons_succ, List.set_cons_zero]
        refine Mu.take_some (i := 29) (k := 82) (v := ?_) rfl rfl (by kernel_rfl) (by kernel_rfl) (by kernel_rfl) (fun _ _ _ h => h) (Or.inl ⟨by rfl, ?_⟩) (by assumption) ?_
        rotate_left
        · intro wq hSw; (try dsimp only at hSw); go_simp; (try with_reducible rfl)
        simp only [List.set_cons_succ, List.set_cons_zero]
        refine Mu.take_some (i := 30) (k := 83) (v := ?_) rfl rfl (by kernel_rfl) (by kernel_rfl) (by kernel_rfl) (fun _ _ _ h => h) (Or.inl ⟨by rfl, ?_⟩) (by assumption) ?_
        rotate_left
        · intro wq hSw; (try dsimp only at hSw); go_simp; (try with_reducible rfl)
        simp only [List.set_cons_succ, List.set_cons_zero]
        refine wpAnyH_done (by kernel_rfl) ?_ _
        clear hHeld f5 f6 f7
        gi_wp2_with fail
        rcases HF.out with e0 | ⟨i, him, hla, hdi, hij⟩
        · have hl0 : (lastL S pre.length).1 = -1 := by rw [e0]; rfl
          rw [hl0] at cL0
          have HL0 := Lib.hid e0
          clear e0 hl0
          refine Mu.region_round (S := fun w' => w'.cell? ⟨b, 0, none⟩ = some (.int .i64 (j : Int)) ∧ w'.cell? ⟨wr.heap.size + 1 + 1, 0, none⟩ = some (.int .i64 (-1))) (by kernel_rfl) ?_ ?_ ?_ (fun hHeld => ?_)
          · rintro ⟨a, w', h⟩; exact h
          · intro o ho c hc; simp at ho; rcases ho with rfl | rfl | rfl | rfl | rfl | rfl | rfl | rfl | rfl | rfl | rfl | rfl | rfl | rfl | rfl | rfl | rfl | rfl | rfl | rfl | rfl | rfl | rfl | rfl | rfl | rfl | rfl | rfl | rfl | rfl | rfl | rfl <;> cases hc
          · exact ⟨y0, cL0⟩
          refine Mu.take_some (i := 0) (k := 84) (v := ?_) rfl rfl (by kernel_rfl) (by kernel_rfl) (by kernel_rfl) (fun _ _ _ h => h) (Or.inl ⟨by rfl, ?_⟩) (by assumption) ?_
          rotate_left
          · intro wq hSw; (try dsimp only at hSw); go_simp; (try with_reducible rfl)
          simp only [List.set_cons_succ, List.set_cons_zero]
          refine Mu.take_some (i := 1) (k := 85) (v := ?_) rfl rfl (by kernel_rfl) (by kernel_rfl) (by kernel_rfl) (fun _ _ _ h => h) (Or.inl ⟨by rfl, ?_⟩) (by assumption) ?_
          rotate_left
          · intro wq hSw; (try dsimp only at hSw); go_simp; (try with_reducible rfl)
          simp only [List.set_cons_succ, List.set_cons_zero]
          refine Mu.take_some (i := 2) (k := 86) (v := ?_) rfl rfl (by kernel_rfl) (by kernel_rfl) (by kernel_rfl) (fun _ _ _ h => h) (Or.inl ⟨by rfl, ?_⟩) (by assumption) ?_
          rotate_left
          · intro wq hSw; (try dsimp only at hSw); go_simp; (try with_reducible rfl)
          simp only [List.set_cons_succ, List.set_cons_zero]
          refine Mu.take_some (i := 3) (k := 87) (v := ?_) rfl rfl (by kernel_rfl) (by kernel_rfl) (by kernel_rfl) (fun _ _ _ h => h) (Or.inl ⟨by rfl, ?_⟩) (by assumption) ?_
          rotate_left
          · intro wq hSw; (try dsimp only at hSw); go_simp; (try with_reducible rfl)
          simp only [List.set_cons_succ, List.set_cons_zero]
          refine Mu.take_some (i := 4) (k := 88) (v := undef) rfl rfl (by kernel_rfl) (by kernel_rfl) (by kernel_rfl) (fun _ _ _ h => h) (Or.inr ⟨by rfl, rfl⟩) (by assumption) ?_
          simp only [List.set_cons_succ, List.set_cons_zero]
          refine Mu.take_some (i := 5) (k := 89) (v := undef) rfl rfl (by kernel_rfl) (by kernel_rfl) (by kernel_rfl) (fun _ _ _ h => h) (Or.inr ⟨by rfl, rfl⟩) (by assumption) ?_
          simp only [List.set_cons_succ, List.set_cons_zero]
          refine Mu.take_some (i := 6) (k := 90) (v := undef) rfl rfl (by kernel_rfl) (by kernel_rfl) (by kernel_rfl) (fun _ _ _ h => h) (Or.inr ⟨by rfl, rfl⟩) (by assumption) ?_
          simp only [List.set_cons_succ, List.set_cons_zero]
          refine Mu.take_some (i := 7) (k := 91) (v := undef) rfl rfl (by kernel_rfl) (by kernel_rfl) (by kernel_rfl) (fun _ _ _ h => h) (Or.inr ⟨by rfl, rfl⟩) (by assumption) ?_
          simp only [List.set_cons_succ, List.set_cons_zero]
          refine Mu.take_some (i := 8) (k := 92) (v := undef) rfl rfl (by kernel_rfl) (by kernel_rfl) (by kernel_rfl) (fun _ _ _ h => h) (Or.inr ⟨by rfl, rfl⟩) (by assumption) ?_
          simp only [List.set_cons_succ, List.set_cons_zero]
          refine Mu.take_some (i := 9) (k := 93) (v := undef) rfl rfl (by kernel_rfl) (by kernel_rfl) (by kernel_rfl) (fun _ _ _ h => h) (Or.inr ⟨by rfl, rfl⟩) (by assumption) ?_
          simp only [List.set_cons_succ, List.set_cons_zero]
          refine Mu.take_some (i := 10) (k := 94) (v := undef) rfl rfl (by kernel_rfl) (by kernel_rfl) (by kernel_rfl) (fun _ _ _ h => h) (Or.inr ⟨by rfl, rfl⟩) (by assumption) ?_
          simp only [List.set_cons_succ, List.set_cons_zero]
          refine Mu.take_some (i := 11) (k := 95) (v := undef) rfl rfl (by kernel_rfl) (by kernel_rfl) (by kernel_rfl) (fun _ _ _ h => h) (Or.inr ⟨by rfl, rfl⟩) (by assumption) ?_
          simp only [List.set_cons_succ, List.set_cons_zero]
          refine Mu.take_some (i := 12) (k := 96) (v := undef) rfl rfl (by kernel_rfl) (by kernel_rfl) (by kernel_rfl) (fun _ _ _ h => h) (Or.inr ⟨by rfl, rfl⟩) (by assumption) ?_
          simp only [List.set_cons_succ, List.set_cons_zero]
          refine Mu.take_some (i := 13) (k := 97) (v := undef) rfl rfl (by kernel_rfl) (by kernel_rfl) (by kernel_rfl) (fun _ _ _ h => h) (Or.inr ⟨by rfl, rfl⟩) (by assumption) ?_
          simp only [List.set_cons_succ, List.set_cons_zero]
          refine Mu.take_some (i := 14) (k := 98) (v := undef) rfl rfl (by kernel_rfl) (by kernel_rfl) (by kernel_rfl) (fun _ _ _ h => h) (Or.inr ⟨by rfl, rfl⟩) (by assumption) ?_
          simp only [List.set_cons_succ, List.set_cons_zero]
          refine Mu.take_some (i := 15) (k := 99) (v := undef) rfl rfl (by kernel_rfl) (by kernel_rfl) (by kernel_rfl) (fun _ _ _ h => h) (Or.inr ⟨by rfl, rfl⟩) (by assumption) ?_
          simp only [List.set_cons_succ, List.set_cons_zero]
          refine Mu.take_some (i := 16) (k := 100) (v := undef) rfl rfl (by kernel_rfl) (by kernel_rfl) (by kernel_rfl) (fun _ _ _ h => h) (Or.inr ⟨by rfl, rfl⟩) (by assumption) ?_
          simp only [List.set_cons_succ, List.set_cons_zero]
          refine Mu.take_some (i := 17) (k := 101) (v := undef) rfl rfl (by kernel_rfl) (by kernel_rfl) (by kernel_rfl) (fun _ _ _ h => h) (Or.inr ⟨by rfl, rfl⟩) (by assumption) ?_
          simp only [List.set_cons_succ, List.set_cons_zero]
          refine Mu.take_some (i := 18) (k := 102) (v := undef) rfl rfl (by kernel_rfl) (by kernel_rfl) (by kernel_rfl) (fun _ _ _ h => h) (Or.inr ⟨by rfl, rfl⟩) (by assumption) ?_
          simp only [List.set_cons_succ, List.set_cons_zero]
          refine Mu.take_some (i := 19) (k := 103) (v := undef) rfl rfl (by kernel_rfl) (by kernel_rfl) (by kernel_rfl) (fun _ _ _ h => h) (Or.inr ⟨by rfl, rfl⟩) (by assumption) ?_
          simp only [List.set_cons_succ, List.set_cons_zero]
          refine Mu.take_some (i := 20) (k := 104) (v := undef) rfl rfl (by kernel_rfl) (by kernel_rfl) (by kernel_rfl) (fun _ _ _ h => h) (Or.inr ⟨by rfl, rfl⟩) (by assumption) ?_
          simp only [List.set_cons_succ, List.set_cons_zero]
          refine Mu.take_some (i := 21) (k := 105) (v := undef) rfl rfl (by kernel_rfl) (by kernel_rfl) (by kernel_rfl) (fun _ _ _ h => h) (Or.inr ⟨by rfl, rfl⟩) (by assumption) ?_
          simp only [List.set_cons_succ, List.set_cons_zero]
          refine Mu.take_some (i := 22) (k := 106) (v := undef) rfl rfl (by kernel_rfl) (by kernel_rfl) (by kernel_rfl) (fun _ _ _ h => h) (Or.inr ⟨by rfl, rfl⟩) (by assumption) ?_
          simp only [List.set_cons_succ, List.set_cons_zero]
          refine Mu.take_some (i := 23) (k := 107) (v := undef) rfl rfl (by kernel_rfl) (by kernel_rfl) (by kernel_rfl) (fun _ _ _ h => h) (Or.inr ⟨by rfl, rfl⟩) (by assumption) ?_
          simp only [List.set_cons_succ, List.set_cons_zero]
          refine Mu.take_some (i := 24) (k := 108) (v := undef) rfl rfl (by kernel_rfl) (by kernel_rfl) (by kernel_rfl) (fun _ _ _ h => h) (Or.inr ⟨by rfl, rfl⟩) (by assumption) ?_
          simp only [List.set_cons_succ, List.set_cons_zero]
          refine Mu.take_some (i := 25) (k := 109) (v := undef) rfl rfl (by kernel_rfl) (by kernel_rfl) (by kernel_rfl) (fun _ _ _ h => h) (Or.inr ⟨by rfl, rfl⟩) (by assumption) ?_
          simp only [List.set_cons_succ, List.set_cons_zero]
          refine Mu.take_some (i := 26) (k := 110) (v := undef) rfl rfl (by kernel_rfl) (by kernel_rfl) (by kernel_rfl) (fun _ _ _ h => h) (Or.inr ⟨by rfl, rfl⟩) (by assumption) ?_
          simp only [List.set_cons_succ, List.set_cons_zero]
          refine Mu.take_some (i := 27) (k := 111) (v := undef) rfl rfl (by kernel_rfl) (by kernel_rfl) (by kernel_rfl) (fun _ _ _ h => h) (Or.inr ⟨by rfl, rfl⟩) (by assumption) ?_
          simp only [List.set_cons_succ, List.set_cons_zero]
          refine Mu.take_some (i := 28) (k := 112) (v := undef) rfl rfl (by kernel_rfl) (by kernel_rfl) (by kernel_rfl) (fun _ _ _ h => h) (Or.inr ⟨by rfl, rfl⟩) (by assumption) ?_
          simp only [List.set_cons_succ, List.set_cons_zero]
          refine Mu.take_some (i := 29) (k := 113) (v := undef) rfl rfl (by kernel_rfl) (by kernel_rfl) (by kernel_rfl) (fun _ _ _ h => h) (Or.inr ⟨by rfl, rfl⟩) (by assumption) ?_
          simp only [List.set_cons_succ, List.set_cons_zero]
          refine Mu.take_some (i := 30) (k := 114) (v := undef) rfl rfl (by kernel_rfl) (by kernel_rfl) (by kernel_rfl) (fun _ _ _ h => h) (Or.inr ⟨by rfl, rfl⟩) (by assumption) ?_
          simp only [List.set_cons_succ, List.set_cons_zero]
          refine Mu.take_some (i := 31) (k := 115) (v := ?_) rfl rfl (by kernel_rfl) (by kernel_rfl) (by kernel_rfl) (fun _ _ _ h => h) (Or.inl ⟨by rfl, ?_⟩) (by assumption) ?_
          rotate_left
          · intro wq hSw; (try dsimp only at hSw); go_simp; (try with_reducible rfl)
          simp only [List.set_cons_succ, List.set_cons_zero]
          refine wpAnyH_done (by kernel_rfl) ?_ _
          clear hHeld
          gi_wp2
          exact HND.out
        · rw [hla] at cL0 cL1
          simp only at cL0 cL1
          have cAi := HCA.out i him
          obtain ⟨di, hdi2⟩ : ∃ di, di = dl ps i := ⟨_, rfl⟩
          rw [← HDJ.out] at hdi hij
          rw [← hdi2] at hdi hij cAi
          have g1 : (0 : Int) ≤ (i : Int) := by omega
          have g2 : (i : Int) < 32 := by have := HM.out; omega
          clear hla hdi2 him
          by_cases hq : di = d
          · have g3 := hij hq
            have g4 : (di == d) = true := by simp [hq]
            have g5 : decide (d < di) = false := by simp; omega
            have g6 : decide ((j : Int) < (i : Int)) = false := by simp; omega
            clear hij hq hdi
            refine Mu.region_round (S := fun w' => w'.cell? ⟨b, 0, none⟩ = some (.int .i64 (j : Int)) ∧ w'.cell? ⟨wr.heap.size + 1 + 1, 0, none⟩ = some (.int .i64 (i : Int)) ∧ w'.cell? ⟨w2.heap.size, i, none⟩ = some (.int .i64 di) ∧ w'.cell? ⟨w2.heap.size, j, none⟩ = some (.int .i64 d)) (by kernel_rfl) ?_ ?_ ?_ (fun hHeld => ?_)
            · rintro ⟨a, w', h⟩; exact h
            · intro o ho c hc; simp at ho; rcases ho with rfl | rfl | rfl | rfl | rfl | rfl | rfl | rfl | rfl | rfl | rfl | rfl | rfl | rfl | rfl | rfl | rfl | rfl | rfl | rfl | rfl | rfl | rfl | rfl | rfl | rfl | rfl | rfl | rfl | rfl | rfl | rfl <;> cases hc
            · exact ⟨y0, cL0, cAi, cAj⟩
            refine Mu.take_some (i := 0) (k := 84) (v := ?_) rfl rfl (by kernel_rfl) (by kernel_rfl) (by kernel_rfl) (fun _ _ _ h => h) (Or.inl ⟨by rfl, ?_⟩) (by assumption) ?_
            rotate_left
            · intro wq hSw; (try dsimp only at hSw); go_simp; (try with_reducible rfl)
            simp only [List.set_cons_succ, List.set_cons_zero]
            refine Mu.take_some (i := 1) (k := 85) (v := ?_) rfl rfl (by kernel_rfl) (by kernel_rfl) (by kernel_rfl) (fun _ _ _ h => h) (Or.inl ⟨by rfl, ?_⟩) (by assumption) ?_
            rotate_left
            · intro wq hSw; (try dsimp only at hSw); go_simp; (try with_reducible rfl)
            simp only [List.set_cons_succ, List.set_cons_zero]
            refine Mu.take_some (i := 2) (k := 86) (v := ?_) rfl rfl (by kernel_rfl) (by kernel_rfl) (by kernel_rfl) (fun _ _ _ h => h) (Or.inl ⟨by rfl, ?_⟩) (by assumption) ?_
            rotate_left
            · intro wq hSw; (try dsimp only at hSw); go_simp; (try with_reducible rfl)
            simp only [List.set_cons_succ, List.set_cons_zero]
            refine Mu.take_some (i := 3) (k := 87) (v := ?_) rfl rfl (by kernel_rfl) (by kernel_rfl) (by kernel_rfl) (fun _ _ _ h => h) (Or.inl ⟨by rfl, ?_⟩) (by assumption) ?_
            rotate_left
            · intro wq hSw; (try dsimp only at hSw); go_simp; (try with_reducible rfl)
            simp only [List.set_cons_succ, List.set_cons_zero]
            refine Mu.take_some (i := 4) (k := 88) (v := ?_) rfl rfl (by kernel_rfl) (by kernel_rfl) (by kernel_rfl) (fun _ _ _ h => h) (Or.inl ⟨by rfl, ?_⟩) (by assumption) ?_
            rotate_left
            · intro wq hSw; (try dsimp only at hSw); go_simp; (try with_reducible rfl)
            simp only [List.set_cons_succ, List.set_cons_zero]
            refine Mu.take_some (i := 5) (k := 89) (v := ?_) rfl rfl (by kernel_rfl) (by kernel_rfl) (by kernel_rfl) (fun _ _ _ h => h) (Or.inl ⟨by rfl, ?_⟩) (by assumption) ?_
            rotate_left
            · intro wq hSw; (try dsimp only at hSw); go_simp; (try with_reducible rfl)
            simp only [List.set_cons_succ, List.set_cons_zero]
            refine Mu.take_some (i := 6) (k := 90) (v := ?_) rfl rfl (by kernel_rfl) (by kernel_rfl) (by kernel_rfl) (fun _ _ _ h => h) (Or.inl ⟨by rfl, ?_⟩) (by assumption) ?_
            rotate_left
            · intro wq hSw; (try dsimp only at hSw); go_simp; (try with_reducible rfl)
            simp only [List.set_cons_succ, List.set_cons_zero]
            refine Mu.take_some (i := 7) (k := 91) (v := ?_) rfl rfl (by kernel_rfl) (by kernel_rfl) (by kernel_rfl) (fun _ _ _ h => h) (Or.inl ⟨by rfl, ?_⟩) (by assumption) ?_
            rotate_left
            · intro wq hSw; (try dsimp only at hSw); go_simp; (try with_reducible rfl)
            simp only [List.set_cons_succ, List.set_cons_zero]
            refine Mu.take_some (i := 8) (k := 92) (v := ?_) rfl rfl (by kernel_rfl) (by kernel_rfl) (by kernel_rfl) (fun _ _ _ h => h) (Or.inl ⟨by rfl, ?_⟩) (by assumption) ?_
            rotate_left
            · intro wq hSw; (try dsimp only at hSw); go_simp; (try with_reducible rfl)
            simp only [List.set_cons_succ, List.set_cons_zero]
            refine Mu.take_some (i := 9) (k := 93) (v := ?_) rfl rfl (by kernel_rfl) (by kernel_rfl) (by kernel_rfl) (fun _ _ _ h => h) (Or.inl ⟨by rfl, ?_⟩) (by assumption) ?_
            rotate_left
            · intro wq hSw; (try dsimp only at hSw); go_simp; (try with_reducible rfl)
            simp only [List.set_cons_succ, List.set_cons_zero]
            refine Mu.take_some (i := 10) (k := 94) (v := ?_) rfl rfl (by kernel_rfl) (by kernel_rfl) (by kernel_rfl) (fun _ _ _ h => h) (Or.inl ⟨by rfl, ?_⟩) (by assumption) ?_
            rotate_left
            · intro wq hSw; (try dsimp only at hSw); go_simp; (try with_reducible rfl)
            simp only [List.set_cons_succ, List.set_cons_zero]
            refine Mu.take_some (i := 11) (k := 95) (v := ?_) rfl rfl (by kernel_rfl) (by kernel_rfl) (by kernel_rfl) (fun _ _ _ h => h) (Or.inl ⟨by rfl, ?_⟩) (by assumption) ?_
            rotate_left
            · intro wq hSw; (try dsimp only at hSw); go_simp; (try with_reducible rfl)
            simp only [List.set_cons_succ, List.set_cons_zero]
            refine Mu.take_some (i := 12) (k := 96) (v := ?_) rfl rfl (by kernel_rfl) (by kernel_rfl) (by kernel_rfl) (fun _ _ _ h => h) (Or.inl ⟨by rfl, ?_⟩) (by assumption) ?_
            rotate_left
            · intro wq hSw; (try dsimp only at hSw); go_simp; (try with_reducible rfl)
            simp only [List.set_cons_succ, List.set_cons_zero]
            refine Mu.take_some (i := 13) (k := 97) (v := ?_) rfl rfl (by kernel_rfl) (by kernel_rfl) (by kernel_rfl) (fun _ _ _ h => h) (Or.inl ⟨by rfl, ?_⟩) (by assumption) ?_
            rotate_left
            · intro wq hSw; (try dsimp only at hSw); go_simp; (try with_reducible rfl)
            simp only [List.set_cons_succ, List.set_cons_zero]
            refine Mu.take_some (i := 14) (k := 98) (v := ?_) rfl rfl (by kernel_rfl) (by kernel_rfl) (by kernel_rfl) (fun _ _ _ h => h) (Or.inl ⟨by rfl, ?_⟩) (by assumption) ?_
            rotate_left
            · intro wq hSw; (try dsimp only at hSw); go_simp; (try with_reducible rfl)
            simp only [List.set_cons_succ, List.set_cons_zero]
            refine Mu.take_some (i := 15) (k := 99) (v := ?_) rfl rfl (by kernel_rfl) (by kernel_rfl) (by kernel_rfl) (fun _ _ _ h => h) (Or.inl ⟨by rfl, ?_⟩) (by assumption) ?_
            rotate_left
            · intro wq hSw; (try dsimp only at hSw); go_simp; (try with_reducible rfl)
            simp only [List.set_cons_succ, List.set_cons_zero]
            refine Mu.take_some (i := 16) (k := 100) (v := ?_) rfl rfl (by kernel_rfl) (by kernel_rfl) (by kernel_rfl) (fun _ _ _ h => h) (Or.inl ⟨by rfl, ?_⟩) (by assumption) ?_
            rotate_left
            · intro wq hSw; (try dsimp only at hSw); go_simp; (try with_reducible rfl)
            simp only [List.set_cons_succ, List.set_cons_zero]
            refine Mu.take_some (i := 17) (k := 101) (v := ?_) rfl rfl (by kernel_rfl) (by kernel_rfl) (by kernel_rfl) (fun _ _ _ h => h) (Or.inl ⟨by rfl, ?_⟩) (by assumption) ?_
            rotate_left
            · intro wq hSw; (try dsimp only at hSw); go_simp; (try with_reducible rfl)
            simp only [List.set_cons_succ, List.set_cons_zero]
            refine Mu.take_some (i := 18) (k := 102) (v := ?_) rfl rfl (by kernel_rfl) (by kernel_rfl) (by kernel_rfl) (fun _ _ _ h => h) (Or.inl ⟨by rfl, ?_⟩) (by assumption) ?_
            rotate_left
            · intro wq hSw; (try dsimp only at hSw); go_simp; (try with_reducible rfl)
            simp only [List.set_cons_succ, List.set_cons_zero]
            refine Mu.take_some (i := 19) (k := 103) (v := ?_) rfl rfl (by kernel_rfl) (by kernel_rfl) (by kernel_rfl) (fun _ _ _ h => h) (Or.inl ⟨by rfl, ?_⟩) (by assumption) ?_
            rotate_left
            · intro wq hSw; (try dsimp only at hSw); go_simp; (try with_reducible rfl)
            simp only [List.set_cons_succ, List.set_cons_zero]
            refine Mu.take_some (i := 20) (k := 104) (v := ?_) rfl rfl (by kernel_rfl) (by kernel_rfl) (by kernel_rfl) (fun _ _ _ h => h) (Or.inl ⟨by rfl, ?_⟩) (by assumption) ?_
            rotate_left
            · intro wq hSw; (try dsimp only at hSw); go_simp; (try with_reducible rfl)
            simp only [List.set_cons_succ, List.set_cons_zero]
            refine Mu.take_some (i := 21) (k := 105) (v := ?_) rfl rfl (by kernel_rfl) (by kernel_rfl) (by kernel_rfl) (fun _ _ _ h => h) (Or.inl ⟨by rfl, ?_⟩) (by assumption) ?_
            rotate_left
            · intro wq hSw; (try dsimp only at hSw); go_simp; (try with_reducible rfl)
            simp only [List.set_cons_succ, List.set_cons_zero]
            refine Mu.take_some (i := 22) (k := 106) (v := ?_) rfl rfl (by kernel_rfl) (by kernel_rfl) (by kernel_rfl) (fun _ _ _ h => h) (Or.inl ⟨by rfl, ?_⟩) (by assumption) ?_
            rotate_left
            · intro wq hSw; (try dsimp only at hSw); go_simp; (try with_reducible rfl)
            simp only [List.set_cons_succ, List.set_cons_zero]
            refine Mu.take_some (i := 23) (k := 107) (v := ?_) rfl rfl (by kernel_rfl) (by kernel_rfl) (by kernel_rfl) (fun _ _ _ h => h) (Or.inl ⟨by rfl, ?_⟩) (by assumption) ?_
            rotate_left
            · intro wq hSw; (try dsimp only at hSw); go_simp; (try with_reducible rfl)
            simp only [List.set_cons_succ, List.set_cons_zero]
            refine Mu.take_some (i := 24) (k := 108) (v := ?_) rfl rfl (by kernel_rfl) (by kernel_rfl) (by kernel_rfl) (fun _ _ _ h => h) (Or.inl ⟨by rfl, ?_⟩) (by assumption) ?_
            rotate_left
            · intro wq hSw; (try dsimp only at hSw); go_simp; (try with_reducible rfl)
            simp only [List.set_cons_succ, List.set_cons_zero]
            refine Mu.take_some (i := 25) (k := 109) (v := ?_) rfl rfl (by kernel_rfl) (by kernel_rfl) (by kernel_rfl) (fun _ _ _ h => h) (Or.inl ⟨by rfl, ?_⟩) (by assumption) ?_
            rotate_left
            · intro wq hSw; (try dsimp only at hSw); go_simp; (try with_reducible rfl)
            simp only [List.set_cons_succ, List.set_cons_zero]
            refine Mu.take_some (i := 26) (k := 110) (v := ?_) rfl rfl (by kernel_rfl) (by kernel_rfl) (by kernel_rfl) (fun _ _ _ h => h) (Or.inl ⟨by rfl, ?_⟩) (by assumption) ?_
            rotate_left
            · intro wq hSw; (try dsimp only at hSw); go_simp; (try with_reducible rfl)
            simp only [List.set_cons_succ, List.set_cons_zero]
            refine Mu.take_some (i := 27) (k := 111) (v := ?_) rfl rfl (by kernel_rfl) (by kernel_rfl) (by kernel_rfl) (fun _ _ _ h => h) (Or.inl ⟨by rfl, ?_⟩) (by assumption) ?_
            rotate_left
            · intro wq hSw; (try dsimp only at hSw); go_simp; (try with_reducible rfl)
            simp only [List.set_cons_succ, List.set_cons_zero]
            refine Mu.take_some (i := 28) (k := 112) (v := ?_) rfl rfl (by kernel_rfl) (by kernel_rfl) (by kernel_rfl) (fun _ _ _ h => h) (Or.inl ⟨by rfl, ?_⟩) (by assumption) ?_
            rotate_left
            · intro wq hSw; (try dsimp only at hSw); go_simp; (try with_reducible rfl)
            simp only [List.set_cons_succ, List.set_cons_zero]
            refine Mu.take_some (i := 29) (k := 113) (v := ?_) rfl rfl (by kernel_rfl) (by kernel_rfl) (by kernel_rfl) (fun _ _ _ h => h) (Or.inl ⟨by rfl, ?_⟩) (by assumption) ?_
            rotate_left
            · intro wq hSw; (try dsimp only at hSw); go_simp; (try with_reducible rfl)
            simp only [List.set_cons_succ, List.set_cons_zero]
            refine Mu.take_some (i := 30) (k := 114) (v := ?_) rfl rfl (by kernel_rfl) (by kernel_rfl) (by kernel_rfl) (fun _ _ _ h => h) (Or.inl ⟨by rfl, ?_⟩) (by assumption) ?_
            rotate_left
            · intro wq hSw; (try dsimp only at hSw); go_simp; (try with_reducible rfl)
            simp only [List.set_cons_succ, List.set_cons_zero]
            refine Mu.take_some (i := 31) (k := 115) (v := ?_) rfl rfl (by kernel_rfl) (by kernel_rfl) (by kernel_rfl) (fun _ _ _ h => h) (Or.inl ⟨by rfl, ?_⟩) (by assumption) ?_
            rotate_left
            · intro wq hSw; (try dsimp only at hSw); go_simp; (try with_reducible rfl)
            simp only [List.set_cons_succ, List.set_cons_zero]
            refine wpAnyH_done (by kernel_rfl) ?_ _
            clear hHeld
            gi_wp2
            exact HND.out
          · have g4 : (di == d) = false := by rw [beq_eq_false_iff_ne]; exact hq
            have g5 : decide (d < di) = false := by simp; omega
            clear hij hq hdi
            refine Mu.region_round (S := fun w' => w'.cell? ⟨b, 0, none⟩ = some (.int .i64 (j : Int)) ∧ w'.cell? ⟨wr.heap.size + 1 + 1, 0, none⟩ = some (.int .i64 (i : Int)) ∧ w'.cell? ⟨w2.heap.size, i, none⟩ = some (.int .i64 di) ∧ w'.cell? ⟨w2.heap.size, j, none⟩ = some (.int .i64 d)) (by kernel_rfl) ?_ ?_ ?_ (fun hHeld => ?_)
            · rintro ⟨a, w', h⟩; exact h
            · intro o ho c hc; simp at ho; rcases ho with rfl | rfl | rfl | rfl | rfl | rfl | rfl | rfl | rfl | rfl | rfl | rfl | rfl | rfl | rfl | rfl | rfl | rfl | rfl | rfl | rfl | rfl | rfl | rfl | rfl | rfl | rfl | rfl | rfl | rfl | rfl | rfl <;> cases hc
            · exact ⟨y0, cL0, cAi, cAj⟩
            refine Mu.take_some (i := 0) (k := 84) (v := ?_) rfl rfl (by kernel_rfl) (by kernel_rfl) (by kernel_rfl) (fun _ _ _ h => h) (Or.inl ⟨by rfl, ?_⟩) (by assumption) ?_
            rotate_left
            · intro wq hSw; (try dsimp only at hSw); go_simp; (try with_reducible rfl)
            simp only [List.set_cons_succ, List.set_cons_zero]
            refine Mu.take_some (i := 1) (k := 85) (v := ?_) rfl rfl (by kernel_rfl) (by kernel_rfl) (by kernel_rfl) (fun _ _ _ h => h) (Or.inl ⟨by rfl, ?_⟩) (by assumption) ?_
            rotate_left
            · intro wq hSw; (try dsimp only at hSw); go_simp; (try with_reducible rfl)
            simp only [List.set_cons_succ, List.set_cons_zero]
            refine Mu.take_some (i := 2) (k := 86) (v := ?_) rfl rfl (by kernel_rfl) (by kernel_rfl) (by kernel_rfl) (fun _ _ _ h => h) (Or.inl ⟨by rfl, ?_⟩) (by assumption) ?_
            rotate_left
            · intro wq hSw; (try dsimp only at hSw); go_simp; (try with_reducible rfl)
            simp only [List.set_cons_succ, List.set_cons_zero]
            refine Mu.take_some (i := 3) (k := 87) (v := ?_) rfl rfl (by kernel_rfl) (by kernel_rfl) (by kernel_rfl) (fun _ _ _ h => h) (Or.inl ⟨by rfl, ?_⟩) (by assumption) ?_
            rotate_left
            · intro wq hSw; (try dsimp only at hSw); go_simp; (try with_reducible rfl)
            simp only [List.set_cons_succ, List.set_cons_zero]
            refine Mu.take_some (i := 4) (k := 88) (v := ?_) rfl rfl (by kernel_rfl) (by kernel_rfl) (by kernel_rfl) (fun _ _ _ h => h) (Or.inl ⟨by rfl, ?_⟩) (by assumption) ?_
            rotate_left
            · intro wq hSw; (try dsimp only at hSw); go_simp; (try with_reducible rfl)
            simp only [List.set_cons_succ, List.set_cons_zero]
            refine Mu.take_some (i := 5) (k := 89) (v := ?_) rfl rfl (by kernel_rfl) (by kernel_rfl) (by kernel_rfl) (fun _ _ _ h => h) (Or.inl ⟨by rfl, ?_⟩) (by assumption) ?_
            rotate_left
            · intro wq hSw; (try dsimp only at hSw); go_simp; (try with_reducible rfl)
            simp only [List.set_cons_succ, List.set_cons_zero]
            refine Mu.take_some (i := 6) (k := 90) (v := ?_) rfl rfl (by kernel_rfl) (by kernel_rfl) (by kernel_rfl) (fun _ _ _ h => h) (Or.inl ⟨by rfl, ?_⟩) (by assumption) ?_
            rotate_left
            · intro wq hSw; (try dsimp only at hSw); go_simp; (try with_reducible rfl)
            simp only [List.set_cons_succ, List.set_cons_zero]
            refine Mu.take_some (i := 7) (k := 91) (v := ?_) rfl rfl (by kernel_rfl) (by kernel_rfl) (by kernel_rfl) (fun _ _ _ h => h) (Or.inl ⟨by rfl, ?_⟩) (by assumption) ?_
            rotate_left
            · intro wq hSw; (try dsimp only at hSw); go_simp; (try with_reducible rfl)
            simp only [List.set_cons_succ, List.set_cons_zero]
            refine Mu.take_some (i := 8) (k := 92) (v := ?_) rfl rfl (by kernel_rfl) (by kernel_rfl) (by kernel_rfl) (fun _ _ _ h => h) (Or.inl ⟨by rfl, ?_⟩) (by assumption) ?_
            rotate_left
            · intro wq hSw; (try dsimp only at hSw); go_simp; (try with_reducible rfl)
            simp only [List.set_cons_succ, List.set_cons_zero]
            refine Mu.take_some (i := 9) (k := 93) (v := ?_) rfl rfl (by kernel_rfl) (by kernel_rfl) (by kernel_rfl) (fun _ _ _ h => h) (Or.inl ⟨by rfl, ?_⟩) (by assumption) ?_
            rotate_left
            · intro wq hSw; (try dsimp only at hSw); go_simp; (try with_reducible rfl)
            simp only [List.set_cons_succ, List.set_cons_zero]
            refine Mu.take_some (i := 10) (k := 94) (v := ?_) rfl rfl (by kernel_rfl) (by kernel_rfl) (by kernel_rfl) (fun _ _ _ h => h) (Or.inl ⟨by rfl, ?_⟩) (by assumption) ?_
            rotate_left
            · intro wq hSw; (try dsimp only at hSw); go_simp; (try with_reducible rfl)
            simp only [List.set_cons_succ, List.set_cons_zero]
            refine Mu.take_some (i := 11) (k := 95) (v := ?_) rfl rfl (by kernel_rfl) (by kernel_rfl) (by kernel_rfl) (fun _ _ _ h => h) (Or.inl ⟨by rfl, ?_⟩) (by assumption) ?_
            rotate_left
            · intro wq hSw; (try dsimp only at hSw); go_simp; (try with_reducible rfl)
            simp only [List.set_cons_succ, List.set_cons_zero]
            refine Mu.take_some (i := 12) (k := 96) (v := ?_) rfl rfl (by kernel_rfl) (by kernel_rfl) (by kernel_rfl) (fun _ _ _ h => h) (Or.inl ⟨by rfl, ?_⟩) (by assumption) ?_
            rotate_left
            · intro wq hSw; (try dsimp only at hSw); go_simp; (try with_reducible rfl)
            simp only [List.set_cons_succ, List.set_cons_zero]
            refine Mu.take_some (i := 13) (k := 97) (v := ?_) rfl rfl (by kernel_rfl) (by kernel_rfl) (by kernel_rfl) (fun _ _ _ h => h) (Or.inl ⟨by rfl, ?_⟩) (by assumption) ?_
            rotate_left
            · intro wq hSw; (try dsimp only at hSw); go_simp; (try with_reducible rfl)
            simp only [List.set_cons_succ, List.set_cons_zero]
            refine Mu.take_some (i := 14) (k := 98) (v := ?_) rfl rfl (by kernel_rfl) (by kernel_rfl) (by kernel_rfl) (fun _ _ _ h => h) (Or.inl ⟨by rfl, ?_⟩) (by assumption) ?_
            rotate_left
            · intro wq hSw; (try dsimp only at hSw); go_simp; (try with_reducible rfl)
            simp only [List.set_cons_succ, List.set_cons_zero]
            refine Mu.take_some (i := 15) (k := 99) (v := ?_) rfl rfl (by kernel_rfl) (by kernel_rfl) (by kernel_rfl) (fun _ _ _ h => h) (Or.inl ⟨by rfl, ?_⟩) (by assumption) ?_
            rotate_left
            · intro wq hSw; (try dsimp only at hSw); go_simp; (try with_reducible rfl)
            simp only [List.set_cons_succ, List.set_cons_zero]
            refine Mu.take_some (i := 16) (k := 100) (v := ?_) rfl rfl (by kernel_rfl) (by kernel_rfl) (by kernel_rfl) (fun _ _ _ h => h) (Or.inl ⟨by rfl, ?_⟩) (by assumption) ?_
            rotate_left
            · intro wq hSw; (try dsimp only at hSw); go_simp; (try with_reducible rfl)
            simp only [List.set_cons_succ, List.set_cons_zero]
            refine Mu.take_some (i := 17) (k := 101) (v := ?_) rfl rfl (by kernel_rfl) (by kernel_rfl) (by kernel_rfl) (fun _ _ _ h => h) (Or.inl ⟨by rfl, ?_⟩) (by assumption) ?_
            rotate_left
            · intro wq hSw; (try dsimp only at hSw); go_simp; (try with_reducible rfl)
            simp only [List.set_cons_succ, List.set_cons_zero]
            refine Mu.take_some (i := 18) (k := 102) (v := ?_) rfl rfl (by kernel_rfl) (by kernel_rfl) (by kernel_rfl) (fun _ _ _ h => h) (Or.inl ⟨by rfl, ?_⟩) (by assumption) ?_
            rotate_left
            · intro wq hSw; (try dsimp only at hSw); go_simp; (try with_reducible rfl)
            simp only [List.set_cons_succ, List.set_cons_zero]
            refine Mu.take_some (i := 19) (k := 103) (v := ?_) rfl rfl (by kernel_rfl) (by kernel_rfl) (by kernel_rfl) (fun _ _ _ h => h) (Or.inl ⟨by rfl, ?_⟩) (by assumption) ?_
            rotate_left
            · intro wq hSw; (try dsimp only at hSw); go_simp; (try with_reducible rfl)
            simp only [List.set_cons_succ, List.set_cons_zero]
            refine Mu.take_some (i := 20) (k := 104) (v := ?_) rfl rfl (by kernel_rfl) (by kernel_rfl) (by kernel_rfl) (fun _ _ _ h => h) (Or.inl ⟨by rfl, ?_⟩) (by assumption) ?_
            rotate_left
            · intro wq hSw; (try dsimp only at hSw); go_simp; (try with_reducible rfl)
            simp only [List.set_cons_succ, List.set_cons_zero]
            refine Mu.take_some (i := 21) (k := 105) (v := ?_) rfl rfl (by kernel_rfl) (by kernel_rfl) (by kernel_rfl) (fun _ _ _ h => h) (Or.inl ⟨by rfl, ?_⟩) (by assumption) ?_
            rotate_left
            · intro wq hSw; (try dsimp only at hSw); go_simp; (try with_reducible rfl)
            simp only [List.set_cons_succ, List.set_cons_zero]
            refine Mu.take_some (i := 22) (k := 106) (v := ?_) rfl rfl (by kernel_rfl) (by kernel_rfl) (by kernel_rfl) (fun _ _ _ h => h) (Or.inl ⟨by rfl, ?_⟩) (by assumption) ?_
            rotate_left
            · intro wq hSw; (try dsimp only at hSw); go_simp; (try with_reducible rfl)
            simp only [List.set_cons_succ, List.set_cons_zero]
            refine Mu.take_some (i := 23) (k := 107) (v := ?_) rfl rfl (by kernel_rfl) (by kernel_rfl) (by kernel_rfl) (fun _ _ _ h => h) (Or.inl ⟨by rfl, ?_⟩) (by assumption) ?_
            rotate_left
            · intro wq hSw; (try dsimp only at hSw); go_simp; (try with_reducible rfl)
            simp only [List.set_cons_succ, List.set_cons_zero]
            refine Mu.take_some (i := 24) (k := 108) (v := undef) rfl rfl (by kernel_rfl) (by kernel_rfl) (by kernel_rfl) (fun _ _ _ h => h) (Or.inr ⟨by rfl, rfl⟩) (by assumption) ?_
            simp only [List.set_cons_succ, List.set_cons_zero]
            refine Mu.take_some (i := 25) (k := 109) (v := undef) rfl rfl (by kernel_rfl) (by kernel_rfl) (by kernel_rfl) (fun _ _ _ h => h) (Or.inr ⟨by rfl, rfl⟩) (by assumption) ?_
            simp only [List.set_cons_succ, List.set_cons_zero]
            refine Mu.take_some (i := 26) (k := 110) (v := undef) rfl rfl (by kernel_rfl) (by kernel_rfl) (by kernel_rfl) (fun _ _ _ h => h) (Or.inr ⟨by rfl, rfl⟩) (by assumption) ?_
            simp only [List.set_cons_succ, List.set_cons_zero]
            refine Mu.take_some (i := 27) (k := 111) (v := undef) rfl rfl (by kernel_rfl) (by kernel_rfl) (by kernel_rfl) (fun _ _ _ h => h) (Or.inr ⟨by rfl, rfl⟩) (by assumption) ?_
            simp only [List.set_cons_succ, List.set_cons_zero]
            refine Mu.take_some (i := 28) (k := 112) (v := undef) rfl rfl (by kernel_rfl) (by kernel_rfl) (by kernel_rfl) (fun _ _ _ h => h) (Or.inr ⟨by rfl, rfl⟩) (by assumption) ?_
            simp only [List.set_cons_succ, List.set_cons_zero]
            refine Mu.take_some (i := 29) (k := 113) (v := ?_) rfl rfl (by kernel_rfl) (by kernel_rfl) (by kernel_rfl) (fun _ _ _ h => h) (Or.inl ⟨by rfl, ?_⟩) (by assumption) ?_
            rotate_left
            · intro wq hSw; (try dsimp only at hSw); go_simp; (try with_reducible rfl)
            simp only [List.set_cons_succ, List.set_cons_zero]
            refine Mu.take_some (i := 30) (k := 114) (v := ?_) rfl rfl (by kernel_rfl) (by kernel_rfl) (by kernel_rfl) (fun _ _ _ h => h) (Or.inl ⟨by rfl, ?_⟩) (by assumption) ?_
            rotate_left
            · intro wq hSw; (try dsimp only at hSw); go_simp; (try with_reducible rfl)
            simp only [List.set_cons_succ, List.set_cons_zero]
            refine Mu.take_some (i := 31) (k := 115) (v := ?_) rfl rfl (by kernel_rfl) (by kernel_rfl) (by kernel_rfl) (fun _ _ _ h => h) (Or.inl ⟨by rfl, ?_⟩) (by assumption) ?_
            rotate_left
            · intro wq hSw; (try dsimp only at hSw); go_simp; (try with_reducible rfl)
            simp only [List.set_cons_succ, List.set_cons_zero]
            refine wpAnyH_done (by kernel_rfl) ?_ _
            clear hHeld
            gi_wp2
            exact HND.out
      case done =>
        obtain ⟨wq, rfl⟩ : ∃ wq : World, wq = wr := ⟨_, rfl⟩
        rintro Dd xs W hDd ⟨F', N', hxl, hor, hrest⟩ hK
        obtain ⟨k, hk0⟩ : ∃ k, k = xs.length := ⟨_, rfl⟩
        rw [← hk0] at hxl hor hrest
        have hp := hor.place
        have hSl := part_len HE2.out
        have hend : ∀ z, z < m → outF S k z = decide (dl ps z ≤ now) := fun z hz => outF_end HE2.out hxl now hor.early hrest hz
        have oO := hor.box _ (show (wq.heap.size, _) ∈ obox w.heap.size w2.heap.size wq.heap.size E now m (dl ps) S k by unfold obox; exact List.mem_cons_self)
        have oC : W.heap[wq.heap.size + 1 ]? = some (.cells #[.int .i64 (k : Int)] 3 (0, 0)) := hor.box (wq.heap.size + 1, _) (by simp [obox])
        have oZ : W.heap[w.heap.size]? = some (.cells #[.int .i64 now] 3 (0, 0)) := hor.box (w.heap.size, _) (by simp [obox])
        have oA : W.heap[w2.heap.size]? = some (.cells (arr 32 (atV (dl ps) 0 m)) 49 (0, 0)) := hor.box (w2.heap.size, _) (by simp [obox])
        have oN : W.heap[w2.heap.size + 1]? = some (.cells #[.int .i64 (m : Int)] 3 (0, 0)) := hor.box (w2.heap.size + 1, _) (by simp [obox])
        have oR : W.heap[w.heap.size + 1]? = some (.cells #[.bool false] 4 (0, 0)) := hor.box (w.heap.size + 1, _) (by simp [obox])
        have cO : ∀ z, z < m → W.cell? ⟨wq.heap.size, z, none⟩ = some (.bool (decide (dl ps z ≤ now))) := fun z hz => by rw [block_cell oO, arr_at (by have := HM.out; omega), hend z hz]
        have cZ : W.cell? ⟨w.heap.size, 0, none⟩ = some (.int .i64 now) := by rw [block_cell oZ]; rfl
        have cA : ∀ z, z < m → W.cell? ⟨w2.heap.size, z, none⟩ = some (.int .i64 (dl ps z)) := fun z hz => by rw [block_cell oA, arr_at (by have := HM.out; omega)]; unfold atV; rw [if_pos (by omega)]
        have cN : W.cell? ⟨w2.heap.size + 1, 0, none⟩ = some (.int .i64 (m : Int)) := by rw [block_cell oN]; rfl
        obtain ⟨w7, hw7⟩ : ∃ w7, w7 = W.alloc (.cells #[.int .i64 0] 3) := ⟨_, rfl⟩
        have hb7 : Below W.heap.size W w7 := by rw [hw7]; exact (Below.refl _ _).alloc (Nat.le_refl _) _
        have o7 : w7.heap[W.heap.size]? = some (.cells #[.int .i64 0] 3 (0, 0)) := by rw [hw7]; exact Ut.alloc_at _ _
        have hw7s : w7.heap.size = W.heap.size + 1 := by rw [hw7]; simp
        have HCO := Lib.hid (fun z (hz : z < m) => (hb7.cell (p := ⟨wq.heap.size, z, none⟩) (World.block_lt_of_cell? W _ (cO z hz))).trans (cO z hz))
        have HCA := Lib.hid (fun z (hz : z < m) => (hb7.cell (p := ⟨w2.heap.size, z, none⟩) (World.block_lt_of_cell? W _ (cA z hz))).trans (cA z hz))
        have HCZ := Lib.hid ((hb7.cell (p := ⟨w.heap.size, 0, none⟩) (World.block_lt_of_cell? W _ cZ)).trans cZ)
        have HCN := Lib.hid ((hb7.cell (p := ⟨w2.heap.size + 1, 0, none⟩) (World.block_lt_of_cell? W _ cN)).trans cN)
        have HOR := Lib.hid hor; have HK := Lib.hid hK; have HB7 := Lib.hid hb7; have HO7 := Lib.hid o7; have HS7 := Lib.hid hw7s; have HXL := Lib.hid hxl; have HRE := Lib.hid hrest; have HDD := Lib.hid hDd; have HP := Lib.hid hp; have HSL := Lib.hid hSl
        have HOC := Lib.hid oC; have HON := Lib.hid oN; have HOR2 := Lib.hid oR; have HK0 := Lib.hid hk0
        clear hor hK hb7 o7 hw7s hxl hrest hDd hp hSl hend oO oC oZ oA oN oR cO cZ cA cN hk0
        go_wp2_with fail
        rw [← hw7]
        have HW7 := Lib.hid hw7
        clear hw7
        go_loopw [14] (fun i wr => ∃ z : Nat, z ≤ m ∧ i = .int .i64 z ∧ Below w7.heap.size w7 wr) (fun i _ => m - (intOf i).toNat)
        case atStart => exact ⟨0, Nat.zero_le _, rfl, Below.refl _ _⟩
        case round =>
          obtain ⟨z, hz, rfl, hbz⟩ := hrel
          have cN2 := (hbz.cell (p := ⟨w2.heap.size + 1, 0, none⟩) (World.block_lt_of_cell? w7 _ HCN.out)).trans HCN.out
          have HBZ := Lib.hid hbz
          by_cases hzm : z < m
          · have cO2 := (hbz.cell (p := ⟨wq.heap.size, z, none⟩) (World.block_lt_of_cell? w7 _ (HCO.out z hzm))).trans (HCO.out z hzm)
            have cA2 := (hbz.cell (p := ⟨w2.heap.size, z, none⟩) (World.block_lt_of_cell? w7 _ (HCA.out z hzm))).trans (HCA.out z hzm)
            have cZ2 := (hbz.cell (p := ⟨w.heap.size, 0, none⟩) (World.block_lt_of_cell? w7 _ HCZ.out)).trans HCZ.out
            have b1 : (0 : Int) ≤ (z : Int) := by omega
            have b2 : (z : Int) < (m : Int) := by omega
            have b3 : (z : Int) < 32 := by have := HM.out; omega
            have b4 : z < m := hzm
            obtain ⟨d, hd⟩ : ∃ d, d = dl ps z := ⟨_, rfl⟩
            rw [← hd] at cO2 cA2
            have hq : (decide (d ≤ now) != decide (d ≤ now)) = false := by simp
            clear hd hbz hz hzm
            go_wp2_with fail
            go_quiet (fail)
            go_wp2
            go_roundw
            case rel => exact ⟨z + 1, by omega, by go_num, Ut.below_drewN HBZ.out _⟩
            case measure => simp [intOf]; omega
          · have b2 : (m : Int) ≤ (z : Int) := by omega
            have b3 : decide (z < m) = false := by simp; omega
            have b4 : m ≤ z := by omega
            have hb2 := HB7.out.trans (hbz.mono HB7.out.size)
            have HXE := Lib.hid (HOR.out.below hb2)
            have HNX := Lib.hid (enext_any w1.heap.size E _ (S.drop k) F' wr HXE.out.exp)
            have HB2 := Lib.hid hb2
            clear hbz hz hzm hb2
            go_wp2_with fail
            refine HNX.out.mono ?_
            rintro e w8 ⟨rfl, hb8⟩
            have hb78 := HB2.out.trans (hb8.mono HB2.out.size)
            have HX8 := Lib.hid (HXE.out.below hb8)
            have HK8 := Lib.hid ((hb78.block _ (Array.getElem?_eq_some_iff.1 HK.out).1).trans HK.out)
            have HOC8 := Lib.hid ((hb78.block _ (Array.getElem?_eq_some_iff.1 HOC.out).1).trans HOC.out)
            have HON8 := Lib.hid ((hb78.block _ (Array.getElem?_eq_some_iff.1 HON.out).1).trans HON.out)
            have HOR8 := Lib.hid ((hb78.block _ (Array.getElem?_eq_some_iff.1 HOR2.out).1).trans HOR2.out)
            have hb78' := HBZ.out.trans (hb8.mono HBZ.out.size)
            have HO8 := Lib.hid ((hb78'.block _ (Array.getElem?_eq_some_iff.1 HO7.out).1).trans HO7.out)
            have HB8 := Lib.hid hb78
            have HDU2 := Lib.hid (fun w' => edue_any E 1099511627776 w')
            have cZ8 := block_cell (HX8.out.box (w.heap.size, .cells #[.int .i64 now] 3 (0, 0)) (by simp [obox])) 0
            have cZ8' : w8.cell? ⟨w.heap.size, 0, none⟩ = some (.int .i64 now) := cZ8
            have hcase : ((!(S.drop k).isEmpty) = false ∧ S.length = k) ∨ ((!(S.drop k).isEmpty) = true ∧ decide (nextV (S.drop k) ≤ now) = false ∧ k < S.length) := by
              rcases HRE.out with hdr | ⟨ee, tt, hdr, hlt⟩
              · have h1 := congrArg List.length hdr
                simp at h1
                have := HXL.out
                exact .inl ⟨by rw [hdr]; rfl, by omega⟩
              · have h1 := congrArg List.length hdr
                simp at h1
                exact .inr ⟨by rw [hdr]; rfl, by rw [hdr]; exact decide_eq_false (by show ¬ ee.2.2 ≤ now; omega), by omega⟩
            obtain ⟨nv, hnv⟩ : ∃ nv, nv = nextV (S.drop k) := ⟨_, rfl⟩
            obtain ⟨qq, hqq⟩ : ∃ qq, qq = (!(S.drop k).isEmpty) := ⟨_, rfl⟩
            rw [← hnv, ← hqq] at hcase
            rw [← hnv, ← hqq]
            clear hnv hqq hb8 hb78 hb78' cZ8
            have hqk : qq = decide (k < S.length) := by
              rcases hcase with h | h
              · rw [h.1]; simp; omega
              · rw [h.1]; simp; exact h.2.2
            have HQK := Lib.hid hqk
            have hc2 : qq = false ∨ (qq = true ∧ decide (nv ≤ now) = false) := by
              rcases hcase with h | h
              · exact .inl h.1
              · exact .inr ⟨h.1, h.2.1⟩
            clear hcase hqk
            have hMx : ∀ e ∈ S, e.2.2 ≤ 1099511627776 := fun e he => by
              obtain ⟨j, -, -, rfl⟩ := part_mem HE2.out he
              exact (dl_range ps j).2
            have HMX := Lib.hid hMx
            clear hMx
            rcases hc2 with rfl | ⟨rfl, hnd⟩
            · go_wp2_with fail
              refine (HDU2.out _).mono ?_
              rintro e w9 ⟨rfl, hw9⟩
              clear cZ8'
              go_wp2_with fail
              rw [← hw9]
              have hs9 : w9.heap.size = w8.heap.size + 2 := by rw [hw9]; simp
              have hst9 : RU w1.heap.size E w w9 Dd (w.heap.size + 1) (w2.heap.size + 1) (wq.heap.size + 1) W.heap.size w8.heap.size m k S [] w9 := by
                have hb9 : Below w8.heap.size w8 w9 := by rw [hw9]; exact ((Below.refl _ _).alloc (Nat.le_refl _) _).alloc (by simp) _
                have hl9 : Lies [(w8.heap.size + 1, .cells #[.int .i64 1099511627776] 3 (0, 0)), (w8.heap.size, .cells #[.pointer (some ⟨E, 0, none⟩)] 47 (0, 0))] w9 := by
                  have := ((Lies.nil w8).alloc (.cells #[.pointer (some ⟨E, 0, none⟩)] 47)).alloc (.cells #[.int .i64 1099511627776] 3)
                  rw [hw9]; simpa using this
                have hp := HX8.out.place
                have hd1 := HDD.out
                have hd2 := (Array.getElem?_eq_some_iff.1 HK8.out).1
                have hW := HB8.out.size
                have hw7 := HS7.out
                have hw6 := HS6.out
                have h78 : W.heap.size < w8.heap.size := (Array.getElem?_eq_some_iff.1 HO8.out).1
                have hor := HOR.out.size
                have hs1 := HS1.out
                have bl : ∀ b (o : Obj), w8.heap[b]? = some o → w9.heap[b]? = some o := fun b o h => (hb9.block b (Array.getElem?_eq_some_iff.1 h).1).trans h
                have hfar : ∀ j, rIn (w.heap.size + 1) (w2.heap.size + 1) (wq.heap.size + 1) W.heap.size w8.heap.size j → ¬ F' j := fun j hj hf => by
                  have h1 := (HOR.out.exp.lt j hf).2
                  unfold rIn at hj
                  rcases hj with rfl | rfl | rfl | rfl | rfl | rfl
                  · omega
                  · exact HOR.out.far _ (by unfold inBox; simp) hf
                  · exact HOR.out.far _ (by unfold inBox; simp) hf
                  · exact HOR.out.far _ (by unfold inBox; simp) hf
                  · omega
                  · omega
                refine ⟨F', N', by simpa using HXL.out, ⟨HX8.out.exp.below hb9, fun p hp2 => ?_, hfar, bl _ _ HK8.out, HX8.out.bel.trans (hb9.mono HX8.out.bel.size), Nat.le_refl _, ⟨fun j hj => ?_, ⟨by omega, by omega, by omega, by omega, by omega⟩, by omega, by omega, by omega, by omega, by omega⟩⟩⟩
                · simp only [rbox, List.length_nil, List.mem_cons, List.not_mem_nil, or_false] at hp2
                  rcases hp2 with rfl | rfl | rfl | rfl | rfl | rfl
                  · exact bl _ _ HO8.out
                  · exact bl _ _ HOR8.out
                  · exact bl _ _ HON8.out
                  · exact bl _ _ HOC8.out
                  · exact hl9 _ (by simp)
                  · exact hl9 _ (by simp)
                · unfold rIn at hj
                  omega
              have HST9 := Lib.hid hst9
              clear hst9 hw9 hs9
              refine (wpIn_wide (n := 8)).1 ?_
              refine Mu.range_mut_sl (F := Fence.wide) rfl (by decide) (gf := 36) (lb := #[.pointer (some ⟨w8.heap.size, 0, none⟩), .pointer (some ⟨w8.heap.size + 1, 0, none⟩)]) rfl trivial (enters_of Try.func36 (by kernel_rfl) rfl)
                (due_seq 7 (by omega) w1.heap.size E w8.heap.size (w8.heap.size + 1) 1099511627776 40) (fun _ => rfl)
                (RU w1.heap.size E w w9 Dd (w.heap.size + 1) (w2.heap.size + 1) (wq.heap.size + 1) W.heap.size w8.heap.size m k S) (RM w1.heap.size E w w9 Dd (w.heap.size + 1) (w2.heap.size + 1) (wq.heap.size + 1) W.heap.size w8.heap.size m k S) (RM2 w1.heap.size E w w9 Dd (w.heap.size + 1) (w2.heap.size + 1) (wq.heap.size + 1) W.heap.size w8.heap.size m k S) (RD w1.heap.size E w w9 Dd (w.heap.size + 1) (w2.heap.size + 1) (wq.heap.size + 1) W.heap.size w8.heap.size m k S) (fun _ _ _ => False)
                rU_own rM2_own rD_own (fun _ _ _ _ _ h _ _ => h) (r_step HE2.out.1 HMX.out) HST9.out
                (fun T y _ => T.setIfInBounds 152 (.agg #[.int .i64 y.1, .int .i64 y.2])) (fun y W => W) rM_lay ?assignA ?bodyA ?doneA (fun _ _ _ _ _ h _ => h.elim)
              case assignA =>
                intro l y W K hK
                gi_wp2
                exact hK
              case bodyA =>
                rintro l pre y b W5 ⟨F5, N5, hk5, hr5⟩
                have hsl := part_len HE2.out
                have hm2 := HM.out
                have cX := block_cell hr5.box.head 0
                have cX' : W5.cell? ⟨W.heap.size, 0, none⟩ = some (.int .i64 (pre.length : Int)) := cX
                have cXf := block_free hr5.box.head 0
                have cN5 := block_cell (hr5.box (w2.heap.size + 1, .cells #[.int .i64 (m : Int)] 3 (0, 0)) (by simp [rbox])) 0
                have cN5' : W5.cell? ⟨w2.heap.size + 1, 0, none⟩ = some (.int .i64 (m : Int)) := cN5
                have dx : ¬ W.heap.size = w2.heap.size + 1 := hr5.place.2.1.2.1
                have HN5 := Lib.hid (r_next (y := y) hr5 hk5)
                have hp5 : (pre.length : Int) + 1 ≤ (m : Int) := by have h1 : k + pre.length < S.length := hk5; omega
                have hp6 : (pre.length : Int) + 1 ≤ 40 := by omega
                clear hk5 hr5 cX cN5 hsl hm2
                simp only [List.setIfInBounds_toArray, List.set_cons_succ, List.set_cons_zero]
                gi_wp2
                exact HN5.out
              case doneA =>
                rintro D2 ys W5 hD2 ⟨F5, N5, hks, hr5⟩ hK5
                have hdr5 : S.drop (k + ys.length) = [] := List.drop_eq_nil_of_le (by omega)
                have hx5 := hr5.exp
                rw [hdr5] at hx5
                have HNX5 := Lib.hid ((enext_any w1.heap.size E _ [] F5 W5 hx5).mono fun e w2 h2 => (h2 : e = .returned (.tuple #[.int .i64 0, .bool false]) ∧ Below W5.heap.size W5 w2))
                obtain ⟨rr, hrr⟩ : ∃ rr, rr = ys.length := ⟨_, rfl⟩
                rw [← hrr] at hks hr5
                have hsl := part_len HE2.out
                have hm2 := HM.out
                have hqk := HQK.out
                have f1 : (k : Int) ≤ (m : Int) := by omega
                have f2 : ((rr : Int) == (m : Int) - (k : Int)) = true := by rw [beq_iff_eq]; omega
                have hr0 : rr = 0 := by
                  have h1 : ¬ k < S.length := fun h => by rw [decide_eq_true h] at hqk; cases hqk
                  omega
                have f3 : decide (0 < rr) = false := by rw [hr0]; rfl
                have f4 : decide ((0 : Int) < (rr : Int)) = false := by rw [hr0]; rfl
                clear hr0
                have HR5 := Lib.hid hr5; have HK5 := Lib.hid hK5; have HD2 := Lib.hid hD2
                clear hr5 hK5 hD2 hx5 hdr5 hks hrr hsl hm2 hqk
                go_wp2_with fail
                refine HNX5.out.mono ?_
                rintro e w10 ⟨rfl, hb10⟩
                have hr10 := HR5.out.below hb10
                have hk10 : w10.heap[D2]? = some (.deferred (some [])) := (hb10.block _ (Array.getElem?_eq_some_iff.1 HK5.out).1).trans HK5.out
                have cX := block_cell hr10.box.head 0
                have cX' : w10.cell? ⟨W.heap.size, 0, none⟩ = some (.int .i64 (rr : Int)) := cX
                have cN5 := block_cell (hr10.box (w2.heap.size + 1, .cells #[.int .i64 (m : Int)] 3 (0, 0)) (by simp [rbox])) 0
                have cN5' : w10.cell? ⟨w2.heap.size + 1, 0, none⟩ = some (.int .i64 (m : Int)) := cN5
                have cC5 := block_cell (hr10.box (wq.heap.size + 1, .cells #[.int .i64 (k : Int)] 3 (0, 0)) (by simp [rbox])) 0
                have cC5' : w10.cell? ⟨wq.heap.size + 1, 0, none⟩ = some (.int .i64 (k : Int)) := cC5
                have oR5 : w10.heap[w.heap.size + 1]? = some (.cells #[.bool false] 4 (0, 0)) := hr10.box (w.heap.size + 1, _) (by simp [rbox])
                have cR5 : w10.cell? ⟨w.heap.size + 1, 0, none⟩ = some (.bool false) := by rw [block_cell oR5]; rfl
                have cR5f := block_free oR5 0
                have HR10 := Lib.hid hr10; have HK10 := Lib.hid hk10; have HOR5 := Lib.hid oR5
                clear hb10 hr10 hk10 cX cN5 cC5 oR5
                go_wp2
                have e1 : (w10.setCell ⟨w.heap.size + 1, 0, none⟩ (.bool true)).heap[w.heap.size + 1]? = some (.cells #[.bool true] 4 (0, 0)) := by
                  rw [heap_setCell_same w10 (w.heap.size + 1) 0 _ _ _ HOR5.out]; rfl
                have hne2 : D2 ≠ w.heap.size + 1 := fun e => by
                  have h1 := HK10.out
                  rw [e, HOR5.out] at h1; cases h1
                have hne1 : Dd ≠ w.heap.size + 1 := fun e => by
                  have h1 := HR10.out.dk
                  rw [e, HOR5.out] at h1; cases h1
                have hD12 : D2 ≠ Dd := by have h1 := HD2.out; have h2 := HR10.out.place.2.2.2.2.2.2; omega
                have k2 : (w10.setCell ⟨w.heap.size + 1, 0, none⟩ (.bool true)).heap[D2]? = some (.deferred (some [])) := (Below.heap_setCell _ _ _ _ hne2).trans HK10.out
                have k1 : (w10.setCell ⟨w.heap.size + 1, 0, none⟩ (.bool true)).heap[Dd]? = some (.deferred (some [])) := (Below.heap_setCell _ _ _ _ hne1).trans HR10.out.dk
                have k1' : ((w10.setCell ⟨w.heap.size + 1, 0, none⟩ (.bool true)).putObj D2 (.deferred none)).heap[Dd]? = some (.deferred (some [])) := (World.putObj_heap_other hD12.symm).trans k1
                refine ⟨by simp, .inl ⟨_, _, rfl, run_takeDeferred k2, ⟨by simp, .inl ⟨_, _, rfl, run_takeDeferred k1', ?_⟩⟩⟩⟩
                have e3 : (((w10.setCell ⟨w.heap.size + 1, 0, none⟩ (.bool true)).putObj D2 (.deferred none)).putObj Dd (.deferred none)).heap[w.heap.size + 1]? = some (.cells #[.bool true] 4 (0, 0)) := (World.putObj_heap_other hne1.symm).trans ((World.putObj_heap_other hne2.symm).trans e1)
                have e4 := block_cell e3 0
                have hbl := HR10.out.bel
                have hpl := HR10.out.place
                have hdw : w.heap.size ≤ Dd := by have h1 := HDD.out; have h2 := HBW6.out.size; omega
                have hdw2 : w.heap.size ≤ D2 := by have h1 := HD2.out; omega
                have hb1 := hbl.setCell (p := ⟨w.heap.size + 1, 0, none⟩) (by show w.heap.size ≤ w.heap.size + 1; omega) (.bool true)
                have hb2 := hb1.grown (grownBy_putObj' _ D2 (.deferred none)) hb1.size (fun j e => by cases e; exact hdw2)
                have hb3 := hb2.grown (grownBy_putObj' _ Dd (.deferred none)) hb2.size (fun j e => by cases e; exact hdw)
                refine ⟨.bool true, by simp only [results, Try.results6]; simp [go_sem, e4], rfl, hb3⟩
            · go_wp2_with fail
              refine (HDU2.out _).mono ?_
              rintro e w9 ⟨rfl, hw9⟩
              clear cZ8'
              go_wp2_with fail
              rw [← hw9]
              have hs9 : w9.heap.size = w8.heap.size + 2 := by rw [hw9]; simp
              have hst9 : RU w1.heap.size E w w9 Dd (w.heap.size + 1) (w2.heap.size + 1) (wq.heap.size + 1) W.heap.size w8.heap.size m k S [] w9 := by
                have hb9 : Below w8.heap.size w8 w9 := by rw [hw9]; exact ((Below.refl _ _).alloc (Nat.le_refl _) _).alloc (by simp) _
                have hl9 : Lies [(w8.heap.size + 1, .cells #[.int .i64 1099511627776] 3 (0, 0)), (w8.heap.size, .cells #[.pointer (some ⟨E, 0, none⟩)] 47 (0, 0))] w9 := by
                  have := ((Lies.nil w8).alloc (.cells #[.pointer (some ⟨E, 0, none⟩)] 47)).alloc (.cells #[.int .i64 1099511627776] 3)
                  rw [hw9]; simpa using this
                have hp := HX8.out.place
                have hd1 := HDD.out
                have hd2 := (Array.getElem?_eq_some_iff.1 HK8.out).1
                have hW := HB8.out.size
                have hw7 := HS7.out
                have hw6 := HS6.out
                have h78 : W.heap.size < w8.heap.size := (Array.getElem?_eq_some_iff.1 HO8.out).1
                have hor := HOR.out.size
                have hs1 := HS1.out
                have bl : ∀ b (o : Obj), w8.heap[b]? = some o → w9.heap[b]? = some o := fun b o h => (hb9.block b (Array.getElem?_eq_some_iff.1 h).1).trans h
                have hfar : ∀ j, rIn (w.heap.size + 1) (w2.heap.size + 1) (wq.heap.size + 1) W.heap.size w8.heap.size j → ¬ F' j := fun j hj hf => by
                  have h1 := (HOR.out.exp.lt j hf).2
                  unfold rIn at hj
                  rcases hj with rfl | rfl | rfl | rfl | rfl | rfl
                  · omega
                  · exact HOR.out.far _ (by unfold inBox; simp) hf
                  · exact HOR.out.far _ (by unfold inBox; simp) hf
                  · exact HOR.out.far _ (by unfold inBox; simp) hf
                  · omega
                  · omega
                refine ⟨F', N', by simpa using HXL.out, ⟨HX8.out.exp.below hb9, fun p hp2 => ?_, hfar, bl _ _ HK8.out, HX8.out.bel.trans (hb9.mono HX8.out.bel.size), Nat.le_refl _, ⟨fun j hj => ?_, ⟨by omega, by omega, by omega, by omega, by omega⟩, by omega, by omega, by omega, by omega, by omega⟩⟩⟩
                · simp only [rbox, List.length_nil, List.mem_cons, List.not_mem_nil, or_false] at hp2
                  rcases hp2 with rfl | rfl | rfl | rfl | rfl | rfl
                  · exact bl _ _ HO8.out
                  · exact bl _ _ HOR8.out
                  · exact bl _ _ HON8.out
                  · exact bl _ _ HOC8.out
                  · exact hl9 _ (by simp)
                  · exact hl9 _ (by simp)
                · unfold rIn at hj
                  omega
              have HST9 := Lib.hid hst9
              clear hst9 hw9 hs9
              refine (wpIn_wide (n := 8)).1 ?_
              refine Mu.range_mut_sl (F := Fence.wide) rfl (by decide) (gf := 36) (lb := #[.pointer (some ⟨w8.heap.size, 0, none⟩), .pointer (some ⟨w8.heap.size + 1, 0, none⟩)]) rfl trivial (enters_of Try.func36 (by kernel_rfl) rfl)
                (due_seq 7 (by omega) w1.heap.size E w8.heap.size (w8.heap.size + 1) 1099511627776 40) (fun _ => rfl)
                (RU w1.heap.size E w w9 Dd (w.heap.size + 1) (w2.heap.size + 1) (wq.heap.size + 1) W.heap.size w8.heap.size m k S) (RM w1.heap.size E w w9 Dd (w.heap.size + 1) (w2.heap.size + 1) (wq.heap.size + 1) W.heap.size w8.heap.size m k S) (RM2 w1.heap.size E w w9 Dd (w.heap.size + 1) (w2.heap.size + 1) (wq.heap.size + 1) W.heap.size w8.heap.size m k S) (RD w1.heap.size E w w9 Dd (w.heap.size + 1) (w2.heap.size + 1) (wq.heap.size + 1) W.heap.size w8.heap.size m k S) (fun _ _ _ => False)
                rU_own rM2_own rD_own (fun _ _ _ _ _ h _ _ => h) (r_step HE2.out.1 HMX.out) HST9.out
                (fun T y _ => T.setIfInBounds 152 (.agg #[.int .i64 y.1, .int .i64 y.2])) (fun y W => W) rM_lay ?assignB ?bodyB ?doneB (fun _ _ _ _ _ h _ => h.elim)
              case assignB =>
                intro l y W K hK
                gi_wp2
                exact hK
              case bodyB =>
                rintro l pre y b W5 ⟨F5, N5, hk5, hr5⟩
                have hsl := part_len HE2.out
                have hm2 := HM.out
                have cX := block_cell hr5.box.head 0
                have cX' : W5.cell? ⟨W.heap.size, 0, none⟩ = some (.int .i64 (pre.length : Int)) := cX
                have cXf := block_free hr5.box.head 0
                have cN5 := block_cell (hr5.box (w2.heap.size + 1, .cells #[.int .i64 (m : Int)] 3 (0, 0)) (by simp [rbox])) 0
                have cN5' : W5.cell? ⟨w2.heap.size + 1, 0, none⟩ = some (.int .i64 (m : Int)) := cN5
                have dx : ¬ W.heap.size = w2.heap.size + 1 := hr5.place.2.1.2.1
                have HN5 := Lib.hid (r_next (y := y) hr5 hk5)
                have hp5 : (pre.length : Int) + 1 ≤ (m : Int) := by have h1 : k + pre.length < S.length := hk5; omega
                have hp6 : (pre.length : Int) + 1 ≤ 40 := by omega
                clear hk5 hr5 cX cN5 hsl hm2
                simp only [List.setIfInBounds_toArray, List.set_cons_succ, List.set_cons_zero]
                gi_wp2
                exact HN5.out
              case doneB =>
                rintro D2 ys W5 hD2 ⟨F5, N5, hks, hr5⟩ hK5
                have hdr5 : S.drop (k + ys.length) = [] := List.drop_eq_nil_of_le (by omega)
                have hx5 := hr5.exp
                rw [hdr5] at hx5
                have HNX5 := Lib.hid ((enext_any w1.heap.size E _ [] F5 W5 hx5).mono fun e w2 h2 => (h2 : e = .returned (.tuple #[.int .i64 0, .bool false]) ∧ Below W5.heap.size W5 w2))
                obtain ⟨rr, hrr⟩ : ∃ rr, rr = ys.length := ⟨_, rfl⟩
                rw [← hrr] at hks hr5
                have hsl := part_len HE2.out
                have hm2 := HM.out
                have hqk := HQK.out
                have f1 : (k : Int) ≤ (m : Int) := by omega
                have f2 : ((rr : Int) == (m : Int) - (k : Int)) = true := by rw [beq_iff_eq]; omega
                have hr0 : 0 < rr := by
                  have h1 : k < S.length := of_decide_eq_true hqk.symm
                  omega
                have f3 : decide (0 < rr) = true := by simp; omega
                have f4 : decide ((0 : Int) < (rr : Int)) = true := by simp; omega
                clear hr0
                have HR5 := Lib.hid hr5; have HK5 := Lib.hid hK5; have HD2 := Lib.hid hD2
                clear hr5 hK5 hD2 hx5 hdr5 hks hrr hsl hm2 hqk
                go_wp2_with fail
                refine HNX5.out.mono ?_
                rintro e w10 ⟨rfl, hb10⟩
                have hr10 := HR5.out.below hb10
                have hk10 : w10.heap[D2]? = some (.deferred (some [])) := (hb10.block _ (Array.getElem?_eq_some_iff.1 HK5.out).1).trans HK5.out
                have cX := block_cell hr10.box.head 0
                have cX' : w10.cell? ⟨W.heap.size, 0, none⟩ = some (.int .i64 (rr : Int)) := cX
                have cN5 := block_cell (hr10.box (w2.heap.size + 1, .cells #[.int .i64 (m : Int)] 3 (0, 0)) (by simp [rbox])) 0
                have cN5' : w10.cell? ⟨w2.heap.size + 1, 0, none⟩ = some (.int .i64 (m : Int)) := cN5
                have cC5 := block_cell (hr10.box (wq.heap.size + 1, .cells #[.int .i64 (k : Int)] 3 (0, 0)) (by simp [rbox])) 0
                have cC5' : w10.cell? ⟨wq.heap.size + 1, 0, none⟩ = some (.int .i64 (k : Int)) := cC5
                have oR5 : w10.heap[w.heap.size + 1]? = some (.cells #[.bool false] 4 (0, 0)) := hr10.box (w.heap.size + 1, _) (by simp [rbox])
                have cR5 : w10.cell? ⟨w.heap.size + 1, 0, none⟩ = some (.bool false) := by rw [block_cell oR5]; rfl
                have cR5f := block_free oR5 0
                have HR10 := Lib.hid hr10; have HK10 := Lib.hid hk10; have HOR5 := Lib.hid oR5
                clear hb10 hr10 hk10 cX cN5 cC5 oR5
                go_wp2
                have e1 : (w10.setCell ⟨w.heap.size + 1, 0, none⟩ (.bool true)).heap[w.heap.size + 1]? = some (.cells #[.bool true] 4 (0, 0)) := by
                  rw [heap_setCell_same w10 (w.heap.size + 1) 0 _ _ _ HOR5.out]; rfl
                have hne2 : D2 ≠ w.heap.size + 1 := fun e => by
                  have h1 := HK10.out
                  rw [e, HOR5.out] at h1; cases h1
                have hne1 : Dd ≠ w.heap.size + 1 := fun e => by
                  have h1 := HR10.out.dk
                  rw [e, HOR5.out] at h1; cases h1
                have hD12 : D2 ≠ Dd := by have h1 := HD2.out; have h2 := HR10.out.place.2.2.2.2.2.2; omega
                have k2 : (w10.setCell ⟨w.heap.size + 1, 0, none⟩ (.bool true)).heap[D2]? = some (.deferred (some [])) := (Below.heap_setCell _ _ _ _ hne2).trans HK10.out
                have k1 : (w10.setCell ⟨w.heap.size + 1, 0, none⟩ (.bool true)).heap[Dd]? = some (.deferred (some [])) := (Below.heap_setCell _ _ _ _ hne1).trans HR10.out.dk
                have k1' : ((w10.setCell ⟨w.heap.size + 1, 0, none⟩ (.bool true)).putObj D2 (.deferred none)).heap[Dd]? = some (.deferred (some [])) := (World.putObj_heap_other hD12.symm).trans k1
                refine ⟨by simp, .inl ⟨_, _, rfl, run_takeDeferred k2, ⟨by simp, .inl ⟨_, _, rfl, run_takeDeferred k1', ?_⟩⟩⟩⟩
                have e3 : (((w10.setCell ⟨w.heap.size + 1, 0, none⟩ (.bool true)).putObj D2 (.deferred none)).putObj Dd (.deferred none)).heap[w.heap.size + 1]? = some (.cells #[.bool true] 4 (0, 0)) := (World.putObj_heap_other hne1.symm).trans ((World.putObj_heap_other hne2.symm).trans e1)
                have e4 := block_cell e3 0
                have hbl := HR10.out.bel
                have hpl := HR10.out.place
                have hdw : w.heap.size ≤ Dd := by have h1 := HDD.out; have h2 := HBW6.out.size; omega
                have hdw2 : w.heap.size ≤ D2 := by have h1 := HD2.out; omega
                have hb1 := hbl.setCell (p := ⟨w.heap.size + 1, 0, none⟩) (by show w.heap.size ≤ w.heap.size + 1; omega) (.bool true)
                have hb2 := hb1.grown (grownBy_putObj' _ D2 (.deferred none)) hb1.size (fun j e => by cases e; exact hdw2)
                have hb3 := hb2.grown (grownBy_putObj' _ Dd (.deferred none)) hb2.size (fun j e => by cases e; exact hdw)
                refine ⟨.bool true, by simp only [results, Try.results6]; simp [go_sem, e4], rfl, hb3⟩

end Ex

theorem expiryOrder_row0 {H : Type} {enc : TypeId × Value → H} {w : World} {base : Nat} {spare : Nat → Bool} {held : Bool} (s : List Value) (h : s.length = 1 ∧ ∀ (i : Nat) (tl : TypeId) (u : Value), [3][i]? = some tl → s[i]? = some u → LeafIs enc Try.prog w base spare held tl u) : ∃ x : Int, s = [.int .i64 x] := by
  obtain ⟨hl, hs⟩ := h
  match s, hl with
  | [a], _ =>
    obtain ⟨x0, rfl, _⟩ := (hs 0 _ _ rfl rfl).int Try.underlying3
    exact ⟨x0, rfl⟩
theorem expiryOrder_walk (v : Value) (rs : List (List Value)) (hl : rs.length ≤ maxLen) (hz : ∀ s ∈ rs, ∃ x : Int, s = [.int .i64 x]) (now : Int) (wn : (Lit.int .i64 now).wf = true) (w : World) (ht : RowArg w v 1 rs) :
    Calls Try.prog 6 #[v, .int .i64 now] w fun e w' => e = .returned (.bool true) ∧ Below w.heap.size w w' := by
  have hex : ∃ ps : List Int, rs = ps.map (fun x => [Value.int .i64 x]) := by
    clear hl ht
    induction rs with
    | nil => exact ⟨[], rfl⟩
    | cons a t ih =>
      obtain ⟨x, rfl⟩ := hz a List.mem_cons_self
      obtain ⟨ps, rfl⟩ := ih (fun s hs => hz s (List.mem_cons_of_mem _ hs))
      exact ⟨x :: ps, rfl⟩
  obtain ⟨ps, rfl⟩ := hex
  have hi : In.IntArg w v ps := by
    obtain ⟨p, cap, rfl, h⟩ := ht
    refine ⟨p, cap, by simp, fun j hj => ?_⟩
    obtain ⟨_, g, o, h1, h2, h3⟩ := h j (by simpa using hj)
    exact ⟨g, o, h1, h2, by simpa using h3 0 (.int .i64 ps[j]) (by simp)⟩
  exact callsIn_wide.1 (Ex.order_in v ps now w hi (by rw [List.length_map] at hl; unfold maxLen at hl; omega))

end Go.Proofs.Ytkmgpajodbadmaa
