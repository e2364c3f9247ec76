/- The law HeapKnown: knownSaid, the law. -/
import Derived.Test.YtkmgpajodbadmaaDoorHpRows
namespace Go.Proofs.YtkmgpajodbadmaaDoor
open Go.RowKit Go.Proofs.Ar
set_option linter.unusedVariables false
namespace Hp

/-- A heap of four that holds these. -/
def CH (lo H : Nat) (S : List It) (w : World) : Prop := ∃ L F, HeapAt lo H 4 L F w ∧ L.Perm S
theorem CH.below {lo H : Nat} {S : List It} {w w' : World} (h : CH lo H S w) (hb : Below w.heap.size w w') : CH lo H S w' := by
  obtain ⟨L, F, h1, h2⟩ := h
  exact ⟨L, F, h1.below hb, h2⟩
theorem only_bel {lo H : Nat} {L : List It} {F : Nat → Prop} {w w' : World} (h : HeapAt lo H 4 L F w) (ho : Only F w w') (hlo : lo ≤ w.heap.size) : Below lo w w' :=
  ho.below hlo (fun i hi hf => by have := (h.lt i hf).1; omega)
theorem set_c (lo H : Nat) (S S' : List It) (i key : Int) (h0 : 0 ≤ i) (h1 : i < 4) (hS : (i, key) :: without S i = S') (w : World) (h : CH lo H S w) (hlo : lo ≤ w.heap.size) :
    Calls Tryd.prog 16 #[.pointer (some ⟨H, 0, none⟩), .int .i64 i, .int .i64 key] w fun e w' => e = .returned .nilIface ∧ CH lo H S' w' ∧ Below lo w w' := by
  obtain ⟨L, F, hh, hp⟩ := h
  refine (hset_any lo H 4 L F w hh (by omega) hlo i key).mono fun e w' h2 => ?_
  unfold SetPost at h2
  rw [if_pos (show 0 ≤ i ∧ i < ((4 : Nat) : Int) by omega)] at h2
  obtain ⟨h2, L', F', h3, h4, h5, h6⟩ := h2
  exact ⟨h2, ⟨L', F', h3, by rw [← hS]; exact h4.trans (List.Perm.cons _ (without_perm hp i))⟩, only_bel hh h5 hlo⟩
theorem set_no (lo H : Nat) (S : List It) (i key : Int) (hi : i < 0 ∨ 4 ≤ i) (w : World) (h : CH lo H S w) (hlo : lo ≤ w.heap.size) :
    Calls Tryd.prog 16 #[.pointer (some ⟨H, 0, none⟩), .int .i64 i, .int .i64 key] w fun e w' => e = .returned (.iface 65 (.int .i64 1)) ∧ w = w' := by
  obtain ⟨L, F, hh, hp⟩ := h
  refine (hset_any lo H 4 L F w hh (by omega) hlo i key).mono fun e w' h2 => ?_
  unfold SetPost at h2
  rw [if_neg (show ¬ (0 ≤ i ∧ i < ((4 : Nat) : Int)) by omega)] at h2
  exact h2
theorem drop_c (lo H : Nat) (S S' : List It) (i : Int) (b : Bool) (hS : without S i = S') (hb : (keyOf S i).isSome = b) (w : World) (h : CH lo H S w) (hlo : lo ≤ w.heap.size) :
    Calls Tryd.prog 12 #[.pointer (some ⟨H, 0, none⟩), .int .i64 i] w fun e w' => e = .returned (.bool b) ∧ CH lo H S' w' ∧ Below lo w w' := by
  obtain ⟨L, F, hh, hp⟩ := h
  refine (hdrop_any lo H 4 L F w hh (by omega) i).mono fun e w' h2 => ?_
  obtain ⟨h2, L', F', h3, h4, h5, h6⟩ := h2
  rw [keyOf_perm hh.good hp, hb] at h2
  exact ⟨h2, ⟨L', F', h3, by rw [← hS]; exact h4.trans (without_perm hp i)⟩, only_bel hh h5 hlo⟩
theorem len_c (lo H : Nat) (S : List It) (n : Int) (hn : (S.length : Int) = n) (w : World) (h : CH lo H S w) :
    Calls Tryd.prog 42 #[.pointer (some ⟨H, 0, none⟩)] w fun e w' => e = .returned (.int .i64 n) ∧ w = w' := by
  obtain ⟨L, F, hh, hp⟩ := h
  refine (len_any lo H 4 L F w hh).mono fun e w' h2 => ?_
  rw [hp.length_eq, hn] at h2; exact h2
theorem key_c (lo H : Nat) (S : List It) (i k : Int) (b : Bool) (hk : (keyOf S i).getD 0 = k) (hb : (keyOf S i).isSome = b) (w : World) (h : CH lo H S w) :
    Calls Tryd.prog 40 #[.pointer (some ⟨H, 0, none⟩), .int .i64 i] w fun e w' => e = .returned (.tuple #[.int .i64 k, .bool b]) ∧ w = w' := by
  obtain ⟨L, F, hh, hp⟩ := h
  refine (key_any lo H 4 L F w hh (by omega) i).mono fun e w' h2 => ?_
  rw [keyOf_perm hh.good hp, hk, hb] at h2; exact h2
theorem all_c (lo H : Nat) (S Z : List It) (hz : Z.Perm S) (hs : Z.Pairwise fun x y => ahd y x = false) (w : World) (h : CH lo H S w) :
    Calls Tryd.prog 9 #[.pointer (some ⟨H, 0, none⟩)] w fun e w' => ∃ Bs, e = .returned (.func (.func 33) #[] #[.pointer (some ⟨Bs, 0, none⟩)]) ∧ ItAt w.heap.size Bs Z w' ∧ Below w.heap.size w w' := by
  obtain ⟨L, F, hh, hp⟩ := h
  have e : Z = srt L := srt_unique (hz.trans hp.symm) hs
  rw [e]
  exact all_any lo H 4 L F w hh (by omega)
theorem least_c (lo H : Nat) (S : List It) (x : It) (hx : x ∈ S) (hm : ∀ y ∈ S, y ≠ x → ahd y x = true → False) (w : World) (h : CH lo H S w) :
    Calls Tryd.prog 38 #[.pointer (some ⟨H, 0, none⟩)] w fun e w' => e = .returned (.tuple #[.int .i64 x.1, .int .i64 x.2, .bool true]) ∧ Below w.heap.size w w' := by
  obtain ⟨L, F, hh, hp⟩ := h
  refine (least_any lo H 4 L F w hh).mono fun e w' h2 => ?_
  obtain ⟨⟨i, k, b, rfl, hl⟩, hb⟩ := h2
  rcases hl with ⟨h3, -⟩ | ⟨rfl, h3, h4⟩
  · rw [h3] at hp
    have := hp.mem_iff.2 hx
    cases this
  · have h5 := h4 x (hp.mem_iff.2 hx)
    have e : (i, k) = x := by
      by_cases e : (i, k) = x
      · exact e
      · have h6 := hp.mem_iff.1 h3
        cases h7 : ahd (i, k) x with
        | true => exact (hm _ h6 e h7).elim
        | false => exact eq_of_no h7 h5
    subst e
    exact ⟨rfl, hb⟩

set_option maxRecDepth 100000 in
set_option maxHeartbeats 8000000 in
theorem knownSaid_any (w : World) (hg : erHandle w) : Calls Tryd.prog 19 #[] w fun e w' => e = .returned (.bool true) ∧ Below w.heap.size w w' := by
  have HG := Lib.hid (fun w' (hb : Below w.heap.size w w') => hg.below hg.lt hb)
  clear hg
  have HN := Lib.hid (hnew_any 4 (by omega) (by omega) w)
  go_enter Tryd.func19, Tryd.ntmps19
  go_wp2_with fail
  refine HN.out.mono ?_
  rintro e w0 ⟨H, F0, rfl, hh0, hb0⟩
  have hc : CH w.heap.size H [] w0 := ⟨[], F0, hh0, List.Perm.refl _⟩
  have HC0 := Lib.hid hc; have HB0 := Lib.hid hb0
  clear hh0 hb0 hc
  have HX := Lib.hid (hworks_any w0)
  go_wp2_with fail
  refine HX.out.mono ?_
  rintro e w1 ⟨rfl, hb⟩
  have HC1 := Lib.hid (HC0.out.below hb)
  have HB1 := Lib.hid (HB0.out.trans (hb.mono HB0.out.size))
  clear hb HX
  have HX := Lib.hid (set_c _ H [] [(2, 5)] (2) (5) (by decide) (by decide) (by decide) w1 HC1.out HB1.out.size)
  go_wp2_with fail
  refine HX.out.mono ?_
  rintro e w2 ⟨rfl, hc, hb⟩
  have HC2 := Lib.hid hc; have HB2 := Lib.hid (HB1.out.trans hb)
  clear hc hb HX
  have HX := Lib.hid (set_c _ H [(2, 5)] [(0, 5), (2, 5)] (0) (5) (by decide) (by decide) (by decide) w2 HC2.out HB2.out.size)
  go_wp2_with fail
  refine HX.out.mono ?_
  rintro e w3 ⟨rfl, hc, hb⟩
  have HC3 := Lib.hid hc; have HB3 := Lib.hid (HB2.out.trans hb)
  clear hc hb HX
  have HX := Lib.hid (set_c _ H [(0, 5), (2, 5)] [(3, -1), (0, 5), (2, 5)] (3) (-1) (by decide) (by decide) (by decide) w3 HC3.out HB3.out.size)
  go_wp2_with fail
  refine HX.out.mono ?_
  rintro e w4 ⟨rfl, hc, hb⟩
  have HC4 := Lib.hid hc; have HB4 := Lib.hid (HB3.out.trans hb)
  clear hc hb HX
  have HX := Lib.hid (all_c _ H [(3, -1), (0, 5), (2, 5)] [(3, -1), (0, 5), (2, 5)] (List.Perm.refl _) (by decide) w4 HC4.out)
  go_wp2_with fail
  refine HX.out.mono ?_
  rintro e w5 ⟨Bs, rfl, hit, hb⟩
  have HIT := Lib.hid hit
  have HC5 := Lib.hid (HC4.out.below hb)
  have HB5 := Lib.hid (HB4.out.trans (hb.mono HB4.out.size))
  clear hit hb HX
  have HX := Lib.hid (pairs_any Bs 9 _ _ w5 HIT.out (by decide) (by decide))
  go_wp2_with fail
  refine HX.out.mono ?_
  rintro e w6 ⟨pv, rfl, hrow, hb⟩
  have HROW := Lib.hid hrow
  have HC6 := Lib.hid (HC5.out.below hb)
  have HB6 := Lib.hid (HB5.out.trans (hb.mono HB5.out.size))
  clear hrow hb HX
  have HBL : Hid (Below w6.heap.size w6 (w6.alloc (.cells ([3, -1, 0, 5, 2, 5].map (Value.int .i64)).toArray 3))) := (Below.refl _ _).alloc (Nat.le_refl _) _
  have HX := Lib.hid (In.same_any pv _ (flat ([(3, -1), (0, 5), (2, 5)] : List It)) [3, -1, 0, 5, 2, 5] (by decide) (by decide) _ ((In.own_ints (fun _ => rfl) (by decide) HROW.out).below HBL.out) (In.lit_ints w6 [3, -1, 0, 5, 2, 5] 3))
  go_wp2_with fail
  refine HX.out.mono ?_
  rintro e w7 ⟨rfl, hb⟩
  have HC7 := Lib.hid ((HC6.out.below HBL.out).below hb)
  have HB7 := Lib.hid (HB6.out.trans ((HBL.out.trans (hb.mono HBL.out.size)).mono HB6.out.size))
  have DD : decide (flat ([(3, -1), (0, 5), (2, 5)] : List It) = [3, -1, 0, 5, 2, 5]) = true := by decide
  rw [DD]
  clear hb HX DD
  have HX := Lib.hid (set_c _ H [(3, -1), (0, 5), (2, 5)] [(3, 9), (0, 5), (2, 5)] (3) (9) (by decide) (by decide) (by decide) w7 HC7.out HB7.out.size)
  go_wp2_with fail
  refine HX.out.mono ?_
  rintro e w8 ⟨rfl, hc, hb⟩
  have HC8 := Lib.hid hc; have HB8 := Lib.hid (HB7.out.trans hb)
  clear hc hb HX
  have HX := Lib.hid (drop_c _ H [(3, 9), (0, 5), (2, 5)] [(3, 9), (2, 5)] (0) true (by decide) (by decide) w8 HC8.out HB8.out.size)
  go_wp2_with fail
  refine HX.out.mono ?_
  rintro e w9 ⟨rfl, hc, hb⟩
  have HC9 := Lib.hid hc; have HB9 := Lib.hid (HB8.out.trans hb)
  clear hc hb HX
  have HX := Lib.hid (drop_c _ H [(3, 9), (2, 5)] [(3, 9), (2, 5)] (0) false (by decide) (by decide) w9 HC9.out HB9.out.size)
  go_wp2_with fail
  refine HX.out.mono ?_
  rintro e w10 ⟨rfl, hc, hb⟩
  have HC10 := Lib.hid hc; have HB10 := Lib.hid (HB9.out.trans hb)
  clear hc hb HX
  have HX := Lib.hid (drop_c _ H [(3, 9), (2, 5)] [(3, 9), (2, 5)] (4) false (by decide) (by decide) w10 HC10.out HB10.out.size)
  go_wp2_with fail
  refine HX.out.mono ?_
  rintro e w11 ⟨rfl, hc, hb⟩
  have HC11 := Lib.hid hc; have HB11 := Lib.hid (HB10.out.trans hb)
  clear hc hb HX
  have HX := Lib.hid (drop_c _ H [(3, 9), (2, 5)] [(3, 9), (2, 5)] (-1) false (by decide) (by decide) w11 HC11.out HB11.out.size)
  go_wp2_with fail
  refine HX.out.mono ?_
  rintro e w12 ⟨rfl, hc, hb⟩
  have HC12 := Lib.hid hc; have HB12 := Lib.hid (HB11.out.trans hb)
  clear hc hb HX
  have HX := Lib.hid (len_c _ H [(3, 9), (2, 5)] 2 (by decide) w12 HC12.out)
  go_wp2_with fail
  refine HX.out.mono ?_
  rintro e w12q ⟨rfl, rfl⟩
  clear HX
  have HX := Lib.hid (key_c _ H [(3, 9), (2, 5)] 0 0 false (by decide) (by decide) w12 HC12.out)
  go_wp2_with fail
  refine HX.out.mono ?_
  rintro e w12q ⟨rfl, rfl⟩
  clear HX
  have HX := Lib.hid (least_c _ H [(3, 9), (2, 5)] (2, 5) (by decide) (by decide) w12 HC12.out)
  go_wp2_with fail
  refine HX.out.mono ?_
  rintro e w13 ⟨rfl, hb⟩
  have HC13 := Lib.hid (HC12.out.below hb)
  have HB13 := Lib.hid (HB12.out.trans (hb.mono HB12.out.size))
  clear hb HX
  have HX := Lib.hid (hnew_no 0 (by decide) w13)
  go_wp2_with fail
  refine HX.out.mono ?_
  rintro e w13q ⟨rfl, rfl⟩
  clear HX
  have HX := Lib.hid (hnew_no 65537 (by decide) w13)
  go_wp2_with fail
  refine HX.out.mono ?_
  rintro e w13q ⟨rfl, rfl⟩
  clear HX
  have HBL : Hid (Below w13.heap.size w13 (w13.alloc (.cells (encTs [(0, 65535, 1), (0, 65536, 1), (2, 65535, 0), (0, -1, 1)]).toArray 38))) := (Below.refl _ _).alloc (Nat.le_refl _) _
  have HX := Lib.hid (heapPlays_core 65536 _ [(0, 65535, 1), (0, 65536, 1), (2, 65535, 0), (0, -1, 1)] (by decide) _ (HG.out _ (HB13.out.trans (HBL.out.mono HB13.out.size))) (lit_acts w13 [(0, 65535, 1), (0, 65536, 1), (2, 65535, 0), (0, -1, 1)] 38))
  go_wp2_with fail
  refine HX.out.mono ?_
  rintro e w14 ⟨rfl, hb⟩
  have HC14 := Lib.hid ((HC13.out.below HBL.out).below hb)
  have HB14 := Lib.hid (HB13.out.trans ((HBL.out.trans (hb.mono HBL.out.size)).mono HB13.out.size))
  clear hb HX HBL
  have HBL : Hid (Below w14.heap.size w14 (w14.alloc (.cells (encTs [(0, 0, 1), (0, 1, 1)]).toArray 38))) := (Below.refl _ _).alloc (Nat.le_refl _) _
  have HX := Lib.hid (heapPlays_core 1 _ [(0, 0, 1), (0, 1, 1)] (by decide) _ (HG.out _ (HB14.out.trans (HBL.out.mono HB14.out.size))) (lit_acts w14 [(0, 0, 1), (0, 1, 1)] 38))
  go_wp2_with fail
  refine HX.out.mono ?_
  rintro e w15 ⟨rfl, hb⟩
  have HC15 := Lib.hid ((HC14.out.below HBL.out).below hb)
  have HB15 := Lib.hid (HB14.out.trans ((HBL.out.trans (hb.mono HBL.out.size)).mono HB14.out.size))
  clear hb HX HBL
  have HX := Lib.hid (hworks_any w15)
  go_wp2_with fail
  refine HX.out.mono ?_
  rintro e w16 ⟨rfl, hb⟩
  have HC16 := Lib.hid (HC15.out.below hb)
  have HB16 := Lib.hid (HB15.out.trans (hb.mono HB15.out.size))
  clear hb HX
  have HX := Lib.hid (set_no _ H [(3, 9), (2, 5)] 4 0 (by decide) w16 HC16.out HB16.out.size)
  go_wp2_with fail
  refine HX.out.mono ?_
  rintro e w16q ⟨rfl, rfl⟩
  clear HX
  have HX := Lib.hid (plain_errno 1 1 (by decide) (by decide) w16 (HG.out _ HB16.out))
  go_wp2_with fail
  refine HX.out.mono ?_
  rintro e w17 ⟨rfl, hb⟩
  have HC17 := Lib.hid (HC16.out.below hb)
  have HB17 := Lib.hid (HB16.out.trans (hb.mono HB16.out.size))
  clear hb HX
  have HX := Lib.hid (set_no _ H [(3, 9), (2, 5)] (-1) 0 (by decide) w17 HC17.out HB17.out.size)
  go_wp2_with fail
  refine HX.out.mono ?_
  rintro e w17q ⟨rfl, rfl⟩
  clear HX
  have HX := Lib.hid (plain_errno 1 1 (by decide) (by decide) w17 (HG.out _ HB17.out))
  go_wp2_with fail
  refine HX.out.mono ?_
  rintro e w18 ⟨rfl, hb⟩
  have HC18 := Lib.hid (HC17.out.below hb)
  have HB18 := Lib.hid (HB17.out.trans (hb.mono HB17.out.size))
  clear hb HX
  have HX := Lib.hid (plain_errno 1 1 (by decide) (by decide) w18 (HG.out _ HB18.out))
  go_wp2_with fail
  refine HX.out.mono ?_
  rintro e w19 ⟨rfl, hb⟩
  have HC19 := Lib.hid (HC18.out.below hb)
  have HB19 := Lib.hid (HB18.out.trans (hb.mono HB18.out.size))
  clear hb HX
  have HX := Lib.hid (plain_errno 1 1 (by decide) (by decide) w19 (HG.out _ HB19.out))
  go_wp2_with fail
  refine HX.out.mono ?_
  rintro e w20 ⟨rfl, hb⟩
  have HC20 := Lib.hid (HC19.out.below hb)
  have HB20 := Lib.hid (HB19.out.trans (hb.mono HB19.out.size))
  clear hb HX
  go_wp2
  go_ret
  exact ⟨rfl, HB20.out⟩

theorem heapKnown_core (w : World) (hg : erHandle w) : Calls Tryd.prog 4 #[] w fun e w' => e = .returned (.bool true) ∧ Below w.heap.size w w' := by
  have H1 := Lib.hid (knownSaid_any w hg)
  have H2 := Lib.hid (fun w' (hb : Below w.heap.size w w') => knownRows_any w' (hg.below hg.lt hb))
  have H3 := Lib.hid (fun w' (hb : Below w.heap.size w w') => knownEnds_any w' (hg.below hg.lt hb))
  clear hg
  go_enter Tryd.func4, Tryd.ntmps4
  go_wp2_with fail
  refine H1.out.mono ?_
  rintro e w1 ⟨rfl, hb1⟩
  go_wp2_with fail
  refine (H2.out _ hb1).mono ?_
  rintro e w2 ⟨rfl, hb2⟩
  have hb12 := hb1.trans (hb2.mono hb1.size)
  clear hb1 hb2
  go_wp2_with fail
  refine (H3.out _ hb12).mono ?_
  rintro e w3 ⟨rfl, hb3⟩
  have HB := Lib.hid (hb12.trans (hb3.mono hb12.size))
  clear hb12 hb3
  go_wp2
  go_ret
  exact ⟨rfl, HB.out⟩

end Hp

theorem heapKnown_walk (w : World) (hL : laidMetH Tryd.prog Rows.heapKnownRow.laid w) : Calls Tryd.prog 4 #[] w fun e w' => e = .returned (.bool true) ∧ Below w.heap.size w w' :=
  Hp.heapKnown_core w (handle_of_laid hL (by kernel_rfl))

end Go.Proofs.YtkmgpajodbadmaaDoor
