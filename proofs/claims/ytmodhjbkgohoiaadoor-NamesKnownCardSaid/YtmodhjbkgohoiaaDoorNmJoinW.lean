/- NamesJoined: the law's walk. Laid by program (mkjoin.py). -/
import Derived.Test.YtmodhjbkgohoiaaDoorNmJoin
namespace Go.Proofs.YtmodhjbkgohoiaaDoor
open Go.RowKit Go.Proofs.NmPlain
set_option linter.unusedVariables false

/-- What the law's callees do in a world that stands below. -/
structure JC (w : World) : Prop where
  works : Calls Tryd.prog 19 #[] w fun e w' => e = .returned (.bool true) ∧ Below w.heap.size w w'
  dotted : ∀ (x : ByteArray) (w' : World), (x.size : Int) ≤ 16777216 → Below w.heap.size w w' → Calls Tryd.prog 13 #[.string x] w' fun e w2 => e = .returned (.bool (dotB x.data.toList)) ∧ Below w'.heap.size w' w2
  parts : ∀ (x : ByteArray) (w' : World), (x.size : Int) ≤ 16777216 → Below w.heap.size w w' → Calls Tryd.prog 10 #[.string x] w' fun e w2 => ∃ v, e = .returned v ∧ PartsPost x.data.toList w' v w2 ∧ Below w'.heap.size w' w2
  under : ∀ (x y : ByteArray) (w' : World), (x.size : Int) ≤ 16777216 → (y.size : Int) ≤ 16777216 → Below w.heap.size w w' → Calls Tryd.prog 17 #[.string x, .string y] w' fun e w2 => e = .returned (.bool (underB x.data.toList y.data.toList)) ∧ Below w'.heap.size w' w2

theorem JC.mk' (w : World) (hm : MaxAt w) : JC w :=
  ⟨works_any w hm, fun x w' h hb => dotted_any x h w' (hm.below hb), fun x w' h hb => parts_any x h w' (hm.below hb), fun x y w' h1 h2 hb => under_any x y h1 h2 w' (hm.below hb)⟩

theorem JC.dottedIs {w : World} (C : JC w) {x : ByteArray} {q : Bool} (h : dotB x.data.toList = q) (hx : (x.size : Int) ≤ 16777216) :
    Hid (∀ w', Below w.heap.size w w' → Calls Tryd.prog 13 #[.string x] w' fun e w2 => e = .returned (.bool q) ∧ Below w'.heap.size w' w2) := fun w' hb => h ▸ C.dotted x w' hx hb
theorem nameIs {x : ByteArray} {q : Bool} (h : nameB x.data.toList = q) (hx : (x.size : Int) ≤ 16777216) :
    Hid (∀ w', Calls Tryd.prog 11 #[.string x] w' fun e w2 => e = .returned (.bool q) ∧ Below w'.heap.size w' w2) := fun w' => h ▸ name_any x (by omega) w'
theorem JC.partsNo {w : World} (C : JC w) {x : ByteArray} (h : dotB x.data.toList = false) (hx : (x.size : Int) ≤ 16777216) :
    Hid (∀ w', Below w.heap.size w w' → Calls Tryd.prog 10 #[.string x] w' fun e w2 => e = .returned (.slice none 0 0) ∧ Below w'.heap.size w' w2) := fun w' hb =>
  (C.parts x w' hx hb).mono fun e w2 ⟨v, h1, h2, h3⟩ => by
    rcases h2 with ⟨_, rfl⟩ | ⟨hd, _⟩
    · exact ⟨h1, h3⟩
    · rw [h] at hd; cases hd
theorem JC.partsYes {w : World} (C : JC w) {x : ByteArray} (h : dotB x.data.toList = true) (hx : (x.size : Int) ≤ 16777216) :
    Hid (∀ w', Below w.heap.size w w' → Calls Tryd.prog 10 #[.string x] w' fun e w2 => ∃ g ps, e = .returned (.slice (some ⟨g, 0, none⟩) ps.length ps.length) ∧ ps.map (·.data.toList) = split x.data.toList ∧ TextsAt w2 g ps ∧ Below w'.heap.size w' w2) := fun w' hb =>
  (C.parts x w' hx hb).mono fun e w2 ⟨v, h1, h2, h3⟩ => by
    rcases h2 with ⟨hd, _⟩ | ⟨_, g, ps, rfl, _, hs, ht⟩
    · rw [h] at hd; cases hd
    · exact ⟨g, ps, h1, hs, ht, h3⟩

def bothOf (a b : ByteArray) : ByteArray := a ++ ⟨#[46]⟩ ++ b
theorem both_list (a b : ByteArray) : (bothOf a b).data.toList = a.data.toList ++ 46 :: b.data.toList := by
  unfold bothOf
  rw [ByteArray.data_append, Array.toList_append, ByteArray.data_append, Array.toList_append]; simp
theorem both_size (a b : ByteArray) : (bothOf a b).size = a.size + 1 + b.size := by
  unfold bothOf
  rw [ByteArray.size_append, ByteArray.size_append]; rfl

def JRel (ps : List ByteArray) (w : World) (s i : Value) (wr : World) : Prop :=
  ∃ (k : Nat) (t : ByteArray), k ≤ ps.length ∧ i = .int .i64 k ∧ s = .string t ∧ t.data.toList = joinD ((ps.map (·.data.toList)).take k) ∧ (t.size : Int) ≤ 33 * (k : Int) ∧ Below w.heap.size w wr

set_option maxHeartbeats 2000000 in
set_option maxRecDepth 100000 in
theorem jn1 (a b : ByteArray) (ha : (a.size : Int) ≤ 65536) (hb : (b.size : Int) ≤ 65536) (w : World) (C : JC w)
    (hn : nameB a.data.toList = false) (hA : dotB a.data.toList = false) (hB : dotB b.data.toList = false) :
    Calls Tryd.prog 5 #[.string a, .string b] w fun e w' => e = .returned (.bool true) ∧ Below w.heap.size w w' := by
  have hs := both_size a b
  have hl := both_list a b
  have hz : dotB (bothOf a b).data.toList = false := by rw [hl, dot_both, hA, hB]; simp
  have H0 := Lib.hid C.works
  have DA := C.dottedIs hA (by omega)
  have DB := C.dottedIs hB (by omega)
  have DZ := C.dottedIs hz (by omega)
  have NA := nameIs hn (by omega)
  have PA := C.partsNo hA (by omega)
  have PB := C.partsNo hB (by omega)
  have HA := Lib.hid hA; have HB := Lib.hid hB; have HNB := Lib.hid hn
  clear C hs hl hz hn hA hB
  go_enter Tryd.func5, Tryd.ntmps5
  go_wp2_with fail
  refine (H0.out).mono ?_
  rintro e w1 ⟨rfl, c1⟩
  go_wp2_with fail
  refine (NA.out _).mono ?_
  rintro e w2 ⟨rfl, b2⟩
  have c2 := c1.trans (b2.mono c1.size)
  go_wp2_with fail
  refine (PA.out _ c2).mono ?_
  rintro e w7 ⟨rfl, b7⟩
  have c7 := c2.trans (b7.mono c2.size)
  go_wp2_with fail
  refine (PB.out _ c7).mono ?_
  rintro e w8 ⟨rfl, b8⟩
  have c8 := c7.trans (b8.mono c7.size)
  go_wp2_with fail
  refine (DA.out _ c8).mono ?_
  rintro e w9 ⟨rfl, b9⟩
  have c9 := c8.trans (b9.mono c8.size)
  go_wp2_with fail
  refine (DB.out _ c9).mono ?_
  rintro e w10 ⟨rfl, b10⟩
  have c10 := c9.trans (b10.mono c9.size)
  go_wp2
  go_loopw [7] (fun i wr => i = .int .i64 0 ∧ wr = w10) (fun _ _ => 0)
  case atStart => exact ⟨rfl, rfl⟩
  case round =>
    obtain ⟨rfl, rfl⟩ := hrel
    go_wp2
    go_loopw [8, 9] (fun s i wr2 => i = .int .i64 0 ∧ wr2 = wr) (fun _ _ _ => 0)
    case atStart => exact ⟨rfl, rfl⟩
    case round =>
      obtain ⟨rfl, rfl⟩ := hrel
      have c12 := c10
      have hy : Hid (∀ w', Below w.heap.size w w' → Calls Tryd.prog 13 #[.string (bothOf a b)] w' fun e w2 => e = .returned (.bool false) ∧ Below w'.heap.size w' w2) := DZ
      unfold bothOf at *
      have z1 : (a ++ ⟨#[46]⟩).size = a.size + 1 := by rw [ByteArray.size_append]; rfl
      have z2 : (a ++ ⟨#[46]⟩ ++ b).size = a.size + 1 + b.size := by rw [ByteArray.size_append, z1]
      go_wp2_with fail
      refine (DA.out _ c12).mono ?_
      rintro e w13 ⟨rfl, b13⟩
      have c13 := c12.trans (b13.mono c12.size)
      go_wp2_with fail
      refine (hy.out _ c13).mono ?_
      rintro e w14 ⟨rfl, b14⟩
      have c14 := c13.trans (b14.mono c13.size)
      go_wp2
      go_ret
      exact ⟨rfl, c14⟩

set_option maxHeartbeats 2000000 in
set_option maxRecDepth 100000 in
theorem jn2 (a b : ByteArray) (ha : (a.size : Int) ≤ 65536) (hb : (b.size : Int) ≤ 65536) (w : World) (C : JC w)
    (hn : nameB a.data.toList = false) (hA : dotB a.data.toList = false) (hB : dotB b.data.toList = true) :
    Calls Tryd.prog 5 #[.string a, .string b] w fun e w' => e = .returned (.bool true) ∧ Below w.heap.size w w' := by
  have hs := both_size a b
  have hl := both_list a b
  have hz : dotB (bothOf a b).data.toList = false := by rw [hl, dot_both, hA, hB]; simp
  have H0 := Lib.hid C.works
  have DA := C.dottedIs hA (by omega)
  have DB := C.dottedIs hB (by omega)
  have DZ := C.dottedIs hz (by omega)
  have NA := nameIs hn (by omega)
  have PA := C.partsNo hA (by omega)
  have PB := C.partsYes hB (by omega)
  have HA := Lib.hid hA; have HB := Lib.hid hB; have HNB := Lib.hid hn
  clear C hs hl hz hn hA hB
  go_enter Tryd.func5, Tryd.ntmps5
  go_wp2_with fail
  refine (H0.out).mono ?_
  rintro e w1 ⟨rfl, c1⟩
  go_wp2_with fail
  refine (NA.out _).mono ?_
  rintro e w2 ⟨rfl, b2⟩
  have c2 := c1.trans (b2.mono c1.size)
  go_wp2_with fail
  refine (PA.out _ c2).mono ?_
  rintro e w7 ⟨rfl, b7⟩
  have c7 := c2.trans (b7.mono c2.size)
  go_wp2_with fail
  refine (PB.out _ c7).mono ?_
  rintro e w8 ⟨g', qs, rfl, hs2, ht2, b8⟩
  have c8 := c7.trans (b8.mono c7.size)
  have hl2 : qs.length = (split b.data.toList).length := by rw [← hs2, List.length_map]
  have p2 : 0 < qs.length := by rw [hl2]; exact List.length_pos_iff.2 (split_ne _)
  have q4 : qs.length ≤ 4 := by have := HB.out; unfold dotB at this; simp only [Bool.and_eq_true, decide_eq_true_eq] at this; rw [hl2]; exact this.1
  clear hs2 ht2
  clear hl2
  go_wp2_with fail
  refine (DA.out _ c8).mono ?_
  rintro e w9 ⟨rfl, b9⟩
  have c9 := c8.trans (b9.mono c8.size)
  go_wp2_with fail
  refine (DB.out _ c9).mono ?_
  rintro e w10 ⟨rfl, b10⟩
  have c10 := c9.trans (b10.mono c9.size)
  go_wp2
  go_loopw [7] (fun i wr => i = .int .i64 0 ∧ wr = w10) (fun _ _ => 0)
  case atStart => exact ⟨rfl, rfl⟩
  case round =>
    obtain ⟨rfl, rfl⟩ := hrel
    go_wp2
    go_loopw [8, 9] (fun s i wr2 => i = .int .i64 0 ∧ wr2 = wr) (fun _ _ _ => 0)
    case atStart => exact ⟨rfl, rfl⟩
    case round =>
      obtain ⟨rfl, rfl⟩ := hrel
      have c12 := c10
      have hy : Hid (∀ w', Below w.heap.size w w' → Calls Tryd.prog 13 #[.string (bothOf a b)] w' fun e w2 => e = .returned (.bool false) ∧ Below w'.heap.size w' w2) := DZ
      unfold bothOf at *
      have z1 : (a ++ ⟨#[46]⟩).size = a.size + 1 := by rw [ByteArray.size_append]; rfl
      have z2 : (a ++ ⟨#[46]⟩ ++ b).size = a.size + 1 + b.size := by rw [ByteArray.size_append, z1]
      go_wp2_with fail
      refine (DA.out _ c12).mono ?_
      rintro e w13 ⟨rfl, b13⟩
      have c13 := c12.trans (b13.mono c12.size)
      go_wp2_with fail
      refine (hy.out _ c13).mono ?_
      rintro e w14 ⟨rfl, b14⟩
      have c14 := c13.trans (b14.mono c13.size)
      go_wp2
      go_ret
      exact ⟨rfl, c14⟩

set_option maxHeartbeats 2000000 in
set_option maxRecDepth 100000 in
theorem jn3 (a b : ByteArray) (ha : (a.size : Int) ≤ 65536) (hb : (b.size : Int) ≤ 65536) (w : World) (C : JC w)
    (hn : nameB a.data.toList = false) (hA : dotB a.data.toList = true) (hB : dotB b.data.toList = false) :
    Calls Tryd.prog 5 #[.string a, .string b] w fun e w' => e = .returned (.bool true) ∧ Below w.heap.size w w' := by
  have hs := both_size a b
  have hl := both_list a b
  have hz : dotB (bothOf a b).data.toList = false := by rw [hl, dot_both, hA, hB]; simp
  have H0 := Lib.hid C.works
  have DA := C.dottedIs hA (by omega)
  have DB := C.dottedIs hB (by omega)
  have DZ := C.dottedIs hz (by omega)
  have NA := nameIs hn (by omega)
  have PA := C.partsYes hA (by omega)
  have PB := C.partsNo hB (by omega)
  have HA := Lib.hid hA; have HB := Lib.hid hB; have HNB := Lib.hid hn
  clear C hs hl hz hn hA hB
  go_enter Tryd.func5, Tryd.ntmps5
  go_wp2_with fail
  refine (H0.out).mono ?_
  rintro e w1 ⟨rfl, c1⟩
  go_wp2_with fail
  refine (NA.out _).mono ?_
  rintro e w2 ⟨rfl, b2⟩
  have c2 := c1.trans (b2.mono c1.size)
  go_wp2_with fail
  refine (PA.out _ c2).mono ?_
  rintro e w7 ⟨g, ps, rfl, hs1, ht1, b7⟩
  have c7 := c2.trans (b7.mono c2.size)
  go_wp2_with fail
  refine (PB.out _ c7).mono ?_
  rintro e w8 ⟨rfl, b8⟩
  have c8 := c7.trans (b8.mono c7.size)
  have hl1 : ps.length = (split a.data.toList).length := by rw [← hs1, List.length_map]
  have p1 : 0 < ps.length := by rw [hl1]; exact List.length_pos_iff.2 (split_ne _)
  have p4 : ps.length ≤ 4 := by have := HA.out; unfold dotB at this; simp only [Bool.and_eq_true, decide_eq_true_eq] at this; rw [hl1]; exact this.1
  have ht1' := ht1.below ht1.lt b8
  have hnm : ∀ j (hj : j < ps.length), nameB ps[j].data.toList = true := fun j hj => by
    have := HA.out; unfold dotB at this; simp only [Bool.and_eq_true, List.all_eq_true] at this
    exact this.2 _ (by rw [← hs1]; exact List.mem_map.2 ⟨_, List.getElem_mem hj, rfl⟩)
  have HS1 := Lib.hid hs1; have HT1 := Lib.hid ht1'; have HNM := Lib.hid hnm
  clear hs1 ht1 ht1' hnm
  clear hl1
  go_wp2_with fail
  refine (DA.out _ c8).mono ?_
  rintro e w9 ⟨rfl, b9⟩
  have c9 := c8.trans (b9.mono c8.size)
  go_wp2_with fail
  refine (DB.out _ c9).mono ?_
  rintro e w10 ⟨rfl, b10⟩
  have c10 := c9.trans (b10.mono c9.size)
  have HT2 := Lib.hid (HT1.out.below (TextsAt.lt HT1.out) (b9.trans (b10.mono b9.size)))
  go_wp2
  go_loopw [7] (fun i wr => ∃ k : Nat, k ≤ ps.length ∧ i = .int .i64 k ∧ Below w10.heap.size w10 wr) (fun i _ => ps.length - (intOf i).toNat)
  case atStart => exact ⟨0, Nat.zero_le _, rfl, Below.refl _ _⟩
  case round =>
    obtain ⟨k, hk, rfl, hbr⟩ := hrel
    by_cases h : k < ps.length
    · have hc : wr.cell? ⟨g, k, none⟩ = some (.string ps[k]) := TextsAt.cell (HT2.out.below (TextsAt.lt HT2.out) hbr) h
      have hN := nameIs (HNM.out k h) (by have := nameB_le (HNM.out k h); rw [← size_toList] at this; omega)
      obtain ⟨x, hx⟩ : ∃ x, x = ps[k] := ⟨_, rfl⟩
      rw [← hx] at hc hN
      clear hx
      have b1 : (0 : Int) ≤ (k : Int) := by omega
      have b2 : (k : Int) < (ps.length : Int) := by omega
      have hwr := hbr.size
      go_wp2_with (go_at_call 11; refine (hN.out _).mono ?_; rintro e w11 ⟨rfl, b11⟩)
      go_roundw
      case rel => exact ⟨k + 1, by omega, by go_num, hbr.trans (b11.mono hwr)⟩
      case measure => simp [intOf]; omega
    · obtain rfl : k = ps.length := by omega
      have c11 := c10.trans (hbr.mono c10.size)
      have HT3 := Lib.hid (HT2.out.below (TextsAt.lt HT2.out) hbr)
      clear hk h hbr HT1 HT2
      go_wp2
      go_loopw [8, 9] (fun s i wr2 => JRel ps wr s i wr2) (fun _ i _ => ps.length - (intOf i).toNat)
      case atStart => exact ⟨0, _, Nat.zero_le _, rfl, rfl, rfl, by decide, Below.refl _ _⟩
      case round =>
        obtain ⟨k, t, hk, rfl, rfl, ht, hts, hbr⟩ := hrel
        by_cases h : k < ps.length
        · have hc : wr.cell? ⟨g, k, none⟩ = some (.string ps[k]) := TextsAt.cell (HT3.out.below (TextsAt.lt HT3.out) hbr) h
          have hj := join_take (ps := ps.map (·.data.toList)) (k := k) (by simpa using h)
          have hz : (ps[k].size : Int) ≤ 32 := by have := nameB_le (HNM.out k h); rw [← size_toList] at this; omega
          rw [List.getElem_map] at hj
          obtain ⟨x, hx⟩ : ∃ x, x = ps[k] := ⟨_, rfl⟩
          rw [← hx] at hc hj hz
          clear hx
          have b1 : (0 : Int) ≤ (k : Int) := by omega
          have b2 : (k : Int) < (ps.length : Int) := by omega
          have hd46 : (⟨#[46]⟩ : ByteArray).size = 1 := rfl
          by_cases h0 : k = 0
          · have HJ : Hid ((t ++ x).data.toList = joinD ((ps.map (·.data.toList)).take (k + 1)) ∧ ((t ++ x).size : Int) ≤ 33 * ((k + 1 : Nat) : Int)) := by
              refine ⟨?_, by rw [ByteArray.size_append]; omega⟩
              rw [hj, if_pos h0, ByteArray.data_append, Array.toList_append, ht, h0]; rfl
            have g0 : ¬ (0 : Int) < (k : Int) := by omega
            have g1 : t.size ≤ 1000 := by omega
            have g2 : x.size ≤ 1000 := by omega
            clear hj ht hts hz h0
            go_wp2
            go_roundw
            case rel => exact ⟨k + 1, _, by omega, by go_num, rfl, HJ.out.1, HJ.out.2, hbr⟩
            case measure => simp [intOf]; omega
          · have HJ : Hid ((t ++ ⟨#[46]⟩ ++ x).data.toList = joinD ((ps.map (·.data.toList)).take (k + 1)) ∧ ((t ++ ⟨#[46]⟩ ++ x).size : Int) ≤ 33 * ((k + 1 : Nat) : Int)) := by
              refine ⟨?_, by rw [ByteArray.size_append, ByteArray.size_append, hd46]; omega⟩
              rw [hj, if_neg h0, ByteArray.data_append, Array.toList_append, ByteArray.data_append, Array.toList_append, ht]; simp
            have g0 : (0 : Int) < (k : Int) := by omega
            have g1 : t.size ≤ 1000 := by omega
            have g2 : x.size ≤ 1000 := by omega
            have g3 : (t ++ ⟨#[46]⟩).size ≤ 1001 := by rw [ByteArray.size_append, hd46]; omega
            clear hj ht hts hz h0 hd46
            go_wp2
            go_roundw
            case rel => exact ⟨k + 1, _, by omega, by go_num, rfl, HJ.out.1, HJ.out.2, hbr⟩
            case measure => simp [intOf]; omega
        · obtain rfl : k = ps.length := by omega
          have hta : t = a := by
            have e1 : t.data.toList = a.data.toList := by
              rw [ht, List.take_of_length_le (by simp), HS1.out, join_split]
            cases t; cases a; simpa using e1
          subst hta
          have c12 := c11.trans (hbr.mono c11.size)
          have q0 := bytes_eq t
          clear ht hts hk h hbr HT3
          have hy : Hid (∀ w', Below w.heap.size w w' → Calls Tryd.prog 13 #[.string (bothOf t b)] w' fun e w2 => e = .returned (.bool false) ∧ Below w'.heap.size w' w2) := DZ
          unfold bothOf at *
          have z1 : (t ++ ⟨#[46]⟩).size = t.size + 1 := by rw [ByteArray.size_append]; rfl
          have z2 : (t ++ ⟨#[46]⟩ ++ b).size = t.size + 1 + b.size := by rw [ByteArray.size_append, z1]
          go_wp2_with fail
          refine (DA.out _ c12).mono ?_
          rintro e w13 ⟨rfl, b13⟩
          have c13 := c12.trans (b13.mono c12.size)
          go_wp2_with fail
          refine (hy.out _ c13).mono ?_
          rintro e w14 ⟨rfl, b14⟩
          have c14 := c13.trans (b14.mono c13.size)
          go_wp2
          go_ret
          exact ⟨rfl, c14⟩

set_option maxHeartbeats 2000000 in
set_option maxRecDepth 100000 in
theorem jn4 (a b : ByteArray) (ha : (a.size : Int) ≤ 65536) (hb : (b.size : Int) ≤ 65536) (w : World) (C : JC w)
    (hn : nameB a.data.toList = false) (hA : dotB a.data.toList = true) (hB : dotB b.data.toList = true) (hS : (split a.data.toList).length + (split b.data.toList).length ≤ 4) :
    Calls Tryd.prog 5 #[.string a, .string b] w fun e w' => e = .returned (.bool true) ∧ Below w.heap.size w w' := by
  have hs := both_size a b
  have hl := both_list a b
  have hz : dotB (bothOf a b).data.toList = true := by rw [hl, dot_both, hA, hB, decide_eq_true hS]; rfl
  have u1 : Hid (∀ w', Below w.heap.size w w' → Calls Tryd.prog 17 #[.string (bothOf a b), .string a] w' fun e w2 => e = .returned (.bool true) ∧ Below w'.heap.size w' w2) := fun w' h => by
    have := C.under (bothOf a b) a w' (by omega) (by omega) h
    rw [hl, under_both (by rw [← hl]; exact hz) hA] at this; exact this
  have u2 : Hid (∀ w', Below w.heap.size w w' → Calls Tryd.prog 17 #[.string a, .string (bothOf a b)] w' fun e w2 => e = .returned (.bool false) ∧ Below w'.heap.size w' w2) := fun w' h => by
    have := C.under a (bothOf a b) w' (by omega) (by omega) h
    rw [hl, under_not] at this; exact this
  have H0 := Lib.hid C.works
  have DA := C.dottedIs hA (by omega)
  have DB := C.dottedIs hB (by omega)
  have DZ := C.dottedIs hz (by omega)
  have NA := nameIs hn (by omega)
  have PA := C.partsYes hA (by omega)
  have PB := C.partsYes hB (by omega)
  have HA := Lib.hid hA; have HB := Lib.hid hB; have HNB := Lib.hid hn
  have HS := Lib.hid hS; clear hS
  clear C hs hl hz hn hA hB
  go_enter Tryd.func5, Tryd.ntmps5
  go_wp2_with fail
  refine (H0.out).mono ?_
  rintro e w1 ⟨rfl, c1⟩
  go_wp2_with fail
  refine (NA.out _).mono ?_
  rintro e w2 ⟨rfl, b2⟩
  have c2 := c1.trans (b2.mono c1.size)
  go_wp2_with fail
  refine (PA.out _ c2).mono ?_
  rintro e w7 ⟨g, ps, rfl, hs1, ht1, b7⟩
  have c7 := c2.trans (b7.mono c2.size)
  go_wp2_with fail
  refine (PB.out _ c7).mono ?_
  rintro e w8 ⟨g', qs, rfl, hs2, ht2, b8⟩
  have c8 := c7.trans (b8.mono c7.size)
  have hl1 : ps.length = (split a.data.toList).length := by rw [← hs1, List.length_map]
  have p1 : 0 < ps.length := by rw [hl1]; exact List.length_pos_iff.2 (split_ne _)
  have p4 : ps.length ≤ 4 := by have := HA.out; unfold dotB at this; simp only [Bool.and_eq_true, decide_eq_true_eq] at this; rw [hl1]; exact this.1
  have ht1' := ht1.below ht1.lt b8
  have hnm : ∀ j (hj : j < ps.length), nameB ps[j].data.toList = true := fun j hj => by
    have := HA.out; unfold dotB at this; simp only [Bool.and_eq_true, List.all_eq_true] at this
    exact this.2 _ (by rw [← hs1]; exact List.mem_map.2 ⟨_, List.getElem_mem hj, rfl⟩)
  have HS1 := Lib.hid hs1; have HT1 := Lib.hid ht1'; have HNM := Lib.hid hnm
  clear hs1 ht1 ht1' hnm
  have hl2 : qs.length = (split b.data.toList).length := by rw [← hs2, List.length_map]
  have p2 : 0 < qs.length := by rw [hl2]; exact List.length_pos_iff.2 (split_ne _)
  have q4 : qs.length ≤ 4 := by have := HB.out; unfold dotB at this; simp only [Bool.and_eq_true, decide_eq_true_eq] at this; rw [hl2]; exact this.1
  clear hs2 ht2
  have hsum : ps.length + qs.length ≤ 4 := by have := HS.out; omega
  clear hl1 hl2
  go_wp2_with fail
  refine (DA.out _ c8).mono ?_
  rintro e w9 ⟨rfl, b9⟩
  have c9 := c8.trans (b9.mono c8.size)
  go_wp2_with fail
  refine (DB.out _ c9).mono ?_
  rintro e w10 ⟨rfl, b10⟩
  have c10 := c9.trans (b10.mono c9.size)
  have HT2 := Lib.hid (HT1.out.below (TextsAt.lt HT1.out) (b9.trans (b10.mono b9.size)))
  go_wp2
  go_loopw [7] (fun i wr => ∃ k : Nat, k ≤ ps.length ∧ i = .int .i64 k ∧ Below w10.heap.size w10 wr) (fun i _ => ps.length - (intOf i).toNat)
  case atStart => exact ⟨0, Nat.zero_le _, rfl, Below.refl _ _⟩
  case round =>
    obtain ⟨k, hk, rfl, hbr⟩ := hrel
    by_cases h : k < ps.length
    · have hc : wr.cell? ⟨g, k, none⟩ = some (.string ps[k]) := TextsAt.cell (HT2.out.below (TextsAt.lt HT2.out) hbr) h
      have hN := nameIs (HNM.out k h) (by have := nameB_le (HNM.out k h); rw [← size_toList] at this; omega)
      obtain ⟨x, hx⟩ : ∃ x, x = ps[k] := ⟨_, rfl⟩
      rw [← hx] at hc hN
      clear hx
      have b1 : (0 : Int) ≤ (k : Int) := by omega
      have b2 : (k : Int) < (ps.length : Int) := by omega
      have hwr := hbr.size
      go_wp2_with (go_at_call 11; refine (hN.out _).mono ?_; rintro e w11 ⟨rfl, b11⟩)
      go_roundw
      case rel => exact ⟨k + 1, by omega, by go_num, hbr.trans (b11.mono hwr)⟩
      case measure => simp [intOf]; omega
    · obtain rfl : k = ps.length := by omega
      have c11 := c10.trans (hbr.mono c10.size)
      have HT3 := Lib.hid (HT2.out.below (TextsAt.lt HT2.out) hbr)
      clear hk h hbr HT1 HT2
      go_wp2
      go_loopw [8, 9] (fun s i wr2 => JRel ps wr s i wr2) (fun _ i _ => ps.length - (intOf i).toNat)
      case atStart => exact ⟨0, _, Nat.zero_le _, rfl, rfl, rfl, by decide, Below.refl _ _⟩
      case round =>
        obtain ⟨k, t, hk, rfl, rfl, ht, hts, hbr⟩ := hrel
        by_cases h : k < ps.length
        · have hc : wr.cell? ⟨g, k, none⟩ = some (.string ps[k]) := TextsAt.cell (HT3.out.below (TextsAt.lt HT3.out) hbr) h
          have hj := join_take (ps := ps.map (·.data.toList)) (k := k) (by simpa using h)
          have hz : (ps[k].size : Int) ≤ 32 := by have := nameB_le (HNM.out k h); rw [← size_toList] at this; omega
          rw [List.getElem_map] at hj
          obtain ⟨x, hx⟩ : ∃ x, x = ps[k] := ⟨_, rfl⟩
          rw [← hx] at hc hj hz
          clear hx
          have b1 : (0 : Int) ≤ (k : Int) := by omega
          have b2 : (k : Int) < (ps.length : Int) := by omega
          have hd46 : (⟨#[46]⟩ : ByteArray).size = 1 := rfl
          by_cases h0 : k = 0
          · have HJ : Hid ((t ++ x).data.toList = joinD ((ps.map (·.data.toList)).take (k + 1)) ∧ ((t ++ x).size : Int) ≤ 33 * ((k + 1 : Nat) : Int)) := by
              refine ⟨?_, by rw [ByteArray.size_append]; omega⟩
              rw [hj, if_pos h0, ByteArray.data_append, Array.toList_append, ht, h0]; rfl
            have g0 : ¬ (0 : Int) < (k : Int) := by omega
            have g1 : t.size ≤ 1000 := by omega
            have g2 : x.size ≤ 1000 := by omega
            clear hj ht hts hz h0
            go_wp2
            go_roundw
            case rel => exact ⟨k + 1, _, by omega, by go_num, rfl, HJ.out.1, HJ.out.2, hbr⟩
            case measure => simp [intOf]; omega
          · have HJ : Hid ((t ++ ⟨#[46]⟩ ++ x).data.toList = joinD ((ps.map (·.data.toList)).take (k + 1)) ∧ ((t ++ ⟨#[46]⟩ ++ x).size : Int) ≤ 33 * ((k + 1 : Nat) : Int)) := by
              refine ⟨?_, by rw [ByteArray.size_append, ByteArray.size_append, hd46]; omega⟩
              rw [hj, if_neg h0, ByteArray.data_append, Array.toList_append, ByteArray.data_append, Array.toList_append, ht]; simp
            have g0 : (0 : Int) < (k : Int) := by omega
            have g1 : t.size ≤ 1000 := by omega
            have g2 : x.size ≤ 1000 := by omega
            have g3 : (t ++ ⟨#[46]⟩).size ≤ 1001 := by rw [ByteArray.size_append, hd46]; omega
            clear hj ht hts hz h0 hd46
            go_wp2
            go_roundw
            case rel => exact ⟨k + 1, _, by omega, by go_num, rfl, HJ.out.1, HJ.out.2, hbr⟩
            case measure => simp [intOf]; omega
        · obtain rfl : k = ps.length := by omega
          have hta : t = a := by
            have e1 : t.data.toList = a.data.toList := by
              rw [ht, List.take_of_length_le (by simp), HS1.out, join_split]
            cases t; cases a; simpa using e1
          subst hta
          have c12 := c11.trans (hbr.mono c11.size)
          have q0 := bytes_eq t
          clear ht hts hk h hbr HT3
          have hy : Hid (∀ w', Below w.heap.size w w' → Calls Tryd.prog 13 #[.string (bothOf t b)] w' fun e w2 => e = .returned (.bool true) ∧ Below w'.heap.size w' w2) := DZ
          unfold bothOf at *
          have z1 : (t ++ ⟨#[46]⟩).size = t.size + 1 := by rw [ByteArray.size_append]; rfl
          have z2 : (t ++ ⟨#[46]⟩ ++ b).size = t.size + 1 + b.size := by rw [ByteArray.size_append, z1]
          go_wp2_with fail
          refine (DA.out _ c12).mono ?_
          rintro e w13 ⟨rfl, b13⟩
          have c13 := c12.trans (b13.mono c12.size)
          go_wp2_with fail
          refine (hy.out _ c13).mono ?_
          rintro e w14 ⟨rfl, b14⟩
          have c14 := c13.trans (b14.mono c13.size)
          go_wp2_with fail
          refine (u1.out _ c14).mono ?_
          rintro e w15 ⟨rfl, b15⟩
          have c15 := c14.trans (b15.mono c14.size)
          go_wp2_with fail
          refine (u2.out _ c15).mono ?_
          rintro e w16 ⟨rfl, b16⟩
          have c16 := c15.trans (b16.mono c15.size)
          go_wp2
          go_ret
          exact ⟨rfl, c16⟩

set_option maxHeartbeats 2000000 in
set_option maxRecDepth 100000 in
theorem jn5 (a b : ByteArray) (ha : (a.size : Int) ≤ 65536) (hb : (b.size : Int) ≤ 65536) (w : World) (C : JC w)
    (hn : nameB a.data.toList = false) (hA : dotB a.data.toList = true) (hB : dotB b.data.toList = true) (hS : ¬ ((split a.data.toList).length + (split b.data.toList).length ≤ 4)) :
    Calls Tryd.prog 5 #[.string a, .string b] w fun e w' => e = .returned (.bool true) ∧ Below w.heap.size w w' := by
  have hs := both_size a b
  have hl := both_list a b
  have hz : dotB (bothOf a b).data.toList = false := by rw [hl, dot_both, decide_eq_false hS, Bool.and_false]
  have H0 := Lib.hid C.works
  have DA := C.dottedIs hA (by omega)
  have DB := C.dottedIs hB (by omega)
  have DZ := C.dottedIs hz (by omega)
  have NA := nameIs hn (by omega)
  have PA := C.partsYes hA (by omega)
  have PB := C.partsYes hB (by omega)
  have HA := Lib.hid hA; have HB := Lib.hid hB; have HNB := Lib.hid hn
  have HS := Lib.hid hS; clear hS
  clear C hs hl hz hn hA hB
  go_enter Tryd.func5, Tryd.ntmps5
  go_wp2_with fail
  refine (H0.out).mono ?_
  rintro e w1 ⟨rfl, c1⟩
  go_wp2_with fail
  refine (NA.out _).mono ?_
  rintro e w2 ⟨rfl, b2⟩
  have c2 := c1.trans (b2.mono c1.size)
  go_wp2_with fail
  refine (PA.out _ c2).mono ?_
  rintro e w7 ⟨g, ps, rfl, hs1, ht1, b7⟩
  have c7 := c2.trans (b7.mono c2.size)
  go_wp2_with fail
  refine (PB.out _ c7).mono ?_
  rintro e w8 ⟨g', qs, rfl, hs2, ht2, b8⟩
  have c8 := c7.trans (b8.mono c7.size)
  have hl1 : ps.length = (split a.data.toList).length := by rw [← hs1, List.length_map]
  have p1 : 0 < ps.length := by rw [hl1]; exact List.length_pos_iff.2 (split_ne _)
  have p4 : ps.length ≤ 4 := by have := HA.out; unfold dotB at this; simp only [Bool.and_eq_true, decide_eq_true_eq] at this; rw [hl1]; exact this.1
  have ht1' := ht1.below ht1.lt b8
  have hnm : ∀ j (hj : j < ps.length), nameB ps[j].data.toList = true := fun j hj => by
    have := HA.out; unfold dotB at this; simp only [Bool.and_eq_true, List.all_eq_true] at this
    exact this.2 _ (by rw [← hs1]; exact List.mem_map.2 ⟨_, List.getElem_mem hj, rfl⟩)
  have HS1 := Lib.hid hs1; have HT1 := Lib.hid ht1'; have HNM := Lib.hid hnm
  clear hs1 ht1 ht1' hnm
  have hl2 : qs.length = (split b.data.toList).length := by rw [← hs2, List.length_map]
  have p2 : 0 < qs.length := by rw [hl2]; exact List.length_pos_iff.2 (split_ne _)
  have q4 : qs.length ≤ 4 := by have := HB.out; unfold dotB at this; simp only [Bool.and_eq_true, decide_eq_true_eq] at this; rw [hl2]; exact this.1
  clear hs2 ht2
  have hsum : 4 < ps.length + qs.length := by have := HS.out; omega
  clear hl1 hl2
  go_wp2_with fail
  refine (DA.out _ c8).mono ?_
  rintro e w9 ⟨rfl, b9⟩
  have c9 := c8.trans (b9.mono c8.size)
  go_wp2_with fail
  refine (DB.out _ c9).mono ?_
  rintro e w10 ⟨rfl, b10⟩
  have c10 := c9.trans (b10.mono c9.size)
  have HT2 := Lib.hid (HT1.out.below (TextsAt.lt HT1.out) (b9.trans (b10.mono b9.size)))
  go_wp2
  go_loopw [7] (fun i wr => ∃ k : Nat, k ≤ ps.length ∧ i = .int .i64 k ∧ Below w10.heap.size w10 wr) (fun i _ => ps.length - (intOf i).toNat)
  case atStart => exact ⟨0, Nat.zero_le _, rfl, Below.refl _ _⟩
  case round =>
    obtain ⟨k, hk, rfl, hbr⟩ := hrel
    by_cases h : k < ps.length
    · have hc : wr.cell? ⟨g, k, none⟩ = some (.string ps[k]) := TextsAt.cell (HT2.out.below (TextsAt.lt HT2.out) hbr) h
      have hN := nameIs (HNM.out k h) (by have := nameB_le (HNM.out k h); rw [← size_toList] at this; omega)
      obtain ⟨x, hx⟩ : ∃ x, x = ps[k] := ⟨_, rfl⟩
      rw [← hx] at hc hN
      clear hx
      have b1 : (0 : Int) ≤ (k : Int) := by omega
      have b2 : (k : Int) < (ps.length : Int) := by omega
      have hwr := hbr.size
      go_wp2_with (go_at_call 11; refine (hN.out _).mono ?_; rintro e w11 ⟨rfl, b11⟩)
      go_roundw
      case rel => exact ⟨k + 1, by omega, by go_num, hbr.trans (b11.mono hwr)⟩
      case measure => simp [intOf]; omega
    · obtain rfl : k = ps.length := by omega
      have c11 := c10.trans (hbr.mono c10.size)
      have HT3 := Lib.hid (HT2.out.below (TextsAt.lt HT2.out) hbr)
      clear hk h hbr HT1 HT2
      go_wp2
      go_loopw [8, 9] (fun s i wr2 => JRel ps wr s i wr2) (fun _ i _ => ps.length - (intOf i).toNat)
      case atStart => exact ⟨0, _, Nat.zero_le _, rfl, rfl, rfl, by decide, Below.refl _ _⟩
      case round =>
        obtain ⟨k, t, hk, rfl, rfl, ht, hts, hbr⟩ := hrel
        by_cases h : k < ps.length
        · have hc : wr.cell? ⟨g, k, none⟩ = some (.string ps[k]) := TextsAt.cell (HT3.out.below (TextsAt.lt HT3.out) hbr) h
          have hj := join_take (ps := ps.map (·.data.toList)) (k := k) (by simpa using h)
          have hz : (ps[k].size : Int) ≤ 32 := by have := nameB_le (HNM.out k h); rw [← size_toList] at this; omega
          rw [List.getElem_map] at hj
          obtain ⟨x, hx⟩ : ∃ x, x = ps[k] := ⟨_, rfl⟩
          rw [← hx] at hc hj hz
          clear hx
          have b1 : (0 : Int) ≤ (k : Int) := by omega
          have b2 : (k : Int) < (ps.length : Int) := by omega
          have hd46 : (⟨#[46]⟩ : ByteArray).size = 1 := rfl
          by_cases h0 : k = 0
          · have HJ : Hid ((t ++ x).data.toList = joinD ((ps.map (·.data.toList)).take (k + 1)) ∧ ((t ++ x).size : Int) ≤ 33 * ((k + 1 : Nat) : Int)) := by
              refine ⟨?_, by rw [ByteArray.size_append]; omega⟩
              rw [hj, if_pos h0, ByteArray.data_append, Array.toList_append, ht, h0]; rfl
            have g0 : ¬ (0 : Int) < (k : Int) := by omega
            have g1 : t.size ≤ 1000 := by omega
            have g2 : x.size ≤ 1000 := by omega
            clear hj ht hts hz h0
            go_wp2
            go_roundw
            case rel => exact ⟨k + 1, _, by omega, by go_num, rfl, HJ.out.1, HJ.out.2, hbr⟩
            case measure => simp [intOf]; omega
          · have HJ : Hid ((t ++ ⟨#[46]⟩ ++ x).data.toList = joinD ((ps.map (·.data.toList)).take (k + 1)) ∧ ((t ++ ⟨#[46]⟩ ++ x).size : Int) ≤ 33 * ((k + 1 : Nat) : Int)) := by
              refine ⟨?_, by rw [ByteArray.size_append, ByteArray.size_append, hd46]; omega⟩
              rw [hj, if_neg h0, ByteArray.data_append, Array.toList_append, ByteArray.data_append, Array.toList_append, ht]; simp
            have g0 : (0 : Int) < (k : Int) := by omega
            have g1 : t.size ≤ 1000 := by omega
            have g2 : x.size ≤ 1000 := by omega
            have g3 : (t ++ ⟨#[46]⟩).size ≤ 1001 := by rw [ByteArray.size_append, hd46]; omega
            clear hj ht hts hz h0 hd46
            go_wp2
            go_roundw
            case rel => exact ⟨k + 1, _, by omega, by go_num, rfl, HJ.out.1, HJ.out.2, hbr⟩
            case measure => simp [intOf]; omega
        · obtain rfl : k = ps.length := by omega
          have hta : t = a := by
            have e1 : t.data.toList = a.data.toList := by
              rw [ht, List.take_of_length_le (by simp), HS1.out, join_split]
            cases t; cases a; simpa using e1
          subst hta
          have c12 := c11.trans (hbr.mono c11.size)
          have q0 := bytes_eq t
          clear ht hts hk h hbr HT3
          have hy : Hid (∀ w', Below w.heap.size w w' → Calls Tryd.prog 13 #[.string (bothOf t b)] w' fun e w2 => e = .returned (.bool false) ∧ Below w'.heap.size w' w2) := DZ
          unfold bothOf at *
          have z1 : (t ++ ⟨#[46]⟩).size = t.size + 1 := by rw [ByteArray.size_append]; rfl
          have z2 : (t ++ ⟨#[46]⟩ ++ b).size = t.size + 1 + b.size := by rw [ByteArray.size_append, z1]
          go_wp2_with fail
          refine (DA.out _ c12).mono ?_
          rintro e w13 ⟨rfl, b13⟩
          have c13 := c12.trans (b13.mono c12.size)
          go_wp2_with fail
          refine (hy.out _ c13).mono ?_
          rintro e w14 ⟨rfl, b14⟩
          have c14 := c13.trans (b14.mono c13.size)
          go_wp2
          go_ret
          exact ⟨rfl, c14⟩

set_option maxHeartbeats 2000000 in
set_option maxRecDepth 100000 in
theorem jn6 (a b : ByteArray) (ha : (a.size : Int) ≤ 65536) (hb : (b.size : Int) ≤ 65536) (w : World) (C : JC w)
    (hn : nameB a.data.toList = true) (hA : dotB a.data.toList = true) (hB : dotB b.data.toList = false) :
    Calls Tryd.prog 5 #[.string a, .string b] w fun e w' => e = .returned (.bool true) ∧ Below w.heap.size w w' := by
  have hs := both_size a b
  have hl := both_list a b
  have hz : dotB (bothOf a b).data.toList = false := by rw [hl, dot_both, hA, hB]; simp
  have H0 := Lib.hid C.works
  have DA := C.dottedIs hA (by omega)
  have DB := C.dottedIs hB (by omega)
  have DZ := C.dottedIs hz (by omega)
  have NA := nameIs hn (by omega)
  have PA := C.partsYes hA (by omega)
  have PB := C.partsNo hB (by omega)
  have HA := Lib.hid hA; have HB := Lib.hid hB; have HNB := Lib.hid hn
  clear C hs hl hz hn hA hB
  go_enter Tryd.func5, Tryd.ntmps5
  go_wp2_with fail
  refine (H0.out).mono ?_
  rintro e w1 ⟨rfl, c1⟩
  go_wp2_with fail
  refine (NA.out _).mono ?_
  rintro e w2 ⟨rfl, b2⟩
  have c2 := c1.trans (b2.mono c1.size)
  go_wp2_with fail
  refine (DA.out _ c2).mono ?_
  rintro e w3 ⟨rfl, b3⟩
  have c3 := c2.trans (b3.mono c2.size)
  go_wp2_with fail
  refine (PA.out _ c3).mono ?_
  rintro e w4 ⟨g0, ps0, rfl, hs0, ht0, b4⟩
  have c4 := c3.trans (b4.mono c3.size)
  have e0 : ps0 = [a] := map_inj (hs0.trans (by rw [name_split HNB.out]; rfl))
  subst e0
  clear hs0
  have hal : Hid (TextList (w4.alloc (.cells #[.string a] 9)) (.slice (some ⟨w4.heap.size, 0, none⟩) 1 1) [a]) := Lib.hid (TextsAt.list (ps := [a]) (Ut.alloc_at _ _) 1)
  have hbl : Below w4.heap.size w4 (w4.alloc (.cells #[.string a] 9)) := (Below.refl _ _).alloc (Nat.le_refl _) _
  have hsm : Hid (Calls Tryd.prog 15 #[.slice (some ⟨g0, 0, none⟩) 1 1, .slice (some ⟨w4.heap.size, 0, none⟩) 1 1] (w4.alloc (.cells #[.string a] 9)) fun e w' => e = .returned (.bool true) ∧ Below (w4.alloc (.cells #[.string a] 9)).heap.size (w4.alloc (.cells #[.string a] 9)) w') := by
    have := same_any _ _ [a] [a] (show ((1 : Nat) : Int) ≤ _ by omega) (show ((1 : Nat) : Int) ≤ _ by omega) _ ((TextsAt.list ht0 1).below hbl) hal.out
    rw [decide_eq_true rfl] at this; exact this
  have c5 := c4.trans (hbl.mono c4.size)
  clear hal ht0 hbl
  go_wp2_with (go_at_call 15; refine hsm.out.mono ?_; rintro e w6 ⟨rfl, b6⟩)
  have c6 := c5.trans (b6.mono c5.size)
  refine (PA.out _ c6).mono ?_
  rintro e w7 ⟨g, ps, rfl, hs1, ht1, b7⟩
  have c7 := c6.trans (b7.mono c6.size)
  go_wp2_with fail
  refine (PB.out _ c7).mono ?_
  rintro e w8 ⟨rfl, b8⟩
  have c8 := c7.trans (b8.mono c7.size)
  have hl1 : ps.length = (split a.data.toList).length := by rw [← hs1, List.length_map]
  have p1 : 0 < ps.length := by rw [hl1]; exact List.length_pos_iff.2 (split_ne _)
  have p4 : ps.length ≤ 4 := by have := HA.out; unfold dotB at this; simp only [Bool.and_eq_true, decide_eq_true_eq] at this; rw [hl1]; exact this.1
  have ht1' := ht1.below ht1.lt b8
  have hnm : ∀ j (hj : j < ps.length), nameB ps[j].data.toList = true := fun j hj => by
    have := HA.out; unfold dotB at this; simp only [Bool.and_eq_true, List.all_eq_true] at this
    exact this.2 _ (by rw [← hs1]; exact List.mem_map.2 ⟨_, List.getElem_mem hj, rfl⟩)
  have HS1 := Lib.hid hs1; have HT1 := Lib.hid ht1'; have HNM := Lib.hid hnm
  clear hs1 ht1 ht1' hnm
  clear hl1
  go_wp2_with fail
  refine (DA.out _ c8).mono ?_
  rintro e w9 ⟨rfl, b9⟩
  have c9 := c8.trans (b9.mono c8.size)
  go_wp2_with fail
  refine (DB.out _ c9).mono ?_
  rintro e w10 ⟨rfl, b10⟩
  have c10 := c9.trans (b10.mono c9.size)
  have HT2 := Lib.hid (HT1.out.below (TextsAt.lt HT1.out) (b9.trans (b10.mono b9.size)))
  go_wp2
  go_loopw [7] (fun i wr => ∃ k : Nat, k ≤ ps.length ∧ i = .int .i64 k ∧ Below w10.heap.size w10 wr) (fun i _ => ps.length - (intOf i).toNat)
  case atStart => exact ⟨0, Nat.zero_le _, rfl, Below.refl _ _⟩
  case round =>
    obtain ⟨k, hk, rfl, hbr⟩ := hrel
    by_cases h : k < ps.length
    · have hc : wr.cell? ⟨g, k, none⟩ = some (.string ps[k]) := TextsAt.cell (HT2.out.below (TextsAt.lt HT2.out) hbr) h
      have hN := nameIs (HNM.out k h) (by have := nameB_le (HNM.out k h); rw [← size_toList] at this; omega)
      obtain ⟨x, hx⟩ : ∃ x, x = ps[k] := ⟨_, rfl⟩
      rw [← hx] at hc hN
      clear hx
      have b1 : (0 : Int) ≤ (k : Int) := by omega
      have b2 : (k : Int) < (ps.length : Int) := by omega
      have hwr := hbr.size
      go_wp2_with (go_at_call 11; refine (hN.out _).mono ?_; rintro e w11 ⟨rfl, b11⟩)
      go_roundw
      case rel => exact ⟨k + 1, by omega, by go_num, hbr.trans (b11.mono hwr)⟩
      case measure => simp [intOf]; omega
    · obtain rfl : k = ps.length := by omega
      have c11 := c10.trans (hbr.mono c10.size)
      have HT3 := Lib.hid (HT2.out.below (TextsAt.lt HT2.out) hbr)
      clear hk h hbr HT1 HT2
      go_wp2
      go_loopw [8, 9] (fun s i wr2 => JRel ps wr s i wr2) (fun _ i _ => ps.length - (intOf i).toNat)
      case atStart => exact ⟨0, _, Nat.zero_le _, rfl, rfl, rfl, by decide, Below.refl _ _⟩
      case round =>
        obtain ⟨k, t, hk, rfl, rfl, ht, hts, hbr⟩ := hrel
        by_cases h : k < ps.length
        · have hc : wr.cell? ⟨g, k, none⟩ = some (.string ps[k]) := TextsAt.cell (HT3.out.below (TextsAt.lt HT3.out) hbr) h
          have hj := join_take (ps := ps.map (·.data.toList)) (k := k) (by simpa using h)
          have hz : (ps[k].size : Int) ≤ 32 := by have := nameB_le (HNM.out k h); rw [← size_toList] at this; omega
          rw [List.getElem_map] at hj
          obtain ⟨x, hx⟩ : ∃ x, x = ps[k] := ⟨_, rfl⟩
          rw [← hx] at hc hj hz
          clear hx
          have b1 : (0 : Int) ≤ (k : Int) := by omega
          have b2 : (k : Int) < (ps.length : Int) := by omega
          have hd46 : (⟨#[46]⟩ : ByteArray).size = 1 := rfl
          by_cases h0 : k = 0
          · have HJ : Hid ((t ++ x).data.toList = joinD ((ps.map (·.data.toList)).take (k + 1)) ∧ ((t ++ x).size : Int) ≤ 33 * ((k + 1 : Nat) : Int)) := by
              refine ⟨?_, by rw [ByteArray.size_append]; omega⟩
              rw [hj, if_pos h0, ByteArray.data_append, Array.toList_append, ht, h0]; rfl
            have g0 : ¬ (0 : Int) < (k : Int) := by omega
            have g1 : t.size ≤ 1000 := by omega
            have g2 : x.size ≤ 1000 := by omega
            clear hj ht hts hz h0
            go_wp2
            go_roundw
            case rel => exact ⟨k + 1, _, by omega, by go_num, rfl, HJ.out.1, HJ.out.2, hbr⟩
            case measure => simp [intOf]; omega
          · have HJ : Hid ((t ++ ⟨#[46]⟩ ++ x).data.toList = joinD ((ps.map (·.data.toList)).take (k + 1)) ∧ ((t ++ ⟨#[46]⟩ ++ x).size : Int) ≤ 33 * ((k + 1 : Nat) : Int)) := by
              refine ⟨?_, by rw [ByteArray.size_append, ByteArray.size_append, hd46]; omega⟩
              rw [hj, if_neg h0, ByteArray.data_append, Array.toList_append, ByteArray.data_append, Array.toList_append, ht]; simp
            have g0 : (0 : Int) < (k : Int) := by omega
            have g1 : t.size ≤ 1000 := by omega
            have g2 : x.size ≤ 1000 := by omega
            have g3 : (t ++ ⟨#[46]⟩).size ≤ 1001 := by rw [ByteArray.size_append, hd46]; omega
            clear hj ht hts hz h0 hd46
            go_wp2
            go_roundw
            case rel => exact ⟨k + 1, _, by omega, by go_num, rfl, HJ.out.1, HJ.out.2, hbr⟩
            case measure => simp [intOf]; omega
        · obtain rfl : k = ps.length := by omega
          have hta : t = a := by
            have e1 : t.data.toList = a.data.toList := by
              rw [ht, List.take_of_length_le (by simp), HS1.out, join_split]
            cases t; cases a; simpa using e1
          subst hta
          have c12 := c11.trans (hbr.mono c11.size)
          have q0 := bytes_eq t
          clear ht hts hk h hbr HT3
          have hy : Hid (∀ w', Below w.heap.size w w' → Calls Tryd.prog 13 #[.string (bothOf t b)] w' fun e w2 => e = .returned (.bool false) ∧ Below w'.heap.size w' w2) := DZ
          unfold bothOf at *
          have z1 : (t ++ ⟨#[46]⟩).size = t.size + 1 := by rw [ByteArray.size_append]; rfl
          have z2 : (t ++ ⟨#[46]⟩ ++ b).size = t.size + 1 + b.size := by rw [ByteArray.size_append, z1]
          go_wp2_with fail
          refine (DA.out _ c12).mono ?_
          rintro e w13 ⟨rfl, b13⟩
          have c13 := c12.trans (b13.mono c12.size)
          go_wp2_with fail
          refine (hy.out _ c13).mono ?_
          rintro e w14 ⟨rfl, b14⟩
          have c14 := c13.trans (b14.mono c13.size)
          go_wp2
          go_ret
          exact ⟨rfl, c14⟩

set_option maxHeartbeats 2000000 in
set_option maxRecDepth 100000 in
theorem jn7 (a b : ByteArray) (ha : (a.size : Int) ≤ 65536) (hb : (b.size : Int) ≤ 65536) (w : World) (C : JC w)
    (hn : nameB a.data.toList = true) (hA : dotB a.data.toList = true) (hB : dotB b.data.toList = true) (hS : (split a.data.toList).length + (split b.data.toList).length ≤ 4) :
    Calls Tryd.prog 5 #[.string a, .string b] w fun e w' => e = .returned (.bool true) ∧ Below w.heap.size w w' := by
  have hs := both_size a b
  have hl := both_list a b
  have hz : dotB (bothOf a b).data.toList = true := by rw [hl, dot_both, hA, hB, decide_eq_true hS]; rfl
  have u1 : Hid (∀ w', Below w.heap.size w w' → Calls Tryd.prog 17 #[.string (bothOf a b), .string a] w' fun e w2 => e = .returned (.bool true) ∧ Below w'.heap.size w' w2) := fun w' h => by
    have := C.under (bothOf a b) a w' (by omega) (by omega) h
    rw [hl, under_both (by rw [← hl]; exact hz) hA] at this; exact this
  have u2 : Hid (∀ w', Below w.heap.size w w' → Calls Tryd.prog 17 #[.string a, .string (bothOf a b)] w' fun e w2 => e = .returned (.bool false) ∧ Below w'.heap.size w' w2) := fun w' h => by
    have := C.under a (bothOf a b) w' (by omega) (by omega) h
    rw [hl, under_not] at this; exact this
  have H0 := Lib.hid C.works
  have DA := C.dottedIs hA (by omega)
  have DB := C.dottedIs hB (by omega)
  have DZ := C.dottedIs hz (by omega)
  have NA := nameIs hn (by omega)
  have PA := C.partsYes hA (by omega)
  have PB := C.partsYes hB (by omega)
  have HA := Lib.hid hA; have HB := Lib.hid hB; have HNB := Lib.hid hn
  have HS := Lib.hid hS; clear hS
  clear C hs hl hz hn hA hB
  go_enter Tryd.func5, Tryd.ntmps5
  go_wp2_with fail
  refine (H0.out).mono ?_
  rintro e w1 ⟨rfl, c1⟩
  go_wp2_with fail
  refine (NA.out _).mono ?_
  rintro e w2 ⟨rfl, b2⟩
  have c2 := c1.trans (b2.mono c1.size)
  go_wp2_with fail
  refine (DA.out _ c2).mono ?_
  rintro e w3 ⟨rfl, b3⟩
  have c3 := c2.trans (b3.mono c2.size)
  go_wp2_with fail
  refine (PA.out _ c3).mono ?_
  rintro e w4 ⟨g0, ps0, rfl, hs0, ht0, b4⟩
  have c4 := c3.trans (b4.mono c3.size)
  have e0 : ps0 = [a] := map_inj (hs0.trans (by rw [name_split HNB.out]; rfl))
  subst e0
  clear hs0
  have hal : Hid (TextList (w4.alloc (.cells #[.string a] 9)) (.slice (some ⟨w4.heap.size, 0, none⟩) 1 1) [a]) := Lib.hid (TextsAt.list (ps := [a]) (Ut.alloc_at _ _) 1)
  have hbl : Below w4.heap.size w4 (w4.alloc (.cells #[.string a] 9)) := (Below.refl _ _).alloc (Nat.le_refl _) _
  have hsm : Hid (Calls Tryd.prog 15 #[.slice (some ⟨g0, 0, none⟩) 1 1, .slice (some ⟨w4.heap.size, 0, none⟩) 1 1] (w4.alloc (.cells #[.string a] 9)) fun e w' => e = .returned (.bool true) ∧ Below (w4.alloc (.cells #[.string a] 9)).heap.size (w4.alloc (.cells #[.string a] 9)) w') := by
    have := same_any _ _ [a] [a] (show ((1 : Nat) : Int) ≤ _ by omega) (show ((1 : Nat) : Int) ≤ _ by omega) _ ((TextsAt.list ht0 1).below hbl) hal.out
    rw [decide_eq_true rfl] at this; exact this
  have c5 := c4.trans (hbl.mono c4.size)
  clear hal ht0 hbl
  go_wp2_with (go_at_call 15; refine hsm.out.mono ?_; rintro e w6 ⟨rfl, b6⟩)
  have c6 := c5.trans (b6.mono c5.size)
  refine (PA.out _ c6).mono ?_
  rintro e w7 ⟨g, ps, rfl, hs1, ht1, b7⟩
  have c7 := c6.trans (b7.mono c6.size)
  go_wp2_with fail
  refine (PB.out _ c7).mono ?_
  rintro e w8 ⟨g', qs, rfl, hs2, ht2, b8⟩
  have c8 := c7.trans (b8.mono c7.size)
  have hl1 : ps.length = (split a.data.toList).length := by rw [← hs1, List.length_map]
  have p1 : 0 < ps.length := by rw [hl1]; exact List.length_pos_iff.2 (split_ne _)
  have p4 : ps.length ≤ 4 := by have := HA.out; unfold dotB at this; simp only [Bool.and_eq_true, decide_eq_true_eq] at this; rw [hl1]; exact this.1
  have ht1' := ht1.below ht1.lt b8
  have hnm : ∀ j (hj : j < ps.length), nameB ps[j].data.toList = true := fun j hj => by
    have := HA.out; unfold dotB at this; simp only [Bool.and_eq_true, List.all_eq_true] at this
    exact this.2 _ (by rw [← hs1]; exact List.mem_map.2 ⟨_, List.getElem_mem hj, rfl⟩)
  have HS1 := Lib.hid hs1; have HT1 := Lib.hid ht1'; have HNM := Lib.hid hnm
  clear hs1 ht1 ht1' hnm
  have hl2 : qs.length = (split b.data.toList).length := by rw [← hs2, List.length_map]
  have p2 : 0 < qs.length := by rw [hl2]; exact List.length_pos_iff.2 (split_ne _)
  have q4 : qs.length ≤ 4 := by have := HB.out; unfold dotB at this; simp only [Bool.and_eq_true, decide_eq_true_eq] at this; rw [hl2]; exact this.1
  clear hs2 ht2
  have hsum : ps.length + qs.length ≤ 4 := by have := HS.out; omega
  clear hl1 hl2
  go_wp2_with fail
  refine (DA.out _ c8).mono ?_
  rintro e w9 ⟨rfl, b9⟩
  have c9 := c8.trans (b9.mono c8.size)
  go_wp2_with fail
  refine (DB.out _ c9).mono ?_
  rintro e w10 ⟨rfl, b10⟩
  have c10 := c9.trans (b10.mono c9.size)
  have HT2 := Lib.hid (HT1.out.below (TextsAt.lt HT1.out) (b9.trans (b10.mono b9.size)))
  go_wp2
  go_loopw [7] (fun i wr => ∃ k : Nat, k ≤ ps.length ∧ i = .int .i64 k ∧ Below w10.heap.size w10 wr) (fun i _ => ps.length - (intOf i).toNat)
  case atStart => exact ⟨0, Nat.zero_le _, rfl, Below.refl _ _⟩
  case round =>
    obtain ⟨k, hk, rfl, hbr⟩ := hrel
    by_cases h : k < ps.length
    · have hc : wr.cell? ⟨g, k, none⟩ = some (.string ps[k]) := TextsAt.cell (HT2.out.below (TextsAt.lt HT2.out) hbr) h
      have hN := nameIs (HNM.out k h) (by have := nameB_le (HNM.out k h); rw [← size_toList] at this; omega)
      obtain ⟨x, hx⟩ : ∃ x, x = ps[k] := ⟨_, rfl⟩
      rw [← hx] at hc hN
      clear hx
      have b1 : (0 : Int) ≤ (k : Int) := by omega
      have b2 : (k : Int) < (ps.length : Int) := by omega
      have hwr := hbr.size
      go_wp2_with (go_at_call 11; refine (hN.out _).mono ?_; rintro e w11 ⟨rfl, b11⟩)
      go_roundw
      case rel => exact ⟨k + 1, by omega, by go_num, hbr.trans (b11.mono hwr)⟩
      case measure => simp [intOf]; omega
    · obtain rfl : k = ps.length := by omega
      have c11 := c10.trans (hbr.mono c10.size)
      have HT3 := Lib.hid (HT2.out.below (TextsAt.lt HT2.out) hbr)
      clear hk h hbr HT1 HT2
      go_wp2
      go_loopw [8, 9] (fun s i wr2 => JRel ps wr s i wr2) (fun _ i _ => ps.length - (intOf i).toNat)
      case atStart => exact ⟨0, _, Nat.zero_le _, rfl, rfl, rfl, by decide, Below.refl _ _⟩
      case round =>
        obtain ⟨k, t, hk, rfl, rfl, ht, hts, hbr⟩ := hrel
        by_cases h : k < ps.length
        · have hc : wr.cell? ⟨g, k, none⟩ = some (.string ps[k]) := TextsAt.cell (HT3.out.below (TextsAt.lt HT3.out) hbr) h
          have hj := join_take (ps := ps.map (·.data.toList)) (k := k) (by simpa using h)
          have hz : (ps[k].size : Int) ≤ 32 := by have := nameB_le (HNM.out k h); rw [← size_toList] at this; omega
          rw [List.getElem_map] at hj
          obtain ⟨x, hx⟩ : ∃ x, x = ps[k] := ⟨_, rfl⟩
          rw [← hx] at hc hj hz
          clear hx
          have b1 : (0 : Int) ≤ (k : Int) := by omega
          have b2 : (k : Int) < (ps.length : Int) := by omega
          have hd46 : (⟨#[46]⟩ : ByteArray).size = 1 := rfl
          by_cases h0 : k = 0
          · have HJ : Hid ((t ++ x).data.toList = joinD ((ps.map (·.data.toList)).take (k + 1)) ∧ ((t ++ x).size : Int) ≤ 33 * ((k + 1 : Nat) : Int)) := by
              refine ⟨?_, by rw [ByteArray.size_append]; omega⟩
              rw [hj, if_pos h0, ByteArray.data_append, Array.toList_append, ht, h0]; rfl
            have g0 : ¬ (0 : Int) < (k : Int) := by omega
            have g1 : t.size ≤ 1000 := by omega
            have g2 : x.size ≤ 1000 := by omega
            clear hj ht hts hz h0
            go_wp2
            go_roundw
            case rel => exact ⟨k + 1, _, by omega, by go_num, rfl, HJ.out.1, HJ.out.2, hbr⟩
            case measure => simp [intOf]; omega
          · have HJ : Hid ((t ++ ⟨#[46]⟩ ++ x).data.toList = joinD ((ps.map (·.data.toList)).take (k + 1)) ∧ ((t ++ ⟨#[46]⟩ ++ x).size : Int) ≤ 33 * ((k + 1 : Nat) : Int)) := by
              refine ⟨?_, by rw [ByteArray.size_append, ByteArray.size_append, hd46]; omega⟩
              rw [hj, if_neg h0, ByteArray.data_append, Array.toList_append, ByteArray.data_append, Array.toList_append, ht]; simp
            have g0 : (0 : Int) < (k : Int) := by omega
            have g1 : t.size ≤ 1000 := by omega
            have g2 : x.size ≤ 1000 := by omega
            have g3 : (t ++ ⟨#[46]⟩).size ≤ 1001 := by rw [ByteArray.size_append, hd46]; omega
            clear hj ht hts hz h0 hd46
            go_wp2
            go_roundw
            case rel => exact ⟨k + 1, _, by omega, by go_num, rfl, HJ.out.1, HJ.out.2, hbr⟩
            case measure => simp [intOf]; omega
        · obtain rfl : k = ps.length := by omega
          have hta : t = a := by
            have e1 : t.data.toList = a.data.toList := by
              rw [ht, List.take_of_length_le (by simp), HS1.out, join_split]
            cases t; cases a; simpa using e1
          subst hta
          have c12 := c11.trans (hbr.mono c11.size)
          have q0 := bytes_eq t
          clear ht hts hk h hbr HT3
          have hy : Hid (∀ w', Below w.heap.size w w' → Calls Tryd.prog 13 #[.string (bothOf t b)] w' fun e w2 => e = .returned (.bool true) ∧ Below w'.heap.size w' w2) := DZ
          unfold bothOf at *
          have z1 : (t ++ ⟨#[46]⟩).size = t.size + 1 := by rw [ByteArray.size_append]; rfl
          have z2 : (t ++ ⟨#[46]⟩ ++ b).size = t.size + 1 + b.size := by rw [ByteArray.size_append, z1]
          go_wp2_with fail
          refine (DA.out _ c12).mono ?_
          rintro e w13 ⟨rfl, b13⟩
          have c13 := c12.trans (b13.mono c12.size)
          go_wp2_with fail
          refine (hy.out _ c13).mono ?_
          rintro e w14 ⟨rfl, b14⟩
          have c14 := c13.trans (b14.mono c13.size)
          go_wp2_with fail
          refine (u1.out _ c14).mono ?_
          rintro e w15 ⟨rfl, b15⟩
          have c15 := c14.trans (b15.mono c14.size)
          go_wp2_with fail
          refine (u2.out _ c15).mono ?_
          rintro e w16 ⟨rfl, b16⟩
          have c16 := c15.trans (b16.mono c15.size)
          go_wp2
          go_ret
          exact ⟨rfl, c16⟩

set_option maxHeartbeats 2000000 in
set_option maxRecDepth 100000 in
theorem jn8 (a b : ByteArray) (ha : (a.size : Int) ≤ 65536) (hb : (b.size : Int) ≤ 65536) (w : World) (C : JC w)
    (hn : nameB a.data.toList = true) (hA : dotB a.data.toList = true) (hB : dotB b.data.toList = true) (hS : ¬ ((split a.data.toList).length + (split b.data.toList).length ≤ 4)) :
    Calls Tryd.prog 5 #[.string a, .string b] w fun e w' => e = .returned (.bool true) ∧ Below w.heap.size w w' := by
  have hs := both_size a b
  have hl := both_list a b
  have hz : dotB (bothOf a b).data.toList = false := by rw [hl, dot_both, decide_eq_false hS, Bool.and_false]
  have H0 := Lib.hid C.works
  have DA := C.dottedIs hA (by omega)
  have DB := C.dottedIs hB (by omega)
  have DZ := C.dottedIs hz (by omega)
  have NA := nameIs hn (by omega)
  have PA := C.partsYes hA (by omega)
  have PB := C.partsYes hB (by omega)
  have HA := Lib.hid hA; have HB := Lib.hid hB; have HNB := Lib.hid hn
  have HS := Lib.hid hS; clear hS
  clear C hs hl hz hn hA hB
  go_enter Tryd.func5, Tryd.ntmps5
  go_wp2_with fail
  refine (H0.out).mono ?_
  rintro e w1 ⟨rfl, c1⟩
  go_wp2_with fail
  refine (NA.out _).mono ?_
  rintro e w2 ⟨rfl, b2⟩
  have c2 := c1.trans (b2.mono c1.size)
  go_wp2_with fail
  refine (DA.out _ c2).mono ?_
  rintro e w3 ⟨rfl, b3⟩
  have c3 := c2.trans (b3.mono c2.size)
  go_wp2_with fail
  refine (PA.out _ c3).mono ?_
  rintro e w4 ⟨g0, ps0, rfl, hs0, ht0, b4⟩
  have c4 := c3.trans (b4.mono c3.size)
  have e0 : ps0 = [a] := map_inj (hs0.trans (by rw [name_split HNB.out]; rfl))
  subst e0
  clear hs0
  have hal : Hid (TextList (w4.alloc (.cells #[.string a] 9)) (.slice (some ⟨w4.heap.size, 0, none⟩) 1 1) [a]) := Lib.hid (TextsAt.list (ps := [a]) (Ut.alloc_at _ _) 1)
  have hbl : Below w4.heap.size w4 (w4.alloc (.cells #[.string a] 9)) := (Below.refl _ _).alloc (Nat.le_refl _) _
  have hsm : Hid (Calls Tryd.prog 15 #[.slice (some ⟨g0, 0, none⟩) 1 1, .slice (some ⟨w4.heap.size, 0, none⟩) 1 1] (w4.alloc (.cells #[.string a] 9)) fun e w' => e = .returned (.bool true) ∧ Below (w4.alloc (.cells #[.string a] 9)).heap.size (w4.alloc (.cells #[.string a] 9)) w') := by
    have := same_any _ _ [a] [a] (show ((1 : Nat) : Int) ≤ _ by omega) (show ((1 : Nat) : Int) ≤ _ by omega) _ ((TextsAt.list ht0 1).below hbl) hal.out
    rw [decide_eq_true rfl] at this; exact this
  have c5 := c4.trans (hbl.mono c4.size)
  clear hal ht0 hbl
  go_wp2_with (go_at_call 15; refine hsm.out.mono ?_; rintro e w6 ⟨rfl, b6⟩)
  have c6 := c5.trans (b6.mono c5.size)
  refine (PA.out _ c6).mono ?_
  rintro e w7 ⟨g, ps, rfl, hs1, ht1, b7⟩
  have c7 := c6.trans (b7.mono c6.size)
  go_wp2_with fail
  refine (PB.out _ c7).mono ?_
  rintro e w8 ⟨g', qs, rfl, hs2, ht2, b8⟩
  have c8 := c7.trans (b8.mono c7.size)
  have hl1 : ps.length = (split a.data.toList).length := by rw [← hs1, List.length_map]
  have p1 : 0 < ps.length := by rw [hl1]; exact List.length_pos_iff.2 (split_ne _)
  have p4 : ps.length ≤ 4 := by have := HA.out; unfold dotB at this; simp only [Bool.and_eq_true, decide_eq_true_eq] at this; rw [hl1]; exact this.1
  have ht1' := ht1.below ht1.lt b8
  have hnm : ∀ j (hj : j < ps.length), nameB ps[j].data.toList = true := fun j hj => by
    have := HA.out; unfold dotB at this; simp only [Bool.and_eq_true, List.all_eq_true] at this
    exact this.2 _ (by rw [← hs1]; exact List.mem_map.2 ⟨_, List.getElem_mem hj, rfl⟩)
  have HS1 := Lib.hid hs1; have HT1 := Lib.hid ht1'; have HNM := Lib.hid hnm
  clear hs1 ht1 ht1' hnm
  have hl2 : qs.length = (split b.data.toList).length := by rw [← hs2, List.length_map]
  have p2 : 0 < qs.length := by rw [hl2]; exact List.length_pos_iff.2 (split_ne _)
  have q4 : qs.length ≤ 4 := by have := HB.out; unfold dotB at this; simp only [Bool.and_eq_true, decide_eq_true_eq] at this; rw [hl2]; exact this.1
  clear hs2 ht2
  have hsum : 4 < ps.length + qs.length := by have := HS.out; omega
  clear hl1 hl2
  go_wp2_with fail
  refine (DA.out _ c8).mono ?_
  rintro e w9 ⟨rfl, b9⟩
  have c9 := c8.trans (b9.mono c8.size)
  go_wp2_with fail
  refine (DB.out _ c9).mono ?_
  rintro e w10 ⟨rfl, b10⟩
  have c10 := c9.trans (b10.mono c9.size)
  have HT2 := Lib.hid (HT1.out.below (TextsAt.lt HT1.out) (b9.trans (b10.mono b9.size)))
  go_wp2
  go_loopw [7] (fun i wr => ∃ k : Nat, k ≤ ps.length ∧ i = .int .i64 k ∧ Below w10.heap.size w10 wr) (fun i _ => ps.length - (intOf i).toNat)
  case atStart => exact ⟨0, Nat.zero_le _, rfl, Below.refl _ _⟩
  case round =>
    obtain ⟨k, hk, rfl, hbr⟩ := hrel
    by_cases h : k < ps.length
    · have hc : wr.cell? ⟨g, k, none⟩ = some (.string ps[k]) := TextsAt.cell (HT2.out.below (TextsAt.lt HT2.out) hbr) h
      have hN := nameIs (HNM.out k h) (by have := nameB_le (HNM.out k h); rw [← size_toList] at this; omega)
      obtain ⟨x, hx⟩ : ∃ x, x = ps[k] := ⟨_, rfl⟩
      rw [← hx] at hc hN
      clear hx
      have b1 : (0 : Int) ≤ (k : Int) := by omega
      have b2 : (k : Int) < (ps.length : Int) := by omega
      have hwr := hbr.size
      go_wp2_with (go_at_call 11; refine (hN.out _).mono ?_; rintro e w11 ⟨rfl, b11⟩)
      go_roundw
      case rel => exact ⟨k + 1, by omega, by go_num, hbr.trans (b11.mono hwr)⟩
      case measure => simp [intOf]; omega
    · obtain rfl : k = ps.length := by omega
      have c11 := c10.trans (hbr.mono c10.size)
      have HT3 := Lib.hid (HT2.out.below (TextsAt.lt HT2.out) hbr)
      clear hk h hbr HT1 HT2
      go_wp2
      go_loopw [8, 9] (fun s i wr2 => JRel ps wr s i wr2) (fun _ i _ => ps.length - (intOf i).toNat)
      case atStart => exact ⟨0, _, Nat.zero_le _, rfl, rfl, rfl, by decide, Below.refl _ _⟩
      case round =>
        obtain ⟨k, t, hk, rfl, rfl, ht, hts, hbr⟩ := hrel
        by_cases h : k < ps.length
        · have hc : wr.cell? ⟨g, k, none⟩ = some (.string ps[k]) := TextsAt.cell (HT3.out.below (TextsAt.lt HT3.out) hbr) h
          have hj := join_take (ps := ps.map (·.data.toList)) (k := k) (by simpa using h)
          have hz : (ps[k].size : Int) ≤ 32 := by have := nameB_le (HNM.out k h); rw [← size_toList] at this; omega
          rw [List.getElem_map] at hj
          obtain ⟨x, hx⟩ : ∃ x, x = ps[k] := ⟨_, rfl⟩
          rw [← hx] at hc hj hz
          clear hx
          have b1 : (0 : Int) ≤ (k : Int) := by omega
          have b2 : (k : Int) < (ps.length : Int) := by omega
          have hd46 : (⟨#[46]⟩ : ByteArray).size = 1 := rfl
          by_cases h0 : k = 0
          · have HJ : Hid ((t ++ x).data.toList = joinD ((ps.map (·.data.toList)).take (k + 1)) ∧ ((t ++ x).size : Int) ≤ 33 * ((k + 1 : Nat) : Int)) := by
              refine ⟨?_, by rw [ByteArray.size_append]; omega⟩
              rw [hj, if_pos h0, ByteArray.data_append, Array.toList_append, ht, h0]; rfl
            have g0 : ¬ (0 : Int) < (k : Int) := by omega
            have g1 : t.size ≤ 1000 := by omega
            have g2 : x.size ≤ 1000 := by omega
            clear hj ht hts hz h0
            go_wp2
            go_roundw
            case rel => exact ⟨k + 1, _, by omega, by go_num, rfl, HJ.out.1, HJ.out.2, hbr⟩
            case measure => simp [intOf]; omega
          · have HJ : Hid ((t ++ ⟨#[46]⟩ ++ x).data.toList = joinD ((ps.map (·.data.toList)).take (k + 1)) ∧ ((t ++ ⟨#[46]⟩ ++ x).size : Int) ≤ 33 * ((k + 1 : Nat) : Int)) := by
              refine ⟨?_, by rw [ByteArray.size_append, ByteArray.size_append, hd46]; omega⟩
              rw [hj, if_neg h0, ByteArray.data_append, Array.toList_append, ByteArray.data_append, Array.toList_append, ht]; simp
            have g0 : (0 : Int) < (k : Int) := by omega
            have g1 : t.size ≤ 1000 := by omega
            have g2 : x.size ≤ 1000 := by omega
            have g3 : (t ++ ⟨#[46]⟩).size ≤ 1001 := by rw [ByteArray.size_append, hd46]; omega
            clear hj ht hts hz h0 hd46
            go_wp2
            go_roundw
            case rel => exact ⟨k + 1, _, by omega, by go_num, rfl, HJ.out.1, HJ.out.2, hbr⟩
            case measure => simp [intOf]; omega
        · obtain rfl : k = ps.length := by omega
          have hta : t = a := by
            have e1 : t.data.toList = a.data.toList := by
              rw [ht, List.take_of_length_le (by simp), HS1.out, join_split]
            cases t; cases a; simpa using e1
          subst hta
          have c12 := c11.trans (hbr.mono c11.size)
          have q0 := bytes_eq t
          clear ht hts hk h hbr HT3
          have hy : Hid (∀ w', Below w.heap.size w w' → Calls Tryd.prog 13 #[.string (bothOf t b)] w' fun e w2 => e = .returned (.bool false) ∧ Below w'.heap.size w' w2) := DZ
          unfold bothOf at *
          have z1 : (t ++ ⟨#[46]⟩).size = t.size + 1 := by rw [ByteArray.size_append]; rfl
          have z2 : (t ++ ⟨#[46]⟩ ++ b).size = t.size + 1 + b.size := by rw [ByteArray.size_append, z1]
          go_wp2_with fail
          refine (DA.out _ c12).mono ?_
          rintro e w13 ⟨rfl, b13⟩
          have c13 := c12.trans (b13.mono c12.size)
          go_wp2_with fail
          refine (hy.out _ c13).mono ?_
          rintro e w14 ⟨rfl, b14⟩
          have c14 := c13.trans (b14.mono c13.size)
          go_wp2
          go_ret
          exact ⟨rfl, c14⟩

set_option maxHeartbeats 1000000 in
theorem namesJoined_walk (a : ByteArray) (wa : a.size ≤ maxLen) (b : ByteArray) (wb : b.size ≤ maxLen) (w : World) (hsh : w.ShapedOpen Tryd.prog) :
    Calls Tryd.prog 5 #[.string a, .string b] w fun e w' => e = .returned (.bool true) ∧ Below w.heap.size w w' := by
  have C := JC.mk' w (max_of_shape w hsh)
  clear hsh
  unfold maxLen at wa wb
  by_cases h : (a.size : Int) ≤ 65536 ∧ (b.size : Int) ≤ 65536
  · obtain ⟨ha, hb⟩ := h
    by_cases hS : (split a.data.toList).length + (split b.data.toList).length ≤ 4
    all_goals
      cases hn : nameB a.data.toList <;> cases hA : dotB a.data.toList <;> cases hB : dotB b.data.toList
      all_goals first
        | exact jn1 a b ha hb w C hn hA hB
        | exact jn2 a b ha hb w C hn hA hB
        | exact jn3 a b ha hb w C hn hA hB
        | exact jn4 a b ha hb w C hn hA hB hS
        | exact jn5 a b ha hb w C hn hA hB hS
        | exact jn6 a b ha hb w C hn hA hB
        | exact jn7 a b ha hb w C hn hA hB hS
        | exact jn8 a b ha hb w C hn hA hB hS
        | exact absurd (name_dot hn) (by rw [hA]; decide)
  · have H0 := Lib.hid C.works
    clear C
    have h3 : 65536 < (a.size : Int) ∨ (¬ 65536 < (a.size : Int) ∧ 65536 < (b.size : Int)) := by omega
    clear h
    rcases h3 with h | ⟨h, h2⟩
    all_goals
      go_enter Tryd.func5, Tryd.ntmps5
      go_wp2_with fail
      refine H0.out.mono ?_
      rintro e w1 ⟨rfl, c1⟩
      go_wp2
      go_ret
      exact ⟨rfl, c1⟩

end Go.Proofs.YtmodhjbkgohoiaaDoor
