/- lineagekit.ApartTexts over lists in blocks of their own. -/
import Derived.Test.YtgneebidmhiagaaDoorMark
import Derived.Test.YtgneebidmhiagaaDoorApartRel
namespace Go.Proofs.YtgneebidmhiagaaDoor
open Go.RowKit
set_option linter.unusedVariables false

/-- Marks are written over the lists ahead of k, and over the first i places of list k. -/
def Marked (B : Nat) (w0 : World) (L : Nat) (vs : List Value) (Z : Nat → List Value) (k i : Nat) (w : World) : Prop :=
  ∃ Z', Fam B w 9 vs Z' ∧ (∀ j, (Z' j).length = (Z j).length) ∧ (∀ j, j < k → ∀ m, m < (Z j).length → (Z' j)[m]? = some (.string (markB j m))) ∧ (∀ m, m < i → m < (Z k).length → (Z' k)[m]? = some (.string (markB k m))) ∧
    w.heap[L]? = some (.cells vs.toArray 22 (0, 0)) ∧ Below B w0 w

def M1 (B : Nat) (w0 : World) (L : Nat) (vs : List Value) (Z : Nat → List Value) (i : Value) (w : World) : Prop :=
  ∃ k : Nat, k ≤ vs.length ∧ i = .int .i64 k ∧ Marked B w0 L vs Z k 0 w
def M2 (B : Nat) (w0 : World) (L : Nat) (vs : List Value) (Z : Nat → List Value) (k : Nat) (i : Value) (w : World) : Prop :=
  ∃ m : Nat, m ≤ (Z k).length ∧ i = .int .i64 m ∧ Marked B w0 L vs Z k m w

theorem Marked.below {B : Nat} {w0 w w' : World} {L : Nat} {vs : List Value} {Z : Nat → List Value} {k i : Nat} (h : Marked B w0 L vs Z k i w) (hB : B ≤ w0.heap.size) (hb : Below w.heap.size w w') : Marked B w0 L vs Z k i w' := by
  obtain ⟨Z', h1, h2, h3, h4, h5, h6⟩ := h
  exact ⟨Z', h1.below hb, h2, h3, h4, (hb.block L (Array.getElem?_eq_some_iff.1 h5).1).trans h5, h6.trans (hb.mono (Nat.le_trans hB h6.size))⟩

theorem Fam.shape {B : Nat} {w : World} {e : TypeId} {vs : List Value} {Z : Nat → List Value} (h : Fam B w e vs Z) (k : Nat) (hk : k < vs.length) : ∃ p cap, vs[k] = .slice p (Z k).length cap := by
  rcases (h.own k hk).2 with ⟨h1, h2⟩ | ⟨g, cap, cur, h1, _⟩
  · exact ⟨none, 0, by rw [h1, h2]⟩
  · exact ⟨_, cap, h1⟩

/-- What list k is, while the marks are written. -/
theorem Marked.at {B : Nat} {w0 w : World} {L : Nat} {vs : List Value} {Z : Nat → List Value} {k i : Nat} (h : Marked B w0 L vs Z k i w) (hk : k < vs.length) {m : Nat} (hm : m < (Z k).length) :
    ∃ g cap u, vs[k] = .slice (some ⟨g, 0, none⟩) (Z k).length cap ∧ B ≤ g ∧ w.cell? ⟨g, m, none⟩ = some u ∧ w.frozen? ⟨g, m, none⟩ = false := by
  obtain ⟨Z', h1, h2, h3, h4, h5, h6⟩ := h
  have hz := h2 k
  obtain ⟨g, cap, e1, e2, e3, e4, e5, e6, e7⟩ := h1.slice hk (by omega)
  rw [hz] at e1
  exact ⟨g, cap, _, e1, e4, (e6 m (by omega)).trans (List.getElem?_eq_getElem (by omega)), e7 m⟩

theorem Marked.store {B : Nat} {w0 w : World} {L : Nat} {vs : List Value} {Z : Nat → List Value} {k m : Nat} (h : Marked B w0 L vs Z k m w) (hk : k < vs.length) {g cap : Nat} (hv : vs[k] = .slice (some ⟨g, 0, none⟩) (Z k).length cap) (hg : B ≤ g) (hm : m < (Z k).length) :
    Marked B w0 L vs Z k (m + 1) (w.setCell ⟨g, m, none⟩ (.string (markB k m))) := by
  obtain ⟨Z', h1, h2, h3, h4, h5, h6⟩ := h
  have hne : g ≠ L := by
    intro e; subst e
    obtain ⟨g', cap', cur, e1, e2, e3, _⟩ := (h1.own k hk).2.resolve_left (fun h => by rw [hv] at h; cases h.1)
    rw [hv] at e1
    obtain ⟨rfl, _⟩ : g = g' ∧ True := by simpa using (Value.slice.inj e1).1
    rw [h5] at e3
    simp at e3
  refine ⟨_, h1.store hk hv m (.string (markB k m)), fun j => by rw [setZ_len, h2], fun j hj a ha => ?_, fun a ha1 ha2 => ?_, ?_, h6.setCell hg _⟩
  · unfold setZ; rw [if_neg (by omega)]; exact h3 j hj a ha
  · unfold setZ; rw [if_pos rfl, List.getElem?_set]
    by_cases e : m = a
    · subst e; simp [h2, hm]
    · rw [if_neg e]; exact h4 a (by omega) ha2
  · rw [Below.heap_setCell _ _ _ _ (by simpa using fun e => hne e.symm)]; exact h5

theorem Marked.next {B : Nat} {w0 w : World} {L : Nat} {vs : List Value} {Z : Nat → List Value} {k m : Nat} (h : Marked B w0 L vs Z k m w) (hm : (Z k).length ≤ m) : Marked B w0 L vs Z (k + 1) 0 w := by
  obtain ⟨Z', h1, h2, h3, h4, h5, h6⟩ := h
  refine ⟨Z', h1, h2, fun j hj a ha => ?_, fun a ha => absurd ha (Nat.not_lt_zero _), h5, h6⟩
  by_cases e : j = k
  · subst e; exact h4 a (by omega) ha
  · exact h3 j (by omega) a ha

/-- The marks, as values. -/
def mkS (k m : Nat) : Value := .string (markB k m)

theorem Marked.done {B : Nat} {w0 w : World} {L : Nat} {vs : List Value} {Z : Nat → List Value} {k : Nat} (h : Marked B w0 L vs Z k 0 w) (hk : vs.length ≤ k) : Fam B w 9 vs (fun j => marks mkS j (Z j).length) := by
  obtain ⟨Z', h1, h2, h3, h4, h5, h6⟩ := h
  refine h1.congr fun j hj => ?_
  apply List.ext_getElem?
  intro m
  by_cases hm : m < (Z j).length
  · rw [h3 j (by omega) m hm, marks_at _ _ _ _ hm]; rfl
  · rw [List.getElem?_eq_none (by rw [h2]; omega), List.getElem?_eq_none (by rw [marks_len]; omega)]

def A2 (B H L : Nat) (w0 : World) (vs : List Value) (n : Nat → Nat) (gs i : Value) (w : World) : Prop :=
  ∃ (k : Nat) (ws : List Value), k ≤ vs.length ∧ i = .int .i64 k ∧ Two B H L w0 9 22 mkS vs n k 0 ws gs w
def B2 (B H L : Nat) (w0 : World) (vs : List Value) (n : Nat → Nat) (k : Nat) (gs g i : Value) (w : World) : Prop :=
  ∃ (p : Nat) (ws : List Value), p ≤ 64 ∧ i = .int .i64 p ∧ Two B H L w0 9 22 mkS vs n k p ws gs w ∧ ws[k]? = some g

theorem nm_infoL : (Tryd.prog.info? 22).map (fun i => (i.zero, i.size, i.bytes)) = some (some (.slice none 0 0), 1, 24) := by kernel_rfl

def A3 (B H L : Nat) (w0 : World) (vs : List Value) (n : Nat → Nat) (ws : List Value) (g cap : Nat) (i : Value) (w : World) : Prop :=
  ∃ k : Nat, k ≤ vs.length ∧ i = .int .i64 k ∧ Two B H L w0 9 22 mkS vs n vs.length 0 ws (.slice (some ⟨g, 0, none⟩) vs.length cap) w
def B3 (B H L : Nat) (w0 : World) (vs : List Value) (n : Nat → Nat) (ws : List Value) (g cap : Nat) (k : Nat) (i : Value) (w : World) : Prop :=
  ∃ m : Nat, m ≤ n k + 64 ∧ i = .int .i64 m ∧ Two B H L w0 9 22 mkS vs n vs.length 0 ws (.slice (some ⟨g, 0, none⟩) vs.length cap) w

/-- List k of the old and of the new ones, as they are read. -/
theorem Two.reads {B H L : Nat} {w0 w : World} {e eT : TypeId} {mk : Nat → Nat → Value} {vs : List Value} {n : Nat → Nat} {ws : List Value} {g cap : Nat} (h : Two B H L w0 e eT mk vs n vs.length 0 ws (.slice (some ⟨g, 0, none⟩) vs.length cap) w) {k : Nat} (hk : k < vs.length) :
    ∃ gk capk, w.cell? ⟨g, k, none⟩ = some (.slice (some ⟨gk, 0, none⟩) (n k + 64) capk) ∧ (∀ m, m < n k + 64 → w.cell? ⟨gk, m, none⟩ = some (mk k m)) ∧ w.cell? ⟨L, k, none⟩ = some vs[k] := by
  obtain ⟨⟨g', cap', e1, gk, capk, f1, f2⟩, f3⟩ := h.read hk
  obtain ⟨rfl, rfl⟩ : g = g' ∧ cap = cap' := by simpa using e1
  exact ⟨gk, capk, f1, f2, f3⟩

set_option maxRecDepth 100000 in
set_option maxHeartbeats 4000000 in
theorem apartTexts_any (B L : Nat) (w : World) (vs : List Value) (Z : Nat → List Value) (hF : Fam B w 9 vs Z) (hL : w.heap[L]? = some (.cells vs.toArray 22 (0, 0)))
    (hB : B ≤ w.heap.size) (hn : (vs.length : Int) ≤ 1000) (hpos : 0 < vs.length) (hz : ∀ k, ((Z k).length : Int) ≤ 549755813888) :
    Calls Tryd.prog 19 #[.slice (some ⟨L, 0, none⟩) vs.length vs.length] w fun e w' => e = .returned (.bool true) ∧ Below B w w' := by
  have H0 : Hid (Marked B w L vs Z 0 0 w) := ⟨Z, hF, fun _ => rfl, fun j hj => absurd hj (Nat.not_lt_zero _), fun m hm => absurd hm (Nat.not_lt_zero _), hL, Below.refl _ _⟩
  have HC := Lib.hid hF.shape; have HZ := Lib.hid hz
  obtain ⟨i0, hi, hz0, hz1, hz2⟩ := info_parts mk_info
  clear hF hL hz
  go_enter Tryd.func19, Tryd.ntmps19
  go_wp2
  go_loopw [3] (fun i wr => M1 B w L vs Z i wr) (fun i _ => vs.length - (intOf i).toNat)
  case atStart => exact ⟨0, Nat.zero_le _, rfl, H0.out⟩
  case round =>
    obtain ⟨k, hk, rfl, hm⟩ := hrel
    by_cases h : k < vs.length
    · obtain ⟨p, cp, hp⟩ := HC.out k h
      have b1 : (0 : Int) ≤ (k : Int) := by omega
      have b2 : (k : Int) < (vs.length : Int) := by omega
      have HM := Lib.hid hm
      clear hm
      obtain ⟨n, hnn⟩ : ∃ n, n = (Z k).length := ⟨_, rfl⟩
      have hnz : (n : Int) ≤ 549755813888 := by rw [hnn]; exact HZ.out k
      rw [← hnn] at hp
      have HN := Lib.hid hnn
      clear hnn
      have hcell : ∀ m wr, Marked B w L vs Z k m wr → wr.cell? ⟨L, k, none⟩ = some (.slice p n cp) := fun m wr hm => by
        obtain ⟨_, _, _, _, _, h6, _⟩ := hm
        simp only [World.cell?, h6]
        simp [h, hp]
      have HCE := Lib.hid hcell
      clear hcell
      go_wp2
      go_loopw [4] (fun i wr => M2 B w L vs Z k i wr) (fun i _ => n - (intOf i).toNat)
      case atStart => exact ⟨0, Nat.zero_le _, rfl, HM.out⟩
      case round =>
        obtain ⟨m, hm, rfl, hmk⟩ := hrel
        have k1 := HCE.out m _ hmk
        have HMK := Lib.hid hmk
        clear hmk
        have b3 : (0 : Int) ≤ (m : Int) := by omega
        by_cases hmn : m < n
        · have hmz : m < (Z k).length := by rw [← HN.out]; exact hmn
          obtain ⟨g, cap, u, e1, e2, e3, e4⟩ := HMK.out.at h hmz
          have e1' := e1
          rw [← HN.out, hp] at e1'
          obtain ⟨rfl, -, rfl⟩ := Value.slice.inj e1'
          have b4 : (m : Int) < (n : Int) := by omega
          have E1 := Lib.hid e1
          clear e1 e1' e3 e4
          have hmt := Lib.hid (markTexts_any k m (by omega) (by omega))
          have key : Hid (∀ w2, Below wr.drew.heap.size wr.drew w2 → Hid (Marked B w L vs Z k m w2) ∧ w2.cell? ⟨L, k, none⟩ = some (.slice (some ⟨g, 0, none⟩) n cp) ∧ (∃ u2, w2.cell? ⟨g, m, none⟩ = some u2) ∧ w2.frozen? ⟨g, m, none⟩ = false) := fun w2 hb2 => by
            have hd : Below wr.heap.size wr wr.drew := Ut.below_drewN (Below.refl _ _) 1
            have hm2 := (HMK.out.below hB hd).below hB hb2
            obtain ⟨g', cap', u2, f1, f2, f3, f4⟩ := hm2.at h hmz
            have f5 := E1.out.symm.trans f1
            obtain ⟨rfl, rfl⟩ : g = g' ∧ cp = cap' := by simpa using f5
            exact ⟨hm2, HCE.out m _ hm2, ⟨u2, f3⟩, f4⟩
          go_wp2
          go_region_with (go_at_call 38; refine (hmt.out _).mono ?_; rintro e w2 ⟨rfl, hb2⟩; obtain ⟨hm2, k2, ⟨u2, f3⟩, f4⟩ := key.out _ hb2)
          go_wp2
          all_goals try go_roundw
          all_goals first
            | exact ⟨m + 1, by omega, by go_num, hm2.out.store h E1.out e2 hmz⟩
            | exact ⟨⟨m + 1, by omega, by go_num, hm2.out.store h E1.out e2 hmz⟩, by simp [intOf]; omega⟩
            | (simp [intOf]; omega)
        · have g0 : (n : Int) ≤ (m : Int) := by omega
          have HN2 := Lib.hid (HMK.out.next (by rw [← HN.out]; omega))
          clear hm hmn
          go_wp2
          go_roundw
          case rel => exact ⟨k + 1, by omega, by go_num, HN2.out⟩
          case measure => simp [intOf]; omega
    · have g0 : (vs.length : Int) ≤ (k : Int) := by omega
      have H2 : Hid (Two B wr.heap.size L w 9 22 mkS vs (fun j => (Z j).length) 0 0 vs (.slice none 0 0) wr) := by
        obtain ⟨_, _, _, _, _, h5, h6⟩ := id hm
        exact Two.start (hm.done (by omega)) h5 (Nat.le_trans hB h6.size) h6
      clear hm H0
      obtain ⟨Hs, hHs⟩ : ∃ Hs, Hs = wr.heap.size := ⟨_, rfl⟩
      rw [← hHs] at H2
      clear hHs
      go_wp2
      go_loopw [5, 6] (fun gs i wr => A2 B Hs L w vs (fun j => (Z j).length) gs i wr) (fun _ i _ => vs.length - (intOf i).toNat)
      case atStart => exact ⟨0, _, Nat.zero_le _, rfl, H2.out⟩
      case round =>
        obtain ⟨k2, ws, hk2, rfl, hm⟩ := hrel
        have HT := Lib.hid hm
        clear hm
        by_cases h2 : k2 < vs.length
        · have c1 : (0 : Int) ≤ (k2 : Int) := by omega
          have c2 : (k2 : Int) < (vs.length : Int) := by omega
          obtain ⟨p, cp, hp⟩ := HC.out k2 h2
          obtain ⟨n, hnn⟩ : ∃ n, n = (Z k2).length := ⟨_, rfl⟩
          have hnz : (n : Int) ≤ 549755813888 := by rw [hnn]; exact HZ.out k2
          rw [← hnn] at hp
          have HN := Lib.hid hnn
          clear hnn
          have hcell : ∀ m ws gs wr, Two B Hs L w 9 22 mkS vs (fun j => (Z j).length) k2 m ws gs wr → wr.cell? ⟨L, k2, none⟩ = some (.slice p n cp) := fun m ws gs wr hm => by
            simp only [World.cell?, hm.hL]
            simp [h2, hp]
          have HCE := Lib.hid hcell
          clear hcell
          have k1 := HCE.out _ _ _ _ HT.out
          have HS : Hid (ws[k2]? = some (.slice p n cp)) := by
            have hl := HT.out.len
            have h3 : k2 < ws.length := by omega
            rw [← hp]
            show ws[k2]? = _
            rw [List.getElem?_eq_getElem h3]
            exact congrArg some (HT.out.rest k2 h3 h2 (.inr ⟨rfl, Nat.le_refl _⟩))
          have HP := Lib.hid hp
          clear hp
          go_wp2
          go_loopw [7, 8] (fun g i wr => B2 B Hs L w vs (fun j => (Z j).length) k2 u5 g i wr) (fun _ i _ => 64 - (intOf i).toNat)
          case atStart => exact ⟨0, _, Nat.zero_le _, rfl, HT.out, HS.out⟩
          case round =>
            obtain ⟨m, ws2, hm, rfl, ht2, hg2⟩ := hrel
            have HT2 := Lib.hid ht2; have HG2 := Lib.hid hg2
            clear ht2 hg2
            have k2' := HCE.out _ _ _ _ HT2.out
            have b3 : (0 : Int) ≤ (m : Int) := by omega
            by_cases hm64 : m < 64
            · have b4 : (m : Int) < 64 := by omega
              have b5 : (n : Int) + (m : Int) ≤ 549755813952 := by omega
              have b6 : (0 : Int) ≤ (n : Int) + (m : Int) := by omega
              have hmt := Lib.hid (markTexts_any k2 (n + m) (by omega) (by omega))
              have hsum : ((n : Int) + (m : Int)) = ((n + m : Nat) : Int) := by omega
              have HSUM := Lib.hid hsum
              clear hsum
              go_wp2_with fail
              rw [HSUM.out]
              refine (hmt.out _).mono ?_
              rintro e w2 ⟨rfl, hb2⟩
              have HT3 := Lib.hid (HT2.out.step hb2)
              have hlen : k2 < ws2.length := by have := HT3.out.len; omega
              have hown : Hid (w2.ownsRow B 9 1 u7 (n + m) (marks mkS k2 (n + m))) := by
                have h4 := HT3.out.fam.own k2 hlen
                have h5 : upTo (fun j => (Z j).length) k2 m k2 = n + m := by unfold upTo; rw [if_neg (by omega), if_pos rfl, HN.out]
                have h6 : ws2[k2] = u7 := by
                  have := HG2.out
                  rw [List.getElem?_eq_getElem hlen] at this
                  exact Option.some.inj this
                simp only [marks_len, h5, h6] at h4
                exact h4
              clear hb2 k1 k2'
              go_wp2_with (at_builtin; refine wpList_append_apart rfl _ _ 22 rfl B 9 i0 (.string ByteArray.empty) 1 16 Tryd.underlying22 hi hz0 hz1 hz2 rfl (by decide) _ _ _ rfl (hown.out.alloc _) ⟨w2.heap.size, 0, none⟩ 1 1 [.string (markB k2 (n + m))] rfl rfl ?c1 ?c2 ?c3 ?c4 ?c5 (by decide) ?_)
              case c1 => exact cell_one_new _ _ _
              case c2 => intro u hu; simp at hu; subst hu; rfl
              case c3 => unfold maxLen; omega
              case c4 => omega
              case c5 => have h8 := HT3.out.hB; have h9 := HT3.out.hH; simp; omega
              intro v' w1 hown' hgrow
              have HT5 : Hid (Two B Hs L w 9 22 mkS vs (fun j => (Z j).length) k2 (m + 1) (ws2.set k2 v') u5 w1) := by
                have h4 := HT3.out.step ((Below.refl _ _).alloc (Nat.le_refl _) (.cells #[.string (markB k2 (n + m))] 9))
                have h6 : ws2[k2] = u7 := by
                  have := HG2.out
                  rw [List.getElem?_eq_getElem hlen] at this
                  exact Option.some.inj this
                rw [HN.out] at hown' hgrow
                rw [HN.out] at h4
                exact h4.grow (by decide) hlen (by rw [h6]; exact hgrow) hown'
              have HG5 : Hid ((ws2.set k2 v')[k2]? = some v') := by
                show _ = _
                rw [List.getElem?_set_self hlen]
              clear hown' hgrow
              go_wp2
              go_roundw
              case rel => exact ⟨m + 1, _, by omega, by go_num, HT5.out, HG5.out⟩
              case measure => simp [intOf]; omega
            · have b4 : (64 : Int) ≤ (m : Int) := by omega
              have hm2 : m = 64 := by omega
              have hlen : k2 < ws2.length := by have := HT2.out.len; omega
              have HT3 : Hid (Two B Hs L w 9 22 mkS vs (fun j => (Z j).length) k2 64 ws2 u5 wr) := by rw [← hm2]; exact HT2
              have h6 : ws2[k2] = u7 := by
                have := HG2.out
                rw [List.getElem?_eq_getElem hlen] at this
                exact Option.some.inj this
              obtain ⟨q, cq, hq⟩ : ∃ q cq, u7 = .slice q (n + 64) cq := by
                obtain ⟨q, cq, h7⟩ := HT3.out.fam.shape k2 hlen
                have h5 : upTo (fun j => (Z j).length) k2 64 k2 = n + 64 := by unfold upTo; rw [if_neg (by omega), if_pos rfl, HN.out]
                simp only [marks_len, h5, h6] at h7
                exact ⟨q, cq, h7⟩
              subst hq
              have H6 := Lib.hid h6
              clear h6 hm2
              obtain ⟨j0, hj, hj0, hj1, hj2⟩ := info_parts nm_infoL
              have HGS := Lib.hid HT3.out.gsown
              have hlt : (ws2.take k2).length = k2 := by rw [List.length_take]; omega
              have HLT := Lib.hid hlt
              clear hlt k2' k1
              go_wp2_with (at_builtin; refine wpList_append_own _ rfl _ _ 39 rfl Hs 22 j0 (.slice none 0 0) 1 24 Tryd.underlying39 hj hj0 hj1 hj2 rfl (by decide) _ _ _ rfl (HGS.out.alloc _) ⟨wr.heap.size, 0, none⟩ 1 1 [.slice q (n + 64) cq] rfl rfl ?d1 ?d2 ?d3 ?d4 ?d5 ?_)
              case d1 => exact cell_one_new _ _ _
              case d2 =>
                intro u hu; simp at hu; subst hu; rfl
              case d3 => unfold maxLen; omega
              case d4 => omega
              case d5 => have h9 := HT3.out.hH; simp; omega
              intro v' w1 hown' hgrow _
              have HT5 : Hid (Two B Hs L w 9 22 mkS vs (fun j => (Z j).length) (k2 + 1) 0 ws2 v' w1) := by
                have h4 := HT3.out.step ((Below.refl _ _).alloc (Nat.le_refl _) (.cells #[.slice q (n + 64) cq] 22))
                refine h4.next (by decide) hlen hgrow ?_
                rw [H6.out]
                exact hown'
              clear hown' hgrow
              go_wp2
              go_roundw
              case rel => exact ⟨k2 + 1, _, by omega, by go_num, HT5.out⟩
              case measure => simp [intOf]; omega
        · obtain rfl : k2 = vs.length := by omega
          obtain ⟨⟨g, cap, hgs, -⟩, -⟩ := HT.out.read hpos
          subst hgs
          go_wp2
          go_loopw [9] (fun i wr => A3 B Hs L w vs (fun j => (Z j).length) ws g cap i wr) (fun i _ => vs.length - (intOf i).toNat)
          case atStart => exact ⟨0, Nat.zero_le _, rfl, HT.out⟩
          case round =>
            obtain ⟨k3, hk3, rfl, ht3⟩ := hrel
            by_cases h3 : k3 < vs.length
            · have c1 : (0 : Int) ≤ (k3 : Int) := by omega
              have c2 : (k3 : Int) < (vs.length : Int) := by omega
              obtain ⟨p, cp, hp⟩ := HC.out k3 h3
              obtain ⟨n, hnn⟩ : ∃ n, n = (Z k3).length := ⟨_, rfl⟩
              have hnz : (n : Int) ≤ 549755813888 := by rw [hnn]; exact HZ.out k3
              rw [← hnn] at hp
              have HN := Lib.hid hnn
              clear hnn
              have HT3 := Lib.hid ht3
              clear ht3
              have HRD : Hid (∀ wr, Two B Hs L w 9 22 mkS vs (fun j => (Z j).length) vs.length 0 ws (.slice (some ⟨g, 0, none⟩) vs.length cap) wr →
                  ∃ gk capk, wr.cell? ⟨g, k3, none⟩ = some (.slice (some ⟨gk, 0, none⟩) (n + 64) capk) ∧ (∀ m, m < n + 64 → wr.cell? ⟨gk, m, none⟩ = some (.string (markB k3 m))) ∧ wr.cell? ⟨L, k3, none⟩ = some (.slice p n cp)) := fun wr h => by
                have h4 := h.reads h3
                simp only [← HN.out, hp] at h4
                exact h4
              have HOLD : Hid (∀ m, m < n → ∃ g0, p = some ⟨g0, 0, none⟩ ∧ ∀ wr, Two B Hs L w 9 22 mkS vs (fun j => (Z j).length) vs.length 0 ws (.slice (some ⟨g, 0, none⟩) vs.length cap) wr → wr.cell? ⟨g0, m, none⟩ = some (.string (markB k3 m))) := fun m hm => by
                obtain ⟨g0, cap0, e0⟩ := HT.out.shape k3 h3 (by rw [← HN.out]; omega)
                have e1 := hp.symm.trans e0
                obtain ⟨rfl, -, -⟩ := Value.slice.inj e1
                exact ⟨g0, rfl, fun wr h => h.old k3 h3 g0 (by rw [e0]; rfl) m (by rw [← HN.out]; exact hm)⟩
              clear hp
              go_wp2
              go_loopw [10] (fun i wr => B3 B Hs L w vs (fun j => (Z j).length) ws g cap k3 i wr) (fun i _ => n + 64 - (intOf i).toNat)
              case atStart => exact ⟨0, Nat.zero_le _, rfl, HT3.out⟩
              case round =>
                obtain ⟨m, hm, rfl, ht4⟩ := hrel
                obtain ⟨gk, capk, f1, f2, f3⟩ := HRD.out _ ht4
                have HT4 := Lib.hid ht4
                have b3 : (0 : Int) ≤ (m : Int) := by omega
                clear f2 f3 ht4
                by_cases hmn : m < n + 64
                · have b4 : (m : Int) < (n : Int) + 64 := by omega
                  have hmt := Lib.hid (markTexts_any k3 m (by omega) (by omega))
                  go_wp2_with fail
                  refine (hmt.out _).mono ?_
                  rintro e w2 ⟨rfl, hb2⟩
                  have ht5 := HT4.out.step hb2
                  obtain ⟨gk2, capk2, q1, q2, q3⟩ := HRD.out _ ht5
                  have q2' := q2 m hmn
                  clear q2 f1 hb2
                  have hne := mk_eq (markB k3 m)
                  by_cases hmo : m < n
                  · obtain ⟨g0, hp0, hold⟩ := HOLD.out m hmo
                    subst hp0
                    have q4 := hold _ ht5
                    have b5 : (m : Int) < (n : Int) := by omega
                    have HT5 := Lib.hid ht5
                    clear hold ht5
                    go_wp2
                    go_roundw
                    case rel => exact ⟨m + 1, by show m + 1 ≤ (Z k3).length + 64; rw [← HN.out]; omega, by go_num, HT5.out⟩
                    case measure => simp [intOf]; omega
                  · have b5 : decide ((m : Int) < (n : Int)) = false := by simp; omega
                    have HT5 := Lib.hid ht5
                    clear ht5
                    go_wp2
                    go_roundw
                    case rel => exact ⟨m + 1, by show m + 1 ≤ (Z k3).length + 64; rw [← HN.out]; omega, by go_num, HT5.out⟩
                    case measure => simp [intOf]; omega
                · have b4 : (n : Int) + 64 ≤ (m : Int) := by omega
                  go_wp2
                  go_roundw
                  case rel => exact ⟨k3 + 1, by omega, by go_num, HT4.out⟩
                  case measure => simp [intOf]; omega
            · have c2 : (vs.length : Int) ≤ (k3 : Int) := by omega
              have HB := Lib.hid ht3.below
              clear ht3
              go_wp2
              go_ret
              exact ⟨rfl, HB.out⟩

end Go.Proofs.YtgneebidmhiagaaDoor
