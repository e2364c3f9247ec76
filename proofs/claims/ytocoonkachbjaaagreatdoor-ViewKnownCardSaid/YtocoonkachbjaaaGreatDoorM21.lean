/- Several texts in one: what each proves its own first comment says. -/
import Derived.Test.YtocoonkachbjaaaGreatDoorM16
import Derived.Test.YtocoonkachbjaaaGreatDoorM20
import Derived.Test.YtocoonkachbjaaaGreatDoorM19
import Derived.Test.YtocoonkachbjaaaGreatDoorM18
import Derived.Test.YtocoonkachbjaaaGreatDoorM13
import Derived.Test.YtocoonkachbjaaaGreatDoorM12
import Derived.Test.YtocoonkachbjaaaGreatDoorProg
import Derived.Test.YtocoonkachbjaaaGreatDoorM1
import Derived.WalkLawsBesides
import Derived.Outline

/- lineagekit.ApartTexts over lists in blocks of their own. -/
namespace Go.Proofs.YtocoonkachbjaaaGreatDoor
open Go.RowKit
set_option linter.unusedVariables false

/-- Marks are written over the lists ahead of k, and over the first i places of list k. -/
def Marked (B : Nat) (w0 : World) (L : Nat) (vs : List Value) (Z : Nat → List Value) (k i : Nat) (w : World) : Prop :=
  ∃ Z', Fam B w 9 vs Z' ∧ (∀ j, (Z' j).length = (Z j).length) ∧ (∀ j, j < k → ∀ m, m < (Z j).length → (Z' j)[m]? = some (.string (markB j m))) ∧ (∀ m, m < i → m < (Z k).length → (Z' k)[m]? = some (.string (markB k m))) ∧
    w.heap[L]? = some (.cells vs.toArray 22 (0, 0)) ∧ Below B w0 w

def M1 (B : Nat) (w0 : World) (L : Nat) (vs : List Value) (Z : Nat → List Value) (i : Value) (w : World) : Prop :=
  ∃ k : Nat, k ≤ vs.length ∧ i = .int .i64 k ∧ Marked B w0 L vs Z k 0 w
def M2 (B : Nat) (w0 : World) (L : Nat) (vs : List Value) (Z : Nat → List Value) (k : Nat) (i : Value) (w : World) : Prop :=
  ∃ m : Nat, m ≤ (Z k).length ∧ i = .int .i64 m ∧ Marked B w0 L vs Z k m w

theorem Marked.below {B : Nat} {w0 w w' : World} {L : Nat} {vs : List Value} {Z : Nat → List Value} {k i : Nat} (h : Marked B w0 L vs Z k i w) (hB : B ≤ w0.heap.size) (hb : Below w.heap.size w w') : Marked B w0 L vs Z k i w' := by
  obtain ⟨Z', h1, h2, h3, h4, h5, h6⟩ := h
  exact ⟨Z', h1.below hb, h2, h3, h4, (hb.block L (Array.getElem?_eq_some_iff.1 h5).1).trans h5, h6.trans (hb.mono (Nat.le_trans hB h6.size))⟩

theorem Fam.shape {B : Nat} {w : World} {e : TypeId} {vs : List Value} {Z : Nat → List Value} (h : Fam B w e vs Z) (k : Nat) (hk : k < vs.length) : ∃ p cap, vs[k] = .slice p (Z k).length cap := by
  rcases (h.own k hk).2 with ⟨h1, h2⟩ | ⟨g, cap, cur, h1, _⟩
  · exact ⟨none, 0, by rw [h1, h2]⟩
  · exact ⟨_, cap, h1⟩

/-- What list k is, while the marks are written. -/
theorem Marked.at {B : Nat} {w0 w : World} {L : Nat} {vs : List Value} {Z : Nat → List Value} {k i : Nat} (h : Marked B w0 L vs Z k i w) (hk : k < vs.length) {m : Nat} (hm : m < (Z k).length) :
    ∃ g cap u, vs[k] = .slice (some ⟨g, 0, none⟩) (Z k).length cap ∧ B ≤ g ∧ w.cell? ⟨g, m, none⟩ = some u ∧ w.frozen? ⟨g, m, none⟩ = false := by
  obtain ⟨Z', h1, h2, h3, h4, h5, h6⟩ := h
  have hz := h2 k
  obtain ⟨g, cap, e1, e2, e3, e4, e5, e6, e7⟩ := h1.slice hk (by omega)
  rw [hz] at e1
  exact ⟨g, cap, _, e1, e4, (e6 m (by omega)).trans (List.getElem?_eq_getElem (by omega)), e7 m⟩

theorem Marked.store {B : Nat} {w0 w : World} {L : Nat} {vs : List Value} {Z : Nat → List Value} {k m : Nat} (h : Marked B w0 L vs Z k m w) (hk : k < vs.length) {g cap : Nat} (hv : vs[k] = .slice (some ⟨g, 0, none⟩) (Z k).length cap) (hg : B ≤ g) (hm : m < (Z k).length) :
    Marked B w0 L vs Z k (m + 1) (w.setCell ⟨g, m, none⟩ (.string (markB k m))) := by
  obtain ⟨Z', h1, h2, h3, h4, h5, h6⟩ := h
  have hne : g ≠ L := by
    intro e; subst e
    obtain ⟨g', cap', cur, e1, e2, e3, _⟩ := (h1.own k hk).2.resolve_left (fun h => by rw [hv] at h; cases h.1)
    rw [hv] at e1
    obtain ⟨rfl, _⟩ : g = g' ∧ True := by simpa using (Value.slice.inj e1).1
    rw [h5] at e3
    simp at e3
  refine ⟨_, h1.store hk hv m (.string (markB k m)), fun j => by rw [setZ_len, h2], fun j hj a ha => ?_, fun a ha1 ha2 => ?_, ?_, h6.setCell hg _⟩
  · unfold setZ; rw [if_neg (by omega)]; exact h3 j hj a ha
  · unfold setZ; rw [if_pos rfl, List.getElem?_set]
    by_cases e : m = a
    · subst e; simp [h2, hm]
    · rw [if_neg e]; exact h4 a (by omega) ha2
  · rw [Below.heap_setCell _ _ _ _ (by simpa using fun e => hne e.symm)]; exact h5

theorem Marked.next {B : Nat} {w0 w : World} {L : Nat} {vs : List Value} {Z : Nat → List Value} {k m : Nat} (h : Marked B w0 L vs Z k m w) (hm : (Z k).length ≤ m) : Marked B w0 L vs Z (k + 1) 0 w := by
  obtain ⟨Z', h1, h2, h3, h4, h5, h6⟩ := h
  refine ⟨Z', h1, h2, fun j hj a ha => ?_, fun a ha => absurd ha (Nat.not_lt_zero _), h5, h6⟩
  by_cases e : j = k
  · subst e; exact h4 a (by omega) ha
  · exact h3 j (by omega) a ha

/-- The marks, as values. -/
def mkS (k m : Nat) : Value := .string (markB k m)

theorem Marked.done {B : Nat} {w0 w : World} {L : Nat} {vs : List Value} {Z : Nat → List Value} {k : Nat} (h : Marked B w0 L vs Z k 0 w) (hk : vs.length ≤ k) : Fam B w 9 vs (fun j => marks mkS j (Z j).length) := by
  obtain ⟨Z', h1, h2, h3, h4, h5, h6⟩ := h
  refine h1.congr fun j hj => ?_
  apply List.ext_getElem?
  intro m
  by_cases hm : m < (Z j).length
  · rw [h3 j (by omega) m hm, marks_at _ _ _ _ hm]; rfl
  · rw [List.getElem?_eq_none (by rw [h2]; omega), List.getElem?_eq_none (by rw [marks_len]; omega)]

def A2 (B H L : Nat) (w0 : World) (vs : List Value) (n : Nat → Nat) (gs i : Value) (w : World) : Prop :=
  ∃ (k : Nat) (ws : List Value), k ≤ vs.length ∧ i = .int .i64 k ∧ Two B H L w0 9 22 mkS vs n k 0 ws gs w
def B2 (B H L : Nat) (w0 : World) (vs : List Value) (n : Nat → Nat) (k : Nat) (gs g i : Value) (w : World) : Prop :=
  ∃ (p : Nat) (ws : List Value), p ≤ 64 ∧ i = .int .i64 p ∧ Two B H L w0 9 22 mkS vs n k p ws gs w ∧ ws[k]? = some g

theorem nm_infoL : (Tryz.prog.info? 22).map (fun i => (i.zero, i.size, i.bytes)) = some (some (.slice none 0 0), 1, 24) := by kernel_rfl

def A3 (B H L : Nat) (w0 : World) (vs : List Value) (n : Nat → Nat) (ws : List Value) (g cap : Nat) (i : Value) (w : World) : Prop :=
  ∃ k : Nat, k ≤ vs.length ∧ i = .int .i64 k ∧ Two B H L w0 9 22 mkS vs n vs.length 0 ws (.slice (some ⟨g, 0, none⟩) vs.length cap) w
def B3 (B H L : Nat) (w0 : World) (vs : List Value) (n : Nat → Nat) (ws : List Value) (g cap : Nat) (k : Nat) (i : Value) (w : World) : Prop :=
  ∃ m : Nat, m ≤ n k + 64 ∧ i = .int .i64 m ∧ Two B H L w0 9 22 mkS vs n vs.length 0 ws (.slice (some ⟨g, 0, none⟩) vs.length cap) w

/-- List k of the old and of the new ones, as they are read. -/
theorem Two.reads {B H L : Nat} {w0 w : World} {e eT : TypeId} {mk : Nat → Nat → Value} {vs : List Value} {n : Nat → Nat} {ws : List Value} {g cap : Nat} (h : Two B H L w0 e eT mk vs n vs.length 0 ws (.slice (some ⟨g, 0, none⟩) vs.length cap) w) {k : Nat} (hk : k < vs.length) :
    ∃ gk capk, w.cell? ⟨g, k, none⟩ = some (.slice (some ⟨gk, 0, none⟩) (n k + 64) capk) ∧ (∀ m, m < n k + 64 → w.cell? ⟨gk, m, none⟩ = some (mk k m)) ∧ w.cell? ⟨L, k, none⟩ = some vs[k] := by
  obtain ⟨⟨g', cap', e1, gk, capk, f1, f2⟩, f3⟩ := h.read hk
  obtain ⟨rfl, rfl⟩ : g = g' ∧ cap = cap' := by simpa using e1
  exact ⟨gk, capk, f1, f2, f3⟩

set_option maxRecDepth 100000 in
set_option maxHeartbeats 4000000 in
theorem apartTexts_any (B L : Nat) (w : World) (vs : List Value) (Z : Nat → List Value) (hF : Fam B w 9 vs Z) (hL : w.heap[L]? = some (.cells vs.toArray 22 (0, 0)))
    (hB : B ≤ w.heap.size) (hn : (vs.length : Int) ≤ 1000) (hpos : 0 < vs.length) (hz : ∀ k, ((Z k).length : Int) ≤ 549755813888) :
    Calls Tryz.prog 15 #[.slice (some ⟨L, 0, none⟩) vs.length vs.length] w fun e w' => e = .returned (.bool true) ∧ Below B w w' := by
  have H0 : Hid (Marked B w L vs Z 0 0 w) := ⟨Z, hF, fun _ => rfl, fun j hj => absurd hj (Nat.not_lt_zero _), fun m hm => absurd hm (Nat.not_lt_zero _), hL, Below.refl _ _⟩
  have HC := Lib.hid hF.shape; have HZ := Lib.hid hz
  obtain ⟨i0, hi, hz0, hz1, hz2⟩ := info_parts mk_info
  clear hF hL hz
  go_enter Tryz.func15, Tryz.ntmps15
  go_wp2
  go_loopw [3] (fun i wr => M1 B w L vs Z i wr) (fun i _ => vs.length - (intOf i).toNat)
  case atStart => exact ⟨0, Nat.zero_le _, rfl, H0.out⟩
  case round =>
    obtain ⟨k, hk, rfl, hm⟩ := hrel
    by_cases h : k < vs.length
    · obtain ⟨p, cp, hp⟩ := HC.out k h
      have b1 : (0 : Int) ≤ (k : Int) := by omega
      have b2 : (k : Int) < (vs.length : Int) := by omega
      have HM := Lib.hid hm
      clear hm
      obtain ⟨n, hnn⟩ : ∃ n, n = (Z k).length := ⟨_, rfl⟩
      have hnz : (n : Int) ≤ 549755813888 := by rw [hnn]; exact HZ.out k
      rw [← hnn] at hp
      have HN := Lib.hid hnn
      clear hnn
      have hcell : ∀ m wr, Marked B w L vs Z k m wr → wr.cell? ⟨L, k, none⟩ = some (.slice p n cp) := fun m wr hm => by
        obtain ⟨_, _, _, _, _, h6, _⟩ := hm
        simp only [World.cell?, h6]
        simp [h, hp]
      have HCE := Lib.hid hcell
      clear hcell
      go_wp2
      go_loopw [4] (fun i wr => M2 B w L vs Z k i wr) (fun i _ => n - (intOf i).toNat)
      case atStart => exact ⟨0, Nat.zero_le _, rfl, HM.out⟩
      case round =>
        obtain ⟨m, hm, rfl, hmk⟩ := hrel
        have k1 := HCE.out m _ hmk
        have HMK := Lib.hid hmk
        clear hmk
        have b3 : (0 : Int) ≤ (m : Int) := by omega
        by_cases hmn : m < n
        · have hmz : m < (Z k).length := by rw [← HN.out]; exact hmn
          obtain ⟨g, cap, u, e1, e2, e3, e4⟩ := HMK.out.at h hmz
          have e1' := e1
          rw [← HN.out, hp] at e1'
          obtain ⟨rfl, -, rfl⟩ := Value.slice.inj e1'
          have b4 : (m : Int) < (n : Int) := by omega
          have E1 := Lib.hid e1
          clear e1 e1' e3 e4
          have hmt := Lib.hid (markTexts_any k m (by omega) (by omega))
          have key : Hid (∀ w2, Below wr.drew.heap.size wr.drew w2 → Hid (Marked B w L vs Z k m w2) ∧ w2.cell? ⟨L, k, none⟩ = some (.slice (some ⟨g, 0, none⟩) n cp) ∧ (∃ u2, w2.cell? ⟨g, m, none⟩ = some u2) ∧ w2.frozen? ⟨g, m, none⟩ = false) := fun w2 hb2 => by
            have hd : Below wr.heap.size wr wr.drew := Ut.below_drewN (Below.refl _ _) 1
            have hm2 := (HMK.out.below hB hd).below hB hb2
            obtain ⟨g', cap', u2, f1, f2, f3, f4⟩ := hm2.at h hmz
            have f5 := E1.out.symm.trans f1
            obtain ⟨rfl, rfl⟩ : g = g' ∧ cp = cap' := by simpa using f5
            exact ⟨hm2, HCE.out m _ hm2, ⟨u2, f3⟩, f4⟩
          go_wp2
          go_region_with (go_at_call 47; refine (hmt.out _).mono ?_; rintro e w2 ⟨rfl, hb2⟩; obtain ⟨hm2, k2, ⟨u2, f3⟩, f4⟩ := key.out _ hb2)
          go_wp2
          all_goals try go_roundw
          all_goals first
            | exact ⟨m + 1, by omega, by go_num, hm2.out.store h E1.out e2 hmz⟩
            | exact ⟨⟨m + 1, by omega, by go_num, hm2.out.store h E1.out e2 hmz⟩, by simp [intOf]; omega⟩
            | (simp [intOf]; omega)
        · have g0 : (n : Int) ≤ (m : Int) := by omega
          have HN2 := Lib.hid (HMK.out.next (by rw [← HN.out]; omega))
          clear hm hmn
          go_wp2
          go_roundw
          case rel => exact ⟨k + 1, by omega, by go_num, HN2.out⟩
          case measure => simp [intOf]; omega
    · have g0 : (vs.length : Int) ≤ (k : Int) := by omega
      have H2 : Hid (Two B wr.heap.size L w 9 22 mkS vs (fun j => (Z j).length) 0 0 vs (.slice none 0 0) wr) := by
        obtain ⟨_, _, _, _, _, h5, h6⟩ := id hm
        exact Two.start (hm.done (by omega)) h5 (Nat.le_trans hB h6.size) h6
      clear hm H0
      obtain ⟨Hs, hHs⟩ : ∃ Hs, Hs = wr.heap.size := ⟨_, rfl⟩
      rw [← hHs] at H2
      clear hHs
      go_wp2
      go_loopw [5, 6] (fun gs i wr => A2 B Hs L w vs (fun j => (Z j).length) gs i wr) (fun _ i _ => vs.length - (intOf i).toNat)
      case atStart => exact ⟨0, _, Nat.zero_le _, rfl, H2.out⟩
      case round =>
        obtain ⟨k2, ws, hk2, rfl, hm⟩ := hrel
        have HT := Lib.hid hm
        clear hm
        by_cases h2 : k2 < vs.length
        · have c1 : (0 : Int) ≤ (k2 : Int) := by omega
          have c2 : (k2 : Int) < (vs.length : Int) := by omega
          obtain ⟨p, cp, hp⟩ := HC.out k2 h2
          obtain ⟨n, hnn⟩ : ∃ n, n = (Z k2).length := ⟨_, rfl⟩
          have hnz : (n : Int) ≤ 549755813888 := by rw [hnn]; exact HZ.out k2
          rw [← hnn] at hp
          have HN := Lib.hid hnn
          clear hnn
          have hcell : ∀ m ws gs wr, Two B Hs L w 9 22 mkS vs (fun j => (Z j).length) k2 m ws gs wr → wr.cell? ⟨L, k2, none⟩ = some (.slice p n cp) := fun m ws gs wr hm => by
            simp only [World.cell?, hm.hL]
            simp [h2, hp]
          have HCE := Lib.hid hcell
          clear hcell
          have k1 := HCE.out _ _ _ _ HT.out
          have HS : Hid (ws[k2]? = some (.slice p n cp)) := by
            have hl := HT.out.len
            have h3 : k2 < ws.length := by omega
            rw [← hp]
            show ws[k2]? = _
            rw [List.getElem?_eq_getElem h3]
            exact congrArg some (HT.out.rest k2 h3 h2 (.inr ⟨rfl, Nat.le_refl _⟩))
          have HP := Lib.hid hp
          clear hp
          go_wp2
          go_loopw [7, 8] (fun g i wr => B2 B Hs L w vs (fun j => (Z j).length) k2 u5 g i wr) (fun _ i _ => 64 - (intOf i).toNat)
          case atStart => exact ⟨0, _, Nat.zero_le _, rfl, HT.out, HS.out⟩
          case round =>
            obtain ⟨m, ws2, hm, rfl, ht2, hg2⟩ := hrel
            have HT2 := Lib.hid ht2; have HG2 := Lib.hid hg2
            clear ht2 hg2
            have k2' := HCE.out _ _ _ _ HT2.out
            have b3 : (0 : Int) ≤ (m : Int) := by omega
            by_cases hm64 : m < 64
            · have b4 : (m : Int) < 64 := by omega
              have b5 : (n : Int) + (m : Int) ≤ 549755813952 := by omega
              have b6 : (0 : Int) ≤ (n : Int) + (m : Int) := by omega
              have hmt := Lib.hid (markTexts_any k2 (n + m) (by omega) (by omega))
              have hsum : ((n : Int) + (m : Int)) = ((n + m : Nat) : Int) := by omega
              have HSUM := Lib.hid hsum
              clear hsum
              go_wp2_with fail
              rw [HSUM.out]
              refine (hmt.out _).mono ?_
              rintro e w2 ⟨rfl, hb2⟩
              have HT3 := Lib.hid (HT2.out.step hb2)
              have hlen : k2 < ws2.length := by have := HT3.out.len; omega
              have hown : Hid (w2.ownsRow B 9 1 u7 (n + m) (marks mkS k2 (n + m))) := by
                have h4 := HT3.out.fam.own k2 hlen
                have h5 : upTo (fun j => (Z j).length) k2 m k2 = n + m := by unfold upTo; rw [if_neg (by omega), if_pos rfl, HN.out]
                have h6 : ws2[k2] = u7 := by
                  have := HG2.out
                  rw [List.getElem?_eq_getElem hlen] at this
                  exact Option.some.inj this
                simp only [marks_len, h5, h6] at h4
                exact h4
              clear hb2 k1 k2'
              go_wp2_with (at_builtin; refine wpList_append_apart rfl _ _ 22 rfl B 9 i0 (.string ByteArray.empty) 1 16 Tryz.underlying22 hi hz0 hz1 hz2 rfl (by decide) _ _ _ rfl (hown.out.alloc _) ⟨w2.heap.size, 0, none⟩ 1 1 [.string (markB k2 (n + m))] rfl rfl ?c1 ?c2 ?c3 ?c4 ?c5 (by decide) ?_)
              case c1 => exact cell_one_new _ _ _
              case c2 => intro u hu; simp at hu; subst hu; rfl
              case c3 => unfold maxLen; omega
              case c4 => omega
              case c5 => have h8 := HT3.out.hB; have h9 := HT3.out.hH; simp; omega
              intro v' w1 hown' hgrow
              have HT5 : Hid (Two B Hs L w 9 22 mkS vs (fun j => (Z j).length) k2 (m + 1) (ws2.set k2 v') u5 w1) := by
                have h4 := HT3.out.step ((Below.refl _ _).alloc (Nat.le_refl _) (.cells #[.string (markB k2 (n + m))] 9))
                have h6 : ws2[k2] = u7 := by
                  have := HG2.out
                  rw [List.getElem?_eq_getElem hlen] at this
                  exact Option.some.inj this
                rw [HN.out] at hown' hgrow
                rw [HN.out] at h4
                exact h4.grow (by decide) hlen (by rw [h6]; exact hgrow) hown'
              have HG5 : Hid ((ws2.set k2 v')[k2]? = some v') := by
                show _ = _
                rw [List.getElem?_set_self hlen]
              clear hown' hgrow
              go_wp2
              go_roundw
              case rel => exact ⟨m + 1, _, by omega, by go_num, HT5.out, HG5.out⟩
              case measure => simp [intOf]; omega
            · have b4 : (64 : Int) ≤ (m : Int) := by omega
              have hm2 : m = 64 := by omega
              have hlen : k2 < ws2.length := by have := HT2.out.len; omega
              have HT3 : Hid (Two B Hs L w 9 22 mkS vs (fun j => (Z j).length) k2 64 ws2 u5 wr) := by rw [← hm2]; exact HT2
              have h6 : ws2[k2] = u7 := by
                have := HG2.out
                rw [List.getElem?_eq_getElem hlen] at this
                exact Option.some.inj this
              obtain ⟨q, cq, hq⟩ : ∃ q cq, u7 = .slice q (n + 64) cq := by
                obtain ⟨q, cq, h7⟩ := HT3.out.fam.shape k2 hlen
                have h5 : upTo (fun j => (Z j).length) k2 64 k2 = n + 64 := by unfold upTo; rw [if_neg (by omega), if_pos rfl, HN.out]
                simp only [marks_len, h5, h6] at h7
                exact ⟨q, cq, h7⟩
              subst hq
              have H6 := Lib.hid h6
              clear h6 hm2
              obtain ⟨j0, hj, hj0, hj1, hj2⟩ := info_parts nm_infoL
              have HGS := Lib.hid HT3.out.gsown
              have hlt : (ws2.take k2).length = k2 := by rw [List.length_take]; omega
              have HLT := Lib.hid hlt
              clear hlt k2' k1
              go_wp2_with (at_builtin; refine wpList_append_own _ rfl _ _ 51 rfl Hs 22 j0 (.slice none 0 0) 1 24 Tryz.underlying51 hj hj0 hj1 hj2 rfl (by decide) _ _ _ rfl (HGS.out.alloc _) ⟨wr.heap.size, 0, none⟩ 1 1 [.slice q (n + 64) cq] rfl rfl ?d1 ?d2 ?d3 ?d4 ?d5 ?_)
              case d1 => exact cell_one_new _ _ _
              case d2 =>
                intro u hu; simp at hu; subst hu; rfl
              case d3 => unfold maxLen; omega
              case d4 => omega
              case d5 => have h9 := HT3.out.hH; simp; omega
              intro v' w1 hown' hgrow _
              have HT5 : Hid (Two B Hs L w 9 22 mkS vs (fun j => (Z j).length) (k2 + 1) 0 ws2 v' w1) := by
                have h4 := HT3.out.step ((Below.refl _ _).alloc (Nat.le_refl _) (.cells #[.slice q (n + 64) cq] 22))
                refine h4.next (by decide) hlen hgrow ?_
                rw [H6.out]
                exact hown'
              clear hown' hgrow
              go_wp2
              go_roundw
              case rel => exact ⟨k2 + 1, _, by omega, by go_num, HT5.out⟩
              case measure => simp [intOf]; omega
        · obtain rfl : k2 = vs.length := by omega
          obtain ⟨⟨g, cap, hgs, -⟩, -⟩ := HT.out.read hpos
          subst hgs
          go_wp2
          go_loopw [9] (fun i wr => A3 B Hs L w vs (fun j => (Z j).length) ws g cap i wr) (fun i _ => vs.length - (intOf i).toNat)
          case atStart => exact ⟨0, Nat.zero_le _, rfl, HT.out⟩
          case round =>
            obtain ⟨k3, hk3, rfl, ht3⟩ := hrel
            by_cases h3 : k3 < vs.length
            · have c1 : (0 : Int) ≤ (k3 : Int) := by omega
              have c2 : (k3 : Int) < (vs.length : Int) := by omega
              obtain ⟨p, cp, hp⟩ := HC.out k3 h3
              obtain ⟨n, hnn⟩ : ∃ n, n = (Z k3).length := ⟨_, rfl⟩
              have hnz : (n : Int) ≤ 549755813888 := by rw [hnn]; exact HZ.out k3
              rw [← hnn] at hp
              have HN := Lib.hid hnn
              clear hnn
              have HT3 := Lib.hid ht3
              clear ht3
              have HRD : Hid (∀ wr, Two B Hs L w 9 22 mkS vs (fun j => (Z j).length) vs.length 0 ws (.slice (some ⟨g, 0, none⟩) vs.length cap) wr →
                  ∃ gk capk, wr.cell? ⟨g, k3, none⟩ = some (.slice (some ⟨gk, 0, none⟩) (n + 64) capk) ∧ (∀ m, m < n + 64 → wr.cell? ⟨gk, m, none⟩ = some (.string (markB k3 m))) ∧ wr.cell? ⟨L, k3, none⟩ = some (.slice p n cp)) := fun wr h => by
                have h4 := h.reads h3
                simp only [← HN.out, hp] at h4
                exact h4
              have HOLD : Hid (∀ m, m < n → ∃ g0, p = some ⟨g0, 0, none⟩ ∧ ∀ wr, Two B Hs L w 9 22 mkS vs (fun j => (Z j).length) vs.length 0 ws (.slice (some ⟨g, 0, none⟩) vs.length cap) wr → wr.cell? ⟨g0, m, none⟩ = some (.string (markB k3 m))) := fun m hm => by
                obtain ⟨g0, cap0, e0⟩ := HT.out.shape k3 h3 (by rw [← HN.out]; omega)
                have e1 := hp.symm.trans e0
                obtain ⟨rfl, -, -⟩ := Value.slice.inj e1
                exact ⟨g0, rfl, fun wr h => h.old k3 h3 g0 (by rw [e0]; rfl) m (by rw [← HN.out]; exact hm)⟩
              clear hp
              go_wp2
              go_loopw [10] (fun i wr => B3 B Hs L w vs (fun j => (Z j).length) ws g cap k3 i wr) (fun i _ => n + 64 - (intOf i).toNat)
              case atStart => exact ⟨0, Nat.zero_le _, rfl, HT3.out⟩
              case round =>
                obtain ⟨m, hm, rfl, ht4⟩ := hrel
                obtain ⟨gk, capk, f1, f2, f3⟩ := HRD.out _ ht4
                have HT4 := Lib.hid ht4
                have b3 : (0 : Int) ≤ (m : Int) := by omega
                clear f2 f3 ht4
                by_cases hmn : m < n + 64
                · have b4 : (m : Int) < (n : Int) + 64 := by omega
                  have hmt := Lib.hid (markTexts_any k3 m (by omega) (by omega))
                  go_wp2_with fail
                  refine (hmt.out _).mono ?_
                  rintro e w2 ⟨rfl, hb2⟩
                  have ht5 := HT4.out.step hb2
                  obtain ⟨gk2, capk2, q1, q2, q3⟩ := HRD.out _ ht5
                  have q2' := q2 m hmn
                  clear q2 f1 hb2
                  have hne := mk_eq (markB k3 m)
                  by_cases hmo : m < n
                  · obtain ⟨g0, hp0, hold⟩ := HOLD.out m hmo
                    subst hp0
                    have q4 := hold _ ht5
                    have b5 : (m : Int) < (n : Int) := by omega
                    have HT5 := Lib.hid ht5
                    clear hold ht5
                    go_wp2
                    go_roundw
                    case rel => exact ⟨m + 1, by show m + 1 ≤ (Z k3).length + 64; rw [← HN.out]; omega, by go_num, HT5.out⟩
                    case measure => simp [intOf]; omega
                  · have b5 : decide ((m : Int) < (n : Int)) = false := by simp; omega
                    have HT5 := Lib.hid ht5
                    clear ht5
                    go_wp2
                    go_roundw
                    case rel => exact ⟨m + 1, by show m + 1 ≤ (Z k3).length + 64; rw [← HN.out]; omega, by go_num, HT5.out⟩
                    case measure => simp [intOf]; omega
                · have b4 : (n : Int) + 64 ≤ (m : Int) := by omega
                  go_wp2
                  go_roundw
                  case rel => exact ⟨k3 + 1, by omega, by go_num, HT4.out⟩
                  case measure => simp [intOf]; omega
            · have c2 : (vs.length : Int) ≤ (k3 : Int) := by omega
              have HB := Lib.hid ht3.below
              clear ht3
              go_wp2
              go_ret
              exact ⟨rfl, HB.out⟩

end Go.Proofs.YtocoonkachbjaaaGreatDoor

/- ViewTrees: the law's walk. -/
namespace Go.Proofs.YtocoonkachbjaaaGreatDoor
open Go.RowKit Go.Maps Go.Proofs.NmPlain Go.Proofs.Ar Go.Proofs.YtocoonkachbjaaaGreatDoor.Sc
set_option linter.unusedVariables false
namespace Vw
/-- The first session whose line is wrong. -/
def badAt (ls : List ByteArray) (ss : List Sess) (now : Int) : Option Nat := (List.range ss.length).find? fun i => decide ((lineAt ls ss now i).2 ≠ 0)
def treeX (ls : List ByteArray) (ss : List Sess) (now : Int) : List ByteArray := match badAt ls ss now with
  | none => (ordV ss).map (treeS ls ss now)
  | some _ => []
def treeN (ls : List ByteArray) (ss : List Sess) (now : Int) : Int := match badAt ls ss now with
  | none => 0
  | some i => (lineAt ls ss now i).2
def treeA (ls : List ByteArray) (ss : List Sess) (now : Int) : Int := match badAt ls ss now with
  | none => 0
  | some i => (i : Int)
def treeE (ls : List ByteArray) (ss : List Sess) (now : Int) : Value := match badAt ls ss now with
  | none => .nilIface
  | some i => .iface 62 (Fl.fv (i : Int) (lineAt ls ss now i).2)
theorem bad_some {ls : List ByteArray} {ss : List Sess} {now : Int} {i : Nat} (hi : i < ss.length) (h : ∀ j, j < i → (lineAt ls ss now j).2 = 0) (h0 : (lineAt ls ss now i).2 ≠ 0) : badAt ls ss now = some i := by
  unfold badAt
  rw [List.find?_range_eq_some]
  exact ⟨by simpa using h0, List.mem_range.2 hi, fun j hj => by simpa using h j hj⟩
theorem bad_none {ls : List ByteArray} {ss : List Sess} {now : Int} (h : ∀ j, j < ss.length → (lineAt ls ss now j).2 = 0) : badAt ls ss now = none := by
  unfold badAt
  rw [List.find?_eq_none]
  intro i hi
  simpa using h i (List.mem_range.1 hi)
theorem TreePost.both {ls : List ByteArray} {ss : List Sess} {now : Int} {base : Nat} {e : Ending} {w' : World} (h : TreePost ls ss now base e w') (hb : base ≤ w'.heap.size) :
    ∃ d, e = .returned (.tuple #[d, treeE ls ss now]) ∧ w'.ownsRow base 9 1 d (treeX ls ss now).length ((treeX ls ss now).map Value.string) := by
  rcases h with ⟨i, hi, hj, h0, rfl⟩ | ⟨hall, d, rfl, hown⟩
  · have e := bad_some hi hj h0
    refine ⟨.slice none 0 0, by unfold treeE; rw [e], ?_⟩
    unfold treeX
    rw [e]
    exact World.ownsRow_nil _ _ _ _
  · have e := bad_none hall
    refine ⟨d, by unfold treeE; rw [e], ?_⟩
    unfold treeX
    rw [e]
    simp only [List.length_map, List.map_map]
    exact hown
theorem RTreePost.both {ls : List ByteArray} {ss : List Sess} {now : Int} {base : Nat} {e : Ending} {w' : World} (h : RTreePost ls ss now base e w') (hb : base ≤ w'.heap.size) :
    ∃ d, e = .returned (.tuple #[d, .int .i64 (treeN ls ss now), .int .i64 (treeA ls ss now)]) ∧ w'.ownsRow base 9 1 d (treeX ls ss now).length ((treeX ls ss now).map Value.string) := by
  rcases h with ⟨i, hi, hj, h0, rfl⟩ | ⟨hall, d, rfl, hown⟩
  · have e := bad_some hi hj h0
    refine ⟨.slice none 0 0, by unfold treeN treeA; rw [e], ?_⟩
    unfold treeX
    rw [e]
    exact World.ownsRow_nil _ _ _ _
  · have e := bad_none hall
    refine ⟨d, by unfold treeN treeA; rw [e], ?_⟩
    unfold treeX
    rw [e]
    simp only [List.length_map, List.map_map]
    exact hown
theorem treeX_len (ls : List ByteArray) (ss : List Sess) (now : Int) : (treeX ls ss now).length ≤ ss.length := by
  unfold treeX
  split
  · rw [List.length_map, ordV_len]; exact Nat.le_refl _
  · exact Nat.zero_le _
theorem vfam_pair {B C : Nat} {w : World} {e : TypeId} {a b : Value} {xs ys : List Value} (h1 : w.ownsRow B e 1 a xs.length xs) (h2 : w.ownsRow C e 1 b ys.length ys) (hC : B ≤ C) (ha : ∀ g, a.ownBlock = some g → g < C) : Fam B w e [a, b] (fun k => if k = 0 then xs else ys) := by
  refine ⟨fun k hk => ?_, fun j k hj hk hjk g hg => ?_⟩
  · match k, hk with
    | 0, _ => simpa using h1
    | 1, _ => simpa using Ut.own_base h2 hC
  · match j, k, hj, hk with
    | 0, 1, _, _ =>
      simp only [List.getElem_cons_zero, List.getElem_cons_succ] at hg ⊢
      have h3 := ha g hg
      intro e; have := (h2.lt g e).1; omega
    | 1, 0, _, _ =>
      simp only [List.getElem_cons_zero, List.getElem_cons_succ] at hg ⊢
      have h3 := (h2.lt g hg).1
      intro e; have := ha g e; omega
    | 0, 0, _, _ => omega
    | 1, 1, _, _ => omega
set_option maxHeartbeats 2000000 in
theorem vat_nil (a : Int) (w : World) : Calls Tryz.prog 14 #[.nilIface, .int .i64 0, .int .i64 a] w fun e w' => e = .returned (.bool true) ∧ Below w.heap.size w w' := by
  go_enter Tryz.func14, Tryz.ntmps14
  go_wp2
  go_ret
  exact ⟨rfl, Below.refl _ _⟩
theorem vtree_at (ls : List ByteArray) (ss : List Sess) (now : Int) (w : World) (hg : erHandle w) : Calls Tryz.prog 14 #[treeE ls ss now, .int .i64 (treeN ls ss now), .int .i64 (treeA ls ss now)] w fun e w' => e = .returned (.bool true) ∧ Below w.heap.size w w' := by
  unfold treeE treeN treeA
  cases h : badAt ls ss now with
  | none => exact vat_nil 0 w
  | some i =>
    have h0 : (lineAt ls ss now i).2 ≠ 0 := by simpa using List.find?_some h
    have hi : i < ss.length := List.mem_range.1 (List.mem_of_find?_eq_some h)
    have hr := lineL_range ls ss[i] now
    rw [← lineAt_at hi] at hr
    exact Fl.at_flt (i : Int) (lineAt ls ss now i).2 (by omega) hr.2 w hg

set_option maxRecDepth 100000 in
set_option maxHeartbeats 2000000 in
theorem viewTrees_core (x : Value) (ls : List ByteArray) (hl : ls.length ≤ maxLen) (hz : ∀ s ∈ ls, s.size ≤ 1048576) (now : Int) (wn : (Lit.int .i64 now).wf = true) (v : Value) (ss : List Sess) (hlm : (ss.length : Int) ≤ 9223372036854775807) (hok : ∀ s ∈ ss, SessOK s) (hsz : ∀ s ∈ ss, s.user.size ≤ 1048576 ∧ s.label.size ≤ 1048576)
    (w : World) (hg : erHandle w) (he : VEnv w) (ht : TextArg w x ls) (h1 : SessArg w v ss) :
    Calls Tryz.prog 4 #[.agg #[x, .int .i64 now], v] w fun e w' => e = .returned (.bool true) ∧ Below w.heap.size w w' := by
  have hlI : (ls.length : Int) ≤ 9223372036854775807 := by unfold maxLen at hl; omega
  have hzz : ∀ s ∈ ls, s.size ≤ 16777216 := fun s h => Nat.le_trans (hz s h) (by omega)
  obtain ⟨p0, c0, rfl, -⟩ := id h1
  obtain ⟨W1, hW1⟩ : ∃ W1, W1 = w.alloc (.cells #[x, .int .i64 now] 24) := ⟨_, rfl⟩
  have hb1 : Below w.heap.size w W1 := by rw [hW1]; exact (Below.refl _ _).alloc (Nat.le_refl _) _
  have hbr : W1.heap[w.heap.size]? = some (.cells #[x, .int .i64 now] 24 (0, 0)) := by rw [hW1]; exact Ut.alloc_at _ _
  have HX := Lib.hid (fun (w' : World) (hb : Below W1.heap.size W1 w') => (by
    have h1 := (hb.block w.heap.size (Array.getElem?_eq_some_iff.1 hbr).1).trans hbr
    have h2 : ∀ j, w'.cell? ⟨w.heap.size, j, none⟩ = (#[x, .int .i64 now] : Array Value)[j]? := fun j => cell_of_row _ _ _ _ _ _ h1
    exact ⟨h2 0, h2 1⟩ : w'.cell? ⟨w.heap.size, 0, none⟩ = some x ∧ w'.cell? ⟨w.heap.size, 1, none⟩ = some (.int .i64 now)))
  have HN := Lib.hid (new_any x ls hlI (fun _ => hzz) W1 (he.max.below hb1) (ht.below hb1))
  have HB1 := Lib.hid hb1
  have HE := Lib.hid he; have HG := Lib.hid hg; have HT := Lib.hid ht; have HA := Lib.hid h1; have HOK := Lib.hid hok; have HZS := Lib.hid hsz
  have HNC := Lib.hid (vnew_cases ls)
  obtain ⟨x0, x1⟩ := HX.out W1 (Below.refl _ _)
  obtain ⟨qx, cx, rfl, -⟩ := id ht
  clear hbr hb1 hz hzz hl hlI ht hg he h1 hok hsz
  go_enter Tryz.func4, Tryz.ntmps4
  go_wp2_with fail
  rw [← hW1]
  clear hW1
  refine HN.out.mono ?_
  rintro e w2 ⟨hpo, hb2⟩
  have HB2 := Lib.hid hb2
  clear x0 x1 hb2 HN
  rcases hpo with ⟨hn, B, rfl, hB⟩ | ⟨hn, rfl⟩
  rotate_left
  · have h1 : 1 ≤ (newL ls).1 := by
      rcases HNC.out with h | h
      · exact absurd h hn
      · exact h.1
    obtain ⟨ty, y, hy⟩ := errV_iface (at_ := (newL ls).2) h1
    rw [hy]
    clear hn h1 hy
    go_wp2
    go_ret
    exact ⟨rfl, HB1.out.trans (HB2.out.mono HB1.out.size)⟩
  have HBK := Lib.hid (book_of hn)
  have HB := Lib.hid hB
  clear hn hB
  by_cases hbig : 300 < ss.length
  · have b1 : (300 : Int) < (ss.length : Int) := by omega
    clear hbig
    go_wp2
    go_ret
    exact ⟨rfl, HB1.out.trans (HB2.out.mono HB1.out.size)⟩
  have b1 : (ss.length : Int) ≤ 300 := by omega
  have b2 : decide (300 < (ss.length : Int)) = false := decide_eq_false (by omega)
  have HLN := Lib.hid (show ss.length ≤ 300 by omega)
  clear hbig hlm
  have HW2 : Hid (Below w.heap.size w w2) := HB1.out.trans (HB2.out.mono HB1.out.size)
  have HLE := Lib.hid (lentS_any _ ss (by have := HLN.out; omega) w2 (HA.out.below HW2.out))
  go_wp2_with fail
  refine HLE.out.mono ?_
  rintro e w3 ⟨g, c, rfl, hlent, hc1, hc2, hb3⟩
  have HLT := Lib.hid hlent; have HC1 := Lib.hid hc1
  have HW3 : Hid (Below w.heap.size w w3) := HW2.out.trans (hb3.mono HW2.out.size)
  have HR3 : Hid (Below W1.heap.size W1 w3) := HB2.out.trans (hb3.mono HB2.out.size)
  have HB23 := Lib.hid hb3
  obtain ⟨x0, x1⟩ := HX.out w3 HR3.out
  have HTR := Lib.hid (fun (W : World) (hb : Below w3.heap.size w3 W) => tree_any HBK.out now wn (.slice (some ⟨g, 0, none⟩) ss.length c) ss HLN.out HOK.out W (HE.out.below (HW3.out.trans (hb.mono HW3.out.size))) (HB.out.below (HB23.out.trans (hb.mono HB23.out.size))) (hlent.sess.below hb))
  clear hlent hc1 hc2 hb3 HLE
  obtain ⟨XS, hXS⟩ : ∃ XS, XS = treeX ls ss now := ⟨_, rfl⟩
  obtain ⟨EV, hEV⟩ : ∃ EV, EV = treeE ls ss now := ⟨_, rfl⟩
  obtain ⟨NV, hNV⟩ : ∃ NV, NV = treeN ls ss now := ⟨_, rfl⟩
  obtain ⟨AV, hAV⟩ : ∃ AV, AV = treeA ls ss now := ⟨_, rfl⟩
  have hxl : XS.length ≤ 300 := by rw [hXS]; have := treeX_len ls ss now; have := HLN.out; omega
  have HXL := Lib.hid hxl
  have HAT : Hid (∀ W, Below w.heap.size w W → Calls Tryz.prog 14 #[EV, .int .i64 NV, .int .i64 AV] W fun e w' => e = .returned (.bool true) ∧ Below W.heap.size W w') := fun W hb => by
    rw [hEV, hNV, hAV]
    exact vtree_at ls ss now W (HG.out.below HG.out.lt hb)
  have HTX := Lib.hid (fun (W : World) (hb : Below w3.heap.size w3 W) => (HTR.out W hb).mono (R' := fun e w' => (∃ q r, e = .returned (.tuple #[.slice q XS.length r, EV]) ∧ w'.ownsRow W.heap.size 9 1 (.slice q XS.length r) XS.length (XS.map Value.string)) ∧ Below W.heap.size W w') (fun e w' hp => by
    obtain ⟨d, he, ho⟩ := hp.1.both hp.2.size
    rw [← hXS] at ho
    rw [← hEV] at he
    obtain ⟨q, r, rfl, -⟩ := own_any_shape ho
    exact ⟨⟨q, r, he, ho⟩, hp.2⟩))
  have HRX := Lib.hid (fun (W : World) (hb : Below w.heap.size w W) => (rtree_any HBK.out now wn (.slice p0 ss.length c0) ss HLN.out HOK.out HZS.out W (HT.out.below hb) (HA.out.below hb)).mono (R' := fun e w' => (∃ q r, e = .returned (.tuple #[.slice q XS.length r, .int .i64 NV, .int .i64 AV]) ∧ w'.ownsRow W.heap.size 9 1 (.slice q XS.length r) XS.length (XS.map Value.string)) ∧ Below W.heap.size W w') (fun e w' hp => by
    obtain ⟨d, he, ho⟩ := hp.1.both hp.2.size
    rw [← hXS] at ho
    rw [← hNV, ← hAV] at he
    obtain ⟨q, r, rfl, -⟩ := own_any_shape ho
    exact ⟨⟨q, r, he, ho⟩, hp.2⟩))
  clear hXS hEV hNV hAV hxl HTR
  go_wp2_with fail
  refine (HTX.out w3 (Below.refl _ _)).mono ?_
  rintro e w4 ⟨⟨q1, r1, rfl, ho1⟩, hb4⟩
  have HO1 := Lib.hid ho1; have HB4 := Lib.hid hb4
  have HR4 : Hid (Below W1.heap.size W1 w4) := HR3.out.trans (hb4.mono HR3.out.size)
  clear ho1 hb4 x0 x1
  obtain ⟨x0, x1⟩ := HX.out w4 HR4.out
  go_wp2_with fail
  refine (HTX.out w4 HB4.out).mono ?_
  rintro e w5 ⟨⟨q2, r2, rfl, ho2⟩, hb5⟩
  have HO2 := Lib.hid ho2; have HB45 := Lib.hid hb5
  have HB5 : Hid (Below w3.heap.size w3 w5) := HB4.out.trans (hb5.mono HB4.out.size)
  have HR5 : Hid (Below W1.heap.size W1 w5) := HR4.out.trans (hb5.mono HR4.out.size)
  have HW5 : Hid (Below w.heap.size w w5) := HW3.out.trans (HB5.out.mono HW3.out.size)
  clear ho2 hb5 x0 x1
  obtain ⟨x0, x1⟩ := HX.out w5 HR5.out
  go_wp2_with fail
  refine (HRX.out w5 HW5.out).mono ?_
  rintro e w6 ⟨⟨q3, r3, rfl, ho3⟩, hb6⟩
  have HO3 := Lib.hid ho3; have HB56 := Lib.hid hb6
  have HB6 : Hid (Below w3.heap.size w3 w6) := HB5.out.trans (hb6.mono HB5.out.size)
  have HW6 : Hid (Below w.heap.size w w6) := HW5.out.trans (hb6.mono HW5.out.size)
  clear ho3 hb6 x0 x1
  have HS1 : Hid (∀ W, Below w6.heap.size w6 W → Calls Tryz.prog 13 #[.slice q1 XS.length r1, .slice q3 XS.length r3] W fun e w' => e = .returned (.bool true) ∧ Below W.heap.size W w') := fun W hb => by
    have k1 : Below w4.heap.size w4 W := HB45.out.trans ((HB56.out.trans (hb.mono HB56.out.size)).mono HB45.out.size)
    have t1 : TextArg W (.slice q1 XS.length r1) XS := Tx.own_arg (own_keep HO1.out (fun b e => k1.block b (HO1.out.lt b e).2))
    have t3 : TextArg W (.slice q3 XS.length r3) XS := Tx.own_arg (own_keep HO3.out (fun b e => hb.block b (HO3.out.lt b e).2))
    have := HXL.out
    exact (Tx.same_any _ _ XS XS (by omega) (by omega) W t1 t3).mono (fun e w' h => ⟨h.1.trans (by rw [decide_eq_true rfl]), h.2⟩)
  have HS2 : Hid (∀ W, Below w6.heap.size w6 W → Calls Tryz.prog 13 #[.slice q2 XS.length r2, .slice q3 XS.length r3] W fun e w' => e = .returned (.bool true) ∧ Below W.heap.size W w') := fun W hb => by
    have k1 : Below w5.heap.size w5 W := HB56.out.trans (hb.mono HB56.out.size)
    have t1 : TextArg W (.slice q2 XS.length r2) XS := Tx.own_arg (own_keep HO2.out (fun b e => k1.block b (HO2.out.lt b e).2))
    have t3 : TextArg W (.slice q3 XS.length r3) XS := Tx.own_arg (own_keep HO3.out (fun b e => hb.block b (HO3.out.lt b e).2))
    have := HXL.out
    exact (Tx.same_any _ _ XS XS (by omega) (by omega) W t1 t3).mono (fun e w' h => ⟨h.1.trans (by rw [decide_eq_true rfl]), h.2⟩)
  have HAP : Hid (∀ W, Below w6.heap.size w6 W → Calls Tryz.prog 15 #[.slice (some ⟨W.heap.size, 0, none⟩) 2 2] (W.alloc (.cells #[.slice q1 XS.length r1, .slice q2 XS.length r2] 22)) fun e w2 => e = .returned (.bool true) ∧ Below w3.heap.size w3 w2) := fun W hb => by
    have hW : Below w3.heap.size w3 W := HB6.out.trans (hb.mono HB6.out.size)
    have hc : Below w3.heap.size w3 (W.alloc (.cells #[.slice q1 XS.length r1, .slice q2 XS.length r2] 22)) := hW.alloc hW.size _
    have k1 : Below w5.heap.size w5 (W.alloc (.cells #[.slice q1 XS.length r1, .slice q2 XS.length r2] 22)) := (HB56.out.trans (hb.mono HB56.out.size)).alloc (Nat.le_trans HB56.out.size hb.size) _
    have o1 := own_keep HO1.out (fun b e => HB45.out.block b (HO1.out.lt b e).2)
    have hF := (vfam_pair (xs := XS.map Value.string) (ys := XS.map Value.string) (by simpa using o1) (by simpa using HO2.out) HB4.out.size (fun g e => (HO1.out.lt g e).2)).below k1
    have h3 := HXL.out
    have := apartTexts_any w3.heap.size W.heap.size _ [.slice q1 XS.length r1, .slice q2 XS.length r2] _ hF (Ut.alloc_at _ _) (by have := hW.size; simp; omega) (by simp) (by simp) (fun k => by
      show ((if k = 0 then XS.map Value.string else XS.map Value.string).length : Int) ≤ _
      split <;> (rw [List.length_map]; omega))
    exact this.mono fun e w2 ⟨h1, h2⟩ => ⟨h1, hc.trans h2⟩
  have HKP : Hid (∀ W, Below w3.heap.size w3 W → Calls Tryz.prog 16 #[.slice (some ⟨g, 0, none⟩) ss.length c, .slice p0 ss.length c0] W fun e w' => e = .returned (.bool true) ∧ Below W.heap.size W w') := fun W hb => keptS_any w2.heap.size g c _ ss (by have := HLN.out; omega) W (HLT.out.below hb) HC1.out (HA.out.below (HW3.out.trans (hb.mono HW3.out.size)))
  clear HTX HRX HO1 HO2 HO3 HB45 HB56 HB4 HB5 HR3 HR4 HR5 HW5
  go_wp2_with fail
  refine (HS1.out w6 (Below.refl _ _)).mono ?_
  rintro e w7 ⟨rfl, hb7⟩
  have HB7 := Lib.hid hb7
  clear hb7
  go_wp2_with fail
  refine (HS2.out w7 HB7.out).mono ?_
  rintro e w8 ⟨rfl, hb8⟩
  have HB8 : Hid (Below w6.heap.size w6 w8) := HB7.out.trans (hb8.mono HB7.out.size)
  clear hb8
  go_wp2_with fail
  refine (HAT.out w8 (HW6.out.trans (HB8.out.mono HW6.out.size))).mono ?_
  rintro e w9 ⟨rfl, hb9⟩
  have HB9 : Hid (Below w6.heap.size w6 w9) := HB8.out.trans (hb9.mono HB8.out.size)
  clear hb9
  go_wp2_with fail
  refine (HAT.out w9 (HW6.out.trans (HB9.out.mono HW6.out.size))).mono ?_
  rintro e wa ⟨rfl, hba⟩
  have HBA : Hid (Below w6.heap.size w6 wa) := HB9.out.trans (hba.mono HB9.out.size)
  clear hba
  go_wp2_with fail
  refine (HAP.out wa HBA.out).mono ?_
  rintro e wb ⟨rfl, hbb⟩
  have HBB := Lib.hid hbb
  clear hbb
  go_wp2_with fail
  refine (HKP.out wb HBB.out).mono ?_
  rintro e wc ⟨rfl, hbc⟩
  have HBC : Hid (Below w3.heap.size w3 wc) := HBB.out.trans (hbc.mono HBB.out.size)
  clear hbc
  go_wp2
  go_ret
  exact ⟨rfl, HW3.out.trans (HBC.out.mono HW3.out.size)⟩
end Vw
end Go.Proofs.YtocoonkachbjaaaGreatDoor

/- What the iterators hand out and what the document tells are the same lists. No program in sight. -/
namespace Go.Proofs.YtocoonkachbjaaaGreatDoor
open Go.RowKit
set_option linter.unusedVariables false
namespace Vw
theorem roots_filter (l : List (Int × Int)) : ∀ n, Vt.roots l n = (List.range n).filter fun j => (Vt.par l j).isNone
  | 0 => rfl
  | n + 1 => by
    rw [List.range_succ, List.filter_append, ← roots_filter l n]
    rw [show Vt.roots l (n + 1) = (match Vt.par l n with | none => Vt.roots l n ++ [n] | some _ => Vt.roots l n) from rfl]
    cases h : Vt.par l n with
    | none => simp [h]
    | some p => simp [h]
theorem kidsN_filter (l : List (Int × Int)) (p : Nat) : ∀ n, Vt.kidsN l n p = (List.range n).filter fun j => decide (Vt.par l j = some p)
  | 0 => rfl
  | n + 1 => by
    rw [List.range_succ, List.filter_append, ← kidsN_filter l p n]
    cases h : Vt.par l n with
    | none => rw [Vt.kidsN_none h]; simp [h]
    | some q =>
      rw [Vt.kidsN_some h]
      unfold Vt.more
      by_cases e : p = q
      · subst e; simp [h]
      · have e2 : ¬ q = p := fun x => e x.symm
        simp [h, e, e2]
theorem parI_neg {l : List (Int × Int)} {j : Nat} : decide (parI l j < 0) = (Vt.par l j).isNone := by
  unfold parI
  cases h : Vt.par l j with
  | none => simp
  | some p => simp
theorem parI_eq {l : List (Int × Int)} {j p : Nat} : decide (parI l j = (p : Int)) = decide (Vt.par l j = some p) := by
  unfold parI
  cases h : Vt.par l j with
  | none => simp
  | some q =>
    by_cases e : q = p
    · subst e; simp
    · have e2 : ¬ (q : Int) = (p : Int) := fun h => e (by omega)
      simp [e, e2]
theorem kids_same (ss : List Sess) (b : Int) : kidsTo ss b ss.length = kidsOf ss b := by
  unfold kidsTo kidsOf
  by_cases hb : b = 0
  · rw [if_pos hb, roots_filter]
    refine List.filter_congr fun j _ => ?_
    unfold ksel
    rw [← parI_neg]
    simp [hb]
  · rw [if_neg hb]
    cases hf : firstL ss b with
    | none =>
      have e1 : firstI ss b = -1 := by unfold firstI; rw [hf]
      have e2 : ∀ j, ksel ss b j = false := fun j => by unfold ksel; rw [e1]; simp [hb]
      rw [List.filter_eq_nil_iff]
      intro j _
      rw [e2]; simp
    | some p =>
      have e1 : firstI ss b = (p : Int) := by unfold firstI; rw [hf]
      show _ = Vt.kidsN (bu ss) ss.length p
      rw [kidsN_filter]
      refine List.filter_congr fun j _ => ?_
      unfold ksel
      rw [← parI_eq, e1]
      simp [hb]

/-- The sessions at these places. -/
def pickS (ss : List Sess) (l : List Nat) : List Sess := l.filterMap fun i => ss[i]?
theorem pick_cells {ss : List Sess} : ∀ {l : List Nat}, (∀ i ∈ l, i < ss.length) → allV (pickS ss l) = csL ss l ∧ (pickS ss l).length = l.length
  | [], _ => ⟨rfl, rfl⟩
  | i :: r, h => by
    have h1 := h i List.mem_cons_self
    obtain ⟨e1, e2⟩ := pick_cells (l := r) (fun j hj => h j (List.mem_cons_of_mem _ hj))
    have e3 : pickS ss (i :: r) = ss[i] :: pickS ss r := by unfold pickS; rw [List.filterMap_cons, List.getElem?_eq_getElem h1]
    rw [e3]
    refine ⟨?_, by rw [List.length_cons, List.length_cons, e2]⟩
    unfold allV csL at *
    rw [List.flatMap_cons, List.flatMap_cons, e1, csAt_at h1]
theorem own_pick {w : World} {base cap : Nat} {q : Option Addr} {n : Nat} {ss : List Sess} {l : List Nat} (hl : ∀ i ∈ l, i < ss.length) (hn : n = l.length) (h : w.ownsRow base 30 12 (.slice q n cap) n (csL ss l)) : SessArg w (.slice q n cap) (pickS ss l) := by
  obtain ⟨e1, e2⟩ := pick_cells hl
  subst hn
  rw [← e2, ← e1] at h
  rw [← e2]
  exact sess_of_own h
theorem pick_take {ss : List Sess} {l : List Nat} (hl : ∀ i ∈ l, i < ss.length) (m : Nat) : (pickS ss l).take m = pickS ss (l.take m) := by
  induction l generalizing m with
  | nil => simp [pickS]
  | cons i r ih =>
    have h1 := hl i List.mem_cons_self
    have e3 : ∀ r, pickS ss (i :: r) = ss[i] :: pickS ss r := fun r => by unfold pickS; rw [List.filterMap_cons, List.getElem?_eq_getElem h1]
    cases m with
    | zero => simp [pickS]
    | succ m => rw [e3, List.take_succ_cons, List.take_succ_cons, e3, ih (fun j hj => hl j (List.mem_cons_of_mem _ hj))]
theorem SessArg.take {w : World} {q : Option Addr} {n c c' m : Nat} {ss : List Sess} (h : SessArg w (.slice q n c) ss) (hm : m ≤ ss.length) : SessArg w (.slice q m c') (ss.take m) := by
  have e : ss = ss.take m ++ ss.drop m := (List.take_append_drop m ss).symm
  rw [e] at h
  exact h.pre (by rw [List.length_take]; omega)
theorem outV_sesL (ss : List Sess) (l : List (Nat × Nat)) : outV ss l = csL ss (l.map Prod.snd) := by
  unfold outV csL; rw [List.flatMap_map]
theorem farV_ints {w : World} {base n : Nat} {v : Value} {l : List (Nat × Nat)} (hn : n = l.length) (h : w.ownsRow base 3 1 v n (farV l)) : In.IntArg w v (ints (l.map Prod.fst)) := by
  subst hn
  have e : farV l = (ints (l.map Prod.fst)).map (fun x => Value.int .i64 x) := by simp [farV, ints, nv]
  rw [e] at h
  exact In.own_ints (fun _ => rfl) (by simp [ints]) h
theorem blk_len (p : Nat) : ∀ (o : List (Nat × Nat)), (Vt.blk p o).length ≤ o.length
  | [] => Nat.le_refl _
  | x :: r => by
    unfold Vt.blk
    split
    · have h := (List.takeWhile_sublist (p := fun y : Nat × Nat => decide (x.1 < y.1)) (l := r)).length_le
      simp only [List.length_cons, List.length_map]
      omega
    · have := blk_len p r
      simp only [List.length_cons]; omega
theorem preL_len (ss : List Sess) (b : Int) : (preL ss b).length ≤ ss.length := by
  unfold preL
  split
  · exact Nat.zero_le _
  · have h := blk_len ‹Nat› (Vt.ordL (bu ss) ss.length)
    rwa [Vt.ord_len] at h
theorem preL_lt (ss : List Sess) (b : Int) : ∀ x ∈ preL ss b, x.2 < ss.length := by
  intro x hx
  rw [preL_pre] at hx
  cases hf : firstL ss b with
  | none => rw [hf] at hx; cases hx
  | some p =>
    rw [hf] at hx
    exact pre_mem_lt (ss.length + 1) 0 [p] (fun i hi => by rw [List.mem_singleton.1 hi]; exact firstL_lt hf) x hx
end Vw
end Go.Proofs.YtocoonkachbjaaaGreatDoor

/- lineagekit.Pick, of any two numbers. -/
namespace Go.Proofs.YtocoonkachbjaaaGreatDoor
open Go.RowKit
set_option linter.unusedVariables false
namespace Pk

theorem tmod_emod (k n : Int) (hn : 0 < n) : (k.tmod n < 0 → k.tmod n + n = k % n) ∧ (0 ≤ k.tmod n → k.tmod n = k % n) ∧ -n < k.tmod n ∧ k.tmod n < n := by
  have h1 := Int.tmod_add_tdiv_mul k n
  have h2 : -n < k.tmod n := Int.lt_tmod_of_pos k hn
  have h3 := Int.tmod_lt_of_pos k hn
  have e : (k.tmod n + k.tdiv n * n) % n = k.tmod n % n := by rw [Int.add_mul_emod_self_right]
  rw [h1] at e
  refine ⟨fun h => ?_, fun h => ?_, h2, h3⟩
  · rw [e, ← Int.add_emod_right]
    exact (Int.emod_eq_of_lt (by omega) (by omega)).symm
  · rw [e]; exact (Int.emod_eq_of_lt h h3).symm

theorem pick_any (k n : Int) (hn : 0 < n) (hb : n ≤ 4611686018427387904) (w : World) : Calls Tryz.prog 97 #[.int .i64 k, .int .i64 n] w fun e w' => e = .returned (.int .i64 (k % n)) ∧ w = w' := by
  obtain ⟨h1, h2, h3, h4⟩ := tmod_emod k n hn
  have n0 : (n == 0) = false := by rw [beq_eq_false_iff_ne]; omega
  have n1 : (n == -1) = false := by rw [beq_eq_false_iff_ne]; omega
  have n2 : 1 ≤ n := by omega
  have H1 := Lib.hid h1; have H2 := Lib.hid h2
  clear h1 h2
  by_cases h : k.tmod n < 0
  · go_enter Tryz.func97, Tryz.ntmps97
    go_wp2
    go_ret
    exact ⟨Ut.ret_int (H1.out h), rfl⟩
  · have h' : 0 ≤ k.tmod n := by omega
    go_enter Tryz.func97, Tryz.ntmps97
    go_wp2
    go_ret
    exact ⟨Ut.ret_int (H2.out h'), rfl⟩

end Pk
end Go.Proofs.YtocoonkachbjaaaGreatDoor
