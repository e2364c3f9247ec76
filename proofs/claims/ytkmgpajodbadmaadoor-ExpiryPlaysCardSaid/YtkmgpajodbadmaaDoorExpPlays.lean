/- The law ExpiryPlays. -/
import Derived.Test.YtkmgpajodbadmaaDoorExpDoes
import Derived.Test.YtkmgpajodbadmaaDoorHandle
import Derived.Test.YtkmgpajodbadmaaDoorLeaves
namespace Go.Proofs.YtkmgpajodbadmaaDoor
open Go.RowKit Go.Proofs.Ar
set_option linter.unusedVariables false
namespace Ex

/-- A value is a list of acts, wherever it lies. -/
def ActArg (w : World) (v : Value) (ps : List Act5) : Prop :=
  ∃ p cap, v = .slice p ps.length cap ∧ ∀ j (hj : j < ps.length), ∃ g o, p = some ⟨g, o, none⟩ ∧ g < w.heap.size ∧ w.cell? ⟨g, o + j * 5, none⟩ = some (.int .i64 ps[j].1) ∧ w.cell? ⟨g, o + j * 5 + 1, none⟩ = some (.int .i64 ps[j].2.1) ∧ w.cell? ⟨g, o + j * 5 + 2, none⟩ = some (.int .i64 ps[j].2.2.1) ∧
    w.cell? ⟨g, o + j * 5 + 3, none⟩ = some (.int .i64 ps[j].2.2.2.1) ∧ w.cell? ⟨g, o + j * 5 + 4, none⟩ = some (.int .i64 ps[j].2.2.2.2)

def rowOf (x : Act5) : List Value := [.int .i64 x.1, .int .i64 x.2.1, .int .i64 x.2.2.1, .int .i64 x.2.2.2.1, .int .i64 x.2.2.2.2]
theorem act_of_rows {w : World} {v : Value} {ps : List Act5} (h : RowArg w v 5 (ps.map rowOf)) : ActArg w v ps := by
  obtain ⟨p, cap, rfl, h⟩ := h
  refine ⟨p, cap, by simp, fun j hj => ?_⟩
  obtain ⟨_, g, o, h1, h2, h3⟩ := h j (by simpa using hj)
  have e : (ps.map rowOf)[j]'(by simpa using hj) = rowOf ps[j] := by simp
  rw [e] at h3
  exact ⟨g, o, h1, h2, h3 0 _ rfl, h3 1 _ rfl, h3 2 _ rfl, h3 3 _ rfl, h3 4 _ rfl⟩

theorem heap_lower {lo lo' H n : Nat} {L : List Hp.It} {F : Nat → Prop} {w : World} (h : Hp.HeapAt lo H n L F w) (hl : lo' ≤ lo) : Hp.HeapAt lo' H n L F w := by
  obtain ⟨hb, ga, ca, v, ats, h1, h2⟩ := h
  exact ⟨hb, ga, ca, v, ats, ⟨h1.top, h1.box, Ut.own_base h1.row hl, Ut.own_base h1.at_ hl, Nat.le_trans hl h1.loH, Nat.le_trans hl h1.loB⟩, h2⟩
theorem ExpAt.lower {lo lo' E N : Nat} {S : List Ent} {F : Nat → Prop} {w : World} (h : ExpAt lo E N S F w) (hl : lo' ≤ lo) : ExpAt lo' E N S F w := by
  obtain ⟨H, bm, n, D, L, Fh, k1, k2, k3, k4, k5, k6, k7, k8, k9⟩ := h
  exact ⟨H, bm, n, D, L, Fh, k1, Nat.le_trans hl k2, heap_lower k3 hl, k4, k5, k6, k7, ⟨Nat.le_trans hl k8.1, k8.2⟩, k9⟩
/-- All that there is while a script is played. -/
structure PlayE (lo E r Eo : Nat) (w0 : World) (m N : Nat) (S : List Ent) (F Fo : Nat → Prop) (v : Value) (w : World) : Prop where
  both : EBoth lo E r N S S F v w
  other : ExpAt lo Eo 0 [] Fo w
  apart : ∀ k, F k → ¬ Fo k
  apartr : ¬ Fo r
  nm : N ≤ m
  bel : Below lo w0 w
  low : lo ≤ w.heap.size

theorem PlayE.below {lo E r Eo : Nat} {w0 : World} {m N : Nat} {S : List Ent} {F Fo : Nat → Prop} {v : Value} {w w' : World} (h : PlayE lo E r Eo w0 m N S F Fo v w) (hb : Below w.heap.size w w') : PlayE lo E r Eo w0 m N S F Fo v w' :=
  ⟨h.both.below hb, h.other.below hb, h.apart, h.apartr, h.nm, h.bel.trans (hb.mono h.low), Nat.le_trans h.low hb.size⟩
theorem PlayE.step {lo E r Eo : Nat} {w0 : World} {m N : Nat} {S : List Ent} {F Fo : Nat → Prop} {v : Value} {w w' : World} {e : Ending} (h : PlayE lo E r Eo w0 m N S F Fo v w) (hd : DuePost lo E r N F w e w') :
    e = .returned (.bool true) ∧ ∃ S' F' v' N', PlayE lo E r Eo w0 (m + 1) N' S' F' Fo v' w' := by
  obtain ⟨he, S', F', v', N', h1, h2, h3, h4⟩ := hd
  refine ⟨he, S', F', v', N', h1, h.other.only h3 (fun k hk hf => ?_), fun k hk hf => ?_, h.apartr, by have := h.nm; omega, h.bel.trans (h3.below h.low (fun i hi hf => ?_)), Nat.le_trans h.low h3.size⟩
  · rcases hf with hf | rfl
    · exact h.apart k hf hk
    · exact h.apartr hk
  · rcases h4 k hk with e | e
    · exact h.apart k e hf
    · have := (h.other.lt k hf).2; omega
  · rcases hf with hf | rfl
    · have := (h.both.exp.lt i hf).1; omega
    · have := h.both.ref.loR; omega

def PlayRelE (lo E r Eo : Nat) (w0 : World) (Fo : Nat → Prop) (m : Nat) (i : Value) (wr : World) : Prop :=
  ∃ (k : Nat) (N : Nat) (S : List Ent) (F : Nat → Prop) (v : Value), k ≤ m ∧ i = .int .i64 k ∧ PlayE lo E r Eo w0 (2 * k) N S F Fo v wr

set_option maxHeartbeats 4000000 in
theorem expiryPlays_core (v : Value) (ps : List Act5) (hl : (ps.length : Int) ≤ 9223372036854775807) (hz : ∀ s ∈ ps, (Lit.int .i64 s.2.2.2.1).wf = true) (w : World) (hg : erHandle w) (ht : ActArg w v ps) :
    Calls Tryd.prog 5 #[v] w fun e w' => e = .returned (.bool true) ∧ Below w.heap.size w w' := by
  obtain ⟨q, c, rfl, hcells⟩ := ht
  by_cases hbig : 2000 < ps.length
  · have b0 : (2000 : Int) < (ps.length : Int) := by omega
    clear hbig hcells hg hz
    go_enter Tryd.func5, Tryd.ntmps5
    go_wp2
    go_ret
    exact ⟨rfl, Below.refl _ _⟩
  · have b0 : (ps.length : Int) ≤ 2000 := by omega
    have HNEW := Lib.hid (fun w' => enew_any w')
    have HER := Lib.hid (fun w' (hb : Below w.heap.size w w') => hg.below hg.lt hb)
    have HGL := Lib.hid hg.lt
    have HC := Lib.hid hcells; have HZ := Lib.hid hz
    clear hbig hcells hg hz
    go_enter Tryd.func5, Tryd.ntmps5
    go_wp2_with fail
    refine (HNEW.out _).mono ?_
    rintro e w1 ⟨E, F1, rfl, hx1, hb1⟩
    have HX1 := Lib.hid hx1; have HB1 := Lib.hid hb1
    clear hx1 hb1
    go_wp2_with fail
    refine (HNEW.out _).mono ?_
    rintro e w2 ⟨Eo, F2, rfl, hx2, hb2⟩
    have HX2 := Lib.hid hx2; have HB2 := Lib.hid hb2
    clear hx2 hb2
    obtain ⟨w3, hw3⟩ : ∃ w3, w3 = w2.alloc (.cells #[.slice none 0 0] 56) := ⟨_, rfl⟩
    have hb3 : Below w2.heap.size w2 w3 := by rw [hw3]; exact (Below.refl _ _).alloc (Nat.le_refl _) _
    have ht3 : w3.heap[w2.heap.size]? = some (.cells #[.slice none 0 0] 56 (0, 0)) := by rw [hw3]; exact Ut.alloc_at _ _
    have hst : PlayRelE w.heap.size E w2.heap.size Eo w F2 ps.length (.int .i64 (0 : Nat)) w3 := by
      have hs1 := HB1.out.size
      have hs2 := HB2.out.size
      have hb23 := HB2.out.trans (hb3.mono hs2)
      have ho : ExpAt w.heap.size Eo 0 [] F2 w3 := (HX2.out.below hb3).lower hs1
      refine ⟨0, 0, [], F1, .slice none 0 0, Nat.zero_le _, rfl, ⟨⟨HX1.out.below hb23, ⟨ht3, World.ownsRow_nil _ _ _ _, Nat.le_trans hs1 hs2⟩, fun hf => ?_, fun b e => by simp [Value.ownBlock] at e⟩, ho, fun k hk hf => ?_, fun hf => ?_, Nat.le_refl _, HB1.out.trans (hb23.mono hs1), Nat.le_trans hs1 (Nat.le_trans hs2 hb3.size)⟩⟩
      · have := (HX1.out.lt _ hf).2; omega
      · have h1 := (HX1.out.lt _ hk).2
        have h2 := (HX2.out.lt _ hf).1
        omega
      · have := (HX2.out.lt _ hf).2; omega
    have HST := Lib.hid hst
    clear hb3 ht3 hst
    go_wp2_with fail
    rw [← hw3]
    have HW3 := Lib.hid hw3
    clear hw3
    go_loopw [6] (fun i wr => PlayRelE w.heap.size E w2.heap.size Eo w F2 ps.length i wr) (fun i _ => ps.length - (intOf i).toNat)
    case atStart => exact HST.out
    case round =>
      obtain ⟨k, N, S, F, v, hk, rfl, hpl⟩ := hrel
      have HPA := Lib.hid hpl
      clear hpl
      by_cases h : k < ps.length
      · have b1 : (0 : Int) ≤ (k : Int) := by omega
        have b2 : (k : Int) < (ps.length : Int) := by omega
        obtain ⟨g1, o1, rfl, hg1, k1, k2, k3, k4, k5⟩ := HC.out k h
        have hzk := HZ.out ps[k] (List.getElem_mem h)
        obtain ⟨p, hpk⟩ : ∃ p, p = ps[k] := ⟨_, rfl⟩
        rw [← hpk] at k1 k2 k3 k4 k5 hzk
        have k1' : wr.cell? ⟨g1, o1 + k * 5, none⟩ = some (.int .i64 p.1) := (HPA.out.bel.cell (p := ⟨g1, o1 + k * 5, none⟩) hg1).trans k1
        have k2' : wr.cell? ⟨g1, o1 + k * 5 + 1, none⟩ = some (.int .i64 p.2.1) := (HPA.out.bel.cell (p := ⟨g1, o1 + k * 5 + 1, none⟩) hg1).trans k2
        have k3' : wr.cell? ⟨g1, o1 + k * 5 + 2, none⟩ = some (.int .i64 p.2.2.1) := (HPA.out.bel.cell (p := ⟨g1, o1 + k * 5 + 2, none⟩) hg1).trans k3
        have k4' : wr.cell? ⟨g1, o1 + k * 5 + 3, none⟩ = some (.int .i64 p.2.2.2.1) := (HPA.out.bel.cell (p := ⟨g1, o1 + k * 5 + 3, none⟩) hg1).trans k4
        have k5' : wr.cell? ⟨g1, o1 + k * 5 + 4, none⟩ = some (.int .i64 p.2.2.2.2) := (HPA.out.bel.cell (p := ⟨g1, o1 + k * 5 + 4, none⟩) hg1).trans k5
        have HK := Lib.hid h
        have HD1 := Lib.hid (does_any _ E w2.heap.size N S F v wr HPA.out.both HPA.out.low (by have := HPA.out.nm; omega) (HER.out _ HPA.out.bel) HGL.out p hzk)
        clear k1 k2 k3 k4 k5 hpk hg1 h hzk hk
        go_wp2_with fail
        refine HD1.out.mono ?_
        rintro e w4 hp4
        obtain ⟨rfl, S4, F4, v4, N4, hpl4⟩ := HPA.out.step hp4
        have HP4 := Lib.hid hpl4
        have HD2 := Lib.hid ((does_any _ E w2.heap.size N4 S4 F4 v4 w4 hpl4.both hpl4.low (by have := hpl4.nm; have := HK.out; omega) (HER.out _ hpl4.bel) HGL.out (3, 0, 0, 0, 0) (by decide)))
        clear hp4 hpl4 k1' k2' k3' k4' k5'
        go_wp2_with fail
        refine HD2.out.mono ?_
        rintro e w5 hp5
        obtain ⟨rfl, S5, F5, v5, N5, hpl5⟩ := HP4.out.step hp5
        have HP5 := Lib.hid hpl5
        clear hp5 hpl5
        go_wp2
        go_roundw
        case rel => exact ⟨k + 1, N5, S5, F5, v5, by have := HK.out; omega, by go_num, HP5.out⟩
        case measure => have := HK.out; simp [intOf]; omega
      · have b2 : (ps.length : Int) ≤ (k : Int) := by omega
        have hkl : k = ps.length := by omega
        have HKL : Hid (2 * k ≤ 4000) := by show _ ≤ _; omega
        have HON := Lib.hid (enext_any _ Eo 0 [] F2 wr HPA.out.other)
        clear h hk hkl
        go_wp2_with fail
        refine HON.out.mono ?_
        rintro e w4 ⟨rfl, hb4⟩
        have HP4 := Lib.hid (HPA.out.below hb4)
        have HD2 := Lib.hid ((does_any _ E w2.heap.size N S F v w4 HP4.out.both HP4.out.low (by have := HP4.out.nm; have := HKL.out; omega) (HER.out _ HP4.out.bel) HGL.out (4, 1099511627776, 0, 0, 0) (by decide)))
        clear hb4
        go_wp2_with fail
        refine HD2.out.mono ?_
        rintro e w5 hp5
        obtain ⟨rfl, S5, F5, v5, N5, hpl5⟩ := HP4.out.step hp5
        have HP5 := Lib.hid hpl5
        clear hp5 hpl5
        go_wp2
        go_ret
        exact ⟨rfl, HP5.out.bel⟩

end Ex

theorem expiryPlays_row0 {H : Type} {enc : TypeId × Value → H} {w : World} {base : Nat} {spare : Nat → Bool} {held : Bool} (s : List Value) (h : s.length = 5 ∧ ∀ (i : Nat) (tl : TypeId) (u : Value), [3, 3, 3, 3, 3][i]? = some tl → s[i]? = some u → LeafIs enc Tryd.prog w base spare held tl u) : ∃ x : Ex.Act5, s = Ex.rowOf x ∧ (Lit.int .i64 x.2.2.2.1).wf = true := by
  obtain ⟨hl, hs⟩ := h
  match s, hl with
  | [a, b, c, d, e], _ =>
    obtain ⟨x0, rfl, _⟩ := (hs 0 _ _ rfl rfl).int Tryd.underlying3
    obtain ⟨x1, rfl, _⟩ := (hs 1 _ _ rfl rfl).int Tryd.underlying3
    obtain ⟨x2, rfl, _⟩ := (hs 2 _ _ rfl rfl).int Tryd.underlying3
    obtain ⟨x3, rfl, w3⟩ := (hs 3 _ _ rfl rfl).int Tryd.underlying3
    obtain ⟨x4, rfl, _⟩ := (hs 4 _ _ rfl rfl).int Tryd.underlying3
    exact ⟨(x0, x1, x2, x3, x4), rfl, w3⟩

theorem expiryPlays_walk (v : Value) (rs : List (List Value)) (hl : rs.length ≤ maxLen) (hz : ∀ s ∈ rs, ∃ x : Ex.Act5, s = Ex.rowOf x ∧ (Lit.int .i64 x.2.2.2.1).wf = true) (w : World) (hL : laidMetH Tryd.prog Rows.expiryPlaysRow.laid w) (ht : RowArg w v 5 rs) :
    Calls Tryd.prog 5 #[v] w fun e w' => e = .returned (.bool true) ∧ Below w.heap.size w w' := by
  have hex : ∃ ps : List Ex.Act5, rs = ps.map Ex.rowOf ∧ ∀ s ∈ ps, (Lit.int .i64 s.2.2.2.1).wf = true := by
    clear hl ht
    induction rs with
    | nil => exact ⟨[], rfl, by simp⟩
    | cons a t ih =>
      obtain ⟨x, rfl, hx⟩ := hz a List.mem_cons_self
      obtain ⟨ps, rfl, hp⟩ := ih (fun s hs => hz s (List.mem_cons_of_mem _ hs))
      exact ⟨x :: ps, rfl, fun s hs => by
        rcases List.mem_cons.1 hs with rfl | hs
        · exact hx
        · exact hp s hs⟩
  obtain ⟨ps, rfl, hp⟩ := hex
  exact Ex.expiryPlays_core v ps (by rw [List.length_map] at hl; unfold maxLen at hl; omega) hp w (handle_of_laid hL (by kernel_rfl)) (Ex.act_of_rows ht)

end Go.Proofs.YtkmgpajodbadmaaDoor
