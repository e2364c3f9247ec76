/- (*queue).up. -/
import Derived.Test.YtkmgpajodbadmaaHpSet
namespace Go.Proofs.Ytkmgpajodbadmaa
open Go.RowKit
set_option linter.unusedVariables false
namespace Hp

theorem cell_keep {w w' : World} (hb : Below w.heap.size w w') {a : Addr} {v : Value} (h : w.cell? a = some v) : w'.cell? a = some v := (hb.cell (World.block_lt_of_cell? w a h)).trans h

theorem ahead_S (S : World → Prop) (hS : ∀ w w', Below w.heap.size w w' → S w → S w') (x y : It) (w : World) (h : S w) :
    Calls Try.prog 39 #[.agg #[.int .i64 x.1, .int .i64 x.2], .agg #[.int .i64 y.1, .int .i64 y.2]] w fun e w' => e = .returned (.bool (ahd x y)) ∧ Below w.heap.size w w' ∧ S w' := by
  refine (ahead_any x y w).mono fun e w' ⟨h1, h2⟩ => ?_
  have hb : Below w.heap.size w w' := by
    rw [h2]; exact ((Below.refl _ _).alloc (Nat.le_refl _) _).alloc (by simp) _
  exact ⟨h1, hb, hS w w' hb h⟩

theorem set_of_g {L : List It} {c : Nat} (h : c < L.length) : L.set c (g L c) = L := by
  rw [g_eq h]; exact List.set_getElem_self h
theorem sw_of_set {M : List It} {c p : Nat} {x : It} (hc : c < M.length) (hp : p < M.length) (hcp : c ≠ p) : sw (M.set c x) c p = (M.set c (g M p)).set p x := by
  unfold sw
  rw [g_set hc, g_set hc, if_neg (fun e => hcp e.symm), if_pos rfl, List.set_set]

/-- While one is moved ahead. -/
def UpRel (lo H hb ga ca : Nat) (v : Value) (L0 : List It) (n c0 gb : Nat) (x : It) (w : World) (i : Value) (wr : World) : Prop :=
  ∃ (c : Nat) (M : List It) (ats : List Int), c < M.length ∧ i = .int .i64 c ∧ QAt lo H hb ga ca v M ats wr ∧ List.Perm (M.set c x) L0 ∧ Pos ats (M.set c x) n c ∧ (UpOrd L0 c0 → UpOrd (M.set c x) c) ∧
    wr.cell? ⟨gb, 0, none⟩ = some (.int .i64 x.1) ∧ wr.cell? ⟨gb, 1, none⟩ = some (.int .i64 x.2) ∧ Only (Ft H ga v) w wr

/-- What up and down leave. -/
def Sifted (lo H hb ga ca : Nat) (v : Value) (L0 : List It) (n : Nat) (P : List It → Prop) (w : World) (e : Ending) (w' : World) : Prop :=
  (∃ u, e = .returned u) ∧ ∃ L ats, QAt lo H hb ga ca v L ats w' ∧ List.Perm L L0 ∧ Pos ats L n L.length ∧ P L ∧ Only (Ft H ga v) w w'

set_option maxHeartbeats 4000000 in
theorem up_any (lo H hb ga ca : Nat) (v : Value) (L : List It) (ats : List Int) (n c : Nat) (w : World) (hq : QAt lo H hb ga ca v L ats w) (hG : Good L n) (hP : Pos ats L n c) (hc : c < L.length) (hl : (L.length : Int) ≤ 1048576) :
    Calls Try.prog 43 #[.pointer (some ⟨H, 0, none⟩), .int .i64 c] w (Sifted lo H hb ga ca v L n (fun L' => UpOrd L c → HeapOrd L') w) := by
  obtain ⟨gv, cap, rfl, r1, r2, r3, r4, r5, -⟩ := row_cells hq.row rfl (by omega)
  have c1 := hq.c_l
  obtain ⟨c2, c3⟩ := r4 c hc
  obtain ⟨x, hx⟩ : ∃ x, x = g L c := ⟨_, rfl⟩
  rw [← hx] at c2 c3
  have HX := Lib.hid hx
  have hlt := hq.ne.2.2.2.2.2.2
  have hgb : gv ≠ w.heap.size ∧ ga ≠ w.heap.size ∧ H ≠ w.heap.size := ⟨by omega, by omega, by omega⟩
  have hbl : Below w.heap.size w (w.alloc (.cells #[.int .i64 x.1, .int .i64 x.2] 66)) := (Below.refl _ _).alloc (Nat.le_refl _) _
  have HS : Hid (UpRel lo H hb ga ca (.slice (some ⟨gv, 0, none⟩) L.length cap) L n c w.heap.size x w (.int .i64 c) (w.alloc (.cells #[.int .i64 x.1, .int .i64 x.2] 66))) :=
    ⟨c, L, ats, hc, rfl, hq.below hbl, by rw [hx, set_of_g hc], by rw [hx, set_of_g hc]; exact hP, by rw [hx, set_of_g hc]; exact id, by simp, by simp, (Only.refl _ _).alloc _⟩
  have HGB := Lib.hid hgb
  have HG := Lib.hid hG
  have b1 : (0 : Int) ≤ (c : Int) := by omega
  have b2 : (c : Int) < (L.length : Int) := by omega
  clear hq hG hP r1 r2 r3 r4 r5 hlt hgb hbl hx
  go_enter Try.func43, Try.ntmps43
  go_wp2
  go_loopw [1] (fun i wr => UpRel lo H hb ga ca (.slice (some ⟨gv, 0, none⟩) L.length cap) L n c w.heap.size x w i wr) (fun i _ => (intOf i).toNat)
  case atStart => exact HS.out
  case round =>
    obtain ⟨j, M, az, hj, rfl, hq, hperm, hpos, hord, k0, k1, honly⟩ := hrel
    have hlen : M.length = L.length := by have := hperm.length_eq; simpa using this
    have HQ := Lib.hid hq; have HPERM := Lib.hid hperm; have HPOS := Lib.hid hpos; have HORD := Lib.hid hord; have HONLY := Lib.hid honly
    have HLEN := Lib.hid hlen
    have c1' := hq.c_l
    have c2' := hq.c_ahead
    obtain ⟨gv', cap', e, r1, r2, r3, r4, r5, -⟩ := row_cells hq.row rfl (by omega)
    obtain ⟨rfl, -, rfl⟩ : gv = gv' ∧ L.length = M.length ∧ cap = cap' := by simpa using e
    have HR4 := Lib.hid r4
    have HGL : Hid (Good (M.set j x) n) := HG.out.perm hperm
    have hxr : 0 ≤ x.1 ∧ x.1 < (n : Int) := HGL.out.range x (by rw [List.mem_iff_getElem]; exact ⟨j, by simpa using hj, by simp⟩)
    have hal : az.length = n := hpos.len
    have HXR := Lib.hid hxr; have HAL := Lib.hid hal
    have hj2 : j < L.length := by omega
    have HSX := Lib.hid (fun w' (hq : QAt lo H hb ga ca (.slice (some ⟨gv, 0, none⟩) L.length cap) M az w') => set_any lo H hb ga ca _ M az w' hq x hxr.1 (by omega) j hj)
    have b3 : (0 : Int) ≤ (j : Int) := by omega
    have b4 : (j : Int) ≤ 1048576 := by omega
    have b5 : (j : Int) < (L.length : Int) := by omega
    have HEND : Hid (∀ w' w'', QAt lo H hb ga ca (.slice (some ⟨gv, 0, none⟩) L.length cap) (M.set j x) (az.set x.1.toNat j) w'' → Only (Ft H ga (.slice (some ⟨gv, 0, none⟩) L.length cap)) w w' → Only (Ft H ga (.slice (some ⟨gv, 0, none⟩) L.length cap)) w' w'' → (j = 0 ∨ ahd x (g M (par j)) = false) →
        Sifted lo H hb ga ca (.slice (some ⟨gv, 0, none⟩) L.length cap) L n (fun L' => UpOrd L c → HeapOrd L') w (.returned (.tuple #[])) w'') := fun w' w'' h1 h2 h3 h4 => by
      have hgx : g (M.set j x) j = x := by rw [g_set hj, if_pos rfl]
      refine ⟨⟨_, rfl⟩, M.set j x, az.set x.1.toNat j, h1, HPERM.out, ?_, fun hu => (HORD.out hu).done ?_, h2.trans h3 (fun _ _ h => h)⟩
      · have := HPOS.out.fill HGL.out (by simpa using hj)
        rw [hgx] at this; exact this
      · rcases h4 with h4 | h4
        · exact .inl h4
        · by_cases j0 : j = 0
          · exact .inl j0
          · right
            have hpl := par_lt (k := j) (by omega)
            rw [hgx, g_set hj, if_neg (by omega)]; exact h4
    clear hq hperm hpos hord honly r1 r2 r3 r4 r5 e hal hlen hxr HS hj
    by_cases h0 : j = 0
    · have b6 : (j : Int) ≤ 0 := by omega
      have hdc : decide (0 < j) = false := by rw [decide_eq_false_iff_not]; omega
      have HJ := Lib.hid h0
      have hd1 : ∀ m, Only (Ft H ga (.slice (some ⟨gv, 0, none⟩) L.length cap)) w (wr.drewN m) := fun m => HONLY.out.trans (Only.of_below (Ut.below_drewN (Below.refl _ _) m)) (fun _ _ h => h)
      have HD1 := Lib.hid hd1
      clear h0 hd1 b6
      go_wp2
      go_quiet (fail)
      go_wp2_with fail
      refine (HSX.out _ (HQ.out.below (Ut.below_drewN (Below.refl _ _) _))).mono ?_
      rintro e w2 ⟨⟨u, rfl⟩, hq2, ho2⟩
      go_wp2
      go_end0
      exact HEND.out _ _ hq2 (HD1.out _) ho2 (.inl HJ.out)
    · have hp := par_lt (k := j) (by omega)
      have b6 : decide (0 < j) = true := by rw [decide_eq_true_eq]; omega
      have hpi : ((j : Int) - 1) / 2 = ((par j : Nat) : Int) := by unfold par; omega
      have hpi2 : Int.tdiv ((j : Int) - 1) 2 = ((par j : Nat) : Int) := by rw [Int.tdiv_eq_ediv_of_nonneg (by omega)]; exact hpi
      have b9 : (0 : Int) ≤ (j : Int) - 1 := by omega
      have hpM : par j < M.length := by rw [HLEN.out]; omega
      obtain ⟨m1, m2⟩ := HR4.out (par j) hpM
      have HNE : Hid (j ≠ par j ∧ par j < M.length ∧ 0 < j) := ⟨by omega, hpM, by omega⟩
      have hgp := HGL.out.range (g (M.set j x) (par j)) (g_mem (by simpa using hpM))
      have hgx : g (M.set j x) j = x := by rw [g_set (by rw [HLEN.out]; omega), if_pos rfl]
      have hgy : g (M.set j x) (par j) = g M (par j) := by rw [g_set (by rw [HLEN.out]; omega), if_neg (by omega)]
      rw [hgy] at hgp
      have HGX := Lib.hid hgx; have HGY := Lib.hid hgy
      obtain ⟨p, hpp⟩ : ∃ p, p = par j := ⟨_, rfl⟩
      rw [← hpp] at hp hpi hpi2 hpM m1 m2 HNE hgp HEND HGY
      have HPP := Lib.hid hpp
      obtain ⟨y, hy⟩ : ∃ y, y = g M p := ⟨_, rfl⟩
      rw [← hy] at m1 m2 hgp HEND HGY
      have HY := Lib.hid hy
      have HGP := Lib.hid hgp
      have b7 : (0 : Int) ≤ (p : Int) := by omega
      have b8 : (p : Int) < (L.length : Int) := by omega
      have hw1 : IntKind.i64.wrap ((j : Int) - 1) = (j : Int) - 1 := IntWalk.i64_in _ (by omega)
      have hw2 : IntKind.i64.wrap (p : Int) = (p : Int) := IntWalk.i64_in _ (by omega)
      have HAH := Lib.hid (fun w' (h :  w'.cell? ⟨w.heap.size, 0, none⟩ = some (.int .i64 x.1) ∧ w'.cell? ⟨w.heap.size, 1, none⟩ = some (.int .i64 x.2) ∧ w'.cell? ⟨H, 0, none⟩ = some (.slice (some ⟨gv, 0, none⟩) L.length cap) ∧ w'.cell? ⟨H, 1, none⟩ = some (.func (.func 39) #[] #[]) ∧ w'.cell? ⟨gv, p * 2, none⟩ = some (.int .i64 y.1) ∧ w'.cell? ⟨gv, p * 2 + 1, none⟩ = some (.int .i64 y.2)) =>
        ahead_S (fun w' => w'.cell? ⟨w.heap.size, 0, none⟩ = some (.int .i64 x.1) ∧ w'.cell? ⟨w.heap.size, 1, none⟩ = some (.int .i64 x.2) ∧ w'.cell? ⟨H, 0, none⟩ = some (.slice (some ⟨gv, 0, none⟩) L.length cap) ∧ w'.cell? ⟨H, 1, none⟩ = some (.func (.func 39) #[] #[]) ∧ w'.cell? ⟨gv, p * 2, none⟩ = some (.int .i64 y.1) ∧ w'.cell? ⟨gv, p * 2 + 1, none⟩ = some (.int .i64 y.2)) (fun w1 w2 hb h => ⟨cell_keep hb h.1, cell_keep hb h.2.1, cell_keep hb h.2.2.1, cell_keep hb h.2.2.2.1, cell_keep hb h.2.2.2.2.1, cell_keep hb h.2.2.2.2.2⟩) x y w' h)
      have HBL : Hid (∀ w2, Below wr.drew.heap.size wr.drew w2 → QAt lo H hb ga ca (.slice (some ⟨gv, 0, none⟩) L.length cap) M az w2 ∧ Only (Ft H ga (.slice (some ⟨gv, 0, none⟩) L.length cap)) w w2) := fun w2 hb2 =>
        ⟨HQ.out.drew.below hb2, (HONLY.out.drew).trans (Only.of_below hb2) (fun _ _ h => h)⟩
      clear hp hpM hpp hy hgp HR4
      cases hah : ahd x y with
      | false =>
        rw [hah] at HAH
        have HAHF := Lib.hid hah
        clear hah
        go_wp2
        go_region_held3 (fun w' => w'.cell? ⟨w.heap.size, 0, none⟩ = some (.int .i64 x.1) ∧ w'.cell? ⟨w.heap.size, 1, none⟩ = some (.int .i64 x.2) ∧ w'.cell? ⟨H, 0, none⟩ = some (.slice (some ⟨gv, 0, none⟩) L.length cap) ∧ w'.cell? ⟨H, 1, none⟩ = some (.func (.func 39) #[] #[]) ∧ w'.cell? ⟨gv, p * 2, none⟩ = some (.int .i64 y.1) ∧ w'.cell? ⟨gv, p * 2 + 1, none⟩ = some (.int .i64 y.2)) (go_keep) (first | (go_at_call 39; refine (HAH.out _ ?_).mono ?_; (simp [*]); rintro e w3 ⟨rfl, hb3, n1, n2, n3, n4, n5, n6⟩))
        obtain ⟨hq3, ho3⟩ := HBL.out _ hb3
        have HSX3 := Lib.hid (HSX.out _ hq3)
        have HO3 := Lib.hid ho3
        clear hb3 hq3 ho3
        go_wp2_with fail
        refine HSX3.out.mono ?_
        rintro e w4 ⟨⟨u, rfl⟩, hq4, ho4⟩
        go_wp2
        go_end0
        exact HEND.out _ _ hq4 HO3.out ho4 (.inr HAHF.out)
      | true =>
        rw [hah] at HAH
        have HAHT := Lib.hid hah
        clear hah
        go_wp2
        go_region_held3 (fun w' => w'.cell? ⟨w.heap.size, 0, none⟩ = some (.int .i64 x.1) ∧ w'.cell? ⟨w.heap.size, 1, none⟩ = some (.int .i64 x.2) ∧ w'.cell? ⟨H, 0, none⟩ = some (.slice (some ⟨gv, 0, none⟩) L.length cap) ∧ w'.cell? ⟨H, 1, none⟩ = some (.func (.func 39) #[] #[]) ∧ w'.cell? ⟨gv, p * 2, none⟩ = some (.int .i64 y.1) ∧ w'.cell? ⟨gv, p * 2 + 1, none⟩ = some (.int .i64 y.2)) (go_keep) (first | (go_at_call 39; refine (HAH.out _ ?_).mono ?_; (simp [*]); rintro e w3 ⟨rfl, hb3, n1, n2, n3, n4, n5, n6⟩))
        obtain ⟨hq3, ho3⟩ := HBL.out _ hb3
        have HSY := Lib.hid (set_any lo H hb ga ca _ M az w3 hq3 y HGP.out.1 (by rw [HAL.out]; exact HGP.out.2) j (by rw [HLEN.out]; exact hj2))
        have HO3 := Lib.hid ho3
        have HK : Hid (∀ w4, QAt lo H hb ga ca (.slice (some ⟨gv, 0, none⟩) L.length cap) (M.set j y) (az.set y.1.toNat j) w4 → Only (Ft H ga (.slice (some ⟨gv, 0, none⟩) L.length cap)) w3 w4 →
            UpRel lo H hb ga ca (.slice (some ⟨gv, 0, none⟩) L.length cap) L n c w.heap.size x w (.int .i64 p) w4) := fun w4 hq4 ho4 => by
          obtain ⟨n1', n2', n3'⟩ := HNE.out
          have hjM : j < M.length := by rw [HLEN.out]; exact hj2
          have hsw : sw (M.set j x) j p = (M.set j y).set p x := by rw [sw_of_set hjM n2' n1', ← HY.out]
          have hlt4 : w.heap.size < w3.heap.size := World.block_lt_of_cell? w3 ⟨w.heap.size, 0, none⟩ n1
          have hnf : ¬ Ft H ga (.slice (some ⟨gv, 0, none⟩) L.length cap) w.heap.size := by
            obtain ⟨q1, q2, q3⟩ := HGB.out
            rintro (e | e | e)
            · exact q3 e.symm
            · exact q2 e.symm
            · exact q1 (by cases e; rfl)
          refine ⟨p, M.set j y, az.set y.1.toNat j, by simpa using n2', rfl, hq4, ?_, ?_, fun hu => ?_, (ho4.cell (p := ⟨w.heap.size, 0, none⟩) hlt4 hnf).trans n1, (ho4.cell (p := ⟨w.heap.size, 1, none⟩) hlt4 hnf).trans n2, HO3.out.trans ho4 (fun _ _ h => h)⟩
          · rw [← hsw]; exact (sw_perm (by simpa using hjM) (by simpa using n2')).trans HPERM.out
          · rw [← hsw]
            have := HPOS.out.move HGL.out (d := p) (by simpa using hjM) (by simpa using n2') n1'
            rw [HGY.out] at this; exact this
          · rw [← hsw]
            have := (HORD.out hu).step n3' (by simpa using hjM) (by rw [HGX.out, ← HPP.out, HGY.out]; exact HAHT.out)
            rw [← HPP.out] at this; exact this
        clear hb3 hq3 ho3
        go_wp2_with fail
        refine HSY.out.mono ?_
        rintro e w4 ⟨⟨u, rfl⟩, hq4, ho4⟩
        have HU := Lib.hid (HK.out _ hq4 ho4)
        clear hq4 ho4
        go_wp2
        go_roundw
        case rel => exact HU.out
        case measure => simp [intOf]; have := HNE.out; have := HPP.out; unfold par at this; omega

end Hp
end Go.Proofs.Ytkmgpajodbadmaa
