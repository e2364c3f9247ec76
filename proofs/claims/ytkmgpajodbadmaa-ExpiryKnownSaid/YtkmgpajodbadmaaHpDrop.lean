/- (*queue).drop. -/
import Derived.Test.YtkmgpajodbadmaaHpPut
namespace Go.Proofs.Ytkmgpajodbadmaa
open Go.RowKit
set_option linter.unusedVariables false
namespace Hp

theorem QAt.shorten {lo H hb ga ca gv cap : Nat} {L : List It} {ats : List Int} {w : World} {N : Nat} (hN : L.length = N + 1) (hq : QAt lo H hb ga ca (.slice (some ⟨gv, 0, none⟩) L.length cap) L ats w) :
    QAt lo H hb ga ca (.slice (some ⟨gv, 0, none⟩) N cap) (L.take N) ats (w.setCell ⟨H, 0, none⟩ (.slice (some ⟨gv, 0, none⟩) N cap)) := by
  obtain ⟨n1, n2, n3, n4, n5, n6, n7, n8, n9, n10⟩ := hq.ne
  have hk : ∀ j, j ≠ H → (w.setCell ⟨H, 0, none⟩ (.slice (some ⟨gv, 0, none⟩) N cap)).heap[j]? = w.heap[j]? := fun j hj => Below.heap_setCell _ _ _ _ (by simpa using hj)
  have hgH : gv ≠ H := fun e => n4 (by rw [e]; rfl)
  have hrow : w.ownsRow lo 66 2 (.slice (some ⟨gv, 0, none⟩) N cap) N (encL (L.take N)) := by
    obtain ⟨hl, h2⟩ := hq.row
    refine ⟨by rw [encL_len, List.length_take, hN]; omega, ?_⟩
    rcases h2 with ⟨h2, _⟩ | ⟨g', c', cur, e, h3, h4, h5, h6, h7, h8⟩
    · cases h2
    · obtain ⟨rfl, rfl⟩ : gv = g' ∧ cap = c' := by simpa using e
      refine .inr ⟨gv, cap, cur, rfl, h3, h4, by omega, h6, h7, ?_⟩
      rw [encL_take, ← h8, List.take_take, Nat.min_eq_left (by rw [hN]; omega)]
  have hlen : (L.take N).length = N := by rw [List.length_take, hN]; omega
  refine ⟨?_, (hk hb (fun e => n1 e.symm)).trans hq.box, ?_, ?_, hq.loH, hq.loB⟩
  · rw [heap_setCell_same w H 0 _ _ _ hq.top]; rfl
  · rw [hlen]; exact ownsRow_setCell_other (a := ⟨H, 0, none⟩) hrow (by simpa [Value.ownBlock] using hgH) _
  · exact ownsRow_setCell_other (a := ⟨H, 0, none⟩) hq.at_ (by simpa [Value.ownBlock] using n2) _

theorem Pos.weaken {ats : List Int} {L : List It} {n c : Nat} (h : Pos ats L n L.length) : Pos ats L n c :=
  ⟨h.len, fun k hk _ => h.here k hk (by omega), h.gone⟩
theorem g_take {L : List It} {N k : Nat} (h : k < N) : g (L.take N) k = g L k := by
  unfold g
  rw [List.getD_eq_getElem?_getD, List.getD_eq_getElem?_getD, List.getElem?_take, if_pos h]
theorem Good.tail {x : It} {L : List It} {n : Nat} (h : Good (x :: L) n) : Good L n :=
  ⟨(List.nodup_cons.1 (by simpa using h.nodup)).2, fun y hy => h.range y (List.mem_cons_of_mem _ hy)⟩

/-- Positions behind a taking out: the last one laid at the hole. -/
theorem Pos.cut {ats : List Int} {L : List It} {n a N : Nat} (hN : L.length = N + 1) (h : Pos ats L n a) (hG : Good L n) (ha : a < N) (hg : ats.getD (g L a).1.toNat 0 = -1) : Pos (ats.set (g L N).1.toNat (a : Int)) (cut L a) n N := by
  have hr := hG.range _ (g_mem (L := L) (k := N) (by omega))
  have hl : (g L N).1.toNat < ats.length := by rw [h.len]; omega
  have hc : L.length - 1 = N := by omega
  have hgc : ∀ k, k < N → g (Hp.cut L a) k = if k = a then g L N else g L k := fun k hk => by
    have := g_cut (L := L) (a := a) (k := k) (by omega) (by omega)
    rw [hc] at this; exact this
  refine ⟨by simp [h.len], fun k hk _ => ?_, fun i hi hno => ?_⟩
  · rw [cut_len, hc] at hk
    rw [hgc k hk, getD_set hl]
    by_cases e : k = a
    · rw [if_pos e, if_pos rfl, e]
    · rw [if_neg e]
      have hrk := hG.range _ (g_mem (L := L) (k := k) (by omega))
      rw [if_neg (fun e2 => absurd (hG.inj (i := k) (j := N) (by omega) (by omega) (by omega)) (by omega))]
      exact h.here k (by omega) e
  · have hno' : ∀ k, k < L.length → k ≠ a → (g L k).1 ≠ (i : Int) := fun k hk hka => by
      by_cases e : k = N
      · have := hno a (by rw [cut_len, hc]; exact ha)
        rw [hgc a ha, if_pos rfl] at this
        rw [e]; exact this
      · have := hno k (by rw [cut_len, hc]; omega)
        rw [hgc k (by omega), if_neg hka] at this; exact this
    have h1 := hno' N (by omega) (by omega)
    rw [getD_set hl, if_neg (by omega)]
    by_cases e : (g L a).1 = (i : Int)
    · rw [e] at hg; simpa using hg
    · exact h.gone i hi (fun k hk => by
        by_cases e2 : k = a
        · rw [e2]; exact e
        · exact hno' k hk e2)
theorem Pos.cutLast {ats : List Int} {L : List It} {n N : Nat} (hN : L.length = N + 1) (h : Pos ats L n N) (hg : ats.getD (g L N).1.toNat 0 = -1) : Pos ats (L.take N) n N := by
  have hlen : (L.take N).length = N := by rw [List.length_take, hN]; omega
  refine ⟨h.len, fun k hk hk2 => ?_, fun i hi hno => ?_⟩
  · rw [hlen] at hk
    rw [g_take hk]; exact h.here k (by omega) (by omega)
  · by_cases e : (g L N).1 = (i : Int)
    · rw [e] at hg; simpa using hg
    · exact h.gone i hi (fun k hk => by
        by_cases e2 : k = N
        · rw [e2]; exact e
        · have := hno k (by rw [hlen]; omega)
          rw [g_take (by omega)] at this; exact this)

def Dropped (lo H hb ga ca : Nat) (v : Value) (L : List It) (a n : Nat) (w : World) (e : Ending) (w' : World) : Prop :=
  (∃ u, e = .returned u) ∧ ∃ v' L' ats, QAt lo H hb ga ca v' L' ats w' ∧ List.Perm (g L a :: L') L ∧ Pos ats L' n L'.length ∧ (HeapOrd L → HeapOrd L') ∧ Only (Ft H ga v) w w' ∧ ∀ k, v'.ownBlock = some k → v.ownBlock = some k

set_option maxHeartbeats 4000000 in
theorem drop_any (lo H hb ga ca : Nat) (v : Value) (L : List It) (ats : List Int) (n a : Nat) (w : World) (hq : QAt lo H hb ga ca v L ats w) (hG : Good L n) (hP : Pos ats L n a) (ha : a < L.length) (hgone : ats.getD (g L a).1.toNat 0 = -1) (hl : (L.length : Int) ≤ 1048576) :
    Calls Try.prog 34 #[.pointer (some ⟨H, 0, none⟩), .int .i64 a] w (Dropped lo H hb ga ca v L a n w) := by
  obtain ⟨gv, cap, rfl, r1, r2, r3, r4, r5, -⟩ := row_cells hq.row rfl (by omega)
  obtain ⟨N, hN⟩ : ∃ N, L.length = N + 1 := ⟨L.length - 1, by omega⟩
  have c1 := hq.c_l
  obtain ⟨c2, c3⟩ := r4 N (by omega)
  obtain ⟨x, hx⟩ : ∃ x, x = g L N := ⟨_, rfl⟩
  rw [← hx] at c2 c3
  have hbl : Below w.heap.size w (w.alloc (.cells #[.int .i64 x.1, .int .i64 x.2] 66)) := (Below.refl _ _).alloc (Nat.le_refl _) _
  have hq2 := hq.below hbl
  have c4 := hq2.c_l
  have c5 := frozen_of_row _ _ 0 _ _ hq2.top
  have hq3 := QAt.shorten hN hq2
  have hne := hq2.ne
  have hgb : H ≠ w.heap.size ∧ gv ≠ w.heap.size ∧ ga ≠ w.heap.size := by have := hq.ne.2.2.2.2.2.2; exact ⟨by omega, by omega, by omega⟩
  have k0 : ((w.alloc (.cells #[.int .i64 x.1, .int .i64 x.2] 66)).setCell ⟨H, 0, none⟩ (.slice (some ⟨gv, 0, none⟩) N cap)).cell? ⟨w.heap.size, 0, none⟩ = some (.int .i64 x.1) := by
    refine (World.cell?_of_block (w := w.alloc (.cells #[.int .i64 x.1, .int .i64 x.2] 66)) (Below.heap_setCell _ _ _ _ (by simpa using fun e => hgb.1 e.symm))).trans (by simp)
  have k1 : ((w.alloc (.cells #[.int .i64 x.1, .int .i64 x.2] 66)).setCell ⟨H, 0, none⟩ (.slice (some ⟨gv, 0, none⟩) N cap)).cell? ⟨w.heap.size, 1, none⟩ = some (.int .i64 x.2) := by
    refine (World.cell?_of_block (w := w.alloc (.cells #[.int .i64 x.1, .int .i64 x.2] 66)) (Below.heap_setCell _ _ _ _ (by simpa using fun e => hgb.1 e.symm))).trans (by simp)
  have HO : Hid (Only (Ft H ga (.slice (some ⟨gv, 0, none⟩) L.length cap)) w ((w.alloc (.cells #[.int .i64 x.1, .int .i64 x.2] 66)).setCell ⟨H, 0, none⟩ (.slice (some ⟨gv, 0, none⟩) N cap))) :=
    ((Only.refl _ _).alloc _).setCell (p := ⟨H, 0, none⟩) (fun _ => .inl rfl) _
  have HF : Hid (∀ M i, Ft H ga (.slice (some ⟨gv, 0, none⟩) M cap) i → Ft H ga (.slice (some ⟨gv, 0, none⟩) L.length cap) i) := fun M i hi => hi
  have HQ3 := Lib.hid hq3
  have HX := Lib.hid hx; have HG := Lib.hid hG; have HP := Lib.hid hP; have HGN := Lib.hid hgone; have HN := Lib.hid hN
  have HK0 := Lib.hid k0; have HK1 := Lib.hid k1
  rw [hN] at c1 c4 hl
  have b1 : (0 : Int) ≤ (N : Int) := by omega
  have b2 : (N : Int) < ((N + 1 : Nat) : Int) := by omega
  have b3 : (N : Int) ≤ (cap : Int) := by omega
  have v1 : IntKind.i64.wrap (N : Int) = (N : Int) := IntWalk.i64_in _ (by omega)
  have b4 : (0 : Int) ≤ (a : Int) := by omega
  have HA : Hid (a < N + 1) := by show _ < _; omega
  have HHL : Hid ((N : Int) ≤ 1048575) := by show _ ≤ _; omega
  clear hq hG hP ha hgone r1 r2 r3 r4 r5 hbl hq2 hq3 hne hgb hx hN hl k0 k1
  by_cases ha : a < N
  · have b5 : (a : Int) < (N : Int) := by omega
    have HAN := Lib.hid ha
    clear ha
    have k0 := HK0.out; have k1 := HK1.out
    go_enter Try.func34, Try.ntmps34
    go_wp2_with fail
    obtain ⟨W, hW⟩ : ∃ X, X = (w.alloc (.cells #[.int .i64 x.1, .int .i64 x.2] 66)).setCell ⟨H, 0, none⟩ (.slice (some ⟨gv, 0, none⟩) N cap) := ⟨_, rfl⟩
    rw [← hW] at HQ3 HO k0 k1 ⊢
    clear hW HK0 HK1
    have hlen : (L.take N).length = N := by rw [List.length_take, HN.out]; omega
    have hcut : (L.take N).set a x = cut L a := by
      unfold cut
      rw [show L.length - 1 = N by have := HN.out; omega, HX.out]
    have hxr : 0 ≤ x.1 ∧ x.1 < (n : Int) := by rw [HX.out]; exact HG.out.range _ (g_mem (by rw [HN.out]; omega))
    have hs := set_any lo H hb ga ca _ _ ats W HQ3.out x hxr.1 (by rw [HP.out.len]; exact hxr.2) a (by rw [hlen]; exact HAN.out)
    rw [hcut] at hs
    have HS := Lib.hid hs
    have hpc := Pos.cut HN.out HP.out HG.out HAN.out HGN.out
    rw [← HX.out] at hpc
    have hcl : (cut L a).length = N := by rw [cut_len, HN.out]; omega
    have hperm := cut_perm (L := L) (a := a) (by rw [HN.out]; have := HAN.out; omega)
    have hgc : Good (cut L a) n := (HG.out.perm hperm).tail
    have HPC := Lib.hid hpc; have HPERM := Lib.hid hperm; have HGC := Lib.hid hgc; have HCL := Lib.hid hcl
    clear hs hpc hperm hgc hcl hcut hlen hxr
    refine HS.out.mono ?_
    rintro e w3 ⟨⟨u3, rfl⟩, hq3, ho3⟩
    have hpc2 : Pos (ats.set x.1.toNat a) (cut L a) n a := Pos.weaken (by rw [HCL.out]; exact HPC.out)
    have HD := Lib.hid (down_any lo H hb ga ca _ _ _ n a w3 hq3 HGC.out hpc2 (by rw [HCL.out]; exact HAN.out) (by rw [HCL.out]; have := HHL.out; omega))
    have HO3 := Lib.hid (HO.out.trans ho3 (fun i _ h => HF.out _ i h))
    clear hq3 ho3 hpc2 k0 k1
    go_wp2_with fail
    refine HD.out.mono ?_
    rintro e w4 ⟨⟨u4, rfl⟩, L4, az4, hq4, hp4, hpos4, ⟨ho4, hst4⟩, hon4⟩
    have hl4 : L4.length = N := by rw [hp4.length_eq, HCL.out]
    have HU := Lib.hid (up_any lo H hb ga ca _ L4 az4 n a w4 hq4 (HGC.out.perm hp4) hpos4.weaken (by rw [hl4]; exact HAN.out) (by rw [hl4]; have := HHL.out; omega))
    have HO4 := Lib.hid (HO3.out.trans hon4 (fun i _ h => HF.out _ i h))
    have HH4 : Hid (HeapOrd L → UpOrd L4 a) := fun h => by
      have hN := HN.out; have hA := HAN.out
      have hlast : L.length - 1 = N := by omega
      by_cases hc : a = 0 ∨ ahd (g L N) (g L (par a)) = false
      · exact UpOrd.of (ho4 (cut_down h (by omega) (by rw [hlast]; exact hc))) a (by rw [hl4]; exact hA)
      · have h0 : 0 < a := by omega
        have h1 : ahd (g L (L.length - 1)) (g L (par a)) = true := by
          rw [hlast]
          cases hh : ahd (g L N) (g L (par a)) with
          | true => rfl
          | false => exact absurd (.inr hh) hc
        obtain ⟨s1, s2⟩ := cut_still h (by omega) h0 h1
        rw [hst4 s1]; exact s2
    have HP4 := Lib.hid hp4
    clear hq4 hp4 hpos4 ho4 hst4 hon4 hl4
    go_wp2_with fail
    refine HU.out.mono ?_
    rintro e w5 ⟨⟨u5, rfl⟩, L5, az5, hq5, hp5, hpos5, hord5, hon5⟩
    have HR : Hid (Dropped lo H hb ga ca (.slice (some ⟨gv, 0, none⟩) L.length cap) L a n w (.returned (.tuple #[])) w5) :=
      ⟨⟨_, rfl⟩, _, L5, az5, hq5, ((hp5.trans HP4.out).cons _).trans HPERM.out, hpos5, fun h => hord5 (HH4.out h), HO4.out.trans hon5 (fun i _ h => HF.out _ i h), fun k hk => hk⟩
    clear hq5 hp5 hpos5 hord5 hon5
    go_wp2
    go_end0
    exact HR.out
  · have b5 : (N : Int) ≤ (a : Int) := by omega
    have hN2 : a = N := by have := HA.out; omega
    have HAN := Lib.hid hN2
    clear ha hN2
    go_enter Try.func34, Try.ntmps34
    have HR : Hid (∀ u, Dropped lo H hb ga ca (.slice (some ⟨gv, 0, none⟩) L.length cap) L a n w (.returned u) ((w.alloc (.cells #[.int .i64 x.1, .int .i64 x.2] 66)).setCell ⟨H, 0, none⟩ (.slice (some ⟨gv, 0, none⟩) N cap))) := fun u => by
      have hlen : (L.take N).length = N := by rw [List.length_take, HN.out]; omega
      have hlast : L.length - 1 = N := by have := HN.out; omega
      have hp := last_perm (L := L) (by rw [HN.out]; omega)
      rw [hlast] at hp
      have hpos := HP.out; have hgn := HGN.out
      rw [HAN.out] at hpos hgn
      exact ⟨⟨_, rfl⟩, _, L.take N, ats, HQ3.out, by rw [HAN.out]; exact hp, by rw [hlen]; exact Pos.cutLast HN.out hpos hgn, fun h => h.take N, HO.out, fun k hk => hk⟩
    go_wp2
    go_end0
    exact HR.out _

end Hp
end Go.Proofs.Ytkmgpajodbadmaa
