/- An expiry: what Due hands back, and its iterator. -/
import Derived.Test.YtkmgpajodbadmaaExpFor
import Derived.Test.YtkmgpajodbadmaaRangeMut
import Derived.Test.YtkmgpajodbadmaaHpPairs
import Derived.Sort.LoopGhostIn
import Derived.Maps.OwnIn
namespace Go.Proofs.Ytkmgpajodbadmaa
open Go.RowKit Go.Maps Go.Shelf
set_option linter.unusedVariables false
namespace Ex
open Hp (It ahd without HeapAt)

attribute [local go_sem] Oper.semAt_some

theorem edue_any (E : Nat) (now : Int) (w : World) : Calls Try.prog 22 #[.pointer (some ⟨E, 0, none⟩), .int .i64 now] w fun e w' =>
    e = .returned (.func (.func 36) #[] #[.pointer (some ⟨w.heap.size, 0, none⟩), .pointer (some ⟨w.heap.size + 1, 0, none⟩)]) ∧
    w' = (w.alloc (.cells #[.pointer (some ⟨E, 0, none⟩)] 47)).alloc (.cells #[.int .i64 now] 3) := by
  go_enter Try.func22, Try.ntmps22
  go_wp2
  go_ret
  exact ⟨rfl, rfl⟩

/-- A state of the iterator: the entries, the blocks, the bound of the map. -/
abbrev St := List Ent × (Nat → Prop) × Nat
def DueI (lo E bE bN : Nat) (now : Int) (s : St) (A : World) : Prop :=
  ExpAt lo E s.2.2 s.1 s.2.1 A ∧ A.cell? ⟨bE, 0, none⟩ = some (.pointer (some ⟨E, 0, none⟩)) ∧ A.cell? ⟨bN, 0, none⟩ = some (.int .i64 now) ∧ ¬ s.2.1 bE ∧ ¬ s.2.1 bN ∧ lo ≤ A.heap.size
def DueStep (lo E : Nat) (now : Int) (s : St) (x : It) (A B : World) : Prop :=
  ∃ at_ r, s.1 = (x.1, x.2, at_) :: r ∧ at_ ≤ now ∧ ∃ F', ExpAt lo E s.2.2 (wo s.1 x.1) F' B ∧ Only s.2.1 A B ∧ ∀ k, F' k → s.2.1 k ∨ A.heap.size ≤ k
def DueFin (now : Int) (s : St) (A B : World) : Prop := (s.1 = [] ∨ ∃ e r, s.1 = e :: r ∧ now < e.2.2) ∧ Below A.heap.size A B

theorem head_least {L T : List It} {y : It} {i k : Int} {b : Bool} (hs : (y :: T).Pairwise fun x y => ahd y x = false) (hp : L.Perm (y :: T)) (h : Hp.LeastIs L i k b) : i = y.1 ∧ k = y.2 ∧ b = true := by
  have hy : y ∈ L := hp.mem_iff.2 List.mem_cons_self
  rcases h with ⟨h1, -⟩ | ⟨h1, h2, h3⟩
  · rw [h1] at hy; cases hy
  · have e : y = (i, k) := by
      rcases List.mem_cons.1 (hp.mem_iff.1 h2) with e | e
      · exact e.symm
      · exact Hp.eq_of_no (h3 _ hy) ((List.pairwise_cons.1 hs).1 _ e)
    exact ⟨by rw [e], by rw [e], h1⟩

set_option maxRecDepth 100000 in
set_option maxHeartbeats 4000000 in
theorem due_seq (n : Nat) (hn : 3 ≤ n) (lo E bE bN : Nat) (now : Int) (M : Nat) :
    Mu.Seq Fence.wide n Try.prog 36 #[.pointer (some ⟨bE, 0, none⟩), .pointer (some ⟨bN, 0, none⟩)] (fun x : It => #[.agg #[.int .i64 x.1, .int .i64 x.2]]) (DueI lo E bE bN now) (DueStep lo E now) (DueFin now) M := by
  intro l J Jx Done W hJ h0
  refine callsIn_of_wp Try.func36 rfl trivial ?_ rfl
  simp only [Try.ntmps36, List.size_toArray, List.length_cons, List.length_nil, Nat.reduceAdd, Nat.reduceSub, Array.replicate_succ, Array.replicate_zero, List.push_toArray, List.append_toArray, List.nil_append, List.cons_append]
  have HJ := Lib.hid hJ
  clear hJ
  gi_wp2
  gi_loopg [4] (M + 1) (fun g _ wr => ∃ pre, g = M + 1 - pre.length ∧ J pre wr)
  case atStart => exact ⟨[], by simp, h0⟩
  case round =>
    obtain ⟨pre, rfl, hj⟩ := hrel
    obtain ⟨⟨S, F, N⟩, ⟨hx, cE, cN, nE, nN, hlo⟩, hlen, hst, hfin⟩ := HJ.out pre wr hj
    simp only at hx nE nN
    have HX := Lib.hid hx; have HST := Lib.hid hst; have HFI := Lib.hid hfin
    obtain ⟨H, bm, m, D, L, Fh, k1, k2, k3, k4, k5, k6, k7, k8, k9, k10, k11, k12⟩ := hx
    have c0 : wr.cell? ⟨E, 0, none⟩ = some (.pointer (some ⟨H, 0, none⟩)) := by rw [cell_of_row _ _ _ _ _ _ k1]; rfl
    have c1 : wr.cell? ⟨E, 1, none⟩ = some (.map (some bm)) := by rw [cell_of_row _ _ _ _ _ _ k1]; rfl
    have HLS := Lib.hid (Hp.least_any lo H 32 L Fh wr k3)
    have HK4 := Lib.hid k4; have HK5 := Lib.hid k5; have HK6 := Lib.hid k6; have HK9 := Lib.hid k9; have HLO := Lib.hid hlo
    have hEl : E < wr.heap.size := (Array.getElem?_eq_some_iff.1 k1).1
    have HEL := Lib.hid hEl
    have HC0 := Lib.hid c0; have HC1 := Lib.hid c1; have HCE := Lib.hid cE; have HCN := Lib.hid cN
    clear hst hfin k1 k2 k3 k4 k5 k6 k7 k8 k9 k10 k11 k12 hj hEl
    cases S with
    | nil =>
      have HL : Hid (L = []) := List.perm_nil.1 HK4.out
      clear c1 nE nN hlo hlen
      gi_wp2_with fail
      refine ⟨trivial, fun _ => by omega, (callsIn_wide.2 HLS.out).mono ?_⟩
      rintro e w2 ⟨⟨i, k, b, rfl, hl⟩, hb⟩
      obtain ⟨rfl, rfl, rfl⟩ : i = 0 ∧ k = 0 ∧ b = false := by
        rcases hl with ⟨-, h1, h2, h3⟩ | ⟨-, h1, -⟩
        · exact ⟨h1, h2, h3⟩
        · rw [HL.out] at h1; cases h1
      have HD := Lib.hid (HFI.out w2 ⟨.inl rfl, hb⟩)
      clear hl hb c0 cE cN
      gi_wp2
      refine bodyPost_ret (results_none rfl _ _ _) rfl ?_
      exact ⟨⟨_, rfl⟩, .inl ⟨pre, HD.out⟩⟩
    | cons x r =>
      have htl : ∀ (i k : Int) (b : Bool), Hp.LeastIs L i k b → i = x.1 ∧ k = x.2.2 ∧ b = true := fun i k b h => head_least (y := itm x) (T := items r) HK5.out.sorted HK4.out h
      have HTL := Lib.hid htl
      clear htl
      by_cases hdue : now < x.2.2
      · have HDUE := Lib.hid hdue
        have cN2 := HCN.out
        clear c1 nE nN hlo hlen cN
        gi_wp2_with fail
        refine ⟨trivial, fun _ => by omega, (callsIn_wide.2 HLS.out).mono ?_⟩
        rintro e w2 ⟨⟨i, k, b, rfl, hl⟩, hb⟩
        obtain ⟨rfl, rfl, rfl⟩ := HTL.out _ _ _ hl
        have HD := Lib.hid (HFI.out w2 ⟨.inr ⟨x, r, rfl, HDUE.out⟩, hb⟩)
        have cN3 : w2.cell? ⟨bN, 0, none⟩ = some (.int .i64 now) := (hb.cell (p := ⟨bN, 0, none⟩) (World.block_lt_of_cell? wr _ HCN.out)).trans HCN.out
        clear hl hb c0 cE cN2
        gi_wp2
        refine bodyPost_ret (results_none rfl _ _ _) rfl ?_
        exact ⟨⟨_, rfl⟩, .inl ⟨pre, HD.out⟩⟩
      · have hdue2 : x.2.2 ≤ now := by omega
        have HDUE := Lib.hid hdue2
        have HLEN := Lib.hid hlen; have HNE := Lib.hid nE; have HNN := Lib.hid nN
        have hs1 := (HK5.out.good.range (itm x) (by simp [items]))
        have HKEY := Lib.hid (keyOf_int_mk (P := Try.prog) (k := 3) Try.underlying3 (WalkArith.wf_i64 (n := x.1) (by have h : (itm x).1 = x.1 := rfl; omega)))
        have HWF : Hid ((Lit.int .i64 x.1).wf = true) := WalkArith.wf_i64 (by have h : (itm x).1 = x.1 := rfl; omega)
        have hbirth : birthOf (x :: r) x.1 = some x.2.1 := by rw [birthOf_cons, if_pos rfl]
        have hat0 := (HK9.out.2 x.1).2
        rw [hbirth] at hat0
        have HAT := Lib.hid hat0
        clear c1 nE nN hlo hlen cN hdue hs1 hbirth hat0
        gi_wp2_with fail
        refine ⟨trivial, fun _ => by omega, (callsIn_wide.2 HLS.out).mono ?_⟩
        rintro e w2 ⟨⟨i, k, b, rfl, hl⟩, hb⟩
        obtain ⟨rfl, rfl, rfl⟩ := HTL.out _ _ _ hl
        have cN3 : w2.cell? ⟨bN, 0, none⟩ = some (.int .i64 now) := (hb.cell (p := ⟨bN, 0, none⟩) (World.block_lt_of_cell? wr _ HCN.out)).trans HCN.out
        have cE3 : w2.cell? ⟨bE, 0, none⟩ = some (.pointer (some ⟨E, 0, none⟩)) := (hb.cell (p := ⟨bE, 0, none⟩) (World.block_lt_of_cell? wr _ HCE.out)).trans HCE.out
        have c13 : w2.cell? ⟨E, 1, none⟩ = some (.map (some bm)) := (hb.cell (p := ⟨E, 1, none⟩) HEL.out).trans HC1.out
        have hmap2 := map_only HK6.out (Only.of_below (F := fun _ => False) hb) (fun h => h)
        obtain ⟨cc, hrun, hat, -⟩ := hmap2.lookup_int intLaw mapT Try.underlying3 (zeroI _) HKEY.out
        have hcc : cc = x.2.1 := by
          have := hat.symm.trans HAT.out
          injection this with this
          injection this
        subst hcc
        have hx2 := HX.out.below hb
        obtain ⟨wb, hwb⟩ : ∃ wb, wb = w2.alloc (.cells #[.int .i64 x.1, .int .i64 x.2.1] 52) := ⟨_, rfl⟩
        have hbb : Below w2.heap.size w2 wb := by rw [hwb]; exact (Below.refl _ _).alloc (Nat.le_refl _) _
        have hbw : Below wr.heap.size wr wb := hb.trans (hbb.mono hb.size)
        have HFO := Lib.hid (eforget_any lo E N (x :: r) F wb (hx2.below hbb) (Nat.le_trans HLO.out hbw.size) x.1 HWF.out)
        have cEb : wb.cell? ⟨bE, 0, none⟩ = some (.pointer (some ⟨E, 0, none⟩)) := (hbb.cell (p := ⟨bE, 0, none⟩) (World.block_lt_of_cell? w2 _ cE3)).trans cE3
        have l0 : wb.cell? ⟨w2.heap.size, 0, none⟩ = some (.int .i64 x.1) := by rw [hwb]; simp
        have l1 : wb.cell? ⟨w2.heap.size, 1, none⟩ = some (.int .i64 x.2.1) := by rw [hwb]; simp
        have hl2 : w2.heap.size < wb.heap.size := by rw [hwb]; simp
        have HBW := Lib.hid hbw; have HL2 := Lib.hid hl2; have HBS := Lib.hid hb.size
        have HL0 := Lib.hid l0; have HL1 := Lib.hid l1
        rw [hwb] at cEb
        clear hl hb c0 cE hat hmap2 hx2 hbb hbw l0 l1 hl2
        gi_wp2_with fail
        rw [← hwb]
        refine ⟨trivial, fun _ => by omega, (callsIn_wide.2 HFO.out).mono ?_⟩
        rintro e w3 ⟨rfl, F', hx3, ho3, hn3⟩
        have hstep : DueStep lo E now (x :: r, F, N) (x.1, x.2.1) wr w3 := ⟨x.2.2, r, rfl, HDUE.out, F', hx3, (Only.of_below (F := F) HBW.out).trans ho3 (fun _ _ h => h), fun k hk => by
          rcases hn3 k hk with h | h
          · exact .inl h
          · right; have := HBW.out.size; omega⟩
        have hFl : ¬ F w2.heap.size := fun hf => by have := (HX.out.lt _ hf).2; have := HBS.out; omega
        have l03 : w3.cell? ⟨w2.heap.size, 0, none⟩ = some (.int .i64 x.1) := (ho3.cell (p := ⟨w2.heap.size, 0, none⟩) HL2.out hFl).trans HL0.out
        have l13 : w3.cell? ⟨w2.heap.size, 1, none⟩ = some (.int .i64 x.2.1) := (ho3.cell (p := ⟨w2.heap.size, 1, none⟩) HL2.out hFl).trans HL1.out
        obtain ⟨fn, tmps, assign, body, hy, hR⟩ := HST.out (x.1, x.2.1) w3 hstep
        have HR := Lib.hid hR
        clear hx3 ho3 hn3 hstep hFl hR hwb cEb cE3 cN3 c13 hrun
        gi_wp2
        refine ⟨fun _ => by omega, HR.out.mono ?_⟩
        rintro e W3 (⟨rfl, hJ3⟩ | ⟨rfl, hJx3⟩)
        · gi_wp2
          gi_roundg (M + 1 - (pre ++ [(x.1, x.2.1)]).length)
          case rel => exact ⟨_, rfl, hJ3⟩
          case measure => have := HLEN.out; simp; omega
        · gi_wp2
          refine bodyPost_ret (results_none rfl _ _ _) rfl ?_
          exact ⟨⟨_, rfl⟩, .inr ⟨_, hJx3⟩⟩

end Ex
end Go.Proofs.Ytkmgpajodbadmaa
