/- pairs: what an iterator hands out, at most so many. -/
import Derived.RangeFuncNested
import Derived.RangeFuncBound
import Derived.RangeFuncCalls
import Derived.Shelf.RegionOpen
import Derived.Maps.AppendAt
import Derived.Test.YtkmgpajodbadmaaHpIter
import Derived.Test.YtkmgpajodbadmaaUtil
namespace Go.Proofs.Ytkmgpajodbadmaa
open Go.RowKit Go.Shelf
set_option linter.unusedVariables false
namespace Hp

attribute [local go_sem] Oper.semAt_some

/-- Numbers and keys, one behind the other. -/
def flat (L : List It) : List Int := L.flatMap fun x => [x.1, x.2]
theorem flat_len (L : List It) : (flat L).length = L.length * 2 := by
  induction L with
  | nil => rfl
  | cons a r ih => simp [flat] at ih ⊢; omega
theorem flat_snoc (L : List It) (x : It) : flat (L ++ [x]) = flat L ++ [x.1, x.2] := by simp [flat]
theorem hpj_info : (Try.prog.info? 3).map (fun i => (i.zero, i.size, i.bytes)) = some (some (.int .i64 0), 1, 8) := by kernel_rfl

def vJ (n : Int) : Value := .int .i64 n
theorem own_any_shape {w : World} {base e size n : Nat} {v : Value} {xs : List Value} (h : w.ownsRow base e size v n xs) : ∃ q r, v = .slice q n r := by
  rcases h.2 with ⟨rfl, rfl⟩ | ⟨g, cap, cur, rfl, _⟩
  · exact ⟨_, _, rfl⟩
  · exact ⟨_, _, rfl⟩
theorem news_two (w : World) (l : List Value) (T : TypeId) : ∀ j u, l[j]? = some u → (w.alloc (.cells l.toArray T)).cell? ((⟨w.heap.size, 0, none⟩ : Addr).add j) = some u := by
  intro j u h
  have e : (⟨w.heap.size, 0, none⟩ : Addr).add j = ⟨w.heap.size, j, none⟩ := by
    unfold Addr.add
    simp
    omega
  rw [e]
  unfold World.cell?
  rw [Ut.alloc_at]
  simpa using h
theorem prefix_take {pre zs : List It} (h : pre <+: zs) : pre = zs.take pre.length := List.prefix_iff_eq_take.1 h

set_option maxRecDepth 100000 in
set_option maxHeartbeats 4000000 in
theorem pairs_in (F : Fence) (n : Nat) (h14 : F.fn 14) (h32 : F.fn 32) (hro : F.round = none) (hn : 3 ≤ n) (Bs : Nat) (sv : Value) (zs : List It) (hreach : (zs.length : Int) ≤ 1048575) (m : Nat) (hm : (m : Int) ≤ 1048575) (w : World) (hBs : w.cell? ⟨Bs, 0, none⟩ = some sv) (hI : Items w.heap.size w sv zs) :
    CallsIn F n Try.prog 14 #[.func (.func 32) #[] #[.pointer (some ⟨Bs, 0, none⟩)], .int .i64 m] w fun e W' => ∃ v, e = .returned v ∧ W'.ownsRow w.heap.size 3 1 v ((zs.take m).length * 2) ((flat (zs.take m)).map vJ) ∧ Below w.heap.size w W' := by
  have h1 : 1 ≤ n := by omega
  obtain ⟨i0, hi, hz0, hz1, hz2⟩ := info_parts hpj_info
  have hBl : Bs < w.heap.size := World.block_lt_of_cell? w _ hBs
  refine callsIn_of_wp_marks Try.func14 rfl h14 ?_ hro
  simp only [Try.ntmps14, List.size_toArray, List.length_cons, List.length_nil, Nat.reduceAdd, Nat.reduceSub, Array.replicate_succ, Array.replicate_zero, List.push_toArray, List.append_toArray, List.nil_append, List.cons_append]
  gi_wp2
  have bM := Boxed.new w 3 (.int .i64 m)
  have bL := Boxed.new (w.alloc (.cells #[.int .i64 m] 3)) 35 (.slice none 0 0)
  rw [World.size_alloc] at bL
  have hB0 : Below w.heap.size w ((w.alloc (.cells #[.int .i64 m] 3)).alloc (.cells #[.slice none 0 0] 35)) := ((Below.refl _ w).alloc (Nat.le_refl _) _).alloc (by simp) _
  refine wpIn_rangeFunc_ownG hro h1 (gf := 32) (lb := #[.pointer (some ⟨Bs, 0, none⟩)]) rfl h32 (enters_of Try.func32 (by kernel_rfl) rfl)
    (all2_stops F (n - 1) h32 hro (by omega) Bs w.heap.size sv zs (by omega) _ (by simp; omega) (by simp; omega) ((hB0.cell (p := ⟨Bs, 0, none⟩) hBl).trans hBs) (hI.below hB0)) belowK_t (belowK_b (by simp; omega)) (Below.refl _ _) (fun _ => rfl)
    (fun pre W => ((∃ v, Boxed W (w.heap.size + 1) 35 v ∧ W.ownsRow (w.heap.size + 1) 3 1 v (pre.length * 2) ((flat pre).map vJ) ∧ pre.length ≤ m) ∧ (W.cell? ⟨w.heap.size, 0, none⟩ = some (.int .i64 m))) ∧ Below w.heap.size w W)
    (fun c pre W => (c = .exit 0 ∧ ∃ ini x, pre = ini ++ [x] ∧ ini.length = m ∧ ∃ v, Boxed W (w.heap.size + 1) 35 v ∧ W.ownsRow (w.heap.size + 1) 3 1 v (ini.length * 2) ((flat ini).map vJ) ∧ True) ∧ Below w.heap.size w W)
    (OwnFrom.and (OwnFrom.and (Own.from (holdsRow_own (w.heap.size + 1) (w.heap.size + 1) 35 3 1 (fun pre : List It => pre.length * 2) (fun pre => (flat pre).map vJ) (fun pre v => pre.length ≤ m)) _) (Own.from (fun s A B row hs hg hr => cell_kept hs hg hr) _)) (ownFrom_below (Nat.le_refl _) (by simp; omega)))
    (fun c => OwnFrom.and (Own.from (fun s A B row hs hg hr => by
      obtain ⟨hc, ini, x, e1, e2, e3⟩ := hs
      exact ⟨hc, ini, x, e1, e2, holdsRow_own (w.heap.size + 1) (w.heap.size + 1) 35 3 1 (fun pre : List It => pre.length * 2) (fun pre => (flat pre).map vJ) (fun pre v => True) ini A B row e3 hg hr⟩) _) (ownFrom_below (Nat.le_refl _) (by simp; omega)))
    ⟨⟨⟨_, bL, World.ownsRow_nil _ _ _ _, Nat.zero_le _⟩, (bM.alloc _).cell⟩, hB0⟩
    (fun x => { tmps := #[.func (.func 32) #[] #[.pointer (some ⟨Bs, 0, none⟩)], .int .i64 m, undef, .pointer (some ⟨w.heap.size, 0, none⟩), .slice none 0 0, .pointer (some ⟨w.heap.size + 1, 0, none⟩), .int .i64 x.1, .int .i64 x.2, .func (.func 32) #[] #[.pointer (some ⟨Bs, 0, none⟩)], .int .i64 x.1, .int .i64 x.2, undef, undef, undef, undef, undef, undef, undef, undef, undef, undef, undef], defers := [] }) ?assign ?body ?done ?stop
  case assign =>
    intro l x W K hK
    gi_wp2
    exact hK
  case body =>
    rintro l pre x W ⟨⟨⟨v, hv, hrow, hpm⟩, hmc⟩, hB⟩ hlt
    obtain ⟨q, r, rfl⟩ := own_any_shape hrow
    have hc := hv.cell
    have hfs : (flat (pre ++ [x])).map vJ = (flat pre).map vJ ++ [.int .i64 x.1, .int .i64 x.2] := by rw [flat_snoc]; simp [vJ]
    have HFS := Lib.hid hfs
    have hsz := hB.size
    have hlen := W.heap.size
    have hsz1 : w.heap.size + 1 < W.heap.size := by
      have := hv; unfold Boxed at this
      exact (Array.getElem?_eq_some_iff.1 this).1
    obtain ⟨K, hK⟩ : ∃ K, K = pre.length * 2 := ⟨_, rfl⟩
    have v1 : IntKind.i64.wrap (2 * (m : Int)) = 2 * (m : Int) := IntWalk.i64_in _ (by omega)
    have b0 : (0 : Int) ≤ (m : Int) := by omega
    have HL := Lib.hid hlt
    have HPM := Lib.hid hpm
    have HMC := Lib.hid hmc
    have HB := Lib.hid hB
    have HRW := Lib.hid hrow
    have HV := Lib.hid hv
    rw [← hK] at hrow hc hv
    by_cases hm2 : pre.length < m
    · have b1 : (K : Int) < 2 * (m : Int) := by omega
      have k1 : K + 2 ≤ maxLen := by unfold maxLen; omega
      have k2 : (K + 2) * 8 ≤ 140737488355328 := by omega
      have k3 : w.heap.size + 1 ≤ (W.alloc (.cells #[.int .i64 x.1, .int .i64 x.2] 3)).heap.size := by simp; omega
      have k4 : w.heap.size + 1 ≤ W.heap.size := by omega
      have HK := Lib.hid hK
      have HM2 := Lib.hid hm2
      clear hpm hlt hsz hsz1 hfs hm2 hB hK
      gi_wp2_with (gi_at_builtin; refine wpListIn_append_own _ rfl _ _ 35 rfl (w.heap.size + 1) 3 i0 (.int .i64 0) 1 8 Try.underlying35 hi hz0 hz1 hz2 rfl (by decide) _ _ _ rfl (hrow.alloc _) ⟨W.heap.size, 0, none⟩ 2 2 [.int .i64 x.1, .int .i64 x.2] rfl rfl (news_two _ [.int .i64 x.1, .int .i64 x.2] _) (by intro u hu; simp at hu; rcases hu with rfl | rfl <;> rfl) k1 k2 k3 ?_; intro v' w1 hown' hgrow _; obtain ⟨g', cap', rfl⟩ := ownsRow_succ hown'; obtain ⟨hv1, hv2, hr2, hk2, hb2⟩ := hv.appended (by decide) hrow k4 (Nat.le_refl _) hown' hgrow; have hc1 := hv1.cell; have hf1 := hv1.frozen)
      refine ⟨hk2.from _, hb2.mono (by omega), ⟨⟨_, hv2, ?_, ?_⟩, ?_⟩, HB.out.trans (hb2.mono (by omega))⟩
      · rw [HFS.out]
        have e : (pre ++ [x]).length * 2 = K + 2 := by rw [List.length_append, HK.out]; simp; omega
        rw [e]; exact hr2
      · have := HM2.out; rw [List.length_append]; simp; omega
      · exact (hb2.cell (p := ⟨w.heap.size, 0, none⟩) (by simp)).trans hmc
    · have b1 : 2 * (m : Int) ≤ (K : Int) := by omega
      have hm3 : pre.length = m := by omega
      have HM3 := Lib.hid hm3
      clear hpm hlt hsz hsz1 hfs hm2 hm3 hK
      gi_wp2
      exact ⟨KeepsFrom.refl _ _, ⟨rfl, pre, x, rfl, HM3.out, _, HV.out, HRW.out, trivial⟩, HB.out⟩
  case done =>
    rintro D ys W hD rfl ⟨⟨⟨v, hv, hrow, hpm⟩, hmc⟩, hB⟩ hK
    have hc := hv.cell
    gi_wp2
    refine ⟨by simp, .inl ⟨_, _, rfl, run_takeDeferred hK, ?_⟩⟩
    have e : ys.take m = ys := List.take_of_length_le hpm
    rw [e]
    exact ⟨_, results_tmp rfl _ _ _, v, rfl, Ut.own_base (ownsRow_putObj hrow _ hK rfl) (Nat.le_succ _), hB.trans (belowK_b (w := w) (Nat.le_refl _) W D _ _ (by simp at hD; omega) hK rfl rfl)⟩
  case stop =>
    rintro D c pre W hD hpre ⟨⟨rfl, ini, x, rfl, hm2, v, hv, hrow, -⟩, hB⟩ hK
    have hc := hv.cell
    gi_wp2
    refine ⟨by simp, .inl ⟨_, _, rfl, run_takeDeferred hK, ?_⟩⟩
    have e : zs.take m = ini := by
      have h2 := prefix_take ((List.prefix_append ini [x]).trans hpre)
      rw [hm2] at h2; exact h2.symm
    rw [e]
    exact ⟨_, results_tmp rfl _ _ _, v, rfl, Ut.own_base (ownsRow_putObj hrow _ hK rfl) (Nat.le_succ _), hB.trans (belowK_b (w := w) (Nat.le_refl _) W D _ _ (by simp at hD; omega) hK rfl rfl)⟩

end Hp
end Go.Proofs.Ytkmgpajodbadmaa
