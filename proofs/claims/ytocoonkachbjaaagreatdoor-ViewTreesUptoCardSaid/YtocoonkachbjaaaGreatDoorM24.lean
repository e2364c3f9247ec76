/- Several texts in one: what each proves its own first comment says. -/
import Derived.Test.YtocoonkachbjaaaGreatDoorM22
import Derived.RangeFuncNested
import Derived.Shelf.RegionOpen
import Derived.Shelf.Abstract
import Derived.RangeFuncCalls

/- view.Pre and its iterator (printed by wip/mkpre.py). -/
namespace Go.Proofs.YtocoonkachbjaaaGreatDoor
open Go.RowKit Go.Maps
set_option linter.unusedVariables false
namespace Vw
attribute [local go_sem] Oper.semAt_some
theorem pre_mem_lt {ss : List Sess} : ∀ (f far : Nat) (l : List Nat), (∀ i ∈ l, i < ss.length) → ∀ x ∈ Vt.pre (kidsF ss) f far l, x.2 < ss.length
  | 0, far, l, h, x, hx => by simp [Vt.pre] at hx
  | f + 1, far, [], h, x, hx => by simp [Vt.pre] at hx
  | f + 1, far, i :: l, h, x, hx => by
    rw [Vt.pre_cons, List.mem_cons, List.mem_append] at hx
    rcases hx with rfl | hx | hx
    · exact h i List.mem_cons_self
    · exact pre_mem_lt f (far + 1) (kidsF ss i) (fun j hj => (Vt.kids_up (bu ss) ss.length i j hj).2) x hx
    · exact pre_mem_lt (f + 1) far l (fun j hj => h j (List.mem_cons_of_mem _ hj)) x hx
def encP (ss : List Sess) (x : Nat × Nat) : Array Value := #[.int .i64 (x.1 : Int), .agg (csAt ss x.2).toArray]

set_option maxRecDepth 100000 in
set_option maxHeartbeats 8000000 in
theorem pre1_seq (n0 : Nat) (ss : List Sess) (hl : ss.length ≤ 65536) (qd qv : Option Addr) (cd cv g : Nat) (vs : Nat → Value) (bf bq : Nat) (ls : List Nat) (hll : ls.length ≤ 65536) (hls : ∀ i ∈ ls, i < ss.length) (C : Nat → Prop) (w : World)
    (hC : ∀ W, (∀ b, C b → b < W.heap.size ∧ W.heap[b]? = w.heap[b]?) → FW ss (.slice qd ss.length cd) g vs W ∧ W.cell? ⟨bf, 0, none⟩ = some (.slice qd ss.length cd) ∧ W.cell? ⟨bf, 1, none⟩ = some (.slice (some ⟨g, 0, none⟩) (ss.length + 1) (ss.length + 1)) ∧
      W.cell? ⟨bq, 0, none⟩ = some (.slice qv ls.length cv) ∧ In.IntArg W (.slice qv ls.length cv) (ints ls)) :
    Fo.SeqF Fence.wide n0 Tryz.prog 92 #[.pointer (some ⟨bf, 0, none⟩), .pointer (some ⟨bq, 0, none⟩)] (encP ss) (fun ys => ys = Vt.pre (kidsF ss) (ss.length + 1) 0 ls) (fun p => p <+: Vt.pre (kidsF ss) (ss.length + 1) 0 ls) C w := by
  intro l J Jx W Fp0 hCW hFp hJ hJx hY h0
  refine Hi.calls_any (m := 9) ?_
  obtain ⟨W1, hW1⟩ : ∃ W1, W1 = W.alloc (.cells #[.func (.yield l) #[] #[]] 146) := ⟨_, rfl⟩
  obtain ⟨W2, hW2⟩ : ∃ W2, W2 = (W1.alloc (.cells #[.slice qd ss.length cd, .slice (some ⟨g, 0, none⟩) (ss.length + 1) (ss.length + 1)] 77)).alloc (.cells #[.slice qv ls.length cv] 82) := ⟨_, rfl⟩
  have s1 : W1.heap.size = W.heap.size + 1 := by rw [hW1, World.size_alloc]
  have s2 : W2.heap.size = W.heap.size + 3 := by rw [hW2, World.size_alloc, World.size_alloc, s1]
  have b1 : Below W.heap.size W W1 := by rw [hW1]; exact (Below.refl _ _).alloc (Nat.le_refl _) _
  have b12 : Below W1.heap.size W1 W2 := by rw [hW2]; exact ((Below.refl _ _).alloc (Nat.le_refl _) _).alloc (by simp) _
  have b2 : Below W.heap.size W W2 := b1.trans (b12.mono b1.size)
  have cy : W2.heap[W.heap.size]? = some (.cells #[.func (.yield l) #[] #[]] 146 (0, 0)) := by
    rw [b12.block _ (by omega), hW1]; exact Ut.alloc_at _ _
  have cb1 : W2.heap[W.heap.size + 1]? = some (.cells #[.slice qd ss.length cd, .slice (some ⟨g, 0, none⟩) (ss.length + 1) (ss.length + 1)] 77 (0, 0)) := by
    rw [hW2, al_old (by simp; omega), ← s1]; exact Ut.alloc_at _ _
  have cb2 : W2.heap[W.heap.size + 2]? = some (.cells #[.slice qv ls.length cv] 82 (0, 0)) := by
    rw [hW2]
    have := Ut.alloc_at (W1.alloc (.cells #[.slice qd ss.length cd, .slice (some ⟨g, 0, none⟩) (ss.length + 1) (ss.length + 1)] 77)) (.cells #[.slice qv ls.length cv] 82)
    rwa [World.size_alloc, s1] at this
  -- the walk's iterator
  have hseq : Fo.SeqF Fence.wide 8 Tryz.prog 83 #[.pointer (some ⟨W.heap.size + 1, 0, none⟩), .pointer (some ⟨W.heap.size + 2, 0, none⟩)] encF (fun ys => ys = Vt.pre (kidsF ss) (ss.length + 1) 0 ls) (fun p => p <+: Vt.pre (kidsF ss) (ss.length + 1) 0 ls) (fun b => C b ∨ b = W.heap.size + 1 ∨ b = W.heap.size + 2) W2 := by
    refine walk1_seq 8 ss hl (.slice qd ss.length cd) g vs (W.heap.size + 1) (W.heap.size + 2) (.slice qv ls.length cv) ls hll hls _ W2 (fun A hA => ?_)
    have h1 := hC A (fun b hb => by
      have h2 := hA b (.inl hb)
      exact ⟨h2.1, h2.2.trans ((b2.block b (hCW b hb).1).trans (hCW b hb).2)⟩)
    have h3 := hA (W.heap.size + 1) (.inr (.inl rfl))
    have h4 := hA (W.heap.size + 2) (.inr (.inr rfl))
    exact ⟨h1.1, by rw [block_cell (h3.2.trans cb1)]; rfl, by rw [block_cell (h4.2.trans cb2)]; rfl, h1.2.2.2.2⟩
  have hJ2 : J [] Fp0 W2 := hJ _ _ _ _ none h0 (Nat.le_refl _) ⟨b2.os, b2.tape, b2.output, b2.size, fun k hk _ => b2.block k hk⟩ (fun r e => by cases e)
  have hcell : ∀ A : World, (∀ b, (C b ∨ b = W.heap.size) → b < A.heap.size ∧ A.heap[b]? = W2.heap[b]?) → A.cell? ⟨W.heap.size, 0, none⟩ = some (.func (.yield l) #[] #[]) ∧ A.cell? ⟨bf, 0, none⟩ = some (.slice qd ss.length cd) ∧ ∀ i, i < ss.length → ∃ ga oa, qd = some ⟨ga, oa, none⟩ ∧ A.rangeAt ga (oa + i * 12) (csAt ss i) := fun A hA => by
    have h1 := hC A (fun b hb => by
      have h2 := hA b (.inl hb)
      exact ⟨h2.1, h2.2.trans ((b2.block b (hCW b hb).1).trans (hCW b hb).2)⟩)
    have h3 := hA W.heap.size (.inr rfl)
    exact ⟨by rw [block_cell (h3.2.trans cy)]; rfl, h1.2.1, fun i hi => sess_range h1.1.sess hi⟩
  have cW := hC W hCW
  have HWA := Lib.hid (walk_any qd (some ⟨g, 0, none⟩) qv ss.length cd (ss.length + 1) (ss.length + 1) ls.length cv W1)
  have hself : ∀ b, (C b ∨ b = W.heap.size) → b < W2.heap.size ∧ W2.heap[b]? = W2.heap[b]? := fun b hb => ⟨by
    rcases hb with hb | hb
    · have := (hCW b hb).1; omega
    · omega, rfl⟩
  have c10 : W1.cell? ⟨bf, 0, none⟩ = some (.slice qd ss.length cd) := (b1.cell (p := ⟨bf, 0, none⟩) (World.block_lt_of_cell? W _ cW.2.1)).trans cW.2.1
  have c11 : W1.cell? ⟨bf, 1, none⟩ = some (.slice (some ⟨g, 0, none⟩) (ss.length + 1) (ss.length + 1)) := (b1.cell (p := ⟨bf, 1, none⟩) (World.block_lt_of_cell? W _ cW.2.2.1)).trans cW.2.2.1
  have c12 : W1.cell? ⟨bq, 0, none⟩ = some (.slice qv ls.length cv) := (b1.cell (p := ⟨bq, 0, none⟩) (World.block_lt_of_cell? W _ cW.2.2.2.1)).trans cW.2.2.2.1
  rw [hW1] at c10 c11 c12
  have HSEQ := Lib.hid hseq; have HCE := Lib.hid hcell; have HJ := Lib.hid hJ; have HJX := Lib.hid hJx; have HY := Lib.hid hY; have HJ2 := Lib.hid hJ2; have HS2 := Lib.hid s2; have HSE := Lib.hid hself; have HFP := Lib.hid hFp; have HCW := Lib.hid hCW; have HW1 := Lib.hid hW1; have HW2 := Lib.hid hW2
  have HLS := Lib.hid hls
  have HCB : Hid (∀ b, C b → b < W.heap.size) := fun b hb => (hCW b hb).1
  clear hseq hcell hJ hJx hY hJ2 s2 hself hFp hCW hC h0 s1 b1 b12 b2 cy cb1 cb2 cW hls hW2
  refine callsIn_of_wp_marks Tryz.func92 rfl trivial ?_ rfl
  simp only [Tryz.ntmps92, List.size_toArray, List.length_cons, List.length_nil, Nat.reduceAdd, Nat.reduceSub, Array.replicate_succ, Array.replicate_zero, List.push_toArray, List.append_toArray, List.nil_append, List.cons_append]
  clear hW1
  gi_wp2_with fail
  rw [← HW1.out]
  refine ⟨trivial, (callsIn_wide.2 HWA.out).mono ?_⟩
  rintro e w3 ⟨rfl, hw3⟩
  rw [← HW2.out] at hw3
  subst hw3
  have hz1 : W1.heap.size = W.heap.size + 1 := by rw [HW1.out, World.size_alloc]
  rw [hz1, show W.heap.size + 1 + 1 = W.heap.size + 2 from rfl]
  gi_wp2_with fail
  refine Fo.range_foot (F := Fence.wide) (n := 9) rfl (by omega) (gf := 83) (lb := #[.pointer (some ⟨W.heap.size + 1, 0, none⟩), .pointer (some ⟨W.heap.size + 2, 0, none⟩)]) rfl trivial (enters_of Tryz.func83 (by kernel_rfl) rfl)
    HSEQ.out (fun _ => rfl) (fun b hb => ⟨by
      rcases hb with hb | hb | hb
      · have := HCB.out b hb; have := HS2.out; omega
      · have := HS2.out; omega
      · have := HS2.out; omega, rfl⟩)
    (fun pre Fp A => J pre Fp A ∧ w3.heap.size ≤ A.heap.size ∧ Kept (fun b => C b ∨ b = W.heap.size) Fp w3 A) (fun c pre Fp A => c = .ret ∧ Jx pre Fp A) Fp0 (fun b hb => ⟨by have := (HFP.out b hb).1; have := HS2.out; omega, fun h => by
      have h2 := HFP.out b hb
      rcases h with h | h | h
      · exact h2.2 h
      · omega
      · omega⟩)
    ?hU ?hUx ⟨HJ2.out, Nat.le_refl _, fun b hb => ⟨fun hf => by
      have h2 := HFP.out b hf
      rcases hb with h | h
      · exact h2.2 h
      · omega, (HSE.out b hb).1, rfl⟩⟩
    (fun x => { tmps := #[.func (.yield l) #[] #[], .pointer (some ⟨bf, 0, none⟩), .pointer (some ⟨bq, 0, none⟩), .pointer (some ⟨W.heap.size, 0, none⟩), .int .i64 (x.1 : Int), .int .i64 (x.2 : Int), .agg #[.slice qd ss.length cd, .slice (some ⟨g, 0, none⟩) (ss.length + 1) (ss.length + 1)], .slice qv ls.length cv, .func (.func 83) #[] #[.pointer (some ⟨W.heap.size + 1, 0, none⟩), .pointer (some ⟨W.heap.size + 2, 0, none⟩)], .int .i64 (x.1 : Int), .int .i64 (x.2 : Int), undef, undef, undef, undef, undef, undef, undef, undef, undef], defers := [] })
    ?assign ?body ?done ?stop
  case hU =>
    rintro pre Fp A A' row ⟨h1, h2, h3⟩ hsz hg hrow
    refine ⟨HJ.out _ _ _ _ row h1 (by have := HS2.out; omega) hg (fun r e => ⟨by have := (hrow r e).1; have := HS2.out; omega, (hrow r e).2⟩), Nat.le_trans h2 hg.size, fun b hb => ?_⟩
    obtain ⟨k1, k2, k3⟩ := h3 b hb
    have hlt := (HSE.out b hb).1
    exact ⟨k1, Nat.lt_of_lt_of_le k2 hg.size, (hg.block b k2 (fun e => by have := (hrow b e.symm).1; omega)).trans k3⟩
  case hUx =>
    rintro c pre Fp A A' row ⟨rfl, h1⟩ hsz hg hrow
    exact ⟨rfl, HJX.out _ _ _ _ row h1 (by have := HS2.out; omega) hg (fun r e => ⟨by have := (hrow r e).1; have := HS2.out; omega, (hrow r e).2⟩)⟩
  case assign =>
    intro l2 x A K hK
    unfold encF
    gi_wp2
    exact hK
  case body =>
    rintro l2 pre x Fp A ⟨hj, hsz, hkp⟩ hszA hpre
    have hin : x.2 < ss.length := pre_mem_lt _ _ _ HLS.out x (hpre.subset (by simp))
    have hjd : J pre Fp A.drew := HJ.out _ _ _ _ none hj (by have := HS2.out; omega) ⟨rfl, rfl, rfl, Nat.le_refl _, fun _ _ _ => rfl⟩ (fun r e => by cases e)
    obtain ⟨fn, tmps, assign, body, hy, hR⟩ := HY.out pre x Fp A.drew hjd (by have := HS2.out; show _ ≤ A.heap.size; omega) hpre
    obtain ⟨x1, x2, hr⟩ := HCE.out A hkp.agree
    obtain ⟨ga, oa, rfl, hrg⟩ := hr x.2 hin
    unfold encP at hy
    obtain ⟨cs, hcs⟩ : ∃ cs, cs = csAt ss x.2 := ⟨_, rfl⟩
    have HCL : Hid (cs.length = 12) := by show _ = _; rw [hcs]; exact cs_len hin
    rw [← hcs] at hrg hy
    have HR := Lib.hid hR; have HKP := Lib.hid hkp; have HPRE := Lib.hid hpre; have HSA := Lib.hid hsz
    have i0 : (0 : Int) ≤ (x.2 : Int) := by omega
    have i1 : (x.2 : Int) < (ss.length : Int) := by omega
    have hHeld : A.drew.cell? ⟨W.heap.size, 0, none⟩ = some (.func (.yield l) #[] #[]) ∧ A.drew.cell? ⟨bf, 0, none⟩ = some (.slice (some ⟨ga, oa, none⟩) ss.length cd) ∧ A.drew.rangeAt ga (oa + x.2 * 12) cs := ⟨x1, x2, hrg⟩
    have hcl := HCL.out
    clear hcs hR hkp hpre hsz hj hjd x1 x2 hr hrg
    gi_wp2
    refine Hi.begin_ (S := fun w' => w'.cell? ⟨W.heap.size, 0, none⟩ = some (.func (.yield l) #[] #[]) ∧ w'.cell? ⟨bf, 0, none⟩ = some (.slice (some ⟨ga, oa, none⟩) ss.length cd) ∧ w'.rangeAt ga (oa + x.2 * 12) cs) (Z := fun z => Nat.ble 7 z) (by kernel_rfl) hHeld (fun _ => ?_)
    refine Hi.take (i := 0) (k := 11) (v := ?_) (fun _ => trivial) (by kernel_rfl) rfl rfl (by kernel_rfl) (by kernel_rfl) (by kernel_rfl) (fun _ _ _ h => h) (by kernel_rfl) (by kernel_rfl) (Or.inl ⟨by rfl, ?_⟩) (by assumption) ?_
    rotate_left
    · intro wq hSw; (try dsimp only at hSw); go_split_ands; go_simp; (try with_reducible rfl)
    simp only [List.set_cons_succ, List.set_cons_zero]
    refine Hi.take (i := 1) (k := 12) (v := ?_) (fun _ => trivial) (by kernel_rfl) rfl rfl (by kernel_rfl) (by kernel_rfl) (by kernel_rfl) (fun _ _ _ h => h) (by kernel_rfl) (by kernel_rfl) (Or.inl ⟨by rfl, ?_⟩) (by assumption) ?_
    rotate_left
    · intro wq hSw; (try dsimp only at hSw); go_split_ands; go_simp; (try with_reducible rfl)
    simp only [List.set_cons_succ, List.set_cons_zero]
    refine Hi.take (i := 2) (k := 13) (v := ?_) (fun _ => trivial) (by kernel_rfl) rfl rfl (by kernel_rfl) (by kernel_rfl) (by kernel_rfl) (fun _ _ _ h => h) (by kernel_rfl) (by kernel_rfl) (Or.inl ⟨by rfl, ?_⟩) (by assumption) ?_
    rotate_left
    · intro wq hSw; (try dsimp only at hSw); go_split_ands; go_simp; (try with_reducible rfl)
    simp only [List.set_cons_succ, List.set_cons_zero]
    refine Hi.take (i := 3) (k := 14) (v := ?_) (fun _ => trivial) (by kernel_rfl) rfl rfl (by kernel_rfl) (by kernel_rfl) (by kernel_rfl) (fun _ _ _ h => h) (by kernel_rfl) (by kernel_rfl) (Or.inl ⟨by rfl, ?_⟩) (by assumption) ?_
    rotate_left
    · intro wq hSw; (try dsimp only at hSw); go_split_ands; go_simp; (try with_reducible rfl)
    simp only [List.set_cons_succ, List.set_cons_zero]
    refine Hi.take (i := 4) (k := 15) (v := ?_) (fun _ => trivial) (by kernel_rfl) rfl rfl (by kernel_rfl) (by kernel_rfl) (by kernel_rfl) (fun _ _ _ h => h) (by kernel_rfl) (by kernel_rfl) (Or.inl ⟨by rfl, ?_⟩) (by assumption) ?_
    rotate_left
    · intro wq hSw; (try dsimp only at hSw); go_split_ands; go_simp; (try with_reducible rfl)
    simp only [List.set_cons_succ, List.set_cons_zero]
    refine Hi.take (i := 5) (k := 16) (v := ?_) (fun _ => trivial) (by kernel_rfl) rfl rfl (by kernel_rfl) (by kernel_rfl) (by kernel_rfl) (fun _ _ _ h => h) (by kernel_rfl) (by kernel_rfl) (Or.inl ⟨by rfl, ?_⟩) (by assumption) ?_
    rotate_left
    · intro wq hSw; (try dsimp only at hSw); go_split_ands; go_simp; (try with_reducible rfl)
    simp only [List.set_cons_succ, List.set_cons_zero]
    refine Hi.take (i := 6) (k := 17) (v := .agg cs.toArray) (fun _ => trivial) (by kernel_rfl) rfl rfl (by kernel_rfl) (by kernel_rfl) (by kernel_rfl) (fun _ _ _ h => h) (by kernel_rfl) (by kernel_rfl) (yieldsIf_load_mid (by rfl) 30 (.tmp 16) (by rfl) ga (oa + x.2 * 12) (by rfl) cs _ (fun wq h => h.2.2) Tryz.underlying30 rfl (by rw [HCL.out]; kernel_rfl)) (by assumption) ?_
    simp only [List.set_cons_succ, List.set_cons_zero]
    refine Hi.yield_ (i := 7) (k := 18) (l := l) (fn := fn) (tmps := tmps) (assign := assign) (body := body) (fun _ => trivial) (fun h => by simp [Fence.wide, Fence.inRound] at h) (by intro c h; cases h) rfl rfl (by kernel_rfl) (by rfl) (by go_simp) ((show RoundIn (Fence.wide.inRound l2) _ _ _ _ _ _ _ _ _ from Hi.round_any HR.out).mono ?_)
    rintro e W3 (⟨rfl, Fp', hJ3, ho3, hn3⟩ | ⟨rfl, Fp', hJx3, ho3, hn3⟩)
    · refine ⟨_, rfl, fun h => absurd h (by decide), fun _ => ?_⟩
      simp only [List.set_cons_succ, List.set_cons_zero]
      refine Hi.val_ (i := 8) (k := 19) (v := .bool false) (w' := W3) (fun _ => trivial) (by intro c h; cases h) rfl rfl (by kernel_rfl) (by rfl) (by go_simp) (fun h => absurd h (by decide)) ?_
      simp only [List.set_cons_succ, List.set_cons_zero]
      refine Hi.done_ (by kernel_rfl) ?_ _
      gi_wp2
      have ho4 : Only Fp A W3 := ⟨ho3.os, ho3.tape, ho3.output, ho3.size, ho3.block⟩
      exact ⟨Fp', ⟨hJ3, Nat.le_trans HSA.out ho4.size, HKP.out.yield ho4 hn3⟩, ho4, hn3⟩
    · refine ⟨_, rfl, fun h => absurd h (by decide), fun _ => ?_⟩
      simp only [List.set_cons_succ, List.set_cons_zero]
      refine Hi.val_ (i := 8) (k := 19) (v := .bool true) (w' := W3) (fun _ => trivial) (by intro c h; cases h) rfl rfl (by kernel_rfl) (by rfl) (by go_simp) (fun h => absurd h (by decide)) ?_
      simp only [List.set_cons_succ, List.set_cons_zero]
      refine Hi.done_ (by kernel_rfl) ?_ _
      gi_wp2
      have ho4 : Only Fp A W3 := ⟨ho3.os, ho3.tape, ho3.output, ho3.size, ho3.block⟩
      exact ⟨Fp', ⟨rfl, hJx3⟩, ho4, hn3⟩
  case done =>
    rintro D ys Fp A hS hD ⟨hj, hsz, hkp⟩ hnf hK
    gi_wp2
    refine ⟨by simp, .inl ⟨_, _, rfl, run_takeDeferred hK, ?_⟩⟩
    exact ⟨_, results_none rfl _ _ _, ⟨_, rfl⟩, .inl ⟨ys, Fp, hS, HJ.out _ _ _ _ (some D) hj (by have := HS2.out; omega) (grownBy_putObj' A D _) (fun r e => by cases e; exact ⟨by have := HS2.out; omega, hnf⟩)⟩⟩
  case stop =>
    rintro D c pre Fp A hSp hD ⟨rfl, hjx⟩ hnf hK
    gi_wp2
    refine ⟨by simp, .inl ⟨_, _, rfl, run_takeDeferred hK, ?_⟩⟩
    exact ⟨_, results_none rfl _ _ _, ⟨_, rfl⟩, .inr ⟨pre, Fp, hSp, HJX.out _ _ _ _ (some D) hjx (by have := HS2.out; have := (Array.getElem?_eq_some_iff.1 hK).1; omega) (grownBy_putObj' A D _) (fun r e => by cases e; exact ⟨by have := HS2.out; omega, hnf⟩)⟩⟩

theorem preL_pre {ss : List Sess} {b : Int} : preL ss b = match firstL ss b with
    | none => []
    | some p => Vt.pre (kidsF ss) (ss.length + 1) 0 [p] := by
  unfold preL
  cases h : firstL ss b with
  | none => rfl
  | some p => exact Vt.ord_blk _ _ p (firstL_lt h)
theorem pre_close {ss : List Sess} (hl : ss.length ≤ 65536) {w w1 W' : World} {qd qv : Option Addr} {cd cv g : Nat} {vs : Nat → Value} {ls : List Nat} {P : List (Nat × Nat)} (hP : P = Vt.pre (kidsF ss) (ss.length + 1) 0 ls) (hls : ∀ i ∈ ls, i < ss.length) (hll : ls.length ≤ 1)
    (hrd : ∀ W : World, (∀ x, w.heap.size ≤ x → x < w1.heap.size → x < W.heap.size ∧ W.heap[x]? = w1.heap[x]?) → FW ss (.slice qd ss.length cd) g vs W) (hw1 : w.heap.size ≤ w1.heap.size) (h13 : ∀ x, x < w1.heap.size → W'.heap[x]? = w1.heap[x]?) (hsz : w1.heap.size + 2 ≤ W'.heap.size)
    (hbf : W'.heap[w1.heap.size]? = some (.cells #[.slice qd ss.length cd, .slice (some ⟨g, 0, none⟩) (ss.length + 1) (ss.length + 1)] 77 (0, 0))) (hbk : W'.heap[w1.heap.size + 1]? = some (.cells #[.slice qv ls.length cv] 82 (0, 0)))
    (hv : ∀ W : World, (∀ x, w.heap.size ≤ x → x < W'.heap.size → x < W.heap.size ∧ W.heap[x]? = W'.heap[x]?) → In.IntArg W (.slice qv ls.length cv) (ints ls)) (n : Nat) :
    Fo.SeqF Fence.wide n Tryz.prog 92 #[.pointer (some ⟨w1.heap.size, 0, none⟩), .pointer (some ⟨w1.heap.size + 1, 0, none⟩)] (encP ss) (fun ys => ys = P) (fun p => p <+: P) (fun x => w.heap.size ≤ x ∧ x < W'.heap.size) W' := by
  subst hP
  refine pre1_seq n ss hl qd qv cd cv g vs w1.heap.size (w1.heap.size + 1) ls (by omega) hls _ W' (fun W hW => ?_)
  have hfw := hrd W (fun x h2 h3 => by
    have h4 := hW x ⟨h2, by omega⟩
    exact ⟨h4.1, h4.2.trans (h13 x h3)⟩)
  have h5 := hW w1.heap.size ⟨hw1, by omega⟩
  have h6 := hW (w1.heap.size + 1) ⟨by omega, by omega⟩
  exact ⟨hfw, by rw [block_cell (h5.2.trans hbf)]; rfl, by rw [block_cell (h5.2.trans hbf)]; rfl, by rw [block_cell (h6.2.trans hbk)]; rfl, hv W (fun x h2 h3 => hW x ⟨h2, h3⟩)⟩

set_option maxRecDepth 100000 in
set_option maxHeartbeats 4000000 in
theorem vpre_any (v : Value) (ss : List Sess) (hl : ss.length ≤ 65536) (hwf : ∀ s ∈ ss, (Lit.int .i64 s.birth).wf = true ∧ (Lit.int .i64 s.ub).wf = true) (b : Int) (w : World) (h1 : SessArg w v ss) :
    Calls Tryz.prog 53 #[v, .int .i64 b] w fun e w' => (∃ bf bq, e = .returned (.func (.func 92) #[] #[.pointer (some ⟨bf, 0, none⟩), .pointer (some ⟨bq, 0, none⟩)]) ∧
      ∀ n, Fo.SeqF Fence.wide n Tryz.prog 92 #[.pointer (some ⟨bf, 0, none⟩), .pointer (some ⟨bq, 0, none⟩)] (encP ss) (fun ys => ys = preL ss b) (fun p => p <+: preL ss b) (fun x => w.heap.size ≤ x ∧ x < w'.heap.size) w') ∧ Below w.heap.size w w' := by
  have HG := Lib.hid (grow_any v ss hl hwf w h1)
  have hlI : (ss.length : Int) ≤ 9223372036854775807 := by omega
  clear h1 hwf
  go_enter Tryz.func53, Tryz.ntmps53
  go_wp2_with fail
  refine HG.out.mono ?_
  rintro e w1 ⟨⟨L, F, bm, g, d, rfl, hgr⟩, hb1⟩
  obtain ⟨qd, cd, rfl, -⟩ := own_any_shape hgr.clone
  obtain ⟨vs, hsh, hrd⟩ := hgr.reads
  have HRD := Lib.hid hrd; have HB1 := Lib.hid hb1
  obtain ⟨W2, hW2⟩ : ∃ W2, W2 = (w1.alloc (.cells #[.slice qd ss.length cd, .slice (some ⟨g, 0, none⟩) (ss.length + 1) (ss.length + 1)] 77)).alloc (.cells #[.slice none 0 0] 82) := ⟨_, rfl⟩
  have hb2 : Below w1.heap.size w1 W2 := by rw [hW2]; exact ((Below.refl _ _).alloc (Nat.le_refl _) _).alloc (by simp) _
  have HB2 := Lib.hid hb2
  have hs2 : W2.heap.size = w1.heap.size + 2 := by rw [hW2, World.size_alloc, World.size_alloc]
  have HS2 := Lib.hid hs2
  have HF : Hid (SessArg W2 (.slice qd ss.length cd) ss) := (hrd W2 (fun x h2 h3 => ⟨by omega, hb2.block x h3⟩)).sess
  have HFI := Lib.hid (vfirst_any (.slice qd ss.length cd) (.slice (some ⟨g, 0, none⟩) (ss.length + 1) (ss.length + 1)) ss hlI b W2 HF.out rfl rfl)
  have hbf : W2.heap[w1.heap.size]? = some (.cells #[.slice qd ss.length cd, .slice (some ⟨g, 0, none⟩) (ss.length + 1) (ss.length + 1)] 77 (0, 0)) := by rw [hW2, al_old (by simp)]; exact Ut.alloc_at _ _
  have hbk : W2.heap[w1.heap.size + 1]? = some (.cells #[.slice none 0 0] 82 (0, 0)) := by
    rw [hW2]
    have := Ut.alloc_at (w1.alloc (.cells #[.slice qd ss.length cd, .slice (some ⟨g, 0, none⟩) (ss.length + 1) (ss.length + 1)] 77)) (.cells #[.slice none 0 0] 82)
    rwa [World.size_alloc] at this
  have HBF := Lib.hid hbf; have HBK := Lib.hid hbk
  clear hgr hb1 hrd hsh hb2 hs2 hbf hbk
  go_wp2_with fail
  rw [← hW2]
  clear hW2
  refine HFI.out.mono ?_
  rintro e w3 ⟨rfl, hb3⟩
  have hs3 := hb3.size
  have hbf3 := (hb3.block w1.heap.size (by have := HS2.out; omega)).trans HBF.out
  have hbk3 := (hb3.block (w1.heap.size + 1) (by have := HS2.out; omega)).trans HBK.out
  have h13 : ∀ x, x < w1.heap.size → w3.heap[x]? = w1.heap[x]? := fun x hx => (hb3.block x (by have := HS2.out; omega)).trans (HB2.out.block x hx)
  have ck0 : w3.cell? ⟨w1.heap.size + 1, 0, none⟩ = some (.slice none 0 0) := by rw [block_cell hbk3]; rfl
  have fk0 : w3.frozen? ⟨w1.heap.size + 1, 0, none⟩ = false := block_free hbk3 0
  have HBW : Hid (Below w.heap.size w w3) := HB1.out.trans ((HB2.out.trans (hb3.mono HB2.out.size)).mono HB1.out.size)
  have HS3 : Hid (w1.heap.size + 2 ≤ w3.heap.size) := by have := HS2.out; show _ ≤ _; omega
  have HW1 := Lib.hid HB1.out.size; have HBF3 := Lib.hid hbf3; have HBK3 := Lib.hid hbk3; have H13 := Lib.hid h13
  clear hb3 hs3 hbf3 hbk3 h13
  cases hf : firstL ss b with
  | none =>
    have e1 : firstI ss b = -1 := by unfold firstI; rw [hf]
    have HP : Hid (preL ss b = Vt.pre (kidsF ss) (ss.length + 1) 0 []) := by show _ = _; rw [preL_pre, hf, Vt.pre_nil]
    rw [e1]
    clear e1 hf
    go_wp2
    go_ret
    exact ⟨⟨_, _, rfl, fun n => pre_close (ls := []) hl HP.out (fun i hi => by cases hi) (by simp) HRD.out HW1.out H13.out HS3.out HBF3.out HBK3.out (fun W _ => ⟨none, 0, rfl, fun j hj => absurd hj (Nat.not_lt_zero _)⟩) n⟩, HBW.out⟩
  | some p =>
    have e1 : firstI ss b = (p : Int) := by unfold firstI; rw [hf]
    have HPN := Lib.hid (firstL_lt hf)
    have HP : Hid (preL ss b = Vt.pre (kidsF ss) (ss.length + 1) 0 [p]) := by show _ = _; rw [preL_pre, hf]
    have i0 : (0 : Int) ≤ (p : Int) := by omega
    rw [e1]
    clear e1 hf
    have ckA : ∀ o, (w3.alloc o).cell? ⟨w1.heap.size + 1, 0, none⟩ = some (.slice none 0 0) := fun o => by rw [block_cell ((al_old (by have := HS3.out; omega)).trans HBK3.out)]; rfl
    have fkA : ∀ o, (w3.alloc o).frozen? ⟨w1.heap.size + 1, 0, none⟩ = false := fun o => block_free ((al_old (by have := HS3.out; omega)).trans HBK3.out) 0
    clear ck0 fk0
    go_wp2
    go_ret
    have hin : ∀ o (v : Value), ((w3.alloc o).setCell ⟨w1.heap.size + 1, 0, none⟩ v).heap.size = w3.heap.size + 1 := fun o v => by rw [World.size_setCell, World.size_alloc]
    have hold : ∀ o (v : Value) x, x < w3.heap.size → x ≠ w1.heap.size + 1 → ((w3.alloc o).setCell ⟨w1.heap.size + 1, 0, none⟩ v).heap[x]? = w3.heap[x]? := fun o v x hx hne => (Below.heap_setCell _ _ _ _ hne).trans (al_old hx)
    have hnew : ∀ o (v : Value), ((w3.alloc o).setCell ⟨w1.heap.size + 1, 0, none⟩ v).heap[w3.heap.size]? = (w3.alloc o).heap[w3.heap.size]? := fun o v => Below.heap_setCell _ _ _ _ (Nat.ne_of_gt HS3.out)
    have hset : ∀ o (v : Value), ((w3.alloc o).setCell ⟨w1.heap.size + 1, 0, none⟩ v).heap[w1.heap.size + 1]? = some (.cells #[v] 82 (0, 0)) := fun o v => by
      rw [heap_setCell_same _ _ _ _ _ v ((al_old (by have := HS3.out; omega)).trans HBK3.out)]; rfl
    refine ⟨⟨_, _, rfl, fun n => pre_close (ls := [p]) hl HP.out (fun i hi => by have := HPN.out; rw [List.mem_singleton.1 hi]; exact this) (by simp) HRD.out HW1.out (fun x hx => (hold _ _ x (Nat.lt_of_lt_of_le hx (Nat.le_trans (Nat.le_add_right _ 2) HS3.out)) (Nat.ne_of_lt (Nat.lt_succ_of_lt hx))).trans (H13.out x hx)) (by rw [hin]; exact Nat.le_trans HS3.out (Nat.le_succ _)) ((hold _ _ _ (Nat.lt_of_lt_of_le (Nat.lt_add_of_pos_right (by decide)) HS3.out) (Nat.ne_of_lt (Nat.lt_succ_self _))).trans HBF3.out) (hset _ _) (fun W hW => ?_) n⟩, ?_⟩
    · have h9 := hW w3.heap.size HBW.out.size (by rw [hin]; exact Nat.lt_succ_self _)
      have h10 := (h9.2.trans (hnew _ _)).trans (Ut.alloc_at _ _)
      refine ⟨_, 1, rfl, fun j hj => ⟨_, 0, rfl, h9.1, ?_⟩⟩
      have hj0 : j = 0 := Nat.lt_one_iff.1 hj
      subst hj0
      rw [block_cell h10]; rfl
    · exact (HBW.out.alloc HBW.out.size _).setCell (by have := HW1.out; show w.heap.size ≤ w1.heap.size + 1; omega) _
end Vw
end Go.Proofs.YtocoonkachbjaaaGreatDoor
