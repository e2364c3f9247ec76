/- Several texts in one: what each proves its own first comment says. -/
import Derived.Test.YtocoonkachbjaaaGreatDoorM16
import Derived.RangeFuncNested
import Derived.Shelf.RegionOpen
import Derived.Shelf.Abstract
import Derived.RangeFuncCalls
import Derived.Test.YtocoonkachbjaaaGreatDoorM17
import Derived.BigQuiet
import Derived.Deep.QuietTactic
import Derived.Test.YtocoonkachbjaaaGreatDoorM15
import Derived.Laws.Rows
import Derived.Maps.AppendAt

/- view.Pre and its iterator (printed by wip/mkpre.py). -/
namespace Go.Proofs.YtocoonkachbjaaaGreatDoor
open Go.RowKit Go.Maps
set_option linter.unusedVariables false
namespace Vw
attribute [local go_sem] Oper.semAt_some
theorem pre_mem_lt {ss : List Sess} : ∀ (f far : Nat) (l : List Nat), (∀ i ∈ l, i < ss.length) → ∀ x ∈ Vt.pre (kidsF ss) f far l, x.2 < ss.length
  | 0, far, l, h, x, hx => by simp [Vt.pre] at hx
  | f + 1, far, [], h, x, hx => by simp [Vt.pre] at hx
  | f + 1, far, i :: l, h, x, hx => by
    rw [Vt.pre_cons, List.mem_cons, List.mem_append] at hx
    rcases hx with rfl | hx | hx
    · exact h i List.mem_cons_self
    · exact pre_mem_lt f (far + 1) (kidsF ss i) (fun j hj => (Vt.kids_up (bu ss) ss.length i j hj).2) x hx
    · exact pre_mem_lt (f + 1) far l (fun j hj => h j (List.mem_cons_of_mem _ hj)) x hx
def encP (ss : List Sess) (x : Nat × Nat) : Array Value := #[.int .i64 (x.1 : Int), .agg (csAt ss x.2).toArray]

set_option maxRecDepth 100000 in
set_option maxHeartbeats 8000000 in
theorem pre1_seq (n0 : Nat) (ss : List Sess) (hl : ss.length ≤ 65536) (qd qv : Option Addr) (cd cv g : Nat) (vs : Nat → Value) (bf bq : Nat) (ls : List Nat) (hll : ls.length ≤ 65536) (hls : ∀ i ∈ ls, i < ss.length) (C : Nat → Prop) (w : World)
    (hC : ∀ W, (∀ b, C b → b < W.heap.size ∧ W.heap[b]? = w.heap[b]?) → FW ss (.slice qd ss.length cd) g vs W ∧ W.cell? ⟨bf, 0, none⟩ = some (.slice qd ss.length cd) ∧ W.cell? ⟨bf, 1, none⟩ = some (.slice (some ⟨g, 0, none⟩) (ss.length + 1) (ss.length + 1)) ∧
      W.cell? ⟨bq, 0, none⟩ = some (.slice qv ls.length cv) ∧ In.IntArg W (.slice qv ls.length cv) (ints ls)) :
    Fo.SeqF Fence.wide n0 Tryz.prog 92 #[.pointer (some ⟨bf, 0, none⟩), .pointer (some ⟨bq, 0, none⟩)] (encP ss) (fun ys => ys = Vt.pre (kidsF ss) (ss.length + 1) 0 ls) (fun p => p <+: Vt.pre (kidsF ss) (ss.length + 1) 0 ls) C w := by
  intro l J Jx W Fp0 hCW hFp hJ hJx hY h0
  refine Hi.calls_any (m := 9) ?_
  obtain ⟨W1, hW1⟩ : ∃ W1, W1 = W.alloc (.cells #[.func (.yield l) #[] #[]] 146) := ⟨_, rfl⟩
  obtain ⟨W2, hW2⟩ : ∃ W2, W2 = (W1.alloc (.cells #[.slice qd ss.length cd, .slice (some ⟨g, 0, none⟩) (ss.length + 1) (ss.length + 1)] 77)).alloc (.cells #[.slice qv ls.length cv] 82) := ⟨_, rfl⟩
  have s1 : W1.heap.size = W.heap.size + 1 := by rw [hW1, World.size_alloc]
  have s2 : W2.heap.size = W.heap.size + 3 := by rw [hW2, World.size_alloc, World.size_alloc, s1]
  have b1 : Below W.heap.size W W1 := by rw [hW1]; exact (Below.refl _ _).alloc (Nat.le_refl _) _
  have b12 : Below W1.heap.size W1 W2 := by rw [hW2]; exact ((Below.refl _ _).alloc (Nat.le_refl _) _).alloc (by simp) _
  have b2 : Below W.heap.size W W2 := b1.trans (b12.mono b1.size)
  have cy : W2.heap[W.heap.size]? = some (.cells #[.func (.yield l) #[] #[]] 146 (0, 0)) := by
    rw [b12.block _ (by omega), hW1]; exact Ut.alloc_at _ _
  have cb1 : W2.heap[W.heap.size + 1]? = some (.cells #[.slice qd ss.length cd, .slice (some ⟨g, 0, none⟩) (ss.length + 1) (ss.length + 1)] 77 (0, 0)) := by
    rw [hW2, al_old (by simp; omega), ← s1]; exact Ut.alloc_at _ _
  have cb2 : W2.heap[W.heap.size + 2]? = some (.cells #[.slice qv ls.length cv] 82 (0, 0)) := by
    rw [hW2]
    have := Ut.alloc_at (W1.alloc (.cells #[.slice qd ss.length cd, .slice (some ⟨g, 0, none⟩) (ss.length + 1) (ss.length + 1)] 77)) (.cells #[.slice qv ls.length cv] 82)
    rwa [World.size_alloc, s1] at this
  -- the walk's iterator
  have hseq : Fo.SeqF Fence.wide 8 Tryz.prog 83 #[.pointer (some ⟨W.heap.size + 1, 0, none⟩), .pointer (some ⟨W.heap.size + 2, 0, none⟩)] encF (fun ys => ys = Vt.pre (kidsF ss) (ss.length + 1) 0 ls) (fun p => p <+: Vt.pre (kidsF ss) (ss.length + 1) 0 ls) (fun b => C b ∨ b = W.heap.size + 1 ∨ b = W.heap.size + 2) W2 := by
    refine walk1_seq 8 ss hl (.slice qd ss.length cd) g vs (W.heap.size + 1) (W.heap.size + 2) (.slice qv ls.length cv) ls hll hls _ W2 (fun A hA => ?_)
    have h1 := hC A (fun b hb => by
      have h2 := hA b (.inl hb)
      exact ⟨h2.1, h2.2.trans ((b2.block b (hCW b hb).1).trans (hCW b hb).2)⟩)
    have h3 := hA (W.heap.size + 1) (.inr (.inl rfl))
    have h4 := hA (W.heap.size + 2) (.inr (.inr rfl))
    exact ⟨h1.1, by rw [block_cell (h3.2.trans cb1)]; rfl, by rw [block_cell (h4.2.trans cb2)]; rfl, h1.2.2.2.2⟩
  have hJ2 : J [] Fp0 W2 := hJ _ _ _ _ none h0 (Nat.le_refl _) ⟨b2.os, b2.tape, b2.output, b2.size, fun k hk _ => b2.block k hk⟩ (fun r e => by cases e)
  have hcell : ∀ A : World, (∀ b, (C b ∨ b = W.heap.size) → b < A.heap.size ∧ A.heap[b]? = W2.heap[b]?) → A.cell? ⟨W.heap.size, 0, none⟩ = some (.func (.yield l) #[] #[]) ∧ A.cell? ⟨bf, 0, none⟩ = some (.slice qd ss.length cd) ∧ ∀ i, i < ss.length → ∃ ga oa, qd = some ⟨ga, oa, none⟩ ∧ A.rangeAt ga (oa + i * 12) (csAt ss i) := fun A hA => by
    have h1 := hC A (fun b hb => by
      have h2 := hA b (.inl hb)
      exact ⟨h2.1, h2.2.trans ((b2.block b (hCW b hb).1).trans (hCW b hb).2)⟩)
    have h3 := hA W.heap.size (.inr rfl)
    exact ⟨by rw [block_cell (h3.2.trans cy)]; rfl, h1.2.1, fun i hi => sess_range h1.1.sess hi⟩
  have cW := hC W hCW
  have HWA := Lib.hid (walk_any qd (some ⟨g, 0, none⟩) qv ss.length cd (ss.length + 1) (ss.length + 1) ls.length cv W1)
  have hself : ∀ b, (C b ∨ b = W.heap.size) → b < W2.heap.size ∧ W2.heap[b]? = W2.heap[b]? := fun b hb => ⟨by
    rcases hb with hb | hb
    · have := (hCW b hb).1; omega
    · omega, rfl⟩
  have c10 : W1.cell? ⟨bf, 0, none⟩ = some (.slice qd ss.length cd) := (b1.cell (p := ⟨bf, 0, none⟩) (World.block_lt_of_cell? W _ cW.2.1)).trans cW.2.1
  have c11 : W1.cell? ⟨bf, 1, none⟩ = some (.slice (some ⟨g, 0, none⟩) (ss.length + 1) (ss.length + 1)) := (b1.cell (p := ⟨bf, 1, none⟩) (World.block_lt_of_cell? W _ cW.2.2.1)).trans cW.2.2.1
  have c12 : W1.cell? ⟨bq, 0, none⟩ = some (.slice qv ls.length cv) := (b1.cell (p := ⟨bq, 0, none⟩) (World.block_lt_of_cell? W _ cW.2.2.2.1)).trans cW.2.2.2.1
  rw [hW1] at c10 c11 c12
  have HSEQ := Lib.hid hseq; have HCE := Lib.hid hcell; have HJ := Lib.hid hJ; have HJX := Lib.hid hJx; have HY := Lib.hid hY; have HJ2 := Lib.hid hJ2; have HS2 := Lib.hid s2; have HSE := Lib.hid hself; have HFP := Lib.hid hFp; have HCW := Lib.hid hCW; have HW1 := Lib.hid hW1; have HW2 := Lib.hid hW2
  have HLS := Lib.hid hls
  have HCB : Hid (∀ b, C b → b < W.heap.size) := fun b hb => (hCW b hb).1
  clear hseq hcell hJ hJx hY hJ2 s2 hself hFp hCW hC h0 s1 b1 b12 b2 cy cb1 cb2 cW hls hW2
  refine callsIn_of_wp_marks Tryz.func92 rfl trivial ?_ rfl
  simp only [Tryz.ntmps92, List.size_toArray, List.length_cons, List.length_nil, Nat.reduceAdd, Nat.reduceSub, Array.replicate_succ, Array.replicate_zero, List.push_toArray, List.append_toArray, List.nil_append, List.cons_append]
  clear hW1
  gi_wp2_with fail
  rw [← HW1.out]
  refine ⟨trivial, (callsIn_wide.2 HWA.out).mono ?_⟩
  rintro e w3 ⟨rfl, hw3⟩
  rw [← HW2.out] at hw3
  subst hw3
  have hz1 : W1.heap.size = W.heap.size + 1 := by rw [HW1.out, World.size_alloc]
  rw [hz1, show W.heap.size + 1 + 1 = W.heap.size + 2 from rfl]
  gi_wp2_with fail
  refine Fo.range_foot (F := Fence.wide) (n := 9) rfl (by omega) (gf := 83) (lb := #[.pointer (some ⟨W.heap.size + 1, 0, none⟩), .pointer (some ⟨W.heap.size + 2, 0, none⟩)]) rfl trivial (enters_of Tryz.func83 (by kernel_rfl) rfl)
    HSEQ.out (fun _ => rfl) (fun b hb => ⟨by
      rcases hb with hb | hb | hb
      · have := HCB.out b hb; have := HS2.out; omega
      · have := HS2.out; omega
      · have := HS2.out; omega, rfl⟩)
    (fun pre Fp A => J pre Fp A ∧ w3.heap.size ≤ A.heap.size ∧ Kept (fun b => C b ∨ b = W.heap.size) Fp w3 A) (fun c pre Fp A => c = .ret ∧ Jx pre Fp A) Fp0 (fun b hb => ⟨by have := (HFP.out b hb).1; have := HS2.out; omega, fun h => by
      have h2 := HFP.out b hb
      rcases h with h | h | h
      · exact h2.2 h
      · omega
      · omega⟩)
    ?hU ?hUx ⟨HJ2.out, Nat.le_refl _, fun b hb => ⟨fun hf => by
      have h2 := HFP.out b hf
      rcases hb with h | h
      · exact h2.2 h
      · omega, (HSE.out b hb).1, rfl⟩⟩
    (fun x => { tmps := #[.func (.yield l) #[] #[], .pointer (some ⟨bf, 0, none⟩), .pointer (some ⟨bq, 0, none⟩), .pointer (some ⟨W.heap.size, 0, none⟩), .int .i64 (x.1 : Int), .int .i64 (x.2 : Int), .agg #[.slice qd ss.length cd, .slice (some ⟨g, 0, none⟩) (ss.length + 1) (ss.length + 1)], .slice qv ls.length cv, .func (.func 83) #[] #[.pointer (some ⟨W.heap.size + 1, 0, none⟩), .pointer (some ⟨W.heap.size + 2, 0, none⟩)], .int .i64 (x.1 : Int), .int .i64 (x.2 : Int), undef, undef, undef, undef, undef, undef, undef, undef, undef], defers := [] })
    ?assign ?body ?done ?stop
  case hU =>
    rintro pre Fp A A' row ⟨h1, h2, h3⟩ hsz hg hrow
    refine ⟨HJ.out _ _ _ _ row h1 (by have := HS2.out; omega) hg (fun r e => ⟨by have := (hrow r e).1; have := HS2.out; omega, (hrow r e).2⟩), Nat.le_trans h2 hg.size, fun b hb => ?_⟩
    obtain ⟨k1, k2, k3⟩ := h3 b hb
    have hlt := (HSE.out b hb).1
    exact ⟨k1, Nat.lt_of_lt_of_le k2 hg.size, (hg.block b k2 (fun e => by have := (hrow b e.symm).1; omega)).trans k3⟩
  case hUx =>
    rintro c pre Fp A A' row ⟨rfl, h1⟩ hsz hg hrow
    exact ⟨rfl, HJX.out _ _ _ _ row h1 (by have := HS2.out; omega) hg (fun r e => ⟨by have := (hrow r e).1; have := HS2.out; omega, (hrow r e).2⟩)⟩
  case assign =>
    intro l2 x A K hK
    unfold encF
    gi_wp2
    exact hK
  case body =>
    rintro l2 pre x Fp A ⟨hj, hsz, hkp⟩ hszA hpre
    have hin : x.2 < ss.length := pre_mem_lt _ _ _ HLS.out x (hpre.subset (by simp))
    have hjd : J pre Fp A.drew := HJ.out _ _ _ _ none hj (by have := HS2.out; omega) ⟨rfl, rfl, rfl, Nat.le_refl _, fun _ _ _ => rfl⟩ (fun r e => by cases e)
    obtain ⟨fn, tmps, assign, body, hy, hR⟩ := HY.out pre x Fp A.drew hjd (by have := HS2.out; show _ ≤ A.heap.size; omega) hpre
    obtain ⟨x1, x2, hr⟩ := HCE.out A hkp.agree
    obtain ⟨ga, oa, rfl, hrg⟩ := hr x.2 hin
    unfold encP at hy
    obtain ⟨cs, hcs⟩ : ∃ cs, cs = csAt ss x.2 := ⟨_, rfl⟩
    have HCL : Hid (cs.length = 12) := by show _ = _; rw [hcs]; exact cs_len hin
    rw [← hcs] at hrg hy
    have HR := Lib.hid hR; have HKP := Lib.hid hkp; have HPRE := Lib.hid hpre; have HSA := Lib.hid hsz
    have i0 : (0 : Int) ≤ (x.2 : Int) := by omega
    have i1 : (x.2 : Int) < (ss.length : Int) := by omega
    have hHeld : A.drew.cell? ⟨W.heap.size, 0, none⟩ = some (.func (.yield l) #[] #[]) ∧ A.drew.cell? ⟨bf, 0, none⟩ = some (.slice (some ⟨ga, oa, none⟩) ss.length cd) ∧ A.drew.rangeAt ga (oa + x.2 * 12) cs := ⟨x1, x2, hrg⟩
    have hcl := HCL.out
    clear hcs hR hkp hpre hsz hj hjd x1 x2 hr hrg
    gi_wp2
    refine Hi.begin_ (S := fun w' => w'.cell? ⟨W.heap.size, 0, none⟩ = some (.func (.yield l) #[] #[]) ∧ w'.cell? ⟨bf, 0, none⟩ = some (.slice (some ⟨ga, oa, none⟩) ss.length cd) ∧ w'.rangeAt ga (oa + x.2 * 12) cs) (Z := fun z => Nat.ble 7 z) (by kernel_rfl) hHeld (fun _ => ?_)
    refine Hi.take (i := 0) (k := 11) (v := ?_) (fun _ => trivial) (by kernel_rfl) rfl rfl (by kernel_rfl) (by kernel_rfl) (by kernel_rfl) (fun _ _ _ h => h) (by kernel_rfl) (by kernel_rfl) (Or.inl ⟨by rfl, ?_⟩) (by assumption) ?_
    rotate_left
    · intro wq hSw; (try dsimp only at hSw); go_split_ands; go_simp; (try with_reducible rfl)
    simp only [List.set_cons_succ, List.set_cons_zero]
    refine Hi.take (i := 1) (k := 12) (v := ?_) (fun _ => trivial) (by kernel_rfl) rfl rfl (by kernel_rfl) (by kernel_rfl) (by kernel_rfl) (fun _ _ _ h => h) (by kernel_rfl) (by kernel_rfl) (Or.inl ⟨by rfl, ?_⟩) (by assumption) ?_
    rotate_left
    · intro wq hSw; (try dsimp only at hSw); go_split_ands; go_simp; (try with_reducible rfl)
    simp only [List.set_cons_succ, List.set_cons_zero]
    refine Hi.take (i := 2) (k := 13) (v := ?_) (fun _ => trivial) (by kernel_rfl) rfl rfl (by kernel_rfl) (by kernel_rfl) (by kernel_rfl) (fun _ _ _ h => h) (by kernel_rfl) (by kernel_rfl) (Or.inl ⟨by rfl, ?_⟩) (by assumption) ?_
    rotate_left
    · intro wq hSw; (try dsimp only at hSw); go_split_ands; go_simp; (try with_reducible rfl)
    simp only [List.set_cons_succ, List.set_cons_zero]
    refine Hi.take (i := 3) (k := 14) (v := ?_) (fun _ => trivial) (by kernel_rfl) rfl rfl (by kernel_rfl) (by kernel_rfl) (by kernel_rfl) (fun _ _ _ h => h) (by kernel_rfl) (by kernel_rfl) (Or.inl ⟨by rfl, ?_⟩) (by assumption) ?_
    rotate_left
    · intro wq hSw; (try dsimp only at hSw); go_split_ands; go_simp; (try with_reducible rfl)
    simp only [List.set_cons_succ, List.set_cons_zero]
    refine Hi.take (i := 4) (k := 15) (v := ?_) (fun _ => trivial) (by kernel_rfl) rfl rfl (by kernel_rfl) (by kernel_rfl) (by kernel_rfl) (fun _ _ _ h => h) (by kernel_rfl) (by kernel_rfl) (Or.inl ⟨by rfl, ?_⟩) (by assumption) ?_
    rotate_left
    · intro wq hSw; (try dsimp only at hSw); go_split_ands; go_simp; (try with_reducible rfl)
    simp only [List.set_cons_succ, List.set_cons_zero]
    refine Hi.take (i := 5) (k := 16) (v := ?_) (fun _ => trivial) (by kernel_rfl) rfl rfl (by kernel_rfl) (by kernel_rfl) (by kernel_rfl) (fun _ _ _ h => h) (by kernel_rfl) (by kernel_rfl) (Or.inl ⟨by rfl, ?_⟩) (by assumption) ?_
    rotate_left
    · intro wq hSw; (try dsimp only at hSw); go_split_ands; go_simp; (try with_reducible rfl)
    simp only [List.set_cons_succ, List.set_cons_zero]
    refine Hi.take (i := 6) (k := 17) (v := .agg cs.toArray) (fun _ => trivial) (by kernel_rfl) rfl rfl (by kernel_rfl) (by kernel_rfl) (by kernel_rfl) (fun _ _ _ h => h) (by kernel_rfl) (by kernel_rfl) (yieldsIf_load_mid (by rfl) 30 (.tmp 16) (by rfl) ga (oa + x.2 * 12) (by rfl) cs _ (fun wq h => h.2.2) Tryz.underlying30 rfl (by rw [HCL.out]; kernel_rfl)) (by assumption) ?_
    simp only [List.set_cons_succ, List.set_cons_zero]
    refine Hi.yield_ (i := 7) (k := 18) (l := l) (fn := fn) (tmps := tmps) (assign := assign) (body := body) (fun _ => trivial) (fun h => by simp [Fence.wide, Fence.inRound] at h) (by intro c h; cases h) rfl rfl (by kernel_rfl) (by rfl) (by go_simp) ((show RoundIn (Fence.wide.inRound l2) _ _ _ _ _ _ _ _ _ from Hi.round_any HR.out).mono ?_)
    rintro e W3 (⟨rfl, Fp', hJ3, ho3, hn3⟩ | ⟨rfl, Fp', hJx3, ho3, hn3⟩)
    · refine ⟨_, rfl, fun h => absurd h (by decide), fun _ => ?_⟩
      simp only [List.set_cons_succ, List.set_cons_zero]
      refine Hi.val_ (i := 8) (k := 19) (v := .bool false) (w' := W3) (fun _ => trivial) (by intro c h; cases h) rfl rfl (by kernel_rfl) (by rfl) (by go_simp) (fun h => absurd h (by decide)) ?_
      simp only [List.set_cons_succ, List.set_cons_zero]
      refine Hi.done_ (by kernel_rfl) ?_ _
      gi_wp2
      have ho4 : Only Fp A W3 := ⟨ho3.os, ho3.tape, ho3.output, ho3.size, ho3.block⟩
      exact ⟨Fp', ⟨hJ3, Nat.le_trans HSA.out ho4.size, HKP.out.yield ho4 hn3⟩, ho4, hn3⟩
    · refine ⟨_, rfl, fun h => absurd h (by decide), fun _ => ?_⟩
      simp only [List.set_cons_succ, List.set_cons_zero]
      refine Hi.val_ (i := 8) (k := 19) (v := .bool true) (w' := W3) (fun _ => trivial) (by intro c h; cases h) rfl rfl (by kernel_rfl) (by rfl) (by go_simp) (fun h => absurd h (by decide)) ?_
      simp only [List.set_cons_succ, List.set_cons_zero]
      refine Hi.done_ (by kernel_rfl) ?_ _
      gi_wp2
      have ho4 : Only Fp A W3 := ⟨ho3.os, ho3.tape, ho3.output, ho3.size, ho3.block⟩
      exact ⟨Fp', ⟨rfl, hJx3⟩, ho4, hn3⟩
  case done =>
    rintro D ys Fp A hS hD ⟨hj, hsz, hkp⟩ hnf hK
    gi_wp2
    refine ⟨by simp, .inl ⟨_, _, rfl, run_takeDeferred hK, ?_⟩⟩
    exact ⟨_, results_none rfl _ _ _, ⟨_, rfl⟩, .inl ⟨ys, Fp, hS, HJ.out _ _ _ _ (some D) hj (by have := HS2.out; omega) (grownBy_putObj' A D _) (fun r e => by cases e; exact ⟨by have := HS2.out; omega, hnf⟩)⟩⟩
  case stop =>
    rintro D c pre Fp A hSp hD ⟨rfl, hjx⟩ hnf hK
    gi_wp2
    refine ⟨by simp, .inl ⟨_, _, rfl, run_takeDeferred hK, ?_⟩⟩
    exact ⟨_, results_none rfl _ _ _, ⟨_, rfl⟩, .inr ⟨pre, Fp, hSp, HJX.out _ _ _ _ (some D) hjx (by have := HS2.out; have := (Array.getElem?_eq_some_iff.1 hK).1; omega) (grownBy_putObj' A D _) (fun r e => by cases e; exact ⟨by have := HS2.out; omega, hnf⟩)⟩⟩

theorem preL_pre {ss : List Sess} {b : Int} : preL ss b = match firstL ss b with
    | none => []
    | some p => Vt.pre (kidsF ss) (ss.length + 1) 0 [p] := by
  unfold preL
  cases h : firstL ss b with
  | none => rfl
  | some p => exact Vt.ord_blk _ _ p (firstL_lt h)
theorem pre_close {ss : List Sess} (hl : ss.length ≤ 65536) {w w1 W' : World} {qd qv : Option Addr} {cd cv g : Nat} {vs : Nat → Value} {ls : List Nat} {P : List (Nat × Nat)} (hP : P = Vt.pre (kidsF ss) (ss.length + 1) 0 ls) (hls : ∀ i ∈ ls, i < ss.length) (hll : ls.length ≤ 1)
    (hrd : ∀ W : World, (∀ x, w.heap.size ≤ x → x < w1.heap.size → x < W.heap.size ∧ W.heap[x]? = w1.heap[x]?) → FW ss (.slice qd ss.length cd) g vs W) (hw1 : w.heap.size ≤ w1.heap.size) (h13 : ∀ x, x < w1.heap.size → W'.heap[x]? = w1.heap[x]?) (hsz : w1.heap.size + 2 ≤ W'.heap.size)
    (hbf : W'.heap[w1.heap.size]? = some (.cells #[.slice qd ss.length cd, .slice (some ⟨g, 0, none⟩) (ss.length + 1) (ss.length + 1)] 77 (0, 0))) (hbk : W'.heap[w1.heap.size + 1]? = some (.cells #[.slice qv ls.length cv] 82 (0, 0)))
    (hv : ∀ W : World, (∀ x, w.heap.size ≤ x → x < W'.heap.size → x < W.heap.size ∧ W.heap[x]? = W'.heap[x]?) → In.IntArg W (.slice qv ls.length cv) (ints ls)) (n : Nat) :
    Fo.SeqF Fence.wide n Tryz.prog 92 #[.pointer (some ⟨w1.heap.size, 0, none⟩), .pointer (some ⟨w1.heap.size + 1, 0, none⟩)] (encP ss) (fun ys => ys = P) (fun p => p <+: P) (fun x => w.heap.size ≤ x ∧ x < W'.heap.size) W' := by
  subst hP
  refine pre1_seq n ss hl qd qv cd cv g vs w1.heap.size (w1.heap.size + 1) ls (by omega) hls _ W' (fun W hW => ?_)
  have hfw := hrd W (fun x h2 h3 => by
    have h4 := hW x ⟨h2, by omega⟩
    exact ⟨h4.1, h4.2.trans (h13 x h3)⟩)
  have h5 := hW w1.heap.size ⟨hw1, by omega⟩
  have h6 := hW (w1.heap.size + 1) ⟨by omega, by omega⟩
  exact ⟨hfw, by rw [block_cell (h5.2.trans hbf)]; rfl, by rw [block_cell (h5.2.trans hbf)]; rfl, by rw [block_cell (h6.2.trans hbk)]; rfl, hv W (fun x h2 h3 => hW x ⟨h2, h3⟩)⟩

set_option maxRecDepth 100000 in
set_option maxHeartbeats 4000000 in
theorem vpre_any (v : Value) (ss : List Sess) (hl : ss.length ≤ 65536) (hwf : ∀ s ∈ ss, (Lit.int .i64 s.birth).wf = true ∧ (Lit.int .i64 s.ub).wf = true) (b : Int) (w : World) (h1 : SessArg w v ss) :
    Calls Tryz.prog 53 #[v, .int .i64 b] w fun e w' => (∃ bf bq, e = .returned (.func (.func 92) #[] #[.pointer (some ⟨bf, 0, none⟩), .pointer (some ⟨bq, 0, none⟩)]) ∧
      ∀ n, Fo.SeqF Fence.wide n Tryz.prog 92 #[.pointer (some ⟨bf, 0, none⟩), .pointer (some ⟨bq, 0, none⟩)] (encP ss) (fun ys => ys = preL ss b) (fun p => p <+: preL ss b) (fun x => w.heap.size ≤ x ∧ x < w'.heap.size) w') ∧ Below w.heap.size w w' := by
  have HG := Lib.hid (grow_any v ss hl hwf w h1)
  have hlI : (ss.length : Int) ≤ 9223372036854775807 := by omega
  clear h1 hwf
  go_enter Tryz.func53, Tryz.ntmps53
  go_wp2_with fail
  refine HG.out.mono ?_
  rintro e w1 ⟨⟨L, F, bm, g, d, rfl, hgr⟩, hb1⟩
  obtain ⟨qd, cd, rfl, -⟩ := own_any_shape hgr.clone
  obtain ⟨vs, hsh, hrd⟩ := hgr.reads
  have HRD := Lib.hid hrd; have HB1 := Lib.hid hb1
  obtain ⟨W2, hW2⟩ : ∃ W2, W2 = (w1.alloc (.cells #[.slice qd ss.length cd, .slice (some ⟨g, 0, none⟩) (ss.length + 1) (ss.length + 1)] 77)).alloc (.cells #[.slice none 0 0] 82) := ⟨_, rfl⟩
  have hb2 : Below w1.heap.size w1 W2 := by rw [hW2]; exact ((Below.refl _ _).alloc (Nat.le_refl _) _).alloc (by simp) _
  have HB2 := Lib.hid hb2
  have hs2 : W2.heap.size = w1.heap.size + 2 := by rw [hW2, World.size_alloc, World.size_alloc]
  have HS2 := Lib.hid hs2
  have HF : Hid (SessArg W2 (.slice qd ss.length cd) ss) := (hrd W2 (fun x h2 h3 => ⟨by omega, hb2.block x h3⟩)).sess
  have HFI := Lib.hid (vfirst_any (.slice qd ss.length cd) (.slice (some ⟨g, 0, none⟩) (ss.length + 1) (ss.length + 1)) ss hlI b W2 HF.out rfl rfl)
  have hbf : W2.heap[w1.heap.size]? = some (.cells #[.slice qd ss.length cd, .slice (some ⟨g, 0, none⟩) (ss.length + 1) (ss.length + 1)] 77 (0, 0)) := by rw [hW2, al_old (by simp)]; exact Ut.alloc_at _ _
  have hbk : W2.heap[w1.heap.size + 1]? = some (.cells #[.slice none 0 0] 82 (0, 0)) := by
    rw [hW2]
    have := Ut.alloc_at (w1.alloc (.cells #[.slice qd ss.length cd, .slice (some ⟨g, 0, none⟩) (ss.length + 1) (ss.length + 1)] 77)) (.cells #[.slice none 0 0] 82)
    rwa [World.size_alloc] at this
  have HBF := Lib.hid hbf; have HBK := Lib.hid hbk
  clear hgr hb1 hrd hsh hb2 hs2 hbf hbk
  go_wp2_with fail
  rw [← hW2]
  clear hW2
  refine HFI.out.mono ?_
  rintro e w3 ⟨rfl, hb3⟩
  have hs3 := hb3.size
  have hbf3 := (hb3.block w1.heap.size (by have := HS2.out; omega)).trans HBF.out
  have hbk3 := (hb3.block (w1.heap.size + 1) (by have := HS2.out; omega)).trans HBK.out
  have h13 : ∀ x, x < w1.heap.size → w3.heap[x]? = w1.heap[x]? := fun x hx => (hb3.block x (by have := HS2.out; omega)).trans (HB2.out.block x hx)
  have ck0 : w3.cell? ⟨w1.heap.size + 1, 0, none⟩ = some (.slice none 0 0) := by rw [block_cell hbk3]; rfl
  have fk0 : w3.frozen? ⟨w1.heap.size + 1, 0, none⟩ = false := block_free hbk3 0
  have HBW : Hid (Below w.heap.size w w3) := HB1.out.trans ((HB2.out.trans (hb3.mono HB2.out.size)).mono HB1.out.size)
  have HS3 : Hid (w1.heap.size + 2 ≤ w3.heap.size) := by have := HS2.out; show _ ≤ _; omega
  have HW1 := Lib.hid HB1.out.size; have HBF3 := Lib.hid hbf3; have HBK3 := Lib.hid hbk3; have H13 := Lib.hid h13
  clear hb3 hs3 hbf3 hbk3 h13
  cases hf : firstL ss b with
  | none =>
    have e1 : firstI ss b = -1 := by unfold firstI; rw [hf]
    have HP : Hid (preL ss b = Vt.pre (kidsF ss) (ss.length + 1) 0 []) := by show _ = _; rw [preL_pre, hf, Vt.pre_nil]
    rw [e1]
    clear e1 hf
    go_wp2
    go_ret
    exact ⟨⟨_, _, rfl, fun n => pre_close (ls := []) hl HP.out (fun i hi => by cases hi) (by simp) HRD.out HW1.out H13.out HS3.out HBF3.out HBK3.out (fun W _ => ⟨none, 0, rfl, fun j hj => absurd hj (Nat.not_lt_zero _)⟩) n⟩, HBW.out⟩
  | some p =>
    have e1 : firstI ss b = (p : Int) := by unfold firstI; rw [hf]
    have HPN := Lib.hid (firstL_lt hf)
    have HP : Hid (preL ss b = Vt.pre (kidsF ss) (ss.length + 1) 0 [p]) := by show _ = _; rw [preL_pre, hf]
    have i0 : (0 : Int) ≤ (p : Int) := by omega
    rw [e1]
    clear e1 hf
    have ckA : ∀ o, (w3.alloc o).cell? ⟨w1.heap.size + 1, 0, none⟩ = some (.slice none 0 0) := fun o => by rw [block_cell ((al_old (by have := HS3.out; omega)).trans HBK3.out)]; rfl
    have fkA : ∀ o, (w3.alloc o).frozen? ⟨w1.heap.size + 1, 0, none⟩ = false := fun o => block_free ((al_old (by have := HS3.out; omega)).trans HBK3.out) 0
    clear ck0 fk0
    go_wp2
    go_ret
    have hin : ∀ o (v : Value), ((w3.alloc o).setCell ⟨w1.heap.size + 1, 0, none⟩ v).heap.size = w3.heap.size + 1 := fun o v => by rw [World.size_setCell, World.size_alloc]
    have hold : ∀ o (v : Value) x, x < w3.heap.size → x ≠ w1.heap.size + 1 → ((w3.alloc o).setCell ⟨w1.heap.size + 1, 0, none⟩ v).heap[x]? = w3.heap[x]? := fun o v x hx hne => (Below.heap_setCell _ _ _ _ hne).trans (al_old hx)
    have hnew : ∀ o (v : Value), ((w3.alloc o).setCell ⟨w1.heap.size + 1, 0, none⟩ v).heap[w3.heap.size]? = (w3.alloc o).heap[w3.heap.size]? := fun o v => Below.heap_setCell _ _ _ _ (Nat.ne_of_gt HS3.out)
    have hset : ∀ o (v : Value), ((w3.alloc o).setCell ⟨w1.heap.size + 1, 0, none⟩ v).heap[w1.heap.size + 1]? = some (.cells #[v] 82 (0, 0)) := fun o v => by
      rw [heap_setCell_same _ _ _ _ _ v ((al_old (by have := HS3.out; omega)).trans HBK3.out)]; rfl
    refine ⟨⟨_, _, rfl, fun n => pre_close (ls := [p]) hl HP.out (fun i hi => by have := HPN.out; rw [List.mem_singleton.1 hi]; exact this) (by simp) HRD.out HW1.out (fun x hx => (hold _ _ x (Nat.lt_of_lt_of_le hx (Nat.le_trans (Nat.le_add_right _ 2) HS3.out)) (Nat.ne_of_lt (Nat.lt_succ_of_lt hx))).trans (H13.out x hx)) (by rw [hin]; exact Nat.le_trans HS3.out (Nat.le_succ _)) ((hold _ _ _ (Nat.lt_of_lt_of_le (Nat.lt_add_of_pos_right (by decide)) HS3.out) (Nat.ne_of_lt (Nat.lt_succ_self _))).trans HBF3.out) (hset _ _) (fun W hW => ?_) n⟩, ?_⟩
    · have h9 := hW w3.heap.size HBW.out.size (by rw [hin]; exact Nat.lt_succ_self _)
      have h10 := (h9.2.trans (hnew _ _)).trans (Ut.alloc_at _ _)
      refine ⟨_, 1, rfl, fun j hj => ⟨_, 0, rfl, h9.1, ?_⟩⟩
      have hj0 : j = 0 := Nat.lt_one_iff.1 hj
      subst hj0
      rw [block_cell h10]; rfl
    · exact (HBW.out.alloc HBW.out.size _).setCell (by have := HW1.out; show w.heap.size ≤ w1.heap.size + 1; omega) _
end Vw
end Go.Proofs.YtocoonkachbjaaaGreatDoor

/- The law's own pre: what an iterator of numbers and sessions hands out, at most so many (printed by wip/mklpre.py). -/
namespace Go.Proofs.YtocoonkachbjaaaGreatDoor
open Go.RowKit
set_option linter.unusedVariables false
namespace Vw
attribute [local go_sem] Oper.semAt_some

theorem own_block_type {W : World} {base e size n b : Nat} {v : Value} {xs : List Value} (h : W.ownsRow base e size v n xs) (hb : v.ownBlock = some b) : ∃ cur, W.heap[b]? = some (.cells cur e (0, 0)) := by
  rcases h.2 with ⟨rfl, _⟩ | ⟨g, c, cur, rfl, _, h2, _⟩
  · cases hb
  · cases hb; exact ⟨cur, h2⟩
/-- One list in its box has grown. -/
theorem push_box {A w1 : World} {o1 : Obj} {t e : TypeId} {size n m base b1 : Nat} {d v' : Value} {xs ys : List Value} (h1 : Boxed A b1 t d) (hb : b1 < base) (h2 : A.ownsRow base e size d n xs)
    (hown' : w1.ownsRow base e size v' m ys) (hgrow : (A.alloc o1).grownBy w1 d.ownBlock) (hat : v'.ownBlock = d.ownBlock ∨ v'.ownBlock = some (A.alloc o1).heap.size) :
    Boxed w1 b1 t d ∧ Boxed (w1.setCell ⟨b1, 0, none⟩ v') b1 t v' ∧ (w1.setCell ⟨b1, 0, none⟩ v').ownsRow base e size v' m ys ∧ Only (fun b => b = b1 ∨ d.ownBlock = some b) A (w1.setCell ⟨b1, 0, none⟩ v') ∧ ∀ b, v'.ownBlock = some b → d.ownBlock = some b ∨ A.heap.size ≤ b := by
  have hlt := h1.lt
  have hnb : ∀ b, d.ownBlock = some b → base ≤ b := fun b e => (h2.lt b e).1
  have ho : Only (fun b => b = b1 ∨ d.ownBlock = some b) A w1 := ((Only.refl _ A).alloc o1).grown hgrow (fun k hk e => .inr e)
  have hb1 : Boxed w1 b1 t d := (h1.alloc o1).kept hgrow (fun e => by have := hnb _ e.symm; omega)
  refine ⟨hb1, hb1.set v', own_keep hown' (fun b e => Below.heap_setCell _ _ _ _ ?_), ho.setCell (fun _ => .inl rfl) _, fun b e => ?_⟩
  · have := (hown'.lt b e).1
    show b ≠ b1
    omega
  · rcases hat with h | h
    · exact .inl (h.symm.trans e)
    · have e2 : b = (A.alloc o1).heap.size := Option.some.inj (e.symm.trans h)
      exact .inr (by rw [e2]; simp)

def farsL (l : List (Nat × Nat)) : List Value := l.map fun x => .int .i64 (x.1 : Int)
def sesL (ss : List Sess) (l : List (Nat × Nat)) : List Value := csL ss (l.map Prod.snd)
theorem farsL_snoc (l : List (Nat × Nat)) (x : Nat × Nat) : farsL (l ++ [x]) = farsL l ++ [.int .i64 (x.1 : Int)] := by simp [farsL]
theorem sesL_snoc (ss : List Sess) (l : List (Nat × Nat)) (x : Nat × Nat) : sesL ss (l ++ [x]) = sesL ss l ++ csAt ss x.2 := by simp [sesL, csL, List.flatMap_append]
/-- Both lists, as far as they have come, in their boxes. -/
structure PU (ss : List Sess) (m B : Nat) (w : World) (d1 d2 : Value) (pre : List (Nat × Nat)) (Fp : Nat → Prop) (A : World) : Prop where
  b1 : Boxed A (B + 1) 82 d1
  b2 : Boxed A (B + 2) 42 d2
  r1 : A.ownsRow (B + 3) 3 1 d1 pre.length (farsL pre)
  r2 : A.ownsRow (B + 3) 30 12 d2 pre.length (sesL ss pre)
  le : pre.length ≤ m
  fp : ∀ b, Fp b ↔ (b = B + 1 ∨ d1.ownBlock = some b) ∨ (b = B + 2 ∨ d2.ownBlock = some b)
  mst : A.cell? ⟨B, 0, none⟩ = some (.int .i64 m)
  bel : Below B w A
theorem PU.far {ss : List Sess} {m B : Nat} {w A : World} {d1 d2 : Value} {pre : List (Nat × Nat)} {Fp : Nat → Prop} (h : PU ss m B w d1 d2 pre Fp A) {b : Nat} (hb : Fp b) : B + 1 ≤ b := by
  rcases (h.fp b).1 hb with (h1 | h1) | (h1 | h1)
  · omega
  · have := (h.r1.lt b h1).1; omega
  · omega
  · have := (h.r2.lt b h1).1; omega
theorem PU.turn {ss : List Sess} {m B : Nat} {w A A' : World} {d1 d2 : Value} {pre : List (Nat × Nat)} {Fp : Nat → Prop} {row : Option Nat} (h : PU ss m B w d1 d2 pre Fp A) (hg : A.grownBy A' row) (hrow : ∀ r, row = some r → B + 3 ≤ r ∧ ¬ Fp r) : PU ss m B w d1 d2 pre Fp A' := by
  have hne : ∀ b, b < B + 3 → some b ≠ row := fun b hb e => by have := (hrow b e.symm).1; omega
  have hlt := h.b1.lt
  exact ⟨h.b1.kept hg (hne _ (by omega)), h.b2.kept hg (hne _ (by omega)), own_keep h.r1 (fun b e => hg.block b (h.r1.lt b e).2 (fun e2 => (hrow b e2.symm).2 ((h.fp b).2 (.inl (.inr e))))), own_keep h.r2 (fun b e => hg.block b (h.r2.lt b e).2 (fun e2 => (hrow b e2.symm).2 ((h.fp b).2 (.inr (.inr e))))), h.le, h.fp,
    (World.cell?_of_block (w := A) (a := ⟨B, 0, none⟩) (hg.block B (by omega) (hne _ (by omega)))).trans h.mst, h.bel.grown hg (by omega) (fun k e => by have := (hrow k e).1; omega)⟩
theorem PU.fin {ss : List Sess} {m B : Nat} {w A A' : World} {d1 d2 : Value} {pre : List (Nat × Nat)} {Fp : Nat → Prop} {row : Option Nat} (h : PU ss m B w d1 d2 pre Fp A) (hg : A.grownBy A' row) (hrow : ∀ r, row = some r → B + 3 ≤ r ∧ ¬ Fp r) :
    A'.ownsRow B 3 1 d1 pre.length (farsL pre) ∧ A'.ownsRow B 30 12 d2 pre.length (sesL ss pre) ∧ Below B w A' := by
  have h2 := h.turn hg hrow
  exact ⟨Ut.own_base h2.r1 (Nat.le_add_right _ 3), Ut.own_base h2.r2 (Nat.le_add_right _ 3), h2.bel⟩
/-- Behind the first append. -/
theorem PU.first {ss : List Sess} {m B : Nat} {w A w1 : World} {d1 d2 v1 : Value} {pre : List (Nat × Nat)} {Fp : Nat → Prop} {o1 : Obj} {ys : List Value} {k b : Nat} {cs : List Value} (h : PU ss m B w d1 d2 pre Fp A)
    (hbb : A.heap[b]? = some (.cells cs.toArray 30 (0, 0))) (hbB : B + 3 ≤ b)
    (hown' : w1.ownsRow (B + 3) 3 1 v1 k ys) (hgrow : (A.alloc o1).grownBy w1 d1.ownBlock) (hat : v1.ownBlock = d1.ownBlock ∨ v1.ownBlock = some (A.alloc o1).heap.size) :
    Boxed w1 (B + 1) 82 d1 ∧ ∀ w2, w2 = w1.setCell ⟨B + 1, 0, none⟩ v1 → Boxed w2 (B + 1) 82 v1 ∧ w2.ownsRow (B + 3) 3 1 v1 k ys ∧ Only (fun b => b = B + 1 ∨ d1.ownBlock = some b) A w2 ∧ (∀ b, v1.ownBlock = some b → d1.ownBlock = some b ∨ A.heap.size ≤ b) ∧ Boxed w2 (B + 2) 42 d2 ∧ w2.ownsRow (B + 3) 30 12 d2 pre.length (sesL ss pre) ∧ w2.heap[b]? = some (.cells cs.toArray 30 (0, 0)) ∧ B + 3 ≤ w2.heap.size := by
  obtain ⟨h1, h2, h3, h4, h5⟩ := push_box h.b1 (by omega) h.r1 hown' hgrow hat
  refine ⟨h1, ?_⟩
  rintro w2 rfl
  have hlt2 := h.b2.lt
  have hty : ∀ c, d1.ownBlock = some c → ∀ (cur : Array Value), A.heap[c]? ≠ some (.cells cur 30 (0, 0)) := fun c hc cur e => by
    obtain ⟨cur2, e2⟩ := own_block_type h.r1 hc
    rw [e] at e2
    simp at e2
  refine ⟨h2, h3, h4, h5, (h4.block _ hlt2 ?_).trans h.b2, h4.row h.r2 ?_, (h4.block b (Array.getElem?_eq_some_iff.1 hbb).1 ?_).trans hbb, by have := h4.size; omega⟩
  · rintro (h6 | h6)
    · omega
    · have := (h.r1.lt _ h6).1; omega
  · rintro c hc (h6 | h6)
    · have := (h.r2.lt c hc).1; omega
    · obtain ⟨cur, e⟩ := own_block_type h.r2 hc
      exact hty c h6 cur e
  · rintro (h6 | h6)
    · omega
    · exact hty b h6 _ hbb
/-- Behind both. -/
theorem PU.push {ss : List Sess} {m B : Nat} {w A w2 w3 : World} {d1 d2 v1 v2 : Value} {pre : List (Nat × Nat)} {x : Nat × Nat} {Fp : Nat → Prop} {o2 : Obj} (h : PU ss m B w d1 d2 pre Fp A) (hm : pre.length < m)
    (g1 : Boxed w2 (B + 1) 82 v1) (g2 : w2.ownsRow (B + 3) 3 1 v1 (pre.length + 1) (farsL pre ++ [.int .i64 (x.1 : Int)])) (g3 : Only (fun b => b = B + 1 ∨ d1.ownBlock = some b) A w2) (g4 : ∀ b, v1.ownBlock = some b → d1.ownBlock = some b ∨ A.heap.size ≤ b) (g5 : Boxed w2 (B + 2) 42 d2) (g6 : w2.ownsRow (B + 3) 30 12 d2 pre.length (sesL ss pre))
    (hown' : w3.ownsRow (B + 3) 30 12 v2 (pre.length + 1) (sesL ss pre ++ csAt ss x.2)) (hgrow : (w2.alloc o2).grownBy w3 d2.ownBlock) (hat : v2.ownBlock = d2.ownBlock ∨ v2.ownBlock = some (w2.alloc o2).heap.size) :
    Boxed w3 (B + 2) 42 d2 ∧ ∃ Fp', PU ss m B w v1 v2 (pre ++ [x]) Fp' (w3.setCell ⟨B + 2, 0, none⟩ v2) ∧ Only Fp A (w3.setCell ⟨B + 2, 0, none⟩ v2) ∧ ∀ b, Fp' b → Fp b ∨ A.heap.size ≤ b := by
  obtain ⟨h1, h2, h3, h4, h5⟩ := push_box g5 (by omega) g6 hown' hgrow hat
  have hlt := h.b2.lt
  have hd2 : ∀ b, d2.ownBlock = some b → B + 3 ≤ b := fun b e => (g6.lt b e).1
  have ho : Only Fp A (w3.setCell ⟨B + 2, 0, none⟩ v2) := (g3.mono (fun i _ hi => (h.fp i).2 (.inl hi))).trans h4 (fun i _ hi => (h.fp i).2 (.inr hi))
  have hl : (pre ++ [x]).length = pre.length + 1 := by simp
  refine ⟨h1, fun b => (b = B + 1 ∨ v1.ownBlock = some b) ∨ (b = B + 2 ∨ v2.ownBlock = some b), ⟨(h4.block _ g1.lt ?_).trans g1, h2, ?_, ?_, by rw [hl]; omega, fun b => Iff.rfl, ?_, ?_⟩, ho, ?_⟩
  · rintro (h6 | h6)
    · omega
    · have := hd2 _ h6; omega
  · rw [hl, farsL_snoc]
    refine h4.row g2 ?_
    rintro c hc (h6 | h6)
    · have := (g2.lt c hc).1; omega
    · obtain ⟨cur, e⟩ := own_block_type g2 hc
      obtain ⟨cur2, e2⟩ := own_block_type g6 h6
      rw [e] at e2
      simp at e2
  · rw [hl, sesL_snoc]; exact h3
  · exact (World.cell?_of_block (w := A) (a := ⟨B, 0, none⟩) (ho.block B (by omega) (fun hf => by have := h.far hf; omega))).trans h.mst
  · exact h.bel.trans (ho.below (by omega) (fun i hi hf => by have := h.far hf; omega))
  · rintro b ((h6 | h6) | (h6 | h6))
    · exact .inl ((h.fp b).2 (.inl (.inl h6)))
    · exact (g4 b h6).imp (fun h7 => (h.fp b).2 (.inl (.inr h7))) id
    · exact .inl ((h.fp b).2 (.inr (.inl h6)))
    · exact (h5 b h6).imp (fun h7 => (h.fp b).2 (.inr (.inr h7))) (fun h7 => Nat.le_trans g3.size h7)
theorem first_box {w1 : World} {B : Nat} {v1 d2 : Value} {t : TypeId} (h : Boxed (w1.setCell ⟨B + 1, 0, none⟩ v1) (B + 2) t d2) : w1.cell? ⟨B + 2, 0, none⟩ = some d2 := by
  have h1 : w1.heap[B + 2]? = some (.cells #[d2] t (0, 0)) := (Below.heap_setCell _ _ _ _ (by show B + 2 ≠ B + 1; omega)).symm.trans h
  rw [block_cell h1]; rfl
theorem box_range {W : World} {b : Nat} {cs : List Value} {t : TypeId} (h : W.heap[b]? = some (.cells cs.toArray t (0, 0))) : W.rangeAt b 0 cs := fun j u hu => by rw [Nat.zero_add, block_cell h]; simpa using hu

set_option maxRecDepth 100000 in
set_option maxHeartbeats 4000000 in
theorem lpre_any (ss : List Sess) (hl : ss.length ≤ 65536) (L : List (Nat × Nat)) (hL : ∀ x ∈ L, x.2 < ss.length) (bf bq : Nat) (C : Nat → Prop) (m : Nat) (hm : m ≤ 65536) (w0 w : World) (hC : ∀ b, C b → b < w.heap.size ∧ w.heap[b]? = w0.heap[b]?)
    (hseq : ∀ n, Fo.SeqF Fence.wide n Tryz.prog 92 #[.pointer (some ⟨bf, 0, none⟩), .pointer (some ⟨bq, 0, none⟩)] (encP ss) (fun ys => ys = L) (fun p => p <+: L) C w0) :
    Calls Tryz.prog 52 #[.func (.func 92) #[] #[.pointer (some ⟨bf, 0, none⟩), .pointer (some ⟨bq, 0, none⟩)], .int .i64 m] w fun e w' => (∃ d1 d2, e = .returned (.tuple #[d1, d2]) ∧ w'.ownsRow w.heap.size 3 1 d1 (L.take m).length (farsL (L.take m)) ∧ w'.ownsRow w.heap.size 30 12 d2 (L.take m).length (sesL ss (L.take m))) ∧ Below w.heap.size w w' := by
  obtain ⟨i0, hi, hz0, hz1, hz2⟩ := info_parts vinfo_sess
  obtain ⟨j0, hj, hy0, hy1, hy2⟩ := info_parts vinfo_int
  have HSEQ := Lib.hid (hseq 8); have HC := Lib.hid hC; have HL := Lib.hid hL
  clear hseq hC hL
  have mI : (m : Int) ≤ 65536 := by omega
  refine (callsIn_wide (n := 9)).1 ?_
  refine callsIn_of_wp_marks Tryz.func52 rfl trivial ?_ rfl
  simp only [Tryz.ntmps52, List.size_toArray, List.length_cons, List.length_nil, Nat.reduceAdd, Nat.reduceSub, Array.replicate_succ, Array.replicate_zero, List.push_toArray, List.append_toArray, List.nil_append, List.cons_append]
  refine wpIn_wide.2 ?_
  go_wp2_with fail
  obtain ⟨W2, hW2⟩ : ∃ W2, W2 = ((w.alloc (.cells #[.int .i64 m] 3)).alloc (.cells #[.slice none 0 0] 82)).alloc (.cells #[.slice none 0 0] 42) := ⟨_, rfl⟩
  have hs2 : W2.heap.size = w.heap.size + 3 := by rw [hW2, World.size_alloc, World.size_alloc, World.size_alloc]
  have hb2 : Below w.heap.size w W2 := by rw [hW2]; exact (((Below.refl _ _).alloc (Nat.le_refl _) _).alloc (by simp) _).alloc (by simp; omega) _
  have hU0 : PU ss m w.heap.size w (.slice none 0 0) (.slice none 0 0) [] (fun b => b = w.heap.size + 1 ∨ b = w.heap.size + 2) W2 := by
    refine ⟨?_, ?_, World.ownsRow_nil _ _ _ _, World.ownsRow_nil _ _ _ _, Nat.zero_le _, fun b => ⟨fun h => h.imp .inl .inl, fun h => h.imp (fun h => h.elim id (fun h => by cases h)) (fun h => h.elim id (fun h => by cases h))⟩, ?_, hb2⟩
    · rw [hW2]
      have := (Boxed.new (w.alloc (.cells #[.int .i64 m] 3)) 82 (.slice none 0 0)).alloc (.cells #[.slice none 0 0] 42)
      rwa [World.size_alloc] at this
    · rw [hW2]
      have := Boxed.new ((w.alloc (.cells #[.int .i64 m] 3)).alloc (.cells #[.slice none 0 0] 82)) 42 (.slice none 0 0)
      rwa [World.size_alloc, World.size_alloc] at this
    · rw [hW2]
      exact (((Boxed.new w 3 (.int .i64 m)).alloc _).alloc _).cell
  rw [← hW2]
  have HS2 := Lib.hid hs2; have HU0 := Lib.hid hU0; have HB2 := Lib.hid hb2
  clear hs2 hU0 hb2 hW2
  refine (wpIn_wide (n := 9)).1 ?_
  refine Fo.range_foot_new (F := Fence.wide) (n := 9) rfl (by omega) (gf := 92) (lb := #[.pointer (some ⟨bf, 0, none⟩), .pointer (some ⟨bq, 0, none⟩)]) rfl trivial (enters_of Tryz.func92 (by kernel_rfl) rfl)
    HSEQ.out (fun _ => rfl) (fun b hb => ⟨by have := (HC.out b hb).1; have := HS2.out; omega, (HB2.out.block b (HC.out b hb).1).trans (HC.out b hb).2⟩)
    (fun pre Fp A => ∃ d1 d2, PU ss m w.heap.size w d1 d2 pre Fp A) (fun c pre Fp A => c = .exit 0 ∧ ∃ ini x, pre = ini ++ [x] ∧ ini.length = m ∧ ∃ d1 d2, PU ss m w.heap.size w d1 d2 ini Fp A) (fun b => b = w.heap.size + 1 ∨ b = w.heap.size + 2) (fun b hb => ⟨by have := HS2.out; omega, fun h => by have := (HC.out b h).1; omega⟩)
    ?hU ?hUx ⟨_, _, HU0.out⟩
    (fun x b => { tmps := #[.func (.func 92) #[] #[.pointer (some ⟨bf, 0, none⟩), .pointer (some ⟨bq, 0, none⟩)], .int .i64 m, undef, .pointer (some ⟨w.heap.size, 0, none⟩), .slice none 0 0, .slice none 0 0, .pointer (some ⟨w.heap.size + 1, 0, none⟩), .pointer (some ⟨w.heap.size + 2, 0, none⟩), .int .i64 (x.1 : Int), .pointer (some ⟨b, 0, none⟩), .func (.func 92) #[] #[.pointer (some ⟨bf, 0, none⟩), .pointer (some ⟨bq, 0, none⟩)], .int .i64 (x.1 : Int), .agg (csAt ss x.2).toArray, undef, undef, undef, undef, undef, undef, undef, undef, undef, undef, undef, undef, undef, undef], defers := [] })
    (fun x => .cells (csAt ss x.2).toArray 30)
    ?assign ?body ?done ?stop
  case hU =>
    rintro pre Fp A A' row ⟨d1, d2, h1⟩ hsz hg hrow
    exact ⟨d1, d2, h1.turn hg (fun r e => ⟨by have := (hrow r e).1; have := HS2.out; omega, (hrow r e).2⟩)⟩
  case hUx =>
    rintro c pre Fp A A' row ⟨rfl, ini, x, h0, h1, d1, d2, h2⟩ hsz hg hrow
    exact ⟨rfl, ini, x, h0, h1, d1, d2, h2.turn hg (fun r e => ⟨by have := (hrow r e).1; have := HS2.out; omega, (hrow r e).2⟩)⟩
  case assign =>
    rintro l2 x A K ⟨pre, hpre⟩ hK
    have hin : x.2 < ss.length := HL.out x (hpre.subset (by simp))
    unfold encP
    obtain ⟨cs, hcs⟩ : ∃ cs, cs = csAt ss x.2 := ⟨_, rfl⟩
    have HCL : Hid (cs.length = 12) := by show _ = _; rw [hcs]; exact cs_len hin
    have HC1 : Hid (∀ u ∈ cs, u.oneCell' = true) := by show ∀ _, _; rw [hcs, csAt_at hin]; exact ss[x.2].one
    rw [← hcs] at hK ⊢
    clear hcs hin hpre
    gi_wp2_with (refine Ag.wpListIn_store_new (by rfl) 30 (.tmp 9) (.tmp 12) (by rfl) cs (by rfl) (by rfl) (by rw [HCL.out]; kernel_rfl) (by rw [HCL.out]; rfl) HC1.out ?_)
    exact hK
  case body =>
    intro l2 pre x Fp b A hu hszA hpre hold hbA hbb
    have hin : x.2 < ss.length := HL.out x (hpre.subset (by simp))
    obtain ⟨d1, d2, hu⟩ := hu
    obtain ⟨q1, r1, rfl, -⟩ := own_any_shape hu.r1
    obtain ⟨q2, r2, rfl, -⟩ := own_any_shape hu.r2
    have hc1 := hu.b1.cell
    have hc2 := hu.b2.cell
    have hmst := hu.mst
    have h3 := hu.le
    have hbB : w.heap.size + 3 ≤ b := by
      obtain ⟨A0, -, h7, h8⟩ := hold
      have := HS2.out; omega
    obtain ⟨cs, hcs⟩ : ∃ cs, cs = csAt ss x.2 := ⟨_, rfl⟩
    have HCL : Hid (cs.length = 12) := by show _ = _; rw [hcs]; exact cs_len hin
    have HC1 : Hid (∀ u ∈ cs, u.oneCell' = true) := by show ∀ _, _; rw [hcs, csAt_at hin]; exact ss[x.2].one
    rw [← hcs] at hbb ⊢
    have HU := Lib.hid hu
    have HP1 := Lib.hid (fun (v1 : Value) (w1 : World) (o1 : Obj) (ys : List Value) (k : Nat) => PU.first (v1 := v1) (w1 := w1) (o1 := o1) (ys := ys) (k := k) hu hbb hbB)
    have HP2 := Lib.hid (fun (hm : pre.length < m) (v1 v2 : Value) (w2 w3 : World) (o2 : Obj) => PU.push (x := x) (v1 := v1) (v2 := v2) (w2 := w2) (w3 := w3) (o2 := o2) hu hm)
    rw [← hcs] at HP2
    have HSZ := Lib.hid hszA
    obtain ⟨K, hK⟩ : ∃ K, K = pre.length := ⟨_, rfl⟩
    have HK := Lib.hid hK
    have hr1 := hu.r1
    rw [← hK] at hc1 hc2 h3 HP1 HP2 hr1
    have H1K := Lib.hid hr1
    clear hu hbb hcs hin hszA hold hbB hr1
    by_cases hm2 : K < m
    · have b1 : (K : Int) < (m : Int) := by omega
      have am1 : K + 1 ≤ maxLen := by unfold maxLen; omega
      have am2 : (K + 1) * 112 ≤ 140737488355328 := by omega
      have am3 : (K + 1) * 8 ≤ 140737488355328 := by omega
      have k3 : w.heap.size + 3 ≤ (A.alloc (.cells #[.int .i64 (x.1 : Int)] 3)).heap.size := by have := HSZ.out; have := HS2.out; simp; omega
      have HP3 := Lib.hid (HP2.out hm2)
      have hd : decide (m ≤ K) = false := decide_eq_false (by omega)
      clear hm2 hK h3 HP2
      gi_wp2_with (first
        | (refine Ag.wpListIn_load (by rfl) 30 _ (by rfl) _ _ (by rfl) cs _ HRG.out Tryz.underlying30 rfl (by rw [HCL.out]; kernel_rfl) ?_)
        | (refine Ag.wpListIn_one (by rfl) 42 30 _ (by rfl) cs (by rfl) i0 _ Tryz.underlying42 hi hz0 (by rw [hz1]; exact HCL.out) (by rw [hz1]; decide) (by rw [hz1]; decide) ?_)
        | (gi_at_builtin; (refine wpListIn_append_own_at _ rfl _ _ 82 rfl (w.heap.size + 3) 3 j0 (.int .i64 0) 1 8 Tryz.underlying82 hj hy0 hy1 hy2 rfl (by decide) _ _ _ rfl (H1K.out.alloc _) ⟨A.heap.size, 0, none⟩ 1 1 [.int .i64 (x.1 : Int)] rfl rfl (World.news_of_block (Ut.alloc_at _ _)) (by intro u hu; rw [List.mem_singleton.1 hu]; rfl) am1 am3 k3 ?_); (intro v1 w1 hown' hgrow hnil hat; obtain ⟨q', r', rfl, -⟩ := own_any_shape hown'; obtain ⟨hb1, hn1⟩ := HP1.out _ _ _ _ _ hown' hgrow hat; (have hc1' := hb1.cell); (have hf1 := hb1.frozen); obtain ⟨g1, g2, g3, g4, g5, g6, g7, g8⟩ := hn1 _ rfl; (have hc2' := first_box g5); (have HRG := Lib.hid (box_range g7)); (have H2K := Lib.hid g6); (have HP4 := Lib.hid (fun (v2 : Value) (w3 : World) (o2 : Obj) => HP3.out _ v2 _ w3 o2 g1 g2 g3 g4 g5 g6)); (have k4 := Lib.hid g8); clear hown' hgrow hat hn1 hb1 hnil g1 g2 g3 g4 g5 g6 g7 g8))
        | (gi_at_builtin; (refine wpListIn_append_own_at _ rfl _ _ 42 rfl (w.heap.size + 3) 30 i0 (.agg #[.int .i64 0, .int .i64 0, .int .i64 0, .int .i64 0, .int .i64 0, .string ByteArray.empty, .string ByteArray.empty, .int .u64 0, .int .i64 0, .int .i64 0, .int .i64 0, .int .i64 0]) 12 112 Tryz.underlying42 hi hz0 hz1 hz2 rfl (by decide) _ _ _ rfl (H2K.out.alloc _) ⟨_, 0, none⟩ 1 1 cs rfl HCL.out (World.news_of_block (Ut.alloc_at _ _)) HC1.out am1 am2 (by rw [World.size_alloc]; exact Nat.le_succ_of_le k4.out) ?_); (intro v2 w3 hown' hgrow hnil hat; obtain ⟨q'', r'', rfl, -⟩ := own_any_shape hown'; obtain ⟨hb1, Fp', hn1⟩ := HP4.out _ _ _ hown' hgrow hat; (have hc3' := hb1.cell); (have hf3 := hb1.frozen); (have HN := Lib.hid hn1); clear hown' hgrow hat hn1 hb1 hnil)))
      exact ⟨Fp', ⟨_, _, HN.out.1⟩, HN.out.2.1, HN.out.2.2⟩
    · have b1 : (m : Int) ≤ (K : Int) := by omega
      have HM : Hid (K = m) := by show _ = _; omega
      have hd : decide (m ≤ K) = true := decide_eq_true (by omega)
      clear hm2 hK h3 HP1 HP2
      gi_wp2
      exact ⟨Fp, ⟨rfl, pre, x, rfl, HK.out.symm.trans HM.out, _, _, HU.out⟩, Only.refl _ _, fun b h => .inl h⟩
  case done =>
    rintro D ys Fp A rfl hD ⟨d1, d2, hu⟩ hnf hK
    have hc1 := hu.b1.cell
    have hc2 := hu.b2.cell
    go_wp2_with fail
    go_quiet (fail)
    go_wp2
    refine ⟨by simp, .inl ⟨_, _, rfl, run_takeDeferred (show (A.drewN nq).heap[D]? = _ from hK), ?_⟩⟩
    obtain ⟨k1, k2, k3⟩ := (hu.turn (row := none) (A' := A.drewN nq) ⟨rfl, rfl, rfl, Nat.le_refl _, fun _ _ _ => rfl⟩ (fun r e => by cases e)).fin (grownBy_putObj' (A.drewN nq) D (.deferred none)) (fun r e => by cases e; exact ⟨by have := HS2.out; omega, hnf⟩)
    have e : ys.take m = ys := List.take_of_length_le hu.le
    rw [e]
    exact ⟨_, results_tmp2 rfl _ _ _, ⟨d1, d2, rfl, k1, k2⟩, k3⟩
  case stop =>
    rintro D c pre Fp A hSp hD ⟨rfl, ini, x, rfl, hlen, d1, d2, hu⟩ hnf hK
    have hc1 := hu.b1.cell
    have hc2 := hu.b2.cell
    gi_wp2
    go_wp2_with fail
    go_quiet (fail)
    go_wp2
    refine ⟨by simp, .inl ⟨_, _, rfl, run_takeDeferred (show (A.drewN nq).heap[D]? = _ from hK), ?_⟩⟩
    obtain ⟨k1, k2, k3⟩ := (hu.turn (row := none) (A' := A.drewN nq) ⟨rfl, rfl, rfl, Nat.le_refl _, fun _ _ _ => rfl⟩ (fun r e => by cases e)).fin (grownBy_putObj' (A.drewN nq) D (.deferred none)) (fun r e => by cases e; exact ⟨by have := HS2.out; omega, hnf⟩)
    have e : L.take m = ini := by
      have h7 := pre_take ((List.prefix_append ini [x]).trans hSp)
      rw [hlen] at h7; exact h7.symm
    rw [e]
    exact ⟨_, results_tmp2 rfl _ _ _, ⟨d1, d2, rfl, k1, k2⟩, k3⟩
end Vw
end Go.Proofs.YtocoonkachbjaaaGreatDoor

/- More of XHeldIn: no panic is met; a store; an append; a load of a whole struct. No program's code. -/
namespace Go.Proofs.YtocoonkachbjaaaGreatDoor
open Go.RowKit
set_option linter.unusedVariables false
namespace Hi
variable {F : Fence} {n : Nat} {P : Program} {ops : Array Oper} {Q : Exit → Act → World → Prop} {md : Region.Mode} {S : World → Prop} {Z : Nat → Bool}
/-- No panic is met. -/
def NoP (Q : Exit → Act → World → Prop) : Exit → Act → World → Prop
  | .panic _, _, _ => False
  | e, a, w => Q e a w
theorem nop {c : Code} {a : Act} {w : World} (h : c.wpIn F n P (NoP Q) a w) : c.wpIn F n P Q a w := wpIn_mono h (fun e a w h => by cases e <;> first | exact h | exact h.elim)
theorem nop_normal {a : Act} {w : World} (h : Q .normal a w) : NoP Q .normal a w := h
/-- The one operation that may come up has no slot. -/
theorem eff_ {i : Nat} {oi : Oper} {fuel : Nat} {listed : Array Bool} {t : List Value} {d : List Deferred} {w w' : World} (hF : ∀ f, F.fn f) (hnd : ∀ c, oi.op ≠ .defer c) (hi : ops[i]? = some oi) (hk : oi.dst = none)
    (hr : Region.ready md ops listed = [i]) (hw : Region.wanted oi (yielded ops t.toArray) = true) (hrun : (execOp (Act.eval { tmps := t.toArray, defers := d }) oi).run P w = .ok .skip w') (hS : Z i = false → S w')
    (h : AnyH F n P md ops Q S Z fuel (listed.setIfInBounds i true) { tmps := t.toArray, defers := d } w') : AnyH F n P md ops Q S Z (fuel + 1) listed { tmps := t.toArray, defers := d } w := by
  refine room (k := 0) hi hr hw ⟨fun f _ => hF f, ?_⟩
  rw [Oper.semAt_eq _ _ _ hnd, hrun]
  refine ⟨hS, ?_⟩
  rw [hk]
  exact h
theorem exec_append {w : World} {a : Act} {o : Oper} (s x : Operand) (t : TypeId) (ho : o.op = .call { callee := .builtin .append, args := #[s, x], argTypes := #[t, t] }) (v u : Value) (hs : a.eval s = v) (hx : a.eval x = u) (v' : Value) (w' : World)
    (hr : (Builtin.append_ #[t, t] o.type #[v, u]).run P w = .ok v' w') : (execOp a.eval o).run P w = .ok (.value v') w' := by
  unfold execOp
  simp only [ho, resolve, invoke, builtin, Sem.run_bind, Sem.run_pure, Result.andThen_ok, List.map_toArray, List.map_cons, List.map_nil, hs, hx, hr]
theorem exec_load_row {w : World} {a : Act} {o : Oper} (ty : TypeId) (x : Operand) (ho : o.op = .load ty x) (g : Nat) (hx : a.eval x = .pointer (some ⟨g, 0, none⟩)) (t : TypeId) (cs : Array Value) (fr : Nat × Nat) (d : TypeDesc) (hg : w.heap[g]? = some (.cells cs t fr))
    (hu : P.underlying ty = some d) (hd : (match d with | .struct _ | .array _ _ => true | _ => false) = true) (hi : (P.info? ty).map (·.size) = some cs.size) : (execOp a.eval o).run P w = .ok (.value (.agg cs)) w := by
  unfold execOp
  simp only [ho, hx, Instr.loadAt, Instr.sureAddr, Sem.run_bind, Sem.run_pure, Result.andThen_ok, run_loadVar_row w g t ty cs fr d hg hu hd hi]
end Hi
end Go.Proofs.YtocoonkachbjaaaGreatDoor
