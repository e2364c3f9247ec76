/- The law's own kids: what an iterator of sessions hands out, at most so many (printed by wip/mklkids.py). -/
import Derived.Test.YtocoonkachbjaaaVwKids
import Derived.Test.YtocoonkachbjaaaVwLent
import Derived.Test.YtocoonkachbjaaaFootA
import Derived.RangeFuncBox
import Derived.Shelf.Abstract
import Derived.Maps.OwnIn
namespace Go.Proofs.Ytocoonkachbjaaa
open Go.RowKit
set_option linter.unusedVariables false
namespace Vw
attribute [local go_sem] Oper.semAt_some

def csL (ss : List Sess) (l : List Nat) : List Value := l.flatMap (csAt ss)
theorem csL_snoc (ss : List Sess) (l : List Nat) (i : Nat) : csL ss (l ++ [i]) = csL ss l ++ csAt ss i := by simp [csL, List.flatMap_append]
/-- The list, as far as it has come, in its box. -/
def KU (ss : List Sess) (m B : Nat) (w : World) (pre : List Nat) (Fp : Nat → Prop) (A : World) : Prop :=
  ∃ d, Boxed A (B + 1) 22 d ∧ A.ownsRow (B + 2) 40 12 d pre.length (csL ss pre) ∧ pre.length ≤ m ∧ (∀ b, Fp b ↔ b = B + 1 ∨ d.ownBlock = some b) ∧ A.cell? ⟨B, 0, none⟩ = some (.int .i64 m) ∧ Below B w A
theorem KU.turn {ss : List Sess} {m B : Nat} {w A A' : World} {pre : List Nat} {Fp : Nat → Prop} {row : Option Nat} (h : KU ss m B w pre Fp A) (hg : A.grownBy A' row) (hrow : ∀ r, row = some r → B + 2 ≤ r ∧ ¬ Fp r) : KU ss m B w pre Fp A' := by
  obtain ⟨d, h1, h2, h3, h4, h5, h6⟩ := h
  have hne : ∀ b, b < B + 2 → some b ≠ row := fun b hb e => by have := (hrow b e.symm).1; omega
  refine ⟨d, h1.kept hg (hne _ (by omega)), own_keep h2 (fun b e => hg.block b (h2.lt b e).2 (fun e2 => (hrow b e2.symm).2 ((h4 b).2 (.inr e)))), h3, h4, ?_, h6.grown hg (by have := h1.lt; omega) (fun k e => by have := (hrow k e).1; omega)⟩
  exact (World.cell?_of_block (w := A) (hg.block B (by have := h1.lt; omega) (hne _ (by omega)))).trans h5
theorem KU.push {ss : List Sess} {m B : Nat} {w A w1 : World} {pre : List Nat} {Fp : Nat → Prop} {d v' : Value} {x : Nat} {o1 : Obj} (hm : pre.length < m) (h1 : Boxed A (B + 1) 22 d) (h2 : A.ownsRow (B + 2) 40 12 d pre.length (csL ss pre)) (h4 : ∀ b, Fp b ↔ b = B + 1 ∨ d.ownBlock = some b) (h5 : A.cell? ⟨B, 0, none⟩ = some (.int .i64 m)) (h6 : Below B w A)
    (hown' : w1.ownsRow (B + 2) 40 12 v' (pre.length + 1) (csL ss pre ++ csAt ss x)) (hgrow : (A.alloc o1).grownBy w1 d.ownBlock) (hat : v'.ownBlock = d.ownBlock ∨ v'.ownBlock = some (A.alloc o1).heap.size) :
    Boxed w1 (B + 1) 22 d ∧ ∃ Fp', KU ss m B w (pre ++ [x]) Fp' (w1.setCell ⟨B + 1, 0, none⟩ v') ∧ Only Fp A (w1.setCell ⟨B + 1, 0, none⟩ v') ∧ ∀ b, Fp' b → Fp b ∨ A.heap.size ≤ b := by
  have hlt := h1.lt
  have ho : Only Fp A w1 := ((Only.refl Fp A).alloc o1).grown hgrow (fun k hk e => (h4 k).2 (.inr e))
  have hlt1 : B + 1 < w1.heap.size := Nat.lt_of_lt_of_le hlt ho.size
  have hnb : ∀ b, d.ownBlock = some b → B + 2 ≤ b := fun b e => (h2.lt b e).1
  have hb1 : Boxed w1 (B + 1) 22 d := (h1.alloc o1).kept hgrow (fun e => by have := hnb _ e.symm; omega)
  refine ⟨hb1, fun b => b = B + 1 ∨ v'.ownBlock = some b, ⟨v', hb1.set v', ?_, by rw [List.length_append]; simp; omega, fun b => Iff.rfl, ?_, ?_⟩, ho.setCell (fun _ => (h4 _).2 (.inl rfl)) _, ?_⟩
  · rw [List.length_append, csL_snoc]
    refine own_keep hown' (fun b e => Below.heap_setCell _ _ _ _ ?_)
    have := (hown'.lt b e).1
    show b ≠ B + 1
    omega
  · have e1 : (w1.setCell ⟨B + 1, 0, none⟩ v').heap[B]? = A.heap[B]? := (Below.heap_setCell _ _ _ _ (by show B ≠ B + 1; omega)).trans (ho.block B (by omega) (fun hf => by
      rcases (h4 B).1 hf with h | h
      · omega
      · have := hnb _ h; omega))
    exact (World.cell?_of_block (w := A) (a := ⟨B, 0, none⟩) e1).trans h5
  · exact (h6.trans (ho.below (by omega) (fun i hi hf => by
      rcases (h4 i).1 hf with h | h
      · omega
      · have := hnb _ h; omega))).setCell (p := ⟨B + 1, 0, none⟩) (by show B ≤ B + 1; omega) _
  · rintro b (rfl | e)
    · exact .inl ((h4 _).2 (.inl rfl))
    · rcases hat with h | h
      · exact .inl ((h4 b).2 (.inr (h.symm.trans e)))
      · refine .inr ?_
        have e2 : b = (A.alloc o1).heap.size := Option.some.inj (e.symm.trans h)
        rw [e2]; simp
theorem KU.fin {ss : List Sess} {B : Nat} {w A A' : World} {pre : List Nat} {Fp : Nat → Prop} {row : Option Nat} {d : Value} (h1 : Boxed A (B + 1) 22 d) (h2 : A.ownsRow (B + 2) 40 12 d pre.length (csL ss pre)) (h4 : ∀ b, Fp b ↔ b = B + 1 ∨ d.ownBlock = some b) (h6 : Below B w A) (hg : A.grownBy A' row) (hrow : ∀ r, row = some r → B + 2 ≤ r ∧ ¬ Fp r) :
    A'.ownsRow B 40 12 d pre.length (csL ss pre) ∧ Below B w A' :=
  ⟨Ut.own_base (own_keep h2 (fun b e => hg.block b (h2.lt b e).2 (fun e2 => (hrow b e2.symm).2 ((h4 b).2 (.inr e))))) (Nat.le_add_right _ 2), h6.grown hg (by have := h1.lt; omega) (fun k e => by have := (hrow k e).1; omega)⟩
theorem pre_take {α : Type} {p L : List α} (h : p <+: L) : p = L.take p.length := List.prefix_iff_eq_take.1 h

set_option maxHeartbeats 4000000 in
theorem lkids_any (ss : List Sess) (hl : ss.length ≤ 65536) (L : List Nat) (hL : ∀ i ∈ L, i < ss.length) (bk bf : Nat) (C : Nat → Prop) (m : Nat) (hm : m ≤ 65536) (w0 w : World) (hC : ∀ b, C b → b < w.heap.size ∧ w.heap[b]? = w0.heap[b]?)
    (hseq : ∀ n, Fo.SeqF Fence.wide n Try.prog 18 #[.pointer (some ⟨bk, 0, none⟩), .pointer (some ⟨bf, 0, none⟩)] (encS ss) (fun ys => ys = L) (fun p => p <+: L) C w0) :
    Calls Try.prog 12 #[.func (.func 18) #[] #[.pointer (some ⟨bk, 0, none⟩), .pointer (some ⟨bf, 0, none⟩)], .int .i64 m] w fun e w' => (∃ d, e = .returned d ∧ w'.ownsRow w.heap.size 40 12 d (L.take m).length (csL ss (L.take m))) ∧ Below w.heap.size w w' := by
  obtain ⟨i0, hi, hz0, hz1, hz2⟩ := info_parts vinfo_sess
  have HSEQ := Lib.hid (hseq 8); have HC := Lib.hid hC; have HL := Lib.hid hL
  clear hseq hC hL
  have mI : (m : Int) ≤ 65536 := by omega
  refine (callsIn_wide (n := 9)).1 ?_
  refine callsIn_of_wp_marks Try.func12 rfl trivial ?_ rfl
  simp only [Try.ntmps12, List.size_toArray, List.length_cons, List.length_nil, Nat.reduceAdd, Nat.reduceSub, Array.replicate_succ, Array.replicate_zero, List.push_toArray, List.append_toArray, List.nil_append, List.cons_append]
  gi_wp2_with fail
  obtain ⟨W2, hW2⟩ : ∃ W2, W2 = (w.alloc (.cells #[.int .i64 m] 3)).alloc (.cells #[.slice none 0 0] 22) := ⟨_, rfl⟩
  have hs2 : W2.heap.size = w.heap.size + 2 := by rw [hW2, World.size_alloc, World.size_alloc]
  have hb2 : Below w.heap.size w W2 := by rw [hW2]; exact ((Below.refl _ _).alloc (Nat.le_refl _) _).alloc (by simp) _
  have hU0 : KU ss m w.heap.size w [] (fun b => b = w.heap.size + 1) W2 := by
    refine ⟨.slice none 0 0, ?_, World.ownsRow_nil _ _ _ _, Nat.zero_le _, fun b => ⟨.inl, fun h => h.elim id (fun h => by cases h)⟩, ?_, hb2⟩
    · rw [hW2]
      have := Boxed.new (w.alloc (.cells #[.int .i64 m] 3)) 22 (.slice none 0 0)
      rwa [World.size_alloc] at this
    · rw [hW2]
      exact ((Boxed.new w 3 (.int .i64 m)).alloc _).cell
  rw [← hW2]
  have HS2 := Lib.hid hs2; have HU0 := Lib.hid hU0; have HB2 := Lib.hid hb2
  clear hs2 hU0 hb2 hW2
  refine Fo.range_foot_new (F := Fence.wide) (n := 9) rfl (by omega) (gf := 18) (lb := #[.pointer (some ⟨bk, 0, none⟩), .pointer (some ⟨bf, 0, none⟩)]) rfl trivial (enters_of Try.func18 (by kernel_rfl) rfl)
    HSEQ.out (fun _ => rfl) (fun b hb => ⟨by have := (HC.out b hb).1; have := HS2.out; omega, (HB2.out.block b (HC.out b hb).1).trans (HC.out b hb).2⟩)
    (KU ss m w.heap.size w) (fun c pre Fp A => c = .exit 0 ∧ ∃ ini x, pre = ini ++ [x] ∧ ini.length = m ∧ KU ss m w.heap.size w ini Fp A) (fun b => b = w.heap.size + 1) (fun b hb => ⟨by have := HS2.out; omega, fun h => by have := (HC.out b h).1; omega⟩)
    ?hU ?hUx HU0.out
    (fun x b => { tmps := #[.func (.func 18) #[] #[.pointer (some ⟨bk, 0, none⟩), .pointer (some ⟨bf, 0, none⟩)], .int .i64 m, undef, .pointer (some ⟨w.heap.size, 0, none⟩), .slice none 0 0, .pointer (some ⟨w.heap.size + 1, 0, none⟩), .pointer (some ⟨b, 0, none⟩), .func (.func 18) #[] #[.pointer (some ⟨bk, 0, none⟩), .pointer (some ⟨bf, 0, none⟩)], .agg (csAt ss x).toArray, undef, undef, undef, undef, undef, undef, undef, undef, undef], defers := [] })
    (fun x => .cells (csAt ss x).toArray 40)
    ?assign ?body ?done ?stop
  case hU =>
    intro pre Fp A A' row h1 hsz hg hrow
    exact h1.turn hg (fun r e => ⟨by have := (hrow r e).1; have := HS2.out; omega, (hrow r e).2⟩)
  case hUx =>
    rintro c pre Fp A A' row ⟨rfl, ini, x, h0, h1, h2⟩ hsz hg hrow
    exact ⟨rfl, ini, x, h0, h1, h2.turn hg (fun r e => ⟨by have := (hrow r e).1; have := HS2.out; omega, (hrow r e).2⟩)⟩
  case assign =>
    rintro l2 x A K ⟨pre, hpre⟩ hK
    have hin : x < ss.length := HL.out x (hpre.subset (by simp))
    unfold encS
    obtain ⟨cs, hcs⟩ : ∃ cs, cs = csAt ss x := ⟨_, rfl⟩
    have HCL : Hid (cs.length = 12) := by show _ = _; rw [hcs]; exact cs_len hin
    have HC1 : Hid (∀ u ∈ cs, u.oneCell' = true) := by show ∀ _, _; rw [hcs, csAt_at hin]; exact ss[x].one
    rw [← hcs] at hK ⊢
    clear hcs hin hpre
    gi_wp2_with (refine Ag.wpListIn_store_new (by rfl) 40 (.tmp 6) (.tmp 8) (by rfl) cs (by rfl) (by rfl) (by rw [HCL.out]; kernel_rfl) (by rw [HCL.out]; rfl) HC1.out ?_)
    exact hK
  case body =>
    intro l2 pre x Fp b A hu hszA hpre hold hbA hbb
    have hin : x < ss.length := HL.out x (hpre.subset (by simp))
    obtain ⟨d, h1, h2, h3, h4, h5, h6⟩ := hu
    obtain ⟨q, r, rfl, -⟩ := own_any_shape h2
    have hc := h1.cell
    obtain ⟨cs, hcs⟩ : ∃ cs, cs = csAt ss x := ⟨_, rfl⟩
    have HCL : Hid (cs.length = 12) := by show _ = _; rw [hcs]; exact cs_len hin
    have HC1 : Hid (∀ u ∈ cs, u.oneCell' = true) := by show ∀ _, _; rw [hcs, csAt_at hin]; exact ss[x].one
    have H1 := Lib.hid h1; have H2 := Lib.hid h2; have H4 := Lib.hid h4; have H5 := Lib.hid h5; have H6 := Lib.hid h6
    have HCS := Lib.hid hcs
    rw [← hcs] at hbb ⊢
    have HPU := Lib.hid (fun (hm : pre.length < m) (v' : Value) (w1 : World) (o1 : Obj) => KU.push (ss := ss) (x := x) (v' := v') (w1 := w1) (o1 := o1) hm h1 h2 h4 h5 h6)
    rw [← hcs] at HPU
    have HRG : Hid (A.rangeAt b 0 cs) := fun j u hu => by rw [Nat.zero_add, block_cell hbb]; simpa using hu
    have HSZ := Lib.hid hszA
    obtain ⟨K, hK⟩ : ∃ K, K = pre.length := ⟨_, rfl⟩
    have HK := Lib.hid hK
    rw [← hK] at hc h3 HPU
    have H2K : Hid (A.ownsRow (w.heap.size + 2) 40 12 (.slice q K r) K (csL ss pre)) := by show A.ownsRow _ _ _ _ _ _; rw [hK]; exact h2
    clear h1 h2 h4 h6 hbb hcs hin hszA hold
    by_cases hm2 : K < m
    · have b1 : (K : Int) < (m : Int) := by omega
      have am1 : K + 1 ≤ maxLen := by unfold maxLen; omega
      have am2 : (K + 1) * 112 ≤ 140737488355328 := by omega
      have k3 : w.heap.size + 2 ≤ (A.alloc (.cells cs.toArray 40)).heap.size := by have := HSZ.out; have := HS2.out; simp; omega
      have HP2 := Lib.hid (HPU.out hm2)
      have hd : decide (m ≤ K) = false := decide_eq_false (by omega)
      clear hm2 hK h3 HPU
      gi_wp2_with (first
        | (refine Ag.wpListIn_load (by rfl) 40 _ (by rfl) _ _ (by rfl) cs _ HRG.out Try.underlying40 rfl (by rw [HCL.out]; kernel_rfl) ?_)
        | (refine Ag.wpListIn_one (by rfl) 22 40 _ (by rfl) cs (by rfl) i0 _ Try.underlying22 hi hz0 (by rw [hz1]; exact HCL.out) (by rw [hz1]; decide) (by rw [hz1]; decide) ?_)
        | (gi_at_builtin; (refine wpListIn_append_own_at _ rfl _ _ 22 rfl (w.heap.size + 2) 40 i0 (.agg #[.int .i64 0, .int .i64 0, .int .i64 0, .int .i64 0, .int .i64 0, .string ByteArray.empty, .string ByteArray.empty, .int .u64 0, .int .i64 0, .int .i64 0, .int .i64 0, .int .i64 0]) 12 112 Try.underlying22 hi hz0 hz1 hz2 rfl (by decide) _ _ _ rfl (H2K.out.alloc _) ⟨A.heap.size, 0, none⟩ 1 1 cs rfl HCL.out (World.news_of_block (Ut.alloc_at _ _)) HC1.out am1 am2 k3 ?_); (intro v' w1 hown' hgrow hnil hat; obtain ⟨q', r', rfl, -⟩ := own_any_shape hown'; obtain ⟨hb1, Fp', hn1⟩ := HP2.out _ _ _ hown' hgrow hat; (have hc1 := hb1.cell); (have hf1 := hb1.frozen); (have HN := Lib.hid hn1); clear hown' hgrow hat hn1 hb1 hnil)))
      exact ⟨Fp', HN.out.1, HN.out.2.1, HN.out.2.2⟩
    · have b1 : (m : Int) ≤ (K : Int) := by omega
      have HM : Hid (K = m) := by show _ = _; omega
      have hd : decide (m ≤ K) = true := decide_eq_true (by omega)
      clear hm2 hK h3 HPU
      gi_wp2
      exact ⟨Fp, ⟨rfl, pre, x, rfl, HK.out.symm.trans HM.out, _, H1.out, H2.out, by rw [← HK.out, HM.out]; exact Nat.le_refl _, H4.out, H5.out, H6.out⟩, Only.refl _ _, fun b h => .inl h⟩
  case done =>
    rintro D ys Fp A rfl hD hu hnf hK
    obtain ⟨d, h1, h2, h3, h4, h5, h6⟩ := hu
    have hc := h1.cell
    gi_wp2
    refine ⟨by simp, .inl ⟨_, _, rfl, run_takeDeferred hK, ?_⟩⟩
    obtain ⟨k1, k2⟩ := KU.fin h1 h2 h4 h6 (grownBy_putObj' A D (.deferred none)) (fun r e => by cases e; exact ⟨by have := HS2.out; omega, hnf⟩)
    have e : ys.take m = ys := List.take_of_length_le h3
    rw [e]
    exact ⟨_, results_tmp rfl _ _ _, ⟨d, rfl, k1⟩, k2⟩
  case stop =>
    rintro D c pre Fp A hSp hD ⟨rfl, ini, x, rfl, hlen, hu⟩ hnf hK
    obtain ⟨d, h1, h2, h3, h4, h5, h6⟩ := hu
    have hc := h1.cell
    gi_wp2
    refine ⟨by simp, .inl ⟨_, _, rfl, run_takeDeferred hK, ?_⟩⟩
    obtain ⟨k1, k2⟩ := KU.fin h1 h2 h4 h6 (grownBy_putObj' A D (.deferred none)) (fun r e => by cases e; exact ⟨by have := HS2.out; omega, hnf⟩)
    have e : L.take m = ini := by
      have h7 := pre_take ((List.prefix_append ini [x]).trans hSp)
      rw [hlen] at h7; exact h7.symm
    rw [e]
    exact ⟨_, results_tmp rfl _ _ _, ⟨d, rfl, k1⟩, k2⟩
end Vw
end Go.Proofs.Ytocoonkachbjaaa
