/- Several texts in one: what each proves its own first comment says. -/
import Derived.Test.YtocoonkachbjaaaDoorM18
import Derived.RangeFuncNested
import Derived.Test.YtocoonkachbjaaaDoorM20
import Derived.Lib.ItoaNum

/- Ranging over an iterator within a round of another loop (printed by wip/mkfootn.py out of XFootA): the outer loop tells its body of its record; the inner one lays one block. No program's code. -/
namespace Go.Proofs.YtocoonkachbjaaaDoor
open Go.RowKit
set_option linter.unusedVariables false
namespace Fo
variable {F : Fence} {n : Nat} {P : Program}

/-- **The statement**, the body told of the record, where the loop's own variable lies in a block that each round makes. -/
theorem range_foot_own {α : Type} {g : Operand} {ps : Array Tmp} {assign body : Code} {Q : Exit → Act → World → Prop} {a : Act} {w w0 : World}
    (hro : F.round = none) (h1 : 1 ≤ n) {gf : Nat} {lb : Array Value} (hg : a.eval g = .func (.func gf) #[] lb) (hFg : F.fn gf) (eg : ∀ args w, (callFunc gf args).run P w = .ok (.enter gf args) w)
    {encs : α → Array Value} {S Sp : List α → Prop} {C : Nat → Prop} (hseq : SeqF F (n - 1) P gf lb encs S Sp C w0) (hps : ∀ x, (encs x).size = ps.size) (hC : ∀ b, C b → b < w.heap.size ∧ w.heap[b]? = w0.heap[b]?)
    (U : List α → (Nat → Prop) → World → Prop) (Ux : Code → List α → (Nat → Prop) → World → Prop) (Fp0 : Nat → Prop) (hFp0 : ∀ b, Fp0 b → b < w.heap.size ∧ ¬ C b)
    (hU : ∀ pre Fp A A' row, U pre Fp A → w.heap.size ≤ A.heap.size → A.grownBy A' row → (∀ r, row = some r → w.heap.size ≤ r ∧ ¬ Fp r) → U pre Fp A')
    (hUx : ∀ c pre Fp A A' row, Ux c pre Fp A → w.heap.size ≤ A.heap.size → A.grownBy A' row → (∀ r, row = some r → w.heap.size ≤ r ∧ ¬ Fp r) → Ux c pre Fp A')
    (h0 : U [] Fp0 w) (a₁ : α → Nat → Act) (ob : α → Obj)
    (hassign : ∀ (l : Nat) (x : α) (W : World) (K : Act → World → Prop), (∃ pre, Sp (pre ++ [x])) → K (a₁ x W.heap.size) (W.alloc (ob x)) → assign.wpIn (F.inRound l) (n - 1 - 1) P (Exit.then K (fun _ _ _ => False)) { tmps := (ps.zip (encs x)).foldl (fun t (p, v) => t.setIfInBounds p v) a.tmps, defers := [] } W)
    (hbody : ∀ (l : Nat) (pre : List α) (x : α) (Fp : Nat → Prop) (b : Nat) (W : World), U pre Fp W → w.heap.size ≤ W.heap.size → Sp (pre ++ [x]) → (∃ A, U pre Fp A ∧ w.heap.size ≤ A.heap.size ∧ A.heap.size = b) → b < W.heap.size → W.heap[b]? = some (ob x) → (w.heap.size ≤ l ∧ ¬ Fp l ∧ ∃ r, W.heap[l]? = some (.loop r)) → body.wpIn (F.inRound l) (n - 1 - 1) P (Left Fp U Ux (pre ++ [x]) W) (a₁ x b) W)
    (hdone : ∀ (d : Nat) (xs : List α) (Fp : Nat → Prop) (W : World), S xs → w.heap.size ≤ d → U xs Fp W → ¬ Fp d → W.heap[d]? = some (.deferred (some [])) → Q .normal { a with defers := { target := .collected d, args := #[] } :: a.defers } W)
    (hstop : ∀ (d : Nat) (c : Code) (pre : List α) (Fp : Nat → Prop) (W : World), Sp pre → w.heap.size ≤ d → Ux c pre Fp W → ¬ Fp d → W.heap[d]? = some (.deferred (some [])) → c.wpIn F n P Q { a with defers := { target := .collected d, args := #[] } :: a.defers } W) :
    (Code.rangeFunc g ps assign body).wpIn F n P Q a w := by
  refine wpIn_rangeFunc fun fn hfn => ?_
  rw [hro]
  let rec_ : LoopState → Option Code → Loop := fun st pe => { state := st, pending := pe, fn, tmps := a.tmps, params := ps, assign, body, defers := w.heap.size }
  have hrs : ∀ st pe, (rec_ st pe).state = st := fun _ _ => rfl
  have hrp : ∀ st pe, (rec_ st pe).params = ps := fun _ _ => rfl
  have hrb : ∀ st pe st' pe', { rec_ st pe with state := st', pending := pe' } = rec_ st' pe' := fun _ _ _ _ => rfl
  have hrb2 : ∀ st pe st', { rec_ st pe with state := st' } = rec_ st' pe := fun _ _ _ => rfl
  have hrf : ∀ st pe, (rec_ st pe).fn = fn ∧ (rec_ st pe).assign = assign ∧ (rec_ st pe).body = body ∧ (rec_ st pe).tmps = a.tmps ∧ (rec_ st pe).pending = pe := fun _ _ => ⟨rfl, rfl, rfl, rfl, rfl⟩
  have hent : (Instr.enterLoop fn a.tmps ps assign body none).run P w = .ok (w.heap.size + 1, [{ target := .collected w.heap.size, args := #[] }]) ((w.alloc (.deferred (some []))).alloc (.loop (rec_ .ready none))) := run_enterLoop_outer fn a.tmps ps assign body
  let Bk : Loop → World → Prop := fun r W => W.heap[w.heap.size + 1]? = some (.loop r) ∧ W.heap[w.heap.size]? = some (.deferred (some []))
  have hBk : ∀ r W, Bk r W ↔ (W.heap[w.heap.size + 1]? = some (.loop r) ∧ W.heap[w.heap.size]? = some (.deferred (some []))) := fun _ _ => Iff.rfl
  generalize hW1 : (w.alloc (.deferred (some []))).alloc (.loop (rec_ .ready none)) = W1 at hent
  have hs1 : W1.heap.size = w.heap.size + 2 := by subst hW1; rw [World.size_alloc, World.size_alloc]
  have hB1 : Bk (rec_ .ready none) W1 := by
    subst hW1
    refine ⟨?_, (Below.heap_alloc _ _ _ (by simp)).trans (World.alloc_heap_new w _)⟩
    have := World.alloc_heap_new (w.alloc (.deferred (some []))) (.loop (rec_ .ready none))
    rwa [World.size_alloc] at this
  have hg1 : w.grownBy W1 none := by subst hW1; exact ⟨rfl, rfl, rfl, by simp; omega, fun k hk _ => by rw [Below.heap_alloc _ _ _ (by simp; omega), Below.heap_alloc _ _ _ hk]⟩
  have hU1 : U [] Fp0 W1 := hU _ _ _ _ _ h0 (Nat.le_refl _) hg1 (fun r e => by cases e)
  have hC1 : ∀ b, C b → b < W1.heap.size ∧ W1.heap[b]? = w0.heap[b]? := fun b hb => by
    obtain ⟨h1, h2⟩ := hC b hb
    exact ⟨by omega, by rw [hg1.block b h1 (fun e => by cases e)]; exact h2⟩
  clear_value Bk rec_
  have keep : ∀ {r A B} {Fp : Nat → Prop}, Only Fp A B → ¬ Fp w.heap.size → ¬ Fp (w.heap.size + 1) → Bk r A → Bk r B := fun hk f0 f1 hb => by
    rw [hBk] at hb ⊢
    exact ⟨(hk.block _ (Array.getElem?_eq_some_iff.1 hb.1).1 f1).trans hb.1, (hk.block _ (Array.getElem?_eq_some_iff.1 hb.2).1 f0).trans hb.2⟩
  have big : ∀ {r A}, Bk r A → w.heap.size + 1 < A.heap.size := fun hb => by rw [hBk] at hb; exact (Array.getElem?_eq_some_iff.1 hb.1).1
  have turn : ∀ {r A} (r' : Loop), Bk r A → Bk r' (A.putObj (w.heap.size + 1) (.loop r')) := fun r' hb => by
    have h := big hb
    rw [hBk] at hb ⊢
    exact ⟨World.putObj_heap_same h, (World.putObj_heap_other (by omega)).trans hb.2⟩
  refine ⟨w.heap.size + 1, [{ target := .collected w.heap.size, args := #[] }], W1, { target := .fn (.func gf) lb, args := #[.func (.yield (w.heap.size + 1)) #[] #[]] }, W1, gf, #[.func (.yield (w.heap.size + 1)) #[] #[]] ++ lb, W1, hent, ?_, ?_, ?_, fun _ => h1, ?_⟩
  · simp only [resolve, hg]
    simp [go_sem]
  · intro f' hf'; simp [Target.leads] at hf'; subst hf'; exact hFg
  · simp [invoke, go_sem, eg]
  refine (hseq (w.heap.size + 1) (fun pre Fp' A => ∃ Fp, (∀ b, Fp' b ↔ Fp b ∨ b = w.heap.size + 1) ∧ U pre Fp A ∧ Bk (rec_ .ready none) A ∧ ¬ Fp w.heap.size ∧ ¬ Fp (w.heap.size + 1)) (fun pre Fp' A => ∃ Fp c, (∀ b, Fp' b ↔ Fp b ∨ b = w.heap.size + 1) ∧ Ux c pre Fp A ∧ Bk (rec_ .done (some c)) A ∧ ¬ Fp w.heap.size ∧ ¬ Fp (w.heap.size + 1)) W1 (fun b => Fp0 b ∨ b = w.heap.size + 1) hC1 ?_ ?_ ?_ ?_ ?_).mono ?_
  · rintro b (hb | rfl)
    · exact ⟨by have := (hFp0 b hb).1; omega, (hFp0 b hb).2⟩
    · exact ⟨by omega, fun hc => by have := (hC _ hc).1; omega⟩
  · rintro pre Fp' A A' row ⟨Fp, hF, hu, hb, f0, f1⟩ hsz hg hrow
    have hnl : ∀ r, row = some r → w.heap.size ≤ r ∧ ¬ Fp r := fun r e => ⟨by have := (hrow r e).1; omega, fun hf => (hrow r e).2 ((hF r).2 (.inl hf))⟩
    refine ⟨Fp, hF, hU _ _ _ _ _ hu (by omega) hg hnl, ?_, f0, f1⟩
    rw [hBk] at hb ⊢
    exact ⟨(hg.block _ (Array.getElem?_eq_some_iff.1 hb.1).1 (fun e => by have := (hrow _ e.symm).1; omega)).trans hb.1, (hg.block _ (Array.getElem?_eq_some_iff.1 hb.2).1 (fun e => by have := (hrow _ e.symm).1; omega)).trans hb.2⟩
  · rintro pre Fp' A A' row ⟨Fp, c, hF, hu, hb, f0, f1⟩ hsz hg hrow
    have hnl : ∀ r, row = some r → w.heap.size ≤ r ∧ ¬ Fp r := fun r e => ⟨by have := (hrow r e).1; omega, fun hf => (hrow r e).2 ((hF r).2 (.inl hf))⟩
    refine ⟨Fp, c, hF, hUx _ _ _ _ _ _ hu (by omega) hg hnl, ?_, f0, f1⟩
    rw [hBk] at hb ⊢
    exact ⟨(hg.block _ (Array.getElem?_eq_some_iff.1 hb.1).1 (fun e => by have := (hrow _ e.symm).1; omega)).trans hb.1, (hg.block _ (Array.getElem?_eq_some_iff.1 hb.2).1 (fun e => by have := (hrow _ e.symm).1; omega)).trans hb.2⟩
  · rintro pre x Fp' A0 ⟨Fp, hF, hu, hb, f0, f1⟩ hsz hlen
    have hl00 := ((hBk _ _).1 hb).1
    have hy := run_yield (P := P) (args := encs x) hl00 (by rw [hrp]; exact hps x)
    obtain ⟨e1, e2, e3, e4, e5⟩ := hrf .ready none
    rw [e1, e2, e3, e4, hrp] at hy
    have hbs0 := big hb
    obtain ⟨A, hA⟩ : ∃ A, A = A0.alloc (ob x) := ⟨_, rfl⟩
    have hsA : A.heap.size = A0.heap.size + 1 := by rw [hA, World.size_alloc]
    have hoA : ∀ k, k < A0.heap.size → A.heap[k]? = A0.heap[k]? := fun k hk => by rw [hA]; exact Below.heap_alloc _ _ _ hk
    have hgA : A0.grownBy A none := by rw [hA]; exact ⟨rfl, rfl, rfl, by simp, fun k hk _ => Below.heap_alloc _ _ _ hk⟩
    have huA : U pre Fp A := hU _ _ _ _ _ hu (by omega) hgA (fun r e => by cases e)
    have hbA : Bk (rec_ .ready none) A := by
      rw [hBk] at hb ⊢
      exact ⟨(hoA _ hbs0).trans hb.1, (hoA _ (by omega)).trans hb.2⟩
    have hl0 := ((hBk _ _).1 hbA).1
    have hub : U pre Fp (A.putObj (w.heap.size + 1) (.loop (rec_ .busy none))) := hU _ _ _ _ _ huA (by omega) (grownBy_putObj' A (w.heap.size + 1) _) (fun r e => by cases e; exact ⟨Nat.le_succ _, f1⟩)
    have hbb : Bk (rec_ .busy none) (A.putObj (w.heap.size + 1) (.loop (rec_ .busy none))) := turn _ hbA
    have hsb : (A.putObj (w.heap.size + 1) (.loop (rec_ .busy none))).heap.size = A0.heap.size + 1 := by rw [← hsA]; simp
    have hnew : (A.putObj (w.heap.size + 1) (.loop (rec_ .busy none))).heap[A0.heap.size]? = some (ob x) := by
      rw [World.putObj_heap_other (by omega), hA]; exact World.alloc_heap_new _ _
    refine ⟨fn, _, assign, body, hy, roundIn_of_wpIn hfn (hassign _ x A0 _ ⟨pre, hlen⟩ ⟨_, by have := run_beginRound (P := P) hl0 (hrs _ _); rw [hrb2] at this; rw [← hA]; exact this, ?_⟩)⟩
    refine wpIn_mono (hbody _ pre x Fp A0.heap.size _ hub (by rw [hsb]; omega) hlen ⟨A0, hu, by omega, rfl⟩ (by rw [hsb]; omega) hnew ⟨Nat.le_succ _, f1, _, ((hBk _ _).1 hbb).1⟩) ?_
    have fin : ∀ (jump : Option Code) (W3 : World), Only Fp (A.putObj (w.heap.size + 1) (.loop (rec_ .busy none))) W3 →
        (Instr.endRound (w.heap.size + 1) jump).run P W3 = .ok (.bool jump.isNone) (W3.putObj (w.heap.size + 1) (.loop (rec_ (if jump.isNone then .ready else .done) jump))) ∧
        W3.heap[w.heap.size + 1]? = some (.loop (rec_ .busy none)) ∧ Bk (rec_ (if jump.isNone then .ready else .done) jump) (W3.putObj (w.heap.size + 1) (.loop (rec_ (if jump.isNone then .ready else .done) jump))) := fun jump W3 hk3 => by
      have hb3 := keep hk3 f0 f1 hbb
      have hl3 := ((hBk _ _).1 hb3).1
      have := run_endRound (P := P) jump hl3
      rw [hrb] at this
      exact ⟨this, hl3, turn _ hb3⟩
    have hbs := big hbA
    have grow_ : ∀ (W3 : World) (Fp2 : Nat → Prop) (jump : Option Code), Only Fp (A.putObj (w.heap.size + 1) (.loop (rec_ .busy none))) W3 → (∀ b, Fp2 b → Fp b ∨ (A.putObj (w.heap.size + 1) (.loop (rec_ .busy none))).heap.size ≤ b) → ¬ Fp2 w.heap.size ∧ ¬ Fp2 (w.heap.size + 1) ∧
        Only Fp' A0 (W3.putObj (w.heap.size + 1) (.loop (rec_ (if jump.isNone then .ready else .done) jump))) ∧ ∀ b, (Fp2 b ∨ b = w.heap.size + 1) → Fp' b ∨ A0.heap.size ≤ b := fun W3 Fp2 jump ho2 hn2 => by
      rw [hsb] at hn2
      refine ⟨fun h => ?_, fun h => ?_, ?_, ?_⟩
      · rcases hn2 _ h with h | h
        · exact f0 h
        · omega
      · rcases hn2 _ h with h | h
        · exact f1 h
        · omega
      · have s0 : W3.heap.size = (W3.putObj (w.heap.size + 1) (.loop (rec_ (if jump.isNone then .ready else .done) jump))).heap.size := by simp
        refine ⟨ho2.os.trans hgA.os, ho2.tape.trans hgA.tape, ho2.output.trans hgA.output, ?_, fun k hk hnf => ?_⟩
        · have := ho2.size; rw [hsb] at this; rw [← s0]; omega
        · have hk1 : k ≠ w.heap.size + 1 := fun e => hnf ((hF k).2 (.inr e))
          have hk2 : ¬ Fp k := fun h => hnf ((hF k).2 (.inl h))
          rw [World.putObj_heap_other hk1, ho2.block k (by rw [hsb]; omega) hk2, World.putObj_heap_other hk1, hoA k hk]
      · rintro b (hb5 | rfl)
        · rcases hn2 b hb5 with h | h
          · exact .inl ((hF b).2 (.inl h))
          · exact .inr (by omega)
        · exact .inl ((hF _).2 (.inr rfl))
    rintro e a3 W3 hp
    cases e with
    | normal =>
      obtain ⟨Fp2, hu2, ho2, hn2⟩ := hp
      obtain ⟨hr, hl3, hb4⟩ := fin none W3 ho2
      obtain ⟨g0, g1, k1, k2⟩ := grow_ W3 Fp2 none ho2 hn2
      exact ⟨_, _, hr, .inl ⟨rfl, fun b => Fp2 b ∨ b = w.heap.size + 1, ⟨Fp2, fun b => Iff.rfl, hU _ _ _ _ _ hu2 (by have := ho2.size; rw [hsb] at this; omega) (grownBy_putObj' W3 (w.heap.size + 1) _) (fun r e => by cases e; exact ⟨Nat.le_succ _, g1⟩), hb4, g0, g1⟩, k1, k2⟩⟩
    | ret =>
      obtain ⟨Fp2, hu2, ho2, hn2⟩ := hp
      obtain ⟨hr, hl3, hb4⟩ := fin (some .ret) W3 ho2
      obtain ⟨g0, g1, k1, k2⟩ := grow_ W3 Fp2 (some .ret) ho2 hn2
      exact ⟨_, _, hr, .inr ⟨rfl, fun b => Fp2 b ∨ b = w.heap.size + 1, ⟨Fp2, .ret, fun b => Iff.rfl, hUx _ _ _ _ _ _ hu2 (by have := ho2.size; rw [hsb] at this; omega) (grownBy_putObj' W3 (w.heap.size + 1) _) (fun r e => by cases e; exact ⟨Nat.le_succ _, g1⟩), hb4, g0, g1⟩, k1, k2⟩⟩
    | exit id =>
      obtain ⟨Fp2, hu2, ho2, hn2⟩ := hp
      obtain ⟨hr, hl3, hb4⟩ := fin (some (.exit id)) W3 ho2
      obtain ⟨g0, g1, k1, k2⟩ := grow_ W3 Fp2 (some (.exit id)) ho2 hn2
      exact ⟨_, _, hr, .inr ⟨rfl, fun b => Fp2 b ∨ b = w.heap.size + 1, ⟨Fp2, (.exit id), fun b => Iff.rfl, hUx _ _ _ _ _ _ hu2 (by have := ho2.size; rw [hsb] at this; omega) (grownBy_putObj' W3 (w.heap.size + 1) _) (fun r e => by cases e; exact ⟨Nat.le_succ _, g1⟩), hb4, g0, g1⟩, k1, k2⟩⟩
    | goto t =>
      obtain ⟨Fp2, hu2, ho2, hn2⟩ := hp
      obtain ⟨hr, hl3, hb4⟩ := fin (some (.goto t)) W3 ho2
      obtain ⟨g0, g1, k1, k2⟩ := grow_ W3 Fp2 (some (.goto t)) ho2 hn2
      exact ⟨_, _, hr, .inr ⟨rfl, fun b => Fp2 b ∨ b = w.heap.size + 1, ⟨Fp2, (.goto t), fun b => Iff.rfl, hUx _ _ _ _ _ _ hu2 (by have := ho2.size; rw [hsb] at this; omega) (grownBy_putObj' W3 (w.heap.size + 1) _) (fun r e => by cases e; exact ⟨Nat.le_succ _, g1⟩), hb4, g0, g1⟩, k1, k2⟩⟩
    | panic ch => exact hp.elim
    | outgrown => exact hp.elim
  · exact ⟨Fp0, fun b => Iff.rfl, hU1, hB1, fun h => by have := (hFp0 _ h).1; omega, fun h => by have := (hFp0 _ h).1; omega⟩
  · rintro e W2 ⟨⟨v, rfl⟩, (⟨pre, Fp', hS, Fp, hF, hd, hb, f0, f1⟩ | ⟨pre, Fp', hSp, Fp, c, hF, hx, hb, f0, f1⟩)⟩
    · have hb2 := (hBk _ _).1 hb
      have hbs := big hb
      exact ⟨none, _, by have := run_endLoop (P := P) hb2.1 (by rw [hrs]; simp); rw [(hrf .ready none).2.2.2.2] at this; exact this, hdone _ pre Fp _ hS (Nat.le_refl _) (hU _ _ _ _ _ hd (by omega) (grownBy_putObj' W2 (w.heap.size + 1) _) (fun r e => by cases e; exact ⟨Nat.le_succ _, f1⟩)) f0 ((World.putObj_heap_other (by omega)).trans hb2.2)⟩
    · have hb2 := (hBk _ _).1 hb
      have hbs := big hb
      exact ⟨some c, _, by have := run_endLoop (P := P) hb2.1 (by rw [hrs]; simp); rw [(hrf .done (some c)).2.2.2.2] at this; exact this, hstop _ c pre Fp _ hSp (Nat.le_refl _) (hUx _ _ _ _ _ _ hx (by omega) (grownBy_putObj' W2 (w.heap.size + 1) _) (fun r e => by cases e; exact ⟨Nat.le_succ _, f1⟩)) f0 ((World.putObj_heap_other (by omega)).trans hb2.2)⟩

/-- **Within a round**, where the loop's own variable lies in a block that each round makes. -/
theorem range_foot_in {α : Type} {g : Operand} {ps : Array Tmp} {assign body : Code} {Q : Exit → Act → World → Prop} {a : Act} {w w0 : World}
    {l₀ : Nat} {r₀ : Loop} (hro : F.round = some l₀) (hl₀ : w.heap[l₀]? = some (.loop r₀)) (h1 : 1 ≤ n) {gf : Nat} {lb : Array Value} (hg : a.eval g = .func (.func gf) #[] lb) (hFg : F.fn gf) (eg : ∀ args w, (callFunc gf args).run P w = .ok (.enter gf args) w)
    {encs : α → Array Value} {S Sp : List α → Prop} {C : Nat → Prop} (hseq : SeqF F (n - 1) P gf lb encs S Sp C w0) (hps : ∀ x, (encs x).size = ps.size) (hC : ∀ b, C b → b < w.heap.size ∧ w.heap[b]? = w0.heap[b]?)
    (U : List α → (Nat → Prop) → World → Prop) (Ux : Code → List α → (Nat → Prop) → World → Prop) (Fp0 : Nat → Prop) (hFp0 : ∀ b, Fp0 b → b < w.heap.size ∧ ¬ C b)
    (hU : ∀ pre Fp A A' row, U pre Fp A → w.heap.size ≤ A.heap.size → A.grownBy A' row → (∀ r, row = some r → w.heap.size ≤ r ∧ ¬ Fp r) → U pre Fp A')
    (hUx : ∀ c pre Fp A A' row, Ux c pre Fp A → w.heap.size ≤ A.heap.size → A.grownBy A' row → (∀ r, row = some r → w.heap.size ≤ r ∧ ¬ Fp r) → Ux c pre Fp A')
    (h0 : U [] Fp0 w) (a₁ : α → Nat → Act) (ob : α → Obj)
    (hassign : ∀ (l : Nat) (x : α) (W : World) (K : Act → World → Prop), (∃ pre, Sp (pre ++ [x])) → K (a₁ x W.heap.size) (W.alloc (ob x)) → assign.wpIn (F.inRound l) (n - 1 - 1) P (Exit.then K (fun _ _ _ => False)) { tmps := (ps.zip (encs x)).foldl (fun t (p, v) => t.setIfInBounds p v) a.tmps, defers := [] } W)
    (hbody : ∀ (l : Nat) (pre : List α) (x : α) (Fp : Nat → Prop) (b : Nat) (W : World), U pre Fp W → w.heap.size ≤ W.heap.size → Sp (pre ++ [x]) → (∃ A, U pre Fp A ∧ w.heap.size ≤ A.heap.size ∧ A.heap.size = b) → b < W.heap.size → W.heap[b]? = some (ob x) → body.wpIn (F.inRound l) (n - 1 - 1) P (Left Fp U Ux (pre ++ [x]) W) (a₁ x b) W)
    (hdone : ∀ (xs : List α) (Fp : Nat → Prop) (W : World), S xs → w.heap.size ≤ W.heap.size → U xs Fp W → Q .normal a W)
    (hstop : ∀ (c : Code) (pre : List α) (Fp : Nat → Prop) (W : World), Sp pre → w.heap.size ≤ W.heap.size → Ux c pre Fp W → c.wpIn F n P Q a W) :
    (Code.rangeFunc g ps assign body).wpIn F n P Q a w := by
  refine wpIn_rangeFunc fun fn hfn => ?_
  rw [hro]
  let rec_ : LoopState → Option Code → Loop := fun st pe => { state := st, pending := pe, fn, tmps := a.tmps, params := ps, assign, body, defers := r₀.defers }
  have hrs : ∀ st pe, (rec_ st pe).state = st := fun _ _ => rfl
  have hrp : ∀ st pe, (rec_ st pe).params = ps := fun _ _ => rfl
  have hrb : ∀ st pe st' pe', { rec_ st pe with state := st', pending := pe' } = rec_ st' pe' := fun _ _ _ _ => rfl
  have hrb2 : ∀ st pe st', { rec_ st pe with state := st' } = rec_ st' pe := fun _ _ _ => rfl
  have hrf : ∀ st pe, (rec_ st pe).fn = fn ∧ (rec_ st pe).assign = assign ∧ (rec_ st pe).body = body ∧ (rec_ st pe).tmps = a.tmps ∧ (rec_ st pe).pending = pe := fun _ _ => ⟨rfl, rfl, rfl, rfl, rfl⟩
  have hent : (Instr.enterLoop fn a.tmps ps assign body (some l₀)).run P w = .ok (w.heap.size, []) (w.alloc (.loop (rec_ .ready none))) := run_enterLoop_inner hl₀ fn a.tmps ps assign body
  let Bk : Loop → World → Prop := fun r W => W.heap[w.heap.size]? = some (.loop r)
  have hBk : ∀ r W, Bk r W ↔ (W.heap[w.heap.size]? = some (.loop r)) := fun _ _ => Iff.rfl
  generalize hW1 : w.alloc (.loop (rec_ .ready none)) = W1 at hent
  have hs1 : W1.heap.size = w.heap.size + 1 := by subst hW1; rw [World.size_alloc]
  have hB1 : Bk (rec_ .ready none) W1 := by
    subst hW1
    exact World.alloc_heap_new w _
  have hg1 : w.grownBy W1 none := by subst hW1; exact ⟨rfl, rfl, rfl, by simp, fun k hk _ => by rw [Below.heap_alloc _ _ _ hk]⟩
  have hU1 : U [] Fp0 W1 := hU _ _ _ _ _ h0 (Nat.le_refl _) hg1 (fun r e => by cases e)
  have hC1 : ∀ b, C b → b < W1.heap.size ∧ W1.heap[b]? = w0.heap[b]? := fun b hb => by
    obtain ⟨h1, h2⟩ := hC b hb
    exact ⟨by omega, by rw [hg1.block b h1 (fun e => by cases e)]; exact h2⟩
  clear_value Bk rec_
  have keep : ∀ {r A B} {Fp : Nat → Prop}, Only Fp A B → ¬ Fp w.heap.size → Bk r A → Bk r B := fun hk f0 hb => by
    rw [hBk] at hb ⊢
    exact (hk.block _ (Array.getElem?_eq_some_iff.1 hb).1 f0).trans hb
  have big : ∀ {r A}, Bk r A → w.heap.size < A.heap.size := fun hb => by rw [hBk] at hb; exact (Array.getElem?_eq_some_iff.1 hb).1
  have turn : ∀ {r A} (r' : Loop), Bk r A → Bk r' (A.putObj w.heap.size (.loop r')) := fun r' hb => by
    have h := big hb
    rw [hBk]
    exact World.putObj_heap_same h
  refine ⟨w.heap.size, [], W1, { target := .fn (.func gf) lb, args := #[.func (.yield w.heap.size) #[] #[]] }, W1, gf, #[.func (.yield w.heap.size) #[] #[]] ++ lb, W1, hent, ?_, ?_, ?_, fun _ => h1, ?_⟩
  · simp only [resolve, hg]
    simp [go_sem]
  · intro f' hf'; simp [Target.leads] at hf'; subst hf'; exact hFg
  · simp [invoke, go_sem, eg]
  refine (hseq w.heap.size (fun pre Fp' A => ∃ Fp, (∀ b, Fp' b ↔ Fp b ∨ b = w.heap.size) ∧ U pre Fp A ∧ Bk (rec_ .ready none) A ∧ ¬ Fp w.heap.size) (fun pre Fp' A => ∃ Fp c, (∀ b, Fp' b ↔ Fp b ∨ b = w.heap.size) ∧ Ux c pre Fp A ∧ Bk (rec_ .done (some c)) A ∧ ¬ Fp w.heap.size) W1 (fun b => Fp0 b ∨ b = w.heap.size) hC1 ?_ ?_ ?_ ?_ ?_).mono ?_
  · rintro b (hb | rfl)
    · exact ⟨by have := (hFp0 b hb).1; omega, (hFp0 b hb).2⟩
    · exact ⟨by omega, fun hc => by have := (hC _ hc).1; omega⟩
  · rintro pre Fp' A A' row ⟨Fp, hF, hu, hb, f0⟩ hsz hg hrow
    have hnl : ∀ r, row = some r → w.heap.size ≤ r ∧ ¬ Fp r := fun r e => ⟨by have := (hrow r e).1; omega, fun hf => (hrow r e).2 ((hF r).2 (.inl hf))⟩
    refine ⟨Fp, hF, hU _ _ _ _ _ hu (by omega) hg hnl, ?_, f0⟩
    rw [hBk] at hb ⊢
    exact (hg.block _ (Array.getElem?_eq_some_iff.1 hb).1 (fun e => by have := (hrow _ e.symm).1; omega)).trans hb
  · rintro pre Fp' A A' row ⟨Fp, c, hF, hu, hb, f0⟩ hsz hg hrow
    have hnl : ∀ r, row = some r → w.heap.size ≤ r ∧ ¬ Fp r := fun r e => ⟨by have := (hrow r e).1; omega, fun hf => (hrow r e).2 ((hF r).2 (.inl hf))⟩
    refine ⟨Fp, c, hF, hUx _ _ _ _ _ _ hu (by omega) hg hnl, ?_, f0⟩
    rw [hBk] at hb ⊢
    exact (hg.block _ (Array.getElem?_eq_some_iff.1 hb).1 (fun e => by have := (hrow _ e.symm).1; omega)).trans hb
  · rintro pre x Fp' A0 ⟨Fp, hF, hu, hb, f0⟩ hsz hlen
    have hl00 := (hBk _ _).1 hb
    have hy := run_yield (P := P) (args := encs x) hl00 (by rw [hrp]; exact hps x)
    obtain ⟨e1, e2, e3, e4, e5⟩ := hrf .ready none
    rw [e1, e2, e3, e4, hrp] at hy
    have hbs0 := big hb
    obtain ⟨A, hA⟩ : ∃ A, A = A0.alloc (ob x) := ⟨_, rfl⟩
    have hsA : A.heap.size = A0.heap.size + 1 := by rw [hA, World.size_alloc]
    have hoA : ∀ k, k < A0.heap.size → A.heap[k]? = A0.heap[k]? := fun k hk => by rw [hA]; exact Below.heap_alloc _ _ _ hk
    have hgA : A0.grownBy A none := by rw [hA]; exact ⟨rfl, rfl, rfl, by simp, fun k hk _ => Below.heap_alloc _ _ _ hk⟩
    have huA : U pre Fp A := hU _ _ _ _ _ hu (by omega) hgA (fun r e => by cases e)
    have hbA : Bk (rec_ .ready none) A := by
      rw [hBk] at hb ⊢
      exact (hoA _ hbs0).trans hb
    have hl0 := (hBk _ _).1 hbA
    have hub : U pre Fp (A.putObj (w.heap.size) (.loop (rec_ .busy none))) := hU _ _ _ _ _ huA (by omega) (grownBy_putObj' A (w.heap.size) _) (fun r e => by cases e; exact ⟨Nat.le_refl _, f0⟩)
    have hbb : Bk (rec_ .busy none) (A.putObj (w.heap.size) (.loop (rec_ .busy none))) := turn _ hbA
    have hsb : (A.putObj (w.heap.size) (.loop (rec_ .busy none))).heap.size = A0.heap.size + 1 := by rw [← hsA]; simp
    have hnew : (A.putObj (w.heap.size) (.loop (rec_ .busy none))).heap[A0.heap.size]? = some (ob x) := by
      rw [World.putObj_heap_other (by omega), hA]; exact World.alloc_heap_new _ _
    refine ⟨fn, _, assign, body, hy, roundIn_of_wpIn hfn (hassign _ x A0 _ ⟨pre, hlen⟩ ⟨_, by have := run_beginRound (P := P) hl0 (hrs _ _); rw [hrb2] at this; rw [← hA]; exact this, ?_⟩)⟩
    refine wpIn_mono (hbody _ pre x Fp A0.heap.size _ hub (by rw [hsb]; omega) hlen ⟨A0, hu, by omega, rfl⟩ (by rw [hsb]; omega) hnew) ?_
    have fin : ∀ (jump : Option Code) (W3 : World), Only Fp (A.putObj (w.heap.size) (.loop (rec_ .busy none))) W3 →
        (Instr.endRound (w.heap.size) jump).run P W3 = .ok (.bool jump.isNone) (W3.putObj (w.heap.size) (.loop (rec_ (if jump.isNone then .ready else .done) jump))) ∧
        W3.heap[w.heap.size]? = some (.loop (rec_ .busy none)) ∧ Bk (rec_ (if jump.isNone then .ready else .done) jump) (W3.putObj (w.heap.size) (.loop (rec_ (if jump.isNone then .ready else .done) jump))) := fun jump W3 hk3 => by
      have hb3 := keep hk3 f0 hbb
      have hl3 := (hBk _ _).1 hb3
      have := run_endRound (P := P) jump hl3
      rw [hrb] at this
      exact ⟨this, hl3, turn _ hb3⟩
    have hbs := big hbA
    have grow_ : ∀ (W3 : World) (Fp2 : Nat → Prop) (jump : Option Code), Only Fp (A.putObj (w.heap.size) (.loop (rec_ .busy none))) W3 → (∀ b, Fp2 b → Fp b ∨ (A.putObj (w.heap.size) (.loop (rec_ .busy none))).heap.size ≤ b) → ¬ Fp2 w.heap.size ∧
        Only Fp' A0 (W3.putObj (w.heap.size) (.loop (rec_ (if jump.isNone then .ready else .done) jump))) ∧ ∀ b, (Fp2 b ∨ b = w.heap.size) → Fp' b ∨ A0.heap.size ≤ b := fun W3 Fp2 jump ho2 hn2 => by
      rw [hsb] at hn2
      refine ⟨fun h => ?_, ?_, ?_⟩
      · rcases hn2 _ h with h | h
        · exact f0 h
        · omega
      · have s0 : W3.heap.size = (W3.putObj (w.heap.size) (.loop (rec_ (if jump.isNone then .ready else .done) jump))).heap.size := by simp
        refine ⟨ho2.os.trans hgA.os, ho2.tape.trans hgA.tape, ho2.output.trans hgA.output, ?_, fun k hk hnf => ?_⟩
        · have := ho2.size; rw [hsb] at this; rw [← s0]; omega
        · have hk1 : k ≠ w.heap.size := fun e => hnf ((hF k).2 (.inr e))
          have hk2 : ¬ Fp k := fun h => hnf ((hF k).2 (.inl h))
          rw [World.putObj_heap_other hk1, ho2.block k (by rw [hsb]; omega) hk2, World.putObj_heap_other hk1, hoA k hk]
      · rintro b (hb5 | rfl)
        · rcases hn2 b hb5 with h | h
          · exact .inl ((hF b).2 (.inl h))
          · exact .inr (by omega)
        · exact .inl ((hF _).2 (.inr rfl))
    rintro e a3 W3 hp
    cases e with
    | normal =>
      obtain ⟨Fp2, hu2, ho2, hn2⟩ := hp
      obtain ⟨hr, hl3, hb4⟩ := fin none W3 ho2
      obtain ⟨g0, k1, k2⟩ := grow_ W3 Fp2 none ho2 hn2
      exact ⟨_, _, hr, .inl ⟨rfl, fun b => Fp2 b ∨ b = w.heap.size, ⟨Fp2, fun b => Iff.rfl, hU _ _ _ _ _ hu2 (by have := ho2.size; rw [hsb] at this; omega) (grownBy_putObj' W3 (w.heap.size) _) (fun r e => by cases e; exact ⟨Nat.le_refl _, g0⟩), hb4, g0⟩, k1, k2⟩⟩
    | ret =>
      obtain ⟨Fp2, hu2, ho2, hn2⟩ := hp
      obtain ⟨hr, hl3, hb4⟩ := fin (some .ret) W3 ho2
      obtain ⟨g0, k1, k2⟩ := grow_ W3 Fp2 (some .ret) ho2 hn2
      exact ⟨_, _, hr, .inr ⟨rfl, fun b => Fp2 b ∨ b = w.heap.size, ⟨Fp2, .ret, fun b => Iff.rfl, hUx _ _ _ _ _ _ hu2 (by have := ho2.size; rw [hsb] at this; omega) (grownBy_putObj' W3 (w.heap.size) _) (fun r e => by cases e; exact ⟨Nat.le_refl _, g0⟩), hb4, g0⟩, k1, k2⟩⟩
    | exit id =>
      obtain ⟨Fp2, hu2, ho2, hn2⟩ := hp
      obtain ⟨hr, hl3, hb4⟩ := fin (some (.exit id)) W3 ho2
      obtain ⟨g0, k1, k2⟩ := grow_ W3 Fp2 (some (.exit id)) ho2 hn2
      exact ⟨_, _, hr, .inr ⟨rfl, fun b => Fp2 b ∨ b = w.heap.size, ⟨Fp2, (.exit id), fun b => Iff.rfl, hUx _ _ _ _ _ _ hu2 (by have := ho2.size; rw [hsb] at this; omega) (grownBy_putObj' W3 (w.heap.size) _) (fun r e => by cases e; exact ⟨Nat.le_refl _, g0⟩), hb4, g0⟩, k1, k2⟩⟩
    | goto t =>
      obtain ⟨Fp2, hu2, ho2, hn2⟩ := hp
      obtain ⟨hr, hl3, hb4⟩ := fin (some (.goto t)) W3 ho2
      obtain ⟨g0, k1, k2⟩ := grow_ W3 Fp2 (some (.goto t)) ho2 hn2
      exact ⟨_, _, hr, .inr ⟨rfl, fun b => Fp2 b ∨ b = w.heap.size, ⟨Fp2, (.goto t), fun b => Iff.rfl, hUx _ _ _ _ _ _ hu2 (by have := ho2.size; rw [hsb] at this; omega) (grownBy_putObj' W3 (w.heap.size) _) (fun r e => by cases e; exact ⟨Nat.le_refl _, g0⟩), hb4, g0⟩, k1, k2⟩⟩
    | panic ch => exact hp.elim
    | outgrown => exact hp.elim
  · exact ⟨Fp0, fun b => Iff.rfl, hU1, hB1, fun h => by have := (hFp0 _ h).1; omega⟩
  · rintro e W2 ⟨⟨v, rfl⟩, (⟨pre, Fp', hS, Fp, hF, hd, hb, f0⟩ | ⟨pre, Fp', hSp, Fp, c, hF, hx, hb, f0⟩)⟩
    · have hb2 := (hBk _ _).1 hb
      have hbs := big hb
      exact ⟨none, _, by have := run_endLoop (P := P) hb2 (by rw [hrs]; simp); rw [(hrf .ready none).2.2.2.2] at this; exact this, hdone pre Fp _ hS (by simp; omega) (hU _ _ _ _ _ hd (by omega) (grownBy_putObj' W2 (w.heap.size) _) (fun r e => by cases e; exact ⟨Nat.le_refl _, f0⟩))⟩
    · have hb2 := (hBk _ _).1 hb
      have hbs := big hb
      exact ⟨some c, _, by have := run_endLoop (P := P) hb2 (by rw [hrs]; simp); rw [(hrf .done (some c)).2.2.2.2] at this; exact this, hstop c pre Fp _ hSp (by simp; omega) (hUx _ _ _ _ _ _ hx (by omega) (grownBy_putObj' W2 (w.heap.size) _) (fun r e => by cases e; exact ⟨Nat.le_refl _, f0⟩))⟩
/-- An iterator's contract goes into a round as it is. -/
theorem SeqF.inRound {α : Type} {g : Nat} {lb : Array Value} {encs : α → Array Value} {S Sp : List α → Prop} {C : Nat → Prop} {w : World} (l : Nat) (h : SeqF F n P g lb encs S Sp C w) : SeqF (F.inRound l) n P g lb encs S Sp C w := h
end Fo
end Go.Proofs.YtocoonkachbjaaaDoor

/- ViewWhole's plain law: a tree's lines are the sessions' own, each as often; no line is more than one step below the one above it. -/
namespace Go.Proofs.YtocoonkachbjaaaDoor
open Go.RowKit Go.Proofs.NmPlain Go.Proofs.YtocoonkachbjaaaDoor.Sc
set_option linter.unusedVariables false
namespace Vw
/-- No one is more than one step below the one ahead of it. -/
def stepB : Nat → List (Nat × Nat) → Prop
  | _, [] => True
  | a, x :: r => x.1 ≤ a + 1 ∧ stepB x.1 r
theorem stepB_mono {a b : Nat} (h : a ≤ b) : ∀ {l : List (Nat × Nat)}, stepB a l → stepB b l
  | [], _ => trivial
  | x :: r, h2 => ⟨Nat.le_trans h2.1 (by omega), h2.2⟩
theorem stepB_append {m : Nat} {l2 : List (Nat × Nat)} (h2 : stepB m l2) : ∀ (l1 : List (Nat × Nat)) (a : Nat), m ≤ a → (∀ x ∈ l1, m ≤ x.1) → stepB a l1 → stepB a (l1 ++ l2)
  | [], a, ha, _, _ => stepB_mono ha h2
  | x :: r, a, ha, hm, h1 => ⟨h1.1, stepB_append h2 r x.1 (hm x List.mem_cons_self) (fun y hy => hm y (List.mem_cons_of_mem _ hy)) h1.2⟩
theorem pre_steps (kids : Nat → List Nat) : ∀ (f far : Nat) (l : List Nat) (a : Nat), far ≤ a + 1 → far ≤ a ∨ a + 1 = far → stepB a (Vt.pre kids f far l)
  | 0, far, l, a, _, _ => by
    have e : Vt.pre kids 0 far l = [] := rfl
    rw [e]; trivial
  | f + 1, far, [], a, h, _ => by rw [Vt.pre_nil]; trivial
  | f + 1, far, i :: l, a, h, _ => by
    rw [Vt.pre_cons]
    exact ⟨h, stepB_append (m := far) (pre_steps kids (f + 1) far l far (Nat.le_succ _) (.inl (Nat.le_refl _))) _ far (Nat.le_refl _) (fun x hx => Nat.le_of_succ_le (Vt.pre_far kids f (far + 1) _ x hx)) (pre_steps kids f (far + 1) (kids i) far (Nat.le_refl _) (.inr rfl))⟩
theorem stepB_at : ∀ (l : List (Nat × Nat)) (a k : Nat), stepB a l → ∀ (h : k + 1 < l.length), l[k + 1].1 ≤ l[k].1 + 1
  | [], _, _, _, h => absurd h (Nat.not_lt_zero _)
  | [x], _, k, _, h => absurd h (by simp)
  | x :: y :: r, a, 0, h1, h => h1.2.1
  | x :: y :: r, a, k + 1, h1, h => stepB_at (y :: r) x.1 k h1.2 (by simpa using h)
theorem ordV_step (ss : List Sess) (k : Nat) (h : k + 1 < (ordV ss).length) : (ordV ss)[k + 1].1 ≤ (ordV ss)[k].1 + 1 := stepB_at _ 0 k (pre_steps _ _ _ _ 0 (Nat.zero_le _) (.inl (Nat.le_refl _))) h
theorem ordV_zero (ss : List Sess) (h : 0 < (ordV ss).length) : (ordV ss)[0].1 = 0 := Vt.pre_head _ _ _ _ _ (by rw [List.head?_eq_getElem?]; exact List.getElem?_eq_getElem h)

/-- A line's first byte is no blank. -/
theorem dec_head : ∀ n : Nat, ∃ c r, Lib.decDigits n = c :: r ∧ c ≠ 32 := by
  intro n
  induction n using Nat.strongRecOn with
  | _ n ih =>
    rw [Lib.decDigits]
    by_cases h : n < 10
    · rw [dif_pos h]
      refine ⟨_, [], rfl, fun e => ?_⟩
      have h1 := congrArg UInt8.toNat e
      have h2 : (UInt8.ofNat (48 + n)).toNat = 48 + n := by simp; omega
      have h3 : (32 : UInt8).toNat = 32 := rfl
      omega
    · rw [dif_neg h]
      obtain ⟨c, r, e, hc⟩ := ih (n / 10) (by omega)
      rw [e]
      exact ⟨c, r ++ [UInt8.ofNat (48 + n % 10)], rfl, hc⟩
theorem text_head (ls : List ByteArray) (s : Sess) (now : Int) (h : 1 ≤ s.birth) : ∃ c r, textL ls s now = c :: r ∧ c ≠ 32 := by
  obtain ⟨c, r, e, hc⟩ := dec_head s.birth.toNat
  have e2 : Lib.itoa s.birth = c :: r := by unfold Lib.itoa; rw [if_neg (by omega)]; exact e
  refine ⟨c, r ++ ?_, ?_, hc⟩
  rotate_left
  · unfold textL Lib.join
    simp only [List.intercalate, List.intersperse_cons_cons, List.flatten_cons, e2, List.cons_append]
    rfl
theorem lineAt_head {ls : List ByteArray} {ss : List Sess} {now : Int} {i : Nat} (hi : i < ss.length) (h0 : (lineAt ls ss now i).2 = 0) : ∃ c r, (lineAt ls ss now i).1 = c :: r ∧ c ≠ 32 := by
  rw [lineAt_at hi] at h0 ⊢
  unfold lineL at h0 ⊢
  split at h0
  · simp at h0
  rename_i hb
  rw [if_neg hb]
  split at h0
  · simp at h0
  rename_i h1
  rw [if_neg h1]
  split at h0
  · simp at h0
  rename_i h2
  rw [if_neg h2]
  split at h0
  · simp at h0
  rename_i h3
  rw [if_neg h3]
  split at h0
  · simp at h0
  rename_i h4
  rw [if_neg h4]
  split at h0
  · simp at h0
  rename_i h5
  rw [if_neg h5]
  exact text_head ls _ now (by omega)
theorem padS_list (far : Nat) : (padS far).data.toList = List.replicate (2 * far) 32 := by
  have h := Lib.repeatL_replicate 32 2 far
  rw [Nat.mul_comm]
  exact h
theorem treeS_list {ls : List ByteArray} {ss : List Sess} {now : Int} {x : Nat × Nat} (hi : x.2 < ss.length) (h0 : (lineAt ls ss now x.2).2 = 0) : ∃ c r, (treeS ls ss now x).data.toList = List.replicate (2 * x.1) 32 ++ c :: r ∧ c ≠ 32 ∧ (lineS ls ss now x.2).data.toList = c :: r := by
  obtain ⟨c, r, e, hc⟩ := lineAt_head hi h0
  refine ⟨c, r, ?_, hc, e⟩
  unfold treeS
  rw [ByteArray.data_append, Array.toList_append, padS_list]
  congr 1
theorem treeS_cut {ls : List ByteArray} {ss : List Sess} {now : Int} {x : Nat × Nat} : (treeS ls ss now x).extract (2 * x.1) (treeS ls ss now x).size = lineS ls ss now x.2 := by
  have h1 : (padS x.1).data.toList.length = 2 * x.1 := by rw [padS_list, List.length_replicate]
  have h2 : (treeS ls ss now x).data.toList = (padS x.1).data.toList ++ (lineS ls ss now x.2).data.toList := by unfold treeS; rw [ByteArray.data_append, Array.toList_append]
  have h3 : ((treeS ls ss now x).extract (2 * x.1) (treeS ls ss now x).size).data.toList = (lineS ls ss now x.2).data.toList := by
    rw [extract_list, h2, ← h1, List.drop_left]
    refine List.take_of_length_le ?_
    have h4 : (treeS ls ss now x).size = (treeS ls ss now x).data.toList.length := rfl
    rw [h4, h2, List.length_append]; omega
  exact ByteArray.ext (Array.toList_inj.1 h3)

/-- How often a text stands among the lines that were seen; among the first of the tree. -/
def cSeen (T : Nat → ByteArray) (seen : Nat → Bool) (n : Nat) (x : ByteArray) : Nat := (List.range n).countP fun k => seen k && decide (T k = x)
def cTree (T : Nat → ByteArray) (l : List (Nat × Nat)) (x : ByteArray) : Nat := l.countP fun y => decide (T y.2 = x)
theorem cSeen_all {T : Nat → ByteArray} {seen : Nat → Bool} {n : Nat} {x : ByteArray} (h : ∀ k, k < n → seen k = true ∨ T k ≠ x) : cSeen T seen n x = (List.range n).countP fun k => decide (T k = x) := by
  unfold cSeen
  refine List.countP_congr fun k hk => ?_
  rcases h k (List.mem_range.1 hk) with h1 | h1
  · simp [h1]
  · simp [h1]
theorem cTree_all (T : Nat → ByteArray) (ss : List Sess) (x : ByteArray) : cTree T (ordV ss) x = (List.range ss.length).countP fun k => decide (T k = x) := by
  have h := Vt.ord_perm (bu ss) ss.length
  rw [← h.countP_eq, List.countP_map, ← ordV_ordL]
  rfl
/-- There is one that wasn't seen. -/
theorem cSeen_some {T : Nat → ByteArray} {seen : Nat → Bool} {ss : List Sess} {i : Nat} (hi : i < (ordV ss).length) (h : ∀ x, cSeen T seen ss.length x = cTree T ((ordV ss).take i) x) (ha : ∀ k, k < ss.length → seen k = true ∨ T k ≠ T (ordV ss)[i].2) : False := by
  obtain ⟨y, hy⟩ : ∃ y, y = T (ordV ss)[i].2 := ⟨_, rfl⟩
  rw [← hy] at ha
  have h1 := cSeen_all ha
  rw [h, ← cTree_all] at h1
  have h2 : ordV ss = (ordV ss).take i ++ ((ordV ss)[i] :: (ordV ss).drop (i + 1)) := by
    rw [← List.drop_eq_getElem_cons hi, List.take_append_drop]
  have h3 : cTree T (ordV ss) y = cTree T ((ordV ss).take i) y + (1 + cTree T ((ordV ss).drop (i + 1)) y) := by
    unfold cTree
    conv => lhs; rw [h2]
    rw [List.countP_append, List.countP_cons_of_pos (by simp [hy])]
    omega
  omega
theorem countP_set (f g : Nat → Bool) (k : Nat) (hf : f k = false) (hg : g k = true) (he : ∀ j, j ≠ k → g j = f j) : ∀ n, (List.range n).countP g = (List.range n).countP f + if k < n then 1 else 0
  | 0 => by simp
  | n + 1 => by
    rw [List.range_succ, List.countP_append, List.countP_append, countP_set f g k hf hg he n]
    by_cases h : n = k
    · subst h
      rw [if_neg (Nat.lt_irrefl _), if_pos (Nat.lt_succ_self _)]
      simp [hf, hg]
    · have h1 := he n h
      have h2 : (k < n + 1) ↔ (k < n) := by omega
      simp [h1, h2]
      omega
theorem cSeen_next {T : Nat → ByteArray} {seen : Nat → Bool} {ss : List Sess} {i k : Nat} (hi : i < (ordV ss).length) (hk : k < ss.length) (h : ∀ x, cSeen T seen ss.length x = cTree T ((ordV ss).take i) x) (hs : seen k = false) (ht : T k = T (ordV ss)[i].2) (x : ByteArray) :
    cSeen T (fun j => if j = k then true else seen j) ss.length x = cTree T ((ordV ss).take (i + 1)) x := by
  have h2 : (ordV ss).take (i + 1) = (ordV ss).take i ++ [(ordV ss)[i]] := (List.take_append_getElem hi).symm
  have h3 : cTree T ((ordV ss).take (i + 1)) x = cTree T ((ordV ss).take i) x + if T (ordV ss)[i].2 = x then 1 else 0 := by
    unfold cTree
    rw [h2, List.countP_append]
    by_cases hx : T (ordV ss)[i].2 = x <;> simp [hx]
  rw [h3, ← h]
  unfold cSeen
  by_cases hx : T k = x
  · rw [countP_set (fun j => seen j && decide (T j = x)) (fun j => (if j = k then true else seen j) && decide (T j = x)) k (by simp [hs]) (by simp [hx]) (fun j hj => by simp [hj]) ss.length, if_pos hk, if_pos (by rw [← ht]; exact hx)]
  · rw [if_neg (by rw [← ht]; exact hx), Nat.add_zero]
    refine List.countP_congr fun j _ => ?_
    by_cases hj : j = k
    · subst hj; simp [hx]
    · simp [hj]

set_option maxHeartbeats 2000000 in
theorem blanks_any (T : ByteArray) (m : Nat) (hm : m ≤ 65536) (c : UInt8) (r : List UInt8) (hT : T.data.toList = List.replicate m 32 ++ c :: r) (hc : c ≠ 32) (w : World) :
    Calls Tryd.prog 15 #[.string T] w fun e w' => e = .returned (.int .i64 m) ∧ Below w.heap.size w w' := by
  have hsz : T.size = m + 1 + r.length := by
    have h1 : T.size = T.data.toList.length := rfl
    rw [h1, hT, List.length_append, List.length_replicate, List.length_cons]; omega
  have hat : ∀ (k : Nat) (hk : k < T.size), T[k] = (List.replicate m 32 ++ c :: r)[k]'(by rw [← hT]; exact hk) := fun k hk => by
    have h1 : T[k] = T.data.toList[k]'hk := rfl
    rw [h1]
    simp only [hT]
  have HAT := Lib.hid hat; have HSZ := Lib.hid hsz
  clear hat hsz
  go_enter Tryd.func15, Tryd.ntmps15
  go_wp2
  go_loopw [3] (fun i wr => ∃ k : Nat, k ≤ m ∧ i = .int .i64 k ∧ Below w.heap.size w wr) (fun i _ => m - (intOf i).toNat)
  case atStart => exact ⟨0, Nat.zero_le _, rfl, Below.refl _ _⟩
  case round =>
    obtain ⟨k, hk, rfl, hb⟩ := hrel
    have HB := Lib.hid hb
    clear hb
    have hks : k < T.size := by have := HSZ.out; omega
    have b1 : (0 : Int) ≤ (k : Int) := by omega
    have b2 : (k : Int) < (T.size : Int) := by omega
    have hq0 := HAT.out k hks
    by_cases h : k < m
    · have hq : ((T[k].toNat : Int) == 32) = true := by
        rw [hq0, List.getElem_append_left (by simpa using h), List.getElem_replicate]; rfl
      have HH := Lib.hid h
      clear h hq0
      go_wp2
      go_roundw
      case rel => have := HH.out; exact ⟨k + 1, by omega, by go_num, HB.out⟩
      case measure => have := HH.out; simp [intOf]; omega
    · obtain rfl : k = m := by omega
      have hq : ((T[k].toNat : Int) == 32) = false := by
        rw [beq_eq_false_iff_ne]
        intro h1
        rw [hq0, List.getElem_append_right (by simp)] at h1
        simp at h1
        exact hc (UInt8.toNat_inj.1 (by have : (32 : UInt8).toNat = 32 := rfl; omega))
      clear h hq0
      go_wp2
      go_ret
      exact ⟨rfl, HB.out⟩
end Vw
end Go.Proofs.YtocoonkachbjaaaDoor
