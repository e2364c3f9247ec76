/- Several texts in one: what each proves its own first comment says. -/
import Derived.Test.YtocoonkachbjaaaGreatDoorM17
import Derived.RangeFuncNested
import Derived.Test.YtocoonkachbjaaaGreatDoorM24
import Derived.Test.YtocoonkachbjaaaGreatDoorM4
import Derived.Test.YtocoonkachbjaaaGreatDoorM23

/- Ranging over an iterator within a round of another loop (printed by wip/mkfootn.py out of XFootA): the outer loop tells its body of its record; the inner one lays one block. No program's code. -/
namespace Go.Proofs.YtocoonkachbjaaaGreatDoor
open Go.RowKit
set_option linter.unusedVariables false
namespace Fo
variable {F : Fence} {n : Nat} {P : Program}

/-- **The statement**, the body told of the record, where the loop's own variable lies in a block that each round makes. -/
theorem range_foot_own {α : Type} {g : Operand} {ps : Array Tmp} {assign body : Code} {Q : Exit → Act → World → Prop} {a : Act} {w w0 : World}
    (hro : F.round = none) (h1 : 1 ≤ n) {gf : Nat} {lb : Array Value} (hg : a.eval g = .func (.func gf) #[] lb) (hFg : F.fn gf) (eg : ∀ args w, (callFunc gf args).run P w = .ok (.enter gf args) w)
    {encs : α → Array Value} {S Sp : List α → Prop} {C : Nat → Prop} (hseq : SeqF F (n - 1) P gf lb encs S Sp C w0) (hps : ∀ x, (encs x).size = ps.size) (hC : ∀ b, C b → b < w.heap.size ∧ w.heap[b]? = w0.heap[b]?)
    (U : List α → (Nat → Prop) → World → Prop) (Ux : Code → List α → (Nat → Prop) → World → Prop) (Fp0 : Nat → Prop) (hFp0 : ∀ b, Fp0 b → b < w.heap.size ∧ ¬ C b)
    (hU : ∀ pre Fp A A' row, U pre Fp A → w.heap.size ≤ A.heap.size → A.grownBy A' row → (∀ r, row = some r → w.heap.size ≤ r ∧ ¬ Fp r) → U pre Fp A')
    (hUx : ∀ c pre Fp A A' row, Ux c pre Fp A → w.heap.size ≤ A.heap.size → A.grownBy A' row → (∀ r, row = some r → w.heap.size ≤ r ∧ ¬ Fp r) → Ux c pre Fp A')
    (h0 : U [] Fp0 w) (a₁ : α → Nat → Act) (ob : α → Obj)
    (hassign : ∀ (l : Nat) (x : α) (W : World) (K : Act → World → Prop), (∃ pre, Sp (pre ++ [x])) → K (a₁ x W.heap.size) (W.alloc (ob x)) → assign.wpIn (F.inRound l) (n - 1 - 1) P (Exit.then K (fun _ _ _ => False)) { tmps := (ps.zip (encs x)).foldl (fun t (p, v) => t.setIfInBounds p v) a.tmps, defers := [] } W)
    (hbody : ∀ (l : Nat) (pre : List α) (x : α) (Fp : Nat → Prop) (b : Nat) (W : World), U pre Fp W → w.heap.size ≤ W.heap.size → Sp (pre ++ [x]) → (∃ A, U pre Fp A ∧ w.heap.size ≤ A.heap.size ∧ A.heap.size = b) → b < W.heap.size → W.heap[b]? = some (ob x) → (w.heap.size ≤ l ∧ ¬ Fp l ∧ ∃ r, W.heap[l]? = some (.loop r)) → body.wpIn (F.inRound l) (n - 1 - 1) P (Left Fp U Ux (pre ++ [x]) W) (a₁ x b) W)
    (hdone : ∀ (d : Nat) (xs : List α) (Fp : Nat → Prop) (W : World), S xs → w.heap.size ≤ d → U xs Fp W → ¬ Fp d → W.heap[d]? = some (.deferred (some [])) → Q .normal { a with defers := { target := .collected d, args := #[] } :: a.defers } W)
    (hstop : ∀ (d : Nat) (c : Code) (pre : List α) (Fp : Nat → Prop) (W : World), Sp pre → w.heap.size ≤ d → Ux c pre Fp W → ¬ Fp d → W.heap[d]? = some (.deferred (some [])) → c.wpIn F n P Q { a with defers := { target := .collected d, args := #[] } :: a.defers } W) :
    (Code.rangeFunc g ps assign body).wpIn F n P Q a w := by
  refine wpIn_rangeFunc fun fn hfn => ?_
  rw [hro]
  let rec_ : LoopState → Option Code → Loop := fun st pe => { state := st, pending := pe, fn, tmps := a.tmps, params := ps, assign, body, defers := w.heap.size }
  have hrs : ∀ st pe, (rec_ st pe).state = st := fun _ _ => rfl
  have hrp : ∀ st pe, (rec_ st pe).params = ps := fun _ _ => rfl
  have hrb : ∀ st pe st' pe', { rec_ st pe with state := st', pending := pe' } = rec_ st' pe' := fun _ _ _ _ => rfl
  have hrb2 : ∀ st pe st', { rec_ st pe with state := st' } = rec_ st' pe := fun _ _ _ => rfl
  have hrf : ∀ st pe, (rec_ st pe).fn = fn ∧ (rec_ st pe).assign = assign ∧ (rec_ st pe).body = body ∧ (rec_ st pe).tmps = a.tmps ∧ (rec_ st pe).pending = pe := fun _ _ => ⟨rfl, rfl, rfl, rfl, rfl⟩
  have hent : (Instr.enterLoop fn a.tmps ps assign body none).run P w = .ok (w.heap.size + 1, [{ target := .collected w.heap.size, args := #[] }]) ((w.alloc (.deferred (some []))).alloc (.loop (rec_ .ready none))) := run_enterLoop_outer fn a.tmps ps assign body
  let Bk : Loop → World → Prop := fun r W => W.heap[w.heap.size + 1]? = some (.loop r) ∧ W.heap[w.heap.size]? = some (.deferred (some []))
  have hBk : ∀ r W, Bk r W ↔ (W.heap[w.heap.size + 1]? = some (.loop r) ∧ W.heap[w.heap.size]? = some (.deferred (some []))) := fun _ _ => Iff.rfl
  generalize hW1 : (w.alloc (.deferred (some []))).alloc (.loop (rec_ .ready none)) = W1 at hent
  have hs1 : W1.heap.size = w.heap.size + 2 := by subst hW1; rw [World.size_alloc, World.size_alloc]
  have hB1 : Bk (rec_ .ready none) W1 := by
    subst hW1
    refine ⟨?_, (Below.heap_alloc _ _ _ (by simp)).trans (World.alloc_heap_new w _)⟩
    have := World.alloc_heap_new (w.alloc (.deferred (some []))) (.loop (rec_ .ready none))
    rwa [World.size_alloc] at this
  have hg1 : w.grownBy W1 none := by subst hW1; exact ⟨rfl, rfl, rfl, by simp; omega, fun k hk _ => by rw [Below.heap_alloc _ _ _ (by simp; omega), Below.heap_alloc _ _ _ hk]⟩
  have hU1 : U [] Fp0 W1 := hU _ _ _ _ _ h0 (Nat.le_refl _) hg1 (fun r e => by cases e)
  have hC1 : ∀ b, C b → b < W1.heap.size ∧ W1.heap[b]? = w0.heap[b]? := fun b hb => by
    obtain ⟨h1, h2⟩ := hC b hb
    exact ⟨by omega, by rw [hg1.block b h1 (fun e => by cases e)]; exact h2⟩
  clear_value Bk rec_
  have keep : ∀ {r A B} {Fp : Nat → Prop}, Only Fp A B → ¬ Fp w.heap.size → ¬ Fp (w.heap.size + 1) → Bk r A → Bk r B := fun hk f0 f1 hb => by
    rw [hBk] at hb ⊢
    exact ⟨(hk.block _ (Array.getElem?_eq_some_iff.1 hb.1).1 f1).trans hb.1, (hk.block _ (Array.getElem?_eq_some_iff.1 hb.2).1 f0).trans hb.2⟩
  have big : ∀ {r A}, Bk r A → w.heap.size + 1 < A.heap.size := fun hb => by rw [hBk] at hb; exact (Array.getElem?_eq_some_iff.1 hb.1).1
  have turn : ∀ {r A} (r' : Loop), Bk r A → Bk r' (A.putObj (w.heap.size + 1) (.loop r')) := fun r' hb => by
    have h := big hb
    rw [hBk] at hb ⊢
    exact ⟨World.putObj_heap_same h, (World.putObj_heap_other (by omega)).trans hb.2⟩
  refine ⟨w.heap.size + 1, [{ target := .collected w.heap.size, args := #[] }], W1, { target := .fn (.func gf) lb, args := #[.func (.yield (w.heap.size + 1)) #[] #[]] }, W1, gf, #[.func (.yield (w.heap.size + 1)) #[] #[]] ++ lb, W1, hent, ?_, ?_, ?_, fun _ => h1, ?_⟩
  · simp only [resolve, hg]
    simp [go_sem]
  · intro f' hf'; simp [Target.leads] at hf'; subst hf'; exact hFg
  · simp [invoke, go_sem, eg]
  refine (hseq (w.heap.size + 1) (fun pre Fp' A => ∃ Fp, (∀ b, Fp' b ↔ Fp b ∨ b = w.heap.size + 1) ∧ U pre Fp A ∧ Bk (rec_ .ready none) A ∧ ¬ Fp w.heap.size ∧ ¬ Fp (w.heap.size + 1)) (fun pre Fp' A => ∃ Fp c, (∀ b, Fp' b ↔ Fp b ∨ b = w.heap.size + 1) ∧ Ux c pre Fp A ∧ Bk (rec_ .done (some c)) A ∧ ¬ Fp w.heap.size ∧ ¬ Fp (w.heap.size + 1)) W1 (fun b => Fp0 b ∨ b = w.heap.size + 1) hC1 ?_ ?_ ?_ ?_ ?_).mono ?_
  · rintro b (hb | rfl)
    · exact ⟨by have := (hFp0 b hb).1; omega, (hFp0 b hb).2⟩
    · exact ⟨by omega, fun hc => by have := (hC _ hc).1; omega⟩
  · rintro pre Fp' A A' row ⟨Fp, hF, hu, hb, f0, f1⟩ hsz hg hrow
    have hnl : ∀ r, row = some r → w.heap.size ≤ r ∧ ¬ Fp r := fun r e => ⟨by have := (hrow r e).1; omega, fun hf => (hrow r e).2 ((hF r).2 (.inl hf))⟩
    refine ⟨Fp, hF, hU _ _ _ _ _ hu (by omega) hg hnl, ?_, f0, f1⟩
    rw [hBk] at hb ⊢
    exact ⟨(hg.block _ (Array.getElem?_eq_some_iff.1 hb.1).1 (fun e => by have := (hrow _ e.symm).1; omega)).trans hb.1, (hg.block _ (Array.getElem?_eq_some_iff.1 hb.2).1 (fun e => by have := (hrow _ e.symm).1; omega)).trans hb.2⟩
  · rintro pre Fp' A A' row ⟨Fp, c, hF, hu, hb, f0, f1⟩ hsz hg hrow
    have hnl : ∀ r, row = some r → w.heap.size ≤ r ∧ ¬ Fp r := fun r e => ⟨by have := (hrow r e).1; omega, fun hf => (hrow r e).2 ((hF r).2 (.inl hf))⟩
    refine ⟨Fp, c, hF, hUx _ _ _ _ _ _ hu (by omega) hg hnl, ?_, f0, f1⟩
    rw [hBk] at hb ⊢
    exact ⟨(hg.block _ (Array.getElem?_eq_some_iff.1 hb.1).1 (fun e => by have := (hrow _ e.symm).1; omega)).trans hb.1, (hg.block _ (Array.getElem?_eq_some_iff.1 hb.2).1 (fun e => by have := (hrow _ e.symm).1; omega)).trans hb.2⟩
  · rintro pre x Fp' A0 ⟨Fp, hF, hu, hb, f0, f1⟩ hsz hlen
    have hl00 := ((hBk _ _).1 hb).1
    have hy := run_yield (P := P) (args := encs x) hl00 (by rw [hrp]; exact hps x)
    obtain ⟨e1, e2, e3, e4, e5⟩ := hrf .ready none
    rw [e1, e2, e3, e4, hrp] at hy
    have hbs0 := big hb
    obtain ⟨A, hA⟩ : ∃ A, A = A0.alloc (ob x) := ⟨_, rfl⟩
    have hsA : A.heap.size = A0.heap.size + 1 := by rw [hA, World.size_alloc]
    have hoA : ∀ k, k < A0.heap.size → A.heap[k]? = A0.heap[k]? := fun k hk => by rw [hA]; exact Below.heap_alloc _ _ _ hk
    have hgA : A0.grownBy A none := by rw [hA]; exact ⟨rfl, rfl, rfl, by simp, fun k hk _ => Below.heap_alloc _ _ _ hk⟩
    have huA : U pre Fp A := hU _ _ _ _ _ hu (by omega) hgA (fun r e => by cases e)
    have hbA : Bk (rec_ .ready none) A := by
      rw [hBk] at hb ⊢
      exact ⟨(hoA _ hbs0).trans hb.1, (hoA _ (by omega)).trans hb.2⟩
    have hl0 := ((hBk _ _).1 hbA).1
    have hub : U pre Fp (A.putObj (w.heap.size + 1) (.loop (rec_ .busy none))) := hU _ _ _ _ _ huA (by omega) (grownBy_putObj' A (w.heap.size + 1) _) (fun r e => by cases e; exact ⟨Nat.le_succ _, f1⟩)
    have hbb : Bk (rec_ .busy none) (A.putObj (w.heap.size + 1) (.loop (rec_ .busy none))) := turn _ hbA
    have hsb : (A.putObj (w.heap.size + 1) (.loop (rec_ .busy none))).heap.size = A0.heap.size + 1 := by rw [← hsA]; simp
    have hnew : (A.putObj (w.heap.size + 1) (.loop (rec_ .busy none))).heap[A0.heap.size]? = some (ob x) := by
      rw [World.putObj_heap_other (by omega), hA]; exact World.alloc_heap_new _ _
    refine ⟨fn, _, assign, body, hy, roundIn_of_wpIn hfn (hassign _ x A0 _ ⟨pre, hlen⟩ ⟨_, by have := run_beginRound (P := P) hl0 (hrs _ _); rw [hrb2] at this; rw [← hA]; exact this, ?_⟩)⟩
    refine wpIn_mono (hbody _ pre x Fp A0.heap.size _ hub (by rw [hsb]; omega) hlen ⟨A0, hu, by omega, rfl⟩ (by rw [hsb]; omega) hnew ⟨Nat.le_succ _, f1, _, ((hBk _ _).1 hbb).1⟩) ?_
    have fin : ∀ (jump : Option Code) (W3 : World), Only Fp (A.putObj (w.heap.size + 1) (.loop (rec_ .busy none))) W3 →
        (Instr.endRound (w.heap.size + 1) jump).run P W3 = .ok (.bool jump.isNone) (W3.putObj (w.heap.size + 1) (.loop (rec_ (if jump.isNone then .ready else .done) jump))) ∧
        W3.heap[w.heap.size + 1]? = some (.loop (rec_ .busy none)) ∧ Bk (rec_ (if jump.isNone then .ready else .done) jump) (W3.putObj (w.heap.size + 1) (.loop (rec_ (if jump.isNone then .ready else .done) jump))) := fun jump W3 hk3 => by
      have hb3 := keep hk3 f0 f1 hbb
      have hl3 := ((hBk _ _).1 hb3).1
      have := run_endRound (P := P) jump hl3
      rw [hrb] at this
      exact ⟨this, hl3, turn _ hb3⟩
    have hbs := big hbA
    have grow_ : ∀ (W3 : World) (Fp2 : Nat → Prop) (jump : Option Code), Only Fp (A.putObj (w.heap.size + 1) (.loop (rec_ .busy none))) W3 → (∀ b, Fp2 b → Fp b ∨ (A.putObj (w.heap.size + 1) (.loop (rec_ .busy none))).heap.size ≤ b) → ¬ Fp2 w.heap.size ∧ ¬ Fp2 (w.heap.size + 1) ∧
        Only Fp' A0 (W3.putObj (w.heap.size + 1) (.loop (rec_ (if jump.isNone then .ready else .done) jump))) ∧ ∀ b, (Fp2 b ∨ b = w.heap.size + 1) → Fp' b ∨ A0.heap.size ≤ b := fun W3 Fp2 jump ho2 hn2 => by
      rw [hsb] at hn2
      refine ⟨fun h => ?_, fun h => ?_, ?_, ?_⟩
      · rcases hn2 _ h with h | h
        · exact f0 h
        · omega
      · rcases hn2 _ h with h | h
        · exact f1 h
        · omega
      · have s0 : W3.heap.size = (W3.putObj (w.heap.size + 1) (.loop (rec_ (if jump.isNone then .ready else .done) jump))).heap.size := by simp
        refine ⟨ho2.os.trans hgA.os, ho2.tape.trans hgA.tape, ho2.output.trans hgA.output, ?_, fun k hk hnf => ?_⟩
        · have := ho2.size; rw [hsb] at this; rw [← s0]; omega
        · have hk1 : k ≠ w.heap.size + 1 := fun e => hnf ((hF k).2 (.inr e))
          have hk2 : ¬ Fp k := fun h => hnf ((hF k).2 (.inl h))
          rw [World.putObj_heap_other hk1, ho2.block k (by rw [hsb]; omega) hk2, World.putObj_heap_other hk1, hoA k hk]
      · rintro b (hb5 | rfl)
        · rcases hn2 b hb5 with h | h
          · exact .inl ((hF b).2 (.inl h))
          · exact .inr (by omega)
        · exact .inl ((hF _).2 (.inr rfl))
    rintro e a3 W3 hp
    cases e with
    | normal =>
      obtain ⟨Fp2, hu2, ho2, hn2⟩ := hp
      obtain ⟨hr, hl3, hb4⟩ := fin none W3 ho2
      obtain ⟨g0, g1, k1, k2⟩ := grow_ W3 Fp2 none ho2 hn2
      exact ⟨_, _, hr, .inl ⟨rfl, fun b => Fp2 b ∨ b = w.heap.size + 1, ⟨Fp2, fun b => Iff.rfl, hU _ _ _ _ _ hu2 (by have := ho2.size; rw [hsb] at this; omega) (grownBy_putObj' W3 (w.heap.size + 1) _) (fun r e => by cases e; exact ⟨Nat.le_succ _, g1⟩), hb4, g0, g1⟩, k1, k2⟩⟩
    | ret =>
      obtain ⟨Fp2, hu2, ho2, hn2⟩ := hp
      obtain ⟨hr, hl3, hb4⟩ := fin (some .ret) W3 ho2
      obtain ⟨g0, g1, k1, k2⟩ := grow_ W3 Fp2 (some .ret) ho2 hn2
      exact ⟨_, _, hr, .inr ⟨rfl, fun b => Fp2 b ∨ b = w.heap.size + 1, ⟨Fp2, .ret, fun b => Iff.rfl, hUx _ _ _ _ _ _ hu2 (by have := ho2.size; rw [hsb] at this; omega) (grownBy_putObj' W3 (w.heap.size + 1) _) (fun r e => by cases e; exact ⟨Nat.le_succ _, g1⟩), hb4, g0, g1⟩, k1, k2⟩⟩
    | exit id =>
      obtain ⟨Fp2, hu2, ho2, hn2⟩ := hp
      obtain ⟨hr, hl3, hb4⟩ := fin (some (.exit id)) W3 ho2
      obtain ⟨g0, g1, k1, k2⟩ := grow_ W3 Fp2 (some (.exit id)) ho2 hn2
      exact ⟨_, _, hr, .inr ⟨rfl, fun b => Fp2 b ∨ b = w.heap.size + 1, ⟨Fp2, (.exit id), fun b => Iff.rfl, hUx _ _ _ _ _ _ hu2 (by have := ho2.size; rw [hsb] at this; omega) (grownBy_putObj' W3 (w.heap.size + 1) _) (fun r e => by cases e; exact ⟨Nat.le_succ _, g1⟩), hb4, g0, g1⟩, k1, k2⟩⟩
    | goto t =>
      obtain ⟨Fp2, hu2, ho2, hn2⟩ := hp
      obtain ⟨hr, hl3, hb4⟩ := fin (some (.goto t)) W3 ho2
      obtain ⟨g0, g1, k1, k2⟩ := grow_ W3 Fp2 (some (.goto t)) ho2 hn2
      exact ⟨_, _, hr, .inr ⟨rfl, fun b => Fp2 b ∨ b = w.heap.size + 1, ⟨Fp2, (.goto t), fun b => Iff.rfl, hUx _ _ _ _ _ _ hu2 (by have := ho2.size; rw [hsb] at this; omega) (grownBy_putObj' W3 (w.heap.size + 1) _) (fun r e => by cases e; exact ⟨Nat.le_succ _, g1⟩), hb4, g0, g1⟩, k1, k2⟩⟩
    | panic ch => exact hp.elim
    | outgrown => exact hp.elim
  · exact ⟨Fp0, fun b => Iff.rfl, hU1, hB1, fun h => by have := (hFp0 _ h).1; omega, fun h => by have := (hFp0 _ h).1; omega⟩
  · rintro e W2 ⟨⟨v, rfl⟩, (⟨pre, Fp', hS, Fp, hF, hd, hb, f0, f1⟩ | ⟨pre, Fp', hSp, Fp, c, hF, hx, hb, f0, f1⟩)⟩
    · have hb2 := (hBk _ _).1 hb
      have hbs := big hb
      exact ⟨none, _, by have := run_endLoop (P := P) hb2.1 (by rw [hrs]; simp); rw [(hrf .ready none).2.2.2.2] at this; exact this, hdone _ pre Fp _ hS (Nat.le_refl _) (hU _ _ _ _ _ hd (by omega) (grownBy_putObj' W2 (w.heap.size + 1) _) (fun r e => by cases e; exact ⟨Nat.le_succ _, f1⟩)) f0 ((World.putObj_heap_other (by omega)).trans hb2.2)⟩
    · have hb2 := (hBk _ _).1 hb
      have hbs := big hb
      exact ⟨some c, _, by have := run_endLoop (P := P) hb2.1 (by rw [hrs]; simp); rw [(hrf .done (some c)).2.2.2.2] at this; exact this, hstop _ c pre Fp _ hSp (Nat.le_refl _) (hUx _ _ _ _ _ _ hx (by omega) (grownBy_putObj' W2 (w.heap.size + 1) _) (fun r e => by cases e; exact ⟨Nat.le_succ _, f1⟩)) f0 ((World.putObj_heap_other (by omega)).trans hb2.2)⟩

/-- **Within a round**, where the loop's own variable lies in a block that each round makes. -/
theorem range_foot_in {α : Type} {g : Operand} {ps : Array Tmp} {assign body : Code} {Q : Exit → Act → World → Prop} {a : Act} {w w0 : World}
    {l₀ : Nat} {r₀ : Loop} (hro : F.round = some l₀) (hl₀ : w.heap[l₀]? = some (.loop r₀)) (h1 : 1 ≤ n) {gf : Nat} {lb : Array Value} (hg : a.eval g = .func (.func gf) #[] lb) (hFg : F.fn gf) (eg : ∀ args w, (callFunc gf args).run P w = .ok (.enter gf args) w)
    {encs : α → Array Value} {S Sp : List α → Prop} {C : Nat → Prop} (hseq : SeqF F (n - 1) P gf lb encs S Sp C w0) (hps : ∀ x, (encs x).size = ps.size) (hC : ∀ b, C b → b < w.heap.size ∧ w.heap[b]? = w0.heap[b]?)
    (U : List α → (Nat → Prop) → World → Prop) (Ux : Code → List α → (Nat → Prop) → World → Prop) (Fp0 : Nat → Prop) (hFp0 : ∀ b, Fp0 b → b < w.heap.size ∧ ¬ C b)
    (hU : ∀ pre Fp A A' row, U pre Fp A → w.heap.size ≤ A.heap.size → A.grownBy A' row → (∀ r, row = some r → w.heap.size ≤ r ∧ ¬ Fp r) → U pre Fp A')
    (hUx : ∀ c pre Fp A A' row, Ux c pre Fp A → w.heap.size ≤ A.heap.size → A.grownBy A' row → (∀ r, row = some r → w.heap.size ≤ r ∧ ¬ Fp r) → Ux c pre Fp A')
    (h0 : U [] Fp0 w) (a₁ : α → Nat → Act) (ob : α → Obj)
    (hassign : ∀ (l : Nat) (x : α) (W : World) (K : Act → World → Prop), (∃ pre, Sp (pre ++ [x])) → K (a₁ x W.heap.size) (W.alloc (ob x)) → assign.wpIn (F.inRound l) (n - 1 - 1) P (Exit.then K (fun _ _ _ => False)) { tmps := (ps.zip (encs x)).foldl (fun t (p, v) => t.setIfInBounds p v) a.tmps, defers := [] } W)
    (hbody : ∀ (l : Nat) (pre : List α) (x : α) (Fp : Nat → Prop) (b : Nat) (W : World), U pre Fp W → w.heap.size ≤ W.heap.size → Sp (pre ++ [x]) → (∃ A, U pre Fp A ∧ w.heap.size ≤ A.heap.size ∧ A.heap.size = b) → b < W.heap.size → W.heap[b]? = some (ob x) → body.wpIn (F.inRound l) (n - 1 - 1) P (Left Fp U Ux (pre ++ [x]) W) (a₁ x b) W)
    (hdone : ∀ (xs : List α) (Fp : Nat → Prop) (W : World), S xs → w.heap.size ≤ W.heap.size → U xs Fp W → Q .normal a W)
    (hstop : ∀ (c : Code) (pre : List α) (Fp : Nat → Prop) (W : World), Sp pre → w.heap.size ≤ W.heap.size → Ux c pre Fp W → c.wpIn F n P Q a W) :
    (Code.rangeFunc g ps assign body).wpIn F n P Q a w := by
  refine wpIn_rangeFunc fun fn hfn => ?_
  rw [hro]
  let rec_ : LoopState → Option Code → Loop := fun st pe => { state := st, pending := pe, fn, tmps := a.tmps, params := ps, assign, body, defers := r₀.defers }
  have hrs : ∀ st pe, (rec_ st pe).state = st := fun _ _ => rfl
  have hrp : ∀ st pe, (rec_ st pe).params = ps := fun _ _ => rfl
  have hrb : ∀ st pe st' pe', { rec_ st pe with state := st', pending := pe' } = rec_ st' pe' := fun _ _ _ _ => rfl
  have hrb2 : ∀ st pe st', { rec_ st pe with state := st' } = rec_ st' pe := fun _ _ _ => rfl
  have hrf : ∀ st pe, (rec_ st pe).fn = fn ∧ (rec_ st pe).assign = assign ∧ (rec_ st pe).body = body ∧ (rec_ st pe).tmps = a.tmps ∧ (rec_ st pe).pending = pe := fun _ _ => ⟨rfl, rfl, rfl, rfl, rfl⟩
  have hent : (Instr.enterLoop fn a.tmps ps assign body (some l₀)).run P w = .ok (w.heap.size, []) (w.alloc (.loop (rec_ .ready none))) := run_enterLoop_inner hl₀ fn a.tmps ps assign body
  let Bk : Loop → World → Prop := fun r W => W.heap[w.heap.size]? = some (.loop r)
  have hBk : ∀ r W, Bk r W ↔ (W.heap[w.heap.size]? = some (.loop r)) := fun _ _ => Iff.rfl
  generalize hW1 : w.alloc (.loop (rec_ .ready none)) = W1 at hent
  have hs1 : W1.heap.size = w.heap.size + 1 := by subst hW1; rw [World.size_alloc]
  have hB1 : Bk (rec_ .ready none) W1 := by
    subst hW1
    exact World.alloc_heap_new w _
  have hg1 : w.grownBy W1 none := by subst hW1; exact ⟨rfl, rfl, rfl, by simp, fun k hk _ => by rw [Below.heap_alloc _ _ _ hk]⟩
  have hU1 : U [] Fp0 W1 := hU _ _ _ _ _ h0 (Nat.le_refl _) hg1 (fun r e => by cases e)
  have hC1 : ∀ b, C b → b < W1.heap.size ∧ W1.heap[b]? = w0.heap[b]? := fun b hb => by
    obtain ⟨h1, h2⟩ := hC b hb
    exact ⟨by omega, by rw [hg1.block b h1 (fun e => by cases e)]; exact h2⟩
  clear_value Bk rec_
  have keep : ∀ {r A B} {Fp : Nat → Prop}, Only Fp A B → ¬ Fp w.heap.size → Bk r A → Bk r B := fun hk f0 hb => by
    rw [hBk] at hb ⊢
    exact (hk.block _ (Array.getElem?_eq_some_iff.1 hb).1 f0).trans hb
  have big : ∀ {r A}, Bk r A → w.heap.size < A.heap.size := fun hb => by rw [hBk] at hb; exact (Array.getElem?_eq_some_iff.1 hb).1
  have turn : ∀ {r A} (r' : Loop), Bk r A → Bk r' (A.putObj w.heap.size (.loop r')) := fun r' hb => by
    have h := big hb
    rw [hBk]
    exact World.putObj_heap_same h
  refine ⟨w.heap.size, [], W1, { target := .fn (.func gf) lb, args := #[.func (.yield w.heap.size) #[] #[]] }, W1, gf, #[.func (.yield w.heap.size) #[] #[]] ++ lb, W1, hent, ?_, ?_, ?_, fun _ => h1, ?_⟩
  · simp only [resolve, hg]
    simp [go_sem]
  · intro f' hf'; simp [Target.leads] at hf'; subst hf'; exact hFg
  · simp [invoke, go_sem, eg]
  refine (hseq w.heap.size (fun pre Fp' A => ∃ Fp, (∀ b, Fp' b ↔ Fp b ∨ b = w.heap.size) ∧ U pre Fp A ∧ Bk (rec_ .ready none) A ∧ ¬ Fp w.heap.size) (fun pre Fp' A => ∃ Fp c, (∀ b, Fp' b ↔ Fp b ∨ b = w.heap.size) ∧ Ux c pre Fp A ∧ Bk (rec_ .done (some c)) A ∧ ¬ Fp w.heap.size) W1 (fun b => Fp0 b ∨ b = w.heap.size) hC1 ?_ ?_ ?_ ?_ ?_).mono ?_
  · rintro b (hb | rfl)
    · exact ⟨by have := (hFp0 b hb).1; omega, (hFp0 b hb).2⟩
    · exact ⟨by omega, fun hc => by have := (hC _ hc).1; omega⟩
  · rintro pre Fp' A A' row ⟨Fp, hF, hu, hb, f0⟩ hsz hg hrow
    have hnl : ∀ r, row = some r → w.heap.size ≤ r ∧ ¬ Fp r := fun r e => ⟨by have := (hrow r e).1; omega, fun hf => (hrow r e).2 ((hF r).2 (.inl hf))⟩
    refine ⟨Fp, hF, hU _ _ _ _ _ hu (by omega) hg hnl, ?_, f0⟩
    rw [hBk] at hb ⊢
    exact (hg.block _ (Array.getElem?_eq_some_iff.1 hb).1 (fun e => by have := (hrow _ e.symm).1; omega)).trans hb
  · rintro pre Fp' A A' row ⟨Fp, c, hF, hu, hb, f0⟩ hsz hg hrow
    have hnl : ∀ r, row = some r → w.heap.size ≤ r ∧ ¬ Fp r := fun r e => ⟨by have := (hrow r e).1; omega, fun hf => (hrow r e).2 ((hF r).2 (.inl hf))⟩
    refine ⟨Fp, c, hF, hUx _ _ _ _ _ _ hu (by omega) hg hnl, ?_, f0⟩
    rw [hBk] at hb ⊢
    exact (hg.block _ (Array.getElem?_eq_some_iff.1 hb).1 (fun e => by have := (hrow _ e.symm).1; omega)).trans hb
  · rintro pre x Fp' A0 ⟨Fp, hF, hu, hb, f0⟩ hsz hlen
    have hl00 := (hBk _ _).1 hb
    have hy := run_yield (P := P) (args := encs x) hl00 (by rw [hrp]; exact hps x)
    obtain ⟨e1, e2, e3, e4, e5⟩ := hrf .ready none
    rw [e1, e2, e3, e4, hrp] at hy
    have hbs0 := big hb
    obtain ⟨A, hA⟩ : ∃ A, A = A0.alloc (ob x) := ⟨_, rfl⟩
    have hsA : A.heap.size = A0.heap.size + 1 := by rw [hA, World.size_alloc]
    have hoA : ∀ k, k < A0.heap.size → A.heap[k]? = A0.heap[k]? := fun k hk => by rw [hA]; exact Below.heap_alloc _ _ _ hk
    have hgA : A0.grownBy A none := by rw [hA]; exact ⟨rfl, rfl, rfl, by simp, fun k hk _ => Below.heap_alloc _ _ _ hk⟩
    have huA : U pre Fp A := hU _ _ _ _ _ hu (by omega) hgA (fun r e => by cases e)
    have hbA : Bk (rec_ .ready none) A := by
      rw [hBk] at hb ⊢
      exact (hoA _ hbs0).trans hb
    have hl0 := (hBk _ _).1 hbA
    have hub : U pre Fp (A.putObj (w.heap.size) (.loop (rec_ .busy none))) := hU _ _ _ _ _ huA (by omega) (grownBy_putObj' A (w.heap.size) _) (fun r e => by cases e; exact ⟨Nat.le_refl _, f0⟩)
    have hbb : Bk (rec_ .busy none) (A.putObj (w.heap.size) (.loop (rec_ .busy none))) := turn _ hbA
    have hsb : (A.putObj (w.heap.size) (.loop (rec_ .busy none))).heap.size = A0.heap.size + 1 := by rw [← hsA]; simp
    have hnew : (A.putObj (w.heap.size) (.loop (rec_ .busy none))).heap[A0.heap.size]? = some (ob x) := by
      rw [World.putObj_heap_other (by omega), hA]; exact World.alloc_heap_new _ _
    refine ⟨fn, _, assign, body, hy, roundIn_of_wpIn hfn (hassign _ x A0 _ ⟨pre, hlen⟩ ⟨_, by have := run_beginRound (P := P) hl0 (hrs _ _); rw [hrb2] at this; rw [← hA]; exact this, ?_⟩)⟩
    refine wpIn_mono (hbody _ pre x Fp A0.heap.size _ hub (by rw [hsb]; omega) hlen ⟨A0, hu, by omega, rfl⟩ (by rw [hsb]; omega) hnew) ?_
    have fin : ∀ (jump : Option Code) (W3 : World), Only Fp (A.putObj (w.heap.size) (.loop (rec_ .busy none))) W3 →
        (Instr.endRound (w.heap.size) jump).run P W3 = .ok (.bool jump.isNone) (W3.putObj (w.heap.size) (.loop (rec_ (if jump.isNone then .ready else .done) jump))) ∧
        W3.heap[w.heap.size]? = some (.loop (rec_ .busy none)) ∧ Bk (rec_ (if jump.isNone then .ready else .done) jump) (W3.putObj (w.heap.size) (.loop (rec_ (if jump.isNone then .ready else .done) jump))) := fun jump W3 hk3 => by
      have hb3 := keep hk3 f0 hbb
      have hl3 := (hBk _ _).1 hb3
      have := run_endRound (P := P) jump hl3
      rw [hrb] at this
      exact ⟨this, hl3, turn _ hb3⟩
    have hbs := big hbA
    have grow_ : ∀ (W3 : World) (Fp2 : Nat → Prop) (jump : Option Code), Only Fp (A.putObj (w.heap.size) (.loop (rec_ .busy none))) W3 → (∀ b, Fp2 b → Fp b ∨ (A.putObj (w.heap.size) (.loop (rec_ .busy none))).heap.size ≤ b) → ¬ Fp2 w.heap.size ∧
        Only Fp' A0 (W3.putObj (w.heap.size) (.loop (rec_ (if jump.isNone then .ready else .done) jump))) ∧ ∀ b, (Fp2 b ∨ b = w.heap.size) → Fp' b ∨ A0.heap.size ≤ b := fun W3 Fp2 jump ho2 hn2 => by
      rw [hsb] at hn2
      refine ⟨fun h => ?_, ?_, ?_⟩
      · rcases hn2 _ h with h | h
        · exact f0 h
        · omega
      · have s0 : W3.heap.size = (W3.putObj (w.heap.size) (.loop (rec_ (if jump.isNone then .ready else .done) jump))).heap.size := by simp
        refine ⟨ho2.os.trans hgA.os, ho2.tape.trans hgA.tape, ho2.output.trans hgA.output, ?_, fun k hk hnf => ?_⟩
        · have := ho2.size; rw [hsb] at this; rw [← s0]; omega
        · have hk1 : k ≠ w.heap.size := fun e => hnf ((hF k).2 (.inr e))
          have hk2 : ¬ Fp k := fun h => hnf ((hF k).2 (.inl h))
          rw [World.putObj_heap_other hk1, ho2.block k (by rw [hsb]; omega) hk2, World.putObj_heap_other hk1, hoA k hk]
      · rintro b (hb5 | rfl)
        · rcases hn2 b hb5 with h | h
          · exact .inl ((hF b).2 (.inl h))
          · exact .inr (by omega)
        · exact .inl ((hF _).2 (.inr rfl))
    rintro e a3 W3 hp
    cases e with
    | normal =>
      obtain ⟨Fp2, hu2, ho2, hn2⟩ := hp
      obtain ⟨hr, hl3, hb4⟩ := fin none W3 ho2
      obtain ⟨g0, k1, k2⟩ := grow_ W3 Fp2 none ho2 hn2
      exact ⟨_, _, hr, .inl ⟨rfl, fun b => Fp2 b ∨ b = w.heap.size, ⟨Fp2, fun b => Iff.rfl, hU _ _ _ _ _ hu2 (by have := ho2.size; rw [hsb] at this; omega) (grownBy_putObj' W3 (w.heap.size) _) (fun r e => by cases e; exact ⟨Nat.le_refl _, g0⟩), hb4, g0⟩, k1, k2⟩⟩
    | ret =>
      obtain ⟨Fp2, hu2, ho2, hn2⟩ := hp
      obtain ⟨hr, hl3, hb4⟩ := fin (some .ret) W3 ho2
      obtain ⟨g0, k1, k2⟩ := grow_ W3 Fp2 (some .ret) ho2 hn2
      exact ⟨_, _, hr, .inr ⟨rfl, fun b => Fp2 b ∨ b = w.heap.size, ⟨Fp2, .ret, fun b => Iff.rfl, hUx _ _ _ _ _ _ hu2 (by have := ho2.size; rw [hsb] at this; omega) (grownBy_putObj' W3 (w.heap.size) _) (fun r e => by cases e; exact ⟨Nat.le_refl _, g0⟩), hb4, g0⟩, k1, k2⟩⟩
    | exit id =>
      obtain ⟨Fp2, hu2, ho2, hn2⟩ := hp
      obtain ⟨hr, hl3, hb4⟩ := fin (some (.exit id)) W3 ho2
      obtain ⟨g0, k1, k2⟩ := grow_ W3 Fp2 (some (.exit id)) ho2 hn2
      exact ⟨_, _, hr, .inr ⟨rfl, fun b => Fp2 b ∨ b = w.heap.size, ⟨Fp2, (.exit id), fun b => Iff.rfl, hUx _ _ _ _ _ _ hu2 (by have := ho2.size; rw [hsb] at this; omega) (grownBy_putObj' W3 (w.heap.size) _) (fun r e => by cases e; exact ⟨Nat.le_refl _, g0⟩), hb4, g0⟩, k1, k2⟩⟩
    | goto t =>
      obtain ⟨Fp2, hu2, ho2, hn2⟩ := hp
      obtain ⟨hr, hl3, hb4⟩ := fin (some (.goto t)) W3 ho2
      obtain ⟨g0, k1, k2⟩ := grow_ W3 Fp2 (some (.goto t)) ho2 hn2
      exact ⟨_, _, hr, .inr ⟨rfl, fun b => Fp2 b ∨ b = w.heap.size, ⟨Fp2, (.goto t), fun b => Iff.rfl, hUx _ _ _ _ _ _ hu2 (by have := ho2.size; rw [hsb] at this; omega) (grownBy_putObj' W3 (w.heap.size) _) (fun r e => by cases e; exact ⟨Nat.le_refl _, g0⟩), hb4, g0⟩, k1, k2⟩⟩
    | panic ch => exact hp.elim
    | outgrown => exact hp.elim
  · exact ⟨Fp0, fun b => Iff.rfl, hU1, hB1, fun h => by have := (hFp0 _ h).1; omega⟩
  · rintro e W2 ⟨⟨v, rfl⟩, (⟨pre, Fp', hS, Fp, hF, hd, hb, f0⟩ | ⟨pre, Fp', hSp, Fp, c, hF, hx, hb, f0⟩)⟩
    · have hb2 := (hBk _ _).1 hb
      have hbs := big hb
      exact ⟨none, _, by have := run_endLoop (P := P) hb2 (by rw [hrs]; simp); rw [(hrf .ready none).2.2.2.2] at this; exact this, hdone pre Fp _ hS (by simp; omega) (hU _ _ _ _ _ hd (by omega) (grownBy_putObj' W2 (w.heap.size) _) (fun r e => by cases e; exact ⟨Nat.le_refl _, f0⟩))⟩
    · have hb2 := (hBk _ _).1 hb
      have hbs := big hb
      exact ⟨some c, _, by have := run_endLoop (P := P) hb2 (by rw [hrs]; simp); rw [(hrf .done (some c)).2.2.2.2] at this; exact this, hstop c pre Fp _ hSp (by simp; omega) (hUx _ _ _ _ _ _ hx (by omega) (grownBy_putObj' W2 (w.heap.size) _) (fun r e => by cases e; exact ⟨Nat.le_refl _, f0⟩))⟩
/-- An iterator's contract goes into a round as it is. -/
theorem SeqF.inRound {α : Type} {g : Nat} {lb : Array Value} {encs : α → Array Value} {S Sp : List α → Prop} {C : Nat → Prop} {w : World} (l : Nat) (h : SeqF F n P g lb encs S Sp C w) : SeqF (F.inRound l) n P g lb encs S Sp C w := h
end Fo
end Go.Proofs.YtocoonkachbjaaaGreatDoor

/- ViewSame: the law's walk. -/
namespace Go.Proofs.YtocoonkachbjaaaGreatDoor
open Go.RowKit Go.Maps Go.Proofs.NmPlain Go.Proofs.Ar Go.Proofs.YtocoonkachbjaaaGreatDoor.Sc
set_option linter.unusedVariables false
namespace Vw
attribute [local go_sem] Oper.semAt_some

set_option maxRecDepth 100000 in
set_option maxHeartbeats 2000000 in
theorem viewSame_core (v : Value) (ss : List Sess) (hlm : (ss.length : Int) ≤ 9223372036854775807) (hok : ∀ s ∈ ss, SessOK s) (now : Int) (wn : (Lit.int .i64 now).wf = true) (w : World) (he : VEnv w) (h1 : SessArg w v ss) :
    Calls Tryz.prog 59 #[v, .int .i64 now] w fun e w' => e = .returned (.bool true) ∧ Below w.heap.size w w' := by
  obtain ⟨p0, c0, rfl, -⟩ := id h1
  have HA := Lib.hid h1
  obtain ⟨W1, hW1⟩ : ∃ W1, W1 = ((w.alloc (.cells #[.slice p0 ss.length c0] 42)).alloc (.cells #[.int .i64 now] 3)).alloc (.cells #[.bool false] 4) := ⟨_, rfl⟩
  have hs1 : W1.heap.size = w.heap.size + 3 := by rw [hW1, World.size_alloc, World.size_alloc, World.size_alloc]
  have hb1 : Below w.heap.size w W1 := by rw [hW1]; exact (((Below.refl _ _).alloc (Nat.le_refl _) _).alloc (by simp) _).alloc (by simp; omega) _
  have hx0 : Boxed W1 w.heap.size 42 (.slice p0 ss.length c0) := by rw [hW1]; exact ((Boxed.new w 42 (.slice p0 ss.length c0)).alloc _).alloc _
  have hx1 : Boxed W1 (w.heap.size + 1) 3 (.int .i64 now) := by
    rw [hW1]
    have := (Boxed.new (w.alloc (.cells #[.slice p0 ss.length c0] 42)) 3 (.int .i64 now)).alloc (.cells #[.bool false] 4)
    rwa [World.size_alloc] at this
  have hx2 : Boxed W1 (w.heap.size + 1 + 1) 4 (.bool false) := by
    rw [hW1]
    have := Boxed.new ((w.alloc (.cells #[.slice p0 ss.length c0] 42)).alloc (.cells #[.int .i64 now] 3)) 4 (.bool false)
    rwa [World.size_alloc, World.size_alloc] at this
  have HB1 := Lib.hid hb1
  have HS1 := Lib.hid hs1
  have HBX := Lib.hid (fun (w' : World) (hb : Below W1.heap.size W1 w') => show Boxed w' w.heap.size 42 (.slice p0 ss.length c0) ∧ Boxed w' (w.heap.size + 1) 3 (.int .i64 now) ∧ Boxed w' (w.heap.size + 1 + 1) 4 (.bool false) from ⟨(hb.block _ hx0.lt).trans hx0, (hb.block _ hx1.lt).trans hx1, (hb.block _ hx2.lt).trans hx2⟩)
  have HFIN := Lib.hid (fun (w' : World) (hb : Below W1.heap.size W1 w') => (by
    have hx : Boxed w' (w.heap.size + 1 + 1) 4 (.bool false) := (hb.block _ hx2.lt).trans hx2
    exact ⟨hx.cell, hx.frozen, hx.set _, (hb1.trans (hb.mono hb1.size)).setCell (p := ⟨w.heap.size + 1 + 1, 0, none⟩) (by show w.heap.size ≤ w.heap.size + 1 + 1; omega) _⟩ : w'.cell? ⟨w.heap.size + 1 + 1, 0, none⟩ = some (.bool false) ∧ w'.frozen? ⟨w.heap.size + 1 + 1, 0, none⟩ = false ∧ Boxed (w'.setCell ⟨w.heap.size + 1 + 1, 0, none⟩ (.bool true)) (w.heap.size + 1 + 1) 4 (.bool true) ∧ Below w.heap.size w (w'.setCell ⟨w.heap.size + 1 + 1, 0, none⟩ (.bool true))))
  have HEV := Lib.hid (fun (w' : World) (hb : Below W1.heap.size W1 w') => (he.below (hb1.trans (hb.mono hb1.size)) : VEnv w'))
  have HTW := Lib.hid (fun (w' : World) (hb : Below W1.heap.size W1 w') (hle : (ss.length : Int) ≤ 100) => twice_any _ ss (by omega) w' (h1.below (hb1.trans (hb.mono hb1.size))))
  have HSA := Lib.hid (fun (w' : World) (hb : Below W1.heap.size W1 w') => (h1.below (hb1.trans (hb.mono hb1.size)) : SessArg w' (.slice p0 ss.length c0) ss))
  have HBK := Lib.hid (vbook_any W1 (he.below hb1).max)
  have HOK := Lib.hid hok
  clear he hb1 hx0 hx1 hx2 hs1 hok h1 HA
  refine (callsIn_wide (n := 9)).1 ?_
  refine callsIn_of_wp_marks Tryz.func59 rfl trivial ?_ rfl
  simp only [Tryz.ntmps59, List.size_toArray, List.length_cons, List.length_nil, Nat.reduceAdd, Nat.reduceSub, Array.replicate_succ, Array.replicate_zero, List.push_toArray, List.append_toArray, List.nil_append, List.cons_append]
  refine wpIn_wide.2 ?_
  go_wp2_with fail
  rw [← hW1]
  clear hW1
  refine HBK.out.mono ?_
  rintro e w2 ⟨lo, B, rfl, hB, hb2⟩
  obtain ⟨W3, hW3⟩ : ∃ W3, W3 = w2.alloc (.cells #[.pointer (some ⟨B, 0, none⟩)] 31) := ⟨_, rfl⟩
  have hb23 : Below w2.heap.size w2 W3 := by rw [hW3]; exact (Below.refl _ _).alloc (Nat.le_refl _) _
  have hx5 : Boxed W3 w2.heap.size 31 (.pointer (some ⟨B, 0, none⟩)) := by rw [hW3]; exact Boxed.new _ _ _
  have hb3 : Below W1.heap.size W1 W3 := hb2.trans (hb23.mono hb2.size)
  have HB3 := Lib.hid hb3
  have HBK3 := Lib.hid (hB.below hb23)
  have HX5 := Lib.hid (fun (w' : World) (hb : Below W3.heap.size W3 w') => show Boxed w' w2.heap.size 31 (.pointer (some ⟨B, 0, none⟩)) from (hb.block _ hx5.lt).trans hx5)
  have HS2 := Lib.hid (show W1.heap.size ≤ w2.heap.size ∧ w2.heap.size < W3.heap.size from ⟨hb2.size, hx5.lt⟩)
  clear hB hb2 hb23 hx5 hb3
  go_wp2_with fail
  rw [← hW3]
  clear hW3
  refine (vworks_any W3 (HEV.out W3 HB3.out)).mono ?_
  rintro e w4 ⟨rfl, hb4⟩
  have HB34 := Lib.hid hb4
  have HB4 : Hid (Below W1.heap.size W1 w4) := HB3.out.trans (hb4.mono HB3.out.size)
  have c5 := (HX5.out w4 hb4).cell
  have c0' := (HBX.out w4 HB4.out).1.cell
  clear hb4
  by_cases hbig : 100 < ss.length
  · have b1 : (100 : Int) < (ss.length : Int) := by omega
    clear hbig
    go_wp2_with fail
    refine (vworks_any w4 (HEV.out w4 HB4.out)).mono ?_
    rintro e w5 ⟨rfl, hb5⟩
    obtain ⟨f1, f2, f3, f4⟩ := HFIN.out w5 (HB4.out.trans (hb5.mono HB4.out.size))
    have F3 := Lib.hid f3; have F4 := Lib.hid f4
    clear f3 f4 hb5
    go_wp2_with fail
    exact ⟨_, res_bool rfl _ _ (w.heap.size + 1 + 1) _ rfl F3.out, rfl, F4.out⟩
  have b1 : (ss.length : Int) ≤ 100 := by omega
  have b3 : decide (100 < (ss.length : Int)) = false := decide_eq_false (by omega)
  have HLN := Lib.hid (show ss.length ≤ 100 by omega)
  clear hbig hlm
  go_wp2_with fail
  refine (HTW.out _ HB4.out b1).mono ?_
  rintro e w5 ⟨⟨tq, rfl, hq⟩, hb5⟩
  have HB45 : Hid (Below W3.heap.size W3 w5) := HB34.out.trans (hb5.mono HB34.out.size)
  have HB5 : Hid (Below W1.heap.size W1 w5) := HB4.out.trans (hb5.mono HB4.out.size)
  clear hb5 HTW c5 c0'
  cases tq with
  | true =>
    clear hq
    go_wp2_with fail
    refine (vworks_any w5 (HEV.out w5 HB5.out)).mono ?_
    rintro e w6 ⟨rfl, hb6⟩
    obtain ⟨f1, f2, f3, f4⟩ := HFIN.out w6 (HB5.out.trans (hb6.mono HB5.out.size))
    have F3 := Lib.hid f3; have F4 := Lib.hid f4
    clear f3 f4 hb6
    go_wp2_with fail
    exact ⟨_, res_bool rfl _ _ (w.heap.size + 1 + 1) _ rfl F3.out, rfl, F4.out⟩
  | false =>
    have HOWN := Lib.hid (hq rfl)
    clear hq
    have c5 := (HX5.out w5 HB45.out).cell
    have c0' := (HBX.out w5 HB5.out).1.cell
    have c1' := (HBX.out w5 HB5.out).2.1.cell
    go_wp2_with fail
    refine (tree_any vbk_book now wn _ ss (by have := HLN.out; omega) HOK.out w5 (HEV.out w5 HB5.out) (HBK3.out.below HB45.out) (HSA.out w5 HB5.out)).mono ?_
    rintro e w6 ⟨hp, hb6⟩
    have HB56 := Lib.hid hb6
    have HB6 : Hid (Below W1.heap.size W1 w6) := HB5.out.trans (hb6.mono HB5.out.size)
    have HB36 : Hid (Below W3.heap.size W3 w6) := HB45.out.trans (hb6.mono HB45.out.size)
    clear hb6 c5 c0' c1'
    rcases hp with ⟨i, hi, -, -, rfl⟩ | ⟨hall, d, rfl, hown⟩
    · obtain ⟨f1, f2, f3, f4⟩ := HFIN.out w6 HB6.out
      have F3 := Lib.hid f3; have F4 := Lib.hid f4
      clear f3 f4 hi
      go_wp2_with fail
      exact ⟨_, res_bool rfl _ _ (w.heap.size + 1 + 1) _ rfl F3.out, rfl, F4.out⟩
    obtain ⟨q, cd, rfl, -⟩ := own_any_shape hown
    have HTREE := Lib.hid hown; have HALL := Lib.hid hall
    clear hown hall
    have c0' := (HBX.out w6 HB6.out).1.cell
    obtain ⟨W8, hW8⟩ : ∃ W8, W8 = w6.alloc (.cells #[.slice none 0 0] 22) := ⟨_, rfl⟩
    have hb68 : Below w6.heap.size w6 W8 := by rw [hW8]; exact (Below.refl _ _).alloc (Nat.le_refl _) _
    have hs8 : W8.heap.size = w6.heap.size + 1 := by rw [hW8, World.size_alloc]
    have hx8 : Boxed W8 w6.heap.size 22 (.slice none 0 0) := by rw [hW8]; exact Boxed.new _ _ _
    have HB68 := Lib.hid hb68; have HS8 := Lib.hid hs8; have HX8 := Lib.hid hx8
    have HKC := Lib.hid (vkids_any _ ss (by have := HLN.out; omega) (fun s hs => ⟨(HOK.out s hs).wb, (HOK.out s hs).wu⟩) 0 W8 (HSA.out W8 (HB6.out.trans (hb68.mono HB6.out.size))))
    clear hb68 hs8 hx8
    have c8 := (HBX.out W8 (HB6.out.trans (HB68.out.mono HB6.out.size))).1.cell
    rw [hW8] at c8
    go_wp2_with fail
    rw [← hW8]
    clear hW8 c8
    refine HKC.out.mono ?_
    rintro e w9 ⟨⟨bk, bg, rfl, hsk⟩, hb9⟩
    have HSEQ := Lib.hid (hsk 8); have HB9 := Lib.hid hb9
    have HU0 : Hid (SU W8 w6.heap.size (.slice none 0 0) ((wantL ss []).map (treeS vbk ss now)) (fun b => b = w6.heap.size) w9) :=
      ⟨(hb9.block _ HX8.out.lt).trans HX8.out, World.ownsRow_nil _ _ _ _, fun b => ⟨.inl, fun h => h.elim id (fun h => by cases h)⟩, hb9.mono (by have := HS8.out; omega)⟩
    have HSU : Hid (∀ A, Below w6.heap.size W8 A → A.cell? ⟨w.heap.size, 0, none⟩ = some (.slice p0 ss.length c0) ∧ A.cell? ⟨w.heap.size + 1, 0, none⟩ = some (.int .i64 now) ∧ Boxed A (w.heap.size + 1 + 1) 4 (.bool false) ∧ A.cell? ⟨w2.heap.size, 0, none⟩ = some (.pointer (some ⟨B, 0, none⟩)) ∧ VEnv A ∧ BookAt lo A B vbk ∧ SessArg A (.slice p0 ss.length c0) ss ∧ Below W1.heap.size W1 A) := fun A h => by
      have hb : Below w6.heap.size w6 A := HB68.out.trans h
      have h1 : Below W1.heap.size W1 A := HB6.out.trans (hb.mono HB6.out.size)
      have h3 : Below W3.heap.size W3 A := HB36.out.trans (hb.mono HB36.out.size)
      obtain ⟨k0, k1, k2⟩ := HBX.out A h1
      exact ⟨k0.cell, k1.cell, k2, (HX5.out A h3).cell, HEV.out A h1, HBK3.out.below h3, HSA.out A h1, h1⟩
    obtain ⟨i0, hi0, hz0, hz1, hz2⟩ := info_parts vinfo_str
    clear hsk hb9 HKC c0' HFIN
    go_wp2_with fail
    refine (wpIn_wide (n := 9)).1 ?_
    refine Fo.range_foot_own (F := Fence.wide) (n := 9) rfl (by omega) (gf := 93) (lb := #[.pointer (some ⟨bk, 0, none⟩), .pointer (some ⟨bg, 0, none⟩)]) rfl trivial (enters_of Tryz.func93 (by kernel_rfl) rfl)
      HSEQ.out (fun _ => rfl) (fun b hb => ⟨hb.2, rfl⟩)
      (fun pre Fp A => ∃ d, SU W8 w6.heap.size d ((wantL ss pre).map (treeS vbk ss now)) Fp A) (fun _ _ _ _ => False) (fun b => b = w6.heap.size) (fun b hb => ⟨by have := HS8.out; have := HB9.out.size; omega, fun h => by have := h.1; have := HS8.out; omega⟩)
      ?hU (fun _ _ _ _ _ _ h _ _ _ => h) ⟨_, HU0.out⟩
      (fun x b => { tmps := #[.slice p0 ss.length c0, .int .i64 now, .pointer (some ⟨w.heap.size, 0, none⟩), .pointer (some ⟨w.heap.size + 1, 0, none⟩), .pointer (some ⟨w.heap.size + 1 + 1, 0, none⟩), .pointer (some ⟨w2.heap.size, 0, none⟩), .slice q (ordV ss).length cd, .nilIface, .pointer (some ⟨w6.heap.size, 0, none⟩), .pointer (some ⟨b, 0, none⟩), undef, undef, undef, undef, undef, .pointer (some ⟨B, 0, none⟩), .bool true, .bool false, .bool false, .pointer (some ⟨B, 0, none⟩), .bool false, .bool false, .bool false, .slice p0 ss.length c0, .int .i64 ss.length, .bool false, .bool false, .bool false, .slice p0 ss.length c0, .bool false, .bool false, undef, .tuple #[.slice q (ordV ss).length cd, .nilIface], .pointer (some ⟨B, 0, none⟩), .slice p0 ss.length c0, .int .i64 now, .tuple #[.slice q (ordV ss).length cd, .nilIface], .slice q (ordV ss).length cd, .nilIface, .nilIface, .bool false, .slice p0 ss.length c0, .func (.func 93) #[] #[.pointer (some ⟨bk, 0, none⟩), .pointer (some ⟨bg, 0, none⟩)], .agg (csAt ss x).toArray, undef, undef, undef, undef, undef, undef, undef, undef, undef, undef, undef, undef, undef, undef, undef, undef, undef, undef, undef, undef, undef, undef, undef, undef, undef, undef, undef, undef, undef], defers := [] })
      (fun x => .cells (csAt ss x).toArray 30)
      ?assign ?body ?done (fun _ _ _ _ _ _ _ h => h.elim)
    case hU =>
      rintro pre Fp A A' row ⟨d, h1⟩ hsz hg hrow
      exact ⟨d, h1.turn hg (fun r e => ⟨by have := (hrow r e).1; have := HB9.out.size; have := HS8.out; omega, (hrow r e).2⟩)⟩
    case assign =>
      rintro l2 x A K ⟨pre, hpre⟩ hK
      have hin : x < ss.length := kidsOf_lt x (hpre.subset (by simp))
      unfold encS
      obtain ⟨cs, hcs⟩ : ∃ cs, cs = csAt ss x := ⟨_, rfl⟩
      have HCL : Hid (cs.length = 12) := by show _ = _; rw [hcs]; exact cs_len hin
      have HC1 : Hid (∀ u ∈ cs, u.oneCell' = true) := by show ∀ _, _; rw [hcs, csAt_at hin]; exact ss[x].one
      rw [← hcs] at hK ⊢
      clear hcs hin hpre
      gi_wp2_with (refine Ag.wpListIn_store_new (by rfl) 30 (.tmp 9) (.tmp 43) (by rfl) cs (by rfl) (by rfl) (by rw [HCL.out]; kernel_rfl) (by rw [HCL.out]; rfl) HC1.out ?_)
      exact hK
    case body =>
      rintro l2 pre x Fp b A ⟨d, hu⟩ hszA hpre hold hbA hbb ⟨hl2, hnl2, r0, hr0⟩
      have hin : x < ss.length := kidsOf_lt x (hpre.subset (by simp))
      have hwl := wantL_len HOWN.out hpre
      rw [wantL_snoc, birthAt_at hin] at hwl
      obtain ⟨cs, hcs⟩ : ∃ cs, cs = csAt ss x := ⟨_, rfl⟩
      obtain ⟨bi, hbi⟩ : ∃ bi, bi = ss[x].birth := ⟨_, rfl⟩
      have hcb : A.cell? ⟨b, 1, none⟩ = some (.int .i64 bi) := by
        rw [block_cell hbb, hbi]
        show (csAt ss x).toArray[1]? = _
        rw [csAt_at hin]; rfl
      have hwn : (wantL ss (pre ++ [x])).map (treeS vbk ss now) = ((wantL ss pre) ++ preL ss bi).map (treeS vbk ss now) := by rw [wantL_snoc, birthAt_at hin, ← hbi]
      rw [← hbi] at hwl
      rw [← hcs]
      obtain ⟨c0', -, -, -, -, -, hsarg, -⟩ := HSU.out A hu.bel
      have HFAR : Hid (∀ y ∈ preL ss bi, y.1 ≤ ss.length) := fun y hy => ordV_far ss y (by rw [← wantL_all HOWN.out]; exact List.mem_flatMap.2 ⟨x, hpre.subset (by simp), by rw [birthAt_at hin, ← hbi]; exact hy⟩)
      have HPR := Lib.hid (vpre_any _ ss (by have := HLN.out; omega) (fun s hs => ⟨(HOK.out s hs).wb, (HOK.out s hs).wu⟩) bi A hsarg)
      have HU := Lib.hid hu; have HWN := Lib.hid hwn; have HWL := Lib.hid hwl; have HSZ := Lib.hid hszA; have HR0 := Lib.hid hr0; have HL2 := Lib.hid (And.intro hl2 hnl2)
      have HFPL : Hid (∀ b, Fp b → b < A.heap.size) := fun b hb => by
        rcases (hu.fp b).1 hb with h1 | h1
        · rw [h1]; exact hu.box.lt
        · exact (hu.row.lt b h1).2
      clear hu hcs hbi hwn hwl hszA hold hbA hbb hl2 hnl2 hr0 hsarg hpre hin
      gi_wp2_with fail
      refine ⟨trivial, (CallsIn.inRound _ (callsIn_wide.2 HPR.out)).mono ?_⟩
      rintro e w10 ⟨⟨bf, bq, rfl, hsp⟩, hb10⟩
      have HSP := Lib.hid (hsp 6); have HB10 := Lib.hid hb10
      have hl0 : w10.heap[l2]? = some (.loop r0) := (hb10.block _ (Array.getElem?_eq_some_iff.1 HR0.out).1).trans HR0.out
      clear hsp hb10 HPR hcb c0'
      gi_wp2_with fail
      skip
      refine Fo.range_foot_in (F := Fence.wide.inRound l2) (n := 9 - 1 - 1) (r₀ := r0) rfl hl0 (by omega) (gf := 92) (lb := #[.pointer (some ⟨bf, 0, none⟩), .pointer (some ⟨bq, 0, none⟩)]) rfl trivial (enters_of Tryz.func92 (by kernel_rfl) rfl)
        (HSP.out.inRound l2) (fun _ => rfl) (fun b hb => ⟨hb.2, rfl⟩)
        (fun pre2 Fp2 A2 => (∃ d, SU W8 w6.heap.size d ((wantL ss pre ++ pre2).map (treeS vbk ss now)) Fp2 A2) ∧ Only Fp A A2 ∧ ∀ b, Fp2 b → Fp b ∨ A.heap.size ≤ b) (fun _ _ _ _ => False) Fp (fun b hb => ⟨Nat.lt_of_lt_of_le (HFPL.out b hb) HB10.out.size, fun h => by have := HFPL.out b hb; omega⟩)
        ?hU2 (fun _ _ _ _ _ _ h _ _ _ => h) ⟨⟨_, by rw [List.append_nil]; exact HU.out.below HB10.out⟩, Only.of_below HB10.out, fun b hb => .inl hb⟩
        (fun y bb => { tmps := #[.slice p0 ss.length c0, .int .i64 now, .pointer (some ⟨w.heap.size, 0, none⟩), .pointer (some ⟨w.heap.size + 1, 0, none⟩), .pointer (some ⟨w.heap.size + 1 + 1, 0, none⟩), .pointer (some ⟨w2.heap.size, 0, none⟩), .slice q (ordV ss).length cd, .nilIface, .pointer (some ⟨w6.heap.size, 0, none⟩), .pointer (some ⟨b, 0, none⟩), .int .i64 (y.1 : Int), .pointer (some ⟨bb, 0, none⟩), undef, undef, undef, .pointer (some ⟨B, 0, none⟩), .bool true, .bool false, .bool false, .pointer (some ⟨B, 0, none⟩), .bool false, .bool false, .bool false, .slice p0 ss.length c0, .int .i64 ss.length, .bool false, .bool false, .bool false, .slice p0 ss.length c0, .bool false, .bool false, undef, .tuple #[.slice q (ordV ss).length cd, .nilIface], .pointer (some ⟨B, 0, none⟩), .slice p0 ss.length c0, .int .i64 now, .tuple #[.slice q (ordV ss).length cd, .nilIface], .slice q (ordV ss).length cd, .nilIface, .nilIface, .bool false, .slice p0 ss.length c0, .func (.func 93) #[] #[.pointer (some ⟨bk, 0, none⟩), .pointer (some ⟨bg, 0, none⟩)], .agg cs.toArray, .slice p0 ss.length c0, .pointer (some ⟨b, 1, none⟩), .int .i64 bi, .func (.func 92) #[] #[.pointer (some ⟨bf, 0, none⟩), .pointer (some ⟨bq, 0, none⟩)], .int .i64 (y.1 : Int), .agg (csAt ss y.2).toArray, undef, undef, undef, undef, undef, undef, undef, undef, undef, undef, undef, undef, undef, undef, undef, undef, undef, undef, undef, undef, undef, undef, undef], defers := [] })
        (fun y => .cells (csAt ss y.2).toArray 30)
        ?assign2 ?body2 ?done2 (fun _ _ _ _ _ _ h => h.elim)
      case hU2 =>
        rintro pre2 Fp2 A2 A3 row ⟨⟨d2, h1⟩, h2, h3⟩ hsz hg hrow
        refine ⟨⟨d2, h1.turn hg (fun r e => ⟨by have := (hrow r e).1; have := HB10.out.size; have := HU.out.box.lt; omega, (hrow r e).2⟩)⟩, h2.grown hg (fun k hk e => by have := (hrow k e).1; have := HB10.out.size; omega), h3⟩
      case assign2 =>
        rintro l3 y A2 K ⟨pre2, hpre2⟩ hK
        have hin : y.2 < ss.length := preL_lt ss bi y (hpre2.subset (by simp))
        unfold encP
        obtain ⟨ds, hcs⟩ : ∃ ds, ds = csAt ss y.2 := ⟨_, rfl⟩
        have HCL : Hid (ds.length = 12) := by show _ = _; rw [hcs]; exact cs_len hin
        have HC1 : Hid (∀ u ∈ ds, u.oneCell' = true) := by show ∀ _, _; rw [hcs, csAt_at hin]; exact ss[y.2].one
        rw [← hcs] at hK ⊢
        clear hcs hin hpre2
        gi_wp2_with (refine Ag.wpListIn_store_new (by rfl) 30 (.tmp 11) (.tmp 49) (by rfl) ds (by rfl) (by rfl) (by rw [HCL.out]; kernel_rfl) (by rw [HCL.out]; rfl) HC1.out ?_)
        exact hK
      case body2 =>
        rintro l3 pre2 ⟨far, i⟩ Fp2 b2 A2 ⟨⟨d2, hu⟩, hon, hnew⟩ hszA hpre2 hold hbA hbb
        have hin : i < ss.length := preL_lt ss bi (far, i) (hpre2.subset (by simp))
        have hfar : far ≤ 100 := by
          have h1 := HFAR.out (far, i) (hpre2.subset (by simp))
          have h2 := HLN.out
          omega
        have hpl : (wantL ss pre ++ pre2).length + 1 ≤ 100 := by
          have h1 := hpre2.length_le
          have h2 := HWL.out
          have h3 := HLN.out
          rw [List.length_append] at h1 h2 ⊢
          simp at h1
          omega
        obtain ⟨XS, hXS⟩ : ∃ XS, XS = (wantL ss pre ++ pre2).map (treeS vbk ss now) := ⟨_, rfl⟩
        rw [← hXS] at hu
        have hpl : XS.length + 1 ≤ 100 := by rw [hXS, List.length_map]; exact hpl
        have HXS := Lib.hid hXS
        clear hXS
        obtain ⟨q1, r1, rfl, -⟩ := own_any_shape hu.row
        obtain ⟨-, c1', -, c5', hev, hbk, -, -⟩ := HSU.out A2 hu.bel
        obtain ⟨ds, hcs⟩ : ∃ ds, ds = csAt ss i := ⟨_, rfl⟩
        have HCL : Hid (ds.length = 12) := by show _ = _; rw [hcs]; exact cs_len hin
        show Code.wpIn _ _ _ _ _ { tmps := #[.slice p0 ss.length c0, .int .i64 now, .pointer (some ⟨w.heap.size, 0, none⟩), .pointer (some ⟨w.heap.size + 1, 0, none⟩), .pointer (some ⟨w.heap.size + 1 + 1, 0, none⟩), .pointer (some ⟨w2.heap.size, 0, none⟩), .slice q (ordV ss).length cd, .nilIface, .pointer (some ⟨w6.heap.size, 0, none⟩), .pointer (some ⟨b, 0, none⟩), .int .i64 (far : Int), .pointer (some ⟨b2, 0, none⟩), undef, undef, undef, .pointer (some ⟨B, 0, none⟩), .bool true, .bool false, .bool false, .pointer (some ⟨B, 0, none⟩), .bool false, .bool false, .bool false, .slice p0 ss.length c0, .int .i64 ss.length, .bool false, .bool false, .bool false, .slice p0 ss.length c0, .bool false, .bool false, undef, .tuple #[.slice q (ordV ss).length cd, .nilIface], .pointer (some ⟨B, 0, none⟩), .slice p0 ss.length c0, .int .i64 now, .tuple #[.slice q (ordV ss).length cd, .nilIface], .slice q (ordV ss).length cd, .nilIface, .nilIface, .bool false, .slice p0 ss.length c0, .func (.func 93) #[] #[.pointer (some ⟨bk, 0, none⟩), .pointer (some ⟨bg, 0, none⟩)], .agg cs.toArray, .slice p0 ss.length c0, .pointer (some ⟨b, 1, none⟩), .int .i64 bi, .func (.func 92) #[] #[.pointer (some ⟨bf, 0, none⟩), .pointer (some ⟨bq, 0, none⟩)], .int .i64 (far : Int), .agg (csAt ss i).toArray, undef, undef, undef, undef, undef, undef, undef, undef, undef, undef, undef, undef, undef, undef, undef, undef, undef, undef, undef, undef, undef, undef, undef], defers := [] } A2
        have hbb : A2.heap[b2]? = some (.cells (csAt ss i).toArray 30 (0, 0)) := hbb
        rw [← hcs] at hbb ⊢
        have HRG : Hid (A2.rangeAt b2 0 ds) := box_range hbb
        obtain ⟨LS, hLS⟩ : ∃ LS, LS = lineS vbk ss now i := ⟨_, rfl⟩
        have hlnc : Calls Tryz.prog 7 #[.pointer (some ⟨B, 0, none⟩), .agg ds.toArray, .int .i64 now] A2 fun e w' => (e = .returned (.tuple #[.string LS, .nilIface])) ∧ Below A2.heap.size A2 w' := by
          rw [hcs, csAt_at hin]
          refine (vline_any vbk_book now wn ss[i] (HOK.out _ (List.getElem_mem hin)) A2 hev hbk).mono fun e w' hp => ⟨?_, hp.2⟩
          have h3 := line_post hin hp.1
          rw [HALL.out i hin] at h3
          rw [hLS]; exact h3
        have HLC := Lib.hid hlnc
        have HLZ : Hid (LS.size ≤ 20000) := by show _ ≤ _; rw [hLS]; exact lineS_size vbk_book ss now i
        have HTS : Hid (padS far ++ LS = treeS vbk ss now (far, i)) := by show _ = _; unfold treeS; rw [hLS]
        have HU2 := Lib.hid hu; have HON2 := Lib.hid (And.intro hon hnew); have HPL2 := Lib.hid hpl; have HSZ2 := Lib.hid hszA
        have f0 : (0 : Int) ≤ (far : Int) := by omega
        have HFA := Lib.hid hfar
        clear hu hon hnew hszA hpre2 hold hbA hbb hcs hlnc hLS hev hbk hpl hin hfar
        gi_wp2_with (refine Ag.wpListIn_load (by rfl) 30 _ (by rfl) _ _ (by rfl) ds _ HRG.out Tryz.underlying30 rfl (by rw [HCL.out]; kernel_rfl) ?_)
        refine ⟨trivial, (CallsIn.inRound _ (CallsIn.inRound _ (callsIn_wide.2 HLC.out))).mono ?_⟩
        rintro e w11 ⟨rfl, hb11⟩
        have HB11 := Lib.hid hb11
        have HU3 : Hid (SU W8 w6.heap.size (.slice q1 XS.length r1) XS Fp2 w11) := HU2.out.below hb11
        clear hb11 HLC c1' c5' HRG HCL
        gi_wp2_with fail
        gi_loopw [12, 14] (fun ln k wr => ∃ m : Nat, m ≤ far ∧ k = .int .i64 m ∧ ln = .string (padS m ++ LS) ∧ wr = w11) (fun _ k _ => far - (intOf k).toNat)
        case atStart => exact ⟨0, Nat.zero_le _, rfl, by rw [padS_zero], rfl⟩
        case round =>
          obtain ⟨m, hm, rfl, rfl, rfl⟩ := hrel
          have m0 : (0 : Int) ≤ (m : Int) := by omega
          by_cases h : m < far
          · have m1 : (m : Int) < (far : Int) := by omega
            have HM := Lib.hid h
            have hstep := padS_step m LS
            have hcat : ¬ (9223372036854775807 < (⟨#[32, 32]⟩ : ByteArray).size + (padS m ++ LS).size) := by
              rw [ByteArray.size_append, padS_size]
              have := HLZ.out; have := HFA.out
              have h2 : (⟨#[32, 32]⟩ : ByteArray).size = 2 := rfl
              omega
            obtain ⟨PL, hPL⟩ : ∃ PL, PL = padS m ++ LS := ⟨_, rfl⟩
            obtain ⟨PN, hPN⟩ : ∃ PN, PN = padS (m + 1) ++ LS := ⟨_, rfl⟩
            rw [← hPL, ← hPN] at hstep
            rw [← hPL] at hcat ⊢
            have HPN := Lib.hid hPN
            have hw1 : wrap64 ((m : Int) + 1) = ((m + 1 : Nat) : Int) := by have := HFA.out; rw [IntWalk.wrap64_in _ (by omega)]; rfl
            have HW1 := Lib.hid hw1
            clear h hPL hPN hm hw1
            gi_wp2
            rw [HW1.out]
            exact ⟨⟨m + 1, HM.out, rfl, by rw [HPN.out], trivial⟩, by have := HM.out; simp [intOf]; omega⟩
          · have m1 : (far : Int) ≤ (m : Int) := by omega
            obtain rfl : m = far := by omega
            rw [HTS.out]
            obtain ⟨TV, hTV⟩ : ∃ TV, TV = treeS vbk ss now (m, i) := ⟨_, rfl⟩
            rw [← hTV]
            have hc8 := HU3.out.box.cell
            have HPU := Lib.hid (fun (v1 : Value) (w1 : World) (o1 : Obj) => HU3.out.push (x := TV) (v' := v1) (w1 := w1) (o1 := o1))
            have HR3 := Lib.hid HU3.out.row
            have am1 : XS.length + 1 ≤ maxLen := by have := HPL2.out; unfold maxLen; omega
            have am2 : (XS.length + 1) * 16 ≤ 140737488355328 := by have := HPL2.out; omega
            have k3 : w6.heap.size + 1 ≤ (wr.alloc (.cells #[.string TV] 9)).heap.size := by have := HU3.out.box.lt; rw [World.size_alloc]; omega
            have HTV := Lib.hid hTV
            clear h hm hTV
            gi_wp2_with (gi_at_builtin; (refine wpListIn_append_own_at _ rfl _ _ 22 rfl (w6.heap.size + 1) 9 i0 (.string ByteArray.empty) 1 16 Tryz.underlying22 hi0 hz0 hz1 hz2 rfl (by decide) _ _ _ rfl (HR3.out.alloc _) ⟨wr.heap.size, 0, none⟩ 1 1 [.string TV] rfl rfl (World.news_of_block (Ut.alloc_at _ _)) (by intro u hu; rw [List.mem_singleton.1 hu]; rfl) am1 am2 k3 ?_); (intro v' w1 hown' hgrow hnil hat; obtain ⟨q', r', rfl, -⟩ := own_any_shape hown'; obtain ⟨hb1, Fp', hn1⟩ := HPU.out _ _ _ hown' hgrow hat; (have hc1 := hb1.cell); (have hf1 := hb1.frozen); (have HN := Lib.hid hn1); clear hown' hgrow hat hn1 hb1 hnil))
            have ho2 : Only Fp2 A2 _ := (Only.of_below HB11.out).trans HN.out.2.1 (fun i _ h => h)
            have hn2 : ∀ b, Fp' b → Fp2 b ∨ A2.heap.size ≤ b := fun b hb => (HN.out.2.2 b hb).imp id (fun h => Nat.le_trans HB11.out.size h)
            refine ⟨Fp', ⟨⟨.slice q' (XS.length + 1) r', ?_⟩, HON2.out.1.trans ho2 (fun i hi h => (HON2.out.2 i h).resolve_right (by omega)), fun b hb => ?_⟩, ho2, hn2⟩
            · have e : (wantL ss pre ++ (pre2 ++ [(m, i)])).map (treeS vbk ss now) = XS ++ [TV] := by
                rw [HTV.out, HXS.out, ← List.append_assoc, List.map_append, List.map_cons, List.map_nil]
              rw [e]; exact HN.out.1
            · rcases hn2 b hb with h | h
              · exact HON2.out.2 b h
              · exact .inr (Nat.le_trans HON2.out.1.size h)
      case done2 =>
        rintro ys Fp2 A2 rfl hsz ⟨⟨d2, h1⟩, h2, h3⟩
        exact ⟨Fp2, ⟨d2, by rw [HWN.out]; exact h1⟩, h2, h3⟩
    case done =>
      rintro D ys Fp A rfl hD ⟨d, hu⟩ hnf hK
      rw [wantL_all HOWN.out] at hu
      obtain ⟨XS, hXS⟩ : ∃ XS, XS = (ordV ss).map (treeS vbk ss now) := ⟨_, rfl⟩
      rw [← hXS] at hu
      obtain ⟨q1, r1, rfl, -⟩ := own_any_shape hu.row
      obtain ⟨-, -, hxr, -, -, -, -, hb1A⟩ := HSU.out A hu.bel
      have hc8 := hu.box.cell
      have t1 : TextArg A (.slice q (ordV ss).length cd) ((ordV ss).map (treeS vbk ss now)) := by
        refine Tx.own_arg (base := w5.heap.size) ?_
        rw [List.length_map, List.map_map]
        refine own_keep HTREE.out (fun b e => ?_)
        have h1 := (HTREE.out.lt b e).2
        rw [hu.bel.block b h1, HB68.out.block b h1]
      rw [← hXS] at t1
      have hxl : (XS.length : Int) ≤ 9223372036854775807 := by rw [hXS, List.length_map, ordV_len]; have := HLN.out; omega
      have t2 : TextArg A (.slice q1 XS.length r1) XS := Tx.own_arg hu.row
      have hsm := (Tx.same_any _ _ XS XS hxl hxl A t1 t2).mono (R' := fun e w' => e = .returned (.bool true) ∧ Below A.heap.size A w') (fun e w' h => ⟨h.1.trans (by rw [decide_eq_true rfl]), h.2⟩)
      have HSM := Lib.hid hsm; have HXR := Lib.hid hxr; have HD := Lib.hid hD; have HKD := Lib.hid hK; have HBA := Lib.hid (HB1.out.trans (hb1A.mono HB1.out.size))
      have HUB := Lib.hid hu.box.lt
      clear hu hxr t1 t2 hsm hD hK hnf hb1A hXS hxl
      go_wp2_with fail
      refine HSM.out.mono ?_
      rintro e wb ⟨rfl, hbb⟩
      have hxr : Boxed wb (w.heap.size + 1 + 1) 4 (.bool false) := (hbb.block _ HXR.out.lt).trans HXR.out
      have r0 := hxr.cell
      have r2 := hxr.frozen
      have HXR2 := Lib.hid hxr; have HBB := Lib.hid hbb
      clear hxr hbb HSM
      go_wp2
      have hd := (HBB.out.block D (Array.getElem?_eq_some_iff.1 HKD.out).1).trans HKD.out
      have hlt := HXR.out.lt
      have hne : D ≠ w.heap.size + 1 + 1 := by have := HD.out; have := HB9.out.size; have := HS8.out; have := HB6.out.size; have := HS1.out; omega
      have hd2 : (wb.setCell ⟨w.heap.size + 1 + 1, 0, none⟩ (.bool true)).heap[D]? = some (.deferred (some [])) := (Below.heap_setCell _ _ _ _ hne).trans hd
      refine ⟨by simp, .inl ⟨_, _, rfl, run_takeDeferred hd2, ?_⟩⟩
      refine ⟨_, res_bool rfl _ _ (w.heap.size + 1 + 1) (.bool true) rfl ((World.putObj_heap_other hne.symm).trans (HXR2.out.set (.bool true))), rfl, ?_⟩
      have hbel : Below w.heap.size w wb := HBA.out.trans (HBB.out.mono HBA.out.size)
      exact (hbel.setCell (p := ⟨w.heap.size + 1 + 1, 0, none⟩) (by show w.heap.size ≤ w.heap.size + 1 + 1; omega) (.bool true)).grown (grownBy_putObj' _ D (.deferred none)) (by rw [World.size_setCell]; exact hbel.size) (fun k e => by cases e; have := HD.out; have := HB9.out.size; have := HS8.out; have := HB6.out.size; have := HS1.out; omega)
end Vw
end Go.Proofs.YtocoonkachbjaaaGreatDoor
