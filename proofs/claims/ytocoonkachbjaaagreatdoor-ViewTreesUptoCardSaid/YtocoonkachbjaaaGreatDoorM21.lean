/- Several texts in one: what each proves its own first comment says. -/
import Derived.Test.YtocoonkachbjaaaGreatDoorM20
import Derived.Test.YtocoonkachbjaaaGreatDoorM16
import Derived.Laws.EntriesVeiled
import Derived.Test.YtocoonkachbjaaaGreatDoorM13
import Derived.OwnWalkIn

/- Ranging over an iterator: the body's blocks are a footprint that grows by new blocks alone; the iterator's own blocks stay. No program's code. -/
namespace Go.Proofs.YtocoonkachbjaaaGreatDoor
open Go.RowKit
set_option linter.unusedVariables false
namespace Fo
variable {F : Fence} {n : Nat} {P : Program}

/-- What such an iterator promises, as long as the blocks C lie as they lay in w: it hands out its things, one behind the other; the blocks Fp are the body's: it writes no other that was there. -/
def SeqF {α : Type} (F : Fence) (n : Nat) (P : Program) (g : Nat) (lb : Array Value) (encs : α → Array Value) (S Sp : List α → Prop) (C : Nat → Prop) (w : World) : Prop :=
  ∀ (l : Nat) (J Jx : List α → (Nat → Prop) → World → Prop) (W : World) (Fp0 : Nat → Prop), (∀ b, C b → b < W.heap.size ∧ W.heap[b]? = w.heap[b]?) → (∀ b, Fp0 b → b < W.heap.size ∧ ¬ C b) →
    (∀ pre Fp A A' row, J pre Fp A → W.heap.size ≤ A.heap.size → A.grownBy A' row → (∀ r, row = some r → W.heap.size ≤ r ∧ ¬ Fp r) → J pre Fp A') →
    (∀ pre Fp A A' row, Jx pre Fp A → W.heap.size ≤ A.heap.size → A.grownBy A' row → (∀ r, row = some r → W.heap.size ≤ r ∧ ¬ Fp r) → Jx pre Fp A') →
    (∀ pre x Fp A, J pre Fp A → W.heap.size ≤ A.heap.size → Sp (pre ++ [x]) → YieldAt F (n - 1) P l (encs x) A fun e W' =>
      (e = .returned (.bool true) ∧ ∃ Fp', J (pre ++ [x]) Fp' W' ∧ Only Fp A W' ∧ ∀ b, Fp' b → Fp b ∨ A.heap.size ≤ b) ∨ (e = .returned (.bool false) ∧ ∃ Fp', Jx (pre ++ [x]) Fp' W' ∧ Only Fp A W' ∧ ∀ b, Fp' b → Fp b ∨ A.heap.size ≤ b)) →
    J [] Fp0 W → CallsIn F n P g (#[.func (.yield l) #[] #[]] ++ lb) W fun e W' => (∃ v, e = .returned v) ∧ ((∃ xs Fp, S xs ∧ J xs Fp W') ∨ ∃ pre Fp, Sp pre ∧ Jx pre Fp W')

theorem SeqF.later {α : Type} {g : Nat} {lb : Array Value} {encs : α → Array Value} {S Sp : List α → Prop} {C : Nat → Prop} {w w' : World} (h : SeqF F n P g lb encs S Sp C w) (hC : ∀ b, C b → w'.heap[b]? = w.heap[b]?) : SeqF F n P g lb encs S Sp C w' :=
  fun l J Jx W Fp0 h1 h2 h3 h4 h5 h6 => h l J Jx W Fp0 (fun b hb => ⟨(h1 b hb).1, (h1 b hb).2.trans (hC b hb)⟩) h2 h3 h4 h5 h6

/-- How a round may be left. -/
def Left {α : Type} (Fp : Nat → Prop) (U : List α → (Nat → Prop) → World → Prop) (Ux : Code → List α → (Nat → Prop) → World → Prop) (xs : List α) (W : World) : Exit → Act → World → Prop
  | .normal, _, W' => ∃ Fp', U xs Fp' W' ∧ Only Fp W W' ∧ ∀ b, Fp' b → Fp b ∨ W.heap.size ≤ b
  | .ret, _, W' => ∃ Fp', Ux .ret xs Fp' W' ∧ Only Fp W W' ∧ ∀ b, Fp' b → Fp b ∨ W.heap.size ≤ b
  | .exit id, _, W' => ∃ Fp', Ux (.exit id) xs Fp' W' ∧ Only Fp W W' ∧ ∀ b, Fp' b → Fp b ∨ W.heap.size ≤ b
  | .goto t, _, W' => ∃ Fp', Ux (.goto t) xs Fp' W' ∧ Only Fp W W' ∧ ∀ b, Fp' b → Fp b ∨ W.heap.size ≤ b
  | .panic _, _, _ => False
  | .outgrown, _, _ => False

/-- **The statement.** -/
theorem range_foot {α : Type} {g : Operand} {ps : Array Tmp} {assign body : Code} {Q : Exit → Act → World → Prop} {a : Act} {w w0 : World}
    (hro : F.round = none) (h1 : 1 ≤ n) {gf : Nat} {lb : Array Value} (hg : a.eval g = .func (.func gf) #[] lb) (hFg : F.fn gf) (eg : ∀ args w, (callFunc gf args).run P w = .ok (.enter gf args) w)
    {encs : α → Array Value} {S Sp : List α → Prop} {C : Nat → Prop} (hseq : SeqF F (n - 1) P gf lb encs S Sp C w0) (hps : ∀ x, (encs x).size = ps.size) (hC : ∀ b, C b → b < w.heap.size ∧ w.heap[b]? = w0.heap[b]?)
    (U : List α → (Nat → Prop) → World → Prop) (Ux : Code → List α → (Nat → Prop) → World → Prop) (Fp0 : Nat → Prop) (hFp0 : ∀ b, Fp0 b → b < w.heap.size ∧ ¬ C b)
    (hU : ∀ pre Fp A A' row, U pre Fp A → w.heap.size ≤ A.heap.size → A.grownBy A' row → (∀ r, row = some r → w.heap.size ≤ r ∧ ¬ Fp r) → U pre Fp A')
    (hUx : ∀ c pre Fp A A' row, Ux c pre Fp A → w.heap.size ≤ A.heap.size → A.grownBy A' row → (∀ r, row = some r → w.heap.size ≤ r ∧ ¬ Fp r) → Ux c pre Fp A')
    (h0 : U [] Fp0 w) (a₁ : α → Act)
    (hassign : ∀ (l : Nat) (x : α) (W : World) (K : Act → World → Prop), K (a₁ x) W → assign.wpIn (F.inRound l) (n - 1 - 1) P (Exit.then K (fun _ _ _ => False)) { tmps := (ps.zip (encs x)).foldl (fun t (p, v) => t.setIfInBounds p v) a.tmps, defers := [] } W)
    (hbody : ∀ (l : Nat) (pre : List α) (x : α) (Fp : Nat → Prop) (W : World), U pre Fp W → w.heap.size ≤ W.heap.size → Sp (pre ++ [x]) → body.wpIn (F.inRound l) (n - 1 - 1) P (Left Fp U Ux (pre ++ [x]) W) (a₁ x) W)
    (hdone : ∀ (d : Nat) (xs : List α) (Fp : Nat → Prop) (W : World), S xs → w.heap.size ≤ d → U xs Fp W → ¬ Fp d → W.heap[d]? = some (.deferred (some [])) → Q .normal { a with defers := { target := .collected d, args := #[] } :: a.defers } W)
    (hstop : ∀ (d : Nat) (c : Code) (pre : List α) (Fp : Nat → Prop) (W : World), Sp pre → w.heap.size ≤ d → Ux c pre Fp W → ¬ Fp d → W.heap[d]? = some (.deferred (some [])) → c.wpIn F n P Q { a with defers := { target := .collected d, args := #[] } :: a.defers } W) :
    (Code.rangeFunc g ps assign body).wpIn F n P Q a w := by
  refine wpIn_rangeFunc fun fn hfn => ?_
  rw [hro]
  let rec_ : LoopState → Option Code → Loop := fun st pe => { state := st, pending := pe, fn, tmps := a.tmps, params := ps, assign, body, defers := w.heap.size }
  have hrs : ∀ st pe, (rec_ st pe).state = st := fun _ _ => rfl
  have hrp : ∀ st pe, (rec_ st pe).params = ps := fun _ _ => rfl
  have hrb : ∀ st pe st' pe', { rec_ st pe with state := st', pending := pe' } = rec_ st' pe' := fun _ _ _ _ => rfl
  have hrb2 : ∀ st pe st', { rec_ st pe with state := st' } = rec_ st' pe := fun _ _ _ => rfl
  have hrf : ∀ st pe, (rec_ st pe).fn = fn ∧ (rec_ st pe).assign = assign ∧ (rec_ st pe).body = body ∧ (rec_ st pe).tmps = a.tmps ∧ (rec_ st pe).pending = pe := fun _ _ => ⟨rfl, rfl, rfl, rfl, rfl⟩
  have hent : (Instr.enterLoop fn a.tmps ps assign body none).run P w = .ok (w.heap.size + 1, [{ target := .collected w.heap.size, args := #[] }]) ((w.alloc (.deferred (some []))).alloc (.loop (rec_ .ready none))) := run_enterLoop_outer fn a.tmps ps assign body
  let Bk : Loop → World → Prop := fun r W => W.heap[w.heap.size + 1]? = some (.loop r) ∧ W.heap[w.heap.size]? = some (.deferred (some []))
  have hBk : ∀ r W, Bk r W ↔ (W.heap[w.heap.size + 1]? = some (.loop r) ∧ W.heap[w.heap.size]? = some (.deferred (some []))) := fun _ _ => Iff.rfl
  generalize hW1 : (w.alloc (.deferred (some []))).alloc (.loop (rec_ .ready none)) = W1 at hent
  have hs1 : W1.heap.size = w.heap.size + 2 := by subst hW1; rw [World.size_alloc, World.size_alloc]
  have hB1 : Bk (rec_ .ready none) W1 := by
    subst hW1
    refine ⟨?_, (Below.heap_alloc _ _ _ (by simp)).trans (World.alloc_heap_new w _)⟩
    have := World.alloc_heap_new (w.alloc (.deferred (some []))) (.loop (rec_ .ready none))
    rwa [World.size_alloc] at this
  have hg1 : w.grownBy W1 none := by subst hW1; exact ⟨rfl, rfl, rfl, by simp; omega, fun k hk _ => by rw [Below.heap_alloc _ _ _ (by simp; omega), Below.heap_alloc _ _ _ hk]⟩
  have hU1 : U [] Fp0 W1 := hU _ _ _ _ _ h0 (Nat.le_refl _) hg1 (fun r e => by cases e)
  have hC1 : ∀ b, C b → b < W1.heap.size ∧ W1.heap[b]? = w0.heap[b]? := fun b hb => by
    obtain ⟨h1, h2⟩ := hC b hb
    exact ⟨by omega, by rw [hg1.block b h1 (fun e => by cases e)]; exact h2⟩
  clear_value Bk rec_
  have keep : ∀ {r A B} {Fp : Nat → Prop}, Only Fp A B → ¬ Fp w.heap.size → ¬ Fp (w.heap.size + 1) → Bk r A → Bk r B := fun hk f0 f1 hb => by
    rw [hBk] at hb ⊢
    exact ⟨(hk.block _ (Array.getElem?_eq_some_iff.1 hb.1).1 f1).trans hb.1, (hk.block _ (Array.getElem?_eq_some_iff.1 hb.2).1 f0).trans hb.2⟩
  have big : ∀ {r A}, Bk r A → w.heap.size + 1 < A.heap.size := fun hb => by rw [hBk] at hb; exact (Array.getElem?_eq_some_iff.1 hb.1).1
  have turn : ∀ {r A} (r' : Loop), Bk r A → Bk r' (A.putObj (w.heap.size + 1) (.loop r')) := fun r' hb => by
    have h := big hb
    rw [hBk] at hb ⊢
    exact ⟨World.putObj_heap_same h, (World.putObj_heap_other (by omega)).trans hb.2⟩
  refine ⟨w.heap.size + 1, [{ target := .collected w.heap.size, args := #[] }], W1, { target := .fn (.func gf) lb, args := #[.func (.yield (w.heap.size + 1)) #[] #[]] }, W1, gf, #[.func (.yield (w.heap.size + 1)) #[] #[]] ++ lb, W1, hent, ?_, ?_, ?_, fun _ => h1, ?_⟩
  · simp only [resolve, hg]
    simp [go_sem]
  · intro f' hf'; simp [Target.leads] at hf'; subst hf'; exact hFg
  · simp [invoke, go_sem, eg]
  refine (hseq (w.heap.size + 1) (fun pre Fp' A => ∃ Fp, (∀ b, Fp' b ↔ Fp b ∨ b = w.heap.size + 1) ∧ U pre Fp A ∧ Bk (rec_ .ready none) A ∧ ¬ Fp w.heap.size ∧ ¬ Fp (w.heap.size + 1)) (fun pre Fp' A => ∃ Fp c, (∀ b, Fp' b ↔ Fp b ∨ b = w.heap.size + 1) ∧ Ux c pre Fp A ∧ Bk (rec_ .done (some c)) A ∧ ¬ Fp w.heap.size ∧ ¬ Fp (w.heap.size + 1)) W1 (fun b => Fp0 b ∨ b = w.heap.size + 1) hC1 ?_ ?_ ?_ ?_ ?_).mono ?_
  · rintro b (hb | rfl)
    · exact ⟨by have := (hFp0 b hb).1; omega, (hFp0 b hb).2⟩
    · exact ⟨by omega, fun hc => by have := (hC _ hc).1; omega⟩
  · rintro pre Fp' A A' row ⟨Fp, hF, hu, hb, f0, f1⟩ hsz hg hrow
    have hnl : ∀ r, row = some r → w.heap.size ≤ r ∧ ¬ Fp r := fun r e => ⟨by have := (hrow r e).1; omega, fun hf => (hrow r e).2 ((hF r).2 (.inl hf))⟩
    refine ⟨Fp, hF, hU _ _ _ _ _ hu (by omega) hg hnl, ?_, f0, f1⟩
    rw [hBk] at hb ⊢
    exact ⟨(hg.block _ (Array.getElem?_eq_some_iff.1 hb.1).1 (fun e => by have := (hrow _ e.symm).1; omega)).trans hb.1, (hg.block _ (Array.getElem?_eq_some_iff.1 hb.2).1 (fun e => by have := (hrow _ e.symm).1; omega)).trans hb.2⟩
  · rintro pre Fp' A A' row ⟨Fp, c, hF, hu, hb, f0, f1⟩ hsz hg hrow
    have hnl : ∀ r, row = some r → w.heap.size ≤ r ∧ ¬ Fp r := fun r e => ⟨by have := (hrow r e).1; omega, fun hf => (hrow r e).2 ((hF r).2 (.inl hf))⟩
    refine ⟨Fp, c, hF, hUx _ _ _ _ _ _ hu (by omega) hg hnl, ?_, f0, f1⟩
    rw [hBk] at hb ⊢
    exact ⟨(hg.block _ (Array.getElem?_eq_some_iff.1 hb.1).1 (fun e => by have := (hrow _ e.symm).1; omega)).trans hb.1, (hg.block _ (Array.getElem?_eq_some_iff.1 hb.2).1 (fun e => by have := (hrow _ e.symm).1; omega)).trans hb.2⟩
  · rintro pre x Fp' A ⟨Fp, hF, hu, hb, f0, f1⟩ hsz hlen
    have hl0 := ((hBk _ _).1 hb).1
    have hy := run_yield (P := P) (args := encs x) hl0 (by rw [hrp]; exact hps x)
    obtain ⟨e1, e2, e3, e4, e5⟩ := hrf .ready none
    rw [e1, e2, e3, e4, hrp] at hy
    have hub : U pre Fp (A.putObj (w.heap.size + 1) (.loop (rec_ .busy none))) := hU _ _ _ _ _ hu (by omega) (grownBy_putObj' A (w.heap.size + 1) _) (fun r e => by cases e; exact ⟨Nat.le_succ _, f1⟩)
    have hbb : Bk (rec_ .busy none) (A.putObj (w.heap.size + 1) (.loop (rec_ .busy none))) := turn _ hb
    have hsb : (A.putObj (w.heap.size + 1) (.loop (rec_ .busy none))).heap.size = A.heap.size := by simp
    refine ⟨fn, _, assign, body, hy, roundIn_of_wpIn hfn (hassign _ x A _ ⟨_, by have := run_beginRound (P := P) hl0 (hrs _ _); rw [hrb2] at this; exact this, ?_⟩)⟩
    refine wpIn_mono (hbody _ pre x Fp _ hub (by rw [hsb]; omega) hlen) ?_
    have fin : ∀ (jump : Option Code) (W3 : World), Only Fp (A.putObj (w.heap.size + 1) (.loop (rec_ .busy none))) W3 →
        (Instr.endRound (w.heap.size + 1) jump).run P W3 = .ok (.bool jump.isNone) (W3.putObj (w.heap.size + 1) (.loop (rec_ (if jump.isNone then .ready else .done) jump))) ∧
        W3.heap[w.heap.size + 1]? = some (.loop (rec_ .busy none)) ∧ Bk (rec_ (if jump.isNone then .ready else .done) jump) (W3.putObj (w.heap.size + 1) (.loop (rec_ (if jump.isNone then .ready else .done) jump))) := fun jump W3 hk3 => by
      have hb3 := keep hk3 f0 f1 hbb
      have hl3 := ((hBk _ _).1 hb3).1
      have := run_endRound (P := P) jump hl3
      rw [hrb] at this
      exact ⟨this, hl3, turn _ hb3⟩
    have hbs := big hb
    have grow_ : ∀ (W3 : World) (Fp2 : Nat → Prop) (jump : Option Code), Only Fp (A.putObj (w.heap.size + 1) (.loop (rec_ .busy none))) W3 → (∀ b, Fp2 b → Fp b ∨ (A.putObj (w.heap.size + 1) (.loop (rec_ .busy none))).heap.size ≤ b) → ¬ Fp2 w.heap.size ∧ ¬ Fp2 (w.heap.size + 1) ∧
        Only Fp' A (W3.putObj (w.heap.size + 1) (.loop (rec_ (if jump.isNone then .ready else .done) jump))) ∧ ∀ b, (Fp2 b ∨ b = w.heap.size + 1) → Fp' b ∨ A.heap.size ≤ b := fun W3 Fp2 jump ho2 hn2 => by
      rw [hsb] at hn2
      refine ⟨fun h => ?_, fun h => ?_, ?_, ?_⟩
      · rcases hn2 _ h with h | h
        · exact f0 h
        · omega
      · rcases hn2 _ h with h | h
        · exact f1 h
        · omega
      · have s0 : W3.heap.size = (W3.putObj (w.heap.size + 1) (.loop (rec_ (if jump.isNone then .ready else .done) jump))).heap.size := by simp
        refine ⟨ho2.os, ho2.tape, ho2.output, ?_, fun k hk hnf => ?_⟩
        · have := ho2.size; rw [hsb] at this; rw [← s0]; exact this
        · have hk1 : k ≠ w.heap.size + 1 := fun e => hnf ((hF k).2 (.inr e))
          have hk2 : ¬ Fp k := fun h => hnf ((hF k).2 (.inl h))
          rw [World.putObj_heap_other hk1, ho2.block k (by rw [hsb]; exact hk) hk2, World.putObj_heap_other hk1]
      · rintro b (hb5 | rfl)
        · rcases hn2 b hb5 with h | h
          · exact .inl ((hF b).2 (.inl h))
          · exact .inr h
        · exact .inl ((hF _).2 (.inr rfl))
    rintro e a3 W3 hp
    cases e with
    | normal =>
      obtain ⟨Fp2, hu2, ho2, hn2⟩ := hp
      obtain ⟨hr, hl3, hb4⟩ := fin none W3 ho2
      obtain ⟨g0, g1, k1, k2⟩ := grow_ W3 Fp2 none ho2 hn2
      exact ⟨_, _, hr, .inl ⟨rfl, fun b => Fp2 b ∨ b = w.heap.size + 1, ⟨Fp2, fun b => Iff.rfl, hU _ _ _ _ _ hu2 (by have := ho2.size; rw [hsb] at this; omega) (grownBy_putObj' W3 (w.heap.size + 1) _) (fun r e => by cases e; exact ⟨Nat.le_succ _, g1⟩), hb4, g0, g1⟩, k1, k2⟩⟩
    | ret =>
      obtain ⟨Fp2, hu2, ho2, hn2⟩ := hp
      obtain ⟨hr, hl3, hb4⟩ := fin (some .ret) W3 ho2
      obtain ⟨g0, g1, k1, k2⟩ := grow_ W3 Fp2 (some .ret) ho2 hn2
      exact ⟨_, _, hr, .inr ⟨rfl, fun b => Fp2 b ∨ b = w.heap.size + 1, ⟨Fp2, .ret, fun b => Iff.rfl, hUx _ _ _ _ _ _ hu2 (by have := ho2.size; rw [hsb] at this; omega) (grownBy_putObj' W3 (w.heap.size + 1) _) (fun r e => by cases e; exact ⟨Nat.le_succ _, g1⟩), hb4, g0, g1⟩, k1, k2⟩⟩
    | exit id =>
      obtain ⟨Fp2, hu2, ho2, hn2⟩ := hp
      obtain ⟨hr, hl3, hb4⟩ := fin (some (.exit id)) W3 ho2
      obtain ⟨g0, g1, k1, k2⟩ := grow_ W3 Fp2 (some (.exit id)) ho2 hn2
      exact ⟨_, _, hr, .inr ⟨rfl, fun b => Fp2 b ∨ b = w.heap.size + 1, ⟨Fp2, (.exit id), fun b => Iff.rfl, hUx _ _ _ _ _ _ hu2 (by have := ho2.size; rw [hsb] at this; omega) (grownBy_putObj' W3 (w.heap.size + 1) _) (fun r e => by cases e; exact ⟨Nat.le_succ _, g1⟩), hb4, g0, g1⟩, k1, k2⟩⟩
    | goto t =>
      obtain ⟨Fp2, hu2, ho2, hn2⟩ := hp
      obtain ⟨hr, hl3, hb4⟩ := fin (some (.goto t)) W3 ho2
      obtain ⟨g0, g1, k1, k2⟩ := grow_ W3 Fp2 (some (.goto t)) ho2 hn2
      exact ⟨_, _, hr, .inr ⟨rfl, fun b => Fp2 b ∨ b = w.heap.size + 1, ⟨Fp2, (.goto t), fun b => Iff.rfl, hUx _ _ _ _ _ _ hu2 (by have := ho2.size; rw [hsb] at this; omega) (grownBy_putObj' W3 (w.heap.size + 1) _) (fun r e => by cases e; exact ⟨Nat.le_succ _, g1⟩), hb4, g0, g1⟩, k1, k2⟩⟩
    | panic ch => exact hp.elim
    | outgrown => exact hp.elim
  · exact ⟨Fp0, fun b => Iff.rfl, hU1, hB1, fun h => by have := (hFp0 _ h).1; omega, fun h => by have := (hFp0 _ h).1; omega⟩
  · rintro e W2 ⟨⟨v, rfl⟩, (⟨pre, Fp', hS, Fp, hF, hd, hb, f0, f1⟩ | ⟨pre, Fp', hSp, Fp, c, hF, hx, hb, f0, f1⟩)⟩
    · have hb2 := (hBk _ _).1 hb
      have hbs := big hb
      exact ⟨none, _, by have := run_endLoop (P := P) hb2.1 (by rw [hrs]; simp); rw [(hrf .ready none).2.2.2.2] at this; exact this, hdone _ pre Fp _ hS (Nat.le_refl _) (hU _ _ _ _ _ hd (by omega) (grownBy_putObj' W2 (w.heap.size + 1) _) (fun r e => by cases e; exact ⟨Nat.le_succ _, f1⟩)) f0 ((World.putObj_heap_other (by omega)).trans hb2.2)⟩
    · have hb2 := (hBk _ _).1 hb
      have hbs := big hb
      exact ⟨some c, _, by have := run_endLoop (P := P) hb2.1 (by rw [hrs]; simp); rw [(hrf .done (some c)).2.2.2.2] at this; exact this, hstop _ c pre Fp _ hSp (Nat.le_refl _) (hUx _ _ _ _ _ _ hx (by omega) (grownBy_putObj' W2 (w.heap.size + 1) _) (fun r e => by cases e; exact ⟨Nat.le_succ _, f1⟩)) f0 ((World.putObj_heap_other (by omega)).trans hb2.2)⟩
end Fo
end Go.Proofs.YtocoonkachbjaaaGreatDoor

/- forest.walk and its iterator. -/
namespace Go.Proofs.YtocoonkachbjaaaGreatDoor
open Go.RowKit Go.Maps
set_option linter.unusedVariables false
namespace Vw
attribute [local go_sem] Oper.semAt_some

set_option maxRecDepth 100000 in
set_option maxHeartbeats 4000000 in
theorem walk1_seq (n : Nat) (ss : List Sess) (hl : ss.length ≤ 65536) (d : Value) (g : Nat) (vs : Nat → Value) (bf bq : Nat) (v : Value) (ls : List Nat) (hll : ls.length ≤ 65536) (hls : ∀ i ∈ ls, i < ss.length) (C : Nat → Prop) (w : World)
    (hC : ∀ W, (∀ b, C b → b < W.heap.size ∧ W.heap[b]? = w.heap[b]?) → FW ss d g vs W ∧ W.cell? ⟨bf, 1, none⟩ = some (.slice (some ⟨g, 0, none⟩) (ss.length + 1) (ss.length + 1)) ∧ W.cell? ⟨bq, 0, none⟩ = some v ∧ In.IntArg W v (ints ls)) :
    Fo.SeqF Fence.wide n Tryz.prog 83 #[.pointer (some ⟨bf, 0, none⟩), .pointer (some ⟨bq, 0, none⟩)] encF (fun ys => ys = Vt.pre (kidsF ss) (ss.length + 1) 0 ls) (fun p => p <+: Vt.pre (kidsF ss) (ss.length + 1) 0 ls) C w := by
  intro l J Jx W Fp0 hCW hFp hJ hJx hY h0
  obtain ⟨W1, hW1⟩ : ∃ W1, W1 = (W.alloc (.cells #[.func (.yield l) #[] #[]] 138)).alloc (.cells #[.func (.func 84) #[] #[.pointer (some ⟨W.heap.size, 0, none⟩), .pointer (some ⟨W.heap.size + 1, 0, none⟩), .pointer (some ⟨bf, 0, none⟩)]] 139) := ⟨_, rfl⟩
  have hs1 : W1.heap.size = W.heap.size + 2 := by rw [hW1, World.size_alloc, World.size_alloc]
  have hb1 : Below W.heap.size W W1 := by rw [hW1]; exact ((Below.refl _ _).alloc (Nat.le_refl _) _).alloc (by simp) _
  have cy : W1.heap[W.heap.size]? = some (.cells #[.func (.yield l) #[] #[]] 138 (0, 0)) := by rw [hW1, al_old (by simp)]; exact Ut.alloc_at _ _
  have cd : W1.heap[W.heap.size + 1]? = some (.cells #[.func (.func 84) #[] #[.pointer (some ⟨W.heap.size, 0, none⟩), .pointer (some ⟨W.heap.size + 1, 0, none⟩), .pointer (some ⟨bf, 0, none⟩)]] 139 (0, 0)) := by
    rw [hW1]
    have := Ut.alloc_at (W.alloc (.cells #[.func (.yield l) #[] #[]] 138)) (.cells #[.func (.func 84) #[] #[.pointer (some ⟨W.heap.size, 0, none⟩), .pointer (some ⟨W.heap.size + 1, 0, none⟩), .pointer (some ⟨bf, 0, none⟩)]] 139)
    rwa [World.size_alloc] at this
  obtain ⟨I, hI⟩ : ∃ I : Nat → Prop, I = fun b => C b ∨ b = W.heap.size ∨ b = W.heap.size + 1 := ⟨_, rfl⟩
  have hIl : ∀ b, I b → b < W1.heap.size := fun b hb => by
    rw [hI] at hb
    rcases hb with hb | hb | hb
    · have := (hCW b hb).1; omega
    · omega
    · omega
  have hG : ∀ A : World, (∀ b, I b → b < A.heap.size ∧ A.heap[b]? = W1.heap[b]?) → (FW ss d g vs A ∧ A.cell? ⟨W.heap.size, 0, none⟩ = some (.func (.yield l) #[] #[]) ∧ A.cell? ⟨W.heap.size + 1, 0, none⟩ = some (.func (.func 84) #[] #[.pointer (some ⟨W.heap.size, 0, none⟩), .pointer (some ⟨W.heap.size + 1, 0, none⟩), .pointer (some ⟨bf, 0, none⟩)]) ∧
      A.cell? ⟨bf, 1, none⟩ = some (.slice (some ⟨g, 0, none⟩) (ss.length + 1) (ss.length + 1))) ∧ A.cell? ⟨bq, 0, none⟩ = some v ∧ In.IntArg A v (ints ls) := fun A hA => by
    have h1 := hC A (fun b hb => by
      have h2 := hA b (by rw [hI]; exact .inl hb)
      exact ⟨h2.1, h2.2.trans ((hb1.block b (hCW b hb).1).trans (hCW b hb).2)⟩)
    have h3 := hA W.heap.size (by rw [hI]; exact .inr (.inl rfl))
    have h4 := hA (W.heap.size + 1) (by rw [hI]; exact .inr (.inr rfl))
    exact ⟨⟨h1.1, by rw [block_cell (h3.2.trans cy)]; rfl, by rw [block_cell (h4.2.trans cd)]; rfl, h1.2.1⟩, h1.2.2⟩
  have hJ1 : J [] Fp0 W1 := hJ _ _ _ _ none h0 (Nat.le_refl _) ⟨hb1.os, hb1.tape, hb1.output, hb1.size, fun k hk _ => hb1.block k hk⟩ (fun r e => by cases e)
  have hself : ∀ b, I b → b < W1.heap.size ∧ W1.heap[b]? = W1.heap[b]? := fun b hb => ⟨hIl b hb, rfl⟩
  have hD := down_in ss hl d g vs l W.heap.size (W.heap.size + 1) bf (fun A => ∀ b, I b → b < A.heap.size ∧ A.heap[b]? = W1.heap[b]?) (fun A h => h) (fun A h => (hG A h).1)
    (fun pre A => ∃ Fp, J pre Fp A ∧ W1.heap.size ≤ A.heap.size ∧ ∀ b, I b → ¬ Fp b) (fun pre A => ∃ Fp, Jx pre Fp A)
    (fun pre A ⟨Fp, h1, h2, h3⟩ => ⟨Fp, hJ _ _ _ _ none h1 (by omega) ⟨rfl, rfl, rfl, Nat.le_refl _, fun _ _ _ => rfl⟩ (fun r e => by cases e), h2, h3⟩) (Vt.pre (kidsF ss) (ss.length + 1) 0 ls)
    (fun pre x A ⟨Fp, h1, h2, h3⟩ hGA hlen => by
      obtain ⟨fn, tmps, assign, body, hy, hR⟩ := hY pre x Fp A h1 (by omega) hlen
      refine ⟨fn, tmps, assign, body, hy, (Hi.round_any hR).mono ?_⟩
      rintro e W' (⟨rfl, Fp', k1, k2, k3⟩ | ⟨rfl, Fp', k1, -, -⟩)
      · refine .inl ⟨rfl, ⟨Fp', k1, by have := k2.size; omega, fun b hb hf => ?_⟩, fun b hb => ?_⟩
        · rcases k3 b hf with h | h
          · exact h3 b hb h
          · have := hIl b hb; omega
        · have h4 := hGA b hb
          exact ⟨by have := k2.size; omega, (k2.block b h4.1 (h3 b hb)).trans h4.2⟩
      · exact .inr ⟨rfl, Fp', k1⟩)
    (ss.length + 1) 0 v ls [] W1 hll (by omega) (fun A h => (hG A h).2.2) (fun i hi => ⟨hls i hi, by omega⟩) ⟨Fp0, hJ1, Nat.le_refl _, fun b hb hf => by
      have h5 := hFp b hf
      rw [hI] at hb
      rcases hb with hb | hb | hb
      · exact h5.2 hb
      · omega
      · omega⟩ hself (by simp)
  unfold DownP at hD
  have HD := Lib.hid hD
  have cq := (hG W1 hself).2.1
  have cd0 : W1.cell? ⟨W.heap.size + 1, 0, none⟩ = _ := (hG W1 hself).1.2.2.1
  have HW1 := Lib.hid hW1
  rw [hW1] at cq cd0
  clear hD hG hself hJ1 hIl hI cy cd hb1 hs1 hY hJ hJx hFp hCW h0 hC hls
  refine callsIn_of_wp Tryz.func83 rfl trivial ?_ rfl
  simp only [Tryz.ntmps83, List.size_toArray, List.length_cons, List.length_nil, Nat.reduceAdd, Nat.reduceSub, Array.replicate_succ, Array.replicate_zero, List.push_toArray, List.append_toArray, List.nil_append, List.cons_append]
  clear hW1
  gi_wp2_with fail
  rw [← HW1.out]
  refine ⟨trivial, fun h => by simp [Fence.wide] at h, (Hi.calls_any HD.out).mono ?_⟩
  rintro e W2 (⟨rfl, ⟨Fp, hj, -, -⟩, -⟩ | ⟨rfl, p, hp, Fp, hj⟩)
  · gi_wp2
    go_end0
    exact ⟨⟨_, rfl⟩, .inl ⟨_, Fp, rfl, by simpa using hj⟩⟩
  · gi_wp2
    go_end0
    exact ⟨⟨_, rfl⟩, .inr ⟨p, Fp, hp, by simpa using hj⟩⟩

/-- forest.walk. -/
theorem walk_any (qd qk qv : Option Addr) (nd cd nk ck n c : Nat) (w : World) :
    Calls Tryz.prog 42 #[.agg #[.slice qd nd cd, .slice qk nk ck], .slice qv n c] w fun e w' => e = .returned (.func (.func 83) #[] #[.pointer (some ⟨w.heap.size, 0, none⟩), .pointer (some ⟨w.heap.size + 1, 0, none⟩)]) ∧
      w' = (w.alloc (.cells #[.slice qd nd cd, .slice qk nk ck] 77)).alloc (.cells #[.slice qv n c] 82) := by
  go_enter Tryz.func42, Tryz.ntmps42
  go_wp2
  go_ret
  exact ⟨rfl, rfl⟩
end Vw
end Go.Proofs.YtocoonkachbjaaaGreatDoor

/- Structs whose cells are letters, in a fenced walk. No program's code. -/
namespace Go.Proofs.YtocoonkachbjaaaGreatDoor
open Go.RowKit
set_option linter.unusedVariables false
namespace Ag
variable {F : Fence} {n : Nat} {P : Program} {ops : Array Oper} {rest : List Oper} {o : Oper} {a : Act} {w : World} {Q : Exit → Act → World → Prop}
theorem wpListIn_load (hg : o.guard = none) (ty : TypeId) (x : Operand) (ho : o.op = .load ty x) (b off : Nat) (hx : a.eval x = .pointer (some ⟨b, off, none⟩)) (cs : List Value) (d : TypeDesc) (hc : w.rangeAt b off cs)
    (hu : P.underlying ty = some d) (hd : d.isRow = true) (hi : (P.info? ty).map (·.size) = some cs.length) (h : wpListIn F n P ops Q rest (a.put o.dst (.agg cs.toArray)) w) : wpListIn F n P ops Q (o :: rest) a w := by
  refine wpListIn_plain hg fun K hK => ?_
  unfold Oper.wpIn
  refine ⟨by simp [Oper.about, ho], ?_⟩
  rw [Oper.semAt_plain F _ _ (by rw [ho]; intro c hc'; cases hc')]
  unfold execOp
  simp only [ho, hx, Instr.loadAt, Instr.sureAddr, Sem.run_bind, Sem.run_pure, Result.andThen_ok, run_loadVar_mid w b off ty cs d hc hu hd hi]
  exact hK _ _ h
theorem wpListIn_one (hg : o.guard = none) (t e : TypeId) (x : Operand) (ho : o.op = .buildSlice t 1 #[(0, x)]) (cs : List Value) (hx : a.eval x = .agg cs.toArray) (ie : TypeInfo) (z : Value) (hu : P.underlying t = some (.slice e)) (hie : P.info? e = some ie) (hz : ie.zero = some z)
    (hn : cs.length = ie.size) (h0 : 0 < ie.size) (hs : ie.size ≤ 16777216) (h : wpListIn F n P ops Q rest (a.put o.dst (.slice (some ⟨w.heap.size, 0, none⟩) 1 1)) (w.alloc (.cells cs.toArray e))) : wpListIn F n P ops Q (o :: rest) a w := by
  refine wpListIn_plain hg fun K hK => ?_
  unfold Oper.wpIn
  refine ⟨by simp [Oper.about, ho], ?_⟩
  rw [Oper.semAt_plain F _ _ (by rw [ho]; intro c hc'; cases hc')]
  have hr := Go.run_buildSlice (P := P) w t e 1 #[(0, .agg cs.toArray)] cs.toArray ie z hu hie hz (by omega) (by omega) (fill_one ie z cs hn h0)
  unfold execOp
  have e1 : (#[(0, x)] : Array (Nat × Operand)).map (fun y => (y.1, a.eval y.2)) = #[(0, .agg cs.toArray)] := by simp [hx]
  simp only [ho]
  rw [e1]
  simp only [Sem.run_bind, hr, Result.andThen_ok]
  exact hK _ _ h
theorem wpListIn_store_new {t : TypeId} {Z : Array Value} (hg : o.guard = none) (ty : TypeId) (x y : Operand) (ho : o.op = .store ty x y) (cs : List Value)
    (hx : a.eval x = .pointer (some ⟨w.heap.size, 0, none⟩)) (hy : a.eval y = .agg cs.toArray) (hi : (P.info? ty).map (·.size) = some cs.length) (hZ : Z.size = cs.length) (h1 : ∀ v ∈ cs, v.oneCell' = true)
    (h : wpListIn F n P ops Q rest (a.put o.dst undef) (w.alloc (.cells cs.toArray t))) : wpListIn F n P ops Q (o :: rest) a (w.alloc (.cells Z t)) := by
  refine wpListIn_plain hg fun K hK => ?_
  unfold Oper.wpIn
  refine ⟨by simp [Oper.about, ho], ?_⟩
  rw [Oper.semAt_plain F _ _ (by rw [ho]; intro c hc'; cases hc')]
  have hr := run_storeVar_mid (P := P) (w.alloc (.cells Z t)) w.heap.size 0 ty cs.toArray (there_new w t Z _ (by simp [hZ])) (by simpa using hi) (all_oneCell_toArray h1)
  rw [setCells_new, List.toList_toArray, put_all hZ] at hr
  unfold execOp
  simp only [ho, hx, hy, Instr.storeAt, Instr.sureAddr, Sem.run_bind, Sem.run_pure, Result.andThen_ok, hr]
  exact hK _ _ h
end Ag
end Go.Proofs.YtocoonkachbjaaaGreatDoor
