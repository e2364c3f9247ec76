/- Several texts in one: what each proves its own first comment says. -/
import Derived.Test.YtocoonkachbjaaaGreatDoorM15
import Derived.Test.YtocoonkachbjaaaGreatDoorM13
import Derived.Laws.EntriesVeiled
import Derived.Test.YtocoonkachbjaaaGreatDoorM11
import Derived.OwnWalkIn
import Derived.Laws.StructEq
import Derived.Deep.MidRow
import Derived.Test.YtocoonkachbjaaaGreatDoorProg
import Derived.Test.YtocoonkachbjaaaGreatDoorM1
import Derived.Laws.Concat
import Derived.Laws.BytesString
import Derived.Laws.BytesArg
import Derived.BigQuiet
import Derived.Deep.QuietTactic
import Derived.Deep.RegionWith
import Derived.WalkLawsBesides
import Derived.WalkSpells
import Derived.OwnWalk
import Derived.Outline
import Derived.Lib.Strings

/- Ranging over an iterator: the body's blocks are a footprint that grows by new blocks alone; the iterator's own blocks stay. No program's code. -/
namespace Go.Proofs.YtocoonkachbjaaaGreatDoor
open Go.RowKit
set_option linter.unusedVariables false
namespace Fo
variable {F : Fence} {n : Nat} {P : Program}

/-- What such an iterator promises, as long as the blocks C lie as they lay in w: it hands out its things, one behind the other; the blocks Fp are the body's: it writes no other that was there. -/
def SeqF {α : Type} (F : Fence) (n : Nat) (P : Program) (g : Nat) (lb : Array Value) (encs : α → Array Value) (S Sp : List α → Prop) (C : Nat → Prop) (w : World) : Prop :=
  ∀ (l : Nat) (J Jx : List α → (Nat → Prop) → World → Prop) (W : World) (Fp0 : Nat → Prop), (∀ b, C b → b < W.heap.size ∧ W.heap[b]? = w.heap[b]?) → (∀ b, Fp0 b → b < W.heap.size ∧ ¬ C b) →
    (∀ pre Fp A A' row, J pre Fp A → W.heap.size ≤ A.heap.size → A.grownBy A' row → (∀ r, row = some r → W.heap.size ≤ r ∧ ¬ Fp r) → J pre Fp A') →
    (∀ pre Fp A A' row, Jx pre Fp A → W.heap.size ≤ A.heap.size → A.grownBy A' row → (∀ r, row = some r → W.heap.size ≤ r ∧ ¬ Fp r) → Jx pre Fp A') →
    (∀ pre x Fp A, J pre Fp A → W.heap.size ≤ A.heap.size → Sp (pre ++ [x]) → YieldAt F (n - 1) P l (encs x) A fun e W' =>
      (e = .returned (.bool true) ∧ ∃ Fp', J (pre ++ [x]) Fp' W' ∧ Only Fp A W' ∧ ∀ b, Fp' b → Fp b ∨ A.heap.size ≤ b) ∨ (e = .returned (.bool false) ∧ ∃ Fp', Jx (pre ++ [x]) Fp' W' ∧ Only Fp A W' ∧ ∀ b, Fp' b → Fp b ∨ A.heap.size ≤ b)) →
    J [] Fp0 W → CallsIn F n P g (#[.func (.yield l) #[] #[]] ++ lb) W fun e W' => (∃ v, e = .returned v) ∧ ((∃ xs Fp, S xs ∧ J xs Fp W') ∨ ∃ pre Fp, Sp pre ∧ Jx pre Fp W')

theorem SeqF.later {α : Type} {g : Nat} {lb : Array Value} {encs : α → Array Value} {S Sp : List α → Prop} {C : Nat → Prop} {w w' : World} (h : SeqF F n P g lb encs S Sp C w) (hC : ∀ b, C b → w'.heap[b]? = w.heap[b]?) : SeqF F n P g lb encs S Sp C w' :=
  fun l J Jx W Fp0 h1 h2 h3 h4 h5 h6 => h l J Jx W Fp0 (fun b hb => ⟨(h1 b hb).1, (h1 b hb).2.trans (hC b hb)⟩) h2 h3 h4 h5 h6

/-- How a round may be left. -/
def Left {α : Type} (Fp : Nat → Prop) (U : List α → (Nat → Prop) → World → Prop) (Ux : Code → List α → (Nat → Prop) → World → Prop) (xs : List α) (W : World) : Exit → Act → World → Prop
  | .normal, _, W' => ∃ Fp', U xs Fp' W' ∧ Only Fp W W' ∧ ∀ b, Fp' b → Fp b ∨ W.heap.size ≤ b
  | .ret, _, W' => ∃ Fp', Ux .ret xs Fp' W' ∧ Only Fp W W' ∧ ∀ b, Fp' b → Fp b ∨ W.heap.size ≤ b
  | .exit id, _, W' => ∃ Fp', Ux (.exit id) xs Fp' W' ∧ Only Fp W W' ∧ ∀ b, Fp' b → Fp b ∨ W.heap.size ≤ b
  | .goto t, _, W' => ∃ Fp', Ux (.goto t) xs Fp' W' ∧ Only Fp W W' ∧ ∀ b, Fp' b → Fp b ∨ W.heap.size ≤ b
  | .panic _, _, _ => False
  | .outgrown, _, _ => False

/-- **The statement.** -/
theorem range_foot {α : Type} {g : Operand} {ps : Array Tmp} {assign body : Code} {Q : Exit → Act → World → Prop} {a : Act} {w w0 : World}
    (hro : F.round = none) (h1 : 1 ≤ n) {gf : Nat} {lb : Array Value} (hg : a.eval g = .func (.func gf) #[] lb) (hFg : F.fn gf) (eg : ∀ args w, (callFunc gf args).run P w = .ok (.enter gf args) w)
    {encs : α → Array Value} {S Sp : List α → Prop} {C : Nat → Prop} (hseq : SeqF F (n - 1) P gf lb encs S Sp C w0) (hps : ∀ x, (encs x).size = ps.size) (hC : ∀ b, C b → b < w.heap.size ∧ w.heap[b]? = w0.heap[b]?)
    (U : List α → (Nat → Prop) → World → Prop) (Ux : Code → List α → (Nat → Prop) → World → Prop) (Fp0 : Nat → Prop) (hFp0 : ∀ b, Fp0 b → b < w.heap.size ∧ ¬ C b)
    (hU : ∀ pre Fp A A' row, U pre Fp A → w.heap.size ≤ A.heap.size → A.grownBy A' row → (∀ r, row = some r → w.heap.size ≤ r ∧ ¬ Fp r) → U pre Fp A')
    (hUx : ∀ c pre Fp A A' row, Ux c pre Fp A → w.heap.size ≤ A.heap.size → A.grownBy A' row → (∀ r, row = some r → w.heap.size ≤ r ∧ ¬ Fp r) → Ux c pre Fp A')
    (h0 : U [] Fp0 w) (a₁ : α → Act)
    (hassign : ∀ (l : Nat) (x : α) (W : World) (K : Act → World → Prop), K (a₁ x) W → assign.wpIn (F.inRound l) (n - 1 - 1) P (Exit.then K (fun _ _ _ => False)) { tmps := (ps.zip (encs x)).foldl (fun t (p, v) => t.setIfInBounds p v) a.tmps, defers := [] } W)
    (hbody : ∀ (l : Nat) (pre : List α) (x : α) (Fp : Nat → Prop) (W : World), U pre Fp W → w.heap.size ≤ W.heap.size → Sp (pre ++ [x]) → body.wpIn (F.inRound l) (n - 1 - 1) P (Left Fp U Ux (pre ++ [x]) W) (a₁ x) W)
    (hdone : ∀ (d : Nat) (xs : List α) (Fp : Nat → Prop) (W : World), S xs → w.heap.size ≤ d → U xs Fp W → ¬ Fp d → W.heap[d]? = some (.deferred (some [])) → Q .normal { a with defers := { target := .collected d, args := #[] } :: a.defers } W)
    (hstop : ∀ (d : Nat) (c : Code) (pre : List α) (Fp : Nat → Prop) (W : World), Sp pre → w.heap.size ≤ d → Ux c pre Fp W → ¬ Fp d → W.heap[d]? = some (.deferred (some [])) → c.wpIn F n P Q { a with defers := { target := .collected d, args := #[] } :: a.defers } W) :
    (Code.rangeFunc g ps assign body).wpIn F n P Q a w := by
  refine wpIn_rangeFunc fun fn hfn => ?_
  rw [hro]
  let rec_ : LoopState → Option Code → Loop := fun st pe => { state := st, pending := pe, fn, tmps := a.tmps, params := ps, assign, body, defers := w.heap.size }
  have hrs : ∀ st pe, (rec_ st pe).state = st := fun _ _ => rfl
  have hrp : ∀ st pe, (rec_ st pe).params = ps := fun _ _ => rfl
  have hrb : ∀ st pe st' pe', { rec_ st pe with state := st', pending := pe' } = rec_ st' pe' := fun _ _ _ _ => rfl
  have hrb2 : ∀ st pe st', { rec_ st pe with state := st' } = rec_ st' pe := fun _ _ _ => rfl
  have hrf : ∀ st pe, (rec_ st pe).fn = fn ∧ (rec_ st pe).assign = assign ∧ (rec_ st pe).body = body ∧ (rec_ st pe).tmps = a.tmps ∧ (rec_ st pe).pending = pe := fun _ _ => ⟨rfl, rfl, rfl, rfl, rfl⟩
  have hent : (Instr.enterLoop fn a.tmps ps assign body none).run P w = .ok (w.heap.size + 1, [{ target := .collected w.heap.size, args := #[] }]) ((w.alloc (.deferred (some []))).alloc (.loop (rec_ .ready none))) := run_enterLoop_outer fn a.tmps ps assign body
  let Bk : Loop → World → Prop := fun r W => W.heap[w.heap.size + 1]? = some (.loop r) ∧ W.heap[w.heap.size]? = some (.deferred (some []))
  have hBk : ∀ r W, Bk r W ↔ (W.heap[w.heap.size + 1]? = some (.loop r) ∧ W.heap[w.heap.size]? = some (.deferred (some []))) := fun _ _ => Iff.rfl
  generalize hW1 : (w.alloc (.deferred (some []))).alloc (.loop (rec_ .ready none)) = W1 at hent
  have hs1 : W1.heap.size = w.heap.size + 2 := by subst hW1; rw [World.size_alloc, World.size_alloc]
  have hB1 : Bk (rec_ .ready none) W1 := by
    subst hW1
    refine ⟨?_, (Below.heap_alloc _ _ _ (by simp)).trans (World.alloc_heap_new w _)⟩
    have := World.alloc_heap_new (w.alloc (.deferred (some []))) (.loop (rec_ .ready none))
    rwa [World.size_alloc] at this
  have hg1 : w.grownBy W1 none := by subst hW1; exact ⟨rfl, rfl, rfl, by simp; omega, fun k hk _ => by rw [Below.heap_alloc _ _ _ (by simp; omega), Below.heap_alloc _ _ _ hk]⟩
  have hU1 : U [] Fp0 W1 := hU _ _ _ _ _ h0 (Nat.le_refl _) hg1 (fun r e => by cases e)
  have hC1 : ∀ b, C b → b < W1.heap.size ∧ W1.heap[b]? = w0.heap[b]? := fun b hb => by
    obtain ⟨h1, h2⟩ := hC b hb
    exact ⟨by omega, by rw [hg1.block b h1 (fun e => by cases e)]; exact h2⟩
  clear_value Bk rec_
  have keep : ∀ {r A B} {Fp : Nat → Prop}, Only Fp A B → ¬ Fp w.heap.size → ¬ Fp (w.heap.size + 1) → Bk r A → Bk r B := fun hk f0 f1 hb => by
    rw [hBk] at hb ⊢
    exact ⟨(hk.block _ (Array.getElem?_eq_some_iff.1 hb.1).1 f1).trans hb.1, (hk.block _ (Array.getElem?_eq_some_iff.1 hb.2).1 f0).trans hb.2⟩
  have big : ∀ {r A}, Bk r A → w.heap.size + 1 < A.heap.size := fun hb => by rw [hBk] at hb; exact (Array.getElem?_eq_some_iff.1 hb.1).1
  have turn : ∀ {r A} (r' : Loop), Bk r A → Bk r' (A.putObj (w.heap.size + 1) (.loop r')) := fun r' hb => by
    have h := big hb
    rw [hBk] at hb ⊢
    exact ⟨World.putObj_heap_same h, (World.putObj_heap_other (by omega)).trans hb.2⟩
  refine ⟨w.heap.size + 1, [{ target := .collected w.heap.size, args := #[] }], W1, { target := .fn (.func gf) lb, args := #[.func (.yield (w.heap.size + 1)) #[] #[]] }, W1, gf, #[.func (.yield (w.heap.size + 1)) #[] #[]] ++ lb, W1, hent, ?_, ?_, ?_, fun _ => h1, ?_⟩
  · simp only [resolve, hg]
    simp [go_sem]
  · intro f' hf'; simp [Target.leads] at hf'; subst hf'; exact hFg
  · simp [invoke, go_sem, eg]
  refine (hseq (w.heap.size + 1) (fun pre Fp' A => ∃ Fp, (∀ b, Fp' b ↔ Fp b ∨ b = w.heap.size + 1) ∧ U pre Fp A ∧ Bk (rec_ .ready none) A ∧ ¬ Fp w.heap.size ∧ ¬ Fp (w.heap.size + 1)) (fun pre Fp' A => ∃ Fp c, (∀ b, Fp' b ↔ Fp b ∨ b = w.heap.size + 1) ∧ Ux c pre Fp A ∧ Bk (rec_ .done (some c)) A ∧ ¬ Fp w.heap.size ∧ ¬ Fp (w.heap.size + 1)) W1 (fun b => Fp0 b ∨ b = w.heap.size + 1) hC1 ?_ ?_ ?_ ?_ ?_).mono ?_
  · rintro b (hb | rfl)
    · exact ⟨by have := (hFp0 b hb).1; omega, (hFp0 b hb).2⟩
    · exact ⟨by omega, fun hc => by have := (hC _ hc).1; omega⟩
  · rintro pre Fp' A A' row ⟨Fp, hF, hu, hb, f0, f1⟩ hsz hg hrow
    have hnl : ∀ r, row = some r → w.heap.size ≤ r ∧ ¬ Fp r := fun r e => ⟨by have := (hrow r e).1; omega, fun hf => (hrow r e).2 ((hF r).2 (.inl hf))⟩
    refine ⟨Fp, hF, hU _ _ _ _ _ hu (by omega) hg hnl, ?_, f0, f1⟩
    rw [hBk] at hb ⊢
    exact ⟨(hg.block _ (Array.getElem?_eq_some_iff.1 hb.1).1 (fun e => by have := (hrow _ e.symm).1; omega)).trans hb.1, (hg.block _ (Array.getElem?_eq_some_iff.1 hb.2).1 (fun e => by have := (hrow _ e.symm).1; omega)).trans hb.2⟩
  · rintro pre Fp' A A' row ⟨Fp, c, hF, hu, hb, f0, f1⟩ hsz hg hrow
    have hnl : ∀ r, row = some r → w.heap.size ≤ r ∧ ¬ Fp r := fun r e => ⟨by have := (hrow r e).1; omega, fun hf => (hrow r e).2 ((hF r).2 (.inl hf))⟩
    refine ⟨Fp, c, hF, hUx _ _ _ _ _ _ hu (by omega) hg hnl, ?_, f0, f1⟩
    rw [hBk] at hb ⊢
    exact ⟨(hg.block _ (Array.getElem?_eq_some_iff.1 hb.1).1 (fun e => by have := (hrow _ e.symm).1; omega)).trans hb.1, (hg.block _ (Array.getElem?_eq_some_iff.1 hb.2).1 (fun e => by have := (hrow _ e.symm).1; omega)).trans hb.2⟩
  · rintro pre x Fp' A ⟨Fp, hF, hu, hb, f0, f1⟩ hsz hlen
    have hl0 := ((hBk _ _).1 hb).1
    have hy := run_yield (P := P) (args := encs x) hl0 (by rw [hrp]; exact hps x)
    obtain ⟨e1, e2, e3, e4, e5⟩ := hrf .ready none
    rw [e1, e2, e3, e4, hrp] at hy
    have hub : U pre Fp (A.putObj (w.heap.size + 1) (.loop (rec_ .busy none))) := hU _ _ _ _ _ hu (by omega) (grownBy_putObj' A (w.heap.size + 1) _) (fun r e => by cases e; exact ⟨Nat.le_succ _, f1⟩)
    have hbb : Bk (rec_ .busy none) (A.putObj (w.heap.size + 1) (.loop (rec_ .busy none))) := turn _ hb
    have hsb : (A.putObj (w.heap.size + 1) (.loop (rec_ .busy none))).heap.size = A.heap.size := by simp
    refine ⟨fn, _, assign, body, hy, roundIn_of_wpIn hfn (hassign _ x A _ ⟨_, by have := run_beginRound (P := P) hl0 (hrs _ _); rw [hrb2] at this; exact this, ?_⟩)⟩
    refine wpIn_mono (hbody _ pre x Fp _ hub (by rw [hsb]; omega) hlen) ?_
    have fin : ∀ (jump : Option Code) (W3 : World), Only Fp (A.putObj (w.heap.size + 1) (.loop (rec_ .busy none))) W3 →
        (Instr.endRound (w.heap.size + 1) jump).run P W3 = .ok (.bool jump.isNone) (W3.putObj (w.heap.size + 1) (.loop (rec_ (if jump.isNone then .ready else .done) jump))) ∧
        W3.heap[w.heap.size + 1]? = some (.loop (rec_ .busy none)) ∧ Bk (rec_ (if jump.isNone then .ready else .done) jump) (W3.putObj (w.heap.size + 1) (.loop (rec_ (if jump.isNone then .ready else .done) jump))) := fun jump W3 hk3 => by
      have hb3 := keep hk3 f0 f1 hbb
      have hl3 := ((hBk _ _).1 hb3).1
      have := run_endRound (P := P) jump hl3
      rw [hrb] at this
      exact ⟨this, hl3, turn _ hb3⟩
    have hbs := big hb
    have grow_ : ∀ (W3 : World) (Fp2 : Nat → Prop) (jump : Option Code), Only Fp (A.putObj (w.heap.size + 1) (.loop (rec_ .busy none))) W3 → (∀ b, Fp2 b → Fp b ∨ (A.putObj (w.heap.size + 1) (.loop (rec_ .busy none))).heap.size ≤ b) → ¬ Fp2 w.heap.size ∧ ¬ Fp2 (w.heap.size + 1) ∧
        Only Fp' A (W3.putObj (w.heap.size + 1) (.loop (rec_ (if jump.isNone then .ready else .done) jump))) ∧ ∀ b, (Fp2 b ∨ b = w.heap.size + 1) → Fp' b ∨ A.heap.size ≤ b := fun W3 Fp2 jump ho2 hn2 => by
      rw [hsb] at hn2
      refine ⟨fun h => ?_, fun h => ?_, ?_, ?_⟩
      · rcases hn2 _ h with h | h
        · exact f0 h
        · omega
      · rcases hn2 _ h with h | h
        · exact f1 h
        · omega
      · have s0 : W3.heap.size = (W3.putObj (w.heap.size + 1) (.loop (rec_ (if jump.isNone then .ready else .done) jump))).heap.size := by simp
        refine ⟨ho2.os, ho2.tape, ho2.output, ?_, fun k hk hnf => ?_⟩
        · have := ho2.size; rw [hsb] at this; rw [← s0]; exact this
        · have hk1 : k ≠ w.heap.size + 1 := fun e => hnf ((hF k).2 (.inr e))
          have hk2 : ¬ Fp k := fun h => hnf ((hF k).2 (.inl h))
          rw [World.putObj_heap_other hk1, ho2.block k (by rw [hsb]; exact hk) hk2, World.putObj_heap_other hk1]
      · rintro b (hb5 | rfl)
        · rcases hn2 b hb5 with h | h
          · exact .inl ((hF b).2 (.inl h))
          · exact .inr h
        · exact .inl ((hF _).2 (.inr rfl))
    rintro e a3 W3 hp
    cases e with
    | normal =>
      obtain ⟨Fp2, hu2, ho2, hn2⟩ := hp
      obtain ⟨hr, hl3, hb4⟩ := fin none W3 ho2
      obtain ⟨g0, g1, k1, k2⟩ := grow_ W3 Fp2 none ho2 hn2
      exact ⟨_, _, hr, .inl ⟨rfl, fun b => Fp2 b ∨ b = w.heap.size + 1, ⟨Fp2, fun b => Iff.rfl, hU _ _ _ _ _ hu2 (by have := ho2.size; rw [hsb] at this; omega) (grownBy_putObj' W3 (w.heap.size + 1) _) (fun r e => by cases e; exact ⟨Nat.le_succ _, g1⟩), hb4, g0, g1⟩, k1, k2⟩⟩
    | ret =>
      obtain ⟨Fp2, hu2, ho2, hn2⟩ := hp
      obtain ⟨hr, hl3, hb4⟩ := fin (some .ret) W3 ho2
      obtain ⟨g0, g1, k1, k2⟩ := grow_ W3 Fp2 (some .ret) ho2 hn2
      exact ⟨_, _, hr, .inr ⟨rfl, fun b => Fp2 b ∨ b = w.heap.size + 1, ⟨Fp2, .ret, fun b => Iff.rfl, hUx _ _ _ _ _ _ hu2 (by have := ho2.size; rw [hsb] at this; omega) (grownBy_putObj' W3 (w.heap.size + 1) _) (fun r e => by cases e; exact ⟨Nat.le_succ _, g1⟩), hb4, g0, g1⟩, k1, k2⟩⟩
    | exit id =>
      obtain ⟨Fp2, hu2, ho2, hn2⟩ := hp
      obtain ⟨hr, hl3, hb4⟩ := fin (some (.exit id)) W3 ho2
      obtain ⟨g0, g1, k1, k2⟩ := grow_ W3 Fp2 (some (.exit id)) ho2 hn2
      exact ⟨_, _, hr, .inr ⟨rfl, fun b => Fp2 b ∨ b = w.heap.size + 1, ⟨Fp2, (.exit id), fun b => Iff.rfl, hUx _ _ _ _ _ _ hu2 (by have := ho2.size; rw [hsb] at this; omega) (grownBy_putObj' W3 (w.heap.size + 1) _) (fun r e => by cases e; exact ⟨Nat.le_succ _, g1⟩), hb4, g0, g1⟩, k1, k2⟩⟩
    | goto t =>
      obtain ⟨Fp2, hu2, ho2, hn2⟩ := hp
      obtain ⟨hr, hl3, hb4⟩ := fin (some (.goto t)) W3 ho2
      obtain ⟨g0, g1, k1, k2⟩ := grow_ W3 Fp2 (some (.goto t)) ho2 hn2
      exact ⟨_, _, hr, .inr ⟨rfl, fun b => Fp2 b ∨ b = w.heap.size + 1, ⟨Fp2, (.goto t), fun b => Iff.rfl, hUx _ _ _ _ _ _ hu2 (by have := ho2.size; rw [hsb] at this; omega) (grownBy_putObj' W3 (w.heap.size + 1) _) (fun r e => by cases e; exact ⟨Nat.le_succ _, g1⟩), hb4, g0, g1⟩, k1, k2⟩⟩
    | panic ch => exact hp.elim
    | outgrown => exact hp.elim
  · exact ⟨Fp0, fun b => Iff.rfl, hU1, hB1, fun h => by have := (hFp0 _ h).1; omega, fun h => by have := (hFp0 _ h).1; omega⟩
  · rintro e W2 ⟨⟨v, rfl⟩, (⟨pre, Fp', hS, Fp, hF, hd, hb, f0, f1⟩ | ⟨pre, Fp', hSp, Fp, c, hF, hx, hb, f0, f1⟩)⟩
    · have hb2 := (hBk _ _).1 hb
      have hbs := big hb
      exact ⟨none, _, by have := run_endLoop (P := P) hb2.1 (by rw [hrs]; simp); rw [(hrf .ready none).2.2.2.2] at this; exact this, hdone _ pre Fp _ hS (Nat.le_refl _) (hU _ _ _ _ _ hd (by omega) (grownBy_putObj' W2 (w.heap.size + 1) _) (fun r e => by cases e; exact ⟨Nat.le_succ _, f1⟩)) f0 ((World.putObj_heap_other (by omega)).trans hb2.2)⟩
    · have hb2 := (hBk _ _).1 hb
      have hbs := big hb
      exact ⟨some c, _, by have := run_endLoop (P := P) hb2.1 (by rw [hrs]; simp); rw [(hrf .done (some c)).2.2.2.2] at this; exact this, hstop _ c pre Fp _ hSp (Nat.le_refl _) (hUx _ _ _ _ _ _ hx (by omega) (grownBy_putObj' W2 (w.heap.size + 1) _) (fun r e => by cases e; exact ⟨Nat.le_succ _, f1⟩)) f0 ((World.putObj_heap_other (by omega)).trans hb2.2)⟩
end Fo
end Go.Proofs.YtocoonkachbjaaaGreatDoor

/- forest.walk and its iterator. -/
namespace Go.Proofs.YtocoonkachbjaaaGreatDoor
open Go.RowKit Go.Maps
set_option linter.unusedVariables false
namespace Vw
attribute [local go_sem] Oper.semAt_some

set_option maxRecDepth 100000 in
set_option maxHeartbeats 4000000 in
theorem walk1_seq (n : Nat) (ss : List Sess) (hl : ss.length ≤ 65536) (d : Value) (g : Nat) (vs : Nat → Value) (bf bq : Nat) (v : Value) (ls : List Nat) (hll : ls.length ≤ 65536) (hls : ∀ i ∈ ls, i < ss.length) (C : Nat → Prop) (w : World)
    (hC : ∀ W, (∀ b, C b → b < W.heap.size ∧ W.heap[b]? = w.heap[b]?) → FW ss d g vs W ∧ W.cell? ⟨bf, 1, none⟩ = some (.slice (some ⟨g, 0, none⟩) (ss.length + 1) (ss.length + 1)) ∧ W.cell? ⟨bq, 0, none⟩ = some v ∧ In.IntArg W v (ints ls)) :
    Fo.SeqF Fence.wide n Tryz.prog 83 #[.pointer (some ⟨bf, 0, none⟩), .pointer (some ⟨bq, 0, none⟩)] encF (fun ys => ys = Vt.pre (kidsF ss) (ss.length + 1) 0 ls) (fun p => p <+: Vt.pre (kidsF ss) (ss.length + 1) 0 ls) C w := by
  intro l J Jx W Fp0 hCW hFp hJ hJx hY h0
  obtain ⟨W1, hW1⟩ : ∃ W1, W1 = (W.alloc (.cells #[.func (.yield l) #[] #[]] 138)).alloc (.cells #[.func (.func 84) #[] #[.pointer (some ⟨W.heap.size, 0, none⟩), .pointer (some ⟨W.heap.size + 1, 0, none⟩), .pointer (some ⟨bf, 0, none⟩)]] 139) := ⟨_, rfl⟩
  have hs1 : W1.heap.size = W.heap.size + 2 := by rw [hW1, World.size_alloc, World.size_alloc]
  have hb1 : Below W.heap.size W W1 := by rw [hW1]; exact ((Below.refl _ _).alloc (Nat.le_refl _) _).alloc (by simp) _
  have cy : W1.heap[W.heap.size]? = some (.cells #[.func (.yield l) #[] #[]] 138 (0, 0)) := by rw [hW1, al_old (by simp)]; exact Ut.alloc_at _ _
  have cd : W1.heap[W.heap.size + 1]? = some (.cells #[.func (.func 84) #[] #[.pointer (some ⟨W.heap.size, 0, none⟩), .pointer (some ⟨W.heap.size + 1, 0, none⟩), .pointer (some ⟨bf, 0, none⟩)]] 139 (0, 0)) := by
    rw [hW1]
    have := Ut.alloc_at (W.alloc (.cells #[.func (.yield l) #[] #[]] 138)) (.cells #[.func (.func 84) #[] #[.pointer (some ⟨W.heap.size, 0, none⟩), .pointer (some ⟨W.heap.size + 1, 0, none⟩), .pointer (some ⟨bf, 0, none⟩)]] 139)
    rwa [World.size_alloc] at this
  obtain ⟨I, hI⟩ : ∃ I : Nat → Prop, I = fun b => C b ∨ b = W.heap.size ∨ b = W.heap.size + 1 := ⟨_, rfl⟩
  have hIl : ∀ b, I b → b < W1.heap.size := fun b hb => by
    rw [hI] at hb
    rcases hb with hb | hb | hb
    · have := (hCW b hb).1; omega
    · omega
    · omega
  have hG : ∀ A : World, (∀ b, I b → b < A.heap.size ∧ A.heap[b]? = W1.heap[b]?) → (FW ss d g vs A ∧ A.cell? ⟨W.heap.size, 0, none⟩ = some (.func (.yield l) #[] #[]) ∧ A.cell? ⟨W.heap.size + 1, 0, none⟩ = some (.func (.func 84) #[] #[.pointer (some ⟨W.heap.size, 0, none⟩), .pointer (some ⟨W.heap.size + 1, 0, none⟩), .pointer (some ⟨bf, 0, none⟩)]) ∧
      A.cell? ⟨bf, 1, none⟩ = some (.slice (some ⟨g, 0, none⟩) (ss.length + 1) (ss.length + 1))) ∧ A.cell? ⟨bq, 0, none⟩ = some v ∧ In.IntArg A v (ints ls) := fun A hA => by
    have h1 := hC A (fun b hb => by
      have h2 := hA b (by rw [hI]; exact .inl hb)
      exact ⟨h2.1, h2.2.trans ((hb1.block b (hCW b hb).1).trans (hCW b hb).2)⟩)
    have h3 := hA W.heap.size (by rw [hI]; exact .inr (.inl rfl))
    have h4 := hA (W.heap.size + 1) (by rw [hI]; exact .inr (.inr rfl))
    exact ⟨⟨h1.1, by rw [block_cell (h3.2.trans cy)]; rfl, by rw [block_cell (h4.2.trans cd)]; rfl, h1.2.1⟩, h1.2.2⟩
  have hJ1 : J [] Fp0 W1 := hJ _ _ _ _ none h0 (Nat.le_refl _) ⟨hb1.os, hb1.tape, hb1.output, hb1.size, fun k hk _ => hb1.block k hk⟩ (fun r e => by cases e)
  have hself : ∀ b, I b → b < W1.heap.size ∧ W1.heap[b]? = W1.heap[b]? := fun b hb => ⟨hIl b hb, rfl⟩
  have hD := down_in ss hl d g vs l W.heap.size (W.heap.size + 1) bf (fun A => ∀ b, I b → b < A.heap.size ∧ A.heap[b]? = W1.heap[b]?) (fun A h => h) (fun A h => (hG A h).1)
    (fun pre A => ∃ Fp, J pre Fp A ∧ W1.heap.size ≤ A.heap.size ∧ ∀ b, I b → ¬ Fp b) (fun pre A => ∃ Fp, Jx pre Fp A)
    (fun pre A ⟨Fp, h1, h2, h3⟩ => ⟨Fp, hJ _ _ _ _ none h1 (by omega) ⟨rfl, rfl, rfl, Nat.le_refl _, fun _ _ _ => rfl⟩ (fun r e => by cases e), h2, h3⟩) (Vt.pre (kidsF ss) (ss.length + 1) 0 ls)
    (fun pre x A ⟨Fp, h1, h2, h3⟩ hGA hlen => by
      obtain ⟨fn, tmps, assign, body, hy, hR⟩ := hY pre x Fp A h1 (by omega) hlen
      refine ⟨fn, tmps, assign, body, hy, (Hi.round_any hR).mono ?_⟩
      rintro e W' (⟨rfl, Fp', k1, k2, k3⟩ | ⟨rfl, Fp', k1, -, -⟩)
      · refine .inl ⟨rfl, ⟨Fp', k1, by have := k2.size; omega, fun b hb hf => ?_⟩, fun b hb => ?_⟩
        · rcases k3 b hf with h | h
          · exact h3 b hb h
          · have := hIl b hb; omega
        · have h4 := hGA b hb
          exact ⟨by have := k2.size; omega, (k2.block b h4.1 (h3 b hb)).trans h4.2⟩
      · exact .inr ⟨rfl, Fp', k1⟩)
    (ss.length + 1) 0 v ls [] W1 hll (by omega) (fun A h => (hG A h).2.2) (fun i hi => ⟨hls i hi, by omega⟩) ⟨Fp0, hJ1, Nat.le_refl _, fun b hb hf => by
      have h5 := hFp b hf
      rw [hI] at hb
      rcases hb with hb | hb | hb
      · exact h5.2 hb
      · omega
      · omega⟩ hself (by simp)
  unfold DownP at hD
  have HD := Lib.hid hD
  have cq := (hG W1 hself).2.1
  have cd0 : W1.cell? ⟨W.heap.size + 1, 0, none⟩ = _ := (hG W1 hself).1.2.2.1
  have HW1 := Lib.hid hW1
  rw [hW1] at cq cd0
  clear hD hG hself hJ1 hIl hI cy cd hb1 hs1 hY hJ hJx hFp hCW h0 hC hls
  refine callsIn_of_wp Tryz.func83 rfl trivial ?_ rfl
  simp only [Tryz.ntmps83, List.size_toArray, List.length_cons, List.length_nil, Nat.reduceAdd, Nat.reduceSub, Array.replicate_succ, Array.replicate_zero, List.push_toArray, List.append_toArray, List.nil_append, List.cons_append]
  clear hW1
  gi_wp2_with fail
  rw [← HW1.out]
  refine ⟨trivial, fun h => by simp [Fence.wide] at h, (Hi.calls_any HD.out).mono ?_⟩
  rintro e W2 (⟨rfl, ⟨Fp, hj, -, -⟩, -⟩ | ⟨rfl, p, hp, Fp, hj⟩)
  · gi_wp2
    go_end0
    exact ⟨⟨_, rfl⟩, .inl ⟨_, Fp, rfl, by simpa using hj⟩⟩
  · gi_wp2
    go_end0
    exact ⟨⟨_, rfl⟩, .inr ⟨p, Fp, hp, by simpa using hj⟩⟩

/-- forest.walk. -/
theorem walk_any (qd qk qv : Option Addr) (nd cd nk ck n c : Nat) (w : World) :
    Calls Tryz.prog 42 #[.agg #[.slice qd nd cd, .slice qk nk ck], .slice qv n c] w fun e w' => e = .returned (.func (.func 83) #[] #[.pointer (some ⟨w.heap.size, 0, none⟩), .pointer (some ⟨w.heap.size + 1, 0, none⟩)]) ∧
      w' = (w.alloc (.cells #[.slice qd nd cd, .slice qk nk ck] 77)).alloc (.cells #[.slice qv n c] 82) := by
  go_enter Tryz.func42, Tryz.ntmps42
  go_wp2
  go_ret
  exact ⟨rfl, rfl⟩
end Vw
end Go.Proofs.YtocoonkachbjaaaGreatDoor

/- Structs whose cells are letters, in a fenced walk. No program's code. -/
namespace Go.Proofs.YtocoonkachbjaaaGreatDoor
open Go.RowKit
set_option linter.unusedVariables false
namespace Ag
variable {F : Fence} {n : Nat} {P : Program} {ops : Array Oper} {rest : List Oper} {o : Oper} {a : Act} {w : World} {Q : Exit → Act → World → Prop}
theorem wpListIn_load (hg : o.guard = none) (ty : TypeId) (x : Operand) (ho : o.op = .load ty x) (b off : Nat) (hx : a.eval x = .pointer (some ⟨b, off, none⟩)) (cs : List Value) (d : TypeDesc) (hc : w.rangeAt b off cs)
    (hu : P.underlying ty = some d) (hd : d.isRow = true) (hi : (P.info? ty).map (·.size) = some cs.length) (h : wpListIn F n P ops Q rest (a.put o.dst (.agg cs.toArray)) w) : wpListIn F n P ops Q (o :: rest) a w := by
  refine wpListIn_plain hg fun K hK => ?_
  unfold Oper.wpIn
  refine ⟨by simp [Oper.about, ho], ?_⟩
  rw [Oper.semAt_plain F _ _ (by rw [ho]; intro c hc'; cases hc')]
  unfold execOp
  simp only [ho, hx, Instr.loadAt, Instr.sureAddr, Sem.run_bind, Sem.run_pure, Result.andThen_ok, run_loadVar_mid w b off ty cs d hc hu hd hi]
  exact hK _ _ h
theorem wpListIn_one (hg : o.guard = none) (t e : TypeId) (x : Operand) (ho : o.op = .buildSlice t 1 #[(0, x)]) (cs : List Value) (hx : a.eval x = .agg cs.toArray) (ie : TypeInfo) (z : Value) (hu : P.underlying t = some (.slice e)) (hie : P.info? e = some ie) (hz : ie.zero = some z)
    (hn : cs.length = ie.size) (h0 : 0 < ie.size) (hs : ie.size ≤ 16777216) (h : wpListIn F n P ops Q rest (a.put o.dst (.slice (some ⟨w.heap.size, 0, none⟩) 1 1)) (w.alloc (.cells cs.toArray e))) : wpListIn F n P ops Q (o :: rest) a w := by
  refine wpListIn_plain hg fun K hK => ?_
  unfold Oper.wpIn
  refine ⟨by simp [Oper.about, ho], ?_⟩
  rw [Oper.semAt_plain F _ _ (by rw [ho]; intro c hc'; cases hc')]
  have hr := Go.run_buildSlice (P := P) w t e 1 #[(0, .agg cs.toArray)] cs.toArray ie z hu hie hz (by omega) (by omega) (fill_one ie z cs hn h0)
  unfold execOp
  have e1 : (#[(0, x)] : Array (Nat × Operand)).map (fun y => (y.1, a.eval y.2)) = #[(0, .agg cs.toArray)] := by simp [hx]
  simp only [ho]
  rw [e1]
  simp only [Sem.run_bind, hr, Result.andThen_ok]
  exact hK _ _ h
theorem wpListIn_store_new {t : TypeId} {Z : Array Value} (hg : o.guard = none) (ty : TypeId) (x y : Operand) (ho : o.op = .store ty x y) (cs : List Value)
    (hx : a.eval x = .pointer (some ⟨w.heap.size, 0, none⟩)) (hy : a.eval y = .agg cs.toArray) (hi : (P.info? ty).map (·.size) = some cs.length) (hZ : Z.size = cs.length) (h1 : ∀ v ∈ cs, v.oneCell' = true)
    (h : wpListIn F n P ops Q rest (a.put o.dst undef) (w.alloc (.cells cs.toArray t))) : wpListIn F n P ops Q (o :: rest) a (w.alloc (.cells Z t)) := by
  refine wpListIn_plain hg fun K hK => ?_
  unfold Oper.wpIn
  refine ⟨by simp [Oper.about, ho], ?_⟩
  rw [Oper.semAt_plain F _ _ (by rw [ho]; intro c hc'; cases hc')]
  have hr := run_storeVar_mid (P := P) (w.alloc (.cells Z t)) w.heap.size 0 ty cs.toArray (there_new w t Z _ (by simp [hZ])) (by simpa using hi) (all_oneCell_toArray h1)
  rw [setCells_new, List.toList_toArray, put_all hZ] at hr
  unfold execOp
  simp only [ho, hx, hy, Instr.storeAt, Instr.sureAddr, Sem.run_bind, Sem.run_pure, Result.andThen_ok, hr]
  exact hK _ _ h
end Ag
end Go.Proofs.YtocoonkachbjaaaGreatDoor

/- view.Kids and its iterator. -/
namespace Go.Proofs.YtocoonkachbjaaaGreatDoor
open Go.RowKit Go.Maps
set_option linter.unusedVariables false
namespace Vw
attribute [local go_sem] Oper.semAt_some

/-- The iterator's blocks stay while the body writes its own. -/
def Kept (C Fp : Nat → Prop) (w A : World) : Prop := ∀ b, C b → ¬ Fp b ∧ b < A.heap.size ∧ A.heap[b]? = w.heap[b]?
theorem Kept.agree {C Fp : Nat → Prop} {w A : World} (h : Kept C Fp w A) : ∀ b, C b → b < A.heap.size ∧ A.heap[b]? = w.heap[b]? := fun b hb => (h b hb).2
theorem Kept.yield {C Fp Fp' : Nat → Prop} {w A A' : World} (h : Kept C Fp w A) (ho : Only Fp A A') (hn : ∀ b, Fp' b → Fp b ∨ A.heap.size ≤ b) : Kept C Fp' w A' := fun b hb => by
  obtain ⟨h1, h2, h3⟩ := h b hb
  refine ⟨fun hf => ?_, Nat.lt_of_lt_of_le h2 ho.size, (ho.block b h2 h1).trans h3⟩
  rcases hn b hf with h4 | h4
  · exact h1 h4
  · omega
def encS (ss : List Sess) (i : Nat) : Array Value := #[.agg (csAt ss i).toArray]
theorem sess_range {W : World} {p : Option Addr} {c : Nat} {ss : List Sess} (h : SessArg W (.slice p ss.length c) ss) {i : Nat} (hi : i < ss.length) : ∃ ga oa, p = some ⟨ga, oa, none⟩ ∧ W.rangeAt ga (oa + i * 12) (csAt ss i) := by
  obtain ⟨p2, c2, e, hc⟩ := h
  injection e with e1 e2 e3
  obtain ⟨ga, oa, h1, h2, h3⟩ := hc i hi
  exact ⟨ga, oa, e1.trans h1, fun j u hu => h3 j u (by rw [csAt_at hi] at hu; exact hu)⟩
theorem cs_len {ss : List Sess} {i : Nat} (h : i < ss.length) : (csAt ss i).length = 12 := by rw [csAt_at h]; rfl

set_option maxRecDepth 100000 in
set_option maxHeartbeats 4000000 in
theorem kids1_seq (n : Nat) (ss : List Sess) (hl : ss.length ≤ 65536) (d : Value) (bk bf : Nat) (v : Value) (ls : List Nat) (hll : ls.length ≤ 65536) (hls : ∀ i ∈ ls, i < ss.length) (C : Nat → Prop) (w : World)
    (hC : ∀ W, (∀ b, C b → b < W.heap.size ∧ W.heap[b]? = w.heap[b]?) → SessArg W d ss ∧ W.cell? ⟨bf, 0, none⟩ = some d ∧ W.cell? ⟨bk, 0, none⟩ = some v ∧ In.IntArg W v (ints ls)) :
    Fo.SeqF Fence.wide n Tryz.prog 93 #[.pointer (some ⟨bk, 0, none⟩), .pointer (some ⟨bf, 0, none⟩)] (encS ss) (fun ys => ys = ls) (fun p => p <+: ls) C w := by
  intro l J Jx W Fp0 hCW hFp hJ hJx hY h0
  have hil : (ints ls).length = ls.length := by unfold ints; rw [List.length_map]
  obtain ⟨-, -, cv, p, c, rfl, -⟩ := hC W hCW
  rw [hil] at cv
  have HC := Lib.hid hC
  have HJ := Lib.hid hJ; have HY := Lib.hid hY; have HLS := Lib.hid hls
  have HK0 : Hid (Kept C Fp0 w W) := fun b hb => ⟨fun hf => (hFp b hf).2 hb, hCW b hb⟩
  have H0 := Lib.hid h0
  have HCV : Hid (∀ A : World, (∀ b, C b → b < A.heap.size ∧ A.heap[b]? = w.heap[b]?) → A.cell? ⟨bf, 0, none⟩ = some d ∧ ∀ (j i : Nat), ls[j]? = some i → ∃ ga oa, p = some ⟨ga, oa, none⟩ ∧ A.cell? ⟨ga, oa + j, none⟩ = some (.int .i64 (i : Int))) := fun A hA => by
    obtain ⟨h1, h2, h3, p2, c2, e, hc⟩ := HC.out A hA
    refine ⟨h2, fun j i hji => ?_⟩
    have hlt := (List.getElem?_eq_some_iff.1 hji).1
    obtain ⟨ga, oa, k1, k2, k3⟩ := hc j (by rw [hil]; exact hlt)
    injection e with e1 e2 e3
    refine ⟨ga, oa, e1.trans k1, ?_⟩
    have e4 : ls[j] = i := (List.getElem?_eq_some_iff.1 hji).2
    rw [k3]; simp [ints, e4]
  clear hC hJ hJx hY hls hCW hFp h0 hil
  refine callsIn_of_wp Tryz.func93 rfl trivial ?_ rfl
  simp only [Tryz.ntmps93, List.size_toArray, List.length_cons, List.length_nil, Nat.reduceAdd, Nat.reduceSub, Array.replicate_succ, Array.replicate_zero, List.push_toArray, List.append_toArray, List.nil_append, List.cons_append]
  gi_wp2
  gi_loopw [8] (fun i wr => ∃ (k : Nat) (Fp : Nat → Prop), k ≤ ls.length ∧ i = .int .i64 k ∧ J (ls.take k) Fp wr ∧ W.heap.size ≤ wr.heap.size ∧ Kept C Fp w wr) (fun i _ => ls.length - (intOf i).toNat)
  case atStart => exact ⟨0, Fp0, Nat.zero_le _, rfl, H0.out, Nat.le_refl _, HK0.out⟩
  case round =>
    obtain ⟨k, Fp, hk, rfl, hj, hsz, hkp⟩ := hrel
    have b0 : (0 : Int) ≤ (k : Int) := by omega
    by_cases hlt : k < ls.length
    · have b1 : (k : Int) < (ls.length : Int) := by omega
      have w1' : IntKind.i64.wrap ((k : Int) + 1) = ((k + 1 : Nat) : Int) := by rw [IntWalk.i64_in _ (by omega)]; rfl
      obtain ⟨i, hi⟩ : ∃ i, ls[k]? = some i := ⟨_, List.getElem?_eq_getElem hlt⟩
      obtain ⟨cf, hint⟩ := HCV.out wr hkp.agree
      obtain ⟨ga, oa, rfl, c1⟩ := hint k i hi
      have hin := HLS.out i (List.mem_of_getElem? hi)
      have hse := (HC.out wr hkp.agree).1
      obtain ⟨p3, c3, e3, -⟩ := id hse
      subst e3
      obtain ⟨gs, os, rfl, hrg⟩ := sess_range hse hin
      obtain ⟨fn, tmps, assign, body, hy, hR⟩ := HY.out (ls.take k) i Fp wr hj hsz (by
        have e : ls.take (k + 1) = ls.take k ++ [i] := by rw [List.take_add_one, hi]; rfl
        show _ <+: _
        rw [← e]; exact List.take_prefix _ _)
      unfold encS at hy
      obtain ⟨cs, hcs⟩ : ∃ cs, cs = csAt ss i := ⟨_, rfl⟩
      have HCL : Hid (cs.length = 12) := by show _ = _; rw [hcs]; exact cs_len hin
      rw [← hcs] at hrg hy
      have HRG := Lib.hid hrg; have HR := Lib.hid hR; have HI := Lib.hid hi; have HLT := Lib.hid hlt; have HKP := Lib.hid hkp
      have htk : ls.take (k + 1) = ls.take k ++ [i] := by rw [List.take_add_one, hi]; rfl
      have HTK := Lib.hid htk; have HSZ := Lib.hid hsz
      have i0 : (0 : Int) ≤ (i : Int) := by omega
      have i1 : (i : Int) < (ss.length : Int) := by omega
      clear hrg hR hi hlt hj hkp hint hcs hse htk hsz hin
      gi_wp2_with (refine Ag.wpListIn_load (by rfl) 30 _ (by rfl) _ _ (by rfl) cs _ HRG.out Tryz.underlying30 rfl (by rw [HCL.out]; kernel_rfl) ?_)
      refine ⟨fun h => by simp [Fence.wide] at h, HR.out.mono ?_⟩
      rintro e W3 (⟨rfl, Fp', hJ3, ho3, hn3⟩ | ⟨rfl, Fp', hJx3, -, -⟩)
      · have HU : Hid (J (ls.take (k + 1)) Fp' W3) := by show J _ _ _; rw [HTK.out]; exact hJ3
        have HS3 : Hid (W.heap.size ≤ W3.heap.size) := Nat.le_trans HSZ.out ho3.size
        have HK3 := Lib.hid (HKP.out.yield ho3 hn3)
        clear hJ3 ho3 hn3
        gi_wp2
        go_roundw
        case rel => have := HLT.out; exact ⟨k + 1, Fp', by omega, rfl, HU.out, HS3.out, HK3.out⟩
        case measure => have := HLT.out; simp [intOf]; omega
      · have HU : Hid (Jx (ls.take (k + 1)) Fp' W3) := by show Jx _ _ _; rw [HTK.out]; exact hJx3
        clear hJx3
        gi_wp2
        refine bodyPost_ret (results_none rfl _ _ _) rfl ?_
        exact ⟨⟨_, rfl⟩, .inr ⟨_, Fp', List.take_prefix _ _, HU.out⟩⟩
    · have b1 : (ls.length : Int) ≤ (k : Int) := by omega
      have e : ls.take k = ls := List.take_of_length_le (by omega)
      rw [e] at hj
      clear hlt
      gi_wp2
      go_end0
      exact ⟨⟨_, rfl⟩, .inl ⟨_, Fp, rfl, hj⟩⟩

/-- Those that hang below one. -/
def kidsOf (ss : List Sess) (b : Int) : List Nat := if b = 0 then Vt.roots (bu ss) ss.length else match firstL ss b with
  | none => []
  | some p => Vt.kidsN (bu ss) ss.length p
theorem kidsOf_lt {ss : List Sess} {b : Int} : ∀ i ∈ kidsOf ss b, i < ss.length := fun i hi => by
  unfold kidsOf at hi
  split at hi
  · exact Vt.roots_lt _ _ i hi
  · split at hi
    · cases hi
    · exact (Vt.kids_up _ _ _ i hi).2
theorem kidsOf_len {ss : List Sess} {b : Int} : (kidsOf ss b).length ≤ ss.length := by
  unfold kidsOf
  split
  · exact Vt.krow_len (bu ss) ss.length 0
  · split
    · exact Nat.zero_le _
    · rename_i p _
      exact Vt.krow_len (bu ss) ss.length (p + 1)
theorem ints_keep {w W : World} {base n : Nat} {v : Value} {l : List Nat} (h : w.ownsRow base 3 1 v n (l.map nv)) (hb : ∀ b, base ≤ b → b < w.heap.size → b < W.heap.size ∧ W.heap[b]? = w.heap[b]?) : In.IntArg W v (ints l) :=
  nv_ints (own_keep h (fun b e => (hb b (h.lt b e).1 (h.lt b e).2).2))
theorem GrAt.reads {ss : List Sess} {lo L F bm g : Nat} {q : Option Addr} {c : Nat} {w : World} (h : GrAt ss lo L F bm g (.slice q ss.length c) ss.length w) : ∃ vs : Nat → Value, (∀ j, j < ss.length + 1 → ∃ p m k, vs j = .slice p m k) ∧ ∀ W : World, (∀ b, lo ≤ b → b < w.heap.size → b < W.heap.size ∧ W.heap[b]? = w.heap[b]?) → FW ss (.slice q ss.length c) g vs W := by
  obtain ⟨vs, hv⟩ := h.rows
  refine ⟨vs, fun j hj => ?_, fun W hW => ⟨sess_of_own (own_keep h.clone (fun b e => (hW b (h.clone.lt b e).1 (h.clone.lt b e).2).2)), ((hW g h.lg.1 (Array.getElem?_eq_some_iff.1 hv.top).1).2).trans hv.top, fun j hj => ints_keep (Ut.own_base (hv.row j hj) h.lL.1) hW⟩⟩
  obtain ⟨p, k, e, _⟩ := own_any_shape (hv.row j hj)
  exact ⟨p, _, k, e⟩
theorem krow_zero_roots (ss : List Sess) : Vt.krow (bu ss) ss.length 0 = Vt.roots (bu ss) ss.length := rfl

theorem kids_close {ss : List Sess} (hl : ss.length ≤ 65536) {w w1 W' : World} {qd : Option Addr} {cd g : Nat} {vs : Nat → Value} {v : Value} {ls : List Nat} (hls : ∀ i ∈ ls, i < ss.length) (hll : ls.length ≤ ss.length)
    (hrd : ∀ W : World, (∀ x, w.heap.size ≤ x → x < w1.heap.size → x < W.heap.size ∧ W.heap[x]? = w1.heap[x]?) → FW ss (.slice qd ss.length cd) g vs W) (hw1 : w.heap.size ≤ w1.heap.size) (h13 : ∀ x, x < w1.heap.size → W'.heap[x]? = w1.heap[x]?) (hsz : w1.heap.size + 2 ≤ W'.heap.size)
    (hbf : W'.heap[w1.heap.size]? = some (.cells #[.slice qd ss.length cd, .slice (some ⟨g, 0, none⟩) (ss.length + 1) (ss.length + 1)] 77 (0, 0))) (hbk : W'.heap[w1.heap.size + 1]? = some (.cells #[v] 82 (0, 0)))
    (hv : ∀ W, FW ss (.slice qd ss.length cd) g vs W → In.IntArg W v (ints ls)) (n : Nat) : Fo.SeqF Fence.wide n Tryz.prog 93 #[.pointer (some ⟨w1.heap.size + 1, 0, none⟩), .pointer (some ⟨w1.heap.size, 0, none⟩)] (encS ss) (fun ys => ys = ls) (fun p => p <+: ls) (fun x => w.heap.size ≤ x ∧ x < W'.heap.size) W' := by
  refine kids1_seq n ss hl (.slice qd ss.length cd) (w1.heap.size + 1) w1.heap.size v ls (by omega) hls _ W' (fun W hW => ?_)
  have hfw := hrd W (fun x h2 h3 => by
    have h4 := hW x ⟨h2, by omega⟩
    exact ⟨h4.1, h4.2.trans (h13 x h3)⟩)
  have h5 := hW w1.heap.size ⟨hw1, by omega⟩
  have h6 := hW (w1.heap.size + 1) ⟨by omega, by omega⟩
  exact ⟨hfw.sess, by rw [block_cell (h5.2.trans hbf)]; rfl, by rw [block_cell (h6.2.trans hbk)]; rfl, hv W hfw⟩

set_option maxRecDepth 100000 in
set_option maxHeartbeats 4000000 in
theorem vkids_any (v : Value) (ss : List Sess) (hl : ss.length ≤ 65536) (hwf : ∀ s ∈ ss, (Lit.int .i64 s.birth).wf = true ∧ (Lit.int .i64 s.ub).wf = true) (b : Int) (w : World) (h1 : SessArg w v ss) :
    Calls Tryz.prog 56 #[v, .int .i64 b] w fun e w' => (∃ bk bf, e = .returned (.func (.func 93) #[] #[.pointer (some ⟨bk, 0, none⟩), .pointer (some ⟨bf, 0, none⟩)]) ∧
      ∀ n, Fo.SeqF Fence.wide n Tryz.prog 93 #[.pointer (some ⟨bk, 0, none⟩), .pointer (some ⟨bf, 0, none⟩)] (encS ss) (fun ys => ys = kidsOf ss b) (fun p => p <+: kidsOf ss b) (fun x => w.heap.size ≤ x ∧ x < w'.heap.size) w') ∧ Below w.heap.size w w' := by
  have HG := Lib.hid (grow_any v ss hl hwf w h1)
  have hlI : (ss.length : Int) ≤ 9223372036854775807 := by omega
  clear h1 hwf
  go_enter Tryz.func56, Tryz.ntmps56
  go_wp2_with fail
  refine HG.out.mono ?_
  rintro e w1 ⟨⟨L, F, bm, g, d, rfl, hgr⟩, hb1⟩
  obtain ⟨qd, cd, rfl, -⟩ := own_any_shape hgr.clone
  obtain ⟨vs, hsh, hrd⟩ := hgr.reads
  have HRD := Lib.hid hrd; have HSH := Lib.hid hsh; have HB1 := Lib.hid hb1
  obtain ⟨W2, hW2⟩ : ∃ W2, W2 = (w1.alloc (.cells #[.slice qd ss.length cd, .slice (some ⟨g, 0, none⟩) (ss.length + 1) (ss.length + 1)] 77)).alloc (.cells #[.slice none 0 0] 82) := ⟨_, rfl⟩
  have hb2 : Below w1.heap.size w1 W2 := by rw [hW2]; exact ((Below.refl _ _).alloc (Nat.le_refl _) _).alloc (by simp) _
  have HB2 := Lib.hid hb2
  have hs2 : W2.heap.size = w1.heap.size + 2 := by rw [hW2, World.size_alloc, World.size_alloc]
  have HS2 := Lib.hid hs2
  have HF : Hid (SessArg W2 (.slice qd ss.length cd) ss) := (hrd W2 (fun x h2 h3 => ⟨by omega, hb2.block x h3⟩)).sess
  have HFI := Lib.hid (vfirst_any (.slice qd ss.length cd) (.slice (some ⟨g, 0, none⟩) (ss.length + 1) (ss.length + 1)) ss hlI b W2 HF.out rfl rfl)
  have hbf : W2.heap[w1.heap.size]? = some (.cells #[.slice qd ss.length cd, .slice (some ⟨g, 0, none⟩) (ss.length + 1) (ss.length + 1)] 77 (0, 0)) := by rw [hW2, al_old (by simp)]; exact Ut.alloc_at _ _
  have hbk : W2.heap[w1.heap.size + 1]? = some (.cells #[.slice none 0 0] 82 (0, 0)) := by
    rw [hW2]
    have := Ut.alloc_at (w1.alloc (.cells #[.slice qd ss.length cd, .slice (some ⟨g, 0, none⟩) (ss.length + 1) (ss.length + 1)] 77)) (.cells #[.slice none 0 0] 82)
    rwa [World.size_alloc] at this
  have HBF := Lib.hid hbf; have HBK := Lib.hid hbk
  clear hgr hb1 hrd hsh hb2 hs2 hbf hbk
  go_wp2_with fail
  rw [← hW2]
  clear hW2
  refine HFI.out.mono ?_
  rintro e w3 ⟨rfl, hb3⟩
  have hs3 := hb3.size
  have hbf3 := (hb3.block w1.heap.size (by have := HS2.out; omega)).trans HBF.out
  have hbk3 := (hb3.block (w1.heap.size + 1) (by have := HS2.out; omega)).trans HBK.out
  have h13 : ∀ x, x < w1.heap.size → w3.heap[x]? = w1.heap[x]? := fun x hx => (hb3.block x (by have := HS2.out; omega)).trans (HB2.out.block x hx)
  have hfw3 := HRD.out w3 (fun x h2 h3 => ⟨by have := HS2.out; omega, h13 x h3⟩)
  have cf1 : w3.cell? ⟨w1.heap.size, 1, none⟩ = some (.slice (some ⟨g, 0, none⟩) (ss.length + 1) (ss.length + 1)) := by rw [block_cell hbf3]; rfl
  have ck0 : w3.cell? ⟨w1.heap.size + 1, 0, none⟩ = some (.slice none 0 0) := by rw [block_cell hbk3]; rfl
  have fk0 : w3.frozen? ⟨w1.heap.size + 1, 0, none⟩ = false := block_free hbk3 0
  have HBW : Hid (Below w.heap.size w w3) := HB1.out.trans ((HB2.out.trans (hb3.mono HB2.out.size)).mono HB1.out.size)
  have HS3 : Hid (w1.heap.size + 2 ≤ w3.heap.size) := by have := HS2.out; show _ ≤ _; omega
  have HW1 := Lib.hid HB1.out.size; have HBF3 := Lib.hid hbf3; have HBK3 := Lib.hid hbk3; have H13 := Lib.hid h13; have HFW3 := Lib.hid hfw3
  have HST : Hid (∀ u : Value, (w3.setCell ⟨w1.heap.size + 1, 0, none⟩ u).heap[w1.heap.size + 1]? = some (.cells #[u] 82 (0, 0)) ∧ (w3.setCell ⟨w1.heap.size + 1, 0, none⟩ u).heap[w1.heap.size]? = some (.cells #[.slice qd ss.length cd, .slice (some ⟨g, 0, none⟩) (ss.length + 1) (ss.length + 1)] 77 (0, 0)) ∧
      (∀ x, x < w1.heap.size → (w3.setCell ⟨w1.heap.size + 1, 0, none⟩ u).heap[x]? = w1.heap[x]?) ∧ w1.heap.size + 2 ≤ (w3.setCell ⟨w1.heap.size + 1, 0, none⟩ u).heap.size ∧ Below w.heap.size w (w3.setCell ⟨w1.heap.size + 1, 0, none⟩ u)) := fun u => by
    have s0 : (w3.setCell ⟨w1.heap.size + 1, 0, none⟩ u).heap.size = w3.heap.size := by simp [World.setCell]
    refine ⟨by rw [heap_setCell_same w3 (w1.heap.size + 1) 0 _ _ u HBK3.out]; rfl, by rw [Below.heap_setCell _ _ _ _ (by show w1.heap.size ≠ w1.heap.size + 1; omega)]; exact HBF3.out, fun x hx => by rw [Below.heap_setCell _ _ _ _ (by show x ≠ w1.heap.size + 1; omega)]; exact H13.out x hx, by rw [s0]; exact HS3.out, HBW.out.setCell (p := ⟨w1.heap.size + 1, 0, none⟩) (by have := HW1.out; show _ ≤ w1.heap.size + 1; omega) u⟩
  have htop := hfw3.top
  clear hb3 hs3 hbf3 hbk3 h13 hfw3
  by_cases hb : b = 0
  · have hbq : (b == 0) = true := by simp [hb]
    obtain ⟨p0, m0, k0, e0⟩ := HSH.out 0 (Nat.succ_pos _)
    have cg : w3.cell? ⟨g, 0, none⟩ = some (.slice p0 m0 k0) := by rw [block_cell htop, arr_at (Nat.succ_pos _), e0]
    have HLS : Hid (kidsOf ss b = Vt.roots (bu ss) ss.length) := by show _ = _; unfold kidsOf; rw [if_pos hb]
    have HV : Hid (∀ W, FW ss (.slice qd ss.length cd) g vs W → In.IntArg W (.slice p0 m0 k0) (ints (kidsOf ss b))) := fun W hW => by
      rw [HLS.out, ← e0]; exact hW.row 0 (Nat.succ_pos _)
    clear hb htop
    go_wp2
    go_ret
    obtain ⟨x1, x2, x3, x4, x5⟩ := HST.out (.slice p0 m0 k0)
    exact ⟨⟨_, _, rfl, fun n => kids_close hl (fun i hi => kidsOf_lt i hi) kidsOf_len HRD.out HW1.out x3 x4 x2 x1 HV.out n⟩, x5⟩
  · have hbq : (b == 0) = false := by rw [beq_eq_false_iff_ne]; exact hb
    cases hf : firstL ss b with
    | none =>
      have e1 : firstI ss b = -1 := by unfold firstI; rw [hf]
      have HLS : Hid (kidsOf ss b = []) := by show _ = _; unfold kidsOf; rw [if_neg hb, hf]
      rw [e1]
      clear hb htop e1 hf
      go_wp2
      go_ret
      exact ⟨⟨_, _, rfl, fun n => kids_close hl (fun i hi => kidsOf_lt i hi) kidsOf_len HRD.out HW1.out H13.out HS3.out HBF3.out HBK3.out (fun W _ => by rw [HLS.out]; exact ⟨none, 0, rfl, fun j hj => absurd hj (Nat.not_lt_zero _)⟩) n⟩, HBW.out⟩
    | some p =>
      have e1 : firstI ss b = (p : Int) := by unfold firstI; rw [hf]
      have hpn := firstL_lt hf
      have HLS : Hid (kidsOf ss b = Vt.kidsN (bu ss) ss.length p) := by show _ = _; unfold kidsOf; rw [if_neg hb, hf]
      obtain ⟨p0, m0, k0, e0⟩ := HSH.out (p + 1) (by omega)
      have cg : w3.cell? ⟨g, p + 1, none⟩ = some (.slice p0 m0 k0) := by rw [block_cell htop, arr_at (by omega), e0]
      have HV : Hid (∀ W, FW ss (.slice qd ss.length cd) g vs W → In.IntArg W (.slice p0 m0 k0) (ints (kidsOf ss b))) := fun W hW => by
        rw [HLS.out, ← e0]; exact hW.row (p + 1) (by omega)
      have i0 : (0 : Int) ≤ (p : Int) := by omega
      have w1' : IntKind.i64.wrap ((p : Int) + 1) = ((p + 1 : Nat) : Int) := by rw [IntWalk.i64_in _ (by omega)]; rfl
      have i1 : (0 : Int) ≤ ((p + 1 : Nat) : Int) := by omega
      have i2 : ((p + 1 : Nat) : Int) < (ss.length : Int) + 1 := by omega
      have i3 : ((p + 1 : Nat) : Int) < ((ss.length + 1 : Nat) : Int) := by omega
      have i4 : (0 : Int) ≤ (p : Int) + 1 := by omega
      rw [e1]
      clear hb htop e1 hf
      go_wp2
      go_ret
      obtain ⟨x1, x2, x3, x4, x5⟩ := HST.out (.slice p0 m0 k0)
      exact ⟨⟨_, _, rfl, fun n => kids_close hl (fun i hi => kidsOf_lt i hi) kidsOf_len HRD.out HW1.out x3 x4 x2 x1 HV.out n⟩, x5⟩
end Vw
end Go.Proofs.YtocoonkachbjaaaGreatDoor

/- lineageref0.SameSessions of two lists that are alike, wherever they lie. -/
namespace Go.Proofs.YtocoonkachbjaaaGreatDoor
open Go.RowKit
set_option linter.unusedVariables false
namespace Vw

set_option maxRecDepth 100000 in
set_option maxHeartbeats 2000000 in
theorem equal_sess (x : Sess) (W : World) : (Op.equalIn 10000 30 (.agg x.cells.toArray) (.agg x.cells.toArray)).run Tryz.prog W = .ok true W := by
  obtain ⟨a1, a2, a3, a4, a5, a6, a7, a8, a9, a10, a11, a12⟩ := x
  unfold Sess.cells
  go_simp
theorem neq_sess (x : Sess) (W : World) : (binOp .neq 30 (.agg x.cells.toArray) (.agg x.cells.toArray)).run Tryz.prog W = .ok (.bool false) W := by
  rw [run_neq_struct, equal_sess]; rfl

section
variable {ops : Array Oper} {C : World → Prop} {Q : Act → Prop} {a : Act} {o : Oper} {rest : List Oper}
theorem wpQuiet_value {P : Program} (v : Value) (hw : Region.wanted o (yielded ops a.tmps) = true) (hv : ∀ w, C w → (execOp a.eval o).run P w = .ok (.value v) w) (h : wpQuiet P ops C Q rest (a.put o.dst v)) : wpQuiet P ops C Q (o :: rest) a :=
  wpQuiet_step fun K hK => by
    rw [if_pos hw]
    exact ⟨v, fun w hC => by unfold Oper.quietAt; rw [hv w hC]; exact ⟨rfl, rfl⟩, hK _ h⟩
theorem wpQuiet_load_mid {P : Program} (hw : Region.wanted o (yielded ops a.tmps) = true) (ty : TypeId) (x : Operand) (ho : o.op = .load ty x)
    (b k : Nat) (hx : a.eval x = .pointer (some ⟨b, k, none⟩)) (cs : List Value) (d : TypeDesc) (hS : ∀ w, C w → w.rangeAt b k cs)
    (hu : P.underlying ty = some d) (hd : d.isRow = true) (hi : (P.info? ty).map (·.size) = some cs.length) (h : wpQuiet P ops C Q rest (a.put o.dst (.agg cs.toArray))) : wpQuiet P ops C Q (o :: rest) a :=
  wpQuiet_value (.agg cs.toArray) hw (fun w hw' => by
    unfold execOp
    simp only [ho, hx, Instr.loadAt, Instr.sureAddr, Sem.run_bind, Sem.run_pure, Result.andThen_ok, run_loadVar_mid w b k ty cs d (hS w hw') hu hd hi]) h
theorem exec_neq_sess (s : Sess) (tt : TypeId) (x y : Operand) (ho : o.op = .binOp .neq 30 x y tt) (hx : a.eval x = .agg s.cells.toArray) (hy : a.eval y = .agg s.cells.toArray) (w : World) :
    (execOp a.eval o).run Tryz.prog w = .ok (.value (.bool false)) w := by
  have e1 := run_eqGuard_agg (P := Tryz.prog) w .neq 30 x y s.cells.toArray s.cells.toArray (by kernel_rfl)
  unfold execOp
  simp only [ho, hx, hy, Sem.run_bind, e1, Result.andThen_ok, neq_sess, Sem.run_pure]
end

/-- A session of a list, where it lies. -/
theorem SessArg.at {w : World} {q : Option Addr} {n c : Nat} {ss : List Sess} (h : SessArg w (.slice q n c) ss) {k : Nat} (hk : k < ss.length) :
    ∃ g o, q = some ⟨g, o, none⟩ ∧ g < w.heap.size ∧ w.rangeAt g (o + k * 12) ss[k].cells := by
  obtain ⟨p, cap, e, h⟩ := h
  cases e
  obtain ⟨g, o, rfl, hg, hc⟩ := h k hk
  exact ⟨g, o, rfl, hg, fun j v hv => hc j v hv⟩

def SameRel (n : Nat) (w : World) (i : Value) (wr : World) : Prop :=
  ∃ k : Nat, k ≤ n ∧ i = .int .i64 k ∧ Below w.heap.size w wr

set_option maxRecDepth 100000 in
set_option maxHeartbeats 2000000 in
theorem sameS_any (v u : Value) (ss : List Sess) (hl : (ss.length : Int) ≤ 9223372036854775807) (w : World) (h1 : SessArg w v ss) (h2 : SessArg w u ss) :
    Calls Tryz.prog 96 #[v, u] w fun e w' => e = .returned (.bool true) ∧ Below w.heap.size w w' := by
  obtain ⟨p, cp, rfl, -⟩ := id h1
  obtain ⟨q, cq, rfl, -⟩ := id h2
  have H1 := Lib.hid h1; have H2 := Lib.hid h2
  clear h1 h2
  have e1 : ((ss.length : Int) != (ss.length : Int)) = false := by simp
  go_enter Tryz.func96, Tryz.ntmps96
  go_wp2
  go_loopw [5] (fun i wr => SameRel ss.length w i wr) (fun i _ => ss.length - (intOf i).toNat)
  case atStart => exact ⟨0, Nat.zero_le _, rfl, Below.refl _ _⟩
  case round =>
    obtain ⟨k, hk, rfl, hbr⟩ := hrel
    by_cases h : k < ss.length
    · obtain ⟨g1, o1, rfl, hg1, k1⟩ := H1.out.at h
      obtain ⟨g2, o2, rfl, hg2, k2⟩ := H2.out.at h
      have k1' : wr.rangeAt g1 (o1 + k * 12) ss[k].cells := fun j x hx => (hbr.cell (p := ⟨g1, o1 + k * 12 + j, none⟩) hg1).trans (k1 j x hx)
      have k2' : wr.rangeAt g2 (o2 + k * 12) ss[k].cells := fun j x hx => (hbr.cell (p := ⟨g2, o2 + k * 12 + j, none⟩) hg2).trans (k2 j x hx)
      have b1 : (0 : Int) ≤ (k : Int) := by omega
      have b2 : (k : Int) < (ss.length : Int) := by omega
      obtain ⟨sk, hsk⟩ : ∃ sk, sk = ss[k] := ⟨_, rfl⟩
      have r1 : ∀ w', (∃ n, w' = wr.drewN n) → w'.rangeAt g1 (o1 + k * 12) sk.cells := by rintro w' ⟨n, rfl⟩ j x hx; rw [World.cell?_drewN]; rw [hsk] at hx; exact k1' j x hx
      have r2 : ∀ w', (∃ n, w' = wr.drewN n) → w'.rangeAt g2 (o2 + k * 12) sk.cells := by rintro w' ⟨n, rfl⟩ j x hx; rw [World.cell?_drewN]; rw [hsk] at hx; exact k2' j x hx
      clear k1 k2 k1' k2' hsk
      have R1 := Lib.hid r1; have R2 := Lib.hid r2
      clear r1 r2
      go_wp2
      refine wp_region_quiet_lit (by kernel_rfl) (by kernel_rfl) ?_
      quiet_step (fail)
      quiet_step (fail)
      quiet_step (fail)
      refine wpQuiet_load_mid (by rfl) 30 (.tmp 19) rfl g1 (o1 + k * 12) rfl sk.cells _ R1.out Tryz.underlying30 rfl (by kernel_rfl) ?_
      quiet_step (fail)
      quiet_step (fail)
      quiet_step (fail)
      refine wpQuiet_load_mid (by rfl) 30 (.tmp 23) rfl g2 (o2 + k * 12) rfl sk.cells _ R2.out Tryz.underlying30 rfl (by kernel_rfl) ?_
      refine wpQuiet_value (.bool false) (by rfl) (fun w' _ => exec_neq_sess sk _ (.tmp 20) (.tmp 24) rfl rfl rfl w') ?_
      refine wpQuiet_nil ?_
      rintro _ ⟨nq, rfl⟩
      go_wp2
      go_roundw
      case rel => exact ⟨k + 1, by omega, by go_num, Ut.below_drewN hbr _⟩
      case measure => simp [intOf]; omega
    · have b2 : (ss.length : Int) ≤ (k : Int) := by omega
      go_wp2
      go_ret
      exact ⟨rfl, hbr⟩
end Vw
end Go.Proofs.YtocoonkachbjaaaGreatDoor

/- Marks of texts. -/
namespace Go.Proofs.YtocoonkachbjaaaGreatDoor
open Go.RowKit
set_option linter.unusedVariables false

theorem mk_info : (Tryz.prog.info? 9).map (fun i => (i.zero, i.size, i.bytes)) = some (some (.string ByteArray.empty), 1, 16) := by kernel_rfl
theorem mk_eq (p : ByteArray) : (p.toList == p.toList) = true := by simp

theorem conv_five (w : World) (x0 x1 x2 x3 x4 : Int) : (convert 108 9 (.slice (some ⟨w.heap.size, 0, none⟩) 5 5)).run Tryz.prog (w.alloc (.cells #[.int .u8 x0, .int .u8 x1, .int .u8 x2, .int .u8 x3, .int .u8 x4] 5)) = .ok (.string (strOfNums [x0, x1, x2, x3, x4])) (w.alloc (.cells #[.int .u8 x0, .int .u8 x1, .int .u8 x2, .int .u8 x3, .int .u8 x4] 5)) :=
  run_convert_bytes_arg (w.alloc (.cells #[.int .u8 x0, .int .u8 x1, .int .u8 x2, .int .u8 x3, .int .u8 x4] 5)) 108 5 Tryz.underlying108 Tryz.underlying5 w.heap.size 0 5 5 [x0, x1, x2, x3, x4] rfl (fun i hi => by
    match i, hi with
    | 0, _ => simp
    | 1, _ => simp
    | 2, _ => simp
    | 3, _ => simp
    | 4, _ => simp) 9 Tryz.underlying9

/-- A mark. -/
def markB (k i : Nat) : ByteArray := strOfNums [35, (k : Int) % 256, (k : Int) / 256 % 256, (i : Int) % 256, (i : Int) / 256 % 256]

set_option maxHeartbeats 1000000 in
theorem markText_any (k i : Nat) (hk : (k : Int) < 1099511627776) (hi : (i : Int) < 1099511627776) (w : World) :
    Calls Tryz.prog 90 #[.int .i64 k, .int .i64 i] w fun e w' => e = .returned (.string (markB k i)) ∧ Below w.heap.size w w' := by
  have hcv := conv_five w 35 ((k : Int) % 256) ((k : Int) / 256 % 256) ((i : Int) % 256) ((i : Int) / 256 % 256)
  have hbl : Below w.heap.size w (w.alloc (.cells #[.int .u8 35, .int .u8 ((k : Int) % 256), .int .u8 ((k : Int) / 256 % 256), .int .u8 ((i : Int) % 256), .int .u8 ((i : Int) / 256 % 256)] 5)) := (Below.refl _ _).alloc (Nat.le_refl _) _
  go_enter Tryz.func90, Tryz.ntmps90
  go_wp2
  go_ret
  exact ⟨rfl, hbl⟩

set_option maxHeartbeats 1000000 in
theorem markTexts_any (k i : Nat) (hk : (k : Int) < 1099511627776) (hi : (i : Int) < 1099511627776) (w : World) :
    Calls Tryz.prog 47 #[.int .i64 k, .int .i64 i] w fun e w' => e = .returned (.string (markB k i)) ∧ Below w.heap.size w w' := by
  have hm := Lib.hid (markText_any k i hk hi w)
  clear hk hi
  go_enter Tryz.func47, Tryz.ntmps47
  go_wp2_with fail
  refine hm.out.mono ?_
  rintro e w1 ⟨rfl, hb⟩
  go_wp2
  go_ret
  exact ⟨rfl, hb⟩

end Go.Proofs.YtocoonkachbjaaaGreatDoor

/- lineagekit.markSessions. -/
namespace Go.Proofs.YtocoonkachbjaaaGreatDoor
open Go.RowKit
set_option linter.unusedVariables false
namespace Vw
/-- A mark with this text. -/
def mkT (t : ByteArray) : Sess := ⟨0, -97, 0, 0, 0, .empty, t, 0, 0, 0, 0, 0⟩
def mkS (i : Nat) : Sess := mkT (markB 90 i)

set_option maxRecDepth 100000 in
set_option maxHeartbeats 1000000 in
theorem markText_neg (i : Int) (h0 : -140737488355328 ≤ i) (h1 : i < 1099511627776) (w : World) :
    Calls Tryz.prog 90 #[.int .i64 90, .int .i64 i] w fun e w' => ∃ s, e = .returned (.string s) ∧ Below w.heap.size w w' := by
  have hcv := conv_five w 35 90 0 (i % 256) (i / 256 % 256)
  have hbl : Below w.heap.size w (w.alloc (.cells #[.int .u8 35, .int .u8 90, .int .u8 0, .int .u8 (i % 256), .int .u8 (i / 256 % 256)] 5)) := (Below.refl _ _).alloc (Nat.le_refl _) _
  go_enter Tryz.func90, Tryz.ntmps90
  go_wp2
  go_ret
  exact ⟨_, rfl, hbl⟩

set_option maxRecDepth 100000 in
set_option maxHeartbeats 1000000 in
theorem markS_of (i : Int) (F : ByteArray → Prop) (w : World) (hm : ∀ w1, Calls Tryz.prog 90 #[.int .i64 90, .int .i64 i] w1 fun e w' => ∃ s, e = .returned (.string s) ∧ F s ∧ Below w1.heap.size w1 w') :
    Calls Tryz.prog 81 #[.int .i64 90, .int .i64 i] w fun e w' => ∃ s, e = .returned (.agg (mkT s).cells.toArray) ∧ F s ∧ Below w.heap.size w w' := by
  have HM := Lib.hid hm
  clear hm
  go_enter Tryz.func81, Tryz.ntmps81
  go_wp2_with fail
  refine (HM.out _).mono ?_
  rintro e w1 ⟨s, rfl, hF, hb⟩
  have hz := (hb.block w.heap.size (by simp)).trans (Ut.alloc_at w _)
  obtain ⟨cs, hcs⟩ : ∃ cs, cs = (mkT s).cells := ⟨_, rfl⟩
  have HCS := Lib.hid hcs
  have HCL : Hid (cs.length = 12) := by show _ = _; rw [hcs]; rfl
  have HC1 : Hid (∀ v ∈ cs, v.oneCell' = true) := by
    intro v hv
    rw [hcs] at hv
    simp [Sess.cells] at hv
    rcases hv with rfl | rfl | rfl | rfl | rfl | rfl | rfl | rfl | rfl | rfl | rfl | rfl <;> rfl
  have HT := Lib.hid (Ag.there_row hz cs.toArray.size (by simp; rw [HCL.out]; decide))
  have he := Ag.setCells_row _ _ cs 0 _ _ hz
  rw [Ag.put_all (by rw [HCL.out]; rfl)] at he
  have HE := Lib.hid he
  have HB : Hid (Below w.heap.size w (w1.setCells w.heap.size 0 cs)) := Ag.below_setCells (Nat.le_refl _) _ _ _ (((Below.refl _ _).alloc (Nat.le_refl _) _).trans (hb.mono (by simp)))
  clear hz hb he hcs
  go_wp2_with (refine wpList_store_mid (by rfl) 30 (.tmp 4) (.tmp 10) (by rfl) w.heap.size 0 cs.toArray rfl (by rw [HCS.out]; rfl) HT.out (by rw [List.size_toArray, HCL.out]; kernel_rfl) (all_oneCell_toArray HC1.out) ?_)
  refine bodyPost_ret (results_cell_row rfl _ _ w.heap.size _ cs.toArray (0, 0) _ rfl HE.out Tryz.underlying30 rfl (by rw [List.size_toArray, HCL.out]; kernel_rfl)) rfl ?_
  exact ⟨s, by rw [HCS.out], hF, HB.out⟩
theorem markS_neg (i : Int) (h0 : -140737488355328 ≤ i) (h1 : i < 1099511627776) (w : World) :
    Calls Tryz.prog 81 #[.int .i64 90, .int .i64 i] w fun e w' => ∃ s, e = .returned (.agg (mkT s).cells.toArray) ∧ Below w.heap.size w w' :=
  (markS_of i (fun _ => True) w fun w1 => (markText_neg i h0 h1 w1).mono fun e w' ⟨s, h, hb⟩ => ⟨s, h, trivial, hb⟩).mono fun e w' ⟨s, h, _, hb⟩ => ⟨s, h, hb⟩
theorem markS_any (i : Nat) (hi : (i : Int) < 1099511627776) (w : World) :
    Calls Tryz.prog 81 #[.int .i64 90, .int .i64 i] w fun e w' => e = .returned (.agg (mkS i).cells.toArray) ∧ Below w.heap.size w w' :=
  (markS_of i (fun s => s = markB 90 i) w fun w1 => (markText_any 90 i (by decide) hi w1).mono fun e w' ⟨h, hb⟩ => ⟨_, h, rfl, hb⟩).mono fun e w' ⟨s, h, hs, hb⟩ => ⟨by rw [h, hs]; rfl, hb⟩
end Vw
end Go.Proofs.YtocoonkachbjaaaGreatDoor
