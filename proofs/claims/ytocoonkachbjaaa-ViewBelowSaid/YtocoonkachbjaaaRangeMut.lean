/- A range over an iterator that turns memory of its own between two rounds. No program's code. -/
import Derived.RangeFuncWrites
import Derived.RangeFuncBound
import Derived.WalkKit
namespace Go.Proofs.Ytocoonkachbjaaa
open Go.RowKit
set_option linter.unusedVariables false
namespace Mu
variable {F : Fence} {n : Nat} {P : Program}

/-- What such an iterator promises: from a state s it goes by a step to the call of yield, or comes to its end; a round leads back to some state. -/
def Seq {α σ : Type} (F : Fence) (n : Nat) (P : Program) (g : Nat) (lb : Array Value) (encs : α → Array Value) (I : σ → World → Prop) (Step : σ → α → World → World → Prop) (Fin : σ → World → World → Prop) (M : Nat) : Prop :=
  ∀ (l : Nat) (J Jx Done : List α → World → Prop) (W : World),
    (∀ pre A, J pre A → ∃ s, I s A ∧ pre.length ≤ M ∧ (∀ x B, Step s x A B → YieldAt F (n - 1) P l (encs x) B fun e W' => (e = .returned (.bool true) ∧ J (pre ++ [x]) W') ∨ (e = .returned (.bool false) ∧ Jx (pre ++ [x]) W')) ∧ (∀ B, Fin s A B → Done pre B)) →
    J [] W → CallsIn F n P g (#[.func (.yield l) #[] #[]] ++ lb) W fun e W' => (∃ v, e = .returned v) ∧ ((∃ pre, Done pre W') ∨ ∃ pre, Jx pre W')

/-- How a round may be left. -/
def Left {α : Type} (B : Nat) (U : List α → World → Prop) (Ux : Code → List α → World → Prop) (xs : List α) (W : World) : Exit → Act → World → Prop
  | .normal, _, W' => KeepsFrom B W W' ∧ U xs W'
  | .ret, _, W' => KeepsFrom B W W' ∧ Ux .ret xs W'
  | .exit id, _, W' => KeepsFrom B W W' ∧ Ux (.exit id) xs W'
  | .goto t, _, W' => KeepsFrom B W W' ∧ Ux (.goto t) xs W'
  | .panic _, _, _ => False
  | .outgrown, _, _ => False

theorem KeepsFrom.lie {B k : Nat} {o : Obj} {W W' : World} (h : KeepsFrom B W W') (hB : B ≤ k) (hk : W.heap[k]? = some o) (ho : o.isCells = false) : W'.heap[k]? = some o := h.same k o hB hk ho

/-- **The statement.** -/
theorem range_mut {α σ : Type} {g : Operand} {ps : Array Tmp} {assign body : Code} {Q : Exit → Act → World → Prop} {a : Act} {w : World}
    (hro : F.round = none) (h1 : 1 ≤ n) {gf : Nat} {lb : Array Value} (hg : a.eval g = .func (.func gf) #[] lb) (hFg : F.fn gf) (eg : ∀ args w, (callFunc gf args).run P w = .ok (.enter gf args) w)
    {encs : α → Array Value} {I : σ → World → Prop} {Step : σ → α → World → World → Prop} {Fin : σ → World → World → Prop} {mx : Nat} (hseq : Seq F (n - 1) P gf lb encs I Step Fin mx) (hps : ∀ x, (encs x).size = ps.size)
    (U : List α → World → Prop) (M : List α × α → World → Prop) (M' : List α × α × Nat → World → Prop) (D : List α → World → Prop) (Ux : Code → List α → World → Prop)
    (hU : OwnFrom w.heap.size U) (hM : OwnFrom w.heap.size M') (hD : OwnFrom w.heap.size D) (hUx : ∀ c, OwnFrom w.heap.size (Ux c))
    (hstep : ∀ pre A, U pre A → w.heap.size ≤ A.heap.size → ∃ s, I s A ∧ pre.length ≤ mx ∧ (∀ x B, Step s x A B → M (pre, x) B ∧ KeepsFrom w.heap.size A B) ∧ (∀ B, Fin s A B → D pre B ∧ KeepsFrom w.heap.size A B))
    (h0 : U [] w) (a₁ : α → Nat → Act) (w₁ : α → World → World) (hM1 : ∀ pre x W, M (pre, x) W → M' (pre, x, W.heap.size) (w₁ x W) ∧ KeepsFrom w.heap.size W (w₁ x W))
    (hassign : ∀ (l : Nat) (x : α) (W : World) (K : Act → World → Prop), K (a₁ x W.heap.size) (w₁ x W) →
      assign.wpIn (F.inRound l) (n - 1 - 1) P (Exit.then K (fun _ _ _ => False)) { tmps := (ps.zip (encs x)).foldl (fun t (p, v) => t.setIfInBounds p v) a.tmps, defers := [] } W)
    (hbody : ∀ (l : Nat) (pre : List α) (x : α) (b : Nat) (W : World), M' (pre, x, b) W → body.wpIn (F.inRound l) (n - 1 - 1) P (Left w.heap.size U Ux (pre ++ [x]) W) (a₁ x b) W)
    (hdone : ∀ (d : Nat) (xs : List α) (W : World), w.heap.size ≤ d → D xs W → W.heap[d]? = some (.deferred (some [])) → Q .normal { a with defers := { target := .collected d, args := #[] } :: a.defers } W)
    (hstop : ∀ (d : Nat) (c : Code) (pre : List α) (W : World), w.heap.size ≤ d → Ux c pre W → W.heap[d]? = some (.deferred (some [])) → c.wpIn F n P Q { a with defers := { target := .collected d, args := #[] } :: a.defers } W) :
    (Code.rangeFunc g ps assign body).wpIn F n P Q a w := by
  refine wpIn_rangeFunc fun fn hfn => ?_
  rw [hro]
  -- the loop's record, by its state and the pending jump
  let rec_ : LoopState → Option Code → Loop := fun st pe => { state := st, pending := pe, fn, tmps := a.tmps, params := ps, assign, body, defers := w.heap.size }
  have hrs : ∀ st pe, (rec_ st pe).state = st := fun _ _ => rfl
  have hrp : ∀ st pe, (rec_ st pe).params = ps := fun _ _ => rfl
  have hrb : ∀ st pe st' pe', { rec_ st pe with state := st', pending := pe' } = rec_ st' pe' := fun _ _ _ _ => rfl
  have hrb2 : ∀ st pe st', { rec_ st pe with state := st' } = rec_ st' pe := fun _ _ _ => rfl
  have hrf : ∀ st pe, (rec_ st pe).fn = fn ∧ (rec_ st pe).assign = assign ∧ (rec_ st pe).body = body ∧ (rec_ st pe).tmps = a.tmps ∧ (rec_ st pe).pending = pe := fun _ _ => ⟨rfl, rfl, rfl, rfl, rfl⟩
  have hent : (Instr.enterLoop fn a.tmps ps assign body none).run P w = .ok (w.heap.size + 1, [{ target := .collected w.heap.size, args := #[] }]) ((w.alloc (.deferred (some []))).alloc (.loop (rec_ .ready none))) := run_enterLoop_outer fn a.tmps ps assign body
  -- two facts of book-keeping
  let Bk : Loop → World → Prop := fun r W => W.heap[w.heap.size + 1]? = some (.loop r) ∧ W.heap[w.heap.size]? = some (.deferred (some []))
  have hBk : ∀ r W, Bk r W ↔ (W.heap[w.heap.size + 1]? = some (.loop r) ∧ W.heap[w.heap.size]? = some (.deferred (some []))) := fun _ _ => Iff.rfl
  generalize hW1 : (w.alloc (.deferred (some []))).alloc (.loop (rec_ .ready none)) = W1 at hent
  have hB1 : Bk (rec_ .ready none) W1 := by
    subst hW1
    refine ⟨?_, (Below.heap_alloc _ _ _ (by simp)).trans (World.alloc_heap_new w _)⟩
    have := World.alloc_heap_new (w.alloc (.deferred (some []))) (.loop (rec_ .ready none))
    rwa [World.size_alloc] at this
  have hU1 : U [] W1 := by subst hW1; exact hU.alloc _ (hU.alloc _ h0)
  clear_value Bk rec_
  have keep : ∀ {r A B}, KeepsFrom w.heap.size A B → Bk r A → Bk r B := fun hk hb => by
    rw [hBk] at hb ⊢
    exact ⟨KeepsFrom.lie hk (Nat.le_succ _) hb.1 rfl, KeepsFrom.lie hk (Nat.le_refl _) hb.2 rfl⟩
  have big : ∀ {r A}, Bk r A → w.heap.size + 1 < A.heap.size := fun hb => by rw [hBk] at hb; exact (Array.getElem?_eq_some_iff.1 hb.1).1
  have turn : ∀ {r A} (r' : Loop), Bk r A → Bk r' (A.putObj (w.heap.size + 1) (.loop r')) := fun r' hb => by
    have h := big hb
    rw [hBk] at hb ⊢
    exact ⟨World.putObj_heap_same h, (World.putObj_heap_other (by omega)).trans hb.2⟩
  refine ⟨w.heap.size + 1, [{ target := .collected w.heap.size, args := #[] }], W1, { target := .fn (.func gf) lb, args := #[.func (.yield (w.heap.size + 1)) #[] #[]] }, W1, gf, #[.func (.yield (w.heap.size + 1)) #[] #[]] ++ lb, W1, hent, ?_, ?_, ?_, fun _ => h1, ?_⟩
  · simp only [resolve, hg]
    simp [go_sem]
  · intro f' hf'; simp [Target.leads] at hf'; subst hf'; exact hFg
  · simp [invoke, go_sem, eg]
  refine (hseq (w.heap.size + 1) (fun pre W => U pre W ∧ Bk (rec_ .ready none) W) (fun pre W => ∃ c, Ux c pre W ∧ Bk (rec_ .done (some c)) W) (fun pre W => D pre W ∧ Bk (rec_ .ready none) W) W1 ?_ ⟨hU1, hB1⟩).mono ?_
  · rintro pre A ⟨hu, hb⟩
    obtain ⟨s, hI, hmx, hst, hfi⟩ := hstep pre A hu (by have := big hb; omega)
    refine ⟨s, hI, hmx, fun x B hs => ?_, fun B hf => ⟨(hfi B hf).1, keep (hfi B hf).2 hb⟩⟩
    obtain ⟨hm0, hk⟩ := hst x B hs
    have hbB := keep hk hb
    have hl0 := ((hBk _ _).1 hbB).1
    obtain ⟨hm, hk2⟩ := hM1 pre x B hm0
    have hbB2 := keep hk2 hbB
    have hl := ((hBk _ _).1 hbB2).1
    have hy := run_yield (P := P) (args := encs x) hl0 (by rw [hrp]; exact hps x)
    obtain ⟨f1, f2, f3, f4, f5⟩ := hrf .ready none
    rw [f1, f2, f3, f4, hrp] at hy
    have hm2 : M' (pre, x, B.heap.size) ((w₁ x B).putObj (w.heap.size + 1) (.loop (rec_ .busy none))) := hM.putObj _ hm (Nat.le_succ _) hl rfl
    have hb2 : Bk (rec_ .busy none) ((w₁ x B).putObj (w.heap.size + 1) (.loop (rec_ .busy none))) := turn _ hbB2
    refine ⟨fn, _, assign, body, hy, roundIn_of_wpIn hfn (hassign _ x B _ ⟨_, by have := run_beginRound (P := P) hl (hrs _ _); rw [hrb2] at this; exact this, ?_⟩)⟩
    refine wpIn_mono (hbody _ pre x _ _ hm2) ?_
    have fin : ∀ (jump : Option Code) (W3 : World), KeepsFrom w.heap.size ((w₁ x B).putObj (w.heap.size + 1) (.loop (rec_ .busy none))) W3 →
        (Instr.endRound (w.heap.size + 1) jump).run P W3 = .ok (.bool jump.isNone) (W3.putObj (w.heap.size + 1) (.loop (rec_ (if jump.isNone then .ready else .done) jump))) ∧
        W3.heap[w.heap.size + 1]? = some (.loop (rec_ .busy none)) ∧ Bk (rec_ (if jump.isNone then .ready else .done) jump) (W3.putObj (w.heap.size + 1) (.loop (rec_ (if jump.isNone then .ready else .done) jump))) := fun jump W3 hk3 => by
      have hb3 := keep hk3 hb2
      have hl3 := ((hBk _ _).1 hb3).1
      have := run_endRound (P := P) jump hl3
      rw [hrb] at this
      exact ⟨this, hl3, turn _ hb3⟩
    rintro e a3 W3 hp
    cases e with
    | normal =>
      obtain ⟨hr, hl3, hb4⟩ := fin none W3 hp.1
      exact ⟨_, _, hr, .inl ⟨rfl, hU.putObj _ hp.2 (Nat.le_succ _) hl3 rfl, hb4⟩⟩
    | ret =>
      obtain ⟨hr, hl3, hb4⟩ := fin (some .ret) W3 hp.1
      exact ⟨_, _, hr, .inr ⟨rfl, .ret, (hUx _).putObj _ hp.2 (Nat.le_succ _) hl3 rfl, hb4⟩⟩
    | exit id =>
      obtain ⟨hr, hl3, hb4⟩ := fin (some (.exit id)) W3 hp.1
      exact ⟨_, _, hr, .inr ⟨rfl, .exit id, (hUx _).putObj _ hp.2 (Nat.le_succ _) hl3 rfl, hb4⟩⟩
    | goto t =>
      obtain ⟨hr, hl3, hb4⟩ := fin (some (.goto t)) W3 hp.1
      exact ⟨_, _, hr, .inr ⟨rfl, .goto t, (hUx _).putObj _ hp.2 (Nat.le_succ _) hl3 rfl, hb4⟩⟩
    | panic ch => exact hp.elim
    | outgrown => exact hp.elim
  · rintro e W2 ⟨⟨v, rfl⟩, (⟨pre, hd, hb⟩ | ⟨pre, c, hx, hb⟩)⟩
    · have hb2 := (hBk _ _).1 hb
      refine ⟨none, _, by have := run_endLoop (P := P) hb2.1 (by rw [hrs]; simp); rw [(hrf .ready none).2.2.2.2] at this; exact this, hdone _ pre _ (Nat.le_refl _) (hD.putObj _ hd (Nat.le_succ _) hb2.1 rfl) ((World.putObj_heap_other (by omega)).trans hb2.2)⟩
    · have hb2 := (hBk _ _).1 hb
      refine ⟨some c, _, by have := run_endLoop (P := P) hb2.1 (by rw [hrs]; simp); rw [(hrf .done (some c)).2.2.2.2] at this; exact this, hstop _ c pre _ (Nat.le_refl _) ((hUx c).putObj _ hx (Nat.le_succ _) hb2.1 rfl) ((World.putObj_heap_other (by omega)).trans hb2.2)⟩

/-- The same where a round's frame is told out of the loop's own. -/
theorem range_mut_sl {α σ : Type} {g : Operand} {ps : Array Tmp} {assign body : Code} {Q : Exit → Act → World → Prop} {a : Act} {w : World}
    (hro : F.round = none) (h1 : 1 ≤ n) {gf : Nat} {lb : Array Value} (hg : a.eval g = .func (.func gf) #[] lb) (hFg : F.fn gf) (eg : ∀ args w, (callFunc gf args).run P w = .ok (.enter gf args) w)
    {encs : α → Array Value} {I : σ → World → Prop} {Step : σ → α → World → World → Prop} {Fin : σ → World → World → Prop} {mx : Nat} (hseq : Seq F (n - 1) P gf lb encs I Step Fin mx) (hps : ∀ x, (encs x).size = ps.size)
    (U : List α → World → Prop) (M : List α × α → World → Prop) (M' : List α × α × Nat → World → Prop) (D : List α → World → Prop) (Ux : Code → List α → World → Prop)
    (hU : OwnFrom w.heap.size U) (hM : OwnFrom w.heap.size M') (hD : OwnFrom w.heap.size D) (hUx : ∀ c, OwnFrom w.heap.size (Ux c))
    (hstep : ∀ pre A, U pre A → w.heap.size ≤ A.heap.size → ∃ s, I s A ∧ pre.length ≤ mx ∧ (∀ x B, Step s x A B → M (pre, x) B ∧ KeepsFrom w.heap.size A B) ∧ (∀ B, Fin s A B → D pre B ∧ KeepsFrom w.heap.size A B))
    (h0 : U [] w) (sl : Array Value → α → Nat → Array Value) (w₁ : α → World → World) (hM1 : ∀ pre x W, M (pre, x) W → M' (pre, x, W.heap.size) (w₁ x W) ∧ KeepsFrom w.heap.size W (w₁ x W))
    (hassign : ∀ (l : Nat) (x : α) (W : World) (K : Act → World → Prop), K { tmps := sl a.tmps x W.heap.size, defers := [] } (w₁ x W) →
      assign.wpIn (F.inRound l) (n - 1 - 1) P (Exit.then K (fun _ _ _ => False)) { tmps := (ps.zip (encs x)).foldl (fun t (p, v) => t.setIfInBounds p v) a.tmps, defers := [] } W)
    (hbody : ∀ (l : Nat) (pre : List α) (x : α) (b : Nat) (W : World), M' (pre, x, b) W → body.wpIn (F.inRound l) (n - 1 - 1) P (Left w.heap.size U Ux (pre ++ [x]) W) { tmps := sl a.tmps x b, defers := [] } W)
    (hdone : ∀ (d : Nat) (xs : List α) (W : World), w.heap.size ≤ d → D xs W → W.heap[d]? = some (.deferred (some [])) → Q .normal { a with defers := { target := .collected d, args := #[] } :: a.defers } W)
    (hstop : ∀ (d : Nat) (c : Code) (pre : List α) (W : World), w.heap.size ≤ d → Ux c pre W → W.heap[d]? = some (.deferred (some [])) → c.wpIn F n P Q { a with defers := { target := .collected d, args := #[] } :: a.defers } W) :
    (Code.rangeFunc g ps assign body).wpIn F n P Q a w :=
  range_mut hro h1 hg hFg eg hseq hps U M M' D Ux hU hM hD hUx hstep h0 (fun x b => { tmps := sl a.tmps x b, defers := [] }) w₁ hM1 hassign hbody hdone hstop

end Mu
end Go.Proofs.Ytocoonkachbjaaa
