/- An expiry's order: what lies where while the rest is counted. No program's code. -/
import Derived.Test.YtkmgpajodbadmaaEoMem
namespace Go.Proofs.Ytkmgpajodbadmaa
open Go.RowKit
set_option linter.unusedVariables false
namespace Ex
open Hp (It)

def rbox (R Nn C x c E m k r : Nat) : List (Nat × Obj) :=
  [(x, .cells #[.int .i64 r] 3 (0, 0)), (R, .cells #[.bool false] 4 (0, 0)), (Nn, .cells #[.int .i64 m] 3 (0, 0)), (C, .cells #[.int .i64 k] 3 (0, 0)), (c, .cells #[.pointer (some ⟨E, 0, none⟩)] 47 (0, 0)), (c + 1, .cells #[.int .i64 1099511627776] 3 (0, 0))]
def rIn (R Nn C x c j : Nat) : Prop := j = x ∨ j = R ∨ j = Nn ∨ j = C ∨ j = c ∨ j = c + 1
theorem rbox_in {R Nn C x c E m k r : Nat} : ∀ p ∈ rbox R Nn C x c E m k r, rIn R Nn C x c p.1 ∧ p.2.isCells = true := by
  intro p hp
  simp only [rbox, List.mem_cons, List.not_mem_nil, or_false] at hp
  unfold rIn
  rcases hp with rfl | rfl | rfl | rfl | rfl | rfl <;> refine ⟨?_, rfl⟩ <;> simp

structure RestAt (lo E : Nat) (w w1 : World) (Dd R Nn C x c m k : Nat) (S : List Ent) (r q N : Nat) (F : Nat → Prop) (W : World) : Prop where
  exp : ExpAt lo E N (S.drop (k + q)) F W
  box : Lies (rbox R Nn C x c E m k r) W
  far : ∀ j, rIn R Nn C x c j → ¬ F j
  dk : W.heap[Dd]? = some (.deferred (some []))
  bel : Below w.heap.size w W
  size : w1.heap.size ≤ W.heap.size
  place : (∀ j, rIn R Nn C x c j → w.heap.size ≤ j ∧ j < w1.heap.size) ∧ (x ≠ R ∧ x ≠ Nn ∧ x ≠ C ∧ x ≠ c ∧ x ≠ c + 1) ∧ E < w1.heap.size ∧ lo ≤ w1.heap.size ∧ w.heap.size ≤ lo ∧ E ≤ Dd ∧ Dd < w1.heap.size

section
variable {lo E : Nat} {w w1 : World} {Dd R Nn C x c m k : Nat} {S : List Ent} {r q N : Nat} {F : Nat → Prop} {W W' : World}
theorem RestAt.below (h : RestAt lo E w w1 Dd R Nn C x c m k S r q N F W) (hb : Below W.heap.size W W') : RestAt lo E w w1 Dd R Nn C x c m k S r q N F W' :=
  ⟨h.exp.below hb, h.box.below hb, h.far, (hb.block _ (Array.getElem?_eq_some_iff.1 h.dk).1).trans h.dk, h.bel.trans (hb.mono h.bel.size), Nat.le_trans h.size hb.size, h.place⟩
theorem RestAt.turned {row : Option Nat} (h : RestAt lo E w w1 Dd R Nn C x c m k S r q N F W) (hg : W.grownBy W' row) (hr : ∀ j, row = some j → w1.heap.size ≤ j ∧ ∃ o : Obj, W.heap[j]? = some o ∧ o.isCells = false) : RestAt lo E w w1 Dd R Nn C x c m k S r q N F W' := by
  obtain ⟨p1, p2, p3, p4, p5, p6, p7⟩ := h.place
  refine ⟨h.exp.turned hg (fun j e => ⟨by have := (hr j e).1; omega, (hr j e).2⟩), h.box.turned (fun p hp => (rbox_in p hp).2) hg (fun j e => (hr j e).2), h.far, (hg.block _ (Array.getElem?_eq_some_iff.1 h.dk).1 (fun e => ?_)).trans h.dk, ?_, Nat.le_trans h.size hg.size, h.place⟩
  · have := (hr _ e.symm).1; omega
  · exact h.bel.grown hg h.bel.size (fun j e => by have := (hr j e).1; omega)
theorem RestAt.exps {q' N' : Nat} {F' : Nat → Prop} (h : RestAt lo E w w1 Dd R Nn C x c m k S r q N F W) (hx : ExpAt lo E N' (S.drop (k + q')) F' W') (ho : Only F W W') (hn : ∀ j, F' j → F j ∨ W.heap.size ≤ j) : RestAt lo E w w1 Dd R Nn C x c m k S r q' N' F' W' := by
  obtain ⟨p1, p2, p3, p4, p5, p6, p7⟩ := h.place
  refine ⟨hx, h.box.only ho (fun p hp => h.far _ (rbox_in p hp).1), fun j hj hf => ?_, (ho.block _ (Array.getElem?_eq_some_iff.1 h.dk).1 (fun hf => ?_)).trans h.dk, h.bel.trans (ho.below h.bel.size (fun i hi hf => ?_)), Nat.le_trans h.size ho.size, h.place⟩
  · rcases hn j hf with e | e
    · exact h.far j hj e
    · have h1 := (p1 j hj).2
      have h2 := h.size
      omega
  · obtain ⟨o', h3, h4⟩ := h.exp.isCells hf p6
    rw [h.dk] at h3; cases h3; cases h4
  · have := (h.exp.lt i hf).1; omega
theorem RestAt.next (h : RestAt lo E w w1 Dd R Nn C x c m k S r (r + 1) N F W) : RestAt lo E w w1 Dd R Nn C x c m k S (r + 1) (r + 1) N F (W.setCell ⟨x, 0, none⟩ (.int .i64 (r + 1))) := by
  obtain ⟨p1, p2, p3, p4, p5, p6, p7⟩ := h.place
  have ho : Only (fun b => b = x) W (W.setCell ⟨x, 0, none⟩ (.int .i64 (r + 1))) := (Only.refl (fun b => b = x) W).setCell (p := ⟨x, 0, none⟩) (fun _ => rfl) _
  have hb := h.box
  unfold rbox at hb
  have hb2 := hb.set (fun p hp => by simp only [List.mem_cons, List.not_mem_nil, or_false] at hp; rcases hp with rfl | rfl | rfl | rfl | rfl <;> simp <;> omega) 0 (.int .i64 (r + 1))
  have hdx : Dd ≠ x := fun e => by
    have h1 := h.dk
    rw [e, h.box.head] at h1
    cases h1
  exact ⟨h.exp.only ho (fun b hb hi => h.far b (.inl hi) hb), hb2, h.far, (ho.block _ (Array.getElem?_eq_some_iff.1 h.dk).1 hdx).trans h.dk, h.bel.trans (ho.below h.bel.size (fun i hi hf => by have := (p1 i (.inl hf)).1; omega)), Nat.le_trans h.size ho.size, h.place⟩
end

def RU (lo E : Nat) (w w1 : World) (Dd R Nn C x c m k : Nat) (S : List Ent) (pre : List It) (W : World) : Prop :=
  ∃ F N, k + pre.length ≤ S.length ∧ RestAt lo E w w1 Dd R Nn C x c m k S pre.length pre.length N F W
def RM (lo E : Nat) (w w1 : World) (Dd R Nn C x c m k : Nat) (S : List Ent) (p : List It × It) (W : World) : Prop :=
  ∃ F N, k + p.1.length < S.length ∧ RestAt lo E w w1 Dd R Nn C x c m k S p.1.length (p.1.length + 1) N F W
def RM2 (lo E : Nat) (w w1 : World) (Dd R Nn C x c m k : Nat) (S : List Ent) (p : List It × It × Nat) (W : World) : Prop :=
  ∃ F N, k + p.1.length < S.length ∧ RestAt lo E w w1 Dd R Nn C x c m k S p.1.length (p.1.length + 1) N F W
def RD (lo E : Nat) (w w1 : World) (Dd R Nn C x c m k : Nat) (S : List Ent) (pre : List It) (W : World) : Prop :=
  ∃ F N, k + pre.length = S.length ∧ RestAt lo E w w1 Dd R Nn C x c m k S pre.length pre.length N F W

section
variable {lo E : Nat} {w w1 : World} {Dd R Nn C x c m k : Nat} {S : List Ent}
theorem rU_own : OwnFrom w1.heap.size (RU lo E w w1 Dd R Nn C x c m k S) := fun p W W' row hs hg hr => by
  obtain ⟨F, N, h1, h2⟩ := hs
  exact ⟨F, N, h1, h2.turned hg hr⟩
theorem rD_own : OwnFrom w1.heap.size (RD lo E w w1 Dd R Nn C x c m k S) := fun p W W' row hs hg hr => by
  obtain ⟨F, N, h1, h2⟩ := hs
  exact ⟨F, N, h1, h2.turned hg hr⟩
theorem rM2_own : OwnFrom w1.heap.size (RM2 lo E w w1 Dd R Nn C x c m k S) := fun p W W' row hs hg hr => by
  obtain ⟨F, N, h1, h2⟩ := hs
  exact ⟨F, N, h1, h2.turned hg hr⟩
theorem rM_lay (pre : List It) (y : It) (W : World) (h : RM lo E w w1 Dd R Nn C x c m k S (pre, y) W) : RM2 lo E w w1 Dd R Nn C x c m k S (pre, y, W.heap.size) W ∧ KeepsFrom w1.heap.size W W := ⟨h, KeepsFrom.refl _ _⟩
theorem r_step (hi : Inv S) (hM : ∀ e ∈ S, e.2.2 ≤ 1099511627776) (pre : List It) (A : World) (h : RU lo E w w1 Dd R Nn C x c m k S pre A) (hsz : w1.heap.size ≤ A.heap.size) :
    ∃ t, DueI lo E c (c + 1) 1099511627776 t A ∧ pre.length ≤ 40 ∧ (∀ y B, DueStep lo E 1099511627776 t y A B → RM lo E w w1 Dd R Nn C x c m k S (pre, y) B ∧ KeepsFrom w1.heap.size A B) ∧ (∀ B, DueFin 1099511627776 t A B → RD lo E w w1 Dd R Nn C x c m k S pre B ∧ KeepsFrom w1.heap.size A B) := by
  obtain ⟨F, N, hl, h⟩ := h
  obtain ⟨p1, p2, p3, p4, p5, p6, p7⟩ := h.place
  have hle := hi.len
  have c1 := block_cell (h.box (c, .cells #[.pointer (some ⟨E, 0, none⟩)] 47 (0, 0)) (by simp [rbox])) 0
  have c2 := block_cell (h.box (c + 1, .cells #[.int .i64 1099511627776] 3 (0, 0)) (by simp [rbox])) 0
  refine ⟨(S.drop (k + pre.length), F, N), ⟨h.exp, c1, c2, h.far _ (by unfold rIn; simp), h.far _ (by unfold rIn; simp), Nat.le_trans p4 h.size⟩, by omega, fun y B hs => ?_, fun B hf => ?_⟩
  · obtain ⟨at_, t, e, ha, F', hx, ho, hn⟩ := hs
    simp only at e hx ho hn
    obtain ⟨hk, e1, e2⟩ := drop_head e
    have hd : wo (S.drop (k + pre.length)) y.1 = S.drop (k + (pre.length + 1)) := by
      rw [show k + (pre.length + 1) = k + pre.length + 1 by omega, e2]
      have hi2 : Inv (S.drop (k + pre.length)) := h.exp.inv
      rw [e] at hi2 ⊢
      have h1 := List.nodup_cons.1 (show (y.1 :: (items t).map Prod.fst).Nodup from hi2.good.nodup)
      unfold wo
      rw [List.filter_cons, if_neg (by simp), List.filter_eq_self]
      intro z hz
      have : z.1 ≠ y.1 := fun e2 => h1.1 (List.mem_map.2 ⟨itm z, List.mem_map.2 ⟨z, hz, rfl⟩, e2⟩)
      simpa using this
    rw [hd] at hx
    exact ⟨⟨F', N, hk, h.exps hx ho hn⟩, h.exp.keeps' ho (by omega)⟩
  · refine ⟨⟨F, N, ?_, h.below hf.2⟩, ⟨hf.2.size, fun k ob hB hk hc => (hf.2.block k (Array.getElem?_eq_some_iff.1 hk).1).trans hk⟩⟩
    rcases hf.1 with e | ⟨y, t, e, hy⟩
    · have := congrArg List.length e
      simp at this; omega
    · obtain ⟨hk, e1, e2⟩ := drop_head e
      have := hM _ (List.getElem_mem hk)
      rw [e1] at this; omega
theorem r_next {pre : List It} {y : It} {N : Nat} {F : Nat → Prop} {W : World} (h : RestAt lo E w w1 Dd R Nn C x c m k S pre.length (pre.length + 1) N F W) (hk : k + pre.length < S.length) :
    KeepsFrom w1.heap.size W (W.setCell ⟨x, 0, none⟩ (.int .i64 (pre.length + 1))) ∧ RU lo E w w1 Dd R Nn C x c m k S (pre ++ [y]) (W.setCell ⟨x, 0, none⟩ (.int .i64 (pre.length + 1))) := by
  have e : (pre ++ [y]).length = pre.length + 1 := by simp
  exact ⟨(KeepsOthers.setCell _ _ _).from _, F, N, by rw [e]; omega, by rw [e]; exact h.next⟩
end

end Ex
end Go.Proofs.Ytkmgpajodbadmaa
