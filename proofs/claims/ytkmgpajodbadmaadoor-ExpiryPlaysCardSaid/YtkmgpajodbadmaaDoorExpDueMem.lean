/- Due gone over by the law: what lies where. No program's code is walked here. -/
import Derived.Test.YtkmgpajodbadmaaDoorExpState
namespace Go.Proofs.YtkmgpajodbadmaaDoor
open Go.RowKit
set_option linter.unusedVariables false
namespace Ex
open Hp (It)

/-- An act's numbers: its kind, At, N, the link's slot, its birth. -/
abbrev Act5 := Int × Int × Int × Int × Int
def xcells (x : Act5) : Array Value := #[.int .i64 x.1, .int .i64 x.2.1, .int .i64 x.2.2.1, .int .i64 x.2.2.2.1, .int .i64 x.2.2.2.2]

/-- The boxes of 'due' from block b on, and the two of the iterator from block c on. -/
structure DBox (b c E r : Nat) (x : Act5) (most : Int) (put res : Bool) (n : Int) (W : World) : Prop where
  fe : W.heap[b]? = some (.cells #[.pointer (some ⟨E, 0, none⟩)] 51 (0, 0))
  fr : W.heap[b + 1]? = some (.cells #[.pointer (some ⟨r, 0, none⟩)] 53 (0, 0))
  fx : W.heap[b + 2]? = some (.cells (xcells x) 61 (0, 0))
  fm : W.heap[b + 3]? = some (.cells #[.int .i64 most] 3 (0, 0))
  fp : W.heap[b + 4]? = some (.cells #[.bool put] 4 (0, 0))
  fs : W.heap[b + 5]? = some (.cells #[.bool res] 4 (0, 0))
  fn : W.heap[b + 6]? = some (.cells #[.int .i64 n] 3 (0, 0))
  ie : W.heap[c]? = some (.cells #[.pointer (some ⟨E, 0, none⟩)] 51 (0, 0))
  inow : W.heap[c + 1]? = some (.cells #[.int .i64 x.2.1] 3 (0, 0))

section
variable {b c E r : Nat} {x : Act5} {most : Int} {put res : Bool} {n : Int} {w W W' : World}
theorem DBox.same (h : DBox b c E r x most put res n W) (hs : ∀ k, (b ≤ k ∧ k < b + 7) ∨ k = c ∨ k = c + 1 → ∀ o : Obj, W.heap[k]? = some o → W'.heap[k]? = some o) : DBox b c E r x most put res n W' :=
  ⟨hs _ (by omega) _ h.fe, hs _ (by omega) _ h.fr, hs _ (by omega) _ h.fx, hs _ (by omega) _ h.fm, hs _ (by omega) _ h.fp, hs _ (by omega) _ h.fs, hs _ (by omega) _ h.fn, hs _ (by omega) _ h.ie, hs _ (by omega) _ h.inow⟩
theorem DBox.lt (h : DBox b c E r x most put res n W) : b + 6 < W.heap.size ∧ c + 1 < W.heap.size := ⟨(Array.getElem?_eq_some_iff.1 h.fn).1, (Array.getElem?_eq_some_iff.1 h.inow).1⟩
theorem row_cell {W : World} {b : Nat} {cs : Array Value} {t : TypeId} (h : W.heap[b]? = some (.cells cs t (0, 0))) (j : Nat) : W.cell? ⟨b, j, none⟩ = cs[j]? := cell_of_row _ _ _ _ _ _ h
theorem row_free {W : World} {b : Nat} {cs : Array Value} {t : TypeId} (h : W.heap[b]? = some (.cells cs t (0, 0))) (j : Nat) : W.frozen? ⟨b, j, none⟩ = false := by unfold World.frozen?; rw [h]; rfl
theorem DBox.cells (h : DBox b c E r x most put res n W) : W.cell? ⟨b, 0, none⟩ = some (.pointer (some ⟨E, 0, none⟩)) ∧ W.cell? ⟨b + 1, 0, none⟩ = some (.pointer (some ⟨r, 0, none⟩)) ∧ W.cell? ⟨b + 1 + 1, 1, none⟩ = some (.int .i64 x.2.1) ∧ W.cell? ⟨b + 1 + 1 + 1, 0, none⟩ = some (.int .i64 most) ∧
    W.cell? ⟨b + 1 + 1 + 1 + 1, 0, none⟩ = some (.bool put) ∧ W.cell? ⟨b + 1 + 1 + 1 + 1 + 1, 0, none⟩ = some (.bool res) ∧ W.cell? ⟨b + 1 + 1 + 1 + 1 + 1 + 1, 0, none⟩ = some (.int .i64 n) ∧ W.frozen? ⟨b + 1 + 1 + 1 + 1 + 1, 0, none⟩ = false ∧ W.frozen? ⟨b + 1 + 1 + 1 + 1 + 1 + 1, 0, none⟩ = false ∧
    W.cell? ⟨b + 1 + 1, 2, none⟩ = some (.int .i64 x.2.2.1) ∧ W.cell? ⟨b + 1 + 1, 3, none⟩ = some (.int .i64 x.2.2.2.1) ∧ W.cell? ⟨b + 1 + 1, 4, none⟩ = some (.int .i64 x.2.2.2.2) :=
  ⟨by rw [row_cell h.fe]; rfl, by rw [row_cell h.fr]; rfl, by rw [row_cell h.fx]; rfl, by rw [row_cell h.fm]; rfl, by rw [row_cell h.fp]; rfl, by rw [row_cell h.fs]; rfl, by rw [row_cell h.fn]; rfl, row_free h.fs 0, row_free h.fn 0, by rw [row_cell h.fx]; rfl, by rw [row_cell h.fx]; rfl, by rw [row_cell h.fx]; rfl⟩
theorem DBox.held (h : DBox b c E r x most put res n W) : W.cell? ⟨b + 1 + 1 + 1 + 1, 0, none⟩ = some (.bool put) ∧ W.cell? ⟨b + 1 + 1 + 1 + 1 + 1 + 1, 0, none⟩ = some (.int .i64 n) ∧ W.cell? ⟨b, 0, none⟩ = some (.pointer (some ⟨E, 0, none⟩)) ∧ W.cell? ⟨b + 1, 0, none⟩ = some (.pointer (some ⟨r, 0, none⟩)) ∧ W.cell? ⟨b + 1 + 1, 3, none⟩ = some (.int .i64 x.2.2.2.1) ∧ W.cell? ⟨b + 1 + 1, 4, none⟩ = some (.int .i64 x.2.2.2.2) ∧ W.cell? ⟨b + 1 + 1, 2, none⟩ = some (.int .i64 x.2.2.1) := by
  obtain ⟨q0, q1, q2, q3, q4, q5, q6, q7, q8, q9, q10, q11⟩ := h.cells
  exact ⟨q4, q6, q0, q1, q10, q11, q9⟩
theorem DBox.count (h : DBox b c E r x most put res n W) (hc : b + 6 < c) (m : Int) : DBox b c E r x most put res m (W.setCell ⟨b + 6, 0, none⟩ (.int .i64 m)) := by
  have hs : ∀ k, k ≠ b + 6 → (W.setCell ⟨b + 6, 0, none⟩ (.int .i64 m)).heap[k]? = W.heap[k]? := fun k hk => Below.heap_setCell _ _ _ _ hk
  refine ⟨(hs _ (by omega)).trans h.fe, (hs _ (by omega)).trans h.fr, (hs _ (by omega)).trans h.fx, (hs _ (by omega)).trans h.fm, (hs _ (by omega)).trans h.fp, (hs _ (by omega)).trans h.fs, ?_, (hs _ (by omega)).trans h.ie, (hs _ (by omega)).trans h.inow⟩
  rw [heap_setCell_same W (b + 6) 0 _ _ _ h.fn]; rfl
theorem DBox.told (h : DBox b c E r x most put res n W) (hc : b + 6 < c) (v : Bool) : DBox b c E r x most put v n (W.setCell ⟨b + 5, 0, none⟩ (.bool v)) := by
  have hs : ∀ k, k ≠ b + 5 → (W.setCell ⟨b + 5, 0, none⟩ (.bool v)).heap[k]? = W.heap[k]? := fun k hk => Below.heap_setCell _ _ _ _ hk
  refine ⟨(hs _ (by omega)).trans h.fe, (hs _ (by omega)).trans h.fr, (hs _ (by omega)).trans h.fx, (hs _ (by omega)).trans h.fm, (hs _ (by omega)).trans h.fp, ?_, (hs _ (by omega)).trans h.fn, (hs _ (by omega)).trans h.ie, (hs _ (by omega)).trans h.inow⟩
  rw [heap_setCell_same W (b + 5) 0 _ _ _ h.fs]; rfl
end

/-- All that there is while Due is gone over. w: the world at the call; w1: ahead of the loop. -/
structure DueAt (lo E r N0 c : Nat) (F0 : Nat → Prop) (x : Act5) (most : Int) (put : Bool) (w w1 : World) (n : Int) (res : Bool) (S R : List Ent) (F : Nat → Prop) (v : Value) (N : Nat) (W : World) : Prop where
  both : EBoth lo E r N S R F v W
  box : DBox w.heap.size c E r x most put res n W
  new : ∀ k, F k → F0 k ∨ w1.heap.size ≤ k
  newv : ∀ b, v.ownBlock = some b → b < w.heap.size ∨ w1.heap.size ≤ b
  old : ∀ k, F0 k → k < w.heap.size
  only : Only (fun k => F0 k ∨ k = r) w W
  size : w1.heap.size ≤ W.heap.size
  place : w.heap.size + 6 < c ∧ c + 1 < w1.heap.size ∧ E < w.heap.size ∧ r < w.heap.size ∧ lo ≤ w.heap.size

section
variable {lo E r N0 c : Nat} {F0 : Nat → Prop} {x : Act5} {most : Int} {put : Bool} {w w1 : World} {n : Int} {res : Bool} {S R : List Ent} {F : Nat → Prop} {v : Value} {N : Nat} {W W' : World}
theorem DueAt.noF (h : DueAt lo E r N0 c F0 x most put w w1 n res S R F v N W) {k : Nat} (h1 : w.heap.size ≤ k) (h2 : k < w1.heap.size) : ¬ F k := fun hf => by
  rcases h.new k hf with e | e
  · have := h.old k e; omega
  · omega
theorem DueAt.boxes (h : DueAt lo E r N0 c F0 x most put w w1 n res S R F v N W) {k : Nat} (hk : (w.heap.size ≤ k ∧ k < w.heap.size + 7) ∨ k = c ∨ k = c + 1) : w.heap.size ≤ k ∧ k < w1.heap.size ∧ k ≠ r := by
  obtain ⟨p1, p2, p3, p4, p5⟩ := h.place
  refine ⟨by omega, by omega, by omega⟩
theorem DueAt.exps {S' : List Ent} {F' : Nat → Prop} {N' : Nat} (h : DueAt lo E r N0 c F0 x most put w w1 n res S R F v N W) (hh : ExpAt lo E N' S' F' W') (ho : Only F W W') (hn : ∀ k, F' k → F k ∨ W.heap.size ≤ k) : DueAt lo E r N0 c F0 x most put w w1 n res S' R F' v N' W' :=
  ⟨h.both.exps hh ho hn, h.box.same (fun k hk o ho2 => (ho.block k (Array.getElem?_eq_some_iff.1 ho2).1 (h.noF (h.boxes hk).1 (h.boxes hk).2.1)).trans ho2), fun k hk => by
    rcases hn k hk with e | e
    · exact h.new k e
    · exact .inr (Nat.le_trans h.size e), h.newv, h.old, h.only.trans ho (fun i hi hf => by
      rcases h.new i hf with e | e
      · exact .inl e
      · have := h.place; omega), Nat.le_trans h.size ho.size, h.place⟩
theorem DueAt.refs {R' : List Ent} {v' : Value} (h : DueAt lo E r N0 c F0 x most put w w1 n res S R F v N W) (hr : RefE lo r R' v' W') (ho : Only (fun b => b = r) W W') (hn : ∀ b, v'.ownBlock = some b → W.heap.size ≤ b) : DueAt lo E r N0 c F0 x most put w w1 n res S R' F v' N W' :=
  ⟨h.both.refs hr ho hn, h.box.same (fun k hk o ho2 => (ho.block k (Array.getElem?_eq_some_iff.1 ho2).1 (h.boxes hk).2.2).trans ho2), h.new, fun b e => .inr (Nat.le_trans h.size (hn b e)), h.old, h.only.trans ho (fun i hi e => .inr e), Nat.le_trans h.size ho.size, h.place⟩
theorem DueAt.below (h : DueAt lo E r N0 c F0 x most put w w1 n res S R F v N W) (hb : Below W.heap.size W W') : DueAt lo E r N0 c F0 x most put w w1 n res S R F v N W' :=
  ⟨h.both.below hb, h.box.same (fun k hk o ho2 => (hb.block k (Array.getElem?_eq_some_iff.1 ho2).1).trans ho2), h.new, h.newv, h.old, h.only.trans (Only.of_below (F := fun k => F0 k ∨ k = r) hb) (fun i hi e => e), Nat.le_trans h.size hb.size, h.place⟩
theorem DueAt.cellSet (h : DueAt lo E r N0 c F0 x most put w w1 n res S R F v N W) {k : Nat} (hk : w.heap.size ≤ k ∧ k < w1.heap.size) (u : Value) : EBoth lo E r N S R F v (W.setCell ⟨k, 0, none⟩ u) ∧ Only (fun k => F0 k ∨ k = r) w (W.setCell ⟨k, 0, none⟩ u) ∧ w1.heap.size ≤ (W.setCell ⟨k, 0, none⟩ u).heap.size := by
  have ho : Only (fun j => j = k) W (W.setCell ⟨k, 0, none⟩ u) := (Only.refl (fun j => j = k) W).setCell (p := ⟨k, 0, none⟩) (fun _ => rfl) u
  obtain ⟨p1, p2, p3, p4, p5⟩ := h.place
  refine ⟨?_, h.only.trans ho (fun i hi e => by omega), Nat.le_trans h.size ho.size⟩
  exact ⟨h.both.exp.only ho (fun j hj e => h.noF hk.1 hk.2 (e ▸ hj)), h.both.ref.only ho (fun e => by omega) (fun b eb e => by have := h.newv b eb; omega), h.both.far, h.both.farv⟩
theorem DueAt.count (h : DueAt lo E r N0 c F0 x most put w w1 n res S R F v N W) (m : Int) : DueAt lo E r N0 c F0 x most put w w1 m res S R F v N (W.setCell ⟨w.heap.size + 6, 0, none⟩ (.int .i64 m)) := by
  have hp := h.place
  obtain ⟨h1, h2, h3⟩ := h.cellSet (k := w.heap.size + 6) (by omega) (.int .i64 m)
  exact ⟨h1, h.box.count hp.1 m, h.new, h.newv, h.old, h2, h3, hp⟩
theorem DueAt.told (h : DueAt lo E r N0 c F0 x most put w w1 n res S R F v N W) (t : Bool) : DueAt lo E r N0 c F0 x most put w w1 n t S R F v N (W.setCell ⟨w.heap.size + 5, 0, none⟩ (.bool t)) := by
  have hp := h.place
  obtain ⟨h1, h2, h3⟩ := h.cellSet (k := w.heap.size + 5) (by omega) (.bool t)
  exact ⟨h1, h.box.told hp.1 t, h.new, h.newv, h.old, h2, h3, hp⟩
theorem DueAt.turned {row : Option Nat} (h : DueAt lo E r N0 c F0 x most put w w1 n res S R F v N W) (hg : W.grownBy W' row) (hr : ∀ k, row = some k → w1.heap.size ≤ k ∧ ∃ o : Obj, W.heap[k]? = some o ∧ o.isCells = false) : DueAt lo E r N0 c F0 x most put w w1 n res S R F v N W' := by
  have hp := h.place
  refine ⟨h.both.turned hg (fun k e => ⟨by have := (hr k e).1; omega, (hr k e).2⟩), h.box.same (fun k hk o ho => (hg.block k (Array.getElem?_eq_some_iff.1 ho).1 (fun e => ?_)).trans ho), h.new, h.newv, h.old, only_turned h.only (by omega) hg hr, Nat.le_trans h.size hg.size, hp⟩
  have h1 := (hr k e.symm).1
  have h2 := h.boxes hk
  omega
theorem DueAt.eq {S' R' : List Ent} (h : DueAt lo E r N0 c F0 x most put w w1 n res S R F v N W) (e1 : S = S') (e2 : R = R') : DueAt lo E r N0 c F0 x most put w w1 n res S' R' F v N W := by subst e1; subst e2; exact h
theorem DueAt.iter (h : DueAt lo E r N0 c F0 x most put w w1 n res S R F v N W) : DueI lo E c (c + 1) x.2.1 (S, F, N) W := by
  have hp := h.place
  have h0 := h.boxes (k := c) (by omega)
  have h1 := h.boxes (k := c + 1) (by omega)
  exact ⟨h.both.exp, by rw [row_cell h.box.ie]; rfl, by rw [row_cell h.box.inow]; rfl, h.noF h0.1 h0.2.1, h.noF h1.1 h1.2.1, by have := h.size; omega⟩
end

/-- Ahead of a round; behind the iterator's step; at the end; where a round was left. -/
def DueU (lo E r N0 c : Nat) (F0 : Nat → Prop) (x : Act5) (most : Int) (put : Bool) (w w1 : World) (pre : List It) (W : World) : Prop :=
  ∃ S F v N, DueAt lo E r N0 c F0 x most put w w1 pre.length false S S F v N W ∧ (pre = [] ∨ pre.length + S.length ≤ 33) ∧ N ≤ N0 + 1 ∧ (pre = [] → N = N0)
def DueM (lo E r N0 c : Nat) (F0 : Nat → Prop) (x : Act5) (most : Int) (put : Bool) (w w1 : World) (p : List It × It) (W : World) : Prop :=
  ∃ at_ t F v N, DueAt lo E r N0 c F0 x most put w w1 p.1.length false t ((p.2.1, p.2.2, at_) :: t) F v N W ∧ at_ ≤ x.2.1 ∧ wo ((p.2.1, p.2.2, at_) :: t) p.2.1 = t ∧ t.length ≤ 31 ∧ (p.1 = [] ∨ p.1.length + t.length ≤ 32) ∧ N ≤ N0 + 1 ∧ (p.1 = [] → N = N0)
def DueD (lo E r N0 c : Nat) (F0 : Nat → Prop) (x : Act5) (most : Int) (put : Bool) (w w1 : World) (pre : List It) (W : World) : Prop :=
  ∃ S F v N, DueAt lo E r N0 c F0 x most put w w1 pre.length false S S F v N W ∧ (S = [] ∨ ∃ e t, S = e :: t ∧ x.2.1 < e.2.2) ∧ N ≤ N0 + 1
def DueX (lo E r N0 c : Nat) (F0 : Nat → Prop) (x : Act5) (most : Int) (put : Bool) (w w1 : World) (k : Code) (pre : List It) (W : World) : Prop :=
  k = .ret ∧ ∃ S F v N, DueAt lo E r N0 c F0 x most put w w1 pre.length true S S F v N W ∧ N ≤ N0 + 1

/-- The step's link behind the loop's variable. -/
def DueM2 (lo E r N0 c : Nat) (F0 : Nat → Prop) (x : Act5) (most : Int) (put : Bool) (w w1 : World) (p : List It × It × Nat) (W : World) : Prop :=
  ∃ at_ t F v N, DueAt lo E r N0 c F0 x most put w w1 p.1.length false t ((p.2.1.1, p.2.1.2, at_) :: t) F v N W ∧ at_ ≤ x.2.1 ∧ wo ((p.2.1.1, p.2.1.2, at_) :: t) p.2.1.1 = t ∧ t.length ≤ 31 ∧ (p.1 = [] ∨ p.1.length + t.length ≤ 32) ∧ N ≤ N0 + 1 ∧ (p.1 = [] → N = N0) ∧
    W.heap[p.2.2]? = some (.cells #[.int .i64 p.2.1.1, .int .i64 p.2.1.2] 59 (0, 0)) ∧ w1.heap.size ≤ p.2.2
section
variable {lo E r N0 c : Nat} {F0 : Nat → Prop} {x : Act5} {most : Int} {put : Bool} {w w1 : World}
theorem dueM2_own : OwnFrom w1.heap.size (DueM2 lo E r N0 c F0 x most put w w1) := fun s W W' row hs hg hr => by
  obtain ⟨a, t, F, v, N, h, h2, h3, h4, h5, h6, h7, h8, h9⟩ := hs
  refine ⟨a, t, F, v, N, h.turned hg hr, h2, h3, h4, h5, h6, h7, (hg.block _ (Array.getElem?_eq_some_iff.1 h8).1 (fun e => ?_)).trans h8, h9⟩
  obtain ⟨_, o, h10, h11⟩ := hr _ e.symm
  rw [h8] at h10; cases h10; cases h11
theorem dueM_lay (pre : List It) (y : It) (W : World) (h : DueM lo E r N0 c F0 x most put w w1 (pre, y) W) :
    DueM2 lo E r N0 c F0 x most put w w1 (pre, y, W.heap.size) (W.alloc (.cells #[.int .i64 y.1, .int .i64 y.2] 59)) ∧ KeepsFrom w1.heap.size W (W.alloc (.cells #[.int .i64 y.1, .int .i64 y.2] 59)) := by
  obtain ⟨a, t, F, v, N, h, h2, h3, h4, h5, h6, h7⟩ := h
  have hb : Below W.heap.size W (W.alloc (.cells #[.int .i64 y.1, .int .i64 y.2] 59)) := (Below.refl _ _).alloc (Nat.le_refl _) _
  exact ⟨⟨a, t, F, v, N, h.below hb, h2, h3, h4, h5, h6, h7, Ut.alloc_at _ _, h.size⟩, keeps_below hb⟩
theorem dueU_own : OwnFrom w1.heap.size (DueU lo E r N0 c F0 x most put w w1) := fun s W W' row hs hg hr => by
  obtain ⟨S, F, v, N, h, h2⟩ := hs
  exact ⟨S, F, v, N, h.turned hg hr, h2⟩
theorem dueM_own : OwnFrom w1.heap.size (DueM lo E r N0 c F0 x most put w w1) := fun s W W' row hs hg hr => by
  obtain ⟨a, t, F, v, N, h, h2⟩ := hs
  exact ⟨a, t, F, v, N, h.turned hg hr, h2⟩
theorem dueD_own : OwnFrom w1.heap.size (DueD lo E r N0 c F0 x most put w w1) := fun s W W' row hs hg hr => by
  obtain ⟨S, F, v, N, h, h2⟩ := hs
  exact ⟨S, F, v, N, h.turned hg hr, h2⟩
theorem dueX_own (k : Code) : OwnFrom w1.heap.size (DueX lo E r N0 c F0 x most put w w1 k) := fun s W W' row hs hg hr => by
  obtain ⟨e, S, F, v, N, h, h2⟩ := hs
  exact ⟨e, S, F, v, N, h.turned hg hr, h2⟩
theorem due_step (pre : List It) (A : World) (h : DueU lo E r N0 c F0 x most put w w1 pre A) (hsz : w1.heap.size ≤ A.heap.size) :
    ∃ s, DueI lo E c (c + 1) x.2.1 s A ∧ pre.length ≤ 40 ∧ (∀ y B, DueStep lo E x.2.1 s y A B → DueM lo E r N0 c F0 x most put w w1 (pre, y) B ∧ KeepsFrom w1.heap.size A B) ∧ (∀ B, DueFin x.2.1 s A B → DueD lo E r N0 c F0 x most put w w1 pre B ∧ KeepsFrom w1.heap.size A B) := by
  obtain ⟨S, F, v, N, h, h2, h3, h4⟩ := h
  have hp := h.place
  have hi := h.both.exp.inv
  refine ⟨(S, F, N), h.iter, ?_, fun y B hs => ?_, fun B hf => ?_⟩
  · rcases h2 with rfl | h2
    · simp
    · omega
  · obtain ⟨a, t, e, ha, F', hx, ho, hn⟩ := hs
    simp only at e hx ho hn
    subst e
    have hw := wo_head hi
    have hl := hi.len
    simp only [List.length_cons] at hl h2
    rw [hw] at hx
    refine ⟨⟨a, t, F', v, N, h.exps hx ho hn, ha, hw, by omega, ?_, h3, h4⟩, h.both.exp.keeps ho (by omega)⟩
    rcases h2 with e | h2
    · exact .inl e
    · right; simp only; omega
  · exact ⟨⟨S, F, v, N, h.below hf.2, hf.1, h3⟩, keeps_below hf.2⟩
end


section
variable {lo E r N0 c : Nat} {F0 : Nat → Prop} {x : Act5} {most : Int} {put : Bool} {w w1 : World}
/-- Behind a round's body. -/
theorem due_next {pre : List It} {y : It} {t : List Ent} {F : Nat → Prop} {v : Value} {N : Nat} {W w5 : World} (h : DueAt lo E r N0 c F0 x most put w w1 pre.length false t t F v N w5) (hk : KeepsFrom w1.heap.size W w5) (ht : pre.length + t.length ≤ 32) (hN : N ≤ N0 + 1) :
    (KeepsFrom w1.heap.size W (w5.setCell ⟨w.heap.size + 6, 0, none⟩ (.int .i64 (pre.length + 1))) ∧ DueU lo E r N0 c F0 x most put w w1 (pre ++ [y]) (w5.setCell ⟨w.heap.size + 6, 0, none⟩ (.int .i64 (pre.length + 1)))) ∧
    (KeepsFrom w1.heap.size W ((w5.setCell ⟨w.heap.size + 6, 0, none⟩ (.int .i64 (pre.length + 1))).setCell ⟨w.heap.size + 5, 0, none⟩ (.bool true)) ∧
      DueX lo E r N0 c F0 x most put w w1 .ret (pre ++ [y]) ((w5.setCell ⟨w.heap.size + 6, 0, none⟩ (.int .i64 (pre.length + 1))).setCell ⟨w.heap.size + 5, 0, none⟩ (.bool true))) := by
  have e : ((pre.length : Int) + 1) = (((pre ++ [y]).length : Nat) : Int) := by simp
  have hc := h.count (pre.length + 1)
  have ht2 := hc.told true
  have k1 : KeepsFrom w1.heap.size W (w5.setCell ⟨w.heap.size + 6, 0, none⟩ (.int .i64 (pre.length + 1))) := hk.trans ((KeepsOthers.setCell _ _ _).from _)
  rw [e] at hc ht2 k1 ⊢
  exact ⟨⟨k1, t, F, v, N, hc, .inr (by simp; omega), hN, fun e2 => by simp at e2⟩, k1.trans ((KeepsOthers.setCell _ _ _).from _), rfl, t, F, v, N, ht2, hN⟩
end

/-- The world ahead of the loop. -/
def dueW (w : World) (E r : Nat) (x : Act5) (most : Int) (put : Bool) : World :=
  ((((((((((w.alloc (.cells #[.pointer (some ⟨E, 0, none⟩)] 51)).alloc (.cells #[.pointer (some ⟨r, 0, none⟩)] 53)).alloc (.cells #[.int .i64 x.1, .int .i64 x.2.1, .int .i64 x.2.2.1, .int .i64 x.2.2.2.1, .int .i64 x.2.2.2.2] 61)).alloc
    (.cells #[.int .i64 most] 3)).alloc (.cells #[.bool put] 4)).alloc (.cells #[.bool false] 4)).alloc (.cells #[.int .i64 0] 3)).alloc (.cells #[.pointer (some ⟨E, 0, none⟩)] 51)).alloc (.cells #[.int .i64 x.2.1] 3)).alloc
    (.cells #[.pointer (some ⟨E, 0, none⟩)] 51)).alloc (.cells #[.int .i64 x.2.1] 3)
theorem due_start {lo E r N0 : Nat} {S : List Ent} {F0 : Nat → Prop} {v : Value} {w : World} (h : EBoth lo E r N0 S S F0 v w) (hlo : lo ≤ w.heap.size) (x : Act5) (most : Int) (put : Bool) :
    DueU lo E r N0 (w.heap.size + 9) F0 x most put w (dueW w E r x most put) [] (dueW w E r x most put) ∧ Below w.heap.size w (dueW w E r x most put) ∧ w.heap.size + 11 = (dueW w E r x most put).heap.size := by
  have hs : (dueW w E r x most put).heap.size = w.heap.size + 11 := by unfold dueW; simp only [World.size_alloc]
  have hb : Below w.heap.size w (dueW w E r x most put) := by
    unfold dueW
    iterate 10 refine Below.alloc ?_ (by simp only [World.size_alloc]; omega) _
    exact (Below.refl _ _).alloc (Nat.le_refl _) _
  have hbox : DBox w.heap.size (w.heap.size + 9) E r x most put false 0 (dueW w E r x most put) := by
    unfold dueW
    constructor <;> simp only [World.alloc, Array.getElem?_push, Array.size_push, Nat.add_assoc, Nat.reduceAdd] <;> simp [xcells]
  refine ⟨⟨S, F0, v, N0, ⟨h.below hb, hbox, fun k hk => .inl hk, fun b e => .inl (h.ref.row.lt b e).2, fun k hk => (h.exp.lt k hk).2, Only.of_below (F := fun k => F0 k ∨ k = r) hb, Nat.le_refl _, ⟨by omega, by omega, ?_, h.ref.lt, hlo⟩⟩, .inl rfl, by omega, fun _ => rfl⟩, hb, hs.symm⟩
  obtain ⟨H, bm, n, D, L, Fh, h1, _⟩ := h.exp
  exact (Array.getElem?_eq_some_iff.1 h1).1

end Ex
end Go.Proofs.YtkmgpajodbadmaaDoor
