/- An expiry's order: what lies where while the law goes over what is due. No program's code. -/
import Derived.Test.YtkmgpajodbadmaaEoPlain
import Derived.Test.YtkmgpajodbadmaaLies
import Derived.Test.YtkmgpajodbadmaaExpDue
namespace Go.Proofs.Ytkmgpajodbadmaa
open Go.RowKit
set_option linter.unusedVariables false
namespace Ex
open Hp (It)

theorem ExpAt.keeps' {lo E N B : Nat} {S : List Ent} {F : Nat → Prop} {w w' : World} (h : ExpAt lo E N S F w) (ho : Only F w w') (hE : E ≤ B) : KeepsFrom B w w' :=
  ⟨ho.size, fun k o hB hk hc => (ho.block k (Array.getElem?_eq_some_iff.1 hk).1 (fun hf => by
    obtain ⟨o', h3, h4⟩ := h.isCells hf (Nat.le_trans hE hB)
    rw [hk] at h3; cases h3; rw [hc] at h4; cases h4)).trans hk⟩
theorem ExpAt.turned {lo E N : Nat} {S : List Ent} {F : Nat → Prop} {w w' : World} {row : Option Nat} (h : ExpAt lo E N S F w) (hg : w.grownBy w' row) (hr : ∀ k, row = some k → E ≤ k ∧ ∃ o : Obj, w.heap[k]? = some o ∧ o.isCells = false) : ExpAt lo E N S F w' := by
  have ho : Only (fun k => row = some k) w w' := (Only.refl (fun k => row = some k) w).grown hg (fun k _ e => e)
  refine h.only ho (fun k hk e => ?_)
  obtain ⟨hE, o, h1, h2⟩ := hr k e
  obtain ⟨o', h3, h4⟩ := h.isCells hk hE
  rw [h1] at h3; cases h3; rw [h2] at h4; cases h4
theorem keeps_cells {B : Nat} {w w' : World} {G : Nat → Prop} (ho : Only G w w') (hc : ∀ k, G k → ∀ o : Obj, w.heap[k]? = some o → o.isCells = true) : KeepsFrom B w w' :=
  ⟨ho.size, fun k o hB hk hn => (ho.block k (Array.getElem?_eq_some_iff.1 hk).1 (fun hg => by rw [hc k hg o hk] at hn; cases hn)).trans hk⟩

def atV (D : Nat → Int) (i m j : Nat) : Value := if i ≤ j ∧ j < m then .int .i64 (D j) else .int .i64 0
def lastL (S : List Ent) : Nat → Int × Int
  | 0 => (-1, 0)
  | k + 1 => ((S.map fun e => (e.1, e.2.1))[k]?).getD (0, 0)
theorem lastL_succ {S : List Ent} {k : Nat} (hk : k < S.length) : lastL S (k + 1) = (S[k].1, S[k].2.1) := by simp [lastL, hk]

/-- The boxes: s the first, a the row's, o those of the loop. -/
def obox (s a o E : Nat) (now : Int) (m : Nat) (D : Nat → Int) (S : List Ent) (k : Nat) : List (Nat × Obj) :=
  [(o, .cells (arr 32 fun j => .bool (outF S k j)) 53 (0, 0)), (o + 1, .cells #[.int .i64 k] 3 (0, 0)), (o + 2, .cells #[.int .i64 (lastL S k).1, .int .i64 (lastL S k).2] 52 (0, 0)),
   (s, .cells #[.int .i64 now] 3 (0, 0)), (s + 1, .cells #[.bool false] 4 (0, 0)), (a, .cells (arr 32 (atV D 0 m)) 49 (0, 0)), (a + 1, .cells #[.int .i64 m] 3 (0, 0)),
   (o + 3, .cells #[.pointer (some ⟨E, 0, none⟩)] 47 (0, 0)), (o + 4, .cells #[.int .i64 now] 3 (0, 0))]
def inBox (s a o k : Nat) : Prop := k = s ∨ k = s + 1 ∨ k = a ∨ k = a + 1 ∨ (o ≤ k ∧ k ≤ o + 4)
theorem obox_in {s a o E : Nat} {now : Int} {m : Nat} {D : Nat → Int} {S : List Ent} {k : Nat} : ∀ p ∈ obox s a o E now m D S k, inBox s a o p.1 ∧ p.2.isCells = true := by
  intro p hp
  simp only [obox, List.mem_cons, List.not_mem_nil, or_false] at hp
  unfold inBox
  rcases hp with rfl | rfl | rfl | rfl | rfl | rfl | rfl | rfl | rfl <;> refine ⟨?_, rfl⟩ <;> simp

structure OrdAt (lo E : Nat) (w w1 : World) (s a o : Nat) (now : Int) (m : Nat) (D : Nat → Int) (S : List Ent) (k r N : Nat) (F : Nat → Prop) (W : World) : Prop where
  exp : ExpAt lo E N (S.drop r) F W
  box : Lies (obox s a o E now m D S k) W
  far : ∀ j, inBox s a o j → ¬ F j
  bel : Below w.heap.size w W
  size : w1.heap.size ≤ W.heap.size
  place : w.heap.size ≤ s ∧ s + 2 ≤ a ∧ a + 2 ≤ o ∧ o + 5 ≤ w1.heap.size ∧ E < w1.heap.size ∧ lo ≤ w1.heap.size ∧ w.heap.size ≤ lo
  kle : k ≤ S.length
  early : ∀ e ∈ S.take k, e.2.2 ≤ now

section
variable {lo E : Nat} {w w1 : World} {s a o : Nat} {now : Int} {m : Nat} {D : Nat → Int} {S : List Ent} {k r N : Nat} {F : Nat → Prop} {W W' : World}
theorem OrdAt.boxlt (h : OrdAt lo E w w1 s a o now m D S k r N F W) {j : Nat} (hj : inBox s a o j) : w.heap.size ≤ j ∧ j < w1.heap.size := by
  have hp := h.place
  unfold inBox at hj
  omega
theorem OrdAt.below (h : OrdAt lo E w w1 s a o now m D S k r N F W) (hb : Below W.heap.size W W') : OrdAt lo E w w1 s a o now m D S k r N F W' :=
  ⟨h.exp.below hb, h.box.below hb, h.far, h.bel.trans (hb.mono h.bel.size), Nat.le_trans h.size hb.size, h.place, h.kle, h.early⟩
theorem OrdAt.turned {row : Option Nat} (h : OrdAt lo E w w1 s a o now m D S k r N F W) (hg : W.grownBy W' row) (hr : ∀ j, row = some j → w1.heap.size ≤ j ∧ ∃ o : Obj, W.heap[j]? = some o ∧ o.isCells = false) : OrdAt lo E w w1 s a o now m D S k r N F W' := by
  have hp := h.place
  refine ⟨h.exp.turned hg (fun j e => ⟨by have := (hr j e).1; omega, (hr j e).2⟩), h.box.turned (fun p hp => (obox_in p hp).2) hg (fun j e => (hr j e).2), h.far, ?_, Nat.le_trans h.size hg.size, h.place, h.kle, h.early⟩
  exact h.bel.grown hg h.bel.size (fun j e => by have := (hr j e).1; omega)
theorem OrdAt.exps {r' N' : Nat} {F' : Nat → Prop} (h : OrdAt lo E w w1 s a o now m D S k r N F W) (hx : ExpAt lo E N' (S.drop r') F' W') (ho : Only F W W') (hn : ∀ j, F' j → F j ∨ W.heap.size ≤ j) : OrdAt lo E w w1 s a o now m D S k r' N' F' W' := by
  have hp := h.place
  refine ⟨hx, h.box.only ho (fun p hp => h.far _ (obox_in p hp).1), fun j hj hf => ?_, h.bel.trans (ho.below h.bel.size (fun i hi hf => ?_)), Nat.le_trans h.size ho.size, hp, h.kle, h.early⟩
  · rcases hn j hf with e | e
    · exact h.far j hj e
    · have h1 := (h.boxlt hj).2
      have h2 := h.size
      omega
  · have := (h.exp.lt i hf).1; omega
/-- A round's stores. -/
theorem OrdAt.next (h : OrdAt lo E w w1 s a o now m D S k (k + 1) N F W) (hk : k < S.length) {j : Nat} (hj : S[k].1 = (j : Int)) (hj32 : j < 32) (hle : S[k].2.2 ≤ now) :
    OrdAt lo E w w1 s a o now m D S (k + 1) (k + 1) N F ((((W.setCell ⟨o, j, none⟩ (.bool true)).setCell ⟨o + 2, 0, none⟩ (.int .i64 S[k].1)).setCell ⟨o + 2, 1, none⟩ (.int .i64 S[k].2.1)).setCell ⟨o + 1, 0, none⟩ (.int .i64 (k + 1))) ∧
    KeepsFrom w1.heap.size W ((((W.setCell ⟨o, j, none⟩ (.bool true)).setCell ⟨o + 2, 0, none⟩ (.int .i64 S[k].1)).setCell ⟨o + 2, 1, none⟩ (.int .i64 S[k].2.1)).setCell ⟨o + 1, 0, none⟩ (.int .i64 (k + 1))) := by
  have hp := h.place
  have ho : Only (fun b => inBox s a o b) W ((((W.setCell ⟨o, j, none⟩ (.bool true)).setCell ⟨o + 2, 0, none⟩ (.int .i64 S[k].1)).setCell ⟨o + 2, 1, none⟩ (.int .i64 S[k].2.1)).setCell ⟨o + 1, 0, none⟩ (.int .i64 (k + 1))) :=
    ((((Only.refl (fun b => inBox s a o b) W).setCell (p := ⟨o, j, none⟩) (fun _ => by unfold inBox; simp) _).setCell (p := ⟨o + 2, 0, none⟩) (fun _ => by unfold inBox; simp) _).setCell (p := ⟨o + 2, 1, none⟩) (fun _ => by unfold inBox; simp) _).setCell (p := ⟨o + 1, 0, none⟩) (fun _ => by unfold inBox; simp) _
  have hb0 := h.box
  unfold obox at hb0
  have hb1 := hb0.set (fun p hp => by simp only [List.mem_cons, List.not_mem_nil, or_false] at hp; rcases hp with rfl | rfl | rfl | rfl | rfl | rfl | rfl | rfl <;> simp <;> omega) j (.bool true)
  rw [arr_set] at hb1
  have hf : (fun i => if i = j then Value.bool true else .bool (outF S k i)) = fun i => .bool (outF S (k + 1) i) := by
    funext i
    rw [outF_next hk hj]
    by_cases e : i = j
    · rw [if_pos e, if_pos e]
    · rw [if_neg e, if_neg e]
  rw [hf] at hb1
  have hb2 := (hb1.perm (By := (o + 2, .cells #[.int .i64 (lastL S k).1, .int .i64 (lastL S k).2] 52 (0, 0)) :: (o, .cells (arr 32 fun j => .bool (outF S (k + 1) j)) 53 (0, 0)) :: (o + 1, .cells #[.int .i64 k] 3 (0, 0)) ::
   (s, .cells #[.int .i64 now] 3 (0, 0)) :: (s + 1, .cells #[.bool false] 4 (0, 0)) :: (a, .cells (arr 32 (atV D 0 m)) 49 (0, 0)) :: (a + 1, .cells #[.int .i64 m] 3 (0, 0)) ::
   (o + 3, .cells #[.pointer (some ⟨E, 0, none⟩)] 47 (0, 0)) :: (o + 4, .cells #[.int .i64 now] 3 (0, 0)) :: []) (fun p hp => by simp only [List.mem_cons, List.not_mem_nil, or_false] at hp ⊢; rcases hp with rfl | rfl | rfl | rfl | rfl | rfl | rfl | rfl | rfl <;> simp))
  have hb3 := (hb2.set (fun p hp => by simp only [List.mem_cons, List.not_mem_nil, or_false] at hp; rcases hp with rfl | rfl | rfl | rfl | rfl | rfl | rfl | rfl <;> simp <;> omega) 0 (.int .i64 S[k].1)).set (fun p hp => by simp only [List.mem_cons, List.not_mem_nil, or_false] at hp; rcases hp with rfl | rfl | rfl | rfl | rfl | rfl | rfl | rfl <;> simp <;> omega) 1 (.int .i64 S[k].2.1)
  have hl : (#[Value.int .i64 (lastL S k).1, .int .i64 (lastL S k).2].setIfInBounds 0 (.int .i64 S[k].1)).setIfInBounds 1 (.int .i64 S[k].2.1) = #[.int .i64 (lastL S (k + 1)).1, .int .i64 (lastL S (k + 1)).2] := by rw [lastL_succ hk]; rfl
  rw [hl] at hb3
  have hb4 := (hb3.perm (By := (o + 1, .cells #[.int .i64 k] 3 (0, 0)) :: (o + 2, .cells #[.int .i64 (lastL S (k + 1)).1, .int .i64 (lastL S (k + 1)).2] 52 (0, 0)) :: (o, .cells (arr 32 fun j => .bool (outF S (k + 1) j)) 53 (0, 0)) ::
   (s, .cells #[.int .i64 now] 3 (0, 0)) :: (s + 1, .cells #[.bool false] 4 (0, 0)) :: (a, .cells (arr 32 (atV D 0 m)) 49 (0, 0)) :: (a + 1, .cells #[.int .i64 m] 3 (0, 0)) ::
   (o + 3, .cells #[.pointer (some ⟨E, 0, none⟩)] 47 (0, 0)) :: (o + 4, .cells #[.int .i64 now] 3 (0, 0)) :: []) (fun p hp => by simp only [List.mem_cons, List.not_mem_nil, or_false] at hp ⊢; rcases hp with rfl | rfl | rfl | rfl | rfl | rfl | rfl | rfl | rfl <;> simp))
  have hb5 := hb4.set (fun p hp => by simp only [List.mem_cons, List.not_mem_nil, or_false] at hp; rcases hp with rfl | rfl | rfl | rfl | rfl | rfl | rfl | rfl <;> simp <;> omega) 0 (.int .i64 (k + 1))
  have hbox : Lies (obox s a o E now m D S (k + 1)) ((((W.setCell ⟨o, j, none⟩ (.bool true)).setCell ⟨o + 2, 0, none⟩ (.int .i64 S[k].1)).setCell ⟨o + 2, 1, none⟩ (.int .i64 S[k].2.1)).setCell ⟨o + 1, 0, none⟩ (.int .i64 (k + 1))) := by
    refine hb5.perm (fun p hp => ?_)
    unfold obox at hp
    simp only [List.mem_cons, List.not_mem_nil, or_false] at hp ⊢
    have e : (#[Value.int .i64 (k : Int)].setIfInBounds 0 (.int .i64 ((k : Int) + 1))) = #[.int .i64 ((k + 1 : Nat) : Int)] := rfl
    rw [e]
    rcases hp with rfl | rfl | rfl | rfl | rfl | rfl | rfl | rfl | rfl <;> simp
  refine ⟨⟨h.exp.only ho (fun b hb hi => h.far b hi hb), hbox, h.far, h.bel.trans (ho.below h.bel.size (fun i hi hf => ?_)), Nat.le_trans h.size ho.size, hp, hk, take_le hk h.early hle⟩, ?_⟩
  · have := (h.boxlt hf).1; omega
  · refine keeps_cells ho (fun b hb ob hob => ?_)
    have hbx := h.box
    unfold obox at hbx
    have hc : ∃ p ∈ obox s a o E now m D S k, p.1 = b := by
      unfold obox
      unfold inBox at hb
      simp only [List.mem_cons, List.not_mem_nil, or_false, exists_eq_or_imp, exists_eq_left]
      omega
    obtain ⟨p, hp1, rfl⟩ := hc
    have h2 := h.box p hp1
    rw [h2] at hob
    cases hob
    exact (obox_in p hp1).2
end

def pr (e : Ent) : It := (e.1, e.2.1)
/-- Ahead of a round; behind the iterator's step; with the link laid; at the end. -/
def OU (lo E : Nat) (w w1 : World) (s a o : Nat) (now : Int) (m : Nat) (D : Nat → Int) (S : List Ent) (pre : List It) (W : World) : Prop :=
  ∃ F N, pre.length ≤ S.length ∧ OrdAt lo E w w1 s a o now m D S pre.length pre.length N F W
def OM (lo E : Nat) (w w1 : World) (s a o : Nat) (now : Int) (m : Nat) (D : Nat → Int) (S : List Ent) (p : List It × It) (W : World) : Prop :=
  ∃ F N, ∃ hk : p.1.length < S.length, p.2 = pr S[p.1.length] ∧ S[p.1.length].2.2 ≤ now ∧ OrdAt lo E w w1 s a o now m D S p.1.length (p.1.length + 1) N F W
def OM2 (lo E : Nat) (w w1 : World) (s a o : Nat) (now : Int) (m : Nat) (D : Nat → Int) (S : List Ent) (p : List It × It × Nat) (W : World) : Prop :=
  (∃ F N, ∃ hk : p.1.length < S.length, p.2.1 = pr S[p.1.length] ∧ S[p.1.length].2.2 ≤ now ∧ OrdAt lo E w w1 s a o now m D S p.1.length (p.1.length + 1) N F W) ∧
    W.heap[p.2.2]? = some (.cells #[.int .i64 p.2.1.1, .int .i64 p.2.1.2] 52 (0, 0)) ∧ w1.heap.size ≤ p.2.2
def OD (lo E : Nat) (w w1 : World) (s a o : Nat) (now : Int) (m : Nat) (D : Nat → Int) (S : List Ent) (pre : List It) (W : World) : Prop :=
  ∃ F N, pre.length ≤ S.length ∧ OrdAt lo E w w1 s a o now m D S pre.length pre.length N F W ∧ (S.drop pre.length = [] ∨ ∃ e t, S.drop pre.length = e :: t ∧ now < e.2.2)

section
variable {lo E : Nat} {w w1 : World} {s a o : Nat} {now : Int} {m : Nat} {D : Nat → Int} {S : List Ent}
theorem oU_own : OwnFrom w1.heap.size (OU lo E w w1 s a o now m D S) := fun p W W' row hs hg hr => by
  obtain ⟨F, N, h1, h2⟩ := hs
  exact ⟨F, N, h1, h2.turned hg hr⟩
theorem oD_own : OwnFrom w1.heap.size (OD lo E w w1 s a o now m D S) := fun p W W' row hs hg hr => by
  obtain ⟨F, N, h1, h2, h3⟩ := hs
  exact ⟨F, N, h1, h2.turned hg hr, h3⟩
theorem oM2_own : OwnFrom w1.heap.size (OM2 lo E w w1 s a o now m D S) := fun p W W' row hs hg hr => by
  obtain ⟨⟨F, N, h1, h2, h3, h4⟩, h8, h9⟩ := hs
  refine ⟨⟨F, N, h1, h2, h3, h4.turned hg hr⟩, (hg.block _ (Array.getElem?_eq_some_iff.1 h8).1 (fun e => ?_)).trans h8, h9⟩
  obtain ⟨_, ob, h10, h11⟩ := hr _ e.symm
  rw [h8] at h10; cases h10; cases h11
theorem oM_lay (pre : List It) (y : It) (W : World) (h : OM lo E w w1 s a o now m D S (pre, y) W) :
    OM2 lo E w w1 s a o now m D S (pre, y, W.heap.size) (W.alloc (.cells #[.int .i64 y.1, .int .i64 y.2] 52)) ∧ KeepsFrom w1.heap.size W (W.alloc (.cells #[.int .i64 y.1, .int .i64 y.2] 52)) := by
  obtain ⟨F, N, hk, h1, h2, h3⟩ := h
  have hb : Below W.heap.size W (W.alloc (.cells #[.int .i64 y.1, .int .i64 y.2] 52)) := (Below.refl _ _).alloc (Nat.le_refl _) _
  exact ⟨⟨⟨F, N, hk, h1, h2, h3.below hb⟩, Ut.alloc_at _ _, h3.size⟩, ⟨hb.size, fun k ob hB hk hc => (hb.block k (Array.getElem?_eq_some_iff.1 hk).1).trans hk⟩⟩
theorem o_step (hi : Inv S) (pre : List It) (A : World) (h : OU lo E w w1 s a o now m D S pre A) (hsz : w1.heap.size ≤ A.heap.size) :
    ∃ t, DueI lo E (o + 3) (o + 4) now t A ∧ pre.length ≤ 40 ∧ (∀ y B, DueStep lo E now t y A B → OM lo E w w1 s a o now m D S (pre, y) B ∧ KeepsFrom w1.heap.size A B) ∧ (∀ B, DueFin now t A B → OD lo E w w1 s a o now m D S pre B ∧ KeepsFrom w1.heap.size A B) := by
  obtain ⟨F, N, hl, h⟩ := h
  have hp := h.place
  have hle := hi.len
  have c1 := block_cell (h.box (o + 3, .cells #[.pointer (some ⟨E, 0, none⟩)] 47 (0, 0)) (by simp [obox])) 0
  have c2 := block_cell (h.box (o + 4, .cells #[.int .i64 now] 3 (0, 0)) (by simp [obox])) 0
  refine ⟨(S.drop pre.length, F, N), ⟨h.exp, c1, c2, h.far _ (by unfold inBox; simp), h.far _ (by unfold inBox; simp), Nat.le_trans (by omega) h.size⟩, by omega, fun y B hs => ?_, fun B hf => ?_⟩
  · obtain ⟨at_, t, e, ha, F', hx, ho, hn⟩ := hs
    simp only at e hx ho hn
    obtain ⟨hk, e1, e2⟩ := drop_head e
    have hd : wo (S.drop pre.length) y.1 = S.drop (pre.length + 1) := by
      rw [e2]
      have hi2 : Inv (S.drop pre.length) := h.exp.inv
      rw [e] at hi2 ⊢
      have h1 := List.nodup_cons.1 (show (y.1 :: (items t).map Prod.fst).Nodup from hi2.good.nodup)
      unfold wo
      rw [List.filter_cons, if_neg (by simp), List.filter_eq_self]
      intro z hz
      have : z.1 ≠ y.1 := fun e2 => h1.1 (List.mem_map.2 ⟨itm z, List.mem_map.2 ⟨z, hz, rfl⟩, e2⟩)
      simpa using this
    rw [hd] at hx
    exact ⟨⟨F', N, hk, by rw [e1]; rfl, by rw [e1]; exact ha, h.exps hx ho hn⟩, h.exp.keeps' ho (by omega)⟩
  · exact ⟨⟨F, N, hl, h.below hf.2, hf.1⟩, ⟨hf.2.size, fun k ob hB hk hc => (hf.2.block k (Array.getElem?_eq_some_iff.1 hk).1).trans hk⟩⟩
/-- A round's end. -/
theorem o_next {pre : List It} {y : It} {N : Nat} {F : Nat → Prop} {W0 W : World} (h : OrdAt lo E w w1 s a o now m D S pre.length (pre.length + 1) N F W) (hkp : KeepsFrom w1.heap.size W0 W) (hk : pre.length < S.length) {j : Nat} (hj : S[pre.length].1 = (j : Int)) (hj32 : j < 32) (hle : S[pre.length].2.2 ≤ now) :
    KeepsFrom w1.heap.size W0 ((((W.setCell ⟨o, j, none⟩ (.bool true)).setCell ⟨o + 2, 0, none⟩ (.int .i64 S[pre.length].1)).setCell ⟨o + 2, 1, none⟩ (.int .i64 S[pre.length].2.1)).setCell ⟨o + 1, 0, none⟩ (.int .i64 (pre.length + 1))) ∧
    OU lo E w w1 s a o now m D S (pre ++ [y]) ((((W.setCell ⟨o, j, none⟩ (.bool true)).setCell ⟨o + 2, 0, none⟩ (.int .i64 S[pre.length].1)).setCell ⟨o + 2, 1, none⟩ (.int .i64 S[pre.length].2.1)).setCell ⟨o + 1, 0, none⟩ (.int .i64 (pre.length + 1))) := by
  obtain ⟨h1, h2⟩ := h.next hk hj hj32 hle
  have e : (pre ++ [y]).length = pre.length + 1 := by simp
  exact ⟨hkp.trans h2, F, N, by rw [e]; exact hk, by rw [e]; exact h1⟩
end

end Ex
end Go.Proofs.Ytkmgpajodbadmaa
