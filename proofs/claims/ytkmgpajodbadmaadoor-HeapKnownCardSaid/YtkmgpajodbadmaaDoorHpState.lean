/- A heap, the document's one beside it, and an iterator that was got before: how they lie. No program's code is walked here. -/
import Derived.Test.YtkmgpajodbadmaaDoorHpRefSet
import Derived.Test.YtkmgpajodbadmaaDoorHpTaken
namespace Go.Proofs.YtkmgpajodbadmaaDoor
open Go.RowKit Go.Proofs.Ar
set_option linter.unusedVariables false
namespace Hp

theorem srt_without (L : List It) (i : Int) : without (srt L) i = srt (without L i) := srt_unique (without_perm (srt_perm L) i) (without_sorted (srt_sorted L) i)
theorem keyOf_srt {L : List It} {n : Nat} (hG : Good L n) (i : Int) : keyOf (srt L) i = keyOf L i := (keyOf_perm hG (srt_perm L).symm i).symm

/-- A heap of L and the document's one. -/
structure Both (lo H r n : Nat) (L R : List It) (F : Nat → Prop) (v : Value) (w : World) : Prop where
  heap : HeapAt lo H n L F w
  ref : RefAt lo r n R v w
  far : ¬ F r
  farv : ∀ b, v.ownBlock = some b → ¬ F b

/-- Behind a call that writes the heap alone. -/
theorem Both.heaps {lo H r n : Nat} {L R L' : List It} {F F' : Nat → Prop} {v : Value} {w w' : World} (h : Both lo H r n L R F v w) (hh : HeapAt lo H n L' F' w') (ho : Only F w w') (hn : ∀ k, F' k → F k ∨ w.heap.size ≤ k) : Both lo H r n L' R F' v w' :=
  ⟨hh, h.ref.only ho h.far h.farv, fun hf => by
    rcases hn r hf with e | e
    · exact h.far e
    · have := h.ref.lt; omega, fun b e hf => by
    rcases hn b hf with e2 | e2
    · exact h.farv b e e2
    · have := (h.ref.row.lt b e).2; omega⟩
/-- Behind a call that writes the document's one alone. -/
theorem Both.refs {lo H r n : Nat} {L R R' : List It} {F : Nat → Prop} {v v' : Value} {w w' : World} (h : Both lo H r n L R F v w) (hr : RefAt lo r n R' v' w') (ho : Only (fun b => b = r) w w') (hn : ∀ b, v'.ownBlock = some b → w.heap.size ≤ b ∨ v.ownBlock = some b) : Both lo H r n L R' F v' w' :=
  ⟨h.heap.only ho (fun k hk e => h.far (e ▸ hk)), hr, h.far, fun b e hf => by
    rcases hn b e with e2 | e2
    · have := (h.heap.lt b hf).2; omega
    · exact h.farv b e2 hf⟩
theorem Both.below {lo H r n : Nat} {L R : List It} {F : Nat → Prop} {v : Value} {w w' : World} (h : Both lo H r n L R F v w) (hb : Below w.heap.size w w') : Both lo H r n L R F v w' :=
  ⟨h.heap.below hb, h.ref.below hb, h.far, h.farv⟩

/-- An iterator that was got before, and what it is to hand out. -/
structure Held (lo r Bs : Nat) (F : Nat → Prop) (zs : List It) (was : Value) (w : World) : Prop where
  it : ∃ sv, w.cell? ⟨Bs, 0, none⟩ = some sv ∧ Items w.heap.size w sv zs ∧ ∀ b, sv.ownBlock = some b → lo ≤ b ∧ ¬ F b ∧ b ≠ r
  loB : lo ≤ Bs
  bs : ¬ F Bs ∧ Bs ≠ r
  row : w.ownsRow lo 3 1 was (zs.length * 2) ((flat zs).map vJ)
  far : ∀ b, was.ownBlock = some b → ¬ F b ∧ b ≠ r

theorem Items.only {G : Nat → Prop} {n : Nat} {w w' : World} {sv : Value} {zs : List It} (h : Items n w sv zs) (ho : Only G w w') (hn : n ≤ w.heap.size) (hg : ∀ b, sv.ownBlock = some b → ¬ G b) : Items w'.heap.size w' sv zs := by
  rcases h with e | ⟨b, cap, rfl, hb, hc⟩
  · exact .inl e
  · refine .inr ⟨b, cap, rfl, Nat.lt_of_lt_of_le hb (Nat.le_trans hn ho.size), fun j hj => ?_⟩
    have hb2 : b < w.heap.size := Nat.lt_of_lt_of_le hb hn
    have hg2 : ¬ G b := hg b rfl
    exact ⟨(ho.cell (p := ⟨b, j * 2, none⟩) hb2 hg2).trans (hc j hj).1, (ho.cell (p := ⟨b, j * 2 + 1, none⟩) hb2 hg2).trans (hc j hj).2⟩
theorem Held.only {G F F' : Nat → Prop} {lo r Bs : Nat} {zs : List It} {was : Value} {w w' : World} (h : Held lo r Bs F zs was w) (ho : Only G w w') (hG : ∀ k, G k → F k ∨ k = r) (hn : ∀ k, F' k → F k ∨ w.heap.size ≤ k) : Held lo r Bs F' zs was w' := by
  obtain ⟨⟨sv, h1, h2, h3⟩, h4, h5, h6, h7⟩ := h
  have hBl : Bs < w.heap.size := World.block_lt_of_cell? w _ h1
  have nG : ∀ b, ¬ F b ∧ b ≠ r → ¬ G b := fun b hb hg => by
    rcases hG b hg with e | e
    · exact hb.1 e
    · exact hb.2 e
  have nF : ∀ b, b < w.heap.size → ¬ F b → ¬ F' b := fun b hb hf hf' => by
    rcases hn b hf' with e | e
    · exact hf e
    · omega
  have hsv : ∀ b, sv.ownBlock = some b → b < w.heap.size := fun b e => by
    rcases h2 with ⟨rfl, -⟩ | ⟨b', cap, rfl, hb, -⟩
    · simp [Value.ownBlock] at e
    · obtain rfl : b' = b := by simpa [Value.ownBlock] using e
      exact hb
  refine ⟨⟨sv, (ho.cell (p := ⟨Bs, 0, none⟩) hBl (nG Bs h5)).trans h1, h2.only ho (Nat.le_refl _) (fun b e => nG b (h3 b e).2), fun b e => ⟨(h3 b e).1, nF b (hsv b e) (h3 b e).2.1, (h3 b e).2.2⟩⟩, h4, ⟨nF Bs hBl h5.1, h5.2⟩, ho.row h6 (fun b e => nG b (h7 b e)), fun b e => ⟨nF b (h6.lt b e).2 (h7 b e).1, (h7 b e).2⟩⟩
theorem Held.below {F : Nat → Prop} {lo r Bs : Nat} {zs : List It} {was : Value} {w w' : World} (h : Held lo r Bs F zs was w) (hb : Below w.heap.size w w') : Held lo r Bs F zs was w' :=
  h.only (Only.of_below (F := fun _ => False) hb) (fun _ h => h.elim) (fun k hk => .inl hk)
/-- One that is got now. -/
theorem Held.got {F : Nat → Prop} {lo r Bs B : Nat} {zs : List It} {was : Value} {w w1 : World} (hit : ItAt B Bs zs w1) (hw : w.heap.size ≤ B) (hlo : lo ≤ w.heap.size) (hF : ∀ k, F k → k < w.heap.size) (hr : r < w.heap.size) (hrow : w1.ownsRow lo 3 1 was (zs.length * 2) ((flat zs).map vJ)) (hwas : ∀ b, was.ownBlock = some b → ¬ F b ∧ b ≠ r) : Held lo r Bs F zs was w1 := by
  obtain ⟨h1, sv, h2, h3, h4⟩ := hit
  exact ⟨⟨sv, h2, h3, fun b e => ⟨by have := h4 b e; omega, fun hf => by have := h4 b e; have := hF b hf; omega, by have := h4 b e; omega⟩⟩, by omega, ⟨fun hf => by have := hF Bs hf; omega, by omega⟩, hrow, hwas⟩
theorem Held.itAt {F : Nat → Prop} {lo r Bs : Nat} {zs : List It} {was : Value} {w : World} (h : Held lo r Bs F zs was w) : ItAt lo Bs zs w := by
  obtain ⟨⟨sv, h1, h2, h3⟩, h4, _⟩ := h
  exact ⟨h4, sv, h1, h2, fun b e => (h3 b e).1⟩

/-- The first of so many of a list of numbers. -/
theorem int_prefix {w : World} {q : Option Addr} {n c m c' : Nat} {xs : List Int} (h : In.IntArg w (.slice q n c) xs) (hm : m ≤ xs.length) : In.IntArg w (.slice q m c') (xs.take m) := by
  obtain ⟨p, cap, e, h⟩ := h
  obtain ⟨rfl, rfl, rfl⟩ : q = p ∧ n = xs.length ∧ c = cap := by simpa using e
  refine ⟨q, c', by rw [List.length_take, Nat.min_eq_left hm], fun j hj => ?_⟩
  rw [List.length_take, Nat.min_eq_left hm] at hj
  obtain ⟨g, o, h1, h2, h3⟩ := h j (by omega)
  exact ⟨g, o, h1, h2, by rw [h3, List.getElem_take]⟩
theorem flat_take (L : List It) (m : Nat) : (flat L).take (2 * m) = flat (L.take m) := by
  induction m generalizing L with
  | zero => simp [flat]
  | succ m ih =>
    cases L with
    | nil => simp [flat]
    | cons a r =>
      have := ih r
      simp only [flat, List.flatMap_cons, List.take_succ_cons] at this ⊢
      rw [show 2 * (m + 1) = 2 * m + 1 + 1 by omega]
      simp [this]

end Hp
end Go.Proofs.YtkmgpajodbadmaaDoor
