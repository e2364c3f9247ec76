/- What ApartX does to lists in memory of their own: the relations of its loops. No program's code. -/
import Derived.Test.YtgneebidmhiagaaDoorGrow
namespace Go.Proofs.YtgneebidmhiagaaDoor
open Go.RowKit
set_option linter.unusedVariables false

/-- The first n marks of list k. -/
def marks (mk : Nat → Nat → Value) (k n : Nat) : List Value := (List.range n).map (mk k)
theorem marks_len (mk : Nat → Nat → Value) (k n : Nat) : (marks mk k n).length = n := by simp [marks]
theorem marks_succ (mk : Nat → Nat → Value) (k n : Nat) : marks mk k n ++ [mk k n] = marks mk k (n + 1) := by simp [marks, List.range_succ]
theorem marks_at (mk : Nat → Nat → Value) (k n j : Nat) (h : j < n) : (marks mk k n)[j]? = some (mk k j) := by simp [marks, h]

theorem Fam.congr {B : Nat} {w : World} {e : TypeId} {vs : List Value} {Z Z' : Nat → List Value} (h : Fam B w e vs Z) (hz : ∀ k, k < vs.length → Z k = Z' k) : Fam B w e vs Z' :=
  ⟨fun k hk => by rw [← hz k hk]; exact h.own k hk, h.apart⟩

/-- How many marks list j has while list k has p marks more. -/
def upTo (n : Nat → Nat) (k p j : Nat) : Nat := if j < k then n j + 64 else if j = k then n j + p else n j

/-- While the lists are appended to: ws are the lists as they are now, gs the list of the first k of them. -/
structure Two (B H L : Nat) (w0 : World) (e eT : TypeId) (mk : Nat → Nat → Value) (vs : List Value) (n : Nat → Nat) (k p : Nat) (ws : List Value) (gs : Value) (w : World) : Prop where
  fam : Fam B w e ws (fun j => marks mk j (upTo n k p j))
  len : ws.length = vs.length
  rest : ∀ j (h : j < ws.length) (h' : j < vs.length), k < j ∨ (p = 0 ∧ k ≤ j) → ws[j] = vs[j]
  moved : ∀ j (h : j < ws.length) (h' : j < vs.length), Moved H vs[j].ownBlock ws[j].ownBlock
  lt : ∀ j (h : j < vs.length) g, vs[j].ownBlock = some g → g < H
  apart : ∀ i j (hi : i < vs.length) (hj : j < vs.length), i ≠ j → ∀ g, vs[i].ownBlock = some g → vs[j].ownBlock ≠ some g
  shape : ∀ j (h : j < vs.length), 0 < n j → ∃ g cap, vs[j] = .slice (some ⟨g, 0, none⟩) (n j) cap
  old : ∀ j (h : j < vs.length) g, vs[j].ownBlock = some g → ∀ m, m < n j → w.cell? ⟨g, m, none⟩ = some (mk j m)
  gsown : w.ownsRow H eT 1 gs k (ws.take k)
  hL : w.heap[L]? = some (.cells vs.toArray eT (0, 0))
  ltL : L < H
  hH : H ≤ w.heap.size
  hB : B ≤ H
  below : Below B w0 w

theorem Two.step {B H L : Nat} {w0 w w' : World} {e eT : TypeId} {mk : Nat → Nat → Value} {vs : List Value} {n : Nat → Nat} {k p : Nat} {ws : List Value} {gs : Value} (h : Two B H L w0 e eT mk vs n k p ws gs w) (hb : Below w.heap.size w w') : Two B H L w0 e eT mk vs n k p ws gs w' :=
  { fam := h.fam.below hb, len := h.len, rest := h.rest, moved := h.moved, lt := h.lt, apart := h.apart, shape := h.shape
    old := fun j hj g hg m hm => (hb.cell (p := ⟨g, m, none⟩) (Nat.lt_of_lt_of_le (h.lt j hj g hg) h.hH)).trans (h.old j hj g hg m hm)
    gsown := Ut.own_below h.gsown hb
    hL := (hb.block L (Nat.lt_of_lt_of_le h.ltL h.hH)).trans h.hL
    ltL := h.ltL, hH := Nat.le_trans h.hH hb.size, hB := h.hB
    below := h.below.trans (hb.mono (Nat.le_trans h.hB h.hH)) }

/-- At the start. -/
theorem Two.start {B L : Nat} {w0 w : World} {e eT : TypeId} {mk : Nat → Nat → Value} {vs : List Value} {n : Nat → Nat} (hF : Fam B w e vs (fun j => marks mk j (n j))) (hL : w.heap[L]? = some (.cells vs.toArray eT (0, 0))) (hB : B ≤ w.heap.size) (hb : Below B w0 w) :
    Two B w.heap.size L w0 e eT mk vs n 0 0 vs (.slice none 0 0) w where
  fam := hF.congr fun k _ => by unfold upTo; rw [if_neg (Nat.not_lt_zero _)]; split <;> rfl
  len := rfl
  rest := fun _ _ _ _ => rfl
  moved := fun _ _ _ => .inl rfl
  lt := fun j hj g hg => ((hF.own j hj).lt g hg).2
  apart := hF.apart
  shape := fun j hj hn => by
    obtain ⟨g, cap, h1, _⟩ := hF.slice hj (by rw [marks_len]; exact hn)
    rw [marks_len] at h1
    exact ⟨g, cap, h1⟩
  old := fun j hj g hg m hm => by
    obtain ⟨g', cap, h1, _, _, _, _, h6, _⟩ := hF.slice hj (by rw [marks_len]; omega)
    rw [h1] at hg
    simp only [Value.ownBlock, Option.some.injEq] at hg
    subst hg
    rw [h6 m (by rw [marks_len]; exact hm)]
    exact marks_at mk j _ m hm
  gsown := World.ownsRow_nil _ _ _ _
  hL := hL
  ltL := lt_of_block hL
  hH := Nat.le_refl _
  hB := hB
  below := hb

/-- One mark more behind list k. -/
theorem Two.grow {B H L : Nat} {w0 w w' : World} {e eT : TypeId} {mk : Nat → Nat → Value} {vs : List Value} {n : Nat → Nat} {k p : Nat} {ws : List Value} {gs : Value} (h : Two B H L w0 e eT mk vs n k p ws gs w) (hne : e ≠ eT) (hk : k < ws.length) {v' : Value}
    (hg : Grew w w' ws[k].ownBlock v'.ownBlock) (hown : w'.ownsRow B e 1 v' (n k + p + 1) (marks mk k (n k + p) ++ [mk k (n k + p)])) : Two B H L w0 e eT mk vs n k (p + 1) (ws.set k v') gs w' := by
  have hkv : k < vs.length := by rw [← h.len]; exact hk
  have hwk : some L ≠ ws[k].ownBlock := by
    intro e'
    have := h.fam.own k hk
    rcases this.2 with ⟨h1, _⟩ | ⟨g, cap, cur, h1, _, hh, _⟩
    · rw [h1] at e'; cases e'
    · rw [h1] at e'
      simp only [Value.ownBlock, Option.some.injEq] at e'
      subst e'
      rw [h.hL] at hh
      simp at hh
      exact hne hh.2.symm
  have hgk : gs.ownBlock = none ∨ gs.ownBlock ≠ ws[k].ownBlock := own_ne h.gsown (h.fam.own k hk) (fun e => hne e.symm)
  have ho2 : w'.ownsRow B e 1 v' (marks mk k (n k + p + 1)).length (marks mk k (n k + p + 1)) := by rw [marks_len, ← marks_succ]; exact hown
  refine { fam := ?_, len := by rw [List.length_set]; exact h.len, rest := ?_, moved := ?_, lt := h.lt, apart := h.apart, shape := h.shape, old := ?_, gsown := ?_, hL := ?_, ltL := h.ltL, hH := Nat.le_trans h.hH hg.weak.size, hB := h.hB, below := ?_ }
  · refine (h.fam.grow hk hg.weak ho2 (hg.moved (Nat.le_refl _))).congr fun j _ => ?_
    by_cases hj : j = k
    · subst hj; simp [upTo, Nat.add_assoc]
    · simp [upTo, hj]
  · intro j hj hj' hkj
    rw [List.getElem_set_ne (by omega)]
    exact h.rest j _ hj' (.inl (by omega))
  · intro j hj hj'
    rw [List.length_set] at hj
    rw [List.getElem_set]
    split
    · rename_i e'; subst e'
      exact (h.moved _ hj hj').trans (hg.moved h.hH)
    · exact h.moved j hj hj'
  · intro j hj g hgj m hm
    have hold := h.old j hj g hgj m hm
    rcases hg with ⟨hg1, hg2, hg3⟩ | ⟨hg1, _⟩
    · by_cases hgk' : some g = ws[k].ownBlock
      · have hjk : j = k := by
          rcases h.moved k hk hkv with hm2 | ⟨g', h1, h2⟩
          · by_cases e' : j = k
            · exact e'
            · exfalso; exact h.apart j k hj hkv e' g hgj (by rw [← hm2, ← hgk'])
          · rw [h1] at hgk'
            have := h.lt j hj g hgj
            have := Option.some.inj hgk'
            omega
        subst hjk
        rw [← hgk'] at hg2
        have hc := ho2.cells hg2 m _ (marks_at mk j _ m (by omega))
        rw [Addr.add_lit] at hc
        simpa using hc
      · exact hg1.cell (a := ⟨g, m, none⟩) hold hgk'
    · exact hg1.cell (a := ⟨g, m, none⟩) hold (by simp)
  · have := h.gsown.kept hg.weak hgk
    rw [List.take_set_of_le (Nat.le_refl _)]
    exact this
  · exact (hg.weak.block L (Nat.lt_of_lt_of_le h.ltL h.hH) hwk).trans h.hL
  · exact h.below.grown hg.weak (Nat.le_trans h.hB h.hH) (fun j hj => ((h.fam.own k hk).lt j hj).1)

/-- List k is laid into the list of lists. -/
theorem Two.next {B H L : Nat} {w0 w w' : World} {e eT : TypeId} {mk : Nat → Nat → Value} {vs : List Value} {n : Nat → Nat} {k : Nat} {ws : List Value} {gs gs' : Value} (h : Two B H L w0 e eT mk vs n k 64 ws gs w) (hne : e ≠ eT) (hk : k < ws.length)
    (hg : w.grownBy w' gs.ownBlock) (hown : w'.ownsRow H eT 1 gs' (k + 1) (ws.take k ++ [ws[k]])) : Two B H L w0 e eT mk vs n (k + 1) 0 ws gs' w' := by
  refine { fam := ?_, len := h.len, rest := fun j hj hj' hkj => h.rest j hj hj' (.inl (by omega)), moved := h.moved, lt := h.lt, apart := h.apart, shape := h.shape, old := ?_, gsown := ?_, hL := ?_, ltL := h.ltL, hH := Nat.le_trans h.hH hg.size, hB := h.hB, below := ?_ }
  · refine (h.fam.kept hg fun j hj => own_ne (h.fam.own j hj) h.gsown hne).congr fun j _ => ?_
    unfold upTo
    by_cases h1 : j < k
    · rw [if_pos h1, if_pos (by omega)]
    · rw [if_neg h1]
      by_cases h2 : j = k
      · rw [if_pos h2, if_pos (by omega)]
      · rw [if_neg h2, if_neg (by omega)]; split <;> simp
  · intro j hj g hgj m hm
    exact hg.cell (a := ⟨g, m, none⟩) (h.old j hj g hgj m hm) (fun e' => by
      have := h.lt j hj g hgj
      have := (h.gsown.lt g e'.symm).1
      omega)
  · rw [List.take_succ_eq_append_getElem hk]; exact hown
  · exact (hg.block L (Nat.lt_of_lt_of_le h.ltL h.hH) (fun e' => by have := (h.gsown.lt L e'.symm).1; have := h.ltL; omega)).trans h.hL
  · exact h.below.grown hg (Nat.le_trans h.hB h.hH) (fun j hj => Nat.le_trans h.hB (h.gsown.lt j hj).1)

/-- At the end: the list k of the new ones, read. -/
theorem Two.read {B H L : Nat} {w0 w : World} {e eT : TypeId} {mk : Nat → Nat → Value} {vs : List Value} {n : Nat → Nat} {ws : List Value} {gs : Value} (h : Two B H L w0 e eT mk vs n vs.length 0 ws gs w) {k : Nat} (hk : k < vs.length) :
    (∃ g cap, gs = .slice (some ⟨g, 0, none⟩) vs.length cap ∧ ∃ gk capk, w.cell? ⟨g, k, none⟩ = some (.slice (some ⟨gk, 0, none⟩) (n k + 64) capk) ∧ ∀ m, m < n k + 64 → w.cell? ⟨gk, m, none⟩ = some (mk k m)) ∧
      w.cell? ⟨L, k, none⟩ = some vs[k] := by
  have hkw : k < ws.length := by rw [h.len]; exact hk
  constructor
  · obtain ⟨g, cap, h1, _, _, _, _, h6⟩ := Ut.own_cells h.gsown (by omega)
    have hz : upTo n vs.length 0 k = n k + 64 := by unfold upTo; rw [if_pos hk]
    obtain ⟨gk, capk, e1, _, _, _, _, e6, _⟩ := h.fam.slice hkw (by rw [marks_len, hz]; omega)
    simp only [marks_len, hz] at e1 e6
    refine ⟨g, cap, h1, gk, capk, ?_, fun m hm => (e6 m hm).trans (marks_at mk k _ m hm)⟩
    rw [h6 k hk, List.getElem?_take, if_pos hk, List.getElem?_eq_getElem hkw, e1]
  · simp only [World.cell?, h.hL]
    simp [hk]

end Go.Proofs.YtgneebidmhiagaaDoor
