/- Preorders of forests whose children stand behind their parents: a new last child is set behind its parent's block. No program's code. -/
import Derived.RowKit
namespace Go.Proofs.Ytocoonkachbjaaa
set_option linter.unusedVariables false
namespace Vt

/-- How far below, and which: of those of a list and all below them. -/
def pre (kids : Nat → List Nat) : Nat → Nat → List Nat → List (Nat × Nat)
  | 0, _, _ => []
  | f + 1, far, l => l.flatMap fun i => (far, i) :: pre kids f (far + 1) (kids i)

theorem pre_nil (kids : Nat → List Nat) (f far : Nat) : pre kids f far [] = [] := by cases f <;> rfl
theorem pre_cons (kids : Nat → List Nat) (f far i : Nat) (l : List Nat) : pre kids (f + 1) far (i :: l) = (far, i) :: (pre kids f (far + 1) (kids i) ++ pre kids (f + 1) far l) := by
  simp [pre]
theorem pre_append (kids : Nat → List Nat) (f far : Nat) (a b : List Nat) : pre kids f far (a ++ b) = pre kids f far a ++ pre kids f far b := by
  cases f with
  | zero => rfl
  | succ f => simp [pre]
theorem pre_far (kids : Nat → List Nat) : ∀ (f far : Nat) (l : List Nat) (x : Nat × Nat), x ∈ pre kids f far l → far ≤ x.1
  | 0, far, l, x, h => by simp [pre] at h
  | f + 1, far, [], x, h => by simp [pre] at h
  | f + 1, far, i :: l, x, h => by
    rw [pre_cons, List.mem_cons, List.mem_append] at h
    rcases h with rfl | h | h
    · exact Nat.le_refl _
    · exact Nat.le_of_succ_le (pre_far kids f (far + 1) _ x h)
    · exact pre_far kids (f + 1) far l x h
theorem pre_head (kids : Nat → List Nat) : ∀ (f far : Nat) (l : List Nat) (x : Nat × Nat), (pre kids f far l).head? = some x → x.1 = far
  | 0, far, l, x, h => by simp [pre] at h
  | f + 1, far, [], x, h => by simp [pre] at h
  | f + 1, far, i :: l, x, h => by
    rw [pre_cons] at h
    cases h; rfl

/-- A new one behind one's block. -/
def ins (p n : Nat) : List (Nat × Nat) → List (Nat × Nat)
  | [] => []
  | x :: r => if x.2 = p then x :: (r.takeWhile (fun y => decide (x.1 < y.1)) ++ (x.1 + 1, n) :: r.dropWhile (fun y => decide (x.1 < y.1))) else x :: ins p n r

theorem ins_skip (p n : Nat) : ∀ (a b : List (Nat × Nat)), (∀ x ∈ a, x.2 ≠ p) → ins p n (a ++ b) = a ++ ins p n b
  | [], b, h => rfl
  | x :: a, b, h => by
    rw [List.cons_append, ins, if_neg (h x List.mem_cons_self), ins_skip p n a b (fun y hy => h y (List.mem_cons_of_mem _ hy))]
    rfl
theorem takeWhile_stop {α : Type} (q : α → Bool) : ∀ (a b : List α), (∀ x, b.head? = some x → q x = false) → (a ++ b).takeWhile q = a.takeWhile q ∧ (a ++ b).dropWhile q = a.dropWhile q ++ b
  | [], [], h => ⟨rfl, rfl⟩
  | [], x :: b, h => by
    have := h x rfl
    constructor
    · simp [List.takeWhile, this]
    · simp [List.dropWhile, this]
  | x :: a, b, h => by
    obtain ⟨h1, h2⟩ := takeWhile_stop q a b h
    cases hx : q x with
    | false => simp [List.takeWhile, List.dropWhile, hx]
    | true => simp [List.takeWhile, List.dropWhile, hx, h1, h2]
theorem tw_all {α : Type} (q : α → Bool) : ∀ (a : List α), (∀ x ∈ a, q x = true) → a.takeWhile q = a ∧ a.dropWhile q = []
  | [], h => ⟨rfl, rfl⟩
  | x :: a, h => by
    obtain ⟨h1, h2⟩ := tw_all q a (fun y hy => h y (List.mem_cons_of_mem _ hy))
    have hx := h x List.mem_cons_self
    simp [List.takeWhile, List.dropWhile, hx, h1, h2]
theorem ins_left (p n far : Nat) : ∀ (a b : List (Nat × Nat)), (∃ x ∈ a, x.2 = p) → (∀ x ∈ a, far < x.1) → (∀ x, b.head? = some x → x.1 ≤ far) → ins p n (a ++ b) = ins p n a ++ b
  | [], b, h, _, _ => by obtain ⟨x, hx, _⟩ := h; cases hx
  | x :: a, b, h, hf, hb => by
    rw [List.cons_append]
    by_cases e : x.2 = p
    · have hs := takeWhile_stop (fun y : Nat × Nat => decide (x.1 < y.1)) a b (fun y hy => by
        have h1 := hb y hy; have h2 := hf x List.mem_cons_self
        exact decide_eq_false (by omega))
      rw [ins, ins, if_pos e, if_pos e, hs.1, hs.2]
      simp
    · rw [ins, ins, if_neg e, if_neg e, ins_left p n far a b ?_ (fun y hy => hf y (List.mem_cons_of_mem _ hy)) hb]
      · rfl
      · obtain ⟨y, hy, e2⟩ := h
        rcases List.mem_cons.1 hy with rfl | hy
        · exact absurd e2 e
        · exact ⟨y, hy, e2⟩

/-- One more child. -/
def more (kids : Nat → List Nat) (p n : Nat) : Nat → List Nat := fun i => if i = p then kids p ++ [n] else kids i

theorem pre_more_none (kids : Nat → List Nat) (p n : Nat) : ∀ (f far : Nat) (l : List Nat), (∀ x ∈ pre kids f far l, x.2 ≠ p) → pre (more kids p n) f far l = pre kids f far l
  | 0, far, l, h => rfl
  | f + 1, far, [], h => rfl
  | f + 1, far, i :: l, h => by
    rw [pre_cons] at h
    have hi : i ≠ p := h (far, i) List.mem_cons_self
    have e : more kids p n i = kids i := if_neg hi
    rw [pre_cons, pre_cons, e, pre_more_none kids p n f (far + 1) (kids i) (fun x hx => h x (List.mem_cons_of_mem _ (List.mem_append_left _ hx))),
      pre_more_none kids p n (f + 1) far l (fun x hx => h x (List.mem_cons_of_mem _ (List.mem_append_right _ hx)))]

/-- The new child stands behind its parent's block. -/
theorem pre_more (kids : Nat → List Nat) (p n N : Nat) (hpn : p < n) (hnN : n ≤ N) (hup : ∀ i, ∀ j ∈ kids i, i < j) (hn : kids n = []) : ∀ (f far : Nat) (l : List Nat), (∀ i ∈ l, N < f + i) → ((pre kids f far l).map (·.2)).Nodup → (∃ x ∈ pre kids f far l, x.2 = p) →
    pre (more kids p n) f far l = ins p n (pre kids f far l)
  | 0, far, l, _, _, h => by obtain ⟨x, hx, _⟩ := h; simp [pre] at hx
  | f + 1, far, [], _, _, h => by obtain ⟨x, hx, _⟩ := h; simp [pre] at hx
  | f + 1, far, i :: l, hf, hd, h => by
    rw [pre_cons] at hd h
    rw [List.map_cons, List.nodup_cons, List.map_append, List.nodup_append] at hd
    obtain ⟨d1, d2, d3, d4⟩ := hd
    have hfi := hf i List.mem_cons_self
    by_cases e : i = p
    · subst e
      have n1 : ∀ x ∈ pre kids f (far + 1) (kids i), x.2 ≠ i := fun x hx e => d1 (by rw [List.mem_append]; exact .inl (List.mem_map.2 ⟨x, hx, e⟩))
      have n2 : ∀ x ∈ pre kids (f + 1) far l, x.2 ≠ i := fun x hx e => d1 (by rw [List.mem_append]; exact .inr (List.mem_map.2 ⟨x, hx, e⟩))
      have em : more kids i n i = kids i ++ [n] := if_pos rfl
      have en : more kids i n n = [] := by unfold more; rw [if_neg (by omega), hn]
      obtain ⟨f', rfl⟩ : ∃ f', f = f' + 1 := ⟨f - 1, by omega⟩
      rw [pre_cons, em, pre_append, pre_more_none kids i n (f' + 1) (far + 1) (kids i) n1, pre_more_none kids i n (f' + 1 + 1) far l n2, pre_cons, en, pre_nil, pre_nil]
      rw [pre_cons, ins, if_pos rfl]
      have hs := takeWhile_stop (fun y : Nat × Nat => decide (far < y.1)) (pre kids (f' + 1) (far + 1) (kids i)) (pre kids (f' + 1 + 1) far l) (fun y hy => by
        have h1 := pre_head kids _ _ _ y hy
        exact decide_eq_false (by omega))
      have ht : ∀ x ∈ pre kids (f' + 1) (far + 1) (kids i), decide (far < x.1) = true := fun x hx => decide_eq_true (by have := pre_far kids _ _ _ x hx; omega)
      have t1 : (pre kids (f' + 1) (far + 1) (kids i)).takeWhile (fun y => decide (far < y.1)) = pre kids (f' + 1) (far + 1) (kids i) := (tw_all _ _ ht).1
      have t2 : (pre kids (f' + 1) (far + 1) (kids i)).dropWhile (fun y => decide (far < y.1)) = [] := (tw_all _ _ ht).2
      simp only
      rw [hs.1, hs.2, t1, t2]
      simp
    · have em : more kids p n i = kids i := if_neg e
      rw [pre_cons, em, pre_cons, ins, if_neg e]
      obtain ⟨x, hx, ex⟩ := h
      rw [List.mem_cons, List.mem_append] at hx
      rcases hx with rfl | hx | hx
      · exact absurd ex e
      · have n2 : ∀ y ∈ pre kids (f + 1) far l, y.2 ≠ p := fun y hy e2 => d4 p (List.mem_map.2 ⟨x, hx, ex⟩) p (List.mem_map.2 ⟨y, hy, e2⟩) rfl
        rw [pre_more_none kids p n (f + 1) far l n2, pre_more kids p n N hpn hnN hup hn f (far + 1) (kids i) (fun j hj => by have := hup i j hj; omega) d2 ⟨x, hx, ex⟩,
          ins_left p n far _ _ ⟨x, hx, ex⟩ (fun y hy => by have := pre_far kids _ _ _ y hy; omega) (fun y hy => by have := pre_head kids _ _ _ y hy; omega)]
      · have n1 : ∀ y ∈ pre kids f (far + 1) (kids i), y.2 ≠ p := fun y hy e2 => d4 p (List.mem_map.2 ⟨y, hy, e2⟩) p (List.mem_map.2 ⟨x, hx, ex⟩) rfl
        rw [pre_more_none kids p n f (far + 1) (kids i) n1, pre_more kids p n N hpn hnN hup hn (f + 1) far l (fun j hj => hf j (List.mem_cons_of_mem _ hj)) d3 ⟨x, hx, ex⟩, ins_skip p n _ _ n1]
end Vt
end Go.Proofs.Ytocoonkachbjaaa
