/- One's block in the order is the walk from it; the walk does not depend on the fuel. No program's code. -/
import Derived.Test.YtocoonkachbjaaaVwForest
namespace Go.Proofs.Ytocoonkachbjaaa
set_option linter.unusedVariables false
namespace Vt

theorem pre_fuel (kids : Nat → List Nat) (N : Nat) (hk : ∀ i, ∀ j ∈ kids i, i < j ∧ j ≤ N) : ∀ (f g far : Nat) (l : List Nat), (∀ i ∈ l, i ≤ N ∧ N < f + i ∧ N < g + i) → pre kids f far l = pre kids g far l
  | 0, g, far, l, h => by
    cases l with
    | nil => rw [pre_nil, pre_nil]
    | cons i l => have := h i List.mem_cons_self; omega
  | f + 1, 0, far, l, h => by
    cases l with
    | nil => rw [pre_nil, pre_nil]
    | cons i l => have := h i List.mem_cons_self; omega
  | f + 1, g + 1, far, [], h => rfl
  | f + 1, g + 1, far, i :: l, h => by
    have hi := h i List.mem_cons_self
    rw [pre_cons, pre_cons, pre_fuel kids N hk f g (far + 1) (kids i) (fun j hj => by have := hk i j hj; omega), pre_fuel kids N hk (f + 1) (g + 1) far l (fun j hj => h j (List.mem_cons_of_mem _ hj))]
theorem pre_shift (kids : Nat → List Nat) (k : Nat) : ∀ (f far : Nat) (l : List Nat), pre kids f (far + k) l = (pre kids f far l).map (fun y => (y.1 + k, y.2))
  | 0, far, l => rfl
  | f + 1, far, [] => rfl
  | f + 1, far, i :: l => by
    rw [pre_cons, pre_cons, show far + k + 1 = far + 1 + k by omega, pre_shift kids k f (far + 1) (kids i), pre_shift kids k (f + 1) far l]
    simp

/-- One and its block, how far below it. -/
def blk (p : Nat) : List (Nat × Nat) → List (Nat × Nat)
  | [] => []
  | x :: r => if x.2 = p then (0, p) :: (r.takeWhile (fun y => decide (x.1 < y.1))).map (fun y => (y.1 - x.1, y.2)) else blk p r
theorem blk_skip (p : Nat) : ∀ (a b : List (Nat × Nat)), (∀ x ∈ a, x.2 ≠ p) → blk p (a ++ b) = blk p b
  | [], b, h => rfl
  | x :: a, b, h => by
    rw [List.cons_append, blk, if_neg (h x List.mem_cons_self)]
    exact blk_skip p a b (fun y hy => h y (List.mem_cons_of_mem _ hy))
theorem blk_left (p far : Nat) : ∀ (a b : List (Nat × Nat)), (∃ x ∈ a, x.2 = p) → (∀ x ∈ a, far < x.1) → (∀ x, b.head? = some x → x.1 ≤ far) → blk p (a ++ b) = blk p a
  | [], b, h, _, _ => by obtain ⟨x, hx, _⟩ := h; cases hx
  | x :: a, b, h, hf, hb => by
    rw [List.cons_append]
    by_cases e : x.2 = p
    · have hs := takeWhile_stop (fun y : Nat × Nat => decide (x.1 < y.1)) a b (fun y hy => by
        have h1 := hb y hy; have h2 := hf x List.mem_cons_self
        exact decide_eq_false (by omega))
      rw [blk, blk, if_pos e, if_pos e, hs.1]
    · rw [blk, blk, if_neg e, if_neg e]
      refine blk_left p far a b ?_ (fun y hy => hf y (List.mem_cons_of_mem _ hy)) hb
      obtain ⟨y, hy, e2⟩ := h
      rcases List.mem_cons.1 hy with rfl | hy
      · exact absurd e2 e
      · exact ⟨y, hy, e2⟩
theorem blk_pre (kids : Nat → List Nat) (p N : Nat) (hk : ∀ i, ∀ j ∈ kids i, i < j ∧ j ≤ N) : ∀ (f far : Nat) (l : List Nat), (∀ i ∈ l, i ≤ N ∧ N < f + i) → ((pre kids f far l).map (·.2)).Nodup → (∃ x ∈ pre kids f far l, x.2 = p) →
    blk p (pre kids f far l) = pre kids (N + 1) 0 [p]
  | 0, far, l, _, _, h => by obtain ⟨x, hx, _⟩ := h; simp [pre] at hx
  | f + 1, far, [], _, _, h => by obtain ⟨x, hx, _⟩ := h; simp [pre] at hx
  | f + 1, far, i :: l, hf, hd, h => by
    rw [pre_cons] at hd h
    rw [List.map_cons, List.nodup_cons, List.map_append, List.nodup_append] at hd
    obtain ⟨d1, d2, d3, d4⟩ := hd
    have hfi := hf i List.mem_cons_self
    by_cases e : i = p
    · subst e
      rw [pre_cons, blk, if_pos rfl, pre_cons, pre_nil, List.append_nil]
      have hs := takeWhile_stop (fun y : Nat × Nat => decide (far < y.1)) (pre kids f (far + 1) (kids i)) (pre kids (f + 1) far l) (fun y hy => by
        have h1 := pre_head kids _ _ _ y hy
        exact decide_eq_false (by omega))
      have ht : ∀ x ∈ pre kids f (far + 1) (kids i), decide (far < x.1) = true := fun x hx => decide_eq_true (by have := pre_far kids _ _ _ x hx; omega)
      simp only
      rw [hs.1, (tw_all _ _ ht).1, show far + 1 = 0 + 1 + far by omega, pre_shift kids far f (0 + 1) (kids i), List.map_map]
      have hid : ((fun y : Nat × Nat => (y.1 - far, y.2)) ∘ fun y : Nat × Nat => (y.1 + far, y.2)) = id := by
        funext y; simp
      rw [hid, List.map_id, pre_fuel kids N hk f N (0 + 1) (kids i) (fun j hj => by have := hk i j hj; omega)]
    · rw [pre_cons, blk, if_neg e]
      obtain ⟨x, hx, ex⟩ := h
      rw [List.mem_cons, List.mem_append] at hx
      rcases hx with rfl | hx | hx
      · exact absurd ex e
      · rw [blk_left p far _ _ ⟨x, hx, ex⟩ (fun y hy => by have := pre_far kids _ _ _ y hy; omega) (fun y hy => by have := pre_head kids _ _ _ y hy; omega)]
        exact blk_pre kids p N hk f (far + 1) (kids i) (fun j hj => by have := hk i j hj; omega) d2 ⟨x, hx, ex⟩
      · have n1 : ∀ y ∈ pre kids f (far + 1) (kids i), y.2 ≠ p := fun y hy e2 => d4 p (List.mem_map.2 ⟨y, hy, e2⟩) p (List.mem_map.2 ⟨x, hx, ex⟩) rfl
        rw [blk_skip p _ _ n1]
        exact blk_pre kids p N hk (f + 1) far l (fun j hj => hf j (List.mem_cons_of_mem _ hj)) d3 ⟨x, hx, ex⟩

theorem roots_lt (l : List (Int × Int)) : ∀ n, ∀ i ∈ roots l n, i < n
  | 0, i, h => by cases h
  | n + 1, i, h => by
    cases hp : par l n with
    | none =>
      simp only [roots, hp, List.mem_append, List.mem_singleton] at h
      rcases h with h | rfl
      · have := roots_lt l n i h; omega
      · omega
    | some p =>
      simp only [roots, hp] at h
      have := roots_lt l n i h; omega
theorem roots_par (l : List (Int × Int)) : ∀ n j, j ∈ roots l n ↔ j < n ∧ par l j = none
  | 0, j => by simp [roots]
  | n + 1, j => by
    have ih := roots_par l n j
    cases hp : par l n with
    | none =>
      simp only [roots, hp, List.mem_append, List.mem_singleton, ih]
      constructor
      · rintro (⟨h1, h2⟩ | rfl)
        · exact ⟨by omega, h2⟩
        · exact ⟨by omega, hp⟩
      · rintro ⟨h1, h2⟩
        rcases Nat.lt_or_ge j n with h | h
        · exact .inl ⟨h, h2⟩
        · exact .inr (by omega)
    | some p =>
      simp only [roots, hp, ih]
      constructor
      · rintro ⟨h1, h2⟩; exact ⟨by omega, h2⟩
      · rintro ⟨h1, h2⟩
        refine ⟨?_, h2⟩
        rcases Nat.lt_or_ge j n with h | h
        · exact h
        · have e : j = n := by omega
          rw [e, hp] at h2; cases h2
/-- The document's Pre is the walk from one. -/
theorem ord_blk (l : List (Int × Int)) (n p : Nat) (h : p < n) : blk p (ordL l n) = pre (kidsN l n) (n + 1) 0 [p] := by
  have ho := ord_pre l n (n + 1) (by omega) n (Nat.le_refl _)
  have hm := ord_mem (l := l) h
  have hd := ord_nodup l n
  rw [ho] at hm hd ⊢
  exact blk_pre (kidsN l n) p n (fun i j hj => by have := kids_up l n i j hj; omega) (n + 1) 0 (roots l n) (fun i hi => by have := roots_lt l n i hi; omega) hd hm
end Vt
end Go.Proofs.Ytocoonkachbjaaa
