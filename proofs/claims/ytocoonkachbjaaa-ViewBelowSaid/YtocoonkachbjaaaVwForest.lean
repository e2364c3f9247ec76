/- The forest of sessions told by births: parents by their places, the order as the document inserts it, and the walk over children. No program's code. -/
import Derived.Test.YtocoonkachbjaaaVwTree
namespace Go.Proofs.Ytocoonkachbjaaa
set_option linter.unusedVariables false
namespace Vt

/-- The last place ahead of one with this birth number. -/
def lastTo (l : List (Int × Int)) (up : Int) : Nat → Option Nat
  | 0 => none
  | k + 1 => if (l[k]?).map (·.1) = some up then some k else lastTo l up k
theorem lastTo_lt (l : List (Int × Int)) (up : Int) : ∀ (n k : Nat), lastTo l up n = some k → k < n
  | 0, k, h => by cases h
  | n + 1, k, h => by
    unfold lastTo at h
    split at h
    · cases h; omega
    · have := lastTo_lt l up n k h; omega
/-- A session's parent's place. -/
def par (l : List (Int × Int)) (n : Nat) : Option Nat := match l[n]? with
  | none => none
  | some x => if x.2 = 0 then none else lastTo l x.2 n
theorem par_lt {l : List (Int × Int)} {n p : Nat} (h : par l n = some p) : p < n := by
  unfold par at h
  split at h
  · cases h
  · split at h
    · cases h
    · exact lastTo_lt _ _ _ _ h
def roots (l : List (Int × Int)) : Nat → List Nat
  | 0 => []
  | n + 1 => match par l n with
    | none => roots l n ++ [n]
    | some _ => roots l n
def kidsN (l : List (Int × Int)) : Nat → Nat → List Nat
  | 0 => fun _ => []
  | n + 1 => match par l n with
    | none => kidsN l n
    | some p => more (kidsN l n) p n
def depth (l : List (Int × Int)) : Nat → Nat → Nat
  | 0, _ => 0
  | f + 1, n => match par l n with
    | none => 0
    | some p => depth l f p + 1
/-- The order, each with how far below a root it is. -/
def ordL (l : List (Int × Int)) : Nat → List (Nat × Nat)
  | 0 => []
  | n + 1 => match par l n with
    | none => ordL l n ++ [(0, n)]
    | some p => ins p n (ordL l n)

theorem ins_perm (p n : Nat) : ∀ (o : List (Nat × Nat)), (∃ x ∈ o, x.2 = p) → ((ins p n o).map (·.2)).Perm (n :: o.map (·.2))
  | [], h => by obtain ⟨x, hx, _⟩ := h; cases hx
  | x :: r, h => by
    unfold ins
    by_cases e : x.2 = p
    · rw [if_pos e]
      have h1 : (r.takeWhile (fun y => decide (x.1 < y.1)) ++ r.dropWhile (fun y => decide (x.1 < y.1))) = r := List.takeWhile_append_dropWhile
      have h2 : ((r.takeWhile (fun y => decide (x.1 < y.1)) ++ (x.1 + 1, n) :: r.dropWhile (fun y => decide (x.1 < y.1))).map (·.2)).Perm (n :: r.map (·.2)) := by
        have h3 := (List.perm_middle (a := (x.1 + 1, n)) (l₁ := r.takeWhile (fun y => decide (x.1 < y.1))) (l₂ := r.dropWhile (fun y => decide (x.1 < y.1)))).map (·.2)
        rw [h1] at h3
        exact h3
      exact (List.Perm.cons _ h2).trans (List.Perm.swap _ _ _)
    · rw [if_neg e]
      obtain ⟨y, hy, e2⟩ := h
      rcases List.mem_cons.1 hy with rfl | hy
      · exact absurd e2 e
      · exact (List.Perm.cons _ (ins_perm p n r ⟨y, hy, e2⟩)).trans (List.Perm.swap _ _ _)

theorem ord_perm (l : List (Int × Int)) : ∀ n, ((ordL l n).map (·.2)).Perm (List.range n)
  | 0 => List.Perm.refl _
  | n + 1 => by
    have ih := ord_perm l n
    rw [List.range_succ]
    unfold ordL
    split
    · rw [List.map_append]
      exact ih.append_right _
    · rename_i p hp
      have hlt := par_lt hp
      have hm : ∃ x ∈ ordL l n, x.2 = p := by
        have h1 : p ∈ (ordL l n).map (·.2) := ih.mem_iff.2 (List.mem_range.2 hlt)
        obtain ⟨x, hx, e⟩ := List.mem_map.1 h1
        exact ⟨x, hx, e⟩
      exact ((ins_perm p n _ hm).trans (List.Perm.cons _ ih)).trans (List.perm_append_comm (l₁ := [n]) (l₂ := List.range n))
theorem ord_mem {l : List (Int × Int)} {n p : Nat} (h : p < n) : ∃ x ∈ ordL l n, x.2 = p := by
  have h1 : p ∈ (ordL l n).map (·.2) := (ord_perm l n).mem_iff.2 (List.mem_range.2 h)
  obtain ⟨x, hx, e⟩ := List.mem_map.1 h1
  exact ⟨x, hx, e⟩
theorem ord_nodup (l : List (Int × Int)) (n : Nat) : ((ordL l n).map (·.2)).Nodup := (ord_perm l n).nodup_iff.2 List.nodup_range
theorem ord_len (l : List (Int × Int)) (n : Nat) : (ordL l n).length = n := by
  have := (ord_perm l n).length_eq
  simpa using this

theorem kidsN_none {l : List (Int × Int)} {n : Nat} (h : par l n = none) : kidsN l (n + 1) = kidsN l n := by simp only [kidsN, h]
theorem kidsN_some {l : List (Int × Int)} {n p : Nat} (h : par l n = some p) : kidsN l (n + 1) = more (kidsN l n) p n := by simp only [kidsN, h]
theorem kids_up (l : List (Int × Int)) : ∀ n i, ∀ j ∈ kidsN l n i, i < j ∧ j < n
  | 0, i, j, h => by simp [kidsN] at h
  | n + 1, i, j, h => by
    cases hp : par l n with
    | none =>
      rw [kidsN_none hp] at h
      have := kids_up l n i j h; omega
    | some p =>
      rw [kidsN_some hp] at h
      have hlt := par_lt hp
      unfold more at h
      by_cases e : i = p
      · rw [if_pos e] at h
        subst e
        rw [List.mem_append] at h
        rcases h with h | h
        · have := kids_up l n i j h; omega
        · simp at h; omega
      · rw [if_neg e] at h
        have := kids_up l n i j h; omega
theorem kids_new (l : List (Int × Int)) (n : Nat) : kidsN l n n = [] := by
  cases h : kidsN l n n with
  | nil => rfl
  | cons j r =>
    have := kids_up l n n j (by rw [h]; exact List.mem_cons_self)
    omega

/-- The document's order is the walk over children. -/
theorem ord_pre (l : List (Int × Int)) (N f : Nat) (hf : N < f) : ∀ n, n ≤ N → ordL l n = pre (kidsN l n) f 0 (roots l n)
  | 0, _ => by rw [show roots l 0 = [] from rfl, pre_nil]; rfl
  | n + 1, h => by
    have ih := ord_pre l N f hf n (by omega)
    unfold ordL roots kidsN
    cases hp : par l n with
    | none =>
      simp only
      rw [pre_append, ih]
      obtain ⟨f', rfl⟩ : ∃ f', f = f' + 1 := ⟨f - 1, by omega⟩
      rw [pre_cons (l := []), kids_new, pre_nil, pre_nil]
      rfl
    | some p =>
      simp only
      have hm := ord_mem (l := l) (par_lt hp)
      have hd := ord_nodup l n
      rw [ih] at hm hd
      rw [pre_more (kidsN l n) p n N (par_lt hp) (by omega) (fun i j hj => (kids_up l n i j hj).1) (kids_new l n) f 0 (roots l n) (fun i _ => by omega) hd hm, ih]
theorem kids_par (l : List (Int × Int)) : ∀ n i j, j ∈ kidsN l n i ↔ j < n ∧ par l j = some i
  | 0, i, j => by simp [kidsN]
  | n + 1, i, j => by
    have ih := kids_par l n i j
    cases hp : par l n with
    | none =>
      rw [kidsN_none hp, ih]
      constructor
      · rintro ⟨h1, h2⟩; exact ⟨by omega, h2⟩
      · rintro ⟨h1, h2⟩
        refine ⟨?_, h2⟩
        rcases Nat.lt_or_ge j n with h | h
        · exact h
        · have e : j = n := by omega
          rw [e, hp] at h2; cases h2
    | some p =>
      rw [kidsN_some hp]
      unfold more
      by_cases e : i = p
      · rw [if_pos e, ← e, List.mem_append, ih]
        constructor
        · rintro (⟨h1, h2⟩ | h)
          · exact ⟨by omega, h2⟩
          · have e2 : j = n := by simpa using h
            rw [e2, hp, e]; exact ⟨by omega, rfl⟩
        · rintro ⟨h1, h2⟩
          rcases Nat.lt_or_ge j n with h | h
          · exact .inl ⟨h, h2⟩
          · have e2 : j = n := by omega
            exact .inr (by simp [e2])
      · rw [if_neg e, ih]
        constructor
        · rintro ⟨h1, h2⟩; exact ⟨by omega, h2⟩
        · rintro ⟨h1, h2⟩
          refine ⟨?_, h2⟩
          rcases Nat.lt_or_ge j n with h | h
          · exact h
          · have e2 : j = n := by omega
            rw [e2, hp] at h2; cases h2; exact absurd rfl e
theorem depth_fuel (l : List (Int × Int)) : ∀ (f g n : Nat), n < f → n < g → depth l f n = depth l g n
  | 0, g, n, h, _ => by omega
  | f + 1, 0, n, _, h => by omega
  | f + 1, g + 1, n, h1, h2 => by
    cases hp : par l n with
    | none => simp only [depth, hp]
    | some p =>
      have := par_lt hp
      simp only [depth, hp]
      rw [depth_fuel l f g p (by omega) (by omega)]
/-- How deep one is. -/
def dep (l : List (Int × Int)) (n : Nat) : Nat := depth l (n + 1) n
theorem dep_none {l : List (Int × Int)} {n : Nat} (h : par l n = none) : dep l n = 0 := by simp only [dep, depth, h]
theorem dep_some {l : List (Int × Int)} {n p : Nat} (h : par l n = some p) : dep l n = dep l p + 1 := by
  have := par_lt h
  have e : dep l n = depth l n p + 1 := by unfold dep; simp only [depth, h]
  rw [e, dep, depth_fuel l n (p + 1) p this (by omega)]
theorem ins_mem (p n : Nat) : ∀ (o : List (Nat × Nat)) (y : Nat × Nat), y ∈ ins p n o → y ∈ o ∨ ∃ x ∈ o, x.2 = p ∧ y = (x.1 + 1, n)
  | [], y, h => by cases h
  | x :: r, y, h => by
    unfold ins at h
    by_cases e : x.2 = p
    · rw [if_pos e, List.mem_cons, List.mem_append, List.mem_cons] at h
      rcases h with rfl | h | rfl | h
      · exact .inl List.mem_cons_self
      · exact .inl (List.mem_cons_of_mem _ ((List.takeWhile_sublist _).subset h))
      · exact .inr ⟨x, List.mem_cons_self, e, rfl⟩
      · exact .inl (List.mem_cons_of_mem _ ((List.dropWhile_sublist _).subset h))
    · rw [if_neg e, List.mem_cons] at h
      rcases h with rfl | h
      · exact .inl List.mem_cons_self
      · rcases ins_mem p n r y h with h | ⟨z, h1, h2⟩
        · exact .inl (List.mem_cons_of_mem _ h)
        · exact .inr ⟨z, List.mem_cons_of_mem _ h1, h2⟩
theorem ord_dep (l : List (Int × Int)) : ∀ n, ∀ x ∈ ordL l n, x.1 = dep l x.2
  | 0, x, h => by cases h
  | n + 1, x, h => by
    cases hp : par l n with
    | none =>
      simp only [ordL, hp, List.mem_append, List.mem_singleton] at h
      rcases h with h | rfl
      · exact ord_dep l n x h
      · exact (dep_none hp).symm
    | some p =>
      simp only [ordL, hp] at h
      rcases ins_mem p n _ x h with h | ⟨y, h1, h2, rfl⟩
      · exact ord_dep l n x h
      · show y.1 + 1 = dep l n
        rw [dep_some hp, ord_dep l n y h1, h2]
end Vt
end Go.Proofs.Ytocoonkachbjaaa
