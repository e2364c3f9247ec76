/- Several texts in one: what each proves its own first comment says. -/
import Derived.RowKit
import Derived.Test.YtocoonkachbjaaaGreatDoorM1
import Derived.Test.YtocoonkachbjaaaGreatDoorProg
import Derived.Test.YtocoonkachbjaaaGreatDoorM3
import Derived.BigQuiet
import Derived.Deep.QuietTactic
import Derived.Outline
import Derived.WalkLawsBesides
import Derived.WalkSpells
import Derived.Great.BuildSlice
import Derived.Deep.MidRow
import Derived.Deep.AppendLies
import Derived.WalkKit
import Derived.Laws.NewBlocks
import Derived.Test.YtocoonkachbjaaaGreatDoorM12
import Derived.Test.YtocoonkachbjaaaGreatDoorM8

/- Preorders of forests whose children stand behind their parents: a new last child is set behind its parent's block. No program's code. -/
namespace Go.Proofs.YtocoonkachbjaaaGreatDoor
set_option linter.unusedVariables false
namespace Vt

/-- How far below, and which: of those of a list and all below them. -/
def pre (kids : Nat → List Nat) : Nat → Nat → List Nat → List (Nat × Nat)
  | 0, _, _ => []
  | f + 1, far, l => l.flatMap fun i => (far, i) :: pre kids f (far + 1) (kids i)

theorem pre_nil (kids : Nat → List Nat) (f far : Nat) : pre kids f far [] = [] := by cases f <;> rfl
theorem pre_cons (kids : Nat → List Nat) (f far i : Nat) (l : List Nat) : pre kids (f + 1) far (i :: l) = (far, i) :: (pre kids f (far + 1) (kids i) ++ pre kids (f + 1) far l) := by
  simp [pre]
theorem pre_append (kids : Nat → List Nat) (f far : Nat) (a b : List Nat) : pre kids f far (a ++ b) = pre kids f far a ++ pre kids f far b := by
  cases f with
  | zero => rfl
  | succ f => simp [pre]
theorem pre_far (kids : Nat → List Nat) : ∀ (f far : Nat) (l : List Nat) (x : Nat × Nat), x ∈ pre kids f far l → far ≤ x.1
  | 0, far, l, x, h => by simp [pre] at h
  | f + 1, far, [], x, h => by simp [pre] at h
  | f + 1, far, i :: l, x, h => by
    rw [pre_cons, List.mem_cons, List.mem_append] at h
    rcases h with rfl | h | h
    · exact Nat.le_refl _
    · exact Nat.le_of_succ_le (pre_far kids f (far + 1) _ x h)
    · exact pre_far kids (f + 1) far l x h
theorem pre_head (kids : Nat → List Nat) : ∀ (f far : Nat) (l : List Nat) (x : Nat × Nat), (pre kids f far l).head? = some x → x.1 = far
  | 0, far, l, x, h => by simp [pre] at h
  | f + 1, far, [], x, h => by simp [pre] at h
  | f + 1, far, i :: l, x, h => by
    rw [pre_cons] at h
    cases h; rfl

/-- A new one behind one's block. -/
def ins (p n : Nat) : List (Nat × Nat) → List (Nat × Nat)
  | [] => []
  | x :: r => if x.2 = p then x :: (r.takeWhile (fun y => decide (x.1 < y.1)) ++ (x.1 + 1, n) :: r.dropWhile (fun y => decide (x.1 < y.1))) else x :: ins p n r

theorem ins_skip (p n : Nat) : ∀ (a b : List (Nat × Nat)), (∀ x ∈ a, x.2 ≠ p) → ins p n (a ++ b) = a ++ ins p n b
  | [], b, h => rfl
  | x :: a, b, h => by
    rw [List.cons_append, ins, if_neg (h x List.mem_cons_self), ins_skip p n a b (fun y hy => h y (List.mem_cons_of_mem _ hy))]
    rfl
theorem takeWhile_stop {α : Type} (q : α → Bool) : ∀ (a b : List α), (∀ x, b.head? = some x → q x = false) → (a ++ b).takeWhile q = a.takeWhile q ∧ (a ++ b).dropWhile q = a.dropWhile q ++ b
  | [], [], h => ⟨rfl, rfl⟩
  | [], x :: b, h => by
    have := h x rfl
    constructor
    · simp [List.takeWhile, this]
    · simp [List.dropWhile, this]
  | x :: a, b, h => by
    obtain ⟨h1, h2⟩ := takeWhile_stop q a b h
    cases hx : q x with
    | false => simp [List.takeWhile, List.dropWhile, hx]
    | true => simp [List.takeWhile, List.dropWhile, hx, h1, h2]
theorem tw_all {α : Type} (q : α → Bool) : ∀ (a : List α), (∀ x ∈ a, q x = true) → a.takeWhile q = a ∧ a.dropWhile q = []
  | [], h => ⟨rfl, rfl⟩
  | x :: a, h => by
    obtain ⟨h1, h2⟩ := tw_all q a (fun y hy => h y (List.mem_cons_of_mem _ hy))
    have hx := h x List.mem_cons_self
    simp [List.takeWhile, List.dropWhile, hx, h1, h2]
theorem ins_left (p n far : Nat) : ∀ (a b : List (Nat × Nat)), (∃ x ∈ a, x.2 = p) → (∀ x ∈ a, far < x.1) → (∀ x, b.head? = some x → x.1 ≤ far) → ins p n (a ++ b) = ins p n a ++ b
  | [], b, h, _, _ => by obtain ⟨x, hx, _⟩ := h; cases hx
  | x :: a, b, h, hf, hb => by
    rw [List.cons_append]
    by_cases e : x.2 = p
    · have hs := takeWhile_stop (fun y : Nat × Nat => decide (x.1 < y.1)) a b (fun y hy => by
        have h1 := hb y hy; have h2 := hf x List.mem_cons_self
        exact decide_eq_false (by omega))
      rw [ins, ins, if_pos e, if_pos e, hs.1, hs.2]
      simp
    · rw [ins, ins, if_neg e, if_neg e, ins_left p n far a b ?_ (fun y hy => hf y (List.mem_cons_of_mem _ hy)) hb]
      · rfl
      · obtain ⟨y, hy, e2⟩ := h
        rcases List.mem_cons.1 hy with rfl | hy
        · exact absurd e2 e
        · exact ⟨y, hy, e2⟩

/-- One more child. -/
def more (kids : Nat → List Nat) (p n : Nat) : Nat → List Nat := fun i => if i = p then kids p ++ [n] else kids i

theorem pre_more_none (kids : Nat → List Nat) (p n : Nat) : ∀ (f far : Nat) (l : List Nat), (∀ x ∈ pre kids f far l, x.2 ≠ p) → pre (more kids p n) f far l = pre kids f far l
  | 0, far, l, h => rfl
  | f + 1, far, [], h => rfl
  | f + 1, far, i :: l, h => by
    rw [pre_cons] at h
    have hi : i ≠ p := h (far, i) List.mem_cons_self
    have e : more kids p n i = kids i := if_neg hi
    rw [pre_cons, pre_cons, e, pre_more_none kids p n f (far + 1) (kids i) (fun x hx => h x (List.mem_cons_of_mem _ (List.mem_append_left _ hx))),
      pre_more_none kids p n (f + 1) far l (fun x hx => h x (List.mem_cons_of_mem _ (List.mem_append_right _ hx)))]

/-- The new child stands behind its parent's block. -/
theorem pre_more (kids : Nat → List Nat) (p n N : Nat) (hpn : p < n) (hnN : n ≤ N) (hup : ∀ i, ∀ j ∈ kids i, i < j) (hn : kids n = []) : ∀ (f far : Nat) (l : List Nat), (∀ i ∈ l, N < f + i) → ((pre kids f far l).map (·.2)).Nodup → (∃ x ∈ pre kids f far l, x.2 = p) →
    pre (more kids p n) f far l = ins p n (pre kids f far l)
  | 0, far, l, _, _, h => by obtain ⟨x, hx, _⟩ := h; simp [pre] at hx
  | f + 1, far, [], _, _, h => by obtain ⟨x, hx, _⟩ := h; simp [pre] at hx
  | f + 1, far, i :: l, hf, hd, h => by
    rw [pre_cons] at hd h
    rw [List.map_cons, List.nodup_cons, List.map_append, List.nodup_append] at hd
    obtain ⟨d1, d2, d3, d4⟩ := hd
    have hfi := hf i List.mem_cons_self
    by_cases e : i = p
    · subst e
      have n1 : ∀ x ∈ pre kids f (far + 1) (kids i), x.2 ≠ i := fun x hx e => d1 (by rw [List.mem_append]; exact .inl (List.mem_map.2 ⟨x, hx, e⟩))
      have n2 : ∀ x ∈ pre kids (f + 1) far l, x.2 ≠ i := fun x hx e => d1 (by rw [List.mem_append]; exact .inr (List.mem_map.2 ⟨x, hx, e⟩))
      have em : more kids i n i = kids i ++ [n] := if_pos rfl
      have en : more kids i n n = [] := by unfold more; rw [if_neg (by omega), hn]
      obtain ⟨f', rfl⟩ : ∃ f', f = f' + 1 := ⟨f - 1, by omega⟩
      rw [pre_cons, em, pre_append, pre_more_none kids i n (f' + 1) (far + 1) (kids i) n1, pre_more_none kids i n (f' + 1 + 1) far l n2, pre_cons, en, pre_nil, pre_nil]
      rw [pre_cons, ins, if_pos rfl]
      have hs := takeWhile_stop (fun y : Nat × Nat => decide (far < y.1)) (pre kids (f' + 1) (far + 1) (kids i)) (pre kids (f' + 1 + 1) far l) (fun y hy => by
        have h1 := pre_head kids _ _ _ y hy
        exact decide_eq_false (by omega))
      have ht : ∀ x ∈ pre kids (f' + 1) (far + 1) (kids i), decide (far < x.1) = true := fun x hx => decide_eq_true (by have := pre_far kids _ _ _ x hx; omega)
      have t1 : (pre kids (f' + 1) (far + 1) (kids i)).takeWhile (fun y => decide (far < y.1)) = pre kids (f' + 1) (far + 1) (kids i) := (tw_all _ _ ht).1
      have t2 : (pre kids (f' + 1) (far + 1) (kids i)).dropWhile (fun y => decide (far < y.1)) = [] := (tw_all _ _ ht).2
      simp only
      rw [hs.1, hs.2, t1, t2]
      simp
    · have em : more kids p n i = kids i := if_neg e
      rw [pre_cons, em, pre_cons, ins, if_neg e]
      obtain ⟨x, hx, ex⟩ := h
      rw [List.mem_cons, List.mem_append] at hx
      rcases hx with rfl | hx | hx
      · exact absurd ex e
      · have n2 : ∀ y ∈ pre kids (f + 1) far l, y.2 ≠ p := fun y hy e2 => d4 p (List.mem_map.2 ⟨x, hx, ex⟩) p (List.mem_map.2 ⟨y, hy, e2⟩) rfl
        rw [pre_more_none kids p n (f + 1) far l n2, pre_more kids p n N hpn hnN hup hn f (far + 1) (kids i) (fun j hj => by have := hup i j hj; omega) d2 ⟨x, hx, ex⟩,
          ins_left p n far _ _ ⟨x, hx, ex⟩ (fun y hy => by have := pre_far kids _ _ _ y hy; omega) (fun y hy => by have := pre_head kids _ _ _ y hy; omega)]
      · have n1 : ∀ y ∈ pre kids f (far + 1) (kids i), y.2 ≠ p := fun y hy e2 => d4 p (List.mem_map.2 ⟨y, hy, e2⟩) p (List.mem_map.2 ⟨x, hx, ex⟩) rfl
        rw [pre_more_none kids p n f (far + 1) (kids i) n1, pre_more kids p n N hpn hnN hup hn (f + 1) far l (fun j hj => hf j (List.mem_cons_of_mem _ hj)) d3 ⟨x, hx, ex⟩, ins_skip p n _ _ n1]
end Vt
end Go.Proofs.YtocoonkachbjaaaGreatDoor

/- The forest of sessions told by births: parents by their places, the order as the document inserts it, and the walk over children. No program's code. -/
namespace Go.Proofs.YtocoonkachbjaaaGreatDoor
set_option linter.unusedVariables false
namespace Vt

/-- The last place ahead of one with this birth number. -/
def lastTo (l : List (Int × Int)) (up : Int) : Nat → Option Nat
  | 0 => none
  | k + 1 => if (l[k]?).map (·.1) = some up then some k else lastTo l up k
theorem lastTo_lt (l : List (Int × Int)) (up : Int) : ∀ (n k : Nat), lastTo l up n = some k → k < n
  | 0, k, h => by cases h
  | n + 1, k, h => by
    unfold lastTo at h
    split at h
    · cases h; omega
    · have := lastTo_lt l up n k h; omega
/-- A session's parent's place. -/
def par (l : List (Int × Int)) (n : Nat) : Option Nat := match l[n]? with
  | none => none
  | some x => if x.2 = 0 then none else lastTo l x.2 n
theorem par_lt {l : List (Int × Int)} {n p : Nat} (h : par l n = some p) : p < n := by
  unfold par at h
  split at h
  · cases h
  · split at h
    · cases h
    · exact lastTo_lt _ _ _ _ h
def roots (l : List (Int × Int)) : Nat → List Nat
  | 0 => []
  | n + 1 => match par l n with
    | none => roots l n ++ [n]
    | some _ => roots l n
def kidsN (l : List (Int × Int)) : Nat → Nat → List Nat
  | 0 => fun _ => []
  | n + 1 => match par l n with
    | none => kidsN l n
    | some p => more (kidsN l n) p n
def depth (l : List (Int × Int)) : Nat → Nat → Nat
  | 0, _ => 0
  | f + 1, n => match par l n with
    | none => 0
    | some p => depth l f p + 1
/-- The order, each with how far below a root it is. -/
def ordL (l : List (Int × Int)) : Nat → List (Nat × Nat)
  | 0 => []
  | n + 1 => match par l n with
    | none => ordL l n ++ [(0, n)]
    | some p => ins p n (ordL l n)

theorem ins_perm (p n : Nat) : ∀ (o : List (Nat × Nat)), (∃ x ∈ o, x.2 = p) → ((ins p n o).map (·.2)).Perm (n :: o.map (·.2))
  | [], h => by obtain ⟨x, hx, _⟩ := h; cases hx
  | x :: r, h => by
    unfold ins
    by_cases e : x.2 = p
    · rw [if_pos e]
      have h1 : (r.takeWhile (fun y => decide (x.1 < y.1)) ++ r.dropWhile (fun y => decide (x.1 < y.1))) = r := List.takeWhile_append_dropWhile
      have h2 : ((r.takeWhile (fun y => decide (x.1 < y.1)) ++ (x.1 + 1, n) :: r.dropWhile (fun y => decide (x.1 < y.1))).map (·.2)).Perm (n :: r.map (·.2)) := by
        have h3 := (List.perm_middle (a := (x.1 + 1, n)) (l₁ := r.takeWhile (fun y => decide (x.1 < y.1))) (l₂ := r.dropWhile (fun y => decide (x.1 < y.1)))).map (·.2)
        rw [h1] at h3
        exact h3
      exact (List.Perm.cons _ h2).trans (List.Perm.swap _ _ _)
    · rw [if_neg e]
      obtain ⟨y, hy, e2⟩ := h
      rcases List.mem_cons.1 hy with rfl | hy
      · exact absurd e2 e
      · exact (List.Perm.cons _ (ins_perm p n r ⟨y, hy, e2⟩)).trans (List.Perm.swap _ _ _)

theorem ord_perm (l : List (Int × Int)) : ∀ n, ((ordL l n).map (·.2)).Perm (List.range n)
  | 0 => List.Perm.refl _
  | n + 1 => by
    have ih := ord_perm l n
    rw [List.range_succ]
    unfold ordL
    split
    · rw [List.map_append]
      exact ih.append_right _
    · rename_i p hp
      have hlt := par_lt hp
      have hm : ∃ x ∈ ordL l n, x.2 = p := by
        have h1 : p ∈ (ordL l n).map (·.2) := ih.mem_iff.2 (List.mem_range.2 hlt)
        obtain ⟨x, hx, e⟩ := List.mem_map.1 h1
        exact ⟨x, hx, e⟩
      exact ((ins_perm p n _ hm).trans (List.Perm.cons _ ih)).trans (List.perm_append_comm (l₁ := [n]) (l₂ := List.range n))
theorem ord_mem {l : List (Int × Int)} {n p : Nat} (h : p < n) : ∃ x ∈ ordL l n, x.2 = p := by
  have h1 : p ∈ (ordL l n).map (·.2) := (ord_perm l n).mem_iff.2 (List.mem_range.2 h)
  obtain ⟨x, hx, e⟩ := List.mem_map.1 h1
  exact ⟨x, hx, e⟩
theorem ord_nodup (l : List (Int × Int)) (n : Nat) : ((ordL l n).map (·.2)).Nodup := (ord_perm l n).nodup_iff.2 List.nodup_range
theorem ord_len (l : List (Int × Int)) (n : Nat) : (ordL l n).length = n := by
  have := (ord_perm l n).length_eq
  simpa using this

theorem kidsN_none {l : List (Int × Int)} {n : Nat} (h : par l n = none) : kidsN l (n + 1) = kidsN l n := by simp only [kidsN, h]
theorem kidsN_some {l : List (Int × Int)} {n p : Nat} (h : par l n = some p) : kidsN l (n + 1) = more (kidsN l n) p n := by simp only [kidsN, h]
theorem kids_up (l : List (Int × Int)) : ∀ n i, ∀ j ∈ kidsN l n i, i < j ∧ j < n
  | 0, i, j, h => by simp [kidsN] at h
  | n + 1, i, j, h => by
    cases hp : par l n with
    | none =>
      rw [kidsN_none hp] at h
      have := kids_up l n i j h; omega
    | some p =>
      rw [kidsN_some hp] at h
      have hlt := par_lt hp
      unfold more at h
      by_cases e : i = p
      · rw [if_pos e] at h
        subst e
        rw [List.mem_append] at h
        rcases h with h | h
        · have := kids_up l n i j h; omega
        · simp at h; omega
      · rw [if_neg e] at h
        have := kids_up l n i j h; omega
theorem kids_new (l : List (Int × Int)) (n : Nat) : kidsN l n n = [] := by
  cases h : kidsN l n n with
  | nil => rfl
  | cons j r =>
    have := kids_up l n n j (by rw [h]; exact List.mem_cons_self)
    omega

/-- The document's order is the walk over children. -/
theorem ord_pre (l : List (Int × Int)) (N f : Nat) (hf : N < f) : ∀ n, n ≤ N → ordL l n = pre (kidsN l n) f 0 (roots l n)
  | 0, _ => by rw [show roots l 0 = [] from rfl, pre_nil]; rfl
  | n + 1, h => by
    have ih := ord_pre l N f hf n (by omega)
    unfold ordL roots kidsN
    cases hp : par l n with
    | none =>
      simp only
      rw [pre_append, ih]
      obtain ⟨f', rfl⟩ : ∃ f', f = f' + 1 := ⟨f - 1, by omega⟩
      rw [pre_cons (l := []), kids_new, pre_nil, pre_nil]
      rfl
    | some p =>
      simp only
      have hm := ord_mem (l := l) (par_lt hp)
      have hd := ord_nodup l n
      rw [ih] at hm hd
      rw [pre_more (kidsN l n) p n N (par_lt hp) (by omega) (fun i j hj => (kids_up l n i j hj).1) (kids_new l n) f 0 (roots l n) (fun i _ => by omega) hd hm, ih]
theorem kids_par (l : List (Int × Int)) : ∀ n i j, j ∈ kidsN l n i ↔ j < n ∧ par l j = some i
  | 0, i, j => by simp [kidsN]
  | n + 1, i, j => by
    have ih := kids_par l n i j
    cases hp : par l n with
    | none =>
      rw [kidsN_none hp, ih]
      constructor
      · rintro ⟨h1, h2⟩; exact ⟨by omega, h2⟩
      · rintro ⟨h1, h2⟩
        refine ⟨?_, h2⟩
        rcases Nat.lt_or_ge j n with h | h
        · exact h
        · have e : j = n := by omega
          rw [e, hp] at h2; cases h2
    | some p =>
      rw [kidsN_some hp]
      unfold more
      by_cases e : i = p
      · rw [if_pos e, ← e, List.mem_append, ih]
        constructor
        · rintro (⟨h1, h2⟩ | h)
          · exact ⟨by omega, h2⟩
          · have e2 : j = n := by simpa using h
            rw [e2, hp, e]; exact ⟨by omega, rfl⟩
        · rintro ⟨h1, h2⟩
          rcases Nat.lt_or_ge j n with h | h
          · exact .inl ⟨h, h2⟩
          · have e2 : j = n := by omega
            exact .inr (by simp [e2])
      · rw [if_neg e, ih]
        constructor
        · rintro ⟨h1, h2⟩; exact ⟨by omega, h2⟩
        · rintro ⟨h1, h2⟩
          refine ⟨?_, h2⟩
          rcases Nat.lt_or_ge j n with h | h
          · exact h
          · have e2 : j = n := by omega
            rw [e2, hp] at h2; cases h2; exact absurd rfl e
theorem depth_fuel (l : List (Int × Int)) : ∀ (f g n : Nat), n < f → n < g → depth l f n = depth l g n
  | 0, g, n, h, _ => by omega
  | f + 1, 0, n, _, h => by omega
  | f + 1, g + 1, n, h1, h2 => by
    cases hp : par l n with
    | none => simp only [depth, hp]
    | some p =>
      have := par_lt hp
      simp only [depth, hp]
      rw [depth_fuel l f g p (by omega) (by omega)]
/-- How deep one is. -/
def dep (l : List (Int × Int)) (n : Nat) : Nat := depth l (n + 1) n
theorem dep_none {l : List (Int × Int)} {n : Nat} (h : par l n = none) : dep l n = 0 := by simp only [dep, depth, h]
theorem dep_some {l : List (Int × Int)} {n p : Nat} (h : par l n = some p) : dep l n = dep l p + 1 := by
  have := par_lt h
  have e : dep l n = depth l n p + 1 := by unfold dep; simp only [depth, h]
  rw [e, dep, depth_fuel l n (p + 1) p this (by omega)]
theorem ins_mem (p n : Nat) : ∀ (o : List (Nat × Nat)) (y : Nat × Nat), y ∈ ins p n o → y ∈ o ∨ ∃ x ∈ o, x.2 = p ∧ y = (x.1 + 1, n)
  | [], y, h => by cases h
  | x :: r, y, h => by
    unfold ins at h
    by_cases e : x.2 = p
    · rw [if_pos e, List.mem_cons, List.mem_append, List.mem_cons] at h
      rcases h with rfl | h | rfl | h
      · exact .inl List.mem_cons_self
      · exact .inl (List.mem_cons_of_mem _ ((List.takeWhile_sublist _).subset h))
      · exact .inr ⟨x, List.mem_cons_self, e, rfl⟩
      · exact .inl (List.mem_cons_of_mem _ ((List.dropWhile_sublist _).subset h))
    · rw [if_neg e, List.mem_cons] at h
      rcases h with rfl | h
      · exact .inl List.mem_cons_self
      · rcases ins_mem p n r y h with h | ⟨z, h1, h2⟩
        · exact .inl (List.mem_cons_of_mem _ h)
        · exact .inr ⟨z, List.mem_cons_of_mem _ h1, h2⟩
theorem ord_dep (l : List (Int × Int)) : ∀ n, ∀ x ∈ ordL l n, x.1 = dep l x.2
  | 0, x, h => by cases h
  | n + 1, x, h => by
    cases hp : par l n with
    | none =>
      simp only [ordL, hp, List.mem_append, List.mem_singleton] at h
      rcases h with h | rfl
      · exact ord_dep l n x h
      · exact (dep_none hp).symm
    | some p =>
      simp only [ordL, hp] at h
      rcases ins_mem p n _ x h with h | ⟨y, h1, h2, rfl⟩
      · exact ord_dep l n x h
      · show y.1 + 1 = dep l n
        rw [dep_some hp, ord_dep l n y h1, h2]
end Vt
end Go.Proofs.YtocoonkachbjaaaGreatDoor

/- One's block in the order is the walk from it; the walk does not depend on the fuel. No program's code. -/
namespace Go.Proofs.YtocoonkachbjaaaGreatDoor
set_option linter.unusedVariables false
namespace Vt

theorem pre_fuel (kids : Nat → List Nat) (N : Nat) (hk : ∀ i, ∀ j ∈ kids i, i < j ∧ j ≤ N) : ∀ (f g far : Nat) (l : List Nat), (∀ i ∈ l, i ≤ N ∧ N < f + i ∧ N < g + i) → pre kids f far l = pre kids g far l
  | 0, g, far, l, h => by
    cases l with
    | nil => rw [pre_nil, pre_nil]
    | cons i l => have := h i List.mem_cons_self; omega
  | f + 1, 0, far, l, h => by
    cases l with
    | nil => rw [pre_nil, pre_nil]
    | cons i l => have := h i List.mem_cons_self; omega
  | f + 1, g + 1, far, [], h => rfl
  | f + 1, g + 1, far, i :: l, h => by
    have hi := h i List.mem_cons_self
    rw [pre_cons, pre_cons, pre_fuel kids N hk f g (far + 1) (kids i) (fun j hj => by have := hk i j hj; omega), pre_fuel kids N hk (f + 1) (g + 1) far l (fun j hj => h j (List.mem_cons_of_mem _ hj))]
theorem pre_shift (kids : Nat → List Nat) (k : Nat) : ∀ (f far : Nat) (l : List Nat), pre kids f (far + k) l = (pre kids f far l).map (fun y => (y.1 + k, y.2))
  | 0, far, l => rfl
  | f + 1, far, [] => rfl
  | f + 1, far, i :: l => by
    rw [pre_cons, pre_cons, show far + k + 1 = far + 1 + k by omega, pre_shift kids k f (far + 1) (kids i), pre_shift kids k (f + 1) far l]
    simp

/-- One and its block, how far below it. -/
def blk (p : Nat) : List (Nat × Nat) → List (Nat × Nat)
  | [] => []
  | x :: r => if x.2 = p then (0, p) :: (r.takeWhile (fun y => decide (x.1 < y.1))).map (fun y => (y.1 - x.1, y.2)) else blk p r
theorem blk_skip (p : Nat) : ∀ (a b : List (Nat × Nat)), (∀ x ∈ a, x.2 ≠ p) → blk p (a ++ b) = blk p b
  | [], b, h => rfl
  | x :: a, b, h => by
    rw [List.cons_append, blk, if_neg (h x List.mem_cons_self)]
    exact blk_skip p a b (fun y hy => h y (List.mem_cons_of_mem _ hy))
theorem blk_left (p far : Nat) : ∀ (a b : List (Nat × Nat)), (∃ x ∈ a, x.2 = p) → (∀ x ∈ a, far < x.1) → (∀ x, b.head? = some x → x.1 ≤ far) → blk p (a ++ b) = blk p a
  | [], b, h, _, _ => by obtain ⟨x, hx, _⟩ := h; cases hx
  | x :: a, b, h, hf, hb => by
    rw [List.cons_append]
    by_cases e : x.2 = p
    · have hs := takeWhile_stop (fun y : Nat × Nat => decide (x.1 < y.1)) a b (fun y hy => by
        have h1 := hb y hy; have h2 := hf x List.mem_cons_self
        exact decide_eq_false (by omega))
      rw [blk, blk, if_pos e, if_pos e, hs.1]
    · rw [blk, blk, if_neg e, if_neg e]
      refine blk_left p far a b ?_ (fun y hy => hf y (List.mem_cons_of_mem _ hy)) hb
      obtain ⟨y, hy, e2⟩ := h
      rcases List.mem_cons.1 hy with rfl | hy
      · exact absurd e2 e
      · exact ⟨y, hy, e2⟩
theorem blk_pre (kids : Nat → List Nat) (p N : Nat) (hk : ∀ i, ∀ j ∈ kids i, i < j ∧ j ≤ N) : ∀ (f far : Nat) (l : List Nat), (∀ i ∈ l, i ≤ N ∧ N < f + i) → ((pre kids f far l).map (·.2)).Nodup → (∃ x ∈ pre kids f far l, x.2 = p) →
    blk p (pre kids f far l) = pre kids (N + 1) 0 [p]
  | 0, far, l, _, _, h => by obtain ⟨x, hx, _⟩ := h; simp [pre] at hx
  | f + 1, far, [], _, _, h => by obtain ⟨x, hx, _⟩ := h; simp [pre] at hx
  | f + 1, far, i :: l, hf, hd, h => by
    rw [pre_cons] at hd h
    rw [List.map_cons, List.nodup_cons, List.map_append, List.nodup_append] at hd
    obtain ⟨d1, d2, d3, d4⟩ := hd
    have hfi := hf i List.mem_cons_self
    by_cases e : i = p
    · subst e
      rw [pre_cons, blk, if_pos rfl, pre_cons, pre_nil, List.append_nil]
      have hs := takeWhile_stop (fun y : Nat × Nat => decide (far < y.1)) (pre kids f (far + 1) (kids i)) (pre kids (f + 1) far l) (fun y hy => by
        have h1 := pre_head kids _ _ _ y hy
        exact decide_eq_false (by omega))
      have ht : ∀ x ∈ pre kids f (far + 1) (kids i), decide (far < x.1) = true := fun x hx => decide_eq_true (by have := pre_far kids _ _ _ x hx; omega)
      simp only
      rw [hs.1, (tw_all _ _ ht).1, show far + 1 = 0 + 1 + far by omega, pre_shift kids far f (0 + 1) (kids i), List.map_map]
      have hid : ((fun y : Nat × Nat => (y.1 - far, y.2)) ∘ fun y : Nat × Nat => (y.1 + far, y.2)) = id := by
        funext y; simp
      rw [hid, List.map_id, pre_fuel kids N hk f N (0 + 1) (kids i) (fun j hj => by have := hk i j hj; omega)]
    · rw [pre_cons, blk, if_neg e]
      obtain ⟨x, hx, ex⟩ := h
      rw [List.mem_cons, List.mem_append] at hx
      rcases hx with rfl | hx | hx
      · exact absurd ex e
      · rw [blk_left p far _ _ ⟨x, hx, ex⟩ (fun y hy => by have := pre_far kids _ _ _ y hy; omega) (fun y hy => by have := pre_head kids _ _ _ y hy; omega)]
        exact blk_pre kids p N hk f (far + 1) (kids i) (fun j hj => by have := hk i j hj; omega) d2 ⟨x, hx, ex⟩
      · have n1 : ∀ y ∈ pre kids f (far + 1) (kids i), y.2 ≠ p := fun y hy e2 => d4 p (List.mem_map.2 ⟨y, hy, e2⟩) p (List.mem_map.2 ⟨x, hx, ex⟩) rfl
        rw [blk_skip p _ _ n1]
        exact blk_pre kids p N hk (f + 1) far l (fun j hj => hf j (List.mem_cons_of_mem _ hj)) d3 ⟨x, hx, ex⟩

theorem roots_lt (l : List (Int × Int)) : ∀ n, ∀ i ∈ roots l n, i < n
  | 0, i, h => by cases h
  | n + 1, i, h => by
    cases hp : par l n with
    | none =>
      simp only [roots, hp, List.mem_append, List.mem_singleton] at h
      rcases h with h | rfl
      · have := roots_lt l n i h; omega
      · omega
    | some p =>
      simp only [roots, hp] at h
      have := roots_lt l n i h; omega
theorem roots_par (l : List (Int × Int)) : ∀ n j, j ∈ roots l n ↔ j < n ∧ par l j = none
  | 0, j => by simp [roots]
  | n + 1, j => by
    have ih := roots_par l n j
    cases hp : par l n with
    | none =>
      simp only [roots, hp, List.mem_append, List.mem_singleton, ih]
      constructor
      · rintro (⟨h1, h2⟩ | rfl)
        · exact ⟨by omega, h2⟩
        · exact ⟨by omega, hp⟩
      · rintro ⟨h1, h2⟩
        rcases Nat.lt_or_ge j n with h | h
        · exact .inl ⟨h, h2⟩
        · exact .inr (by omega)
    | some p =>
      simp only [roots, hp, ih]
      constructor
      · rintro ⟨h1, h2⟩; exact ⟨by omega, h2⟩
      · rintro ⟨h1, h2⟩
        refine ⟨?_, h2⟩
        rcases Nat.lt_or_ge j n with h | h
        · exact h
        · have e : j = n := by omega
          rw [e, hp] at h2; cases h2
/-- The document's Pre is the walk from one. -/
theorem ord_blk (l : List (Int × Int)) (n p : Nat) (h : p < n) : blk p (ordL l n) = pre (kidsN l n) (n + 1) 0 [p] := by
  have ho := ord_pre l n (n + 1) (by omega) n (Nat.le_refl _)
  have hm := ord_mem (l := l) h
  have hd := ord_nodup l n
  rw [ho] at hm hd ⊢
  exact blk_pre (kidsN l n) p n (fun i j hj => by have := kids_up l n i j hj; omega) (n + 1) 0 (roots l n) (fun i hi => by have := roots_lt l n i hi; omega) hd hm
end Vt
end Go.Proofs.YtocoonkachbjaaaGreatDoor

/- Lists of sessions among the arguments, and the document's Parent. -/
namespace Go.Proofs.YtocoonkachbjaaaGreatDoor
open Go.RowKit
set_option linter.unusedVariables false
namespace Vw
/-- A list of sessions, wherever it lies. -/
def SessArg (w : World) (v : Value) (ss : List Sess) : Prop :=
  ∃ p cap, v = .slice p ss.length cap ∧ ∀ j (hj : j < ss.length), ∃ g o, p = some ⟨g, o, none⟩ ∧ g < w.heap.size ∧ ∀ (i : Nat) (u : Value), ss[j].cells[i]? = some u → w.cell? ⟨g, o + j * 12 + i, none⟩ = some u
theorem SessArg.below {w w' : World} {v : Value} {ss : List Sess} (h : SessArg w v ss) (hb : Below w.heap.size w w') : SessArg w' v ss := by
  obtain ⟨p, cap, rfl, h⟩ := h
  refine ⟨p, cap, rfl, fun j hj => ?_⟩
  obtain ⟨g, o, h1, h2, h3⟩ := h j hj
  exact ⟨g, o, h1, Nat.lt_of_lt_of_le h2 hb.size, fun i u hi => (hb.cell (p := ⟨g, o + j * 12 + i, none⟩) h2).trans (h3 i u hi)⟩
/-- The births, and those of the parents. -/
def bu (ss : List Sess) : List (Int × Int) := ss.map fun s => (s.birth, s.ub)
theorem bu_at {ss : List Sess} {j : Nat} (hj : j < ss.length) : (bu ss)[j]? = some (ss[j].birth, ss[j].ub) := by
  unfold bu; rw [List.getElem?_map, List.getElem?_eq_getElem hj]; rfl
def parI (l : List (Int × Int)) (n : Nat) : Int := match Vt.par l n with
  | none => -1
  | some p => p

def PRel (l : List (Int × Int)) (up : Int) (n : Nat) (w : World) (i : Value) (wr : World) : Prop :=
  ∃ k : Nat, k ≤ n ∧ i = .int .i64 ((k : Int) - 1) ∧ Vt.lastTo l up n = Vt.lastTo l up k ∧ Below w.heap.size w wr

set_option maxRecDepth 100000 in
set_option maxHeartbeats 2000000 in
theorem rparent_any (v : Value) (ss : List Sess) (hl : (ss.length : Int) ≤ 9223372036854775807) (n : Nat) (hn : n < ss.length) (w : World) (h1 : SessArg w v ss) :
    Calls Tryz.prog 88 #[v, .int .i64 n] w fun e w' => e = .returned (.int .i64 (parI (bu ss) n)) ∧ Below w.heap.size w w' := by
  obtain ⟨p, cap, rfl, h⟩ := h1
  obtain ⟨g, o, rfl, hg, hc⟩ := h n hn
  have e0 : w.cell? ⟨g, o + n * 12 + 2 + 1, none⟩ = some (.int .i64 ss[n].ub) := hc 3 _ rfl
  have b0 : (0 : Int) ≤ (n : Int) := by omega
  have b1 : (n : Int) < (ss.length : Int) := by omega
  by_cases hz : ss[n].ub = 0
  · have hp : parI (bu ss) n = -1 := by unfold parI Vt.par; rw [bu_at hn]; simp only; rw [if_pos hz]
    rw [hp]
    rw [hz] at e0
    clear hc h hz hp
    go_enter Tryz.func88, Tryz.ntmps88
    go_wp2
    go_ret
    exact ⟨rfl, Below.refl _ _⟩
  · have hp : Vt.par (bu ss) n = Vt.lastTo (bu ss) ss[n].ub n := by unfold Vt.par; rw [bu_at hn]; simp only; rw [if_neg hz]
    have hq : (ss[n].ub == 0) = false := by rw [beq_eq_false_iff_ne]; exact hz
    obtain ⟨U, hU⟩ : ∃ U, U = ss[n].ub := ⟨_, rfl⟩
    rw [← hU] at hp hq e0
    have HP := Lib.hid hp
    have H := Lib.hid h
    have w1 : IntKind.i64.wrap ((n : Int) - 1) = (n : Int) - 1 := IntWalk.i64_in _ (by omega)
    clear hc h hz hp hU
    go_enter Tryz.func88, Tryz.ntmps88
    go_wp2
    go_loopw [5] (fun i wr => PRel (bu ss) U n w i wr) (fun i _ => (intOf i + 1).toNat)
    case atStart => exact ⟨n, Nat.le_refl _, rfl, rfl, Below.refl _ _⟩
    case round =>
      obtain ⟨k, hk, rfl, heq, hbr⟩ := hrel
      have HE := Lib.hid heq; clear heq
      rcases Nat.eq_zero_or_pos k with rfl | h0
      · have hno : parI (bu ss) n = -1 := by unfold parI; rw [HP.out, HE.out]; rfl
        have HF : Hid (Ending.returned (.int .i64 (-1)) = .returned (.int .i64 (parI (bu ss) n))) := by show _ = _; rw [hno]
        clear hno
        go_wp2
        go_ret
        exact ⟨HF.out, hbr⟩
      · obtain ⟨j, rfl⟩ : ∃ j, k = j + 1 := ⟨k - 1, by omega⟩
        have hj : j < ss.length := by omega
        obtain ⟨g2, o2, e2, hg2, k2⟩ := H.out j hj
        cases e2
        have e1 : wr.cell? ⟨g, o + j * 12 + 1, none⟩ = some (.int .i64 ss[j].birth) := (hbr.cell (p := ⟨g, o + j * 12 + 1, none⟩) hg).trans (k2 1 _ rfl)
        have e0' : wr.cell? ⟨g, o + n * 12 + 2 + 1, none⟩ = some (.int .i64 U) := (hbr.cell (p := ⟨g, o + n * 12 + 2 + 1, none⟩) hg).trans e0
        have c1 : ((j + 1 : Nat) : Int) - 1 = (j : Int) := by omega
        rw [c1]
        have c2 : (0 : Int) ≤ (j : Int) := by omega
        have c3 : (j : Int) < (ss.length : Int) := by omega
        have w2 : IntKind.i64.wrap ((j : Int) - 1) = (j : Int) - 1 := IntWalk.i64_in _ (by omega)
        obtain ⟨X, hX⟩ : ∃ X, X = ss[j].birth := ⟨_, rfl⟩
        rw [← hX] at e1
        have hlast : Vt.lastTo (bu ss) U (j + 1) = if X = U then some j else Vt.lastTo (bu ss) U j := by
          rw [Vt.lastTo, bu_at hj, hX]; simp
        clear k2 hX
        by_cases hxu : X = U
        · subst hxu
          rw [if_pos rfl] at hlast
          have HF : Hid (Ending.returned (.int .i64 (j : Int)) = .returned (.int .i64 (parI (bu ss) n))) := by show _ = _; unfold parI; rw [HP.out, HE.out, hlast]
          clear hlast c1
          have hxq : (X == X) = true := by simp
          go_wp2
          go_quiet (fail)
          go_wp2
          go_ret
          exact ⟨HF.out, Ut.below_drewN hbr _⟩
        · rw [if_neg hxu] at hlast
          have HE2 : Hid (Vt.lastTo (bu ss) U n = Vt.lastTo (bu ss) U j) := by show _ = _; rw [HE.out, hlast]
          have hxq : (X == U) = false := by rw [beq_eq_false_iff_ne]; exact hxu
          clear hlast c1 hxu
          go_wp2
          go_quiet (fail)
          go_wp2
          go_roundw
          case rel => exact ⟨j, by omega, by go_num, HE2.out, Ut.below_drewN hbr _⟩
          case measure => simp [intOf]
end Vw
end Go.Proofs.YtocoonkachbjaaaGreatDoor

/- Structs whose cells are letters: a slice of one of them. No program's code. -/
namespace Go.Proofs.YtocoonkachbjaaaGreatDoor
open Go.RowKit
set_option linter.unusedVariables false
namespace Ag

/-- '[]T{v}', v's cells letters. -/
theorem one_slice {P : Program} (t e : TypeId) (ie : TypeInfo) (z : Value) (cs : List Value) (hu : P.underlying t = some (.slice e)) (hie : P.info? e = some ie) (hz : ie.zero = some z) (hzs : z.cells.size = ie.size) (hn : cs.length = ie.size) (h0 : 0 < ie.size) (hs : ie.size ≤ 16777216) (w : World) :
    (Instr.buildSlice t 1 #[(0, .agg cs.toArray)]).run P w = .ok (.slice (some ⟨w.heap.size, 0, none⟩) 1 1) (w.alloc (.cells cs.toArray e)) := by
  refine Go.run_buildSlice w t e 1 _ _ ie z hu hie hz (by omega) (by omega) ?_
  have h := Go.Great.fill_whole (s := ie.size) h0 [Value.agg cs.toArray] ((Array.range (1 * ie.size)).map (z.cells[· % z.cells.size]!)) (by simp [Value.cells, hn]) (by simp)
  simpa [Value.cells] using h
theorem fill_one (ie : TypeInfo) (z : Value) (cs : List Value) (hn : cs.length = ie.size) (h0 : 0 < ie.size) : Instr.fill (fun i => some (i * ie.size, ie.size)) ((Array.range (1 * ie.size)).map (z.cells[· % z.cells.size]!)) [(0, .agg cs.toArray)] = some cs.toArray := by
  have h := Go.Great.fill_whole (s := ie.size) h0 [Value.agg cs.toArray] ((Array.range (1 * ie.size)).map (z.cells[· % z.cells.size]!)) (by simp [Value.cells, hn]) (by simp)
  simpa [Value.cells] using h
/-- The same where the walk stands. -/
theorem wpList_one {P : Program} {ops : Array Oper} {rest : List Oper} {o : Oper} {a : Act} {w : World} {Q : Exit → Act → World → Prop} (hg : o.guard = none) (t e : TypeId) (x : Operand) (ho : o.op = .buildSlice t 1 #[(0, x)])
    (cs : List Value) (hx : a.eval x = .agg cs.toArray) (ie : TypeInfo) (z : Value) (hu : P.underlying t = some (.slice e)) (hie : P.info? e = some ie) (hz : ie.zero = some z) (hn : cs.length = ie.size) (h0 : 0 < ie.size) (hs : ie.size ≤ 16777216)
    (h : wpList P ops Q rest (a.put o.dst (.slice (some ⟨w.heap.size, 0, none⟩) 1 1)) (w.alloc (.cells cs.toArray e))) : wpList P ops Q (o :: rest) a w := by
  refine Go.wpList_buildSlice hg t e 1 #[(0, x)] ho cs.toArray ie z hu hie hz (by omega) (by omega) ?_ h
  have h := fill_one ie z cs hn h0
  simpa [hx] using h
/-- Cells set one behind the other. -/
def put (Z : Array Value) : Nat → List Value → Array Value
  | _, [] => Z
  | o, v :: r => put (Z.setIfInBounds o v) (o + 1) r
theorem put_size : ∀ (vs : List Value) (o : Nat) (Z : Array Value), (put Z o vs).size = Z.size
  | [], _, _ => rfl
  | v :: r, o, Z => by rw [put, put_size r]; simp
theorem put_at : ∀ (vs : List Value) (o : Nat) (Z : Array Value) (i : Nat), (put Z o vs)[i]? = if o ≤ i ∧ i < o + vs.length ∧ i < Z.size then vs[i - o]? else Z[i]?
  | [], o, Z, i => by rw [if_neg (by simp; omega)]; rfl
  | v :: r, o, Z, i => by
    rw [put, put_at r]
    by_cases h1 : o = i
    · subst h1
      rw [if_neg (by omega)]
      by_cases h2 : o < Z.size
      · rw [if_pos (by simp; omega)]; simp [h2]
      · rw [if_neg (by simp; omega)]; simp [h2]
    · by_cases h2 : o + 1 ≤ i ∧ i < o + 1 + r.length ∧ i < Z.size
      · rw [if_pos (by simpa using h2), if_pos (by simp; omega), show i - o = (i - (o + 1)) + 1 by omega, List.getElem?_cons_succ]
      · rw [if_neg (by simpa using h2), if_neg (by simp; omega), Array.getElem?_setIfInBounds, if_neg h1]
theorem put_all {Z : Array Value} {cs : List Value} (h : Z.size = cs.length) : put Z 0 cs = cs.toArray := by
  apply Array.ext_getElem?
  intro i
  rw [put_at]
  by_cases h1 : i < cs.length
  · rw [if_pos (by omega)]; simp
  · rw [if_neg (by omega)]
    simp [h1, h]
theorem setCells_new (w : World) (t : TypeId) : ∀ (vs : List Value) (o : Nat) (Z : Array Value), (w.alloc (.cells Z t)).setCells w.heap.size o vs = w.alloc (.cells (put Z o vs) t)
  | [], _, _ => rfl
  | v :: r, o, Z => by
    rw [World.setCells, World.setCell_alloc_at (hn := rfl), setCells_new w t r]; rfl
theorem there_new (w : World) (t : TypeId) (Z : Array Value) (n : Nat) (h : n ≤ Z.size) : (w.alloc (.cells Z t)).there w.heap.size 0 n := fun j hj => by
  refine ⟨?_, World.frozen?_alloc_new w Z t _⟩
  rw [cell_of_row _ _ _ _ _ _ (Ut.alloc_at w (.cells Z t)), Nat.zero_add]
  have h2 : j < Z.size := by omega
  simp [h2]
/-- A struct stored into a variable that was just made. -/
theorem wpList_store_new {P : Program} {ops : Array Oper} {rest : List Oper} {o : Oper} {a : Act} {w : World} {Q : Exit → Act → World → Prop} {t : TypeId} {Z : Array Value} (hg : o.guard = none) (ty : TypeId) (x y : Operand) (ho : o.op = .store ty x y) (cs : List Value)
    (hx : a.eval x = .pointer (some ⟨w.heap.size, 0, none⟩)) (hy : a.eval y = .agg cs.toArray) (hi : (P.info? ty).map (·.size) = some cs.length) (hZ : Z.size = cs.length) (h1 : ∀ v ∈ cs, v.oneCell' = true)
    (h : wpList P ops Q rest (a.put o.dst undef) (w.alloc (.cells cs.toArray t))) : wpList P ops Q (o :: rest) a (w.alloc (.cells Z t)) := by
  refine wpList_store_mid hg ty x y ho w.heap.size 0 cs.toArray hx hy (there_new w t Z _ (by simp [hZ])) (by simpa using hi) (all_oneCell_toArray h1) ?_
  rw [setCells_new, List.toList_toArray, put_all hZ]
  exact h
theorem setCells_row (b : Nat) (t : TypeId) : ∀ (vs : List Value) (o : Nat) (Z : Array Value) (w : World), w.heap[b]? = some (.cells Z t (0, 0)) → (w.setCells b o vs).heap[b]? = some (.cells (put Z o vs) t (0, 0))
  | [], _, _, _, h => h
  | v :: r, o, Z, w, h => by
    rw [World.setCells, put]
    exact setCells_row b t r _ _ _ (heap_setCell_same w b o _ _ v h)
theorem there_row {w : World} {b : Nat} {t : TypeId} {Z : Array Value} (h : w.heap[b]? = some (.cells Z t (0, 0))) (n : Nat) (hn : n ≤ Z.size) : w.there b 0 n := fun j hj => by
  refine ⟨?_, by unfold World.frozen?; rw [h]; rfl⟩
  rw [cell_of_row _ _ _ _ _ _ h, Nat.zero_add]
  have h2 : j < Z.size := by omega
  simp [h2]
theorem below_setCells {B : Nat} {a : World} {b : Nat} (hb : B ≤ b) : ∀ (vs : List Value) (o : Nat) (w : World), Below B a w → Below B a (w.setCells b o vs)
  | [], _, _, h => h
  | v :: r, o, w, h => by
    rw [World.setCells]
    exact below_setCells hb r _ _ (h.setCell (p := ⟨b, o, none⟩) hb v)
end Ag
end Go.Proofs.YtocoonkachbjaaaGreatDoor

/- view's laws: the book of three scopes, the chapter's sessions, works. -/
namespace Go.Proofs.YtocoonkachbjaaaGreatDoor
open Go.RowKit Go.Maps Go.ChangeMaps Go.Proofs.NmPlain Go.Proofs.Ar Go.Proofs.YtocoonkachbjaaaGreatDoor.Sc
set_option linter.unusedVariables false
namespace Vw
def vbk : List ByteArray := [⟨#[109, 97, 105, 108, 46, 114, 101, 97, 100]⟩, ⟨#[109, 97, 105, 108, 46, 115, 101, 110, 100]⟩, ⟨#[112, 97, 121]⟩]
def vfour : List Sess := [⟨1, 3, 0, 0, 0, ⟨#[97, 110, 110]⟩, ⟨#[]⟩, 7, 0, 0, 100, 0⟩, ⟨2, 5, 1, 3, 1, ⟨#[97, 110, 110]⟩, ⟨#[112, 104, 111, 110, 101]⟩, 1, 0, 0, 90, 1⟩, ⟨3, 7, 0, 0, 0, ⟨#[98, 111, 98]⟩, ⟨#[]⟩, 0, 2, 0, 40, 0⟩, ⟨4, 9, 2, 5, 2, ⟨#[97, 110, 110]⟩, ⟨#[112, 97, 121]⟩, 1, 1, 0, 50, 2⟩]
def vfour0 : Sess := ⟨1, 3, 0, 0, 0, ⟨#[97, 110, 110]⟩, ⟨#[]⟩, 7, 0, 0, 100, 0⟩
set_option maxRecDepth 100000 in
theorem vbk_new : newL vbk = (0, -1) := by decide +kernel
set_option maxRecDepth 100000 in
theorem vbk_line : lineL vbk vfour0 40 = ([51, 32, 97, 110, 110, 32, 108, 111, 103, 105, 110, 32, 108, 111, 119, 32, 91, 109, 97, 105, 108, 46, 114, 101, 97, 100, 32, 109, 97, 105, 108, 46, 115, 101, 110, 100, 32, 112, 97, 121, 93, 32, 49, 109], 0) := by decide +kernel
theorem vbk_small : ∀ s ∈ vbk, s.size ≤ 16777216 := by decide +kernel
theorem vbk_book : IsBook vbk := book_of vbk_new

def VBookPost (w : World) (e : Ending) (w' : World) : Prop := ∃ lo B, e = .returned (.pointer (some ⟨B, 0, none⟩)) ∧ BookAt lo w' B vbk ∧ Below w.heap.size w w'

set_option maxHeartbeats 2000000 in
theorem vbook_any (w : World) (hm : MaxAt w) : Calls Tryz.prog 50 #[] w (VBookPost w) := by
  have hb0 : Below w.heap.size w (w.alloc (.cells (vbk.map Value.string).toArray 9)) := (Below.refl _ w).alloc (Nat.le_refl _) _
  have HB0 := Lib.hid hb0
  have hn := new_any (.slice (some ⟨w.heap.size, 0, none⟩) 3 3) vbk (by decide) (fun _ => vbk_small) _ (hm.below hb0) (Tx.lit_arg w vbk 9)
  have HN := Lib.hid hn
  clear hn hm hb0
  go_enter Tryz.func50, Tryz.ntmps50
  go_wp2_with fail
  refine HN.out.mono ?_
  rintro e w1 ⟨hp, hb1⟩
  have hb2 : Below w.heap.size w w1 := HB0.out.trans (hb1.mono HB0.out.size)
  rcases hp with ⟨-, B, rfl, hB⟩ | ⟨h, -⟩
  · have HB := Lib.hid hB
    clear hB hb1
    go_wp2
    go_ret
    exact ⟨_, B, rfl, HB.out, hb2⟩
  · exact absurd vbk_new h

def fourCells : List Value := vfour.flatMap Sess.cells
set_option maxRecDepth 100000 in
set_option maxHeartbeats 2000000 in
theorem vfour_any (w : World) : Calls Tryz.prog 51 #[] w fun e w' => e = .returned (.slice (some ⟨w.heap.size, 0, none⟩) 4 4) ∧ w' = w.alloc (.cells fourCells.toArray 30) := by
  go_enter Tryz.func51, Tryz.ntmps51
  go_wp2_with (refine Go.wpList_buildSlice rfl _ _ 4 _ rfl fourCells.toArray _ _ rfl rfl rfl (by decide) (by decide) (by kernel_rfl) ?_)
  go_ret
  exact ⟨rfl, rfl⟩
theorem vbook_parts {w w' : World} (h : PartsAt w) (hb : Below w.heap.size w w') : PartsAt w' := by
  have hl := h.lt
  obtain ⟨t, fr, h⟩ := h
  exact ⟨t, fr, by rw [hb.block _ hl]; exact h⟩
/-- What view's code reads besides its arguments. -/
structure VEnv (w : World) : Prop where
  max : MaxAt w
  parts : PartsAt w
  tab : Lib.TabIs Tryz.prog w "internal/strconv.uint64pow10" .u64 Lib.pow10Tab
theorem VEnv.below {w w' : World} (h : VEnv w) (hb : Below w.heap.size w w') : VEnv w' := ⟨h.max.below hb, vbook_parts h.parts hb, tab_below gPow h.tab (tab_lt gPow h.tab) hb⟩
theorem VEnv.line {lo B : Nat} {ls : List ByteArray} {w : World} (h : VEnv w) (hB : BookAt lo w B ls) : ∀ w', Below w.heap.size w w' → Env lo B ls w' := fun w' hb => ⟨hB.below hb, (h.below hb).parts, (h.below hb).tab⟩

set_option maxHeartbeats 2000000 in
theorem vworks_any (w : World) (he : VEnv w) : Calls Tryz.prog 49 #[] w fun e w' => e = .returned (.bool true) ∧ Below w.heap.size w w' := by
  have HK := Lib.hid (vbook_any w he.max)
  have HL := Lib.hid (fun lo B (w' : World) (hb : Below w.heap.size w w') (hB : BookAt lo w' B vbk) => line_any lo B vbk vfour0 40 (by decide) w' ⟨vbk_book, by decide, by decide, by decide, (he.below hb).line hB, by decide⟩)
  unfold LinePost at HL
  rw [vbk_line] at HL
  have e3 : errVal 0 = .nilIface := rfl
  simp only [e3, Vw.vfour0] at HL
  clear he e3
  go_enter Tryz.func49, Tryz.ntmps49
  go_wp2_with fail
  refine HK.out.mono ?_
  rintro e w1 ⟨lo, B, rfl, hB, hb1⟩
  have HB := Lib.hid hB; have HB1 := Lib.hid hb1
  clear hB hb1
  go_wp2_with fail
  refine (vfour_any w1).mono ?_
  rintro e w2 ⟨rfl, hw2⟩
  have hb2 : Below w1.heap.size w1 w2 := by rw [hw2]; exact (Below.refl _ _).alloc (Nat.le_refl _) _
  have hrow : w2.heap[w1.heap.size]? = some (.cells fourCells.toArray 30 (0, 0)) := by rw [hw2]; exact Ut.alloc_at _ _
  have hr : w2.rangeAt w1.heap.size 0 vfour0.cells := fun j u hu => by
    rw [Nat.zero_add, cell_of_row _ _ _ _ _ _ hrow]
    have e : fourCells = vfour0.cells ++ vfour.tail.flatMap Sess.cells := rfl
    have hj := (List.getElem?_eq_some_iff.1 hu).1
    rw [e, List.getElem?_toArray, List.getElem?_append_left hj]; exact hu
  have HB2 := Lib.hid (HB1.out.trans (hb2.mono HB1.out.size))
  have HBK := Lib.hid (HB.out.below hb2)
  have HR := Lib.hid hr
  clear hb2 hrow hr hw2
  go_wp2_with (refine wpList_load_mid (by rfl) 30 _ (by rfl) _ _ (by rfl) vfour0.cells _ HR.out Tryz.underlying30 rfl (by kernel_rfl) ?_)
  refine (HL.out lo B w2 HB2.out HBK.out).mono ?_
  rintro e w3 ⟨rfl, hb3⟩
  have HB3 := Lib.hid (HB2.out.trans (hb3.mono HB2.out.size))
  clear hb3
  go_wp2
  go_ret
  exact ⟨rfl, HB3.out⟩
/-- What a session's cells may be. -/
structure SessOK (s : Sess) : Prop where
  wb : (Lit.int .i64 s.birth).wf = true
  wu : (Lit.int .i64 s.ub).wf = true
  sc : s.scopes < 18446744073709551616
  z1 : s.user.size ≤ 9223372036854775807
  z2 : s.label.size ≤ 9223372036854775807
  wd : (Lit.int .i64 s.dl).wf = true
theorem vline_any {lo B : Nat} {ls : List ByteArray} (hbk : IsBook ls) (now : Int) (wn : (Lit.int .i64 now).wf = true) (s : Sess) (hs : SessOK s) (w : World) (he : VEnv w) (hB : BookAt lo w B ls) :
    Calls Tryz.prog 7 #[.pointer (some ⟨B, 0, none⟩), .agg s.cells.toArray, .int .i64 now] w fun e w' => LinePost ls s now e ∧ Below w.heap.size w w' :=
  line_any lo B ls s now wn w ⟨hbk, hs.sc, hs.z1, hs.z2, he.line hB, hs.wd⟩
end Vw
end Go.Proofs.YtocoonkachbjaaaGreatDoor
