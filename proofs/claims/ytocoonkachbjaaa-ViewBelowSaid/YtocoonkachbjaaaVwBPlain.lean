/- What the iterators hand out and what the document tells are the same lists. No program in sight. -/
import Derived.Test.YtocoonkachbjaaaVwLPre
import Derived.Test.YtocoonkachbjaaaVwSame
import Derived.Test.YtocoonkachbjaaaVwRPre
import Derived.Test.YtocoonkachbjaaaVwRKids
namespace Go.Proofs.Ytocoonkachbjaaa
open Go.RowKit
set_option linter.unusedVariables false
namespace Vw
theorem roots_filter (l : List (Int × Int)) : ∀ n, Vt.roots l n = (List.range n).filter fun j => (Vt.par l j).isNone
  | 0 => rfl
  | n + 1 => by
    rw [List.range_succ, List.filter_append, ← roots_filter l n]
    rw [show Vt.roots l (n + 1) = (match Vt.par l n with | none => Vt.roots l n ++ [n] | some _ => Vt.roots l n) from rfl]
    cases h : Vt.par l n with
    | none => simp [h]
    | some p => simp [h]
theorem kidsN_filter (l : List (Int × Int)) (p : Nat) : ∀ n, Vt.kidsN l n p = (List.range n).filter fun j => decide (Vt.par l j = some p)
  | 0 => rfl
  | n + 1 => by
    rw [List.range_succ, List.filter_append, ← kidsN_filter l p n]
    cases h : Vt.par l n with
    | none => rw [Vt.kidsN_none h]; simp [h]
    | some q =>
      rw [Vt.kidsN_some h]
      unfold Vt.more
      by_cases e : p = q
      · subst e; simp [h]
      · have e2 : ¬ q = p := fun x => e x.symm
        simp [h, e, e2]
theorem parI_neg {l : List (Int × Int)} {j : Nat} : decide (parI l j < 0) = (Vt.par l j).isNone := by
  unfold parI
  cases h : Vt.par l j with
  | none => simp
  | some p => simp
theorem parI_eq {l : List (Int × Int)} {j p : Nat} : decide (parI l j = (p : Int)) = decide (Vt.par l j = some p) := by
  unfold parI
  cases h : Vt.par l j with
  | none => simp
  | some q =>
    by_cases e : q = p
    · subst e; simp
    · have e2 : ¬ (q : Int) = (p : Int) := fun h => e (by omega)
      simp [e, e2]
theorem kids_same (ss : List Sess) (b : Int) : kidsTo ss b ss.length = kidsOf ss b := by
  unfold kidsTo kidsOf
  by_cases hb : b = 0
  · rw [if_pos hb, roots_filter]
    refine List.filter_congr fun j _ => ?_
    unfold ksel
    rw [← parI_neg]
    simp [hb]
  · rw [if_neg hb]
    cases hf : firstL ss b with
    | none =>
      have e1 : firstI ss b = -1 := by unfold firstI; rw [hf]
      have e2 : ∀ j, ksel ss b j = false := fun j => by unfold ksel; rw [e1]; simp [hb]
      rw [List.filter_eq_nil_iff]
      intro j _
      rw [e2]; simp
    | some p =>
      have e1 : firstI ss b = (p : Int) := by unfold firstI; rw [hf]
      show _ = Vt.kidsN (bu ss) ss.length p
      rw [kidsN_filter]
      refine List.filter_congr fun j _ => ?_
      unfold ksel
      rw [← parI_eq, e1]
      simp [hb]

/-- The sessions at these places. -/
def pickS (ss : List Sess) (l : List Nat) : List Sess := l.filterMap fun i => ss[i]?
theorem pick_cells {ss : List Sess} : ∀ {l : List Nat}, (∀ i ∈ l, i < ss.length) → allV (pickS ss l) = csL ss l ∧ (pickS ss l).length = l.length
  | [], _ => ⟨rfl, rfl⟩
  | i :: r, h => by
    have h1 := h i List.mem_cons_self
    obtain ⟨e1, e2⟩ := pick_cells (l := r) (fun j hj => h j (List.mem_cons_of_mem _ hj))
    have e3 : pickS ss (i :: r) = ss[i] :: pickS ss r := by unfold pickS; rw [List.filterMap_cons, List.getElem?_eq_getElem h1]
    rw [e3]
    refine ⟨?_, by rw [List.length_cons, List.length_cons, e2]⟩
    unfold allV csL at *
    rw [List.flatMap_cons, List.flatMap_cons, e1, csAt_at h1]
theorem own_pick {w : World} {base cap : Nat} {q : Option Addr} {n : Nat} {ss : List Sess} {l : List Nat} (hl : ∀ i ∈ l, i < ss.length) (hn : n = l.length) (h : w.ownsRow base 40 12 (.slice q n cap) n (csL ss l)) : SessArg w (.slice q n cap) (pickS ss l) := by
  obtain ⟨e1, e2⟩ := pick_cells hl
  subst hn
  rw [← e2, ← e1] at h
  rw [← e2]
  exact sess_of_own h
theorem pick_take {ss : List Sess} {l : List Nat} (hl : ∀ i ∈ l, i < ss.length) (m : Nat) : (pickS ss l).take m = pickS ss (l.take m) := by
  induction l generalizing m with
  | nil => simp [pickS]
  | cons i r ih =>
    have h1 := hl i List.mem_cons_self
    have e3 : ∀ r, pickS ss (i :: r) = ss[i] :: pickS ss r := fun r => by unfold pickS; rw [List.filterMap_cons, List.getElem?_eq_getElem h1]
    cases m with
    | zero => simp [pickS]
    | succ m => rw [e3, List.take_succ_cons, List.take_succ_cons, e3, ih (fun j hj => hl j (List.mem_cons_of_mem _ hj))]
theorem SessArg.take {w : World} {q : Option Addr} {n c c' m : Nat} {ss : List Sess} (h : SessArg w (.slice q n c) ss) (hm : m ≤ ss.length) : SessArg w (.slice q m c') (ss.take m) := by
  have e : ss = ss.take m ++ ss.drop m := (List.take_append_drop m ss).symm
  rw [e] at h
  exact h.pre (by rw [List.length_take]; omega)
theorem outV_sesL (ss : List Sess) (l : List (Nat × Nat)) : outV ss l = csL ss (l.map Prod.snd) := by
  unfold outV csL; rw [List.flatMap_map]
theorem farV_ints {w : World} {base n : Nat} {v : Value} {l : List (Nat × Nat)} (hn : n = l.length) (h : w.ownsRow base 3 1 v n (farV l)) : In.IntArg w v (ints (l.map Prod.fst)) := by
  subst hn
  have e : farV l = (ints (l.map Prod.fst)).map (fun x => Value.int .i64 x) := by simp [farV, ints, nv]
  rw [e] at h
  exact In.own_ints (fun _ => rfl) (by simp [ints]) h
theorem farsL_farV (l : List (Nat × Nat)) : farsL l = farV l := rfl
theorem blk_len (p : Nat) : ∀ (o : List (Nat × Nat)), (Vt.blk p o).length ≤ o.length
  | [] => Nat.le_refl _
  | x :: r => by
    unfold Vt.blk
    split
    · have h := (List.takeWhile_sublist (p := fun y : Nat × Nat => decide (x.1 < y.1)) (l := r)).length_le
      simp only [List.length_cons, List.length_map]
      omega
    · have := blk_len p r
      simp only [List.length_cons]; omega
theorem preL_len (ss : List Sess) (b : Int) : (preL ss b).length ≤ ss.length := by
  unfold preL
  split
  · exact Nat.zero_le _
  · have h := blk_len ‹Nat› (Vt.ordL (bu ss) ss.length)
    rwa [Vt.ord_len] at h
theorem preL_lt (ss : List Sess) (b : Int) : ∀ x ∈ preL ss b, x.2 < ss.length := by
  intro x hx
  rw [preL_pre] at hx
  cases hf : firstL ss b with
  | none => rw [hf] at hx; cases hx
  | some p =>
    rw [hf] at hx
    exact pre_mem_lt (ss.length + 1) 0 [p] (fun i hi => by rw [List.mem_singleton.1 hi]; exact firstL_lt hf) x hx
end Vw
end Go.Proofs.Ytocoonkachbjaaa
