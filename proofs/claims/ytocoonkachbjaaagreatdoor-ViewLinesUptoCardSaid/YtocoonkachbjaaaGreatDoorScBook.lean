/- A Book where it lies: its names, its map. The map's reading, slices.Clone. -/
import Derived.Test.YtocoonkachbjaaaGreatDoorScRefPrint
import Derived.Test.YtocoonkachbjaaaGreatDoorShelf
import Derived.Maps.OwnSet
import Derived.Maps.OwnOps
namespace Go.Proofs.YtocoonkachbjaaaGreatDoor
open Go.RowKit Go.Maps Go.ChangeMaps Go.Proofs.NmPlain Go.Proofs.Ar
set_option linter.unusedVariables false
namespace Sc

theorem kLaw : Keyed Tryz.prog 9 := string_keyed Tryz.underlying9
theorem zeroI (w : World) : (zeroValue 3).run Tryz.prog w = .ok (.int .i64 0) w := by kernel_rfl

def keyL (x : ByteArray) : Lit := .string x.data.toList
/-- The map of the first k names: each with its place. -/
def mapL (ls : List ByteArray) : Nat → DataW Unit
  | 0 => .map []
  | k + 1 => match ls[k]? with
    | some x => (mapL ls k).put (keyL x) (.lit (.int .i64 k))
    | none => mapL ls k
theorem mapL_next {ls : List ByteArray} {k : Nat} (h : k < ls.length) : mapL ls (k + 1) = (mapL ls k).put (keyL ls[k]) (.lit (.int .i64 k)) := by
  rw [mapL, List.getElem?_eq_getElem h]
theorem mapL_map (ls : List ByteArray) : ∀ k, IsMap (mapL ls k)
  | 0 => isMap_empty
  | k + 1 => by
    rw [mapL]
    split
    · exact (mapL_map ls k).put _ _
    · exact mapL_map ls k
theorem keyL_ne {x y : ByteArray} (h : x ≠ y) : keyL x ≠ keyL y := by
  intro e; apply h
  cases x; cases y
  simpa [keyL] using e
theorem key_is (x : ByteArray) : WideAt.IsKeyLit (keyL x) := by
  simp [WideAt.IsKeyLit, keyL]
theorem map_no {ls : List ByteArray} {x : ByteArray} : ∀ k, (∀ i (h : i < ls.length), i < k → ls[i] ≠ x) → Maps.has (mapL ls k) (keyL x) = false
  | 0, _ => rfl
  | k + 1, h => by
    by_cases hk : k < ls.length
    · rw [mapL_next hk, has_put_other (keyL_ne (fun e => h k hk (by omega) e.symm))]
      exact map_no k fun i hi hik => h i hi (by omega)
    · rw [mapL, List.getElem?_eq_none (by omega)]
      exact map_no k fun i hi hik => h i hi (by omega)
theorem map_yes {ls : List ByteArray} : ∀ k j (hj : j < ls.length), j < k → (∀ i (h : i < ls.length), i < k → ls[i] = ls[j] → i = j) → Maps.has (mapL ls k) (keyL ls[j]) = true ∧ ∀ z, (mapL ls k).atKey (keyL ls[j]) z = .lit (.int .i64 j)
  | 0, j, hj, h0, _ => by omega
  | k + 1, j, hj, hjk, h => by
    by_cases hk : k < ls.length
    · rw [mapL_next hk]
      by_cases e : k = j
      · subst e
        exact ⟨has_put_same (mapL_map ls k) (key_is _) _, fun z => atKey_put_same (mapL_map ls k) (key_is _) _ z⟩
      · have hne : ls[j] ≠ ls[k] := fun e2 => e (h k hk (by omega) e2.symm)
        have ih := map_yes k j hj (by omega) fun i hi hik => h i hi (by omega)
        rw [has_put_other (keyL_ne hne)]
        exact ⟨ih.1, fun z => by rw [atKey_put_other (keyL_ne hne)]; exact ih.2 z⟩
    · rw [mapL, List.getElem?_eq_none (by omega)]
      exact map_yes k j hj (by omega) fun i hi hik => h i hi (by omega)

/-- A Book of these names. -/
def BookAt (lo : Nat) (w : World) (B : Nat) (ls : List ByteArray) : Prop :=
  ∃ v bm, w.heap[B]? = some (.cells #[v, .map (some bm)] 59 (0, 0)) ∧ lo ≤ B ∧ lo ≤ bm ∧ w.ownsRow lo 9 1 v ls.length (ls.map Value.string) ∧ w.ownsMap Tryz.prog 9 (plainElem Tryz.prog 3) bm ls.length (mapL ls ls.length)

theorem own_kept {w w' : World} {lo e size n : Nat} {v : Value} {xs : List Value} (h : w.ownsRow lo e size v n xs) (hk : ∀ i, lo ≤ i → i < w.heap.size → w'.heap[i]? = w.heap[i]?) : w'.ownsRow lo e size v n xs := by
  refine ⟨h.1, ?_⟩
  rcases h.2 with h2 | ⟨g, cap, cur, h1, h2, h3, h4⟩
  · exact .inl h2
  · refine .inr ⟨g, cap, cur, h1, h2, ?_, h4⟩
    rw [hk g h2 (Array.getElem?_eq_some_iff.1 h3).1]; exact h3
theorem BookAt.kept {lo : Nat} {w w' : World} {B : Nat} {ls : List ByteArray} (h : BookAt lo w B ls) (hk : ∀ i, lo ≤ i → i < w.heap.size → w'.heap[i]? = w.heap[i]?) : BookAt lo w' B ls := by
  obtain ⟨v, bm, h1, h2, h3, h4, es, clock, h5, h6⟩ := h
  exact ⟨v, bm, (hk B h2 (Array.getElem?_eq_some_iff.1 h1).1).trans h1, h2, h3, own_kept h4 hk, es, clock, (hk bm h3 (Array.getElem?_eq_some_iff.1 h5).1).trans h5, h6⟩
theorem BookAt.below {lo : Nat} {w w' : World} {B : Nat} {ls : List ByteArray} (h : BookAt lo w B ls) (hb : Below w.heap.size w w') : BookAt lo w' B ls :=
  h.kept fun i _ hi => hb.block i hi
theorem BookAt.lt {lo : Nat} {w : World} {B : Nat} {ls : List ByteArray} (h : BookAt lo w B ls) : B < w.heap.size := by
  obtain ⟨v, bm, h1, _⟩ := h
  exact (Array.getElem?_eq_some_iff.1 h1).1

theorem own_shape {w : World} {base e n : Nat} {v : Value} {xs : List Value} (h : w.ownsRow base e 1 v n xs) : ∃ q r, v = .slice q n r := by
  rcases h.2 with ⟨h1, h2⟩ | ⟨g, cap, cur, h1, _⟩
  · exact ⟨none, 0, by rw [h1, h2]⟩
  · exact ⟨_, cap, h1⟩

/-- .. its value written out. -/
def Cloned (ls : List ByteArray) (w : World) (e : Ending) (w' : World) : Prop :=
  ∃ q c, e = .returned (.slice q ls.length c) ∧ w'.ownsRow w.heap.size 9 1 (.slice q ls.length c) ls.length (ls.map Value.string) ∧ Below w.heap.size w w'

/-- slices.Clone of a list of texts, wherever it lies. -/
theorem clone_any (v : Value) (ls : List ByteArray) (hl : ls.length ≤ 1048576) (w : World) (h : TextArg w v ls) :
    Calls Tryz.prog 20 #[v] w fun e w' => ∃ v', e = .returned v' ∧ w'.ownsRow w.heap.size 9 1 v' ls.length (ls.map Value.string) ∧ Below w.heap.size w w' := by
  obtain ⟨p, c, rfl, h⟩ := h
  cases ls with
  | nil =>
    cases p with
    | none =>
      refine (Tryz.slices_Clone_string_nil 0 c w).mono fun e w' h => ⟨_, h.1, World.ownsRow_nil _ _ _ _, by rw [h.2]; exact Below.refl _ _⟩
    | some a =>
      exact (Tryz.slices_Clone_string_zero a c w).mono fun e w' ⟨v', h1, h2, _, h4⟩ => ⟨v', h1, h2, h4⟩
  | cons x r =>
    obtain ⟨g, o, rfl, hg, _⟩ := h 0 (by simp)
    refine (Tryz.slices_Clone_string g o (x :: r).length c (x :: r) w (Nat.le_refl _) (by omega) (fun j hj => ?_)).mono fun e w' ⟨v', h1, h2, _, h4⟩ => ⟨v', h1, ?_, h4⟩
    · obtain ⟨g2, o2, e2, _, hc⟩ := h j hj
      cases e2
      rw [hc, List.getD_eq_getElem?_getD, List.getElem?_eq_getElem hj]; rfl
    · rw [List.take_length] at h2; exact h2

theorem clone_out (v : Value) (ls : List ByteArray) (hl : ls.length ≤ 1048576) (w : World) (h : TextArg w v ls) : Calls Tryz.prog 20 #[v] w (Cloned ls w) :=
  (clone_any v ls hl w h).mono fun e w' ⟨v', h1, h2, h3⟩ => by
    obtain ⟨q, r, rfl⟩ := own_shape h2
    exact ⟨q, r, h1, h2, h3⟩

end Sc
end Go.Proofs.YtocoonkachbjaaaGreatDoor
