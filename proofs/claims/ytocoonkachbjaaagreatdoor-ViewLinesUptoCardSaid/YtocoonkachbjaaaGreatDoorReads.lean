/- A table of structs of integers, off its datum: its cells. No program in sight. -/
import Derived.WalkKit
import Derived.ProofKit
import Derived.OpenShut
import Derived.Lib.LaidU8
import Derived.Lib.LaidTab
namespace Go.Proofs.Rd
open Go.RowKit Go.Lib
theorem rows_flatten {α : Type} (c : Nat) : ∀ (m : Nat) (cs : List α) (rs : List (List α)), cs.length = m * c → rs.length = m → (∀ i (hi : i < rs.length), (cs.drop (i * c)).take c = rs[i]) → cs = rs.flatten
  | 0, cs, rs, h1, h2, _ => by
    have : cs = [] := by simpa using h1
    have : rs = [] := by simpa using h2
    subst_vars; simp
  | m + 1, cs, [], h1, h2, _ => by simp at h2
  | m + 1, cs, r :: rs, h1, h2, h3 => by
    have h0 := h3 0 (by simp)
    simp only [Nat.zero_mul, List.drop_zero, List.getElem_cons_zero] at h0
    have ih := rows_flatten c m (cs.drop c) rs (by rw [List.length_drop, h1, Nat.succ_mul]; omega) (by simpa using h2) (fun i hi => by
      have := h3 (i + 1) (by simp; omega)
      rw [List.drop_drop, show c + i * c = (i + 1) * c from by rw [Nat.succ_mul]; omega]
      simpa using this)
    rw [List.flatten_cons, ← ih, ← h0, List.take_append_drop]

section
variable {H : Type} {enc : TypeId × Value → H} {P : Program} {w : World} {base : Nat} {sp : Nat → Bool} {held : Bool}

/-- A struct whose fields are integers that reads as these numbers holds them, cell for cell. -/
theorem struct_ints {fuel : Nat} {t : TypeId} {fs : Array Field} {cs : List Value} {zs : List (IntKind × Int)} {p : List MemPlace} (ht : P.underlying t = some (.struct fs))
    (hf : ∀ (i : Nat) (f : Field), fs[i]? = some f → (∃ k, P.underlying f.type = some (.int k)) ∧ f.offset = i ∧ P.cellsOf f.type = 1) (hct : P.cellsOf t = fs.size)
    (h : DataW.trod enc P w base sp held fuel t cs = some (.agg (zs.map fun z => .lit (.int z.1 z.2)), p)) : cs = zs.map fun z => Value.int z.1 z.2 := by
  obtain ⟨xs, n, rfl, hx, hl, hxl, hall⟩ := DataW.trod_struct ht h
  have hxs : xs.map (·.1) = zs.map fun z => (DataW.lit (.int z.1 z.2) : DataW H) := by
    have := congrArg Prod.fst hx
    simpa using this.symm
  have hzl : zs.length = fs.size := by
    have := congrArg List.length hxs
    simp at this
    omega
  apply List.ext_getElem?
  intro i
  by_cases hi : i < fs.size
  · obtain ⟨⟨k, hu⟩, ho, hc⟩ := hf i fs[i] (by simp [hi])
    have h1 := hall i fs[i] (by simp [hi])
    obtain ⟨b, hb⟩ : ∃ b, xs[i]? = some b := ⟨xs[i]'(by omega), List.getElem?_eq_getElem (by omega)⟩
    rw [hb, ho, hc] at h1
    obtain ⟨z, hcz, rfl, _⟩ := DataW.trod_int hu h1
    have h2 : cs[i]? = some (.int k z) := by
      have := congrArg (·[0]?) hcz
      simpa [List.getElem?_take, List.getElem?_drop] using this
    have h3 : (xs.map (·.1))[i]? = some (DataW.lit (.int k z) : DataW H) := by simp [hb]
    rw [hxs] at h3
    simp only [List.getElem?_map, Option.map_eq_some_iff, DataW.lit.injEq, Lit.int.injEq] at h3
    obtain ⟨z', hz', h4, h5⟩ := h3
    simp [h2, hz', h4, h5]
  · rw [List.getElem?_eq_none (by omega), List.getElem?_eq_none (by simp; omega)]

/-- An array of such structs. -/
theorem array_structs {fuel : Nat} {t e : TypeId} {m : Nat} {fs : Array Field} {cs : List Value} {zss : List (List (IntKind × Int))} {p : List MemPlace}
    (ht : P.underlying t = some (.array m e)) (he : P.underlying e = some (.struct fs))
    (hf : ∀ (i : Nat) (f : Field), fs[i]? = some f → (∃ k, P.underlying f.type = some (.int k)) ∧ f.offset = i ∧ P.cellsOf f.type = 1) (hce : P.cellsOf e = fs.size) (hct : P.cellsOf t = m * fs.size)
    (h : DataW.trod enc P w base sp held fuel t cs = some (.agg (zss.map fun zs => .agg (zs.map fun z => .lit (.int z.1 z.2))), p)) : cs = (zss.map fun zs => zs.map fun z => Value.int z.1 z.2).flatten := by
  obtain ⟨xs, n, rfl, hx, hl, hxl, hall⟩ := DataW.trod_array ht h
  have hxs : xs.map (·.1) = zss.map fun zs => (DataW.agg (zs.map fun z => .lit (.int z.1 z.2)) : DataW H) := by
    have := congrArg Prod.fst hx
    simpa using this.symm
  have hzl : zss.length = m := by
    have := congrArg List.length hxs
    simp at this; omega
  have hrow : ∀ i (hi : i < m), (cs.drop (i * fs.size)).take fs.size = (zss[i]'(by omega)).map fun z => Value.int z.1 z.2 := by
    intro i hi
    have h1 := hall i hi
    have hb : xs[i]? = some (xs[i]'(by omega)) := List.getElem?_eq_getElem (by omega)
    rw [hb, hce] at h1
    have h2 : (xs[i]'(by omega)).1 = (DataW.agg ((zss[i]'(by omega)).map fun z => .lit (.int z.1 z.2)) : DataW H) := by
      have := congrArg (fun l => l[i]?) hxs
      simp only [List.getElem?_map, hb, Option.map_some] at this
      rw [List.getElem?_eq_getElem (by omega)] at this
      simpa using this
    have h3 : DataW.trod enc P w base sp held n e ((cs.drop (i * fs.size)).take fs.size) = some (.agg ((zss[i]'(by omega)).map fun z => .lit (.int z.1 z.2)), (xs[i]'(by omega)).2) := by
      rw [h1, ← h2]
    exact struct_ints he hf hce h3
  refine rows_flatten fs.size m cs _ (by rw [hl, hct]) (by simpa using hzl) fun i hi => ?_
  have hi' : i < m := by rw [← hzl]; simpa using hi
  rw [hrow i hi']; simp

end
end Go.Proofs.Rd
