/- append to a list of the call's own: the new value lies in its own block or in a new one. Families of own lists that grow. -/
import Derived.Test.YtgneebidmhiagaaDoorFam
import Derived.OwnWalk
import Derived.ArgAppend
namespace Go.Proofs.YtgneebidmhiagaaDoor
open Go.RowKit
set_option linter.unusedVariables false

theorem own_grown_weak {w w' : World} {row : Option Nat} (h : w.grownBy w' none) : w.grownBy w' row :=
  ⟨h.os, h.tape, h.output, h.size, fun k hk _ => h.block k hk (by simp)⟩

/-- A list has grown: where it lay, or into new memory. -/
def Grew (w w' : World) (r r' : Option Nat) : Prop := (w.grownBy w' r ∧ r' = r ∧ r ≠ none) ∨ (w.grownBy w' none ∧ ∃ g, r' = some g ∧ w.heap.size ≤ g)

theorem Grew.weak {w w' : World} {r r' : Option Nat} (h : Grew w w' r r') : w.grownBy w' r := by
  rcases h with ⟨h, _⟩ | ⟨h, _⟩
  · exact h
  · exact own_grown_weak h

/-- Where a list lies now that lay at r before: there, or in new memory. -/
def Moved (H : Nat) (r r' : Option Nat) : Prop := r' = r ∨ ∃ g, r' = some g ∧ H ≤ g

theorem Moved.trans {H : Nat} {r r' r2 : Option Nat} (h : Moved H r r') (k : Moved H r' r2) : Moved H r r2 := by
  rcases k with rfl | k
  · exact h
  · exact .inr k

theorem Grew.moved {w w' : World} {r r' : Option Nat} (h : Grew w w' r r') {H : Nat} (hH : H ≤ w.heap.size) : Moved H r r' := by
  rcases h with ⟨_, h, _⟩ | ⟨_, g, h1, h2⟩
  · exact .inl h
  · exact .inr ⟨g, h1, Nat.le_trans hH h2⟩

theorem own_new {w : World} {base e size n : Nat} {v : Value} {xs : List Value} (h : w.ownsRow base e size v n xs) (hn : 0 < n) : ∃ g, v.ownBlock = some g ∧ base ≤ g := by
  rcases h.2 with ⟨_, h0⟩ | ⟨g, cap, cur, rfl, hb, _⟩
  · omega
  · exact ⟨g, rfl, hb⟩

theorem wpList_append_apart {P : Program} {w : World} {ops : Array Oper} {rest : List Oper} {o : Oper} {a : Act} {Q : Exit → Act → World → Prop} (hgd : o.guard = none) (s x : Operand) (t : TypeId)
    (ho : o.op = .call { callee := .builtin .append, args := #[s, x], argTypes := #[t, t] })
    (base : Nat) (e : TypeId) (i : TypeInfo) (z : Value) (size bytes : Nat) (ht : P.underlying t = some (.slice e)) (hi : P.info? e = some i) (hz : i.zero = some z)
    (hsize : i.size = size) (hby : i.bytes = bytes) (hzs : z.cells.size = size) (hsz : 0 < size)
    (v : Value) (n : Nat) (xs : List Value) (hs : a.eval s = v) (hown : w.ownsRow base e size v n xs)
    (ad : Addr) (m c : Nat) (news : List Value) (hx : a.eval x = .slice (some ad) m c) (hl : news.length = m * size) (hnews : ∀ j u, news[j]? = some u → w.cell? (ad.add j) = some u) (h1 : ∀ u ∈ news, u.oneCell' = true)
    (h63 : n + m ≤ maxLen) (hbytes : (n + m) * bytes ≤ 140737488355328) (hbase : base ≤ w.heap.size) (hm0 : 0 < m)
    (h : ∀ v' w', w'.ownsRow base e size v' (n + m) (xs ++ news) → Grew w w' v.ownBlock v'.ownBlock → wpList P ops Q rest (a.put o.dst v') w') : wpList P ops Q (o :: rest) a w := by
  rcases hown.2 with ⟨hv, hn⟩ | ⟨g, cap, cur, hv, hg, hh, hnc, hcm, hcs, htake⟩
  · subst hv; subst hn
    have hxs : xs = [] := List.eq_nil_of_length_eq_zero (by simpa using hown.1)
    subst hxs
    refine wpList_append_own w hgd s x t ho w.heap.size e i z size bytes ht hi hz hsize hby hzs hsz _ 0 [] hs (World.ownsRow_nil _ _ _ _) ad m c news hx hl hnews h1 h63 hbytes (Nat.le_refl _) ?_
    intro v' w' h2 h3 h4
    exact h v' w' (Ut.own_base h2 hbase) (.inr ⟨h3, own_new h2 (by omega)⟩)
  · subst hv
    by_cases hr : n + m ≤ cap
    · refine wpList_append_fits w hgd s x t ho base e i size ht hi hsize g n cap xs hs hown ad m c news hx hl hnews h1 hr ?_
      intro w' h2 h3
      exact h _ _ h2 (.inl ⟨h3, rfl, by simp [Value.ownBlock]⟩)
    · refine wpList_append_grows w hgd s x t ho e i z size bytes ht hi hz hsize hby hzs hsz (some ⟨g, 0, none⟩) n cap xs hs (fun h => by cases h) hown.1 (fun b hb j u hu => ?_) ad m c news hx hl hnews h1 (by omega) h63 hbytes ?_
      · obtain rfl := Option.some.inj hb
        exact hown.cells (g := g) rfl j u hu
      · intro v' w' h2 h3
        exact h v' w' (Ut.own_base h2 hbase) (.inr ⟨h3, own_new h2 (by omega)⟩)

/-- Two own rows of different element types lie in different blocks. -/
theorem own_ne {w : World} {b b' e e' s s' n m : Nat} {v u : Value} {xs ys : List Value} (h : w.ownsRow b e s v n xs) (k : w.ownsRow b' e' s' u m ys) (hne : e ≠ e') : v.ownBlock = none ∨ v.ownBlock ≠ u.ownBlock := by
  rcases h.2 with ⟨rfl, _⟩ | ⟨g, cap, cur, rfl, _, hh, _⟩
  · exact .inl rfl
  · rcases k.2 with ⟨rfl, _⟩ | ⟨g', cap', cur', rfl, _, hh', _⟩
    · exact .inr (by simp [Value.ownBlock])
    · refine .inr fun e => ?_
      simp only [Value.ownBlock, Option.some.injEq] at e
      subst e
      rw [hh] at hh'
      simp at hh'
      exact hne hh'.2

/-- A family in which one list has grown. -/
theorem Fam.grow {B : Nat} {w w' : World} {e : TypeId} {vs : List Value} {Z : Nat → List Value} (h : Fam B w e vs Z) {k : Nat} (hk : k < vs.length) {v' : Value} {zs : List Value}
    (hg : w.grownBy w' vs[k].ownBlock) (hown : w'.ownsRow B e 1 v' zs.length zs) (hm : Moved w.heap.size vs[k].ownBlock v'.ownBlock) :
    Fam B w' e (vs.set k v') (fun j => if j = k then zs else Z j) := by
  refine ⟨fun j hj => ?_, fun i j hi hj hij g hgi => ?_⟩
  · rw [List.length_set] at hj
    by_cases hjk : j = k
    · subst hjk; simpa using hown
    · have := h.own j hj
      rw [List.getElem_set_ne (fun e => hjk e.symm)]
      simp only [if_neg hjk]
      refine this.kept hg ?_
      cases hb : vs[j].ownBlock with
      | none => exact .inl rfl
      | some g => exact .inr fun e => h.apart j k hj hk hjk g hb e.symm
  · rw [List.length_set] at hi hj
    rw [List.getElem_set] at hgi ⊢
    split at hgi
    · rename_i hki
      subst hki
      rw [if_neg hij]
      rcases hm with hm | ⟨g', h1, h2⟩
      · rw [hm] at hgi; exact h.apart _ _ hk hj hij g hgi
      · rw [h1] at hgi
        obtain rfl := Option.some.inj hgi
        intro e; have := (h.own j hj).lt _ e; omega
    · rename_i hki
      split
      · rename_i hkj
        subst hkj
        rcases hm with hm | ⟨g', h1, h2⟩
        · rw [hm]; exact h.apart _ _ hi hk hij g hgi
        · rw [h1]; intro e
          obtain rfl := Option.some.inj e
          have := (h.own i hi).lt _ hgi; omega
      · exact h.apart _ _ hi hj hij g hgi

/-- Everything in a family stays where one block that is none of theirs was written. -/
theorem Fam.kept {B : Nat} {w w' : World} {e : TypeId} {vs : List Value} {Z : Nat → List Value} (h : Fam B w e vs Z) {row : Option Nat} (hg : w.grownBy w' row) (hr : ∀ k (hk : k < vs.length), vs[k].ownBlock = none ∨ vs[k].ownBlock ≠ row) : Fam B w' e vs Z :=
  ⟨fun k hk => (h.own k hk).kept hg (hr k hk), h.apart⟩

end Go.Proofs.YtgneebidmhiagaaDoor
