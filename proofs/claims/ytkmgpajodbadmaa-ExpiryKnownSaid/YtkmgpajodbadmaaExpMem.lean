/- An expiry where it lies; its entries. -/
import Derived.Test.YtkmgpajodbadmaaHpSort
import Derived.Test.YtkmgpajodbadmaaHpNew
import Derived.Test.YtkmgpajodbadmaaHpSpec
import Derived.Maps.OwnSet
import Derived.Maps.OwnOps
import Derived.Deep.RegionLaw
namespace Go.Proofs.Ytkmgpajodbadmaa
open Go.RowKit Go.Maps
set_option linter.unusedVariables false
namespace Ex
open Hp (It ahd without HeapAt)

/-- 'm[k] = v' at a step of a region that draws. -/
theorem step_mapUpdate {H : Type} {P : Program} (w : World) {ops : Array Oper} {o : Oper} {a : Act} {K0 : Act → World → Prop} {Q : Exit → Act → World → Prop} {E : Prop} (hg : o.guard = none) (m x v : Operand) (t : TypeId) (hop : o.op = Op.mapUpdate t m x v)
    (k e : TypeId) (K : Keyed P k) (ht : P.underlying t = some (.map k e)) (R : Value → Option (DataW H × List MemPlace)) (b n : Nat) (D : DataW H)
    (hm : a.eval m = .map (some b)) (hown : w.ownsMap P k R b n D) (hn : n < maxLen) (key val : Value) (kl : Lit) (hx : a.eval x = key) (hv : a.eval v = val) (hkey : Go.keyOf P k key = some kl)
    (d : DataW H) (ps : List MemPlace) (hval : R val = some (d, ps)) (hK : ∀ w', w'.ownsMap P k R b (n + 1) (D.put kl d) → w.grownBy w' (some b) → K0 (a.put o.dst undef) w') :
    if Region.wanted o (yielded ops a.tmps) = true then Oper.wp P o a w K0 Q else E := by
  have hw : Region.wanted o (yielded ops a.tmps) = true := by simp [Region.wanted, hg]
  rw [if_pos hw]
  obtain ⟨w', hrun, r1, r2⟩ := hown.update K ht hn hkey hval
  unfold Oper.wp
  simp [execOp, hop, hm, hx, hv, hrun, Result.andThen]
  exact hK w' r1 r2

/-- A slot, its birth, its deadline. -/
abbrev Ent := Int × Int × Int
def itm (e : Ent) : It := (e.1, e.2.2)
def items (S : List Ent) : List It := S.map itm
def wo (S : List Ent) (s : Int) : List Ent := S.filter fun e => e.1 != s
def birthOf (S : List Ent) (s : Int) : Option Int := (S.find? fun e => e.1 == s).map fun e => e.2.1
/-- An entry laid in its place. -/
def put (S : List Ent) (x : Ent) : List Ent := S.takeWhile (fun e => !ahd (itm x) (itm e)) ++ x :: S.dropWhile (fun e => !ahd (itm x) (itm e))
theorem items_wo (S : List Ent) (s : Int) : items (wo S s) = without (items S) s := by
  unfold items wo without
  rw [List.filter_map]; rfl
theorem items_len (S : List Ent) : (items S).length = S.length := by simp [items]
theorem put_perm (S : List Ent) (x : Ent) : (put S x).Perm (x :: S) := by
  unfold put
  have h := List.perm_middle (a := x) (l₁ := S.takeWhile (fun e => !ahd (itm x) (itm e))) (l₂ := S.dropWhile (fun e => !ahd (itm x) (itm e)))
  rwa [List.takeWhile_append_dropWhile] at h
theorem items_put (S : List Ent) (x : Ent) : (items (put S x)).Perm (itm x :: items S) := (put_perm S x).map itm
/-- In order, no slot twice, within bounds. -/
structure Inv (S : List Ent) : Prop where
  good : Hp.Good (items S) 32
  sorted : (items S).Pairwise fun x y => ahd y x = false
theorem Inv.nil : Inv [] := ⟨⟨by simp [items], by simp [items]⟩, by simp [items]⟩
theorem Inv.wo {S : List Ent} (h : Inv S) (s : Int) : Inv (wo S s) :=
  ⟨by rw [items_wo]; exact h.good.without s, by rw [items_wo]; exact h.sorted.sublist (List.filter_sublist)⟩
theorem put_sorted {S : List Ent} {x : Ent} (h : (items S).Pairwise fun x y => ahd y x = false) : (items (put S x)).Pairwise fun x y => ahd y x = false := by
  induction S with
  | nil => simp [put, items]
  | cons e r ih =>
    have h1 : (items (e :: r)).Pairwise fun x y => ahd y x = false := h
    rw [show items (e :: r) = itm e :: items r from rfl, List.pairwise_cons] at h1
    cases hx : ahd (itm x) (itm e) with
    | true =>
      have e1 : put (e :: r) x = x :: e :: r := by simp [put, hx]
      rw [e1, show items (x :: e :: r) = itm x :: itm e :: items r from rfl, List.pairwise_cons]
      refine ⟨fun y hy => ?_, h⟩
      rcases List.mem_cons.1 hy with rfl | hy
      · exact Hp.ahd_asymm hx
      · have := h1.1 y hy
        exact Hp.no_of_lt this hx
    | false =>
      have e1 : put (e :: r) x = e :: put r x := by simp [put, hx]
      rw [e1, show items (e :: put r x) = itm e :: items (put r x) from rfl, List.pairwise_cons]
      refine ⟨fun y hy => ?_, ih h1.2⟩
      rcases List.mem_cons.1 ((items_put r x).mem_iff.1 hy) with rfl | hy
      · exact hx
      · exact h1.1 y hy
theorem Inv.put {S : List Ent} (h : Inv S) {x : Ent} (h0 : 0 ≤ x.1) (h1 : x.1 < 32) (hn : ∀ e ∈ S, e.1 ≠ x.1) : Inv (put S x) := by
  refine ⟨(h.good.cons (x := itm x) h0 (by have e : (itm x).1 = x.1 := rfl; omega) (fun y hy => ?_)).perm (items_put S x), put_sorted h.sorted⟩
  obtain ⟨e, he, rfl⟩ := List.mem_map.1 hy
  exact hn e he
theorem wo_none {S : List Ent} {s : Int} : ∀ e ∈ wo S s, e.1 ≠ s := fun e he => by simpa using (List.mem_filter.1 he).2
theorem Inv.len {S : List Ent} (h : Inv S) : S.length ≤ 32 := by have := h.good.len; rwa [items_len] at this
theorem birthOf_cons (x : Ent) (S : List Ent) (s : Int) : birthOf (x :: S) s = if x.1 = s then some x.2.1 else birthOf S s := by
  unfold birthOf
  rw [List.find?_cons]
  by_cases h : x.1 = s
  · have e : (x.1 == s) = true := by simp [h]
    rw [if_pos h, e]; rfl
  · have e : (x.1 == s) = false := by simp [h]
    rw [if_neg h, e]
theorem birthOf_mem {A : List Ent} (hn : (A.map fun e => (itm e).1).Nodup) {e : Ent} (he : e ∈ A) : birthOf A e.1 = some e.2.1 := by
  induction A with
  | nil => cases he
  | cons x r ih =>
    rw [List.map_cons, List.nodup_cons] at hn
    rw [birthOf_cons]
    rcases List.mem_cons.1 he with rfl | he
    · rw [if_pos rfl]
    · rw [if_neg (fun e2 => hn.1 (List.mem_map.2 ⟨e, he, e2.symm⟩))]
      exact ih hn.2 he
theorem birthOf_perm {S T : List Ent} (hg : Hp.Good (items S) 32) (hp : S.Perm T) (s : Int) : birthOf S s = birthOf T s := by
  have hgT : Hp.Good (items T) 32 := hg.perm (hp.symm.map itm)
  have key : ∀ {A : List Ent}, Hp.Good (items A) 32 → ∀ {e : Ent}, e ∈ A → birthOf A e.1 = some e.2.1 := fun {A} hA {e} he => birthOf_mem (by have hn := hA.nodup; rw [items, List.map_map] at hn; exact hn) he
  by_cases hex : ∃ e ∈ S, e.1 = s
  · obtain ⟨e, he, rfl⟩ := hex
    rw [key hg he, key hgT (hp.mem_iff.1 he)]
  · have h1 : ∀ {A : List Ent}, (∀ e ∈ A, e.1 ≠ s) → birthOf A s = none := fun {A} hA => by
      unfold birthOf
      rw [List.find?_eq_none.2 (fun e he => by simpa using hA e he)]; rfl
    rw [h1 (fun e he e2 => hex ⟨e, he, e2⟩), h1 (fun e he e2 => hex ⟨e, hp.mem_iff.2 he, e2⟩)]
theorem birthOf_wo {S : List Ent} {s t : Int} (h : s ≠ t) : birthOf (wo S t) s = birthOf S s := by
  induction S with
  | nil => rfl
  | cons x r ih =>
    unfold wo
    rw [List.filter_cons]
    by_cases hx : x.1 = t
    · rw [if_neg (by simp [hx]), birthOf_cons, if_neg (by rw [hx]; exact fun e => h e.symm)]; exact ih
    · rw [if_pos (by simpa using hx), birthOf_cons, birthOf_cons]
      split
      · rfl
      · exact ih
theorem birthOf_wo_same (S : List Ent) (s : Int) : birthOf (wo S s) s = none := by
  unfold birthOf
  rw [List.find?_eq_none.2 (fun e he => by simpa using wo_none e he)]; rfl
theorem keyOf_items (S : List Ent) (s : Int) : (Hp.keyOf (items S) s).isSome = (birthOf S s).isSome := by
  induction S with
  | nil => rfl
  | cons x r ih =>
    rw [show items (x :: r) = itm x :: items r from rfl, Hp.keyOf_cons, birthOf_cons]
    show (if x.1 = s then _ else _ : Option Int).isSome = _
    split
    · rfl
    · exact ih

abbrev lk (s : Int) : Lit := .int .i64 s
/-- A map's datum holds just the births. -/
def MapIs (D : DataW Unit) (S : List Ent) : Prop := IsMap D ∧ ∀ s : Int, Maps.has D (lk s) = (birthOf S s).isSome ∧ D.atKey (lk s) (.lit (.int .i64 0)) = .lit (.int .i64 ((birthOf S s).getD 0))
theorem MapIs.nil : MapIs (.map []) [] := ⟨isMap_empty, fun s => ⟨rfl, rfl⟩⟩
theorem isKey (s : Int) : WideAt.IsKeyLit (lk s) := by unfold WideAt.IsKeyLit; trivial
theorem lk_ne {s t : Int} (h : s ≠ t) : lk s ≠ lk t := fun e => h (by injection e)
theorem MapIs.put {D : DataW Unit} {S : List Ent} (h : MapIs D S) (hi : Inv S) (x : Ent) (h0 : 0 ≤ x.1) (h1 : x.1 < 32) : MapIs (D.put (lk x.1) (.lit (.int .i64 x.2.1))) (Ex.put (wo S x.1) x) := by
  refine ⟨h.1.put _ _, fun s => ?_⟩
  have hb : birthOf (Ex.put (wo S x.1) x) s = if x.1 = s then some x.2.1 else birthOf S s := by
    rw [birthOf_perm ((hi.wo x.1).put h0 h1 wo_none).good (put_perm _ _), birthOf_cons]
    by_cases e : x.1 = s
    · rw [if_pos e, if_pos e]
    · rw [if_neg e, if_neg e, birthOf_wo (fun e2 => e e2.symm)]
  rw [hb]
  by_cases e : x.1 = s
  · subst e
    rw [if_pos rfl, has_put_same h.1 (isKey _), atKey_put_same h.1 (isKey _)]
    exact ⟨rfl, rfl⟩
  · rw [if_neg e, has_put_other (lk_ne (fun e2 => e e2.symm)), atKey_put_other (lk_ne (fun e2 => e e2.symm))]
    exact h.2 s
theorem MapIs.del {D : DataW Unit} {S : List Ent} (h : MapIs D S) (t : Int) : MapIs (D.del (lk t)) (wo S t) := by
  refine ⟨h.1.del _, fun s => ?_⟩
  by_cases e : s = t
  · subst e
    rw [birthOf_wo_same, has_del_same, atKey_del_same]
    exact ⟨rfl, rfl⟩
  · rw [birthOf_wo e, has_del_other (lk_ne e), atKey_del_other (lk_ne e)]
    exact h.2 s

/-- An expiry that holds S; its blocks are F. -/
def ExpAt (lo E N : Nat) (S : List Ent) (F : Nat → Prop) (w : World) : Prop :=
  ∃ H bm n D L Fh, w.heap[E]? = some (.cells #[.pointer (some ⟨H, 0, none⟩), .map (some bm)] 83 (0, 0)) ∧ lo ≤ E ∧ HeapAt lo H 32 L Fh w ∧ L.Perm (items S) ∧ Inv S ∧
    w.ownsMap Try.prog 3 (plainElem Try.prog 3) bm n D ∧ n ≤ N ∧ (lo ≤ bm ∧ bm < E) ∧ MapIs D S ∧ (∀ k, F k ↔ k = E ∨ k = bm ∨ Fh k) ∧ ¬ Fh E ∧ ¬ Fh bm

theorem map_only {G : Nat → Prop} {w w' : World} {k : TypeId} {R : Value → Option (DataW Unit × List MemPlace)} {b n : Nat} {D : DataW Unit} (h : w.ownsMap Try.prog k R b n D) (ho : Only G w w') (hG : ¬ G b) : w'.ownsMap Try.prog k R b n D := by
  have hlt := h.lt
  obtain ⟨es, clock, hb, hF, hs, hD⟩ := h
  exact ⟨es, clock, (ho.block b hlt hG).trans hb, hF, hs, hD⟩
theorem ExpAt.only {G : Nat → Prop} {lo E N : Nat} {S : List Ent} {F : Nat → Prop} {w w' : World} (h : ExpAt lo E N S F w) (ho : Only G w w') (hFG : ∀ k, F k → ¬ G k) : ExpAt lo E N S F w' := by
  obtain ⟨H, bm, n, D, L, Fh, h1, h2, h3, h4, h5, h6, h7, h8, h9, h10, h11, h12⟩ := h
  refine ⟨H, bm, n, D, L, Fh, (ho.block E (Array.getElem?_eq_some_iff.1 h1).1 (hFG E ((h10 E).2 (.inl rfl)))).trans h1, h2, h3.only ho (fun k hk => hFG k ((h10 k).2 (.inr (.inr hk)))), h4, h5, map_only h6 ho (hFG bm ((h10 bm).2 (.inr (.inl rfl)))), h7, h8, h9, h10, h11, h12⟩
theorem ExpAt.below {lo E N : Nat} {S : List Ent} {F : Nat → Prop} {w w' : World} (h : ExpAt lo E N S F w) (hb : Below w.heap.size w w') : ExpAt lo E N S F w' :=
  h.only (Only.of_below (F := fun _ => False) hb) (fun _ _ h => h)
theorem ExpAt.lt {lo E N : Nat} {S : List Ent} {F : Nat → Prop} {w : World} (h : ExpAt lo E N S F w) (k : Nat) (hk : F k) : lo ≤ k ∧ k < w.heap.size := by
  obtain ⟨H, bm, n, D, L, Fh, h1, h2, h3, h4, h5, h6, h7, h8, h9, h10, h11, h12⟩ := h
  rcases (h10 k).1 hk with rfl | rfl | hk
  · exact ⟨h2, (Array.getElem?_eq_some_iff.1 h1).1⟩
  · exact ⟨h8.1, h6.lt⟩
  · exact h3.lt k hk
theorem own_isCells {w : World} {base e size n : Nat} {v : Value} {xs : List Value} (h : w.ownsRow base e size v n xs) {k : Nat} (hk : v.ownBlock = some k) : ∃ o : Obj, w.heap[k]? = some o ∧ o.isCells = true := by
  rcases h.2 with ⟨rfl, _⟩ | ⟨g, cap, cur, rfl, h2, h3, h4⟩
  · simp [Value.ownBlock] at hk
  · have e : g = k := by simpa [Value.ownBlock] using hk
    subst e
    exact ⟨_, h3, rfl⟩
theorem heap_isCells {lo H n : Nat} {L : List It} {F : Nat → Prop} {w : World} (h : HeapAt lo H n L F w) {k : Nat} (hk : F k) : ∃ o : Obj, w.heap[k]? = some o ∧ o.isCells = true := by
  obtain ⟨hb, ga, ca, v, ats, h1, h2, h3, h4, h5⟩ := h
  rcases (h5 k).1 hk with e | e | e | e
  · rw [e]; exact ⟨_, h1.box, rfl⟩
  · rw [e]; exact ⟨_, h1.top, rfl⟩
  · exact own_isCells h1.at_ (by rw [e]; rfl)
  · exact own_isCells h1.row e
/-- Its blocks from the expiry's own on are cells. -/
theorem ExpAt.isCells {lo E N : Nat} {S : List Ent} {F : Nat → Prop} {w : World} (h : ExpAt lo E N S F w) {k : Nat} (hk : F k) (hE : E ≤ k) : ∃ o : Obj, w.heap[k]? = some o ∧ o.isCells = true := by
  obtain ⟨H, bm, n, D, L, Fh, h1, h2, h3, h4, h5, h6, h7, h8, h9, h10, h11, h12⟩ := h
  rcases (h10 k).1 hk with rfl | rfl | hk
  · exact ⟨_, h1, rfl⟩
  · omega
  · exact heap_isCells h3 hk
theorem ExpAt.inv {lo E N : Nat} {S : List Ent} {F : Nat → Prop} {w : World} (h : ExpAt lo E N S F w) : Inv S := by
  obtain ⟨H, bm, n, D, L, Fh, h1, h2, h3, h4, h5, h6⟩ := h; exact h5
theorem ExpAt.mono {lo E N N' : Nat} {S : List Ent} {F : Nat → Prop} {w : World} (h : ExpAt lo E N S F w) (hN : N ≤ N') : ExpAt lo E N' S F w := by
  obtain ⟨H, bm, n, D, L, Fh, h1, h2, h3, h4, h5, h6, h7, h8⟩ := h
  exact ⟨H, bm, n, D, L, Fh, h1, h2, h3, h4, h5, h6, Nat.le_trans h7 hN, h8⟩

end Ex
end Go.Proofs.Ytkmgpajodbadmaa
