/- Arguments that are flat structs, and pairs of a list of texts and a number, with the bulk of their reading. -/
import Derived.Test.YtocoonkachbjaaaGreatDoorRows
import Derived.Test.YtocoonkachbjaaaGreatDoorArgsUp
import Derived.Test.YtocoonkachbjaaaGreatDoorLeaves
namespace Go.Proofs.YtocoonkachbjaaaGreatDoor
open Go.RowKit Go.ChangeShapes Go.WideShapes Go.Deep Go.Proofs.Ar
set_option linter.unusedVariables false
section
variable {H : Type} {enc : TypeId × Value → H} {P : Program} {w : World} {base : Nat} {spare : Nat → Bool} {held : Bool}
/-- A cell that reads as a value of a type, of no more than this bulk. -/
def LeafUp (enc : TypeId × Value → H) (P : Program) (w : World) (base : Nat) (spare : Nat → Bool) (held : Bool) (B : Nat) (t : TypeId) (v : Value) : Prop := ∃ n y, DataW.trod enc P w base spare held n t [v] = some y ∧ Rows.uptoBulk y.1 ≤ B
theorem LeafUp.leaf {B : Nat} {t : TypeId} {v : Value} (h : LeafUp enc P w base spare held B t v) : LeafIs enc P w base spare held t v := by obtain ⟨n, y, h, _⟩ := h; exact ⟨n, y, h⟩
theorem LeafUp.string {B : Nat} {t : TypeId} {v : Value} (ht : P.underlying t = some .string) (h : LeafUp enc P w base spare held B t v) : ∃ s : ByteArray, v = .string s ∧ s.size ≤ B := by
  obtain ⟨n, y, h, hb⟩ := h
  obtain ⟨q, e, rfl, hw⟩ := DataW.trod_string ht h
  refine ⟨q, by simpa using e, ?_⟩
  simp only [Rows.uptoBulk] at hb
  have e : q.data.toList.length = q.size := by simp
  omega
theorem single_up {B : Nat} {cs : List Value} {v : Value} {n : Nat} {t : TypeId} {x : DataW H × List MemPlace} (h : DataW.trod enc P w base spare held n t cs = some x) (hb : Rows.uptoBulk x.1 ≤ B) (e : cs = [v]) : cs.length = [t].length ∧ ∀ (i : Nat) (tl : TypeId) (u : Value), [t][i]? = some tl → cs[i]? = some u → LeafUp enc P w base spare held B tl u := by
  subst e
  refine ⟨rfl, fun i tl u h1 h2 => ?_⟩
  cases i with
  | zero => simp at h1 h2; subst h1 h2; exact ⟨n, x, h, hb⟩
  | succ i => simp at h1

theorem leaves_fs_up (B : Nat) (f : Nat) (ih : ∀ (t : TypeId) (ls : List TypeId) (n : Nat) (cs : List Value) (x : DataW H × List MemPlace), leaves P f t = some ls → DataW.trod enc P w base spare held n t cs = some x → Rows.uptoBulk x.1 ≤ B → cs.length = ls.length ∧ ∀ (i : Nat) (tl : TypeId) (u : Value), ls[i]? = some tl → cs[i]? = some u → LeafUp enc P w base spare held B tl u)
    (n : Nat) (cs : List Value) : ∀ (fs : List Field) (o : Nat) (m : List TypeId), leavesFs P (leaves P f) fs o = some m → (∀ fd ∈ fs, ∃ x, DataW.trod enc P w base spare held n fd.type ((cs.drop fd.offset).take (P.cellsOf fd.type)) = some x ∧ Rows.uptoBulk x.1 ≤ B) →
      ∀ (i : Nat) (tl : TypeId) (u : Value), m[i]? = some tl → cs[o + i]? = some u → LeafUp enc P w base spare held B tl u
  | [], o, m, h, hf, i, tl, u, h1, h2 => by
    simp [leavesFs] at h; subst h; simp at h1
  | fd :: r, o, m, h, hf, i, tl, u, h1, h2 => by
    unfold leavesFs at h
    by_cases ho : fd.offset = o
    · rw [if_pos ho] at h
      obtain ⟨m1, hm1, h⟩ := Option.bind_eq_some_iff.1 h
      by_cases hc : P.cellsOf fd.type = m1.length
      · rw [if_pos hc] at h
        obtain ⟨z, hz, rfl⟩ := Option.map_eq_some_iff.1 h
        obtain ⟨x, hx, hxb⟩ := hf fd List.mem_cons_self
        obtain ⟨hl, hat⟩ := ih _ _ _ _ _ hm1 hx hxb
        by_cases hi : i < m1.length
        · rw [List.getElem?_append_left hi] at h1
          refine hat i tl u h1 ?_
          rw [List.getElem?_take, if_pos (by omega), List.getElem?_drop, ho]
          exact h2
        · rw [List.getElem?_append_right (by omega)] at h1
          refine leaves_fs_up B f ih n cs r (o + m1.length) z hz (fun g hg => hf g (List.mem_cons_of_mem _ hg)) (i - m1.length) tl u h1 ?_
          rw [show o + m1.length + (i - m1.length) = o + i by omega]; exact h2
      · rw [if_neg hc] at h; cases h
    · rw [if_neg ho] at h; cases h

theorem leaves_up (B : Nat) : ∀ (f : Nat) (t : TypeId) (ls : List TypeId) (n : Nat) (cs : List Value) (x : DataW H × List MemPlace), leaves P f t = some ls → DataW.trod enc P w base spare held n t cs = some x → Rows.uptoBulk x.1 ≤ B → cs.length = ls.length ∧ ∀ (i : Nat) (tl : TypeId) (u : Value), ls[i]? = some tl → cs[i]? = some u → LeafUp enc P w base spare held B tl u
  | 0, t, ls, n, cs, x, h, hx, hb => by simp [leaves] at h
  | f + 1, t, ls, n, cs, x, h, hx, hb => by
    unfold leaves at h
    split at h
    · rename_i fs hu
      obtain ⟨l, hl, h⟩ := Option.bind_eq_some_iff.1 h
      by_cases hc : P.cellsOf t = l.length
      · rw [if_pos hc] at h
        cases h
        obtain ⟨xs, k, _, rfl, hlen, hxs, hat⟩ := DataW.trod_struct hu hx
        simp only [Rows.uptoBulk] at hb
        refine ⟨hlen.trans hc, fun i tl u h1 h2 => leaves_fs_up B f (leaves_up B f) k cs fs.toList 0 _ hl (fun fd hfd => ?_) i tl u h1 (by simpa using h2)⟩
        obtain ⟨j, hj, e⟩ := List.getElem_of_mem hfd
        have hj' : j < fs.size := by simpa using hj
        have hget : fs[j]? = some fd := by rw [← e]; simp [hj']
        have hx2 : j < xs.length := by rw [hxs]; exact hj'
        have hm := bulk_mem (xs.map (·.1)) xs[j].1 (List.mem_map.2 ⟨xs[j], List.getElem_mem hx2, rfl⟩)
        exact ⟨xs[j], (hat j fd hget).trans (List.getElem?_eq_getElem hx2), by omega⟩
      · rw [if_neg hc] at h; cases h
    · rename_i hu
      cases h
      obtain ⟨s, e, _⟩ := DataW.trod_string hu hx
      exact single_up hx hb e
    · rename_i hu
      cases h
      obtain ⟨s, e, _⟩ := DataW.trod_bool hu hx
      exact single_up hx hb e
    · rename_i k hu
      cases h
      obtain ⟨s, e, _⟩ := DataW.trod_int hu hx
      exact single_up hx hb e
    · cases h
end

theorem arg_flat_up {H : Type} {enc : TypeId × Value → H} {P : Program} {w : World} {t : TypeId} {fs : Array Field} {r : Reach} {b0 : Nat} {v : Value} {d : DataW H} {p : List MemPlace} (f : Nat) (ls : List TypeId) (hls : leaves P f t = some ls) (ht : P.underlying t = some (.struct fs))
    (hv : Value.okWide P w r b0 t v) (h : DataW.Trod enc P w 0 (fun _ => true) true t v d p) :
    ∃ cs : Array Value, v = .agg cs ∧ cs.size = ls.length ∧ ∀ (i : Nat) (tl : TypeId) (u : Value), ls[i]? = some tl → cs[i]? = some u → LeafUp enc P w 0 (fun _ => true) true (Rows.uptoBulk d) tl u := by
  obtain ⟨cs, rfl, hsz⟩ := okWide_struct ht hv
  obtain ⟨fuel, hf⟩ := h
  obtain ⟨hl, hat⟩ := leaves_up (Rows.uptoBulk d) f t ls fuel _ _ hls hf (Nat.le_refl _)
  simp only [Value.cells] at hl hat
  exact ⟨cs, rfl, by simpa using hl, fun i tl u h1 h2 => hat i tl u h1 (by simpa using h2)⟩

theorem texts_cells_up {H : Type} {enc : TypeId × Value → H} {P : Program} {w : World} {t e : TypeId} {fuel : Nat} {v : Value} {x : DataW H × List MemPlace} (ht : P.underlying t = some (.slice e)) (he : P.underlying e = some .string) (hc : P.cellsOf e = 1)
    (hf : DataW.trod enc P w 0 (fun _ => true) true fuel t [v] = some x) :
    ∃ ps : List ByteArray, TextArg w v ps ∧ (∀ s ∈ ps, s.size ≤ maxLen) ∧ ps.length ≤ maxLen ∧ ∀ s ∈ ps, s.size ≤ Rows.uptoBulk x.1 := by
  rcases open_strs ht he hc hf with ⟨hcs, hx⟩ | ⟨a, len', cap', m, Sx, hcs, _, hl, hm, hmm, hx, hcell⟩
  · simp at hcs
    subst hcs
    exact ⟨[], ⟨none, 0, rfl, fun j hj => absurd hj (Nat.not_lt_zero _)⟩, by simp, by simp, by simp⟩
  · simp at hcs
    subst hcs
    simp only [if_true] at hmm
    subst hmm
    refine ⟨(List.range len').map Sx, ⟨some a, m, by simp, fun j hj => ?_⟩, fun s hs => ?_, by simp; omega, fun s hs => ?_⟩
    · have hj' : j < len' := by simpa using hj
      have h0 := (hcell 0 (by omega)).1
      have hp := plain_of_cell (w := w) (a := a) (by simpa [Addr.add] using h0)
      have hjc := (hcell j (by omega)).1
      refine ⟨a.block, a.off, by rw [← hp], lt_of_cell (w := w) (a := a) (by simpa [Addr.add] using h0), ?_⟩
      rw [hp, add_plain_] at hjc
      simpa using hjc
    · obtain ⟨i, hi, rfl⟩ := List.mem_map.1 hs
      exact (hcell i (by have := List.mem_range.1 hi; omega)).2
    · obtain ⟨i, hi, rfl⟩ := List.mem_map.1 hs
      subst hx
      simp only [Rows.uptoBulk]
      have hb := bulk_mem ((List.range len').map fun i => (DataW.lit (.string (Sx i).data.toList) : DataW H)) (.lit (.string (Sx i).data.toList)) (List.mem_map.2 ⟨i, hi, rfl⟩)
      simp only [Rows.uptoBulk] at hb
      have e : (Sx i).data.toList.length = (Sx i).size := by simp
      omega

theorem arg_room {H : Type} {enc : TypeId × Value → H} {P : Program} {w : World} {t e : TypeId} {f0 f1 : Field} {r : Reach} {b0 : Nat} {v : Value} {d : DataW H} {p : List MemPlace} (ht : P.underlying t = some (.struct #[f0, f1]))
    (ce : P.cellsOf t = 2) (o0 : f0.offset = 0) (o1 : f1.offset = 1) (c0 : P.cellsOf f0.type = 1) (c1 : P.cellsOf f1.type = 1) (u0 : P.underlying f0.type = some (.slice e)) (he : P.underlying e = some .string) (hc : P.cellsOf e = 1) (u1 : P.underlying f1.type = some (.int .i64))
    (hv : Value.okWide P w r b0 t v) (h : DataW.Trod enc P w 0 (fun _ => true) true t v d p) :
    ∃ (x : Value) (n : Int) (ps : List ByteArray), v = .agg #[x, .int .i64 n] ∧ (Lit.int .i64 n).wf = true ∧ TextArg w x ps ∧ (∀ s ∈ ps, s.size ≤ maxLen) ∧ ps.length ≤ maxLen ∧ ∀ s ∈ ps, s.size ≤ Rows.uptoBulk d := by
  obtain ⟨cs, rfl, hsz⟩ := okWide_struct ht hv
  obtain ⟨fuel, hf⟩ := h
  obtain ⟨y0, y1, n, hd, hl, h0, h1⟩ := trod_struct2 ht hf
  have hd1 := congrArg Prod.fst hd
  simp only at hd1
  subst hd1
  rw [ce] at hsz
  obtain ⟨l⟩ := cs
  match l, hsz with
  | [a, b], _ =>
    simp only [Value.cells, o0, o1, c0, c1] at h0 h1
    obtain ⟨q1, e1, _, w1⟩ := DataW.trod_int u1 h1
    have e1' : b = .int .i64 q1 := by simpa using e1
    subst e1'
    obtain ⟨ps, t1, t2, t3, t4⟩ := texts_cells_up (v := a) u0 he hc h0
    refine ⟨a, q1, ps, rfl, w1, t1, t2, t3, fun s hs => ?_⟩
    have := t4 s hs
    simp only [Rows.uptoBulk, Rows.uptoBulkAll]
    omega

end Go.Proofs.YtocoonkachbjaaaGreatDoor
