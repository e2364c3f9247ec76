/- ViewBelow: the walk, from its arguments. -/
import Derived.Test.YtocoonkachbjaaaVwBelow
namespace Go.Proofs.Ytocoonkachbjaaa
open Go.RowKit Go.Proofs.Ar
set_option linter.unusedVariables false

theorem vu64_nat {n : Int} (wf : (Lit.int .u64 n).wf = true) : ∃ s : Nat, n = (s : Int) ∧ s < 18446744073709551616 := by
  simp [Lit.wf, IntKind.min, IntKind.max, IntKind.signed, IntKind.bits] at wf
  refine ⟨n.toNat, by omega, by omega⟩
theorem viewBelow_row0 {H : Type} {enc : TypeId × Value → H} {w : World} {base : Nat} {spare : Nat → Bool} {held : Bool} (s : List Value) (h : s.length = 12 ∧ ∀ (i : Nat) (tl : TypeId) (u : Value), [3, 3, 3, 3, 3, 9, 9, 38, 3, 3, 3, 3][i]? = some tl → s[i]? = some u → LeafIs enc Try.prog w base spare held tl u) : ∃ x : Vw.Sess, s = x.cells ∧ (Lit.int .i64 x.birth).wf = true ∧ (Lit.int .i64 x.ub).wf = true := by
  obtain ⟨hl, hs⟩ := h
  match s, hl with
  | [c0, c1, c2, c3, c4, c5, c6, c7, c8, c9, c10, c11], _ =>
    obtain ⟨n0, rfl, -⟩ := (hs 0 _ c0 rfl rfl).int Try.underlying3
    obtain ⟨n1, rfl, w1⟩ := (hs 1 _ c1 rfl rfl).int Try.underlying3
    obtain ⟨n2, rfl, -⟩ := (hs 2 _ c2 rfl rfl).int Try.underlying3
    obtain ⟨n3, rfl, w3⟩ := (hs 3 _ c3 rfl rfl).int Try.underlying3
    obtain ⟨n4, rfl, -⟩ := (hs 4 _ c4 rfl rfl).int Try.underlying3
    obtain ⟨s5, rfl, -⟩ := (hs 5 _ c5 rfl rfl).string Try.underlying9
    obtain ⟨s6, rfl, -⟩ := (hs 6 _ c6 rfl rfl).string Try.underlying9
    obtain ⟨n7, rfl, w7⟩ := (hs 7 _ c7 rfl rfl).int Try.underlying38
    obtain ⟨n8, rfl, -⟩ := (hs 8 _ c8 rfl rfl).int Try.underlying3
    obtain ⟨n9, rfl, -⟩ := (hs 9 _ c9 rfl rfl).int Try.underlying3
    obtain ⟨n10, rfl, -⟩ := (hs 10 _ c10 rfl rfl).int Try.underlying3
    obtain ⟨n11, rfl, -⟩ := (hs 11 _ c11 rfl rfl).int Try.underlying3
    obtain ⟨k7, rfl, hk7⟩ := vu64_nat w7
    exact ⟨⟨n0, n1, n2, n3, n4, s5, s6, k7, n8, n9, n10, n11⟩, rfl, w1, w3⟩
theorem sess_of_rows {w : World} {v : Value} {ps : List Vw.Sess} (h : RowArg w v 12 (ps.map Vw.Sess.cells)) : Vw.SessArg w v ps := by
  obtain ⟨p, cap, rfl, h⟩ := h
  refine ⟨p, cap, by simp, fun j hj => ?_⟩
  obtain ⟨_, g, o, h1, h2, h3⟩ := h j (by simpa using hj)
  have e : (ps.map Vw.Sess.cells)[j]'(by simpa using hj) = ps[j].cells := by simp
  rw [e] at h3
  exact ⟨g, o, h1, h2, fun i u hi => by rw [Nat.add_assoc]; exact h3 i u hi⟩

theorem viewBelow_walk (v : Value) (rs : List (List Value)) (hl : rs.length ≤ maxLen) (hz : ∀ s ∈ rs, ∃ x : Vw.Sess, s = x.cells ∧ (Lit.int .i64 x.birth).wf = true ∧ (Lit.int .i64 x.ub).wf = true) (b : Int) (wb : (Lit.int .i64 b).wf = true) (most : Int) (wm : (Lit.int .i64 most).wf = true) (w : World) (ht : RowArg w v 12 rs) :
    Calls Try.prog 3 #[v, .int .i64 b, .int .i64 most] w fun e w' => e = .returned (.bool true) ∧ Below w.heap.size w w' := by
  have hex : ∃ ps : List Vw.Sess, rs = ps.map Vw.Sess.cells ∧ ∀ s ∈ ps, (Lit.int .i64 s.birth).wf = true ∧ (Lit.int .i64 s.ub).wf = true := by
    clear hl ht
    induction rs with
    | nil => exact ⟨[], rfl, by simp⟩
    | cons a t ih =>
      obtain ⟨x, rfl, hx⟩ := hz a List.mem_cons_self
      obtain ⟨ps, rfl, hp⟩ := ih (fun s hs => hz s (List.mem_cons_of_mem _ hs))
      exact ⟨x :: ps, rfl, fun s hs => by
        rcases List.mem_cons.1 hs with rfl | hs
        · exact hx
        · exact hp s hs⟩
  obtain ⟨ps, rfl, hp⟩ := hex
  exact Vw.viewBelow_core v ps (by rw [List.length_map] at hl; unfold maxLen at hl; omega) hp b most w (sess_of_rows ht)

end Go.Proofs.Ytocoonkachbjaaa
