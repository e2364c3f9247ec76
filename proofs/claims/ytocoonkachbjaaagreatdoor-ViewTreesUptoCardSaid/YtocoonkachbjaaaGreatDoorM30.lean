/- Several texts in one: what each proves its own first comment says. -/
import Derived.Test.YtocoonkachbjaaaGreatDoorM29
import Derived.Lay
import Derived.LaidHandle

/- ViewTrees: the walk, from its arguments. -/
namespace Go.Proofs.YtocoonkachbjaaaGreatDoor
open Go.RowKit Go.Proofs.Ar Go.Proofs.YtocoonkachbjaaaGreatDoor.Sc
set_option linter.unusedVariables false
theorem viewTrees_row1 {H : Type} {enc : TypeId × Value → H} {w : World} {base : Nat} {spare : Nat → Bool} {held : Bool} {B : Nat} (s : List Value) (h : s.length = 12 ∧ ∀ (i : Nat) (tl : TypeId) (u : Value), [3, 3, 3, 3, 3, 9, 9, 28, 3, 3, 3, 3][i]? = some tl → s[i]? = some u → LeafUp enc Tryz.prog w base spare held B tl u) (hB : B ≤ 1048576) : ∃ x : Vw.Sess, s = x.cells ∧ Vw.SessOK x ∧ x.user.size ≤ 1048576 ∧ x.label.size ≤ 1048576 := by
  obtain ⟨x, rfl, hx⟩ := view_row s ⟨h.1, fun i tl u h1 h2 => (h.2 i tl u h1 h2).leaf⟩
  obtain ⟨s5, e5, z5⟩ := LeafUp.string Tryz.underlying9 (h.2 5 _ (.string x.user) rfl rfl)
  obtain ⟨s6, e6, z6⟩ := LeafUp.string Tryz.underlying9 (h.2 6 _ (.string x.label) rfl rfl)
  cases e5; cases e6
  exact ⟨x, rfl, hx, by omega, by omega⟩
theorem view_rows_up {rs : List (List Value)} (hz : ∀ s ∈ rs, ∃ x : Vw.Sess, s = x.cells ∧ Vw.SessOK x ∧ x.user.size ≤ 1048576 ∧ x.label.size ≤ 1048576) : ∃ ps : List Vw.Sess, rs = ps.map Vw.Sess.cells ∧ ∀ s ∈ ps, Vw.SessOK s ∧ s.user.size ≤ 1048576 ∧ s.label.size ≤ 1048576 := by
  induction rs with
  | nil => exact ⟨[], rfl, by simp⟩
  | cons a t ih =>
    obtain ⟨x, rfl, hx⟩ := hz a List.mem_cons_self
    obtain ⟨ps, rfl, hp⟩ := ih (fun s hs => hz s (List.mem_cons_of_mem _ hs))
    exact ⟨x :: ps, rfl, fun s hs => by
      rcases List.mem_cons.1 hs with rfl | hs
      · exact hx
      · exact hp s hs⟩
theorem viewTrees_walk (x : Value) (ls : List ByteArray) (hl : ls.length ≤ maxLen) (hz : ∀ s ∈ ls, s.size ≤ maxLen) (now : Int) (wn : (Lit.int .i64 now).wf = true) (v : Value) (rs : List (List Value)) (hrl : rs.length ≤ maxLen) (hr : ∀ s ∈ rs, ∃ x : Vw.Sess, s = x.cells ∧ Vw.SessOK x ∧ x.user.size ≤ 1048576 ∧ x.label.size ≤ 1048576) (w : World)
    (hL : laidMetH Tryz.prog Rows.viewTreesUptoRow.laid w) (hsh : w.ShapedOpen Tryz.prog) (ht : TextArg w x ls) (hy : ∀ s ∈ ls, s.size ≤ 1048576) (h1 : RowArg w v 12 rs) :
    Calls Tryz.prog 4 #[.agg #[x, .int .i64 now], v] w fun e w' => e = .returned (.bool true) ∧ Below w.heap.size w w' := by
  obtain ⟨ps, rfl, hp⟩ := view_rows_up hr
  exact Vw.viewTrees_core x ls hl hy now wn v ps (by rw [List.length_map] at hrl; unfold maxLen at hrl; omega) (fun s hs => (hp s hs).1) (fun s hs => (hp s hs).2) w (handle_of_laid hL (by kernel_rfl)) ⟨max_of_shape w hsh, parts_of_laid hL (by kernel_rfl), pow_of_laid hL (by kernel_rfl)⟩ ht (sess_of_rows h1)
end Go.Proofs.YtocoonkachbjaaaGreatDoor

/- A witness for a row that lists handles and pinned tables: the plain variables laid over the door's world. Of any program. -/
namespace Go.Proofs.La
open Go

theorem laidMet_over {P : Program} {w0 : World} {laid : List (String × DataW Unit)} (args : Array Value)
    (hf : w0.layFits P laid [] = true) (hi : w0.layIfaces P laid (w0.layVars P laid) = true) :
    laidMet P laid ((w0.layVars P laid).forCall (fun _ _ => 0) ⟨#[], args, []⟩).memory := by
  have e1 : (laid.filter fun x => (laid.map (·.1)).contains x.1) = laid := List.filter_eq_self.2 fun x hx => List.contains_iff_mem.2 (List.mem_map.2 ⟨x, hx, rfl⟩)
  have e2 : (laid.filter fun x => !(laid.map (·.1)).contains x.1) = [] := List.filter_eq_nil_iff.2 fun x hx => by rw [List.contains_iff_mem.2 (List.mem_map.2 ⟨x, hx, rfl⟩)]; simp
  have h : laidMet P laid (w0.layVars P laid) := laidMet_layVars (w0 := w0) (laid.map (·.1)) [] (by rw [e1]) (by rw [e1]; exact hf) (by rw [e1]; exact hi) (by rw [e2]; exact LaidIn.none)
  exact h.of_heap (by simp [World.memory, World.forCall, Input.heap])

end Go.Proofs.La
