/- A heap where it lies: its items, where each number stands. set. -/
import Derived.Test.YtkmgpajodbadmaaProg
import Derived.Test.YtkmgpajodbadmaaOnly
import Derived.Test.YtkmgpajodbadmaaHpPlain
import Derived.WalkLawsBesides
import Derived.WalkSpells
import Derived.BigQuiet
import Derived.Deep.QuietTactic
import Derived.Deep.RegionWith
import Derived.Deep.RegionHeld3
import Derived.Outline
namespace Go.Proofs.Ytkmgpajodbadmaa
open Go.RowKit
set_option linter.unusedVariables false
namespace Hp

def encI (x : It) : List Value := [.int .i64 x.1, .int .i64 x.2]
def encL (L : List It) : List Value := L.flatMap encI
theorem encL_len (L : List It) : (encL L).length = L.length * 2 := by
  induction L with
  | nil => rfl
  | cons a r ih => simp [encL, encI] at ih ⊢; omega
theorem encL_cons (a : It) (r : List It) : encL (a :: r) = .int .i64 a.1 :: .int .i64 a.2 :: encL r := rfl
theorem encL_app (L M : List It) : encL (L ++ M) = encL L ++ encL M := by simp [encL]
theorem encL_at : ∀ (L : List It) (k : Nat), k < L.length → (encL L)[k * 2]? = some (.int .i64 (g L k).1) ∧ (encL L)[k * 2 + 1]? = some (.int .i64 (g L k).2)
  | a :: r, 0, _ => ⟨rfl, rfl⟩
  | a :: r, k + 1, h => by
    have ih := encL_at r k (by simpa using h)
    rw [encL_cons, show (k + 1) * 2 = k * 2 + 1 + 1 by omega]
    exact ⟨by simpa [g] using ih.1, by simpa [g] using ih.2⟩
theorem encL_set : ∀ (L : List It) (k : Nat) (x : It), encL (L.set k x) = ((encL L).set (k * 2) (.int .i64 x.1)).set (k * 2 + 1) (.int .i64 x.2)
  | [], _, _ => by simp [encL]
  | a :: r, 0, x => by simp [encL, encI]
  | a :: r, k + 1, x => by
    rw [List.set_cons_succ, encL_cons, encL_cons, show (k + 1) * 2 = k * 2 + 1 + 1 by omega, encL_set r k x]
    simp
theorem encL_take : ∀ (L : List It) (k : Nat), encL (L.take k) = (encL L).take (k * 2)
  | [], _ => by simp [encL]
  | a :: r, 0 => by simp [encL]
  | a :: r, k + 1 => by
    rw [List.take_succ_cons, encL_cons, encL_cons, show (k + 1) * 2 = k * 2 + 1 + 1 by omega, encL_take r k]
    simp

def vI (n : Int) : Value := .int .i64 n
def ahV : Value := .func (.func 39) #[] #[]
def mvV (hb : Nat) : Value := .func (.func 40) #[] #[.pointer (some ⟨hb, 0, none⟩)]

/-- A heap's blocks: its items' list is v, they are M; its numbers' places are ats. -/
structure QAt (lo H hb ga ca : Nat) (v : Value) (M : List It) (ats : List Int) (w : World) : Prop where
  top : w.heap[H]? = some (.cells #[v, .func (.func 39) #[] #[], .func (.func 40) #[] #[.pointer (some ⟨hb, 0, none⟩)], .slice (some ⟨ga, 0, none⟩) ats.length ca] 73 (0, 0))
  box : w.heap[hb]? = some (.cells #[.pointer (some ⟨H, 0, none⟩)] 24 (0, 0))
  row : w.ownsRow lo 66 2 v M.length (encL M)
  at_ : w.ownsRow lo 3 1 (.slice (some ⟨ga, 0, none⟩) ats.length ca) ats.length (ats.map vI)
  loH : lo ≤ H
  loB : lo ≤ hb

/-- The blocks that a heap's calls write. -/
def Ft (H ga : Nat) (v : Value) (k : Nat) : Prop := k = H ∨ k = ga ∨ v.ownBlock = some k

theorem row_cells {w : World} {base e n : Nat} {v : Value} {M : List It} (h : w.ownsRow base e 2 v n (encL M)) (hn : M.length = n) (h0 : 0 < n) :
    ∃ gv cap, v = .slice (some ⟨gv, 0, none⟩) n cap ∧ n ≤ cap ∧ base ≤ gv ∧ gv < w.heap.size ∧ (∀ k, k < n → w.cell? ⟨gv, k * 2, none⟩ = some (.int .i64 (g M k).1) ∧ w.cell? ⟨gv, k * 2 + 1, none⟩ = some (.int .i64 (g M k).2)) ∧ (∀ j, w.frozen? ⟨gv, j, none⟩ = false) ∧
      w.heap[gv]?.map (fun o => match o with | .cells _ t _ => t | _ => 0) = some e := by
  obtain ⟨hl, h2⟩ := h
  rcases h2 with ⟨_, h2⟩ | ⟨gv, cap, cur, rfl, h3, h4, h5, h6, h7, h8⟩
  · omega
  · have ho : w.ownsRow base e 2 (.slice (some ⟨gv, 0, none⟩) n cap) n (encL M) := ⟨hl, .inr ⟨gv, cap, cur, rfl, h3, h4, h5, h6, h7, h8⟩⟩
    refine ⟨gv, cap, rfl, h5, h3, (Array.getElem?_eq_some_iff.1 h4).1, fun k hk => ?_, fun j => World.ownsRow.frozenAt ho j, by rw [h4]; rfl⟩
    have e := encL_at M k (by omega)
    rw [← e.1, ← e.2]
    exact ⟨World.ownsRow.cellAt ho (k * 2) (by omega), World.ownsRow.cellAt ho (k * 2 + 1) (by omega)⟩

end Hp
end Go.Proofs.Ytkmgpajodbadmaa
