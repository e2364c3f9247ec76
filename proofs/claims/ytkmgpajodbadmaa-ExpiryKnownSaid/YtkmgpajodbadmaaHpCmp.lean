/- The comparison of (*Heap).All. -/
import Derived.Test.YtkmgpajodbadmaaHpHeap
import Derived.Sort.Grow
namespace Go.Proofs.Ytkmgpajodbadmaa
open Go.RowKit Go.Sort
set_option linter.unusedVariables false
namespace Hp

def cf (x y : It) : Int := if ahd x y then -1 else 1

theorem ahead_G (S : World → Prop) (hS : ∀ w w', Below w.heap.size w w' → S w → S w') (x y : It) (w : World) (h : S w) :
    Calls Try.prog 39 #[.agg #[.int .i64 x.1, .int .i64 x.2], .agg #[.int .i64 y.1, .int .i64 y.2]] w fun e w' => e = .returned (.bool (ahd x y)) ∧ (∃ os, w' = grow w os) ∧ S w' := by
  refine (ahead_any x y w).mono fun e w' ⟨h1, h2⟩ => ?_
  have hb : Below w.heap.size w w' := by
    rw [h2]; exact ((Below.refl _ _).alloc (Nat.le_refl _) _).alloc (by simp) _
  exact ⟨h1, ⟨_, by rw [h2, alloc_eq_grow, alloc_eq_grow, grow_grow]⟩, hS w w' hb h⟩

theorem grow_drew (w : World) (os : Array Obj) : (grow w os).drew = grow w.drew os := rfl

set_option maxHeartbeats 2000000 in
theorem cmp_any (bx H : Nat) (x y : It) (W : World) (h1 : W.cell? ⟨bx, 0, none⟩ = some (.pointer (some ⟨H, 0, none⟩))) (h2 : W.cell? ⟨H, 1, none⟩ = some (.func (.func 39) #[] #[])) :
    Calls Try.prog 31 #[.agg #[.int .i64 x.1, .int .i64 x.2], .agg #[.int .i64 y.1, .int .i64 y.2], .pointer (some ⟨bx, 0, none⟩)] W fun e w' => e = .returned (.int .i64 (cf x y)) ∧ ∃ q os', w' = grow (W.drewN q) os' := by
  obtain ⟨W2, hW2⟩ : ∃ W2, W2 = (W.alloc (.cells #[.int .i64 x.1, .int .i64 x.2] 66)).alloc (.cells #[.int .i64 y.1, .int .i64 y.2] 66) := ⟨_, rfl⟩
  have hbl : Below W.heap.size W W2 := by rw [hW2]; exact ((Below.refl _ _).alloc (Nat.le_refl _) _).alloc (by simp) _
  have hg : W2 = grow W #[.cells #[.int .i64 x.1, .int .i64 x.2] 66, .cells #[.int .i64 y.1, .int .i64 y.2] 66] := by rw [hW2, alloc_eq_grow, alloc_eq_grow, grow_grow]; rfl
  have HG := Lib.hid hg
  have k1 := cell_keep hbl h1
  have k2 := cell_keep hbl h2
  have k3 : W2.cell? ⟨W.heap.size, 0, none⟩ = some (.int .i64 x.1) := by rw [hW2]; exact cell_keep (w := W.alloc (.cells #[.int .i64 x.1, .int .i64 x.2] 66)) ((Below.refl _ _).alloc (Nat.le_refl _) _) (by simp)
  have k4 : W2.cell? ⟨W.heap.size, 1, none⟩ = some (.int .i64 x.2) := by rw [hW2]; exact cell_keep (w := W.alloc (.cells #[.int .i64 x.1, .int .i64 x.2] 66)) ((Below.refl _ _).alloc (Nat.le_refl _) _) (by simp)
  have hs1 : (W.alloc (.cells #[.int .i64 x.1, .int .i64 x.2] 66)).heap.size = W.heap.size + 1 := by simp
  have k5 : W2.cell? ⟨W.heap.size + 1, 0, none⟩ = some (.int .i64 y.1) := by rw [hW2, ← hs1]; simp
  have k6 : W2.cell? ⟨W.heap.size + 1, 1, none⟩ = some (.int .i64 y.2) := by rw [hW2, ← hs1]; simp
  have HAH := Lib.hid (fun w' (h : w'.cell? ⟨bx, 0, none⟩ = some (.pointer (some ⟨H, 0, none⟩)) ∧ w'.cell? ⟨H, 1, none⟩ = some (.func (.func 39) #[] #[]) ∧ w'.cell? ⟨W.heap.size, 0, none⟩ = some (.int .i64 x.1) ∧ w'.cell? ⟨W.heap.size, 1, none⟩ = some (.int .i64 x.2) ∧ w'.cell? ⟨W.heap.size + 1, 0, none⟩ = some (.int .i64 y.1) ∧ w'.cell? ⟨W.heap.size + 1, 1, none⟩ = some (.int .i64 y.2)) =>
    ahead_G (fun w' => w'.cell? ⟨bx, 0, none⟩ = some (.pointer (some ⟨H, 0, none⟩)) ∧ w'.cell? ⟨H, 1, none⟩ = some (.func (.func 39) #[] #[]) ∧ w'.cell? ⟨W.heap.size, 0, none⟩ = some (.int .i64 x.1) ∧ w'.cell? ⟨W.heap.size, 1, none⟩ = some (.int .i64 x.2) ∧ w'.cell? ⟨W.heap.size + 1, 0, none⟩ = some (.int .i64 y.1) ∧ w'.cell? ⟨W.heap.size + 1, 1, none⟩ = some (.int .i64 y.2)) (fun w1 w2 hb h => ⟨cell_keep hb h.1, cell_keep hb h.2.1, cell_keep hb h.2.2.1, cell_keep hb h.2.2.2.1, cell_keep hb h.2.2.2.2.1, cell_keep hb h.2.2.2.2.2⟩) x y w' h)
  have HEND : Hid (∀ n os, ∃ q os', grow (W2.drewN n) os = grow (W.drewN q) os') := fun n os => by
    refine ⟨n, #[.cells #[.int .i64 x.1, .int .i64 x.2] 66, .cells #[.int .i64 y.1, .int .i64 y.2] 66] ++ os, ?_⟩
    rw [← grow_grow, HG.out]
    rfl
  clear hbl hg h1 h2 hs1
  cases hah : ahd x y with
  | true =>
    have HC : Hid (cf x y = -1) := by show _ = _; unfold cf; rw [hah]; rfl
    rw [hah] at HAH
    clear hah
    go_enter Try.func31, Try.ntmps31
    go_wp2
    rw [← hW2]
    clear hW2
    go_region_held3 (fun w' => w'.cell? ⟨bx, 0, none⟩ = some (.pointer (some ⟨H, 0, none⟩)) ∧ w'.cell? ⟨H, 1, none⟩ = some (.func (.func 39) #[] #[]) ∧ w'.cell? ⟨W.heap.size, 0, none⟩ = some (.int .i64 x.1) ∧ w'.cell? ⟨W.heap.size, 1, none⟩ = some (.int .i64 x.2) ∧ w'.cell? ⟨W.heap.size + 1, 0, none⟩ = some (.int .i64 y.1) ∧ w'.cell? ⟨W.heap.size + 1, 1, none⟩ = some (.int .i64 y.2)) (go_keep) (first | (go_at_call 39; refine (HAH.out _ ?_).mono ?_; (simp [*]); rintro e w3 ⟨rfl, ⟨os, rfl⟩, n1, n2, n3, n4, n5, n6⟩))
    go_wp2
    go_ret
    exact ⟨by rw [HC.out]; rfl, HEND.out 1 os⟩
  | false =>
    have HC : Hid (cf x y = 1) := by show _ = _; unfold cf; rw [hah]; rfl
    rw [hah] at HAH
    clear hah
    go_enter Try.func31, Try.ntmps31
    go_wp2
    rw [← hW2]
    clear hW2
    go_region_held3 (fun w' => w'.cell? ⟨bx, 0, none⟩ = some (.pointer (some ⟨H, 0, none⟩)) ∧ w'.cell? ⟨H, 1, none⟩ = some (.func (.func 39) #[] #[]) ∧ w'.cell? ⟨W.heap.size, 0, none⟩ = some (.int .i64 x.1) ∧ w'.cell? ⟨W.heap.size, 1, none⟩ = some (.int .i64 x.2) ∧ w'.cell? ⟨W.heap.size + 1, 0, none⟩ = some (.int .i64 y.1) ∧ w'.cell? ⟨W.heap.size + 1, 1, none⟩ = some (.int .i64 y.2)) (go_keep) (first | (go_at_call 39; refine (HAH.out _ ?_).mono ?_; (simp [*]); rintro e w3 ⟨rfl, ⟨os, rfl⟩, n1, n2, n3, n4, n5, n6⟩))
    go_wp2
    go_ret
    exact ⟨by rw [HC.out]; rfl, HEND.out 1 os⟩

end Hp
end Go.Proofs.Ytkmgpajodbadmaa
