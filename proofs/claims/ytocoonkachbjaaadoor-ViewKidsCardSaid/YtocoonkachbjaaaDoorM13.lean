/- Several texts in one: what each proves its own first comment says. -/
import Derived.Test.YtocoonkachbjaaaDoorM12

/- view.grow's first statement: whatever order its memory is made in. -/
namespace Go.Proofs.YtocoonkachbjaaaDoor
open Go.RowKit Go.Maps
set_option linter.unusedVariables false
namespace Vw

theorem gintLaw : Keyed Tryd.prog 3 := int_keyed Tryd.underlying3
theorem gzeroI (w : World) : (zeroValue 3).run Tryd.prog w = .ok (.int .i64 0) w := by kernel_rfl

theorem made_arr (v : Value) (n : Nat) : madeCells #[v] n = arr n (fun _ => v) := by
  unfold madeCells arr
  apply Array.ext_getElem?
  intro i
  by_cases h : i < n
  · simp [h, Nat.mod_one]
  · simp [h]
theorem ginfo_ints : (Tryd.prog.info? 58).map (fun i => (i.zero, i.size, i.bytes)) = some (some (.slice none 0 0), 1, 24) := by kernel_rfl
theorem make_rows (n : Nat) (hn : n ≤ 65536) (W : World) : (Instr.makeSlice 54 (.int .i64 ((n : Int) + 1)) (.int .i64 ((n : Int) + 1))).run Tryd.prog W = .ok (.slice (some ⟨W.heap.size, 0, none⟩) (n + 1) (n + 1)) (W.alloc (.cells (arr (n + 1) (fun _ => .slice none 0 0)) 58)) := by
  obtain ⟨i, hi, hz0, hz1, hz2⟩ := info_parts ginfo_ints
  have h := run_makeSlice (P := Tryd.prog) (w := W) 54 58 i _ Tryd.underlying54 hi hz0 .i64 .i64 ((n : Int) + 1) ((n : Int) + 1) (by omega) (by omega) (by rw [hz1]; omega) (by rw [hz2]; omega) (by omega)
  rw [h, hz1]
  have e : ((n : Int) + 1).toNat = n + 1 := by omega
  rw [e, Nat.mul_one]
  have e2 := made_arr (.slice none 0 0) (n + 1)
  rw [← e2]; rfl

theorem below_frozen {B : Nat} {w w' : World} (h : Below B w w') (b j : Nat) (hb : b < B) : w'.frozen? ⟨b, j, none⟩ = w.frozen? ⟨b, j, none⟩ := by unfold World.frozen?; rw [h.block b hb]

/-- What lies ready behind the first statement. -/
def G0 (ss : List Sess) (w : World) (t3 : Value) (wc : World) : Prop :=
  ∃ F g d, t3 = .pointer (some ⟨F, 0, none⟩) ∧ wc.heap[F]? = some (.cells #[d, .slice (some ⟨g, 0, none⟩) (ss.length + 1) (ss.length + 1)] 56 (0, 0)) ∧ wc.ownsRow (w.heap.size + 1) 30 12 d ss.length (allV ss) ∧
    wc.heap[g]? = some (.cells (arr (ss.length + 1) (fun _ => .slice none 0 0)) 58 (0, 0)) ∧ w.heap.size + 1 ≤ F ∧ w.heap.size + 1 ≤ g ∧ F ≠ g ∧ (∀ b, d.ownBlock = some b → b ≠ F ∧ b ≠ g) ∧ wc.heap[w.heap.size]? = some (.cells #[.slice none 0 0, .slice none 0 0] 56 (0, 0)) ∧ Below w.heap.size w wc

def fz : Obj := .cells #[.slice none 0 0, .slice none 0 0] 56
abbrev kz (g n : Nat) : Value := .slice (some ⟨g, 0, none⟩) (n + 1) (n + 1)
section
variable {ss : List Sess} {w w2 X : World} {d : Value}
def R0 (w : World) : World := w.alloc (.cells #[.slice none 0 0, .slice none 0 0] 56)
theorem r0_size (w : World) : (R0 w).heap.size = w.heap.size + 1 := by unfold R0; rw [World.size_alloc]
theorem r0_at (w : World) : (R0 w).heap[w.heap.size]? = some (.cells #[.slice none 0 0, .slice none 0 0] 56 (0, 0)) := Ut.alloc_at _ _
theorem r0_below (w : World) : Below w.heap.size w (R0 w) := (Below.refl _ _).alloc (Nat.le_refl _) _
theorem g0_intro {AR : Array Value} (hAR : AR = arr (ss.length + 1) (fun _ => .slice none 0 0)) (F g : Nat) (W : World) (hF : W.heap[F]? = some (.cells #[d, kz g ss.length] 56 (0, 0))) (hd : W.ownsRow (w.heap.size + 1) 30 12 d ss.length (allV ss))
    (hg : W.heap[g]? = some (.cells AR 58 (0, 0))) (h1 : w.heap.size + 1 ≤ F) (h2 : w.heap.size + 1 ≤ g) (h3 : F ≠ g) (h4 : ∀ b, d.ownBlock = some b → b ≠ F ∧ b ≠ g) (hb : Below (w.heap.size + 1) (R0 w) W) : G0 ss w (.pointer (some ⟨F, 0, none⟩)) W :=
  ⟨F, g, d, rfl, hF, hd, by rw [← hAR]; exact hg, h1, h2, h3, h4, (hb.block w.heap.size (Nat.lt_succ_self _)).trans (r0_at w), (r0_below w).trans (hb.mono (Nat.le_succ _))⟩
theorem two_sets {W : World} {F : Nat} {a b d K : Value} {t : TypeId} (h : W.heap[F]? = some (.cells #[a, b] t (0, 0))) : ((W.setCell ⟨F, 0, none⟩ d).setCell ⟨F, 1, none⟩ K).heap[F]? = some (.cells #[d, K] t (0, 0)) := by
  have h1 := heap_setCell_same W F 0 _ t d h
  rw [heap_setCell_same _ F 1 _ t K h1]
  rfl
theorem sets_other {W : World} {F b : Nat} {d K : Value} (h : b ≠ F) : ((W.setCell ⟨F, 0, none⟩ d).setCell ⟨F, 1, none⟩ K).heap[b]? = W.heap[b]? := by
  rw [Below.heap_setCell _ _ _ _ (fun e => h e), Below.heap_setCell _ _ _ _ (fun e => h e)]
theorem sets_size {W : World} {F : Nat} {d K : Value} : ((W.setCell ⟨F, 0, none⟩ d).setCell ⟨F, 1, none⟩ K).heap.size = W.heap.size := by simp [World.setCell]
theorem al_old {W : World} {o : Obj} {b : Nat} (h : b < W.heap.size) : (W.alloc o).heap[b]? = W.heap[b]? := Below.heap_alloc _ _ _ h

variable {AR : Array Value} (hAR : AR = arr (ss.length + 1) (fun _ => .slice none 0 0))
include hAR
theorem g0_1 (hb : Below (R0 w).drew.heap.size (R0 w).drew w2) (hd : w2.ownsRow (R0 w).drew.heap.size 30 12 d ss.length (allV ss)) : G0 ss w (.pointer (some ⟨w2.heap.size + 1, 0, none⟩)) ((w2.alloc (.cells AR 58)).alloc (.cells #[d, kz w2.heap.size ss.length] 56)) := by
  have e1 : (R0 w).drew.heap.size = w.heap.size + 1 := r0_size w
  rw [e1] at hb hd
  have hs := hb.size
  rw [e1] at hs
  refine g0_intro hAR (w2.heap.size + 1) w2.heap.size _ ?_ (own_keep hd (fun b e => by have := (hd.lt b e).2; rw [al_old (by simp; omega), al_old this])) ?_ (by omega) hs (by omega) (fun b e => by have := (hd.lt b e).2; omega) ?_
  · have := Ut.alloc_at (w2.alloc (.cells AR 58)) (.cells #[d, kz w2.heap.size ss.length] 56)
    rwa [World.size_alloc] at this
  · rw [al_old (by simp)]; exact Ut.alloc_at _ _
  · exact ((Below.trans (Below.drew (Below.refl _ (R0 w))) hb).alloc hs _).alloc (by simp; omega) _
theorem g0_2 (hb : Below (R0 w).drew.heap.size (R0 w).drew w2) (hd : w2.ownsRow (R0 w).drew.heap.size 30 12 d ss.length (allV ss)) : G0 ss w (.pointer (some ⟨w2.heap.size, 0, none⟩)) ((w2.alloc (.cells #[d, kz (w2.heap.size + 1) ss.length] 56)).alloc (.cells AR 58)) := by
  have e1 : (R0 w).drew.heap.size = w.heap.size + 1 := r0_size w
  rw [e1] at hb hd
  have hs := hb.size
  rw [e1] at hs
  refine g0_intro hAR w2.heap.size (w2.heap.size + 1) _ ?_ (own_keep hd (fun b e => by have := (hd.lt b e).2; rw [al_old (by simp; omega), al_old this])) ?_ hs (by omega) (by omega) (fun b e => by have := (hd.lt b e).2; omega) ?_
  · rw [al_old (by simp)]; exact Ut.alloc_at _ _
  · have := Ut.alloc_at (w2.alloc (.cells #[d, kz (w2.heap.size + 1) ss.length] 56)) (.cells AR 58)
    rwa [World.size_alloc] at this
  · exact ((Below.trans (Below.drew (Below.refl _ (R0 w))) hb).alloc hs _).alloc (by simp; omega) _
theorem g0_3 (hb : Below ((R0 w).alloc (.cells AR 58)).drew.heap.size ((R0 w).alloc (.cells AR 58)).drew w2) (hd : w2.ownsRow ((R0 w).alloc (.cells AR 58)).drew.heap.size 30 12 d ss.length (allV ss)) : G0 ss w (.pointer (some ⟨w2.heap.size, 0, none⟩)) (w2.alloc (.cells #[d, kz (w.heap.size + 1) ss.length] 56)) := by
  have e1 : ((R0 w).alloc (.cells AR 58)).drew.heap.size = w.heap.size + 2 := by show ((R0 w).alloc _).heap.size = _; rw [World.size_alloc, r0_size]
  rw [e1] at hb hd
  have hs := hb.size
  rw [e1] at hs
  refine g0_intro hAR w2.heap.size (w.heap.size + 1) _ ?_ (own_keep (Ut.own_base hd (by omega)) (fun b e => by have := (hd.lt b e).2; rw [al_old this])) ?_ (by omega) (by omega) (by omega) (fun b e => by have := hd.lt b e; omega) ?_
  · exact Ut.alloc_at _ _
  · rw [al_old (by omega), hb.block _ (by omega)]
    have := Ut.alloc_at (R0 w) (.cells AR 58)
    rwa [r0_size] at this
  · exact (((Below.drew ((Below.refl _ (R0 w)).alloc (by rw [r0_size]; exact Nat.le_refl _) _)).trans (hb.mono (show w.heap.size + 1 ≤ _ by omega)))).alloc (by omega) _
theorem g0_4 (hb : Below (((R0 w).alloc (.cells AR 58)).alloc fz).drew.heap.size (((R0 w).alloc (.cells AR 58)).alloc fz).drew w2) (hd : w2.ownsRow (((R0 w).alloc (.cells AR 58)).alloc fz).drew.heap.size 30 12 d ss.length (allV ss)) :
    G0 ss w (.pointer (some ⟨w.heap.size + 1 + 1, 0, none⟩)) ((w2.setCell ⟨w.heap.size + 1 + 1, 0, none⟩ d).setCell ⟨w.heap.size + 1 + 1, 1, none⟩ (kz (w.heap.size + 1) ss.length)) := by
  have e1 : (((R0 w).alloc (.cells AR 58)).alloc fz).drew.heap.size = w.heap.size + 3 := by show (((R0 w).alloc _).alloc _).heap.size = _; rw [World.size_alloc, World.size_alloc, r0_size]
  rw [e1] at hb hd
  have hs := hb.size
  rw [e1] at hs
  have hF : w2.heap[w.heap.size + 1 + 1]? = some (.cells #[.slice none 0 0, .slice none 0 0] 56 (0, 0)) := by
    rw [hb.block _ (by omega)]
    have := Ut.alloc_at ((R0 w).alloc (.cells AR 58)) fz
    rwa [World.size_alloc, r0_size] at this
  refine g0_intro hAR (w.heap.size + 1 + 1) (w.heap.size + 1) _ (two_sets hF) (own_keep (Ut.own_base hd (by omega)) (fun b e => by have := (hd.lt b e); rw [sets_other (by omega)])) ?_ (by omega) (by omega) (by omega) (fun b e => by have := hd.lt b e; omega) ?_
  · rw [sets_other (by omega), hb.block _ (by omega)]
    show (((R0 w).alloc (.cells AR 58)).alloc fz).heap[_]? = _
    rw [al_old (by rw [World.size_alloc, r0_size]; omega)]
    have := Ut.alloc_at (R0 w) (.cells AR 58)
    rwa [r0_size] at this
  · exact (((Below.drew (((Below.refl _ (R0 w)).alloc (by rw [r0_size]; exact Nat.le_refl _) _).alloc (show w.heap.size + 1 ≤ _ by rw [World.size_alloc, r0_size]; omega) _)).trans (hb.mono (show w.heap.size + 1 ≤ _ by omega))).setCell (p := ⟨w.heap.size + 1 + 1, 0, none⟩) (by show _ ≤ w.heap.size + 1 + 1; omega) _).setCell (p := ⟨w.heap.size + 1 + 1, 1, none⟩) (by show _ ≤ w.heap.size + 1 + 1; omega) _
theorem g0_5 (hb : Below ((R0 w).alloc fz).drew.heap.size ((R0 w).alloc fz).drew w2) (hd : w2.ownsRow ((R0 w).alloc fz).drew.heap.size 30 12 d ss.length (allV ss)) :
    G0 ss w (.pointer (some ⟨w.heap.size + 1, 0, none⟩)) (((w2.setCell ⟨w.heap.size + 1, 0, none⟩ d).setCell ⟨w.heap.size + 1, 1, none⟩ (kz w2.heap.size ss.length)).alloc (.cells AR 58)) := by
  have e1 : ((R0 w).alloc fz).drew.heap.size = w.heap.size + 2 := by show ((R0 w).alloc _).heap.size = _; rw [World.size_alloc, r0_size]
  rw [e1] at hb hd
  have hs := hb.size
  rw [e1] at hs
  have hF : w2.heap[w.heap.size + 1]? = some (.cells #[.slice none 0 0, .slice none 0 0] 56 (0, 0)) := by
    rw [hb.block _ (by omega)]
    have := Ut.alloc_at (R0 w) fz
    rwa [r0_size] at this
  refine g0_intro hAR (w.heap.size + 1) w2.heap.size _ ?_ (own_keep (Ut.own_base hd (by omega)) (fun b e => by have := (hd.lt b e); rw [al_old (by rw [sets_size]; omega), sets_other (by omega)])) ?_ (by omega) (by omega) (by omega) (fun b e => by have := hd.lt b e; omega) ?_
  · rw [al_old (by rw [sets_size]; omega)]; exact two_sets hF
  · have := Ut.alloc_at ((w2.setCell ⟨w.heap.size + 1, 0, none⟩ d).setCell ⟨w.heap.size + 1, 1, none⟩ (kz w2.heap.size ss.length)) (.cells AR 58)
    rwa [sets_size] at this
  · exact ((((Below.drew ((Below.refl _ (R0 w)).alloc (by rw [r0_size]; exact Nat.le_refl _) _)).trans (hb.mono (show w.heap.size + 1 ≤ _ by omega))).setCell (p := ⟨w.heap.size + 1, 0, none⟩) (show w.heap.size + 1 ≤ w.heap.size + 1 from Nat.le_refl _) _).setCell (p := ⟨w.heap.size + 1, 1, none⟩) (show w.heap.size + 1 ≤ w.heap.size + 1 from Nat.le_refl _) _).alloc (show w.heap.size + 1 ≤ _ by rw [sets_size]; omega) _
theorem g0_6 (hb : Below (((R0 w).alloc fz).alloc (.cells AR 58)).drew.heap.size (((R0 w).alloc fz).alloc (.cells AR 58)).drew w2) (hd : w2.ownsRow (((R0 w).alloc fz).alloc (.cells AR 58)).drew.heap.size 30 12 d ss.length (allV ss)) :
    G0 ss w (.pointer (some ⟨w.heap.size + 1, 0, none⟩)) ((w2.setCell ⟨w.heap.size + 1, 0, none⟩ d).setCell ⟨w.heap.size + 1, 1, none⟩ (kz (w.heap.size + 1 + 1) ss.length)) := by
  have e1 : (((R0 w).alloc fz).alloc (.cells AR 58)).drew.heap.size = w.heap.size + 3 := by show (((R0 w).alloc _).alloc _).heap.size = _; rw [World.size_alloc, World.size_alloc, r0_size]
  rw [e1] at hb hd
  have hs := hb.size
  rw [e1] at hs
  have hF : w2.heap[w.heap.size + 1]? = some (.cells #[.slice none 0 0, .slice none 0 0] 56 (0, 0)) := by
    rw [hb.block _ (by omega)]
    show (((R0 w).alloc fz).alloc (.cells AR 58)).heap[_]? = _
    rw [al_old (by rw [World.size_alloc, r0_size]; omega)]
    have := Ut.alloc_at (R0 w) fz
    rwa [r0_size] at this
  refine g0_intro hAR (w.heap.size + 1) (w.heap.size + 1 + 1) _ (two_sets hF) (own_keep (Ut.own_base hd (by omega)) (fun b e => by have := (hd.lt b e); rw [sets_other (by omega)])) ?_ (by omega) (by omega) (by omega) (fun b e => by have := hd.lt b e; omega) ?_
  · rw [sets_other (by omega), hb.block _ (by omega)]
    have := Ut.alloc_at ((R0 w).alloc fz) (.cells AR 58)
    rwa [World.size_alloc, r0_size] at this
  · exact (((Below.drew (((Below.refl _ (R0 w)).alloc (by rw [r0_size]; exact Nat.le_refl _) _).alloc (show w.heap.size + 1 ≤ _ by rw [World.size_alloc, r0_size]; omega) _)).trans (hb.mono (show w.heap.size + 1 ≤ _ by omega))).setCell (p := ⟨w.heap.size + 1, 0, none⟩) (show w.heap.size + 1 ≤ w.heap.size + 1 from Nat.le_refl _) _).setCell (p := ⟨w.heap.size + 1, 1, none⟩) (show w.heap.size + 1 ≤ w.heap.size + 1 from Nat.le_refl _) _
end

end Vw
end Go.Proofs.YtocoonkachbjaaaDoor
