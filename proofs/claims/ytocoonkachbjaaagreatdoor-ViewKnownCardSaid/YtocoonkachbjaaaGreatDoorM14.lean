/- Several texts in one: what each proves its own first comment says. -/
import Derived.Test.YtocoonkachbjaaaGreatDoorM13
import Derived.Deep.RegionLaw
import Derived.Deep.CutRange
import Derived.Deep.RegionHeld3
import Derived.OrdersIn
import Derived.RangeFuncCalls
import Derived.WalkKit

/- view.grow's first statement: whatever order its memory is made in. -/
namespace Go.Proofs.YtocoonkachbjaaaGreatDoor
open Go.RowKit Go.Maps
set_option linter.unusedVariables false
namespace Vw

theorem gintLaw : Keyed Tryz.prog 3 := int_keyed Tryz.underlying3
theorem gzeroI (w : World) : (zeroValue 3).run Tryz.prog w = .ok (.int .i64 0) w := by kernel_rfl

theorem made_arr (v : Value) (n : Nat) : madeCells #[v] n = arr n (fun _ => v) := by
  unfold madeCells arr
  apply Array.ext_getElem?
  intro i
  by_cases h : i < n
  · simp [h, Nat.mod_one]
  · simp [h]
theorem ginfo_ints : (Tryz.prog.info? 82).map (fun i => (i.zero, i.size, i.bytes)) = some (some (.slice none 0 0), 1, 24) := by kernel_rfl
theorem make_rows (n : Nat) (hn : n ≤ 65536) (W : World) : (Instr.makeSlice 75 (.int .i64 ((n : Int) + 1)) (.int .i64 ((n : Int) + 1))).run Tryz.prog W = .ok (.slice (some ⟨W.heap.size, 0, none⟩) (n + 1) (n + 1)) (W.alloc (.cells (arr (n + 1) (fun _ => .slice none 0 0)) 82)) := by
  obtain ⟨i, hi, hz0, hz1, hz2⟩ := info_parts ginfo_ints
  have h := run_makeSlice (P := Tryz.prog) (w := W) 75 82 i _ Tryz.underlying75 hi hz0 .i64 .i64 ((n : Int) + 1) ((n : Int) + 1) (by omega) (by omega) (by rw [hz1]; omega) (by rw [hz2]; omega) (by omega)
  rw [h, hz1]
  have e : ((n : Int) + 1).toNat = n + 1 := by omega
  rw [e, Nat.mul_one]
  have e2 := made_arr (.slice none 0 0) (n + 1)
  rw [← e2]; rfl

/-- What lies ready behind the first statement. -/
def G0 (ss : List Sess) (w : World) (t3 : Value) (wc : World) : Prop :=
  ∃ F g d, t3 = .pointer (some ⟨F, 0, none⟩) ∧ wc.heap[F]? = some (.cells #[d, .slice (some ⟨g, 0, none⟩) (ss.length + 1) (ss.length + 1)] 77 (0, 0)) ∧ wc.ownsRow (w.heap.size + 1) 30 12 d ss.length (allV ss) ∧
    wc.heap[g]? = some (.cells (arr (ss.length + 1) (fun _ => .slice none 0 0)) 82 (0, 0)) ∧ w.heap.size + 1 ≤ F ∧ w.heap.size + 1 ≤ g ∧ F ≠ g ∧ (∀ b, d.ownBlock = some b → b ≠ F ∧ b ≠ g) ∧ wc.heap[w.heap.size]? = some (.cells #[.slice none 0 0, .slice none 0 0] 77 (0, 0)) ∧ Below w.heap.size w wc

def fz : Obj := .cells #[.slice none 0 0, .slice none 0 0] 77
abbrev kz (g n : Nat) : Value := .slice (some ⟨g, 0, none⟩) (n + 1) (n + 1)
section
variable {ss : List Sess} {w w2 X : World} {d : Value}
def R0 (w : World) : World := w.alloc (.cells #[.slice none 0 0, .slice none 0 0] 77)
theorem r0_size (w : World) : (R0 w).heap.size = w.heap.size + 1 := by unfold R0; rw [World.size_alloc]
theorem r0_at (w : World) : (R0 w).heap[w.heap.size]? = some (.cells #[.slice none 0 0, .slice none 0 0] 77 (0, 0)) := Ut.alloc_at _ _
theorem r0_below (w : World) : Below w.heap.size w (R0 w) := (Below.refl _ _).alloc (Nat.le_refl _) _
theorem g0_intro {AR : Array Value} (hAR : AR = arr (ss.length + 1) (fun _ => .slice none 0 0)) (F g : Nat) (W : World) (hF : W.heap[F]? = some (.cells #[d, kz g ss.length] 77 (0, 0))) (hd : W.ownsRow (w.heap.size + 1) 30 12 d ss.length (allV ss))
    (hg : W.heap[g]? = some (.cells AR 82 (0, 0))) (h1 : w.heap.size + 1 ≤ F) (h2 : w.heap.size + 1 ≤ g) (h3 : F ≠ g) (h4 : ∀ b, d.ownBlock = some b → b ≠ F ∧ b ≠ g) (hb : Below (w.heap.size + 1) (R0 w) W) : G0 ss w (.pointer (some ⟨F, 0, none⟩)) W :=
  ⟨F, g, d, rfl, hF, hd, by rw [← hAR]; exact hg, h1, h2, h3, h4, (hb.block w.heap.size (Nat.lt_succ_self _)).trans (r0_at w), (r0_below w).trans (hb.mono (Nat.le_succ _))⟩
theorem two_sets {W : World} {F : Nat} {a b d K : Value} {t : TypeId} (h : W.heap[F]? = some (.cells #[a, b] t (0, 0))) : ((W.setCell ⟨F, 0, none⟩ d).setCell ⟨F, 1, none⟩ K).heap[F]? = some (.cells #[d, K] t (0, 0)) := by
  have h1 := heap_setCell_same W F 0 _ t d h
  rw [heap_setCell_same _ F 1 _ t K h1]
  rfl
theorem sets_other {W : World} {F b : Nat} {d K : Value} (h : b ≠ F) : ((W.setCell ⟨F, 0, none⟩ d).setCell ⟨F, 1, none⟩ K).heap[b]? = W.heap[b]? := by
  rw [Below.heap_setCell _ _ _ _ (fun e => h e), Below.heap_setCell _ _ _ _ (fun e => h e)]
theorem sets_size {W : World} {F : Nat} {d K : Value} : ((W.setCell ⟨F, 0, none⟩ d).setCell ⟨F, 1, none⟩ K).heap.size = W.heap.size := by simp [World.setCell]
theorem al_old {W : World} {o : Obj} {b : Nat} (h : b < W.heap.size) : (W.alloc o).heap[b]? = W.heap[b]? := Below.heap_alloc _ _ _ h

variable {AR : Array Value} (hAR : AR = arr (ss.length + 1) (fun _ => .slice none 0 0))
include hAR
theorem g0_1 (hb : Below (R0 w).drew.heap.size (R0 w).drew w2) (hd : w2.ownsRow (R0 w).drew.heap.size 30 12 d ss.length (allV ss)) : G0 ss w (.pointer (some ⟨w2.heap.size + 1, 0, none⟩)) ((w2.alloc (.cells AR 82)).alloc (.cells #[d, kz w2.heap.size ss.length] 77)) := by
  have e1 : (R0 w).drew.heap.size = w.heap.size + 1 := r0_size w
  rw [e1] at hb hd
  have hs := hb.size
  rw [e1] at hs
  refine g0_intro hAR (w2.heap.size + 1) w2.heap.size _ ?_ (own_keep hd (fun b e => by have := (hd.lt b e).2; rw [al_old (by simp; omega), al_old this])) ?_ (by omega) hs (by omega) (fun b e => by have := (hd.lt b e).2; omega) ?_
  · have := Ut.alloc_at (w2.alloc (.cells AR 82)) (.cells #[d, kz w2.heap.size ss.length] 77)
    rwa [World.size_alloc] at this
  · rw [al_old (by simp)]; exact Ut.alloc_at _ _
  · exact ((Below.trans (Below.drew (Below.refl _ (R0 w))) hb).alloc hs _).alloc (by simp; omega) _
theorem g0_2 (hb : Below (R0 w).drew.heap.size (R0 w).drew w2) (hd : w2.ownsRow (R0 w).drew.heap.size 30 12 d ss.length (allV ss)) : G0 ss w (.pointer (some ⟨w2.heap.size, 0, none⟩)) ((w2.alloc (.cells #[d, kz (w2.heap.size + 1) ss.length] 77)).alloc (.cells AR 82)) := by
  have e1 : (R0 w).drew.heap.size = w.heap.size + 1 := r0_size w
  rw [e1] at hb hd
  have hs := hb.size
  rw [e1] at hs
  refine g0_intro hAR w2.heap.size (w2.heap.size + 1) _ ?_ (own_keep hd (fun b e => by have := (hd.lt b e).2; rw [al_old (by simp; omega), al_old this])) ?_ hs (by omega) (by omega) (fun b e => by have := (hd.lt b e).2; omega) ?_
  · rw [al_old (by simp)]; exact Ut.alloc_at _ _
  · have := Ut.alloc_at (w2.alloc (.cells #[d, kz (w2.heap.size + 1) ss.length] 77)) (.cells AR 82)
    rwa [World.size_alloc] at this
  · exact ((Below.trans (Below.drew (Below.refl _ (R0 w))) hb).alloc hs _).alloc (by simp; omega) _
theorem g0_3 (hb : Below ((R0 w).alloc (.cells AR 82)).drew.heap.size ((R0 w).alloc (.cells AR 82)).drew w2) (hd : w2.ownsRow ((R0 w).alloc (.cells AR 82)).drew.heap.size 30 12 d ss.length (allV ss)) : G0 ss w (.pointer (some ⟨w2.heap.size, 0, none⟩)) (w2.alloc (.cells #[d, kz (w.heap.size + 1) ss.length] 77)) := by
  have e1 : ((R0 w).alloc (.cells AR 82)).drew.heap.size = w.heap.size + 2 := by show ((R0 w).alloc _).heap.size = _; rw [World.size_alloc, r0_size]
  rw [e1] at hb hd
  have hs := hb.size
  rw [e1] at hs
  refine g0_intro hAR w2.heap.size (w.heap.size + 1) _ ?_ (own_keep (Ut.own_base hd (by omega)) (fun b e => by have := (hd.lt b e).2; rw [al_old this])) ?_ (by omega) (by omega) (by omega) (fun b e => by have := hd.lt b e; omega) ?_
  · exact Ut.alloc_at _ _
  · rw [al_old (by omega), hb.block _ (by omega)]
    have := Ut.alloc_at (R0 w) (.cells AR 82)
    rwa [r0_size] at this
  · exact (((Below.drew ((Below.refl _ (R0 w)).alloc (by rw [r0_size]; exact Nat.le_refl _) _)).trans (hb.mono (show w.heap.size + 1 ≤ _ by omega)))).alloc (by omega) _
theorem g0_4 (hb : Below (((R0 w).alloc (.cells AR 82)).alloc fz).drew.heap.size (((R0 w).alloc (.cells AR 82)).alloc fz).drew w2) (hd : w2.ownsRow (((R0 w).alloc (.cells AR 82)).alloc fz).drew.heap.size 30 12 d ss.length (allV ss)) :
    G0 ss w (.pointer (some ⟨w.heap.size + 1 + 1, 0, none⟩)) ((w2.setCell ⟨w.heap.size + 1 + 1, 0, none⟩ d).setCell ⟨w.heap.size + 1 + 1, 1, none⟩ (kz (w.heap.size + 1) ss.length)) := by
  have e1 : (((R0 w).alloc (.cells AR 82)).alloc fz).drew.heap.size = w.heap.size + 3 := by show (((R0 w).alloc _).alloc _).heap.size = _; rw [World.size_alloc, World.size_alloc, r0_size]
  rw [e1] at hb hd
  have hs := hb.size
  rw [e1] at hs
  have hF : w2.heap[w.heap.size + 1 + 1]? = some (.cells #[.slice none 0 0, .slice none 0 0] 77 (0, 0)) := by
    rw [hb.block _ (by omega)]
    have := Ut.alloc_at ((R0 w).alloc (.cells AR 82)) fz
    rwa [World.size_alloc, r0_size] at this
  refine g0_intro hAR (w.heap.size + 1 + 1) (w.heap.size + 1) _ (two_sets hF) (own_keep (Ut.own_base hd (by omega)) (fun b e => by have := (hd.lt b e); rw [sets_other (by omega)])) ?_ (by omega) (by omega) (by omega) (fun b e => by have := hd.lt b e; omega) ?_
  · rw [sets_other (by omega), hb.block _ (by omega)]
    show (((R0 w).alloc (.cells AR 82)).alloc fz).heap[_]? = _
    rw [al_old (by rw [World.size_alloc, r0_size]; omega)]
    have := Ut.alloc_at (R0 w) (.cells AR 82)
    rwa [r0_size] at this
  · exact (((Below.drew (((Below.refl _ (R0 w)).alloc (by rw [r0_size]; exact Nat.le_refl _) _).alloc (show w.heap.size + 1 ≤ _ by rw [World.size_alloc, r0_size]; omega) _)).trans (hb.mono (show w.heap.size + 1 ≤ _ by omega))).setCell (p := ⟨w.heap.size + 1 + 1, 0, none⟩) (by show _ ≤ w.heap.size + 1 + 1; omega) _).setCell (p := ⟨w.heap.size + 1 + 1, 1, none⟩) (by show _ ≤ w.heap.size + 1 + 1; omega) _
theorem g0_5 (hb : Below ((R0 w).alloc fz).drew.heap.size ((R0 w).alloc fz).drew w2) (hd : w2.ownsRow ((R0 w).alloc fz).drew.heap.size 30 12 d ss.length (allV ss)) :
    G0 ss w (.pointer (some ⟨w.heap.size + 1, 0, none⟩)) (((w2.setCell ⟨w.heap.size + 1, 0, none⟩ d).setCell ⟨w.heap.size + 1, 1, none⟩ (kz w2.heap.size ss.length)).alloc (.cells AR 82)) := by
  have e1 : ((R0 w).alloc fz).drew.heap.size = w.heap.size + 2 := by show ((R0 w).alloc _).heap.size = _; rw [World.size_alloc, r0_size]
  rw [e1] at hb hd
  have hs := hb.size
  rw [e1] at hs
  have hF : w2.heap[w.heap.size + 1]? = some (.cells #[.slice none 0 0, .slice none 0 0] 77 (0, 0)) := by
    rw [hb.block _ (by omega)]
    have := Ut.alloc_at (R0 w) fz
    rwa [r0_size] at this
  refine g0_intro hAR (w.heap.size + 1) w2.heap.size _ ?_ (own_keep (Ut.own_base hd (by omega)) (fun b e => by have := (hd.lt b e); rw [al_old (by rw [sets_size]; omega), sets_other (by omega)])) ?_ (by omega) (by omega) (by omega) (fun b e => by have := hd.lt b e; omega) ?_
  · rw [al_old (by rw [sets_size]; omega)]; exact two_sets hF
  · have := Ut.alloc_at ((w2.setCell ⟨w.heap.size + 1, 0, none⟩ d).setCell ⟨w.heap.size + 1, 1, none⟩ (kz w2.heap.size ss.length)) (.cells AR 82)
    rwa [sets_size] at this
  · exact ((((Below.drew ((Below.refl _ (R0 w)).alloc (by rw [r0_size]; exact Nat.le_refl _) _)).trans (hb.mono (show w.heap.size + 1 ≤ _ by omega))).setCell (p := ⟨w.heap.size + 1, 0, none⟩) (show w.heap.size + 1 ≤ w.heap.size + 1 from Nat.le_refl _) _).setCell (p := ⟨w.heap.size + 1, 1, none⟩) (show w.heap.size + 1 ≤ w.heap.size + 1 from Nat.le_refl _) _).alloc (show w.heap.size + 1 ≤ _ by rw [sets_size]; omega) _
theorem g0_6 (hb : Below (((R0 w).alloc fz).alloc (.cells AR 82)).drew.heap.size (((R0 w).alloc fz).alloc (.cells AR 82)).drew w2) (hd : w2.ownsRow (((R0 w).alloc fz).alloc (.cells AR 82)).drew.heap.size 30 12 d ss.length (allV ss)) :
    G0 ss w (.pointer (some ⟨w.heap.size + 1, 0, none⟩)) ((w2.setCell ⟨w.heap.size + 1, 0, none⟩ d).setCell ⟨w.heap.size + 1, 1, none⟩ (kz (w.heap.size + 1 + 1) ss.length)) := by
  have e1 : (((R0 w).alloc fz).alloc (.cells AR 82)).drew.heap.size = w.heap.size + 3 := by show (((R0 w).alloc _).alloc _).heap.size = _; rw [World.size_alloc, World.size_alloc, r0_size]
  rw [e1] at hb hd
  have hs := hb.size
  rw [e1] at hs
  have hF : w2.heap[w.heap.size + 1]? = some (.cells #[.slice none 0 0, .slice none 0 0] 77 (0, 0)) := by
    rw [hb.block _ (by omega)]
    show (((R0 w).alloc fz).alloc (.cells AR 82)).heap[_]? = _
    rw [al_old (by rw [World.size_alloc, r0_size]; omega)]
    have := Ut.alloc_at (R0 w) fz
    rwa [r0_size] at this
  refine g0_intro hAR (w.heap.size + 1) (w.heap.size + 1 + 1) _ (two_sets hF) (own_keep (Ut.own_base hd (by omega)) (fun b e => by have := (hd.lt b e); rw [sets_other (by omega)])) ?_ (by omega) (by omega) (by omega) (fun b e => by have := hd.lt b e; omega) ?_
  · rw [sets_other (by omega), hb.block _ (by omega)]
    have := Ut.alloc_at ((R0 w).alloc fz) (.cells AR 82)
    rwa [World.size_alloc, r0_size] at this
  · exact (((Below.drew (((Below.refl _ (R0 w)).alloc (by rw [r0_size]; exact Nat.le_refl _) _).alloc (show w.heap.size + 1 ≤ _ by rw [World.size_alloc, r0_size]; omega) _)).trans (hb.mono (show w.heap.size + 1 ≤ _ by omega))).setCell (p := ⟨w.heap.size + 1, 0, none⟩) (show w.heap.size + 1 ≤ w.heap.size + 1 from Nat.le_refl _) _).setCell (p := ⟨w.heap.size + 1, 1, none⟩) (show w.heap.size + 1 ≤ w.heap.size + 1 from Nat.le_refl _) _
end

end Vw
end Go.Proofs.YtocoonkachbjaaaGreatDoor

/- view.grow: the forest with each one's children. -/
namespace Go.Proofs.YtocoonkachbjaaaGreatDoor
open Go.RowKit Go.Maps
set_option linter.unusedVariables false
namespace Vw

theorem gint_of_lit {x : DataW Unit} {a b : Int} (h1 : x = .lit (.int .i64 a)) (h2 : x = .lit (.int .i64 b)) : a = b := by
  have := h1.symm.trans h2
  injection this with this
  injection this
/-- A look-up whose answer is known. -/
theorem gl_known {P : Program} {w : World} {ops : Array Oper} {rest : List Oper} {o : Oper} {a : Act} {Q : Exit → Act → World → Prop} (hg : o.guard = none) (m x : Operand) (t : TypeId) (hop : o.op = Op.lookup t m x true)
    (k e : TypeId) (K : Keyed P k) (ht : P.underlying t = some (.map k e)) (he : P.underlying e = some (.int .i64)) (hz : (zeroValue e).run P w = .ok (.int .i64 0) w) (b n : Nat) (D : DataW Unit)
    (hm : a.eval m = .map (some b)) (hown : w.ownsMap P k (plainElem P e) b n D) (key : Value) (kl : Lit) (hx : a.eval x = key) (hkey : keyOf P k key = some kl) (j : Int) (hj : D.atKey kl (.lit (.int .i64 0)) = .lit (.int .i64 j)) (hh : Maps.has D kl = true)
    (hK : wpList P ops Q rest (a.put o.dst (.tuple #[.int .i64 j, .bool true])) w) : wpList P ops Q (o :: rest) a w :=
  wpList_lookup_own_ok_int w hg m x t hop k e .i64 K ht he hz b n D hm hown key kl hx hkey fun c hat _ => by
    have e1 : c = j := gint_of_lit hat hj
    rw [e1, hh]; exact hK

theorem start_rows {ss : List Sess} {lo L F bm g : Nat} {d : Value} {w : World} (box : w.heap[F]? = some (.cells #[d, .slice (some ⟨g, 0, none⟩) (ss.length + 1) (ss.length + 1)] 77 (0, 0))) (clone : w.ownsRow lo 30 12 d ss.length (allV ss))
    (top : w.heap[g]? = some (.cells (arr (ss.length + 1) (fun _ => .slice none 0 0)) 82 (0, 0))) (map : w.ownsMap Tryz.prog 3 (plainElem (H := Unit) Tryz.prog 3) bm 0 (.map [])) (lF : lo ≤ F ∧ F < L) (lg : lo ≤ g ∧ g < L) (lm : lo ≤ bm ∧ bm < L) (nFg : F ≠ g) (nFm : F ≠ bm) (ngm : g ≠ bm)
    (cl : ∀ b, d.ownBlock = some b → b < L ∧ b ≠ F ∧ b ≠ g ∧ b ≠ bm) (lL : lo ≤ L ∧ L ≤ w.heap.size) : GrAt ss lo L F bm g d 0 w :=
  ⟨box, clone, ⟨fun _ => .slice none 0 0, top, fun j _ => by rw [Vt.krow_zero]; exact World.ownsRow_nil _ _ _ _, fun i j b _ _ _ e => by cases e⟩, ⟨0, _, map, Nat.le_refl _, MapL.nil _⟩, lF, lg, lm, nFg, nFm, ngm, cl, lL⟩

theorem GrAt.keepR {ss : List Sess} {lo L F bm g : Nat} {d : Value} {i : Nat} {w w' : World} (h : GrAt ss lo L F bm g d i w) (hb : ∀ b, lo ≤ b → w'.heap[b]? = w.heap[b]?) (hs : w.heap.size ≤ w'.heap.size) : GrAt ss lo L F bm g d i w' := by
  obtain ⟨vs, hv⟩ := h.rows
  obtain ⟨k, D, hm, hk⟩ := h.map
  exact ⟨(hb F h.lF.1).trans h.box, own_keep h.clone (fun b e => hb b (h.clone.lt b e).1), ⟨vs, hv.keep (hb g h.lg.1) (fun b h1 _ => hb b (Nat.le_trans h.lL.1 h1))⟩, ⟨k, D, vmap_keep hm (hb bm h.lm.1), hk⟩, h.lF, h.lg, h.lm, h.nFg, h.nFm, h.ngm, h.cl, h.lL.1, Nat.le_trans h.lL.2 hs⟩
theorem GrAt.low {ss : List Sess} {lo lo' L F bm g : Nat} {d : Value} {i : Nat} {w : World} (h : GrAt ss lo L F bm g d i w) (hl : lo' ≤ lo) : GrAt ss lo' L F bm g d i w :=
  ⟨h.box, Ut.own_base h.clone hl, h.rows, h.map, ⟨Nat.le_trans hl h.lF.1, h.lF.2⟩, ⟨Nat.le_trans hl h.lg.1, h.lg.2⟩, ⟨Nat.le_trans hl h.lm.1, h.lm.2⟩, h.nFg, h.nFm, h.ngm, h.cl, Nat.le_trans hl h.lL.1, h.lL.2⟩
def R10 (ss : List Sess) (L g r k : Nat) (vs : Nat → Value) (W1 wc : World) : Prop :=
  ∃ (v' : Value) (w3 : World) (o : Obj), w3.ownsRow L 3 1 v' ((Vt.krow (bu ss) k r).length + 1) ((Vt.krow (bu ss) k r).map nv ++ [nv k]) ∧ (W1.drew.alloc o).grownBy w3 (vs r).ownBlock ∧ (v'.ownBlock = (vs r).ownBlock ∨ v'.ownBlock = some (W1.drew.heap.size + 1)) ∧ wc = w3.setCell ⟨g, r, none⟩ v'
def GwRel (ss : List Sess) (lo L F bm g : Nat) (d : Value) (w1 : World) (R : Nat) (i : Value) (wr : World) : Prop :=
  ∃ k : Nat, k ≤ ss.length ∧ i = .int .i64 k ∧ GrAt ss lo L F bm g d k wr ∧ wr.heap[R]? = some (.cells #[.slice none 0 0, .slice none 0 0] 77 (0, 0)) ∧ Below R w1 wr

set_option maxRecDepth 100000 in
set_option maxHeartbeats 8000000 in
theorem grow_any (v : Value) (ss : List Sess) (hl : ss.length ≤ 65536) (hwf : ∀ s ∈ ss, (Lit.int .i64 s.birth).wf = true ∧ (Lit.int .i64 s.ub).wf = true) (w : World) (h1 : SessArg w v ss) :
    Calls Tryz.prog 41 #[v] w fun e w' => (∃ L F bm g d, e = .returned (.agg #[d, .slice (some ⟨g, 0, none⟩) (ss.length + 1) (ss.length + 1)]) ∧ GrAt ss w.heap.size L F bm g d ss.length w') ∧ Below w.heap.size w w' := by
  have HA := Lib.hid h1
  obtain ⟨p, cap, rfl, h2⟩ := h1
  have H := Lib.hid h2
  clear h2
  obtain ⟨i0, hi, hz0, hz1, hz2⟩ := info_parts vinfo_int
  have hlI : (ss.length : Int) ≤ 9223372036854775807 := by omega
  have HCL := Lib.hid (fun (w' : World) (hb : Below w.heap.size w w') => vclone_any _ ss hl w' (HA.out.below hb))
  have w0' : IntKind.i64.wrap ((ss.length : Int) + 1) = ((ss.length + 1 : Nat) : Int) := by rw [IntWalk.i64_in _ (by omega)]; rfl
  go_enter Tryz.func41, Tryz.ntmps41
  have hmm := @run_makeMap Tryz.prog
  have hmk := make_rows ss.length hl
  obtain ⟨AR, hAR⟩ : ∃ AR, AR = arr (ss.length + 1) (fun _ => Value.slice none 0 0) := ⟨_, rfl⟩
  rw [← hAR] at hmk
  have HAR := Lib.hid hAR
  clear hAR
  go_upto_region 1 with (fail)
  go_cut [3] from 10 (fun t3 wc => G0 ss w t3 wc)
  case first =>
    go_region_with (go_at_call 82; refine (HCL.out _ (by repeat' first | exact Below.refl _ _ | apply Below.drew | (refine Below.alloc ?_ (by simp <;> omega) _))).mono ?_; rintro e w2 ⟨⟨d, rfl, hd⟩, hb2⟩; obtain ⟨qd, cd, rfl, _⟩ := own_any_shape hd; have hsz2 := hb2.size; (try simp at hsz2); have e10 := (fun (h : w.heap.size + 1 < _ ∧ World.cell? _ ⟨w.heap.size + 1, 0, none⟩ = some (Value.slice none 0 0)) => (hb2.cell (p := ⟨w.heap.size + 1, 0, none⟩) h.1).trans h.2); (try simp at e10); have f10 := (fun (h : w.heap.size + 1 < _ ∧ World.frozen? _ ⟨w.heap.size + 1, 0, none⟩ = false) => (hb2.frozen (p := ⟨w.heap.size + 1, 0, none⟩) h.1).trans h.2); (try simp at f10); have e11 := (fun (h : w.heap.size + 1 < _ ∧ World.cell? _ ⟨w.heap.size + 1, 1, none⟩ = some (Value.slice none 0 0)) => (hb2.cell (p := ⟨w.heap.size + 1, 1, none⟩) h.1).trans h.2); (try simp at e11); have f11 := (fun (h : w.heap.size + 1 < _ ∧ World.frozen? _ ⟨w.heap.size + 1, 1, none⟩ = false) => (hb2.frozen (p := ⟨w.heap.size + 1, 1, none⟩) h.1).trans h.2); (try simp at f11); have e20 := (fun (h : w.heap.size + 2 < _ ∧ World.cell? _ ⟨w.heap.size + 2, 0, none⟩ = some (Value.slice none 0 0)) => (hb2.cell (p := ⟨w.heap.size + 2, 0, none⟩) h.1).trans h.2); (try simp at e20); have f20 := (fun (h : w.heap.size + 2 < _ ∧ World.frozen? _ ⟨w.heap.size + 2, 0, none⟩ = false) => (hb2.frozen (p := ⟨w.heap.size + 2, 0, none⟩) h.1).trans h.2); (try simp at f20); have e21 := (fun (h : w.heap.size + 2 < _ ∧ World.cell? _ ⟨w.heap.size + 2, 1, none⟩ = some (Value.slice none 0 0)) => (hb2.cell (p := ⟨w.heap.size + 2, 1, none⟩) h.1).trans h.2); (try simp at e21); have f21 := (fun (h : w.heap.size + 2 < _ ∧ World.frozen? _ ⟨w.heap.size + 2, 1, none⟩ = false) => (hb2.frozen (p := ⟨w.heap.size + 2, 1, none⟩) h.1).trans h.2); (try simp at f21); have s1 := (fun (h : w.heap.size + 1 < _ ∧ True) => Nat.lt_of_lt_of_le h.1 hb2.size); (try simp at s1); have s2 := (fun (h : w.heap.size + 2 < _ ∧ True) => Nat.lt_of_lt_of_le h.1 hb2.size); (try simp at s2))
    all_goals go_wp2
    all_goals go_meet
    · case rel => exact g0_1 HAR.out hb2 hd
    · case rel => exact g0_2 HAR.out hb2 hd
    · case rel => exact g0_3 HAR.out hb2 hd
    · case rel => exact g0_4 HAR.out hb2 hd
    · case rel => exact g0_5 HAR.out hb2 hd
    · case rel => exact g0_6 HAR.out hb2 hd
  case rest =>
    obtain ⟨wm, rfl⟩ : ∃ wm : World, wm = wc := ⟨_, rfl⟩
    obtain ⟨F, g, d, rfl, hF, hd, hg, lF, lg, nFg, hdb, hR, hbc⟩ := hcut
    obtain ⟨qd, cd, rfl, _⟩ := own_any_shape hd
    have hst : GrAt ss (w.heap.size + 1) (wm.heap.size + 1) F wm.heap.size g (.slice qd ss.length cd) 0 (wm.alloc (.map #[] 0)) := by
      have lF2 := (Array.getElem?_eq_some_iff.1 hF).1
      have lg2 := (Array.getElem?_eq_some_iff.1 hg).1
      have hs := hbc.size
      have hR2 := (Array.getElem?_eq_some_iff.1 hR).1
      exact start_rows ((al_old lF2).trans hF) (hd.alloc _) ((al_old lg2).trans hg) (World.ownsMap_made wm Tryz.prog 3 (plainElem (H := Unit) Tryz.prog 3)) ⟨lF, by omega⟩ ⟨lg, by omega⟩ ⟨by omega, by omega⟩ nFg (by omega) (by omega) (fun b e => by have := (hd.lt b e).2; have := hdb b e; exact ⟨by omega, this.1, this.2, by omega⟩) ⟨by omega, by rw [World.size_alloc]; exact Nat.le_refl _⟩
    have HST := Lib.hid hst
    have HR : Hid ((wm.alloc (.map #[] 0)).heap[w.heap.size]? = some (.cells #[.slice none 0 0, .slice none 0 0] 77 (0, 0))) := (al_old (Array.getElem?_eq_some_iff.1 hR).1).trans hR
    have HBC := Lib.hid (hbc.alloc hbc.size (.map #[] 0))
    have HWF := Lib.hid hwf
    clear hst hF hd hg hR hbc hdb hwf lF lg nFg
    go_wp2
    go_loopw [20] (fun i wr => GwRel ss (w.heap.size + 1) (wm.heap.size + 1) F wm.heap.size g (.slice qd ss.length cd) w w.heap.size i wr) (fun i _ => ss.length - (intOf i).toNat)
    case atStart => exact ⟨0, Nat.zero_le _, rfl, HST.out, HR.out, HBC.out⟩
    case round =>
      obtain ⟨k, hk, rfl, hgr, hRr, hbr⟩ := hrel
      have HG := Lib.hid hgr; have HRR := Lib.hid hRr; have HBR := Lib.hid hbr
      have b0 : (0 : Int) ≤ (k : Int) := by omega
      clear hgr hRr hbr
      by_cases h : k < ss.length
      · have b1 : (k : Int) < (ss.length : Int) := by omega
        have w1' : IntKind.i64.wrap ((k : Int) + 1) = ((k + 1 : Nat) : Int) := by rw [IntWalk.i64_in _ (by omega)]; rfl
        obtain ⟨ga, oa, rfl, hga, hca⟩ := H.out k h
        obtain ⟨cs, hcs⟩ : ∃ cs, cs = csAt ss k := ⟨_, rfl⟩
        have HRG : Hid (∀ W, Below w.heap.size w W → W.rangeAt ga (oa + k * 12) cs) := fun W hW j u hu => (hW.cell (p := ⟨ga, oa + k * 12 + j, none⟩) hga).trans (hca j u (by rw [hcs, csAt_at h] at hu; exact hu))
        have HCS : Hid (cs.length = 12) := by show _ = _; rw [hcs, csAt_at h]; rfl
        have HC1 : Hid (∀ u ∈ cs, u.oneCell' = true) := by show ∀ _, _; rw [hcs, csAt_at h]; exact ss[k].one
        have hcb : cs[1]? = some (.int .i64 ss[k].birth) := by rw [hcs, csAt_at h]; rfl
        have hcu : cs[3]? = some (.int .i64 ss[k].ub) := by rw [hcs, csAt_at h]; rfl
        have HRW := Lib.hid (HRG.out wr HBR.out)
        -- ROUND
        obtain ⟨W1, hW1⟩ : ∃ W1, W1 = wr.alloc (.cells cs.toArray 30) := ⟨_, rfl⟩
        have hb1 : Below wr.heap.size wr W1 := by rw [hW1]; exact (Below.refl _ _).alloc (Nat.le_refl _) _
        have hx1 : W1.heap[wr.heap.size]? = some (.cells cs.toArray 30 (0, 0)) := by rw [hW1]; exact Ut.alloc_at _ _
        obtain ⟨U, hU⟩ : ∃ U, U = ss[k].ub := ⟨_, rfl⟩
        obtain ⟨X, hX⟩ : ∃ X, X = ss[k].birth := ⟨_, rfl⟩
        rw [← hX] at hcb; rw [← hU] at hcu
        have c1 : W1.cell? ⟨wr.heap.size, 1, none⟩ = some (.int .i64 X) := by rw [block_cell hx1]; simpa using hcb
        have c3 : W1.cell? ⟨wr.heap.size, 2 + 1, none⟩ = some (.int .i64 U) := by rw [block_cell hx1]; simpa using hcu
        have HG1 := Lib.hid (HG.out.below hb1)
        have HBX1 : Hid (W1.heap[w.heap.size]? = some (.cells #[.slice none 0 0, .slice none 0 0] 77 (0, 0))) := (hb1.block w.heap.size (Array.getElem?_eq_some_iff.1 HRR.out).1).trans HRR.out
        have HB1 : Hid (Below w.heap.size w W1) := HBR.out.trans (hb1.mono HBR.out.size)
        have HCF : Hid (W1.cell? ⟨F, 1, none⟩ = some (.slice (some ⟨g, 0, none⟩) (ss.length + 1) (ss.length + 1))) := by show _ = _; rw [block_cell HG1.out.box]; rfl
        obtain ⟨vs, hvs0⟩ := HG.out.rows
        have HVS0 := Lib.hid hvs0
        have HVS1 := Lib.hid (hvs0.below hb1)
        have HX1 := Lib.hid hx1; have HC1X := Lib.hid c1; have HSB : Hid (wr.heap.size < W1.heap.size) := (Array.getElem?_eq_some_iff.1 hx1).1
        obtain ⟨mk, D, hm, hmk2, hM⟩ := HG1.out.map
        have hwk := HWF.out ss[k] (List.getElem_mem h)
        rw [← hX, ← hU] at hwk
        have HKX := Lib.hid (keyOf_int_mk (P := Tryz.prog) (k := 3) Tryz.underlying3 hwk.1)
        have HKU := Lib.hid (keyOf_int_mk (P := Tryz.prog) (k := 3) Tryz.underlying3 hwk.2)
        have HMP := Lib.hid hm; have HMK := Lib.hid hmk2; have HMM := Lib.hid hM
        have hMU := (hM.2 U)
        have hup := Vt.upN_eq (bu_at h)
        rw [← hU] at hup
        simp only at hup
        have HK3 : Hid (∀ (o : Obj) (w3 : World) {row : Option Nat}, (W1.drew.alloc o).grownBy w3 row → (∀ b, row = some b → wm.heap.size + 1 ≤ b ∧ b < W1.heap.size) → w3.cell? ⟨F, 1, none⟩ = some (.slice (some ⟨g, 0, none⟩) (ss.length + 1) (ss.length + 1))) := fun o w3 row hg3 hr3 => by
          have h1 := HG1.out.box
          have h2 := (Array.getElem?_eq_some_iff.1 h1).1
          have h3 := hg3.block F (by rw [World.size_alloc]; exact Nat.lt_succ_of_lt h2) (fun e => by have := (hr3 F e.symm).1; have := HG1.out.lF.2; omega)
          rw [al_old (by exact h2)] at h3
          rw [block_cell (h3.trans h1)]; rfl
        have HXX := Lib.hid hX
        have HKL : Hid (k < ss.length) := h
        clear hvs0 hb1 hx1 hm hmk2 hM hwk hX hU hcb hcu hca hcs
        go_upto_region 6 with (first
          | (refine wpList_load_mid rfl 30 _ rfl _ _ rfl cs _ HRW.out Tryz.underlying30 rfl (by rw [HCS.out]; kernel_rfl) ?_)
          | (refine Ag.wpList_store_new (by rfl) 30 _ _ (by rfl) cs (by rfl) (by rfl) (by rw [HCS.out]; kernel_rfl) (by rw [HCS.out]; rfl) HC1.out ?_))
        rw [← hW1]
        clear hW1
        cases hlt : Vt.lastTo (bu ss) U k with
        | none =>
          rw [hlt] at hMU hup
          obtain ⟨hm1, hm2⟩ := hMU
          have HUR : Hid (0 = Vt.upN (bu ss) k) := by show _ = _; rw [hup]; split <;> rfl
          have HA0 := Lib.hid hm2
          have hm1' : Maps.has D (.int .i64 U) = false := hm1
          clear hup hlt hm2 hm1
          go_upto_region 10 with (at_lookup; refine wpList_lookup_own_ok_int _ rfl _ _ 137 rfl 3 3 .i64 gintLaw Tryz.underlying137 Tryz.underlying3 (gzeroI _) wm.heap.size mk D rfl HMP.out _ (lk U) rfl HKU.out ?_; intro c2 hat hwc; rw [hm1'])
          have hvs := HVS1.out
          have hrn : 0 < ss.length + 1 := by rw [HUR.out]; have := Vt.upN_le (bu ss) k; omega
          have hrow := hvs.row 0 hrn
          obtain ⟨qv, cv, hvr, hcv⟩ := own_any_shape hrow
          have cg : W1.cell? ⟨g, 0, none⟩ = some (.slice qv (Vt.krow (bu ss) k 0).length cv) := by rw [block_cell hvs.top, arr_at hrn, hvr]
          have fg : W1.frozen? ⟨g, 0, none⟩ = false := block_free hvs.top _
          rw [hvr] at hrow
          have HROW := Lib.hid hrow.drew; have HVS := Lib.hid hvs; have HVR := Lib.hid hvr; have HRN := Lib.hid hrn
          have r0 : (0 : Int) ≤ (0 : Int) := by omega
          have r1 : (0 : Int) < ((ss.length + 1 : Nat) : Int) := by omega
          have r2 : (0 : Int) < (ss.length : Int) + 1 := by omega
          have hkl := Vt.krow_len (bu ss) k 0
          have am1 : (Vt.krow (bu ss) k 0).length + 1 ≤ maxLen := by unfold maxLen; omega
          have am2 : ((Vt.krow (bu ss) k 0).length + 1) * 8 ≤ 140737488355328 := by omega
          have hL1 : wm.heap.size + 1 ≤ W1.heap.size := HG1.out.lL.2
          have cF := HCF.out
          have HGL : Hid (g < wm.heap.size + 1 ∧ g < W1.heap.size ∧ g ≠ F) := ⟨HG1.out.lg.2, (Array.getElem?_eq_some_iff.1 hvs.top).1, fun e => HG1.out.nFg e.symm⟩
          have HRL : Hid (∀ b, (Value.slice qv (Vt.krow (bu ss) k 0).length cv).ownBlock = some b → wm.heap.size + 1 ≤ b ∧ b < W1.heap.size) := fun b e => hrow.lt b e
          have hgF := World.new_ne W1 ⟨g, 0, none⟩ cg
          have hFF := World.new_ne W1 ⟨F, 1, none⟩ cF
          have hne : g ≠ F := HGL.out.2.2
          have HFL : Hid (F < W1.heap.size) := World.block_lt_of_cell? W1 _ cF
          have cF2 : ∀ o, (W1.alloc o).cell? ⟨F, 1, none⟩ = some (.slice (some ⟨g, 0, none⟩) (ss.length + 1) (ss.length + 1)) := fun o => by rw [World.cell?_alloc_lt _ _ _ HFL.out]; exact cF
          have cg2 : ∀ o, (W1.alloc o).cell? ⟨g, 0, none⟩ = some (.slice qv (Vt.krow (bu ss) k 0).length cv) := fun o => by rw [World.cell?_alloc_lt _ _ _ HGL.out.2.1]; exact cg
          have HK4 : Hid (∀ (o : Obj) (w3 : World) {row : Option Nat}, (W1.drew.alloc o).grownBy w3 row → (∀ b, row = some b → wm.heap.size + 1 ≤ b ∧ b < W1.heap.size) → w3.heap[g]? = some (.cells (arr (ss.length + 1) vs) 82 (0, 0))) := fun o w3 row hg3 hr3 => by
            have h1 := HVS.out.top
            have h2 := (Array.getElem?_eq_some_iff.1 h1).1
            have h3 := hg3.block g (by rw [World.size_alloc]; exact Nat.lt_succ_of_lt h2) (fun e => by have := (hr3 g e.symm).1; have := HGL.out.1; omega)
            rw [al_old (by exact h2)] at h3
            exact h3.trans h1
          clear hvs hrow hvr hrn hkl
          go_cut [] from 42 to 53 (fun wc => R10 ss (wm.heap.size + 1) g 0 k vs W1 wc)
          case first =>
            go_region_law (first
              | fail
              | (refine step_append_lies _ (by rfl) (.tmp 49) (.tmp 51) 82 (by rfl) (wm.heap.size + 1) 3 i0 (.int .i64 0) 1 8 Tryz.underlying82 hi hz0 hz1 hz2 rfl (by decide) _ _ _ (by rfl) (HROW.out.alloc _) ⟨W1.heap.size, 0, none⟩ 1 1 [nv k] (by rfl) (by rfl) (cell_one_new _ _ _) (by intro u hu; simp at hu; subst hu; rfl) Nat.one_pos am1 am2 (show _ ≤ (W1.alloc _).heap.size from (by rw [World.size_alloc]; exact Nat.le_succ_of_le hL1)) (W1.heap.size + 1) (by simp) ?_; intro g3 cap3 w3 hown3 hgrow3 hat3 hlt3; have m1 : w3.cell? ⟨F, 1, none⟩ = some (.slice (some ⟨g, 0, none⟩) (ss.length + 1) (ss.length + 1)) := HK3.out _ w3 hgrow3 HRL.out; have mt := HK4.out _ w3 hgrow3 HRL.out; have m2 : w3.cell? ⟨g, 0, none⟩ = some (.slice qv (Vt.krow (bu ss) k 0).length cv) := (by rw [block_cell mt, arr_at HRN.out, HVR.out]); have m3 : w3.frozen? ⟨g, 0, none⟩ = false := block_free mt _; have HMT := Lib.hid mt; clear mt))
            all_goals go_wp2
            all_goals go_meet
            all_goals (case rel => exact ⟨_, w3, _, hown3, by rw [HVR.out]; exact hgrow3, by rw [HVR.out]; exact hat3.imp (fun h => h.symm) (fun h => by rw [h]; rfl), rfl⟩)
          case rest =>
            obtain ⟨v', w3, ob, hown3, hgrow3, hat3, rfl⟩ := hcut
            have hgb : ∀ b, b < W1.heap.size → (∀ x, (vs 0).ownBlock = some x → b ≠ x) → b ≠ g → (w3.setCell ⟨g, 0, none⟩ v').heap[b]? = W1.heap[b]? := fun b h1 h2 h3 => by
              rw [Below.heap_setCell _ _ _ _ (fun e => h3 e), hgrow3.block b (by rw [World.size_alloc]; exact Nat.lt_succ_of_lt h1) (fun e => h2 b e.symm rfl), al_old (by exact h1)]
              rfl
            have c5 : (w3.setCell ⟨g, 0, none⟩ v').cell? ⟨wr.heap.size, 1, none⟩ = some (.int .i64 X) := by
              have h1 := hgb wr.heap.size HSB.out (fun x e => by have := ((HVS0.out.row 0 HRN.out).lt x e).2; omega) (fun e => by have := (Array.getElem?_eq_some_iff.1 HVS0.out.top).1; omega)
              exact (World.cell?_of_block (w := W1) (a := ⟨wr.heap.size, 1, none⟩) h1).trans HC1X.out
            have HMP4 : Hid ((w3.setCell ⟨g, 0, none⟩ v').ownsMap Tryz.prog 3 (plainElem Tryz.prog 3) wm.heap.size mk D) := vmap_keep HMP.out (hgb _ HMP.out.lt (fun x e => by have := ((HVS0.out.row 0 HRN.out).lt x e).1; omega) (fun e => HG1.out.ngm e.symm))
            have HO3 := Lib.hid hown3; have HG3 := Lib.hid hgrow3; have HA3 := Lib.hid hat3
            clear hgb hown3 hgrow3 hat3 hgF hFF cg2 cF2 cg cF fg
            go_wp2_with (at_mapUpdate; refine wpList_mapUpdate_own _ rfl _ _ _ 137 rfl 3 3 gintLaw Tryz.underlying137 _ wm.heap.size mk D rfl HMP4.out (by have := HMK.out; unfold maxLen; omega) _ _ _ rfl rfl HKX.out _ [] (plainElem_int Tryz.underlying3 (WalkArith.wf_i64 (by omega))) ?_; intro w5 hmap5 hg5)
            have HU : Hid (GwRel ss (w.heap.size + 1) (wm.heap.size + 1) F wm.heap.size g (.slice qd ss.length cd) w w.heap.size (.int .i64 ((k + 1 : Nat) : Int)) w5) := by
              rw [HXX.out] at hmap5
              have h2 := (HG1.out.below (Below.drew (Below.refl W1.heap.size W1))).step (HKL.out) HUR.out (HVS1.out.below (Below.drew (Below.refl W1.heap.size W1))) HMM.out HMK.out HO3.out HG3.out HA3.out hmap5 hg5
              have h3 : Below (w.heap.size + 1) W1 w5 := (Below.drew (Below.refl _ W1)).trans h2.2
              exact ⟨k + 1, HKL.out, rfl, h2.1, (h3.block w.heap.size (Nat.lt_succ_self _)).trans HBX1.out, HB1.out.trans (h3.mono (Nat.le_succ _))⟩
            clear hmap5 hg5
            go_wp2
            go_roundw
            case rel => exact HU.out
            case measure => have := HKL.out; simp [intOf]; omega
        | some p1 =>
          rw [hlt] at hMU hup
          obtain ⟨hm1, hm2⟩ := hMU
          have hm1' : Maps.has D (.int .i64 U) = true := hm1
          have hm2' : D.atKey (.int .i64 U) (.lit (.int .i64 0)) = .lit (.int .i64 (p1 : Int)) := hm2
          have HA1 := Lib.hid hm1'; have HA2 := Lib.hid hm2'
          have hpk := Vt.lastTo_lt _ _ _ _ hlt
          simp only at hup
          by_cases hu : U = 0
          · have HUR : Hid (0 = Vt.upN (bu ss) k) := by show _ = _; rw [hup, if_pos hu]
            have hun : (U != 0) = false := by simp [hu]
            clear hup hlt hm2 hm1 hm1' hm2' hu hpk
            go_upto_region 10 with (at_lookup; refine gl_known rfl _ _ 137 rfl 3 3 gintLaw Tryz.underlying137 Tryz.underlying3 (gzeroI _) wm.heap.size mk D rfl HMP.out _ (lk U) rfl HKU.out (p1 : Int) HA2.out HA1.out ?_)
            have hvs := HVS1.out
            have hrn : 0 < ss.length + 1 := by rw [HUR.out]; have := Vt.upN_le (bu ss) k; omega
            have hrow := hvs.row 0 hrn
            obtain ⟨qv, cv, hvr, hcv⟩ := own_any_shape hrow
            have cg : W1.cell? ⟨g, 0, none⟩ = some (.slice qv (Vt.krow (bu ss) k 0).length cv) := by rw [block_cell hvs.top, arr_at hrn, hvr]
            have fg : W1.frozen? ⟨g, 0, none⟩ = false := block_free hvs.top _
            rw [hvr] at hrow
            have HROW := Lib.hid hrow.drew; have HVS := Lib.hid hvs; have HVR := Lib.hid hvr; have HRN := Lib.hid hrn
            have r0 : (0 : Int) ≤ (0 : Int) := by omega
            have r1 : (0 : Int) < ((ss.length + 1 : Nat) : Int) := by omega
            have r2 : (0 : Int) < (ss.length : Int) + 1 := by omega
            have hkl := Vt.krow_len (bu ss) k 0
            have am1 : (Vt.krow (bu ss) k 0).length + 1 ≤ maxLen := by unfold maxLen; omega
            have am2 : ((Vt.krow (bu ss) k 0).length + 1) * 8 ≤ 140737488355328 := by omega
            have hL1 : wm.heap.size + 1 ≤ W1.heap.size := HG1.out.lL.2
            have cF := HCF.out
            have HGL : Hid (g < wm.heap.size + 1 ∧ g < W1.heap.size ∧ g ≠ F) := ⟨HG1.out.lg.2, (Array.getElem?_eq_some_iff.1 hvs.top).1, fun e => HG1.out.nFg e.symm⟩
            have HRL : Hid (∀ b, (Value.slice qv (Vt.krow (bu ss) k 0).length cv).ownBlock = some b → wm.heap.size + 1 ≤ b ∧ b < W1.heap.size) := fun b e => hrow.lt b e
            have hgF := World.new_ne W1 ⟨g, 0, none⟩ cg
            have hFF := World.new_ne W1 ⟨F, 1, none⟩ cF
            have hne : g ≠ F := HGL.out.2.2
            have HFL : Hid (F < W1.heap.size) := World.block_lt_of_cell? W1 _ cF
            have cF2 : ∀ o, (W1.alloc o).cell? ⟨F, 1, none⟩ = some (.slice (some ⟨g, 0, none⟩) (ss.length + 1) (ss.length + 1)) := fun o => by rw [World.cell?_alloc_lt _ _ _ HFL.out]; exact cF
            have cg2 : ∀ o, (W1.alloc o).cell? ⟨g, 0, none⟩ = some (.slice qv (Vt.krow (bu ss) k 0).length cv) := fun o => by rw [World.cell?_alloc_lt _ _ _ HGL.out.2.1]; exact cg
            have HK4 : Hid (∀ (o : Obj) (w3 : World) {row : Option Nat}, (W1.drew.alloc o).grownBy w3 row → (∀ b, row = some b → wm.heap.size + 1 ≤ b ∧ b < W1.heap.size) → w3.heap[g]? = some (.cells (arr (ss.length + 1) vs) 82 (0, 0))) := fun o w3 row hg3 hr3 => by
              have h1 := HVS.out.top
              have h2 := (Array.getElem?_eq_some_iff.1 h1).1
              have h3 := hg3.block g (by rw [World.size_alloc]; exact Nat.lt_succ_of_lt h2) (fun e => by have := (hr3 g e.symm).1; have := HGL.out.1; omega)
              rw [al_old (by exact h2)] at h3
              exact h3.trans h1
            clear hvs hrow hvr hrn hkl
            go_cut [] from 42 to 53 (fun wc => R10 ss (wm.heap.size + 1) g 0 k vs W1 wc)
            case first =>
              go_region_law (first
                | fail
                | (refine step_append_lies _ (by rfl) (.tmp 49) (.tmp 51) 82 (by rfl) (wm.heap.size + 1) 3 i0 (.int .i64 0) 1 8 Tryz.underlying82 hi hz0 hz1 hz2 rfl (by decide) _ _ _ (by rfl) (HROW.out.alloc _) ⟨W1.heap.size, 0, none⟩ 1 1 [nv k] (by rfl) (by rfl) (cell_one_new _ _ _) (by intro u hu; simp at hu; subst hu; rfl) Nat.one_pos am1 am2 (show _ ≤ (W1.alloc _).heap.size from (by rw [World.size_alloc]; exact Nat.le_succ_of_le hL1)) (W1.heap.size + 1) (by simp) ?_; intro g3 cap3 w3 hown3 hgrow3 hat3 hlt3; have m1 : w3.cell? ⟨F, 1, none⟩ = some (.slice (some ⟨g, 0, none⟩) (ss.length + 1) (ss.length + 1)) := HK3.out _ w3 hgrow3 HRL.out; have mt := HK4.out _ w3 hgrow3 HRL.out; have m2 : w3.cell? ⟨g, 0, none⟩ = some (.slice qv (Vt.krow (bu ss) k 0).length cv) := (by rw [block_cell mt, arr_at HRN.out, HVR.out]); have m3 : w3.frozen? ⟨g, 0, none⟩ = false := block_free mt _; have HMT := Lib.hid mt; clear mt))
              all_goals go_wp2
              all_goals go_meet
              all_goals (case rel => exact ⟨_, w3, _, hown3, by rw [HVR.out]; exact hgrow3, by rw [HVR.out]; exact hat3.imp (fun h => h.symm) (fun h => by rw [h]; rfl), rfl⟩)
            case rest =>
              obtain ⟨v', w3, ob, hown3, hgrow3, hat3, rfl⟩ := hcut
              have hgb : ∀ b, b < W1.heap.size → (∀ x, (vs 0).ownBlock = some x → b ≠ x) → b ≠ g → (w3.setCell ⟨g, 0, none⟩ v').heap[b]? = W1.heap[b]? := fun b h1 h2 h3 => by
                rw [Below.heap_setCell _ _ _ _ (fun e => h3 e), hgrow3.block b (by rw [World.size_alloc]; exact Nat.lt_succ_of_lt h1) (fun e => h2 b e.symm rfl), al_old (by exact h1)]
                rfl
              have c5 : (w3.setCell ⟨g, 0, none⟩ v').cell? ⟨wr.heap.size, 1, none⟩ = some (.int .i64 X) := by
                have h1 := hgb wr.heap.size HSB.out (fun x e => by have := ((HVS0.out.row 0 HRN.out).lt x e).2; omega) (fun e => by have := (Array.getElem?_eq_some_iff.1 HVS0.out.top).1; omega)
                exact (World.cell?_of_block (w := W1) (a := ⟨wr.heap.size, 1, none⟩) h1).trans HC1X.out
              have HMP4 : Hid ((w3.setCell ⟨g, 0, none⟩ v').ownsMap Tryz.prog 3 (plainElem Tryz.prog 3) wm.heap.size mk D) := vmap_keep HMP.out (hgb _ HMP.out.lt (fun x e => by have := ((HVS0.out.row 0 HRN.out).lt x e).1; omega) (fun e => HG1.out.ngm e.symm))
              have HO3 := Lib.hid hown3; have HG3 := Lib.hid hgrow3; have HA3 := Lib.hid hat3
              clear hgb hown3 hgrow3 hat3 hgF hFF cg2 cF2 cg cF fg
              go_wp2_with (at_mapUpdate; refine wpList_mapUpdate_own _ rfl _ _ _ 137 rfl 3 3 gintLaw Tryz.underlying137 _ wm.heap.size mk D rfl HMP4.out (by have := HMK.out; unfold maxLen; omega) _ _ _ rfl rfl HKX.out _ [] (plainElem_int Tryz.underlying3 (WalkArith.wf_i64 (by omega))) ?_; intro w5 hmap5 hg5)
              have HU : Hid (GwRel ss (w.heap.size + 1) (wm.heap.size + 1) F wm.heap.size g (.slice qd ss.length cd) w w.heap.size (.int .i64 ((k + 1 : Nat) : Int)) w5) := by
                rw [HXX.out] at hmap5
                have h2 := (HG1.out.below (Below.drew (Below.refl W1.heap.size W1))).step (HKL.out) HUR.out (HVS1.out.below (Below.drew (Below.refl W1.heap.size W1))) HMM.out HMK.out HO3.out HG3.out HA3.out hmap5 hg5
                have h3 : Below (w.heap.size + 1) W1 w5 := (Below.drew (Below.refl _ W1)).trans h2.2
                exact ⟨k + 1, HKL.out, rfl, h2.1, (h3.block w.heap.size (Nat.lt_succ_self _)).trans HBX1.out, HB1.out.trans (h3.mono (Nat.le_succ _))⟩
              clear hmap5 hg5
              go_wp2
              go_roundw
              case rel => exact HU.out
              case measure => have := HKL.out; simp [intOf]; omega
          · obtain ⟨rr, hrr⟩ : ∃ rr, rr = p1 + 1 := ⟨_, rfl⟩
            have HUR : Hid (rr = Vt.upN (bu ss) k) := by show _ = _; rw [hup, if_neg hu, hrr]
            have hun : (U != 0) = true := by simp [hu]
            have wp1 : IntKind.i64.wrap ((p1 : Int) + 1) = (rr : Int) := by rw [IntWalk.i64_in _ (by omega), hrr]; rfl
            clear hup hlt hm2 hm1 hm1' hm2' hu hpk hrr
            go_upto_region 10 with (at_lookup; refine gl_known rfl _ _ 137 rfl 3 3 gintLaw Tryz.underlying137 Tryz.underlying3 (gzeroI _) wm.heap.size mk D rfl HMP.out _ (lk U) rfl HKU.out (p1 : Int) HA2.out HA1.out ?_)
            clear wp1
            have hvs := HVS1.out
            have hrn : rr < ss.length + 1 := by rw [HUR.out]; have := Vt.upN_le (bu ss) k; omega
            have hrow := hvs.row rr hrn
            obtain ⟨qv, cv, hvr, hcv⟩ := own_any_shape hrow
            have cg : W1.cell? ⟨g, rr, none⟩ = some (.slice qv (Vt.krow (bu ss) k rr).length cv) := by rw [block_cell hvs.top, arr_at hrn, hvr]
            have fg : W1.frozen? ⟨g, rr, none⟩ = false := block_free hvs.top _
            rw [hvr] at hrow
            have HROW := Lib.hid hrow.drew; have HVS := Lib.hid hvs; have HVR := Lib.hid hvr; have HRN := Lib.hid hrn
            have r0 : (0 : Int) ≤ (rr : Int) := by omega
            have r1 : (rr : Int) < ((ss.length + 1 : Nat) : Int) := by omega
            have r2 : (rr : Int) < (ss.length : Int) + 1 := by omega
            have hkl := Vt.krow_len (bu ss) k rr
            have am1 : (Vt.krow (bu ss) k rr).length + 1 ≤ maxLen := by unfold maxLen; omega
            have am2 : ((Vt.krow (bu ss) k rr).length + 1) * 8 ≤ 140737488355328 := by omega
            have hL1 : wm.heap.size + 1 ≤ W1.heap.size := HG1.out.lL.2
            have cF := HCF.out
            have HGL : Hid (g < wm.heap.size + 1 ∧ g < W1.heap.size ∧ g ≠ F) := ⟨HG1.out.lg.2, (Array.getElem?_eq_some_iff.1 hvs.top).1, fun e => HG1.out.nFg e.symm⟩
            have HRL : Hid (∀ b, (Value.slice qv (Vt.krow (bu ss) k rr).length cv).ownBlock = some b → wm.heap.size + 1 ≤ b ∧ b < W1.heap.size) := fun b e => hrow.lt b e
            have hgF := World.new_ne W1 ⟨g, rr, none⟩ cg
            have hFF := World.new_ne W1 ⟨F, 1, none⟩ cF
            have hne : g ≠ F := HGL.out.2.2
            have HFL : Hid (F < W1.heap.size) := World.block_lt_of_cell? W1 _ cF
            have cF2 : ∀ o, (W1.alloc o).cell? ⟨F, 1, none⟩ = some (.slice (some ⟨g, 0, none⟩) (ss.length + 1) (ss.length + 1)) := fun o => by rw [World.cell?_alloc_lt _ _ _ HFL.out]; exact cF
            have cg2 : ∀ o, (W1.alloc o).cell? ⟨g, rr, none⟩ = some (.slice qv (Vt.krow (bu ss) k rr).length cv) := fun o => by rw [World.cell?_alloc_lt _ _ _ HGL.out.2.1]; exact cg
            have HK4 : Hid (∀ (o : Obj) (w3 : World) {row : Option Nat}, (W1.drew.alloc o).grownBy w3 row → (∀ b, row = some b → wm.heap.size + 1 ≤ b ∧ b < W1.heap.size) → w3.heap[g]? = some (.cells (arr (ss.length + 1) vs) 82 (0, 0))) := fun o w3 row hg3 hr3 => by
              have h1 := HVS.out.top
              have h2 := (Array.getElem?_eq_some_iff.1 h1).1
              have h3 := hg3.block g (by rw [World.size_alloc]; exact Nat.lt_succ_of_lt h2) (fun e => by have := (hr3 g e.symm).1; have := HGL.out.1; omega)
              rw [al_old (by exact h2)] at h3
              exact h3.trans h1
            clear hvs hrow hvr hrn hkl
            go_cut [] from 42 to 53 (fun wc => R10 ss (wm.heap.size + 1) g rr k vs W1 wc)
            case first =>
              go_region_law (first
                | fail
                | (refine step_append_lies _ (by rfl) (.tmp 49) (.tmp 51) 82 (by rfl) (wm.heap.size + 1) 3 i0 (.int .i64 0) 1 8 Tryz.underlying82 hi hz0 hz1 hz2 rfl (by decide) _ _ _ (by rfl) (HROW.out.alloc _) ⟨W1.heap.size, 0, none⟩ 1 1 [nv k] (by rfl) (by rfl) (cell_one_new _ _ _) (by intro u hu; simp at hu; subst hu; rfl) Nat.one_pos am1 am2 (show _ ≤ (W1.alloc _).heap.size from (by rw [World.size_alloc]; exact Nat.le_succ_of_le hL1)) (W1.heap.size + 1) (by simp) ?_; intro g3 cap3 w3 hown3 hgrow3 hat3 hlt3; have m1 : w3.cell? ⟨F, 1, none⟩ = some (.slice (some ⟨g, 0, none⟩) (ss.length + 1) (ss.length + 1)) := HK3.out _ w3 hgrow3 HRL.out; have mt := HK4.out _ w3 hgrow3 HRL.out; have m2 : w3.cell? ⟨g, rr, none⟩ = some (.slice qv (Vt.krow (bu ss) k rr).length cv) := (by rw [block_cell mt, arr_at HRN.out, HVR.out]); have m3 : w3.frozen? ⟨g, rr, none⟩ = false := block_free mt _; have HMT := Lib.hid mt; clear mt))
              all_goals go_wp2
              all_goals go_meet
              all_goals (case rel => exact ⟨_, w3, _, hown3, by rw [HVR.out]; exact hgrow3, by rw [HVR.out]; exact hat3.imp (fun h => h.symm) (fun h => by rw [h]; rfl), rfl⟩)
            case rest =>
              obtain ⟨v', w3, ob, hown3, hgrow3, hat3, rfl⟩ := hcut
              have hgb : ∀ b, b < W1.heap.size → (∀ x, (vs rr).ownBlock = some x → b ≠ x) → b ≠ g → (w3.setCell ⟨g, rr, none⟩ v').heap[b]? = W1.heap[b]? := fun b h1 h2 h3 => by
                rw [Below.heap_setCell _ _ _ _ (fun e => h3 e), hgrow3.block b (by rw [World.size_alloc]; exact Nat.lt_succ_of_lt h1) (fun e => h2 b e.symm rfl), al_old (by exact h1)]
                rfl
              have c5 : (w3.setCell ⟨g, rr, none⟩ v').cell? ⟨wr.heap.size, 1, none⟩ = some (.int .i64 X) := by
                have h1 := hgb wr.heap.size HSB.out (fun x e => by have := ((HVS0.out.row rr HRN.out).lt x e).2; omega) (fun e => by have := (Array.getElem?_eq_some_iff.1 HVS0.out.top).1; omega)
                exact (World.cell?_of_block (w := W1) (a := ⟨wr.heap.size, 1, none⟩) h1).trans HC1X.out
              have HMP4 : Hid ((w3.setCell ⟨g, rr, none⟩ v').ownsMap Tryz.prog 3 (plainElem Tryz.prog 3) wm.heap.size mk D) := vmap_keep HMP.out (hgb _ HMP.out.lt (fun x e => by have := ((HVS0.out.row rr HRN.out).lt x e).1; omega) (fun e => HG1.out.ngm e.symm))
              have HO3 := Lib.hid hown3; have HG3 := Lib.hid hgrow3; have HA3 := Lib.hid hat3
              clear hgb hown3 hgrow3 hat3 hgF hFF cg2 cF2 cg cF fg
              go_wp2_with (at_mapUpdate; refine wpList_mapUpdate_own _ rfl _ _ _ 137 rfl 3 3 gintLaw Tryz.underlying137 _ wm.heap.size mk D rfl HMP4.out (by have := HMK.out; unfold maxLen; omega) _ _ _ rfl rfl HKX.out _ [] (plainElem_int Tryz.underlying3 (WalkArith.wf_i64 (by omega))) ?_; intro w5 hmap5 hg5)
              have HU : Hid (GwRel ss (w.heap.size + 1) (wm.heap.size + 1) F wm.heap.size g (.slice qd ss.length cd) w w.heap.size (.int .i64 ((k + 1 : Nat) : Int)) w5) := by
                rw [HXX.out] at hmap5
                have h2 := (HG1.out.below (Below.drew (Below.refl W1.heap.size W1))).step (HKL.out) HUR.out (HVS1.out.below (Below.drew (Below.refl W1.heap.size W1))) HMM.out HMK.out HO3.out HG3.out HA3.out hmap5 hg5
                have h3 : Below (w.heap.size + 1) W1 w5 := (Below.drew (Below.refl _ W1)).trans h2.2
                exact ⟨k + 1, HKL.out, rfl, h2.1, (h3.block w.heap.size (Nat.lt_succ_self _)).trans HBX1.out, HB1.out.trans (h3.mono (Nat.le_succ _))⟩
              clear hmap5 hg5
              go_wp2
              go_roundw
              case rel => exact HU.out
              case measure => have := HKL.out; simp [intOf]; omega
        -- ENDROUND
      · have b1 : (ss.length : Int) ≤ (k : Int) := by omega
        have e : k = ss.length := by omega
        have h3 := HG.out
        rw [e] at h3
        have c0 : wr.cell? ⟨F, 0, none⟩ = some (.slice qd ss.length cd) := by rw [block_cell h3.box]; rfl
        have c1 : wr.cell? ⟨F, 1, none⟩ = some (.slice (some ⟨g, 0, none⟩) (ss.length + 1) (ss.length + 1)) := by rw [block_cell h3.box]; rfl
        have d0 : wr.cell? ⟨w.heap.size, 0, none⟩ = some (.slice none 0 0) := by rw [block_cell HRR.out]; rfl
        have d1 : wr.cell? ⟨w.heap.size, 1, none⟩ = some (.slice none 0 0) := by rw [block_cell HRR.out]; rfl
        have f0 := block_free HRR.out 0
        have f1 := block_free HRR.out 1
        have HG3 := Lib.hid h3
        clear h h3
        have HEND : Hid (((wr.setCell ⟨w.heap.size, 0, none⟩ (.slice qd ss.length cd)).setCell ⟨w.heap.size, 1, none⟩ (.slice (some ⟨g, 0, none⟩) (ss.length + 1) (ss.length + 1))).heap[w.heap.size]? = some (.cells #[.slice qd ss.length cd, .slice (some ⟨g, 0, none⟩) (ss.length + 1) (ss.length + 1)] 77 (0, 0))) := two_sets HRR.out
        go_wp2
        refine bodyPost_ret (results_cell_row rfl _ _ w.heap.size _ #[.slice qd ss.length cd, .slice (some ⟨g, 0, none⟩) (ss.length + 1) (ss.length + 1)] (0, 0) _ rfl HEND.out Tryz.underlying77 rfl (by kernel_rfl)) rfl ?_
        exact ⟨⟨_, _, _, _, _, rfl, (HG3.out.keepR (fun b hb => sets_other (by omega)) (by rw [sets_size]; exact Nat.le_refl _)).low (Nat.le_succ _)⟩, (HBR.out.setCell (p := ⟨w.heap.size, 0, none⟩) (Nat.le_refl _) _).setCell (p := ⟨w.heap.size, 1, none⟩) (Nat.le_refl _) _⟩
end Vw
end Go.Proofs.YtocoonkachbjaaaGreatDoor

/- A region that draws its order in a round of a range over an iterator: what is shown of it outside a round serves. No program's code. -/
namespace Go.Proofs.YtocoonkachbjaaaGreatDoor
open Go.RowKit
set_option linter.unusedVariables false
namespace Mu
variable {P : Program} {ops : Array Oper} {Q : Exit → Act → World → Prop} {l n : Nat}

end Mu
end Go.Proofs.YtocoonkachbjaaaGreatDoor
