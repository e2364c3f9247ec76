/- An expiry: Next. -/
import Derived.Test.YtkmgpajodbadmaaExpFor
import Derived.Test.YtkmgpajodbadmaaHpAll
namespace Go.Proofs.Ytkmgpajodbadmaa
open Go.RowKit Go.Maps Go.Shelf
set_option linter.unusedVariables false
namespace Ex
open Hp (It ahd without HeapAt)

attribute [local go_sem] Oper.semAt_some

/-- The first deadline, if any. -/
def nextV (S : List Ent) : Int := match S with | [] => 0 | e :: _ => e.2.2

theorem srt_items {S : List Ent} {L : List It} (h : Inv S) (hp : L.Perm (items S)) : Hp.srt L = items S := by
  rw [Hp.srt_congr hp]; exact (Hp.srt_unique (List.Perm.refl _) h.sorted).symm

theorem boxed_put {A : World} {b l : Nat} {t : TypeId} {v : Value} (h : Boxed A b t v) (hl : b ≠ l) (o : Obj) : Boxed (A.putObj l o) b t v := (World.putObj_heap_other hl).trans h
theorem boxed_own {A B : World} {b : Nat} {t : TypeId} {v : Value} {row : Option Nat} (h : Boxed A b t v) (hg : A.grownBy B row) (hr : ∀ r, row = some r → ∃ o : Obj, A.heap[r]? = some o ∧ o.isCells = false) : Boxed B b t v :=
  h.kept hg (fun e => by
    obtain ⟨o, ho, hc⟩ := hr b e.symm
    have h2 : A.heap[b]? = some (.cells #[v] t (0, 0)) := h
    rw [h2] at ho
    cases ho
    cases hc)

set_option maxRecDepth 100000 in
set_option maxHeartbeats 4000000 in
theorem enext_in (lo E N : Nat) (S : List Ent) (F : Nat → Prop) (w : World) (h : ExpAt lo E N S F w) :
    CallsIn Fence.wide 4 Try.prog 23 #[.pointer (some ⟨E, 0, none⟩)] w fun e w' => e = .returned (.tuple #[.int .i64 (nextV S), .bool (!S.isEmpty)]) ∧ Below w.heap.size w w' := by
  obtain ⟨W, hW⟩ : ∃ W, W = (w.alloc (.cells #[.int .i64 0] 3)).alloc (.cells #[.bool false] 4) := ⟨_, rfl⟩
  have hb : Below w.heap.size w W := by rw [hW]; exact ((Below.refl _ w).alloc (Nat.le_refl _) _).alloc (by simp) _
  have bA : Boxed W w.heap.size 3 (.int .i64 0) := by rw [hW]; exact (Boxed.new w 3 (.int .i64 0)).alloc _
  have bB : Boxed W (w.heap.size + 1) 4 (.bool false) := by
    have := Boxed.new (w.alloc (.cells #[.int .i64 0] 3)) 4 (.bool false)
    rw [World.size_alloc] at this
    rw [hW]; exact this
  have hx := h.below hb
  obtain ⟨H, bm, n, D, L, Fh, k1, k2, k3, k4, k5, k6⟩ := hx
  have c0 : W.cell? ⟨E, 0, none⟩ = some (.pointer (some ⟨H, 0, none⟩)) := by rw [cell_of_row _ _ _ _ _ _ k1]; rfl
  have hall := Hp.all_any lo H 32 L Fh W k3 (by omega)
  rw [srt_items k5 k4] at hall
  have HALL := Lib.hid hall
  have HLEN := Lib.hid k5.len
  have HB := Lib.hid hb; have HBA := Lib.hid bA; have HBB := Lib.hid bB
  clear h k1 k2 k3 k4 k5 k6 hall hb bA bB
  subst hW
  refine callsIn_of_wp_marks Try.func23 rfl trivial ?_ rfl
  simp only [Try.ntmps23, List.size_toArray, List.length_cons, List.length_nil, Nat.reduceAdd, Nat.reduceSub, Array.replicate_succ, Array.replicate_zero, List.push_toArray, List.append_toArray, List.nil_append, List.cons_append]
  gi_wp2_with fail
  refine ⟨trivial, (callsIn_wide.2 HALL.out).mono ?_⟩
  rintro e w2 ⟨Bs, rfl, hit, hb2⟩
  gi_wp2_with fail
  have hbA : Boxed w2 w.heap.size 3 (.int .i64 0) := (hb2.block w.heap.size (by simp; omega)).trans HBA.out
  have hbB : Boxed w2 (w.heap.size + 1) 4 (.bool false) := (hb2.block (w.heap.size + 1) (by simp)).trans HBB.out
  have hbw : Below w.heap.size w w2 := HB.out.trans (hb2.mono HB.out.size)
  obtain ⟨hlow, sv, hcell, hitems, hown⟩ := hit
  have hBl : Bs < w2.heap.size := World.block_lt_of_cell? w2 _ hcell
  have hil : ((items S).length : Int) ≤ 1048576 := by rw [items_len]; have := HLEN.out; omega
  have hsz2 : w.heap.size + 2 ≤ w2.heap.size := by have := hb2.size; simp at this; omega
  have HSZ := Lib.hid hsz2
  have HBW := Lib.hid hbw
  refine wpIn_rangeFunc_ownG (F := Fence.wide) rfl (by decide) (gf := 32) (lb := #[.pointer (some ⟨Bs, 0, none⟩)]) rfl trivial (enters_of Try.func32 (by kernel_rfl) rfl)
    (Hp.all2_stops Fence.wide 3 trivial rfl (by omega) Bs w2.heap.size sv (items S) hil _ hBl (Nat.le_refl _) hcell hitems) belowK_t (belowK_b (Nat.le_refl _)) (Below.refl _ _) (fun _ => rfl)
    (fun pre W => (pre = [] ∧ Boxed W w.heap.size 3 (.int .i64 0) ∧ Boxed W (w.heap.size + 1) 4 (.bool false)) ∧ Below w.heap.size w W)
    (fun c pre W => (c = .ret ∧ ∃ x, pre = [x] ∧ Boxed W w.heap.size 3 (.int .i64 x.2) ∧ Boxed W (w.heap.size + 1) 4 (.bool true)) ∧ Below w.heap.size w W)
    ?own ?ownx ?start (fun x => { tmps := #[.pointer (some ⟨E, 0, none⟩), undef, .pointer (some ⟨w.heap.size, 0, none⟩), .pointer (some ⟨w.heap.size + 1, 0, none⟩), undef, .int .i64 x.2, .pointer (some ⟨E, 0, none⟩), .pointer (some ⟨E, 0, none⟩), .pointer (some ⟨E, 0, none⟩), .pointer (some ⟨H, 0, none⟩), .func (.func 32) #[] #[.pointer (some ⟨Bs, 0, none⟩)], .int .i64 x.1, .int .i64 x.2, undef], defers := [] }) ?assign ?body ?done ?stop
  case own => exact OwnFrom.and (Own.from (fun s A B row hs hg hr => ⟨hs.1, boxed_own hs.2.1 hg hr, boxed_own hs.2.2 hg hr⟩) _) (ownFrom_below (Nat.le_refl _) (by have := HSZ.out; omega))
  case ownx => exact fun c => OwnFrom.and (Own.from (fun s A B row hs hg hr => by
      obtain ⟨hc, x, hx, h1, h2⟩ := hs
      exact ⟨hc, x, hx, boxed_own h1 hg hr, boxed_own h2 hg hr⟩) _) (ownFrom_below (Nat.le_refl _) (by have := HSZ.out; omega))
  case start => exact ⟨⟨rfl, hbA, hbB⟩, hbw⟩
  case assign =>
    intro l x W K hK
    gi_wp2
    exact hK
  case body =>
    rintro l pre x W ⟨⟨rfl, hA, hB⟩, hbl⟩ hlt
    have a1 := hA.cell; have a2 := hA.frozen
    have c1 := hB.cell; have c2 := hB.frozen
    have HA := Lib.hid hA; have HB2 := Lib.hid hB; have HBL := Lib.hid hbl
    clear hA hB hbl hlt
    gi_wp2
    refine ⟨((KeepsOthers.setCell W _ _).trans (KeepsOthers.setCell _ _ _)).from _, ⟨rfl, x, rfl, ?_, ?_⟩, (HBL.out.setCell (by simp) _).setCell (by simp) _⟩
    · exact (Below.heap_setCell _ _ _ _ (by simp)).trans (HA.out.set _)
    · have h : Boxed (W.setCell ⟨w.heap.size, 0, none⟩ (.int .i64 x.2)) (w.heap.size + 1) 4 (.bool false) := (Below.heap_setCell _ _ _ _ (by simp)).trans HB2.out
      exact h.set _
  case done =>
    rintro Dd ys W hD rfl ⟨⟨hnil, hA, hB⟩, hbl⟩ hK
    have hS : S = [] := by
      have := congrArg List.length hnil
      rw [items_len] at this
      exact List.eq_nil_of_length_eq_zero this
    subst hS
    have a1 := hA.cell; have a2 := hA.frozen
    have c1 := hB.cell; have c2 := hB.frozen
    gi_wp2
    have hK2 : ((W.setCell ⟨w.heap.size, 0, none⟩ (.int .i64 0)).setCell ⟨w.heap.size + 1, 0, none⟩ (.bool false)).heap[Dd]? = some (.deferred (some [])) :=
      (Below.heap_setCell _ _ _ _ (by have := HSZ.out; simp; omega)).trans ((Below.heap_setCell _ _ _ _ (by have := HSZ.out; simp; omega)).trans hK)
    have hA2 : Boxed ((W.setCell ⟨w.heap.size, 0, none⟩ (.int .i64 0)).setCell ⟨w.heap.size + 1, 0, none⟩ (.bool false)) w.heap.size 3 (.int .i64 0) := (Below.heap_setCell _ _ _ _ (by simp)).trans (hA.set _)
    have hB2 : Boxed ((W.setCell ⟨w.heap.size, 0, none⟩ (.int .i64 0)).setCell ⟨w.heap.size + 1, 0, none⟩ (.bool false)) (w.heap.size + 1) 4 (.bool false) := by
      have h : Boxed (W.setCell ⟨w.heap.size, 0, none⟩ (.int .i64 0)) (w.heap.size + 1) 4 (.bool false) := (Below.heap_setCell _ _ _ _ (by simp)).trans hB
      exact h.set _
    have hb3 := (hbl.setCell (p := ⟨w.heap.size, 0, none⟩) (by simp) (.int .i64 0)).setCell (p := ⟨w.heap.size + 1, 0, none⟩) (by simp) (.bool false)
    obtain ⟨W3, hW3⟩ : ∃ W3, W3 = (W.setCell ⟨w.heap.size, 0, none⟩ (.int .i64 0)).setCell ⟨w.heap.size + 1, 0, none⟩ (.bool false) := ⟨_, rfl⟩
    rw [← hW3] at hK2 hA2 hB2 hb3 ⊢
    refine ⟨by simp, .inl ⟨_, _, rfl, run_takeDeferred hK2, ?_⟩⟩
    have hA4 := fun o => (boxed_put (l := Dd) hA2 (by have := HSZ.out; omega) o).cell
    have hB4 := fun o => (boxed_put (l := Dd) hB2 (by have := HSZ.out; omega) o).cell
    refine ⟨.tuple #[.int .i64 0, .bool false], by simp only [results, Try.results23]; simp [go_sem, hA4, hB4], ?_⟩
    exact ⟨rfl, hb3.trans (belowK_b (w := w) (Nat.le_refl _) W3 Dd _ _ (by have := HSZ.out; omega) hK2 rfl rfl)⟩
  case stop =>
    rintro Dd c pre W hD hpre ⟨⟨rfl, x, rfl, hA, hB⟩, hbl⟩ hK
    have a1 := hA.cell; have c1 := hB.cell
    have hv : nextV S = x.2 ∧ (!S.isEmpty) = true := by
      obtain ⟨r, hr⟩ := hpre
      cases S with
      | nil => simp [items] at hr
      | cons e t =>
        rw [show items (e :: t) = itm e :: items t from rfl] at hr
        injection hr with h1 h2
        subst h1
        exact ⟨rfl, rfl⟩
    gi_wp2
    refine ⟨by simp, .inl ⟨_, _, rfl, run_takeDeferred hK, ?_⟩⟩
    have hA4 := fun o => (boxed_put (l := Dd) hA (by have := HSZ.out; omega) o).cell
    have hB4 := fun o => (boxed_put (l := Dd) hB (by have := HSZ.out; omega) o).cell
    refine ⟨.tuple #[.int .i64 x.2, .bool true], by simp only [results, Try.results23]; simp [go_sem, hA4, hB4], ?_⟩
    exact ⟨by rw [hv.1, hv.2], hbl.trans (belowK_b (w := w) (Nat.le_refl _) W Dd _ _ (by have := HSZ.out; omega) hK rfl rfl)⟩

theorem enext_any (lo E N : Nat) (S : List Ent) (F : Nat → Prop) (w : World) (h : ExpAt lo E N S F w) :
    Calls Try.prog 23 #[.pointer (some ⟨E, 0, none⟩)] w fun e w' => e = .returned (.tuple #[.int .i64 (nextV S), .bool (!S.isEmpty)]) ∧ Below w.heap.size w w' :=
  callsIn_wide.1 (enext_in lo E N S F w h)

end Ex
end Go.Proofs.Ytkmgpajodbadmaa
