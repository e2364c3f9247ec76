/- Several texts in one: what each proves its own first comment says. -/
import Derived.Test.YtocoonkachbjaaaGreatDoorM5
import Derived.Test.YtocoonkachbjaaaGreatDoorM6
import Derived.Test.YtocoonkachbjaaaGreatDoorM3
import Derived.Deep.RegionHeld3

/- view.Line: each way of it (printed by wip/mkline.py). -/
namespace Go.Proofs.YtocoonkachbjaaaGreatDoor
open Go.RowKit Go.Proofs.NmPlain Go.Proofs.YtocoonkachbjaaaGreatDoor.Sc
set_option linter.unusedVariables false
namespace Vw

theorem cprint_any (t : Int) (h : tm t = true) (w : World) (hp : PartsAt w) (htab : Lib.TabIs Tryz.prog w "internal/strconv.uint64pow10" .u64 Lib.pow10Tab) :
    Calls Tryz.prog 26 #[.int .i64 t] w fun e w' => e = .returned (.tuple #[.string ⟨(prt t).toArray⟩, .nilIface]) ∧ Below w.heap.size w w' := by
  by_cases h0 : t = 0
  · subst h0
    exact (print_zero w).mono fun e w' ⟨he, hw⟩ => ⟨he, by rw [← hw]; exact Below.refl _ _⟩
  · exact print_yes t h h0 w hp htab
/-- What a line is made of, and stays. -/
structure Env (lo B : Nat) (ls : List ByteArray) (w : World) : Prop where
  book : BookAt lo w B ls
  parts : PartsAt w
  tab : Lib.TabIs Tryz.prog w "internal/strconv.uint64pow10" .u64 Lib.pow10Tab

structure LineIn (lo B : Nat) (ls : List ByteArray) (s : Sess) (w : World) : Prop where
  hbk : IsBook ls
  hsc : s.scopes < 18446744073709551616
  hz1 : s.user.size ≤ 9223372036854775807
  hz2 : s.label.size ≤ 9223372036854775807
  henv : ∀ w', Below w.heap.size w w' → Env lo B ls w'
  wd : (Lit.int .i64 s.dl).wf = true


set_option maxHeartbeats 4000000 in
theorem line_a1w (lo B : Nat) (ls : List ByteArray) (s : Sess) (now : Int) (wn : (Lit.int .i64 now).wf = true) (w : World) (hin : LineIn lo B ls s w) (h : s.birth < 1) :
    Calls Tryz.prog 7 #[.pointer (some ⟨B, 0, none⟩), .agg #[.int .i64 s.slot, .int .i64 s.birth, .int .i64 s.us, .int .i64 s.ub, .int .i64 s.kind, .string s.user, .string s.label, .int .u64 (s.scopes : Int), .int .i64 s.level, .int .i64 s.born, .int .i64 s.dl, .int .i64 s.depth], .int .i64 now] w fun e w' => LinePost ls s now e ∧ Below w.heap.size w w' := by
  obtain ⟨W, hW⟩ : ∃ W, W = w.alloc (.cells #[.int .i64 s.slot, .int .i64 s.birth, .int .i64 s.us, .int .i64 s.ub, .int .i64 s.kind, .string s.user, .string s.label, .int .u64 (s.scopes : Int), .int .i64 s.level, .int .i64 s.born, .int .i64 s.dl, .int .i64 s.depth] 30) := ⟨_, rfl⟩
  have hb0 : Below w.heap.size w W := by rw [hW]; exact (Below.refl _ _).alloc (Nat.le_refl _) _
  have hbx : W.heap[w.heap.size]? = some (.cells #[.int .i64 s.slot, .int .i64 s.birth, .int .i64 s.us, .int .i64 s.ub, .int .i64 s.kind, .string s.user, .string s.label, .int .u64 (s.scopes : Int), .int .i64 s.level, .int .i64 s.born, .int .i64 s.dl, .int .i64 s.depth] 30 (0, 0)) := by rw [hW]; exact Ut.alloc_at _ _
  have HX := Lib.hid (fun (w' : World) (hb : Below W.heap.size W w') => (by
    have h1 := (hb.block w.heap.size (Array.getElem?_eq_some_iff.1 hbx).1).trans hbx
    have h2 : ∀ j, w'.cell? ⟨w.heap.size, j, none⟩ = (#[.int .i64 s.slot, .int .i64 s.birth, .int .i64 s.us, .int .i64 s.ub, .int .i64 s.kind, .string s.user, .string s.label, .int .u64 (s.scopes : Int), .int .i64 s.level, .int .i64 s.born, .int .i64 s.dl, .int .i64 s.depth] : Array Value)[j]? := fun j => cell_of_row _ _ _ _ _ _ h1
    exact ⟨h2 1, h2 4, h2 5, h2 6, h2 7, h2 8, h2 10⟩ : w'.cell? ⟨w.heap.size, 1, none⟩ = some (.int .i64 s.birth) ∧ w'.cell? ⟨w.heap.size, 4, none⟩ = some (.int .i64 s.kind) ∧ w'.cell? ⟨w.heap.size, 5, none⟩ = some (.string s.user) ∧ w'.cell? ⟨w.heap.size, 6, none⟩ = some (.string s.label) ∧ w'.cell? ⟨w.heap.size, 7, none⟩ = some (.int .u64 (s.scopes : Int)) ∧ w'.cell? ⟨w.heap.size, 8, none⟩ = some (.int .i64 s.level) ∧ w'.cell? ⟨w.heap.size, 10, none⟩ = some (.int .i64 s.dl)))
  obtain ⟨x1, x4, x5, x6, x7, x8, x10⟩ := HX.out W (Below.refl _ _)
  have HB0 := Lib.hid hb0
  have HW := Lib.hid hW
  have HIN := Lib.hid hin
  have HFIN : Hid (LinePost ls s now (.returned (.tuple #[.string ⟨#[]⟩, .iface 55 (.int .i64 1)])) ∧ Below w.heap.size w W) := ⟨LinePost.mk (no := 1) (line_a (.inl h)) rfl rfl, hb0⟩
  clear hbx hb0 hin wn
  clear HIN HX HB0 HW
  subst hW
  go_enter Tryz.func7, Tryz.ntmps7
  go_wp2
  go_ret2
  exact HFIN.out

set_option maxHeartbeats 4000000 in
theorem line_a2w (lo B : Nat) (ls : List ByteArray) (s : Sess) (now : Int) (wn : (Lit.int .i64 now).wf = true) (w : World) (hin : LineIn lo B ls s w) (h0 : 1 ≤ s.birth) (h : 1048576 < s.birth) :
    Calls Tryz.prog 7 #[.pointer (some ⟨B, 0, none⟩), .agg #[.int .i64 s.slot, .int .i64 s.birth, .int .i64 s.us, .int .i64 s.ub, .int .i64 s.kind, .string s.user, .string s.label, .int .u64 (s.scopes : Int), .int .i64 s.level, .int .i64 s.born, .int .i64 s.dl, .int .i64 s.depth], .int .i64 now] w fun e w' => LinePost ls s now e ∧ Below w.heap.size w w' := by
  obtain ⟨W, hW⟩ : ∃ W, W = w.alloc (.cells #[.int .i64 s.slot, .int .i64 s.birth, .int .i64 s.us, .int .i64 s.ub, .int .i64 s.kind, .string s.user, .string s.label, .int .u64 (s.scopes : Int), .int .i64 s.level, .int .i64 s.born, .int .i64 s.dl, .int .i64 s.depth] 30) := ⟨_, rfl⟩
  have hb0 : Below w.heap.size w W := by rw [hW]; exact (Below.refl _ _).alloc (Nat.le_refl _) _
  have hbx : W.heap[w.heap.size]? = some (.cells #[.int .i64 s.slot, .int .i64 s.birth, .int .i64 s.us, .int .i64 s.ub, .int .i64 s.kind, .string s.user, .string s.label, .int .u64 (s.scopes : Int), .int .i64 s.level, .int .i64 s.born, .int .i64 s.dl, .int .i64 s.depth] 30 (0, 0)) := by rw [hW]; exact Ut.alloc_at _ _
  have HX := Lib.hid (fun (w' : World) (hb : Below W.heap.size W w') => (by
    have h1 := (hb.block w.heap.size (Array.getElem?_eq_some_iff.1 hbx).1).trans hbx
    have h2 : ∀ j, w'.cell? ⟨w.heap.size, j, none⟩ = (#[.int .i64 s.slot, .int .i64 s.birth, .int .i64 s.us, .int .i64 s.ub, .int .i64 s.kind, .string s.user, .string s.label, .int .u64 (s.scopes : Int), .int .i64 s.level, .int .i64 s.born, .int .i64 s.dl, .int .i64 s.depth] : Array Value)[j]? := fun j => cell_of_row _ _ _ _ _ _ h1
    exact ⟨h2 1, h2 4, h2 5, h2 6, h2 7, h2 8, h2 10⟩ : w'.cell? ⟨w.heap.size, 1, none⟩ = some (.int .i64 s.birth) ∧ w'.cell? ⟨w.heap.size, 4, none⟩ = some (.int .i64 s.kind) ∧ w'.cell? ⟨w.heap.size, 5, none⟩ = some (.string s.user) ∧ w'.cell? ⟨w.heap.size, 6, none⟩ = some (.string s.label) ∧ w'.cell? ⟨w.heap.size, 7, none⟩ = some (.int .u64 (s.scopes : Int)) ∧ w'.cell? ⟨w.heap.size, 8, none⟩ = some (.int .i64 s.level) ∧ w'.cell? ⟨w.heap.size, 10, none⟩ = some (.int .i64 s.dl)))
  obtain ⟨x1, x4, x5, x6, x7, x8, x10⟩ := HX.out W (Below.refl _ _)
  have HB0 := Lib.hid hb0
  have HW := Lib.hid hW
  have HIN := Lib.hid hin
  have HFIN : Hid (LinePost ls s now (.returned (.tuple #[.string ⟨#[]⟩, .iface 55 (.int .i64 1)])) ∧ Below w.heap.size w W) := ⟨LinePost.mk (no := 1) (line_a (.inr h)) rfl rfl, hb0⟩
  clear hbx hb0 hin wn
  clear HIN HX HB0 HW
  subst hW
  go_enter Tryz.func7, Tryz.ntmps7
  go_wp2
  go_ret2
  exact HFIN.out

set_option maxHeartbeats 4000000 in
theorem line_b1w (lo B : Nat) (ls : List ByteArray) (s : Sess) (now : Int) (wn : (Lit.int .i64 now).wf = true) (w : World) (hin : LineIn lo B ls s w) (ha0 : 1 ≤ s.birth) (ha1 : s.birth ≤ 1048576) (hu : nameB s.user.data.toList = false) :
    Calls Tryz.prog 7 #[.pointer (some ⟨B, 0, none⟩), .agg #[.int .i64 s.slot, .int .i64 s.birth, .int .i64 s.us, .int .i64 s.ub, .int .i64 s.kind, .string s.user, .string s.label, .int .u64 (s.scopes : Int), .int .i64 s.level, .int .i64 s.born, .int .i64 s.dl, .int .i64 s.depth], .int .i64 now] w fun e w' => LinePost ls s now e ∧ Below w.heap.size w w' := by
  obtain ⟨W, hW⟩ : ∃ W, W = w.alloc (.cells #[.int .i64 s.slot, .int .i64 s.birth, .int .i64 s.us, .int .i64 s.ub, .int .i64 s.kind, .string s.user, .string s.label, .int .u64 (s.scopes : Int), .int .i64 s.level, .int .i64 s.born, .int .i64 s.dl, .int .i64 s.depth] 30) := ⟨_, rfl⟩
  have hb0 : Below w.heap.size w W := by rw [hW]; exact (Below.refl _ _).alloc (Nat.le_refl _) _
  have hbx : W.heap[w.heap.size]? = some (.cells #[.int .i64 s.slot, .int .i64 s.birth, .int .i64 s.us, .int .i64 s.ub, .int .i64 s.kind, .string s.user, .string s.label, .int .u64 (s.scopes : Int), .int .i64 s.level, .int .i64 s.born, .int .i64 s.dl, .int .i64 s.depth] 30 (0, 0)) := by rw [hW]; exact Ut.alloc_at _ _
  have HX := Lib.hid (fun (w' : World) (hb : Below W.heap.size W w') => (by
    have h1 := (hb.block w.heap.size (Array.getElem?_eq_some_iff.1 hbx).1).trans hbx
    have h2 : ∀ j, w'.cell? ⟨w.heap.size, j, none⟩ = (#[.int .i64 s.slot, .int .i64 s.birth, .int .i64 s.us, .int .i64 s.ub, .int .i64 s.kind, .string s.user, .string s.label, .int .u64 (s.scopes : Int), .int .i64 s.level, .int .i64 s.born, .int .i64 s.dl, .int .i64 s.depth] : Array Value)[j]? := fun j => cell_of_row _ _ _ _ _ _ h1
    exact ⟨h2 1, h2 4, h2 5, h2 6, h2 7, h2 8, h2 10⟩ : w'.cell? ⟨w.heap.size, 1, none⟩ = some (.int .i64 s.birth) ∧ w'.cell? ⟨w.heap.size, 4, none⟩ = some (.int .i64 s.kind) ∧ w'.cell? ⟨w.heap.size, 5, none⟩ = some (.string s.user) ∧ w'.cell? ⟨w.heap.size, 6, none⟩ = some (.string s.label) ∧ w'.cell? ⟨w.heap.size, 7, none⟩ = some (.int .u64 (s.scopes : Int)) ∧ w'.cell? ⟨w.heap.size, 8, none⟩ = some (.int .i64 s.level) ∧ w'.cell? ⟨w.heap.size, 10, none⟩ = some (.int .i64 s.dl)))
  obtain ⟨x1, x4, x5, x6, x7, x8, x10⟩ := HX.out W (Below.refl _ _)
  have HB0 := Lib.hid hb0
  have HW := Lib.hid hW
  have HIN := Lib.hid hin
  have HN1 := Lib.hid (fun (w' : World) => (name_any s.user (by have := HIN.out.hz1; omega) w').mono fun e w2 h2 => (by rw [hu] at h2; exact h2 : e = .returned (.bool false) ∧ Below w'.heap.size w' w2))
  have HRU := Lib.hid (line_b (ls := ls) (s := s) (now := now) (show ¬ (s.birth < 1 ∨ 1048576 < s.birth) by omega) (.inl hu))
  clear hbx hb0 hin wn
  clear hu
  go_enter Tryz.func7, Tryz.ntmps7
  go_wp2_with fail
  rw [← hW]
  clear hW
  refine (HN1.out _).mono ?_
  rintro e w1 ⟨rfl, hbc⟩
  have HC1 : Hid (Below W.heap.size W w1) := hbc
  clear hbc x1 x4 x5 x6 x7 x8 x10
  obtain ⟨x1, x4, x5, x6, x7, x8, x10⟩ := HX.out w1 HC1.out
  have HFIN : Hid (LinePost ls s now (.returned (.tuple #[.string ⟨#[]⟩, .iface 55 (.int .i64 8)])) ∧ Below w.heap.size w w1) := ⟨LinePost.mk (no := 8) (HRU.out) rfl rfl, HB0.out.trans (HC1.out.mono HB0.out.size)⟩
  go_wp2
  go_ret2
  exact HFIN.out

set_option maxHeartbeats 4000000 in
theorem line_b2w (lo B : Nat) (ls : List ByteArray) (s : Sess) (now : Int) (wn : (Lit.int .i64 now).wf = true) (w : World) (hin : LineIn lo B ls s w) (ha0 : 1 ≤ s.birth) (ha1 : s.birth ≤ 1048576) (hu : nameB s.user.data.toList = true) (hne : s.label.data.toList ≠ []) (hl : nameB s.label.data.toList = false) :
    Calls Tryz.prog 7 #[.pointer (some ⟨B, 0, none⟩), .agg #[.int .i64 s.slot, .int .i64 s.birth, .int .i64 s.us, .int .i64 s.ub, .int .i64 s.kind, .string s.user, .string s.label, .int .u64 (s.scopes : Int), .int .i64 s.level, .int .i64 s.born, .int .i64 s.dl, .int .i64 s.depth], .int .i64 now] w fun e w' => LinePost ls s now e ∧ Below w.heap.size w w' := by
  obtain ⟨W, hW⟩ : ∃ W, W = w.alloc (.cells #[.int .i64 s.slot, .int .i64 s.birth, .int .i64 s.us, .int .i64 s.ub, .int .i64 s.kind, .string s.user, .string s.label, .int .u64 (s.scopes : Int), .int .i64 s.level, .int .i64 s.born, .int .i64 s.dl, .int .i64 s.depth] 30) := ⟨_, rfl⟩
  have hb0 : Below w.heap.size w W := by rw [hW]; exact (Below.refl _ _).alloc (Nat.le_refl _) _
  have hbx : W.heap[w.heap.size]? = some (.cells #[.int .i64 s.slot, .int .i64 s.birth, .int .i64 s.us, .int .i64 s.ub, .int .i64 s.kind, .string s.user, .string s.label, .int .u64 (s.scopes : Int), .int .i64 s.level, .int .i64 s.born, .int .i64 s.dl, .int .i64 s.depth] 30 (0, 0)) := by rw [hW]; exact Ut.alloc_at _ _
  have HX := Lib.hid (fun (w' : World) (hb : Below W.heap.size W w') => (by
    have h1 := (hb.block w.heap.size (Array.getElem?_eq_some_iff.1 hbx).1).trans hbx
    have h2 : ∀ j, w'.cell? ⟨w.heap.size, j, none⟩ = (#[.int .i64 s.slot, .int .i64 s.birth, .int .i64 s.us, .int .i64 s.ub, .int .i64 s.kind, .string s.user, .string s.label, .int .u64 (s.scopes : Int), .int .i64 s.level, .int .i64 s.born, .int .i64 s.dl, .int .i64 s.depth] : Array Value)[j]? := fun j => cell_of_row _ _ _ _ _ _ h1
    exact ⟨h2 1, h2 4, h2 5, h2 6, h2 7, h2 8, h2 10⟩ : w'.cell? ⟨w.heap.size, 1, none⟩ = some (.int .i64 s.birth) ∧ w'.cell? ⟨w.heap.size, 4, none⟩ = some (.int .i64 s.kind) ∧ w'.cell? ⟨w.heap.size, 5, none⟩ = some (.string s.user) ∧ w'.cell? ⟨w.heap.size, 6, none⟩ = some (.string s.label) ∧ w'.cell? ⟨w.heap.size, 7, none⟩ = some (.int .u64 (s.scopes : Int)) ∧ w'.cell? ⟨w.heap.size, 8, none⟩ = some (.int .i64 s.level) ∧ w'.cell? ⟨w.heap.size, 10, none⟩ = some (.int .i64 s.dl)))
  obtain ⟨x1, x4, x5, x6, x7, x8, x10⟩ := HX.out W (Below.refl _ _)
  have HB0 := Lib.hid hb0
  have HW := Lib.hid hW
  have HIN := Lib.hid hin
  have HN1 := Lib.hid (fun (w' : World) => (name_any s.user (by have := HIN.out.hz1; omega) w').mono fun e w2 h2 => (by rw [hu] at h2; exact h2 : e = .returned (.bool true) ∧ Below w'.heap.size w' w2))
  have HN2 := Lib.hid (fun (w' : World) => (name_any s.label (by have := HIN.out.hz2; omega) w').mono fun e w2 h2 => (by rw [hl] at h2; exact h2 : e = .returned (.bool false) ∧ Below w'.heap.size w' w2))
  have HRU := Lib.hid (line_b (ls := ls) (s := s) (now := now) (show ¬ (s.birth < 1 ∨ 1048576 < s.birth) by omega) (.inr ⟨hne, hl⟩))
  have l1 : s.label.toList.isEmpty = false := by rw [Lib.toList_data]; cases h : s.label.data.toList with | nil => exact absurd h hne | cons a r => rfl
  clear hbx hb0 hin wn
  clear hu hl hne
  go_enter Tryz.func7, Tryz.ntmps7
  go_wp2_with fail
  rw [← hW]
  clear hW
  refine (HN1.out _).mono ?_
  rintro e w1 ⟨rfl, hbc⟩
  have HC1 : Hid (Below W.heap.size W w1) := hbc
  clear hbc x1 x4 x5 x6 x7 x8 x10
  obtain ⟨x1, x4, x5, x6, x7, x8, x10⟩ := HX.out w1 HC1.out
  go_wp2_with fail
  refine (HN2.out _).mono ?_
  rintro e w2 ⟨rfl, hbc⟩
  have HC2 : Hid (Below W.heap.size W w2) := HC1.out.trans (hbc.mono HC1.out.size)
  clear hbc x1 x4 x5 x6 x7 x8 x10
  obtain ⟨x1, x4, x5, x6, x7, x8, x10⟩ := HX.out w2 HC2.out
  have HFIN : Hid (LinePost ls s now (.returned (.tuple #[.string ⟨#[]⟩, .iface 55 (.int .i64 8)])) ∧ Below w.heap.size w w2) := ⟨LinePost.mk (no := 8) (HRU.out) rfl rfl, HB0.out.trans (HC2.out.mono HB0.out.size)⟩
  go_wp2
  go_ret2
  exact HFIN.out

set_option maxHeartbeats 4000000 in
theorem line_cnw (lo B : Nat) (ls : List ByteArray) (s : Sess) (now : Int) (wn : (Lit.int .i64 now).wf = true) (w : World) (hin : LineIn lo B ls s w) (ha0 : 1 ≤ s.birth) (ha1 : s.birth ≤ 1048576) (hu : nameB s.user.data.toList = true) (he : s.label.data.toList = []) (hk : s.kind < 0 ∨ 2 < s.kind) :
    Calls Tryz.prog 7 #[.pointer (some ⟨B, 0, none⟩), .agg #[.int .i64 s.slot, .int .i64 s.birth, .int .i64 s.us, .int .i64 s.ub, .int .i64 s.kind, .string s.user, .string s.label, .int .u64 (s.scopes : Int), .int .i64 s.level, .int .i64 s.born, .int .i64 s.dl, .int .i64 s.depth], .int .i64 now] w fun e w' => LinePost ls s now e ∧ Below w.heap.size w w' := by
  obtain ⟨W, hW⟩ : ∃ W, W = w.alloc (.cells #[.int .i64 s.slot, .int .i64 s.birth, .int .i64 s.us, .int .i64 s.ub, .int .i64 s.kind, .string s.user, .string s.label, .int .u64 (s.scopes : Int), .int .i64 s.level, .int .i64 s.born, .int .i64 s.dl, .int .i64 s.depth] 30) := ⟨_, rfl⟩
  have hb0 : Below w.heap.size w W := by rw [hW]; exact (Below.refl _ _).alloc (Nat.le_refl _) _
  have hbx : W.heap[w.heap.size]? = some (.cells #[.int .i64 s.slot, .int .i64 s.birth, .int .i64 s.us, .int .i64 s.ub, .int .i64 s.kind, .string s.user, .string s.label, .int .u64 (s.scopes : Int), .int .i64 s.level, .int .i64 s.born, .int .i64 s.dl, .int .i64 s.depth] 30 (0, 0)) := by rw [hW]; exact Ut.alloc_at _ _
  have HX := Lib.hid (fun (w' : World) (hb : Below W.heap.size W w') => (by
    have h1 := (hb.block w.heap.size (Array.getElem?_eq_some_iff.1 hbx).1).trans hbx
    have h2 : ∀ j, w'.cell? ⟨w.heap.size, j, none⟩ = (#[.int .i64 s.slot, .int .i64 s.birth, .int .i64 s.us, .int .i64 s.ub, .int .i64 s.kind, .string s.user, .string s.label, .int .u64 (s.scopes : Int), .int .i64 s.level, .int .i64 s.born, .int .i64 s.dl, .int .i64 s.depth] : Array Value)[j]? := fun j => cell_of_row _ _ _ _ _ _ h1
    exact ⟨h2 1, h2 4, h2 5, h2 6, h2 7, h2 8, h2 10⟩ : w'.cell? ⟨w.heap.size, 1, none⟩ = some (.int .i64 s.birth) ∧ w'.cell? ⟨w.heap.size, 4, none⟩ = some (.int .i64 s.kind) ∧ w'.cell? ⟨w.heap.size, 5, none⟩ = some (.string s.user) ∧ w'.cell? ⟨w.heap.size, 6, none⟩ = some (.string s.label) ∧ w'.cell? ⟨w.heap.size, 7, none⟩ = some (.int .u64 (s.scopes : Int)) ∧ w'.cell? ⟨w.heap.size, 8, none⟩ = some (.int .i64 s.level) ∧ w'.cell? ⟨w.heap.size, 10, none⟩ = some (.int .i64 s.dl)))
  obtain ⟨x1, x4, x5, x6, x7, x8, x10⟩ := HX.out W (Below.refl _ _)
  have HB0 := Lib.hid hb0
  have HW := Lib.hid hW
  have HIN := Lib.hid hin
  have HN1 := Lib.hid (fun (w' : World) => (name_any s.user (by have := HIN.out.hz1; omega) w').mono fun e w2 h2 => (by rw [hu] at h2; exact h2 : e = .returned (.bool true) ∧ Below w'.heap.size w' w2))
  have l1 : s.label.toList = [] := by rw [Lib.toList_data]; exact he
  have HWD := Lib.hid (fun w' => vword_any s.kind w')
  rw [kind_no hk] at HWD
  have hnb : ¬ (nameB s.user.data.toList = false ∨ (s.label.data.toList ≠ [] ∧ nameB s.label.data.toList = false)) := by
    rintro (h | ⟨h1, h2⟩)
    · rw [hu] at h; cases h
    · exact h1 he
  have HRU := Lib.hid (line_c (ls := ls) (s := s) (now := now) (show ¬ (s.birth < 1 ∨ 1048576 < s.birth) by omega) hnb hk)
  clear hbx hb0 hin wn
  clear hu hk hnb he
  go_enter Tryz.func7, Tryz.ntmps7
  go_wp2_with fail
  rw [← hW]
  clear hW
  refine (HN1.out _).mono ?_
  rintro e w1 ⟨rfl, hbc⟩
  have HC1 : Hid (Below W.heap.size W w1) := hbc
  clear hbc x1 x4 x5 x6 x7 x8 x10
  obtain ⟨x1, x4, x5, x6, x7, x8, x10⟩ := HX.out w1 HC1.out
  go_wp2_with fail
  refine (HWD.out _).mono ?_
  rintro e w0 ⟨rfl, rfl⟩
  have HFIN : Hid (LinePost ls s now (.returned (.tuple #[.string ⟨#[]⟩, .iface 55 (.int .i64 1)])) ∧ Below w.heap.size w w1) := ⟨LinePost.mk (no := 1) (HRU.out) rfl rfl, HB0.out.trans (HC1.out.mono HB0.out.size)⟩
  go_wp2
  go_ret2
  exact HFIN.out

set_option maxHeartbeats 4000000 in
theorem line_dnw (lo B : Nat) (ls : List ByteArray) (s : Sess) (now : Int) (wn : (Lit.int .i64 now).wf = true) (w : World) (hin : LineIn lo B ls s w) (ha0 : 1 ≤ s.birth) (ha1 : s.birth ≤ 1048576) (hu : nameB s.user.data.toList = true) (he : s.label.data.toList = []) (hk0 : 0 ≤ s.kind) (hk1 : s.kind ≤ 2) (hlv : s.level < 0 ∨ 2 < s.level) :
    Calls Tryz.prog 7 #[.pointer (some ⟨B, 0, none⟩), .agg #[.int .i64 s.slot, .int .i64 s.birth, .int .i64 s.us, .int .i64 s.ub, .int .i64 s.kind, .string s.user, .string s.label, .int .u64 (s.scopes : Int), .int .i64 s.level, .int .i64 s.born, .int .i64 s.dl, .int .i64 s.depth], .int .i64 now] w fun e w' => LinePost ls s now e ∧ Below w.heap.size w w' := by
  obtain ⟨W, hW⟩ : ∃ W, W = w.alloc (.cells #[.int .i64 s.slot, .int .i64 s.birth, .int .i64 s.us, .int .i64 s.ub, .int .i64 s.kind, .string s.user, .string s.label, .int .u64 (s.scopes : Int), .int .i64 s.level, .int .i64 s.born, .int .i64 s.dl, .int .i64 s.depth] 30) := ⟨_, rfl⟩
  have hb0 : Below w.heap.size w W := by rw [hW]; exact (Below.refl _ _).alloc (Nat.le_refl _) _
  have hbx : W.heap[w.heap.size]? = some (.cells #[.int .i64 s.slot, .int .i64 s.birth, .int .i64 s.us, .int .i64 s.ub, .int .i64 s.kind, .string s.user, .string s.label, .int .u64 (s.scopes : Int), .int .i64 s.level, .int .i64 s.born, .int .i64 s.dl, .int .i64 s.depth] 30 (0, 0)) := by rw [hW]; exact Ut.alloc_at _ _
  have HX := Lib.hid (fun (w' : World) (hb : Below W.heap.size W w') => (by
    have h1 := (hb.block w.heap.size (Array.getElem?_eq_some_iff.1 hbx).1).trans hbx
    have h2 : ∀ j, w'.cell? ⟨w.heap.size, j, none⟩ = (#[.int .i64 s.slot, .int .i64 s.birth, .int .i64 s.us, .int .i64 s.ub, .int .i64 s.kind, .string s.user, .string s.label, .int .u64 (s.scopes : Int), .int .i64 s.level, .int .i64 s.born, .int .i64 s.dl, .int .i64 s.depth] : Array Value)[j]? := fun j => cell_of_row _ _ _ _ _ _ h1
    exact ⟨h2 1, h2 4, h2 5, h2 6, h2 7, h2 8, h2 10⟩ : w'.cell? ⟨w.heap.size, 1, none⟩ = some (.int .i64 s.birth) ∧ w'.cell? ⟨w.heap.size, 4, none⟩ = some (.int .i64 s.kind) ∧ w'.cell? ⟨w.heap.size, 5, none⟩ = some (.string s.user) ∧ w'.cell? ⟨w.heap.size, 6, none⟩ = some (.string s.label) ∧ w'.cell? ⟨w.heap.size, 7, none⟩ = some (.int .u64 (s.scopes : Int)) ∧ w'.cell? ⟨w.heap.size, 8, none⟩ = some (.int .i64 s.level) ∧ w'.cell? ⟨w.heap.size, 10, none⟩ = some (.int .i64 s.dl)))
  obtain ⟨x1, x4, x5, x6, x7, x8, x10⟩ := HX.out W (Below.refl _ _)
  have HB0 := Lib.hid hb0
  have HW := Lib.hid hW
  have HIN := Lib.hid hin
  have HN1 := Lib.hid (fun (w' : World) => (name_any s.user (by have := HIN.out.hz1; omega) w').mono fun e w2 h2 => (by rw [hu] at h2; exact h2 : e = .returned (.bool true) ∧ Below w'.heap.size w' w2))
  have l1 : s.label.toList = [] := by rw [Lib.toList_data]; exact he
  obtain ⟨K, hK⟩ : ∃ K : ByteArray, K = ⟨(kindL s.kind).toArray⟩ := ⟨_, rfl⟩
  have HWD := Lib.hid (fun w' => vword_any s.kind w')
  rw [← hK] at HWD
  have hKe : K.toList.isEmpty = false := by
    rw [Lib.toList_data, hK]
    have := kind_yes hk0 hk1
    show (kindL s.kind).isEmpty = false
    cases h : kindL s.kind with
    | nil => exact absurd h this
    | cons a r => rfl
  have HK := Lib.hid hK
  clear hK
  have HLV := Lib.hid (fun w' => level_no s.level hlv w')
  have hnb : ¬ (nameB s.user.data.toList = false ∨ (s.label.data.toList ≠ [] ∧ nameB s.label.data.toList = false)) := by
    rintro (h | ⟨h1, h2⟩)
    · rw [hu] at h; cases h
    · exact h1 he
  have HRU := Lib.hid (line_d (ls := ls) (s := s) (now := now) (show ¬ (s.birth < 1 ∨ 1048576 < s.birth) by omega) hnb (show ¬ (s.kind < 0 ∨ 2 < s.kind) by omega) hlv)
  clear hbx hb0 hin wn
  clear hu hk0 hk1 hlv hnb he
  go_enter Tryz.func7, Tryz.ntmps7
  go_wp2_with fail
  rw [← hW]
  clear hW
  refine (HN1.out _).mono ?_
  rintro e w1 ⟨rfl, hbc⟩
  have HC1 : Hid (Below W.heap.size W w1) := hbc
  clear hbc x1 x4 x5 x6 x7 x8 x10
  obtain ⟨x1, x4, x5, x6, x7, x8, x10⟩ := HX.out w1 HC1.out
  go_wp2_with fail
  refine (HWD.out _).mono ?_
  rintro e w0 ⟨rfl, rfl⟩
  go_wp2_with fail
  refine (HLV.out _).mono ?_
  rintro e w0 ⟨rfl, rfl⟩
  have HFIN : Hid (LinePost ls s now (.returned (.tuple #[.string ⟨#[]⟩, .iface 55 (.int .i64 13)])) ∧ Below w.heap.size w w1) := ⟨LinePost.mk (no := 13) (HRU.out) rfl rfl, HB0.out.trans (HC1.out.mono HB0.out.size)⟩
  go_wp2
  go_ret2
  exact HFIN.out

set_option maxHeartbeats 4000000 in
theorem line_enw (lo B : Nat) (ls : List ByteArray) (s : Sess) (now : Int) (wn : (Lit.int .i64 now).wf = true) (w : World) (hin : LineIn lo B ls s w) (ha0 : 1 ≤ s.birth) (ha1 : s.birth ≤ 1048576) (hu : nameB s.user.data.toList = true) (he : s.label.data.toList = []) (hk0 : 0 ≤ s.kind) (hk1 : s.kind ≤ 2) (hl0 : 0 ≤ s.level) (hl1 : s.level ≤ 2) (hs : 2 ^ ls.length ≤ s.scopes) :
    Calls Tryz.prog 7 #[.pointer (some ⟨B, 0, none⟩), .agg #[.int .i64 s.slot, .int .i64 s.birth, .int .i64 s.us, .int .i64 s.ub, .int .i64 s.kind, .string s.user, .string s.label, .int .u64 (s.scopes : Int), .int .i64 s.level, .int .i64 s.born, .int .i64 s.dl, .int .i64 s.depth], .int .i64 now] w fun e w' => LinePost ls s now e ∧ Below w.heap.size w w' := by
  obtain ⟨W, hW⟩ : ∃ W, W = w.alloc (.cells #[.int .i64 s.slot, .int .i64 s.birth, .int .i64 s.us, .int .i64 s.ub, .int .i64 s.kind, .string s.user, .string s.label, .int .u64 (s.scopes : Int), .int .i64 s.level, .int .i64 s.born, .int .i64 s.dl, .int .i64 s.depth] 30) := ⟨_, rfl⟩
  have hb0 : Below w.heap.size w W := by rw [hW]; exact (Below.refl _ _).alloc (Nat.le_refl _) _
  have hbx : W.heap[w.heap.size]? = some (.cells #[.int .i64 s.slot, .int .i64 s.birth, .int .i64 s.us, .int .i64 s.ub, .int .i64 s.kind, .string s.user, .string s.label, .int .u64 (s.scopes : Int), .int .i64 s.level, .int .i64 s.born, .int .i64 s.dl, .int .i64 s.depth] 30 (0, 0)) := by rw [hW]; exact Ut.alloc_at _ _
  have HX := Lib.hid (fun (w' : World) (hb : Below W.heap.size W w') => (by
    have h1 := (hb.block w.heap.size (Array.getElem?_eq_some_iff.1 hbx).1).trans hbx
    have h2 : ∀ j, w'.cell? ⟨w.heap.size, j, none⟩ = (#[.int .i64 s.slot, .int .i64 s.birth, .int .i64 s.us, .int .i64 s.ub, .int .i64 s.kind, .string s.user, .string s.label, .int .u64 (s.scopes : Int), .int .i64 s.level, .int .i64 s.born, .int .i64 s.dl, .int .i64 s.depth] : Array Value)[j]? := fun j => cell_of_row _ _ _ _ _ _ h1
    exact ⟨h2 1, h2 4, h2 5, h2 6, h2 7, h2 8, h2 10⟩ : w'.cell? ⟨w.heap.size, 1, none⟩ = some (.int .i64 s.birth) ∧ w'.cell? ⟨w.heap.size, 4, none⟩ = some (.int .i64 s.kind) ∧ w'.cell? ⟨w.heap.size, 5, none⟩ = some (.string s.user) ∧ w'.cell? ⟨w.heap.size, 6, none⟩ = some (.string s.label) ∧ w'.cell? ⟨w.heap.size, 7, none⟩ = some (.int .u64 (s.scopes : Int)) ∧ w'.cell? ⟨w.heap.size, 8, none⟩ = some (.int .i64 s.level) ∧ w'.cell? ⟨w.heap.size, 10, none⟩ = some (.int .i64 s.dl)))
  obtain ⟨x1, x4, x5, x6, x7, x8, x10⟩ := HX.out W (Below.refl _ _)
  have HB0 := Lib.hid hb0
  have HW := Lib.hid hW
  have HIN := Lib.hid hin
  have HN1 := Lib.hid (fun (w' : World) => (name_any s.user (by have := HIN.out.hz1; omega) w').mono fun e w2 h2 => (by rw [hu] at h2; exact h2 : e = .returned (.bool true) ∧ Below w'.heap.size w' w2))
  have l1 : s.label.toList = [] := by rw [Lib.toList_data]; exact he
  obtain ⟨K, hK⟩ : ∃ K : ByteArray, K = ⟨(kindL s.kind).toArray⟩ := ⟨_, rfl⟩
  have HWD := Lib.hid (fun w' => vword_any s.kind w')
  rw [← hK] at HWD
  have hKe : K.toList.isEmpty = false := by
    rw [Lib.toList_data, hK]
    have := kind_yes hk0 hk1
    show (kindL s.kind).isEmpty = false
    cases h : kindL s.kind with
    | nil => exact absurd h this
    | cons a r => rfl
  have HK := Lib.hid hK
  clear hK
  obtain ⟨L, hL⟩ : ∃ L : ByteArray, L = ⟨(levL s.level).toArray⟩ := ⟨_, rfl⟩
  have HLV := Lib.hid (fun w' => level_yes s.level hl0 hl1 w')
  rw [← hL] at HLV
  have HL := Lib.hid hL
  clear hL
  have HPR := Lib.hid (fun (w' : World) (hb : Below W.heap.size W w') => (print_any lo B ls HIN.out.hbk s.scopes HIN.out.hsc w' (HIN.out.henv w' (HB0.out.trans (hb.mono HB0.out.size))).book).mono fun e w2 h2 => (⟨by have h3 := h2.1; unfold PrintPost at h3; rw [scopes_err hs] at h3; exact h3, h2.2⟩ : e = .returned (.tuple #[.string ⟨#[]⟩, .iface 55 (.int .i64 11)]) ∧ Below w'.heap.size w' w2))
  have hnb : ¬ (nameB s.user.data.toList = false ∨ (s.label.data.toList ≠ [] ∧ nameB s.label.data.toList = false)) := by
    rintro (h | ⟨h1, h2⟩)
    · rw [hu] at h; cases h
    · exact h1 he
  have HRU := Lib.hid (line_e (ls := ls) (s := s) (now := now) (show ¬ (s.birth < 1 ∨ 1048576 < s.birth) by omega) hnb (show ¬ (s.kind < 0 ∨ 2 < s.kind) by omega) (show ¬ (s.level < 0 ∨ 2 < s.level) by omega) hs)
  clear hbx hb0 hin wn
  clear hu hk0 hk1 hl0 hl1 hs hnb he
  go_enter Tryz.func7, Tryz.ntmps7
  go_wp2_with fail
  rw [← hW]
  clear hW
  refine (HN1.out _).mono ?_
  rintro e w1 ⟨rfl, hbc⟩
  have HC1 : Hid (Below W.heap.size W w1) := hbc
  clear hbc x1 x4 x5 x6 x7 x8 x10
  obtain ⟨x1, x4, x5, x6, x7, x8, x10⟩ := HX.out w1 HC1.out
  go_wp2_with fail
  refine (HWD.out _).mono ?_
  rintro e w0 ⟨rfl, rfl⟩
  go_wp2_with fail
  refine (HLV.out _).mono ?_
  rintro e w2 ⟨rfl, hbc⟩
  have HC2 : Hid (Below W.heap.size W w2) := HC1.out.trans (hbc.mono HC1.out.size)
  clear hbc x1 x4 x5 x6 x7 x8 x10
  obtain ⟨x1, x4, x5, x6, x7, x8, x10⟩ := HX.out w2 HC2.out
  go_wp2_with fail
  refine (HPR.out _ HC2.out).mono ?_
  rintro e w3 ⟨rfl, hbc⟩
  have HC3 : Hid (Below W.heap.size W w3) := HC2.out.trans (hbc.mono HC2.out.size)
  clear hbc x1 x4 x5 x6 x7 x8 x10
  obtain ⟨x1, x4, x5, x6, x7, x8, x10⟩ := HX.out w3 HC3.out
  have HFIN : Hid (LinePost ls s now (.returned (.tuple #[.string ⟨#[]⟩, .iface 55 (.int .i64 11)])) ∧ Below w.heap.size w w3) := ⟨LinePost.mk (no := 11) (HRU.out) rfl rfl, HB0.out.trans (HC3.out.mono HB0.out.size)⟩
  go_wp2
  go_ret2
  exact HFIN.out

set_option maxHeartbeats 4000000 in
theorem line_f1nw (lo B : Nat) (ls : List ByteArray) (s : Sess) (now : Int) (wn : (Lit.int .i64 now).wf = true) (w : World) (hin : LineIn lo B ls s w) (ha0 : 1 ≤ s.birth) (ha1 : s.birth ≤ 1048576) (hu : nameB s.user.data.toList = true) (he : s.label.data.toList = []) (hk0 : 0 ≤ s.kind) (hk1 : s.kind ≤ 2) (hl0 : 0 ≤ s.level) (hl1 : s.level ≤ 2) (hs : ¬ 2 ^ ls.length ≤ s.scopes) (h : now < 0) :
    Calls Tryz.prog 7 #[.pointer (some ⟨B, 0, none⟩), .agg #[.int .i64 s.slot, .int .i64 s.birth, .int .i64 s.us, .int .i64 s.ub, .int .i64 s.kind, .string s.user, .string s.label, .int .u64 (s.scopes : Int), .int .i64 s.level, .int .i64 s.born, .int .i64 s.dl, .int .i64 s.depth], .int .i64 now] w fun e w' => LinePost ls s now e ∧ Below w.heap.size w w' := by
  obtain ⟨W, hW⟩ : ∃ W, W = w.alloc (.cells #[.int .i64 s.slot, .int .i64 s.birth, .int .i64 s.us, .int .i64 s.ub, .int .i64 s.kind, .string s.user, .string s.label, .int .u64 (s.scopes : Int), .int .i64 s.level, .int .i64 s.born, .int .i64 s.dl, .int .i64 s.depth] 30) := ⟨_, rfl⟩
  have hb0 : Below w.heap.size w W := by rw [hW]; exact (Below.refl _ _).alloc (Nat.le_refl _) _
  have hbx : W.heap[w.heap.size]? = some (.cells #[.int .i64 s.slot, .int .i64 s.birth, .int .i64 s.us, .int .i64 s.ub, .int .i64 s.kind, .string s.user, .string s.label, .int .u64 (s.scopes : Int), .int .i64 s.level, .int .i64 s.born, .int .i64 s.dl, .int .i64 s.depth] 30 (0, 0)) := by rw [hW]; exact Ut.alloc_at _ _
  have HX := Lib.hid (fun (w' : World) (hb : Below W.heap.size W w') => (by
    have h1 := (hb.block w.heap.size (Array.getElem?_eq_some_iff.1 hbx).1).trans hbx
    have h2 : ∀ j, w'.cell? ⟨w.heap.size, j, none⟩ = (#[.int .i64 s.slot, .int .i64 s.birth, .int .i64 s.us, .int .i64 s.ub, .int .i64 s.kind, .string s.user, .string s.label, .int .u64 (s.scopes : Int), .int .i64 s.level, .int .i64 s.born, .int .i64 s.dl, .int .i64 s.depth] : Array Value)[j]? := fun j => cell_of_row _ _ _ _ _ _ h1
    exact ⟨h2 1, h2 4, h2 5, h2 6, h2 7, h2 8, h2 10⟩ : w'.cell? ⟨w.heap.size, 1, none⟩ = some (.int .i64 s.birth) ∧ w'.cell? ⟨w.heap.size, 4, none⟩ = some (.int .i64 s.kind) ∧ w'.cell? ⟨w.heap.size, 5, none⟩ = some (.string s.user) ∧ w'.cell? ⟨w.heap.size, 6, none⟩ = some (.string s.label) ∧ w'.cell? ⟨w.heap.size, 7, none⟩ = some (.int .u64 (s.scopes : Int)) ∧ w'.cell? ⟨w.heap.size, 8, none⟩ = some (.int .i64 s.level) ∧ w'.cell? ⟨w.heap.size, 10, none⟩ = some (.int .i64 s.dl)))
  obtain ⟨x1, x4, x5, x6, x7, x8, x10⟩ := HX.out W (Below.refl _ _)
  have HB0 := Lib.hid hb0
  have HW := Lib.hid hW
  have HIN := Lib.hid hin
  have HN1 := Lib.hid (fun (w' : World) => (name_any s.user (by have := HIN.out.hz1; omega) w').mono fun e w2 h2 => (by rw [hu] at h2; exact h2 : e = .returned (.bool true) ∧ Below w'.heap.size w' w2))
  have l1 : s.label.toList = [] := by rw [Lib.toList_data]; exact he
  obtain ⟨K, hK⟩ : ∃ K : ByteArray, K = ⟨(kindL s.kind).toArray⟩ := ⟨_, rfl⟩
  have HWD := Lib.hid (fun w' => vword_any s.kind w')
  rw [← hK] at HWD
  have hKe : K.toList.isEmpty = false := by
    rw [Lib.toList_data, hK]
    have := kind_yes hk0 hk1
    show (kindL s.kind).isEmpty = false
    cases h : kindL s.kind with
    | nil => exact absurd h this
    | cons a r => rfl
  have HK := Lib.hid hK
  clear hK
  obtain ⟨L, hL⟩ : ∃ L : ByteArray, L = ⟨(levL s.level).toArray⟩ := ⟨_, rfl⟩
  have HLV := Lib.hid (fun w' => level_yes s.level hl0 hl1 w')
  rw [← hL] at HLV
  have HL := Lib.hid hL
  clear hL
  obtain ⟨P, hP⟩ : ∃ P : ByteArray, P = ⟨(jn ls s.scopes ls.length).toArray⟩ := ⟨_, rfl⟩
  have HPR := Lib.hid (fun (w' : World) (hb : Below W.heap.size W w') => (print_any lo B ls HIN.out.hbk s.scopes HIN.out.hsc w' (HIN.out.henv w' (HB0.out.trans (hb.mono HB0.out.size))).book).mono fun e w2 h2 => (⟨by have h3 := h2.1; unfold PrintPost at h3; rw [scopes_ok hs] at h3; rw [hP]; exact h3, h2.2⟩ : e = .returned (.tuple #[.string P, .nilIface]) ∧ Below w'.heap.size w' w2))
  have HPL : Hid (P.size ≤ 8512) := by
    show _ ≤ _
    have h1 := vjn_len HIN.out.hbk s.scopes ls.length (Nat.le_refl _)
    have h2 := HIN.out.hbk.len
    have h3 : P.size = (jn ls s.scopes ls.length).length := by rw [hP]; simp [ByteArray.size]
    omega
  have HP := Lib.hid hP
  clear hP
  have hnb : ¬ (nameB s.user.data.toList = false ∨ (s.label.data.toList ≠ [] ∧ nameB s.label.data.toList = false)) := by
    rintro (h | ⟨h1, h2⟩)
    · rw [hu] at h; cases h
    · exact h1 he
  have HRU := Lib.hid (line_f (ls := ls) (s := s) (now := now) (show ¬ (s.birth < 1 ∨ 1048576 < s.birth) by omega) hnb (show ¬ (s.kind < 0 ∨ 2 < s.kind) by omega) (show ¬ (s.level < 0 ∨ 2 < s.level) by omega) hs (.inl h))
  clear hbx hb0 hin wn
  clear hu hk0 hk1 hl0 hl1 hs hnb he
  go_enter Tryz.func7, Tryz.ntmps7
  go_wp2_with fail
  rw [← hW]
  clear hW
  refine (HN1.out _).mono ?_
  rintro e w1 ⟨rfl, hbc⟩
  have HC1 : Hid (Below W.heap.size W w1) := hbc
  clear hbc x1 x4 x5 x6 x7 x8 x10
  obtain ⟨x1, x4, x5, x6, x7, x8, x10⟩ := HX.out w1 HC1.out
  go_wp2_with fail
  refine (HWD.out _).mono ?_
  rintro e w0 ⟨rfl, rfl⟩
  go_wp2_with fail
  refine (HLV.out _).mono ?_
  rintro e w2 ⟨rfl, hbc⟩
  have HC2 : Hid (Below W.heap.size W w2) := HC1.out.trans (hbc.mono HC1.out.size)
  clear hbc x1 x4 x5 x6 x7 x8 x10
  obtain ⟨x1, x4, x5, x6, x7, x8, x10⟩ := HX.out w2 HC2.out
  go_wp2_with fail
  refine (HPR.out _ HC2.out).mono ?_
  rintro e w3 ⟨rfl, hbc⟩
  have HC3 : Hid (Below W.heap.size W w3) := HC2.out.trans (hbc.mono HC2.out.size)
  clear hbc x1 x4 x5 x6 x7 x8 x10
  obtain ⟨x1, x4, x5, x6, x7, x8, x10⟩ := HX.out w3 HC3.out
  have HFIN : Hid (LinePost ls s now (.returned (.tuple #[.string ⟨#[]⟩, .iface 55 (.int .i64 12)])) ∧ Below w.heap.size w w3) := ⟨LinePost.mk (no := 12) (HRU.out) rfl rfl, HB0.out.trans (HC3.out.mono HB0.out.size)⟩
  go_wp2
  go_ret2
  exact HFIN.out

set_option maxHeartbeats 4000000 in
theorem line_f2nw (lo B : Nat) (ls : List ByteArray) (s : Sess) (now : Int) (wn : (Lit.int .i64 now).wf = true) (w : World) (hin : LineIn lo B ls s w) (ha0 : 1 ≤ s.birth) (ha1 : s.birth ≤ 1048576) (hu : nameB s.user.data.toList = true) (he : s.label.data.toList = []) (hk0 : 0 ≤ s.kind) (hk1 : s.kind ≤ 2) (hl0 : 0 ≤ s.level) (hl1 : s.level ≤ 2) (hs : ¬ 2 ^ ls.length ≤ s.scopes) (g0 : 0 ≤ now) (h : 1099511627776 < now) :
    Calls Tryz.prog 7 #[.pointer (some ⟨B, 0, none⟩), .agg #[.int .i64 s.slot, .int .i64 s.birth, .int .i64 s.us, .int .i64 s.ub, .int .i64 s.kind, .string s.user, .string s.label, .int .u64 (s.scopes : Int), .int .i64 s.level, .int .i64 s.born, .int .i64 s.dl, .int .i64 s.depth], .int .i64 now] w fun e w' => LinePost ls s now e ∧ Below w.heap.size w w' := by
  obtain ⟨W, hW⟩ : ∃ W, W = w.alloc (.cells #[.int .i64 s.slot, .int .i64 s.birth, .int .i64 s.us, .int .i64 s.ub, .int .i64 s.kind, .string s.user, .string s.label, .int .u64 (s.scopes : Int), .int .i64 s.level, .int .i64 s.born, .int .i64 s.dl, .int .i64 s.depth] 30) := ⟨_, rfl⟩
  have hb0 : Below w.heap.size w W := by rw [hW]; exact (Below.refl _ _).alloc (Nat.le_refl _) _
  have hbx : W.heap[w.heap.size]? = some (.cells #[.int .i64 s.slot, .int .i64 s.birth, .int .i64 s.us, .int .i64 s.ub, .int .i64 s.kind, .string s.user, .string s.label, .int .u64 (s.scopes : Int), .int .i64 s.level, .int .i64 s.born, .int .i64 s.dl, .int .i64 s.depth] 30 (0, 0)) := by rw [hW]; exact Ut.alloc_at _ _
  have HX := Lib.hid (fun (w' : World) (hb : Below W.heap.size W w') => (by
    have h1 := (hb.block w.heap.size (Array.getElem?_eq_some_iff.1 hbx).1).trans hbx
    have h2 : ∀ j, w'.cell? ⟨w.heap.size, j, none⟩ = (#[.int .i64 s.slot, .int .i64 s.birth, .int .i64 s.us, .int .i64 s.ub, .int .i64 s.kind, .string s.user, .string s.label, .int .u64 (s.scopes : Int), .int .i64 s.level, .int .i64 s.born, .int .i64 s.dl, .int .i64 s.depth] : Array Value)[j]? := fun j => cell_of_row _ _ _ _ _ _ h1
    exact ⟨h2 1, h2 4, h2 5, h2 6, h2 7, h2 8, h2 10⟩ : w'.cell? ⟨w.heap.size, 1, none⟩ = some (.int .i64 s.birth) ∧ w'.cell? ⟨w.heap.size, 4, none⟩ = some (.int .i64 s.kind) ∧ w'.cell? ⟨w.heap.size, 5, none⟩ = some (.string s.user) ∧ w'.cell? ⟨w.heap.size, 6, none⟩ = some (.string s.label) ∧ w'.cell? ⟨w.heap.size, 7, none⟩ = some (.int .u64 (s.scopes : Int)) ∧ w'.cell? ⟨w.heap.size, 8, none⟩ = some (.int .i64 s.level) ∧ w'.cell? ⟨w.heap.size, 10, none⟩ = some (.int .i64 s.dl)))
  obtain ⟨x1, x4, x5, x6, x7, x8, x10⟩ := HX.out W (Below.refl _ _)
  have HB0 := Lib.hid hb0
  have HW := Lib.hid hW
  have HIN := Lib.hid hin
  have HN1 := Lib.hid (fun (w' : World) => (name_any s.user (by have := HIN.out.hz1; omega) w').mono fun e w2 h2 => (by rw [hu] at h2; exact h2 : e = .returned (.bool true) ∧ Below w'.heap.size w' w2))
  have l1 : s.label.toList = [] := by rw [Lib.toList_data]; exact he
  obtain ⟨K, hK⟩ : ∃ K : ByteArray, K = ⟨(kindL s.kind).toArray⟩ := ⟨_, rfl⟩
  have HWD := Lib.hid (fun w' => vword_any s.kind w')
  rw [← hK] at HWD
  have hKe : K.toList.isEmpty = false := by
    rw [Lib.toList_data, hK]
    have := kind_yes hk0 hk1
    show (kindL s.kind).isEmpty = false
    cases h : kindL s.kind with
    | nil => exact absurd h this
    | cons a r => rfl
  have HK := Lib.hid hK
  clear hK
  obtain ⟨L, hL⟩ : ∃ L : ByteArray, L = ⟨(levL s.level).toArray⟩ := ⟨_, rfl⟩
  have HLV := Lib.hid (fun w' => level_yes s.level hl0 hl1 w')
  rw [← hL] at HLV
  have HL := Lib.hid hL
  clear hL
  obtain ⟨P, hP⟩ : ∃ P : ByteArray, P = ⟨(jn ls s.scopes ls.length).toArray⟩ := ⟨_, rfl⟩
  have HPR := Lib.hid (fun (w' : World) (hb : Below W.heap.size W w') => (print_any lo B ls HIN.out.hbk s.scopes HIN.out.hsc w' (HIN.out.henv w' (HB0.out.trans (hb.mono HB0.out.size))).book).mono fun e w2 h2 => (⟨by have h3 := h2.1; unfold PrintPost at h3; rw [scopes_ok hs] at h3; rw [hP]; exact h3, h2.2⟩ : e = .returned (.tuple #[.string P, .nilIface]) ∧ Below w'.heap.size w' w2))
  have HPL : Hid (P.size ≤ 8512) := by
    show _ ≤ _
    have h1 := vjn_len HIN.out.hbk s.scopes ls.length (Nat.le_refl _)
    have h2 := HIN.out.hbk.len
    have h3 : P.size = (jn ls s.scopes ls.length).length := by rw [hP]; simp [ByteArray.size]
    omega
  have HP := Lib.hid hP
  clear hP
  have hnb : ¬ (nameB s.user.data.toList = false ∨ (s.label.data.toList ≠ [] ∧ nameB s.label.data.toList = false)) := by
    rintro (h | ⟨h1, h2⟩)
    · rw [hu] at h; cases h
    · exact h1 he
  have HRU := Lib.hid (line_f (ls := ls) (s := s) (now := now) (show ¬ (s.birth < 1 ∨ 1048576 < s.birth) by omega) hnb (show ¬ (s.kind < 0 ∨ 2 < s.kind) by omega) (show ¬ (s.level < 0 ∨ 2 < s.level) by omega) hs (.inr (.inl h)))
  clear hbx hb0 hin wn
  clear hu hk0 hk1 hl0 hl1 hs hnb he
  go_enter Tryz.func7, Tryz.ntmps7
  go_wp2_with fail
  rw [← hW]
  clear hW
  refine (HN1.out _).mono ?_
  rintro e w1 ⟨rfl, hbc⟩
  have HC1 : Hid (Below W.heap.size W w1) := hbc
  clear hbc x1 x4 x5 x6 x7 x8 x10
  obtain ⟨x1, x4, x5, x6, x7, x8, x10⟩ := HX.out w1 HC1.out
  go_wp2_with fail
  refine (HWD.out _).mono ?_
  rintro e w0 ⟨rfl, rfl⟩
  go_wp2_with fail
  refine (HLV.out _).mono ?_
  rintro e w2 ⟨rfl, hbc⟩
  have HC2 : Hid (Below W.heap.size W w2) := HC1.out.trans (hbc.mono HC1.out.size)
  clear hbc x1 x4 x5 x6 x7 x8 x10
  obtain ⟨x1, x4, x5, x6, x7, x8, x10⟩ := HX.out w2 HC2.out
  go_wp2_with fail
  refine (HPR.out _ HC2.out).mono ?_
  rintro e w3 ⟨rfl, hbc⟩
  have HC3 : Hid (Below W.heap.size W w3) := HC2.out.trans (hbc.mono HC2.out.size)
  clear hbc x1 x4 x5 x6 x7 x8 x10
  obtain ⟨x1, x4, x5, x6, x7, x8, x10⟩ := HX.out w3 HC3.out
  have HFIN : Hid (LinePost ls s now (.returned (.tuple #[.string ⟨#[]⟩, .iface 55 (.int .i64 12)])) ∧ Below w.heap.size w w3) := ⟨LinePost.mk (no := 12) (HRU.out) rfl rfl, HB0.out.trans (HC3.out.mono HB0.out.size)⟩
  go_wp2
  go_ret2
  exact HFIN.out

set_option maxHeartbeats 4000000 in
theorem line_f3nw (lo B : Nat) (ls : List ByteArray) (s : Sess) (now : Int) (wn : (Lit.int .i64 now).wf = true) (w : World) (hin : LineIn lo B ls s w) (ha0 : 1 ≤ s.birth) (ha1 : s.birth ≤ 1048576) (hu : nameB s.user.data.toList = true) (he : s.label.data.toList = []) (hk0 : 0 ≤ s.kind) (hk1 : s.kind ≤ 2) (hl0 : 0 ≤ s.level) (hl1 : s.level ≤ 2) (hs : ¬ 2 ^ ls.length ≤ s.scopes) (g0 : 0 ≤ now) (g1 : now ≤ 1099511627776) (h : s.dl < 0) :
    Calls Tryz.prog 7 #[.pointer (some ⟨B, 0, none⟩), .agg #[.int .i64 s.slot, .int .i64 s.birth, .int .i64 s.us, .int .i64 s.ub, .int .i64 s.kind, .string s.user, .string s.label, .int .u64 (s.scopes : Int), .int .i64 s.level, .int .i64 s.born, .int .i64 s.dl, .int .i64 s.depth], .int .i64 now] w fun e w' => LinePost ls s now e ∧ Below w.heap.size w w' := by
  obtain ⟨W, hW⟩ : ∃ W, W = w.alloc (.cells #[.int .i64 s.slot, .int .i64 s.birth, .int .i64 s.us, .int .i64 s.ub, .int .i64 s.kind, .string s.user, .string s.label, .int .u64 (s.scopes : Int), .int .i64 s.level, .int .i64 s.born, .int .i64 s.dl, .int .i64 s.depth] 30) := ⟨_, rfl⟩
  have hb0 : Below w.heap.size w W := by rw [hW]; exact (Below.refl _ _).alloc (Nat.le_refl _) _
  have hbx : W.heap[w.heap.size]? = some (.cells #[.int .i64 s.slot, .int .i64 s.birth, .int .i64 s.us, .int .i64 s.ub, .int .i64 s.kind, .string s.user, .string s.label, .int .u64 (s.scopes : Int), .int .i64 s.level, .int .i64 s.born, .int .i64 s.dl, .int .i64 s.depth] 30 (0, 0)) := by rw [hW]; exact Ut.alloc_at _ _
  have HX := Lib.hid (fun (w' : World) (hb : Below W.heap.size W w') => (by
    have h1 := (hb.block w.heap.size (Array.getElem?_eq_some_iff.1 hbx).1).trans hbx
    have h2 : ∀ j, w'.cell? ⟨w.heap.size, j, none⟩ = (#[.int .i64 s.slot, .int .i64 s.birth, .int .i64 s.us, .int .i64 s.ub, .int .i64 s.kind, .string s.user, .string s.label, .int .u64 (s.scopes : Int), .int .i64 s.level, .int .i64 s.born, .int .i64 s.dl, .int .i64 s.depth] : Array Value)[j]? := fun j => cell_of_row _ _ _ _ _ _ h1
    exact ⟨h2 1, h2 4, h2 5, h2 6, h2 7, h2 8, h2 10⟩ : w'.cell? ⟨w.heap.size, 1, none⟩ = some (.int .i64 s.birth) ∧ w'.cell? ⟨w.heap.size, 4, none⟩ = some (.int .i64 s.kind) ∧ w'.cell? ⟨w.heap.size, 5, none⟩ = some (.string s.user) ∧ w'.cell? ⟨w.heap.size, 6, none⟩ = some (.string s.label) ∧ w'.cell? ⟨w.heap.size, 7, none⟩ = some (.int .u64 (s.scopes : Int)) ∧ w'.cell? ⟨w.heap.size, 8, none⟩ = some (.int .i64 s.level) ∧ w'.cell? ⟨w.heap.size, 10, none⟩ = some (.int .i64 s.dl)))
  obtain ⟨x1, x4, x5, x6, x7, x8, x10⟩ := HX.out W (Below.refl _ _)
  have HB0 := Lib.hid hb0
  have HW := Lib.hid hW
  have HIN := Lib.hid hin
  have HN1 := Lib.hid (fun (w' : World) => (name_any s.user (by have := HIN.out.hz1; omega) w').mono fun e w2 h2 => (by rw [hu] at h2; exact h2 : e = .returned (.bool true) ∧ Below w'.heap.size w' w2))
  have l1 : s.label.toList = [] := by rw [Lib.toList_data]; exact he
  obtain ⟨K, hK⟩ : ∃ K : ByteArray, K = ⟨(kindL s.kind).toArray⟩ := ⟨_, rfl⟩
  have HWD := Lib.hid (fun w' => vword_any s.kind w')
  rw [← hK] at HWD
  have hKe : K.toList.isEmpty = false := by
    rw [Lib.toList_data, hK]
    have := kind_yes hk0 hk1
    show (kindL s.kind).isEmpty = false
    cases h : kindL s.kind with
    | nil => exact absurd h this
    | cons a r => rfl
  have HK := Lib.hid hK
  clear hK
  obtain ⟨L, hL⟩ : ∃ L : ByteArray, L = ⟨(levL s.level).toArray⟩ := ⟨_, rfl⟩
  have HLV := Lib.hid (fun w' => level_yes s.level hl0 hl1 w')
  rw [← hL] at HLV
  have HL := Lib.hid hL
  clear hL
  obtain ⟨P, hP⟩ : ∃ P : ByteArray, P = ⟨(jn ls s.scopes ls.length).toArray⟩ := ⟨_, rfl⟩
  have HPR := Lib.hid (fun (w' : World) (hb : Below W.heap.size W w') => (print_any lo B ls HIN.out.hbk s.scopes HIN.out.hsc w' (HIN.out.henv w' (HB0.out.trans (hb.mono HB0.out.size))).book).mono fun e w2 h2 => (⟨by have h3 := h2.1; unfold PrintPost at h3; rw [scopes_ok hs] at h3; rw [hP]; exact h3, h2.2⟩ : e = .returned (.tuple #[.string P, .nilIface]) ∧ Below w'.heap.size w' w2))
  have HPL : Hid (P.size ≤ 8512) := by
    show _ ≤ _
    have h1 := vjn_len HIN.out.hbk s.scopes ls.length (Nat.le_refl _)
    have h2 := HIN.out.hbk.len
    have h3 : P.size = (jn ls s.scopes ls.length).length := by rw [hP]; simp [ByteArray.size]
    omega
  have HP := Lib.hid hP
  clear hP
  have hnb : ¬ (nameB s.user.data.toList = false ∨ (s.label.data.toList ≠ [] ∧ nameB s.label.data.toList = false)) := by
    rintro (h | ⟨h1, h2⟩)
    · rw [hu] at h; cases h
    · exact h1 he
  have HRU := Lib.hid (line_f (ls := ls) (s := s) (now := now) (show ¬ (s.birth < 1 ∨ 1048576 < s.birth) by omega) hnb (show ¬ (s.kind < 0 ∨ 2 < s.kind) by omega) (show ¬ (s.level < 0 ∨ 2 < s.level) by omega) hs (.inr (.inr (.inl h))))
  clear hbx hb0 hin wn
  clear hu hk0 hk1 hl0 hl1 hs hnb he
  go_enter Tryz.func7, Tryz.ntmps7
  go_wp2_with fail
  rw [← hW]
  clear hW
  refine (HN1.out _).mono ?_
  rintro e w1 ⟨rfl, hbc⟩
  have HC1 : Hid (Below W.heap.size W w1) := hbc
  clear hbc x1 x4 x5 x6 x7 x8 x10
  obtain ⟨x1, x4, x5, x6, x7, x8, x10⟩ := HX.out w1 HC1.out
  go_wp2_with fail
  refine (HWD.out _).mono ?_
  rintro e w0 ⟨rfl, rfl⟩
  go_wp2_with fail
  refine (HLV.out _).mono ?_
  rintro e w2 ⟨rfl, hbc⟩
  have HC2 : Hid (Below W.heap.size W w2) := HC1.out.trans (hbc.mono HC1.out.size)
  clear hbc x1 x4 x5 x6 x7 x8 x10
  obtain ⟨x1, x4, x5, x6, x7, x8, x10⟩ := HX.out w2 HC2.out
  go_wp2_with fail
  refine (HPR.out _ HC2.out).mono ?_
  rintro e w3 ⟨rfl, hbc⟩
  have HC3 : Hid (Below W.heap.size W w3) := HC2.out.trans (hbc.mono HC2.out.size)
  clear hbc x1 x4 x5 x6 x7 x8 x10
  obtain ⟨x1, x4, x5, x6, x7, x8, x10⟩ := HX.out w3 HC3.out
  have HFIN : Hid (LinePost ls s now (.returned (.tuple #[.string ⟨#[]⟩, .iface 55 (.int .i64 12)])) ∧ Below w.heap.size w w3) := ⟨LinePost.mk (no := 12) (HRU.out) rfl rfl, HB0.out.trans (HC3.out.mono HB0.out.size)⟩
  go_wp2
  go_ret2
  exact HFIN.out

set_option maxHeartbeats 4000000 in
theorem line_f4nw (lo B : Nat) (ls : List ByteArray) (s : Sess) (now : Int) (wn : (Lit.int .i64 now).wf = true) (w : World) (hin : LineIn lo B ls s w) (ha0 : 1 ≤ s.birth) (ha1 : s.birth ≤ 1048576) (hu : nameB s.user.data.toList = true) (he : s.label.data.toList = []) (hk0 : 0 ≤ s.kind) (hk1 : s.kind ≤ 2) (hl0 : 0 ≤ s.level) (hl1 : s.level ≤ 2) (hs : ¬ 2 ^ ls.length ≤ s.scopes) (g0 : 0 ≤ now) (g1 : now ≤ 1099511627776) (g2 : 0 ≤ s.dl) (h : 1099511627776 < s.dl) :
    Calls Tryz.prog 7 #[.pointer (some ⟨B, 0, none⟩), .agg #[.int .i64 s.slot, .int .i64 s.birth, .int .i64 s.us, .int .i64 s.ub, .int .i64 s.kind, .string s.user, .string s.label, .int .u64 (s.scopes : Int), .int .i64 s.level, .int .i64 s.born, .int .i64 s.dl, .int .i64 s.depth], .int .i64 now] w fun e w' => LinePost ls s now e ∧ Below w.heap.size w w' := by
  obtain ⟨W, hW⟩ : ∃ W, W = w.alloc (.cells #[.int .i64 s.slot, .int .i64 s.birth, .int .i64 s.us, .int .i64 s.ub, .int .i64 s.kind, .string s.user, .string s.label, .int .u64 (s.scopes : Int), .int .i64 s.level, .int .i64 s.born, .int .i64 s.dl, .int .i64 s.depth] 30) := ⟨_, rfl⟩
  have hb0 : Below w.heap.size w W := by rw [hW]; exact (Below.refl _ _).alloc (Nat.le_refl _) _
  have hbx : W.heap[w.heap.size]? = some (.cells #[.int .i64 s.slot, .int .i64 s.birth, .int .i64 s.us, .int .i64 s.ub, .int .i64 s.kind, .string s.user, .string s.label, .int .u64 (s.scopes : Int), .int .i64 s.level, .int .i64 s.born, .int .i64 s.dl, .int .i64 s.depth] 30 (0, 0)) := by rw [hW]; exact Ut.alloc_at _ _
  have HX := Lib.hid (fun (w' : World) (hb : Below W.heap.size W w') => (by
    have h1 := (hb.block w.heap.size (Array.getElem?_eq_some_iff.1 hbx).1).trans hbx
    have h2 : ∀ j, w'.cell? ⟨w.heap.size, j, none⟩ = (#[.int .i64 s.slot, .int .i64 s.birth, .int .i64 s.us, .int .i64 s.ub, .int .i64 s.kind, .string s.user, .string s.label, .int .u64 (s.scopes : Int), .int .i64 s.level, .int .i64 s.born, .int .i64 s.dl, .int .i64 s.depth] : Array Value)[j]? := fun j => cell_of_row _ _ _ _ _ _ h1
    exact ⟨h2 1, h2 4, h2 5, h2 6, h2 7, h2 8, h2 10⟩ : w'.cell? ⟨w.heap.size, 1, none⟩ = some (.int .i64 s.birth) ∧ w'.cell? ⟨w.heap.size, 4, none⟩ = some (.int .i64 s.kind) ∧ w'.cell? ⟨w.heap.size, 5, none⟩ = some (.string s.user) ∧ w'.cell? ⟨w.heap.size, 6, none⟩ = some (.string s.label) ∧ w'.cell? ⟨w.heap.size, 7, none⟩ = some (.int .u64 (s.scopes : Int)) ∧ w'.cell? ⟨w.heap.size, 8, none⟩ = some (.int .i64 s.level) ∧ w'.cell? ⟨w.heap.size, 10, none⟩ = some (.int .i64 s.dl)))
  obtain ⟨x1, x4, x5, x6, x7, x8, x10⟩ := HX.out W (Below.refl _ _)
  have HB0 := Lib.hid hb0
  have HW := Lib.hid hW
  have HIN := Lib.hid hin
  have HN1 := Lib.hid (fun (w' : World) => (name_any s.user (by have := HIN.out.hz1; omega) w').mono fun e w2 h2 => (by rw [hu] at h2; exact h2 : e = .returned (.bool true) ∧ Below w'.heap.size w' w2))
  have l1 : s.label.toList = [] := by rw [Lib.toList_data]; exact he
  obtain ⟨K, hK⟩ : ∃ K : ByteArray, K = ⟨(kindL s.kind).toArray⟩ := ⟨_, rfl⟩
  have HWD := Lib.hid (fun w' => vword_any s.kind w')
  rw [← hK] at HWD
  have hKe : K.toList.isEmpty = false := by
    rw [Lib.toList_data, hK]
    have := kind_yes hk0 hk1
    show (kindL s.kind).isEmpty = false
    cases h : kindL s.kind with
    | nil => exact absurd h this
    | cons a r => rfl
  have HK := Lib.hid hK
  clear hK
  obtain ⟨L, hL⟩ : ∃ L : ByteArray, L = ⟨(levL s.level).toArray⟩ := ⟨_, rfl⟩
  have HLV := Lib.hid (fun w' => level_yes s.level hl0 hl1 w')
  rw [← hL] at HLV
  have HL := Lib.hid hL
  clear hL
  obtain ⟨P, hP⟩ : ∃ P : ByteArray, P = ⟨(jn ls s.scopes ls.length).toArray⟩ := ⟨_, rfl⟩
  have HPR := Lib.hid (fun (w' : World) (hb : Below W.heap.size W w') => (print_any lo B ls HIN.out.hbk s.scopes HIN.out.hsc w' (HIN.out.henv w' (HB0.out.trans (hb.mono HB0.out.size))).book).mono fun e w2 h2 => (⟨by have h3 := h2.1; unfold PrintPost at h3; rw [scopes_ok hs] at h3; rw [hP]; exact h3, h2.2⟩ : e = .returned (.tuple #[.string P, .nilIface]) ∧ Below w'.heap.size w' w2))
  have HPL : Hid (P.size ≤ 8512) := by
    show _ ≤ _
    have h1 := vjn_len HIN.out.hbk s.scopes ls.length (Nat.le_refl _)
    have h2 := HIN.out.hbk.len
    have h3 : P.size = (jn ls s.scopes ls.length).length := by rw [hP]; simp [ByteArray.size]
    omega
  have HP := Lib.hid hP
  clear hP
  have hnb : ¬ (nameB s.user.data.toList = false ∨ (s.label.data.toList ≠ [] ∧ nameB s.label.data.toList = false)) := by
    rintro (h | ⟨h1, h2⟩)
    · rw [hu] at h; cases h
    · exact h1 he
  have HRU := Lib.hid (line_f (ls := ls) (s := s) (now := now) (show ¬ (s.birth < 1 ∨ 1048576 < s.birth) by omega) hnb (show ¬ (s.kind < 0 ∨ 2 < s.kind) by omega) (show ¬ (s.level < 0 ∨ 2 < s.level) by omega) hs (.inr (.inr (.inr h))))
  clear hbx hb0 hin wn
  clear hu hk0 hk1 hl0 hl1 hs hnb he
  go_enter Tryz.func7, Tryz.ntmps7
  go_wp2_with fail
  rw [← hW]
  clear hW
  refine (HN1.out _).mono ?_
  rintro e w1 ⟨rfl, hbc⟩
  have HC1 : Hid (Below W.heap.size W w1) := hbc
  clear hbc x1 x4 x5 x6 x7 x8 x10
  obtain ⟨x1, x4, x5, x6, x7, x8, x10⟩ := HX.out w1 HC1.out
  go_wp2_with fail
  refine (HWD.out _).mono ?_
  rintro e w0 ⟨rfl, rfl⟩
  go_wp2_with fail
  refine (HLV.out _).mono ?_
  rintro e w2 ⟨rfl, hbc⟩
  have HC2 : Hid (Below W.heap.size W w2) := HC1.out.trans (hbc.mono HC1.out.size)
  clear hbc x1 x4 x5 x6 x7 x8 x10
  obtain ⟨x1, x4, x5, x6, x7, x8, x10⟩ := HX.out w2 HC2.out
  go_wp2_with fail
  refine (HPR.out _ HC2.out).mono ?_
  rintro e w3 ⟨rfl, hbc⟩
  have HC3 : Hid (Below W.heap.size W w3) := HC2.out.trans (hbc.mono HC2.out.size)
  clear hbc x1 x4 x5 x6 x7 x8 x10
  obtain ⟨x1, x4, x5, x6, x7, x8, x10⟩ := HX.out w3 HC3.out
  have HFIN : Hid (LinePost ls s now (.returned (.tuple #[.string ⟨#[]⟩, .iface 55 (.int .i64 12)])) ∧ Below w.heap.size w w3) := ⟨LinePost.mk (no := 12) (HRU.out) rfl rfl, HB0.out.trans (HC3.out.mono HB0.out.size)⟩
  go_wp2
  go_ret2
  exact HFIN.out

set_option maxHeartbeats 4000000 in
theorem line_clw (lo B : Nat) (ls : List ByteArray) (s : Sess) (now : Int) (wn : (Lit.int .i64 now).wf = true) (w : World) (hin : LineIn lo B ls s w) (ha0 : 1 ≤ s.birth) (ha1 : s.birth ≤ 1048576) (hu : nameB s.user.data.toList = true) (hne : s.label.data.toList ≠ []) (hl : nameB s.label.data.toList = true) (hk : s.kind < 0 ∨ 2 < s.kind) :
    Calls Tryz.prog 7 #[.pointer (some ⟨B, 0, none⟩), .agg #[.int .i64 s.slot, .int .i64 s.birth, .int .i64 s.us, .int .i64 s.ub, .int .i64 s.kind, .string s.user, .string s.label, .int .u64 (s.scopes : Int), .int .i64 s.level, .int .i64 s.born, .int .i64 s.dl, .int .i64 s.depth], .int .i64 now] w fun e w' => LinePost ls s now e ∧ Below w.heap.size w w' := by
  obtain ⟨W, hW⟩ : ∃ W, W = w.alloc (.cells #[.int .i64 s.slot, .int .i64 s.birth, .int .i64 s.us, .int .i64 s.ub, .int .i64 s.kind, .string s.user, .string s.label, .int .u64 (s.scopes : Int), .int .i64 s.level, .int .i64 s.born, .int .i64 s.dl, .int .i64 s.depth] 30) := ⟨_, rfl⟩
  have hb0 : Below w.heap.size w W := by rw [hW]; exact (Below.refl _ _).alloc (Nat.le_refl _) _
  have hbx : W.heap[w.heap.size]? = some (.cells #[.int .i64 s.slot, .int .i64 s.birth, .int .i64 s.us, .int .i64 s.ub, .int .i64 s.kind, .string s.user, .string s.label, .int .u64 (s.scopes : Int), .int .i64 s.level, .int .i64 s.born, .int .i64 s.dl, .int .i64 s.depth] 30 (0, 0)) := by rw [hW]; exact Ut.alloc_at _ _
  have HX := Lib.hid (fun (w' : World) (hb : Below W.heap.size W w') => (by
    have h1 := (hb.block w.heap.size (Array.getElem?_eq_some_iff.1 hbx).1).trans hbx
    have h2 : ∀ j, w'.cell? ⟨w.heap.size, j, none⟩ = (#[.int .i64 s.slot, .int .i64 s.birth, .int .i64 s.us, .int .i64 s.ub, .int .i64 s.kind, .string s.user, .string s.label, .int .u64 (s.scopes : Int), .int .i64 s.level, .int .i64 s.born, .int .i64 s.dl, .int .i64 s.depth] : Array Value)[j]? := fun j => cell_of_row _ _ _ _ _ _ h1
    exact ⟨h2 1, h2 4, h2 5, h2 6, h2 7, h2 8, h2 10⟩ : w'.cell? ⟨w.heap.size, 1, none⟩ = some (.int .i64 s.birth) ∧ w'.cell? ⟨w.heap.size, 4, none⟩ = some (.int .i64 s.kind) ∧ w'.cell? ⟨w.heap.size, 5, none⟩ = some (.string s.user) ∧ w'.cell? ⟨w.heap.size, 6, none⟩ = some (.string s.label) ∧ w'.cell? ⟨w.heap.size, 7, none⟩ = some (.int .u64 (s.scopes : Int)) ∧ w'.cell? ⟨w.heap.size, 8, none⟩ = some (.int .i64 s.level) ∧ w'.cell? ⟨w.heap.size, 10, none⟩ = some (.int .i64 s.dl)))
  obtain ⟨x1, x4, x5, x6, x7, x8, x10⟩ := HX.out W (Below.refl _ _)
  have HB0 := Lib.hid hb0
  have HW := Lib.hid hW
  have HIN := Lib.hid hin
  have HN1 := Lib.hid (fun (w' : World) => (name_any s.user (by have := HIN.out.hz1; omega) w').mono fun e w2 h2 => (by rw [hu] at h2; exact h2 : e = .returned (.bool true) ∧ Below w'.heap.size w' w2))
  have HN2 := Lib.hid (fun (w' : World) => (name_any s.label (by have := HIN.out.hz2; omega) w').mono fun e w2 h2 => (by rw [hl] at h2; exact h2 : e = .returned (.bool true) ∧ Below w'.heap.size w' w2))
  have l1 : s.label.toList.isEmpty = false := by rw [Lib.toList_data]; cases h : s.label.data.toList with | nil => exact absurd h hne | cons a r => rfl
  have HWD := Lib.hid (fun w' => vword_any s.kind w')
  rw [kind_no hk] at HWD
  have hnb : ¬ (nameB s.user.data.toList = false ∨ (s.label.data.toList ≠ [] ∧ nameB s.label.data.toList = false)) := by
    rintro (h | ⟨h1, h2⟩)
    · rw [hu] at h; cases h
    · rw [hl] at h2; cases h2
  have HRU := Lib.hid (line_c (ls := ls) (s := s) (now := now) (show ¬ (s.birth < 1 ∨ 1048576 < s.birth) by omega) hnb hk)
  clear hbx hb0 hin wn
  clear hu hk hnb hl hne
  go_enter Tryz.func7, Tryz.ntmps7
  go_wp2_with fail
  rw [← hW]
  clear hW
  refine (HN1.out _).mono ?_
  rintro e w1 ⟨rfl, hbc⟩
  have HC1 : Hid (Below W.heap.size W w1) := hbc
  clear hbc x1 x4 x5 x6 x7 x8 x10
  obtain ⟨x1, x4, x5, x6, x7, x8, x10⟩ := HX.out w1 HC1.out
  go_wp2_with fail
  refine (HN2.out _).mono ?_
  rintro e w2 ⟨rfl, hbc⟩
  have HC2 : Hid (Below W.heap.size W w2) := HC1.out.trans (hbc.mono HC1.out.size)
  clear hbc x1 x4 x5 x6 x7 x8 x10
  obtain ⟨x1, x4, x5, x6, x7, x8, x10⟩ := HX.out w2 HC2.out
  go_wp2_with fail
  refine (HWD.out _).mono ?_
  rintro e w0 ⟨rfl, rfl⟩
  have HFIN : Hid (LinePost ls s now (.returned (.tuple #[.string ⟨#[]⟩, .iface 55 (.int .i64 1)])) ∧ Below w.heap.size w w2) := ⟨LinePost.mk (no := 1) (HRU.out) rfl rfl, HB0.out.trans (HC2.out.mono HB0.out.size)⟩
  go_wp2
  go_ret2
  exact HFIN.out

set_option maxHeartbeats 4000000 in
theorem line_dlw (lo B : Nat) (ls : List ByteArray) (s : Sess) (now : Int) (wn : (Lit.int .i64 now).wf = true) (w : World) (hin : LineIn lo B ls s w) (ha0 : 1 ≤ s.birth) (ha1 : s.birth ≤ 1048576) (hu : nameB s.user.data.toList = true) (hne : s.label.data.toList ≠ []) (hl : nameB s.label.data.toList = true) (hk0 : 0 ≤ s.kind) (hk1 : s.kind ≤ 2) (hlv : s.level < 0 ∨ 2 < s.level) :
    Calls Tryz.prog 7 #[.pointer (some ⟨B, 0, none⟩), .agg #[.int .i64 s.slot, .int .i64 s.birth, .int .i64 s.us, .int .i64 s.ub, .int .i64 s.kind, .string s.user, .string s.label, .int .u64 (s.scopes : Int), .int .i64 s.level, .int .i64 s.born, .int .i64 s.dl, .int .i64 s.depth], .int .i64 now] w fun e w' => LinePost ls s now e ∧ Below w.heap.size w w' := by
  obtain ⟨W, hW⟩ : ∃ W, W = w.alloc (.cells #[.int .i64 s.slot, .int .i64 s.birth, .int .i64 s.us, .int .i64 s.ub, .int .i64 s.kind, .string s.user, .string s.label, .int .u64 (s.scopes : Int), .int .i64 s.level, .int .i64 s.born, .int .i64 s.dl, .int .i64 s.depth] 30) := ⟨_, rfl⟩
  have hb0 : Below w.heap.size w W := by rw [hW]; exact (Below.refl _ _).alloc (Nat.le_refl _) _
  have hbx : W.heap[w.heap.size]? = some (.cells #[.int .i64 s.slot, .int .i64 s.birth, .int .i64 s.us, .int .i64 s.ub, .int .i64 s.kind, .string s.user, .string s.label, .int .u64 (s.scopes : Int), .int .i64 s.level, .int .i64 s.born, .int .i64 s.dl, .int .i64 s.depth] 30 (0, 0)) := by rw [hW]; exact Ut.alloc_at _ _
  have HX := Lib.hid (fun (w' : World) (hb : Below W.heap.size W w') => (by
    have h1 := (hb.block w.heap.size (Array.getElem?_eq_some_iff.1 hbx).1).trans hbx
    have h2 : ∀ j, w'.cell? ⟨w.heap.size, j, none⟩ = (#[.int .i64 s.slot, .int .i64 s.birth, .int .i64 s.us, .int .i64 s.ub, .int .i64 s.kind, .string s.user, .string s.label, .int .u64 (s.scopes : Int), .int .i64 s.level, .int .i64 s.born, .int .i64 s.dl, .int .i64 s.depth] : Array Value)[j]? := fun j => cell_of_row _ _ _ _ _ _ h1
    exact ⟨h2 1, h2 4, h2 5, h2 6, h2 7, h2 8, h2 10⟩ : w'.cell? ⟨w.heap.size, 1, none⟩ = some (.int .i64 s.birth) ∧ w'.cell? ⟨w.heap.size, 4, none⟩ = some (.int .i64 s.kind) ∧ w'.cell? ⟨w.heap.size, 5, none⟩ = some (.string s.user) ∧ w'.cell? ⟨w.heap.size, 6, none⟩ = some (.string s.label) ∧ w'.cell? ⟨w.heap.size, 7, none⟩ = some (.int .u64 (s.scopes : Int)) ∧ w'.cell? ⟨w.heap.size, 8, none⟩ = some (.int .i64 s.level) ∧ w'.cell? ⟨w.heap.size, 10, none⟩ = some (.int .i64 s.dl)))
  obtain ⟨x1, x4, x5, x6, x7, x8, x10⟩ := HX.out W (Below.refl _ _)
  have HB0 := Lib.hid hb0
  have HW := Lib.hid hW
  have HIN := Lib.hid hin
  have HN1 := Lib.hid (fun (w' : World) => (name_any s.user (by have := HIN.out.hz1; omega) w').mono fun e w2 h2 => (by rw [hu] at h2; exact h2 : e = .returned (.bool true) ∧ Below w'.heap.size w' w2))
  have HN2 := Lib.hid (fun (w' : World) => (name_any s.label (by have := HIN.out.hz2; omega) w').mono fun e w2 h2 => (by rw [hl] at h2; exact h2 : e = .returned (.bool true) ∧ Below w'.heap.size w' w2))
  have l1 : s.label.toList.isEmpty = false := by rw [Lib.toList_data]; cases h : s.label.data.toList with | nil => exact absurd h hne | cons a r => rfl
  obtain ⟨K, hK⟩ : ∃ K : ByteArray, K = ⟨(kindL s.kind).toArray⟩ := ⟨_, rfl⟩
  have HWD := Lib.hid (fun w' => vword_any s.kind w')
  rw [← hK] at HWD
  have hKe : K.toList.isEmpty = false := by
    rw [Lib.toList_data, hK]
    have := kind_yes hk0 hk1
    show (kindL s.kind).isEmpty = false
    cases h : kindL s.kind with
    | nil => exact absurd h this
    | cons a r => rfl
  have HK := Lib.hid hK
  clear hK
  have HLV := Lib.hid (fun w' => level_no s.level hlv w')
  have hnb : ¬ (nameB s.user.data.toList = false ∨ (s.label.data.toList ≠ [] ∧ nameB s.label.data.toList = false)) := by
    rintro (h | ⟨h1, h2⟩)
    · rw [hu] at h; cases h
    · rw [hl] at h2; cases h2
  have HRU := Lib.hid (line_d (ls := ls) (s := s) (now := now) (show ¬ (s.birth < 1 ∨ 1048576 < s.birth) by omega) hnb (show ¬ (s.kind < 0 ∨ 2 < s.kind) by omega) hlv)
  clear hbx hb0 hin wn
  clear hu hk0 hk1 hlv hnb hl hne
  go_enter Tryz.func7, Tryz.ntmps7
  go_wp2_with fail
  rw [← hW]
  clear hW
  refine (HN1.out _).mono ?_
  rintro e w1 ⟨rfl, hbc⟩
  have HC1 : Hid (Below W.heap.size W w1) := hbc
  clear hbc x1 x4 x5 x6 x7 x8 x10
  obtain ⟨x1, x4, x5, x6, x7, x8, x10⟩ := HX.out w1 HC1.out
  go_wp2_with fail
  refine (HN2.out _).mono ?_
  rintro e w2 ⟨rfl, hbc⟩
  have HC2 : Hid (Below W.heap.size W w2) := HC1.out.trans (hbc.mono HC1.out.size)
  clear hbc x1 x4 x5 x6 x7 x8 x10
  obtain ⟨x1, x4, x5, x6, x7, x8, x10⟩ := HX.out w2 HC2.out
  go_wp2_with fail
  refine (HWD.out _).mono ?_
  rintro e w0 ⟨rfl, rfl⟩
  go_wp2_with fail
  refine (HLV.out _).mono ?_
  rintro e w0 ⟨rfl, rfl⟩
  have HFIN : Hid (LinePost ls s now (.returned (.tuple #[.string ⟨#[]⟩, .iface 55 (.int .i64 13)])) ∧ Below w.heap.size w w2) := ⟨LinePost.mk (no := 13) (HRU.out) rfl rfl, HB0.out.trans (HC2.out.mono HB0.out.size)⟩
  go_wp2
  go_ret2
  exact HFIN.out

set_option maxHeartbeats 4000000 in
theorem line_elw (lo B : Nat) (ls : List ByteArray) (s : Sess) (now : Int) (wn : (Lit.int .i64 now).wf = true) (w : World) (hin : LineIn lo B ls s w) (ha0 : 1 ≤ s.birth) (ha1 : s.birth ≤ 1048576) (hu : nameB s.user.data.toList = true) (hne : s.label.data.toList ≠ []) (hl : nameB s.label.data.toList = true) (hk0 : 0 ≤ s.kind) (hk1 : s.kind ≤ 2) (hl0 : 0 ≤ s.level) (hl1 : s.level ≤ 2) (hs : 2 ^ ls.length ≤ s.scopes) :
    Calls Tryz.prog 7 #[.pointer (some ⟨B, 0, none⟩), .agg #[.int .i64 s.slot, .int .i64 s.birth, .int .i64 s.us, .int .i64 s.ub, .int .i64 s.kind, .string s.user, .string s.label, .int .u64 (s.scopes : Int), .int .i64 s.level, .int .i64 s.born, .int .i64 s.dl, .int .i64 s.depth], .int .i64 now] w fun e w' => LinePost ls s now e ∧ Below w.heap.size w w' := by
  obtain ⟨W, hW⟩ : ∃ W, W = w.alloc (.cells #[.int .i64 s.slot, .int .i64 s.birth, .int .i64 s.us, .int .i64 s.ub, .int .i64 s.kind, .string s.user, .string s.label, .int .u64 (s.scopes : Int), .int .i64 s.level, .int .i64 s.born, .int .i64 s.dl, .int .i64 s.depth] 30) := ⟨_, rfl⟩
  have hb0 : Below w.heap.size w W := by rw [hW]; exact (Below.refl _ _).alloc (Nat.le_refl _) _
  have hbx : W.heap[w.heap.size]? = some (.cells #[.int .i64 s.slot, .int .i64 s.birth, .int .i64 s.us, .int .i64 s.ub, .int .i64 s.kind, .string s.user, .string s.label, .int .u64 (s.scopes : Int), .int .i64 s.level, .int .i64 s.born, .int .i64 s.dl, .int .i64 s.depth] 30 (0, 0)) := by rw [hW]; exact Ut.alloc_at _ _
  have HX := Lib.hid (fun (w' : World) (hb : Below W.heap.size W w') => (by
    have h1 := (hb.block w.heap.size (Array.getElem?_eq_some_iff.1 hbx).1).trans hbx
    have h2 : ∀ j, w'.cell? ⟨w.heap.size, j, none⟩ = (#[.int .i64 s.slot, .int .i64 s.birth, .int .i64 s.us, .int .i64 s.ub, .int .i64 s.kind, .string s.user, .string s.label, .int .u64 (s.scopes : Int), .int .i64 s.level, .int .i64 s.born, .int .i64 s.dl, .int .i64 s.depth] : Array Value)[j]? := fun j => cell_of_row _ _ _ _ _ _ h1
    exact ⟨h2 1, h2 4, h2 5, h2 6, h2 7, h2 8, h2 10⟩ : w'.cell? ⟨w.heap.size, 1, none⟩ = some (.int .i64 s.birth) ∧ w'.cell? ⟨w.heap.size, 4, none⟩ = some (.int .i64 s.kind) ∧ w'.cell? ⟨w.heap.size, 5, none⟩ = some (.string s.user) ∧ w'.cell? ⟨w.heap.size, 6, none⟩ = some (.string s.label) ∧ w'.cell? ⟨w.heap.size, 7, none⟩ = some (.int .u64 (s.scopes : Int)) ∧ w'.cell? ⟨w.heap.size, 8, none⟩ = some (.int .i64 s.level) ∧ w'.cell? ⟨w.heap.size, 10, none⟩ = some (.int .i64 s.dl)))
  obtain ⟨x1, x4, x5, x6, x7, x8, x10⟩ := HX.out W (Below.refl _ _)
  have HB0 := Lib.hid hb0
  have HW := Lib.hid hW
  have HIN := Lib.hid hin
  have HN1 := Lib.hid (fun (w' : World) => (name_any s.user (by have := HIN.out.hz1; omega) w').mono fun e w2 h2 => (by rw [hu] at h2; exact h2 : e = .returned (.bool true) ∧ Below w'.heap.size w' w2))
  have HN2 := Lib.hid (fun (w' : World) => (name_any s.label (by have := HIN.out.hz2; omega) w').mono fun e w2 h2 => (by rw [hl] at h2; exact h2 : e = .returned (.bool true) ∧ Below w'.heap.size w' w2))
  have l1 : s.label.toList.isEmpty = false := by rw [Lib.toList_data]; cases h : s.label.data.toList with | nil => exact absurd h hne | cons a r => rfl
  obtain ⟨K, hK⟩ : ∃ K : ByteArray, K = ⟨(kindL s.kind).toArray⟩ := ⟨_, rfl⟩
  have HWD := Lib.hid (fun w' => vword_any s.kind w')
  rw [← hK] at HWD
  have hKe : K.toList.isEmpty = false := by
    rw [Lib.toList_data, hK]
    have := kind_yes hk0 hk1
    show (kindL s.kind).isEmpty = false
    cases h : kindL s.kind with
    | nil => exact absurd h this
    | cons a r => rfl
  have HK := Lib.hid hK
  clear hK
  obtain ⟨L, hL⟩ : ∃ L : ByteArray, L = ⟨(levL s.level).toArray⟩ := ⟨_, rfl⟩
  have HLV := Lib.hid (fun w' => level_yes s.level hl0 hl1 w')
  rw [← hL] at HLV
  have HL := Lib.hid hL
  clear hL
  have HPR := Lib.hid (fun (w' : World) (hb : Below W.heap.size W w') => (print_any lo B ls HIN.out.hbk s.scopes HIN.out.hsc w' (HIN.out.henv w' (HB0.out.trans (hb.mono HB0.out.size))).book).mono fun e w2 h2 => (⟨by have h3 := h2.1; unfold PrintPost at h3; rw [scopes_err hs] at h3; exact h3, h2.2⟩ : e = .returned (.tuple #[.string ⟨#[]⟩, .iface 55 (.int .i64 11)]) ∧ Below w'.heap.size w' w2))
  have hnb : ¬ (nameB s.user.data.toList = false ∨ (s.label.data.toList ≠ [] ∧ nameB s.label.data.toList = false)) := by
    rintro (h | ⟨h1, h2⟩)
    · rw [hu] at h; cases h
    · rw [hl] at h2; cases h2
  have HRU := Lib.hid (line_e (ls := ls) (s := s) (now := now) (show ¬ (s.birth < 1 ∨ 1048576 < s.birth) by omega) hnb (show ¬ (s.kind < 0 ∨ 2 < s.kind) by omega) (show ¬ (s.level < 0 ∨ 2 < s.level) by omega) hs)
  clear hbx hb0 hin wn
  clear hu hk0 hk1 hl0 hl1 hs hnb hl hne
  go_enter Tryz.func7, Tryz.ntmps7
  go_wp2_with fail
  rw [← hW]
  clear hW
  refine (HN1.out _).mono ?_
  rintro e w1 ⟨rfl, hbc⟩
  have HC1 : Hid (Below W.heap.size W w1) := hbc
  clear hbc x1 x4 x5 x6 x7 x8 x10
  obtain ⟨x1, x4, x5, x6, x7, x8, x10⟩ := HX.out w1 HC1.out
  go_wp2_with fail
  refine (HN2.out _).mono ?_
  rintro e w2 ⟨rfl, hbc⟩
  have HC2 : Hid (Below W.heap.size W w2) := HC1.out.trans (hbc.mono HC1.out.size)
  clear hbc x1 x4 x5 x6 x7 x8 x10
  obtain ⟨x1, x4, x5, x6, x7, x8, x10⟩ := HX.out w2 HC2.out
  go_wp2_with fail
  refine (HWD.out _).mono ?_
  rintro e w0 ⟨rfl, rfl⟩
  go_wp2_with fail
  refine (HLV.out _).mono ?_
  rintro e w3 ⟨rfl, hbc⟩
  have HC3 : Hid (Below W.heap.size W w3) := HC2.out.trans (hbc.mono HC2.out.size)
  clear hbc x1 x4 x5 x6 x7 x8 x10
  obtain ⟨x1, x4, x5, x6, x7, x8, x10⟩ := HX.out w3 HC3.out
  go_wp2_with fail
  refine (HPR.out _ HC3.out).mono ?_
  rintro e w4 ⟨rfl, hbc⟩
  have HC4 : Hid (Below W.heap.size W w4) := HC3.out.trans (hbc.mono HC3.out.size)
  clear hbc x1 x4 x5 x6 x7 x8 x10
  obtain ⟨x1, x4, x5, x6, x7, x8, x10⟩ := HX.out w4 HC4.out
  have HFIN : Hid (LinePost ls s now (.returned (.tuple #[.string ⟨#[]⟩, .iface 55 (.int .i64 11)])) ∧ Below w.heap.size w w4) := ⟨LinePost.mk (no := 11) (HRU.out) rfl rfl, HB0.out.trans (HC4.out.mono HB0.out.size)⟩
  go_wp2
  go_ret2
  exact HFIN.out

set_option maxHeartbeats 4000000 in
theorem line_f1lw (lo B : Nat) (ls : List ByteArray) (s : Sess) (now : Int) (wn : (Lit.int .i64 now).wf = true) (w : World) (hin : LineIn lo B ls s w) (ha0 : 1 ≤ s.birth) (ha1 : s.birth ≤ 1048576) (hu : nameB s.user.data.toList = true) (hne : s.label.data.toList ≠ []) (hl : nameB s.label.data.toList = true) (hk0 : 0 ≤ s.kind) (hk1 : s.kind ≤ 2) (hl0 : 0 ≤ s.level) (hl1 : s.level ≤ 2) (hs : ¬ 2 ^ ls.length ≤ s.scopes) (h : now < 0) :
    Calls Tryz.prog 7 #[.pointer (some ⟨B, 0, none⟩), .agg #[.int .i64 s.slot, .int .i64 s.birth, .int .i64 s.us, .int .i64 s.ub, .int .i64 s.kind, .string s.user, .string s.label, .int .u64 (s.scopes : Int), .int .i64 s.level, .int .i64 s.born, .int .i64 s.dl, .int .i64 s.depth], .int .i64 now] w fun e w' => LinePost ls s now e ∧ Below w.heap.size w w' := by
  obtain ⟨W, hW⟩ : ∃ W, W = w.alloc (.cells #[.int .i64 s.slot, .int .i64 s.birth, .int .i64 s.us, .int .i64 s.ub, .int .i64 s.kind, .string s.user, .string s.label, .int .u64 (s.scopes : Int), .int .i64 s.level, .int .i64 s.born, .int .i64 s.dl, .int .i64 s.depth] 30) := ⟨_, rfl⟩
  have hb0 : Below w.heap.size w W := by rw [hW]; exact (Below.refl _ _).alloc (Nat.le_refl _) _
  have hbx : W.heap[w.heap.size]? = some (.cells #[.int .i64 s.slot, .int .i64 s.birth, .int .i64 s.us, .int .i64 s.ub, .int .i64 s.kind, .string s.user, .string s.label, .int .u64 (s.scopes : Int), .int .i64 s.level, .int .i64 s.born, .int .i64 s.dl, .int .i64 s.depth] 30 (0, 0)) := by rw [hW]; exact Ut.alloc_at _ _
  have HX := Lib.hid (fun (w' : World) (hb : Below W.heap.size W w') => (by
    have h1 := (hb.block w.heap.size (Array.getElem?_eq_some_iff.1 hbx).1).trans hbx
    have h2 : ∀ j, w'.cell? ⟨w.heap.size, j, none⟩ = (#[.int .i64 s.slot, .int .i64 s.birth, .int .i64 s.us, .int .i64 s.ub, .int .i64 s.kind, .string s.user, .string s.label, .int .u64 (s.scopes : Int), .int .i64 s.level, .int .i64 s.born, .int .i64 s.dl, .int .i64 s.depth] : Array Value)[j]? := fun j => cell_of_row _ _ _ _ _ _ h1
    exact ⟨h2 1, h2 4, h2 5, h2 6, h2 7, h2 8, h2 10⟩ : w'.cell? ⟨w.heap.size, 1, none⟩ = some (.int .i64 s.birth) ∧ w'.cell? ⟨w.heap.size, 4, none⟩ = some (.int .i64 s.kind) ∧ w'.cell? ⟨w.heap.size, 5, none⟩ = some (.string s.user) ∧ w'.cell? ⟨w.heap.size, 6, none⟩ = some (.string s.label) ∧ w'.cell? ⟨w.heap.size, 7, none⟩ = some (.int .u64 (s.scopes : Int)) ∧ w'.cell? ⟨w.heap.size, 8, none⟩ = some (.int .i64 s.level) ∧ w'.cell? ⟨w.heap.size, 10, none⟩ = some (.int .i64 s.dl)))
  obtain ⟨x1, x4, x5, x6, x7, x8, x10⟩ := HX.out W (Below.refl _ _)
  have HB0 := Lib.hid hb0
  have HW := Lib.hid hW
  have HIN := Lib.hid hin
  have HN1 := Lib.hid (fun (w' : World) => (name_any s.user (by have := HIN.out.hz1; omega) w').mono fun e w2 h2 => (by rw [hu] at h2; exact h2 : e = .returned (.bool true) ∧ Below w'.heap.size w' w2))
  have HN2 := Lib.hid (fun (w' : World) => (name_any s.label (by have := HIN.out.hz2; omega) w').mono fun e w2 h2 => (by rw [hl] at h2; exact h2 : e = .returned (.bool true) ∧ Below w'.heap.size w' w2))
  have l1 : s.label.toList.isEmpty = false := by rw [Lib.toList_data]; cases h : s.label.data.toList with | nil => exact absurd h hne | cons a r => rfl
  obtain ⟨K, hK⟩ : ∃ K : ByteArray, K = ⟨(kindL s.kind).toArray⟩ := ⟨_, rfl⟩
  have HWD := Lib.hid (fun w' => vword_any s.kind w')
  rw [← hK] at HWD
  have hKe : K.toList.isEmpty = false := by
    rw [Lib.toList_data, hK]
    have := kind_yes hk0 hk1
    show (kindL s.kind).isEmpty = false
    cases h : kindL s.kind with
    | nil => exact absurd h this
    | cons a r => rfl
  have HK := Lib.hid hK
  clear hK
  obtain ⟨L, hL⟩ : ∃ L : ByteArray, L = ⟨(levL s.level).toArray⟩ := ⟨_, rfl⟩
  have HLV := Lib.hid (fun w' => level_yes s.level hl0 hl1 w')
  rw [← hL] at HLV
  have HL := Lib.hid hL
  clear hL
  obtain ⟨P, hP⟩ : ∃ P : ByteArray, P = ⟨(jn ls s.scopes ls.length).toArray⟩ := ⟨_, rfl⟩
  have HPR := Lib.hid (fun (w' : World) (hb : Below W.heap.size W w') => (print_any lo B ls HIN.out.hbk s.scopes HIN.out.hsc w' (HIN.out.henv w' (HB0.out.trans (hb.mono HB0.out.size))).book).mono fun e w2 h2 => (⟨by have h3 := h2.1; unfold PrintPost at h3; rw [scopes_ok hs] at h3; rw [hP]; exact h3, h2.2⟩ : e = .returned (.tuple #[.string P, .nilIface]) ∧ Below w'.heap.size w' w2))
  have HPL : Hid (P.size ≤ 8512) := by
    show _ ≤ _
    have h1 := vjn_len HIN.out.hbk s.scopes ls.length (Nat.le_refl _)
    have h2 := HIN.out.hbk.len
    have h3 : P.size = (jn ls s.scopes ls.length).length := by rw [hP]; simp [ByteArray.size]
    omega
  have HP := Lib.hid hP
  clear hP
  have hnb : ¬ (nameB s.user.data.toList = false ∨ (s.label.data.toList ≠ [] ∧ nameB s.label.data.toList = false)) := by
    rintro (h | ⟨h1, h2⟩)
    · rw [hu] at h; cases h
    · rw [hl] at h2; cases h2
  have HRU := Lib.hid (line_f (ls := ls) (s := s) (now := now) (show ¬ (s.birth < 1 ∨ 1048576 < s.birth) by omega) hnb (show ¬ (s.kind < 0 ∨ 2 < s.kind) by omega) (show ¬ (s.level < 0 ∨ 2 < s.level) by omega) hs (.inl h))
  clear hbx hb0 hin wn
  clear hu hk0 hk1 hl0 hl1 hs hnb hl hne
  go_enter Tryz.func7, Tryz.ntmps7
  go_wp2_with fail
  rw [← hW]
  clear hW
  refine (HN1.out _).mono ?_
  rintro e w1 ⟨rfl, hbc⟩
  have HC1 : Hid (Below W.heap.size W w1) := hbc
  clear hbc x1 x4 x5 x6 x7 x8 x10
  obtain ⟨x1, x4, x5, x6, x7, x8, x10⟩ := HX.out w1 HC1.out
  go_wp2_with fail
  refine (HN2.out _).mono ?_
  rintro e w2 ⟨rfl, hbc⟩
  have HC2 : Hid (Below W.heap.size W w2) := HC1.out.trans (hbc.mono HC1.out.size)
  clear hbc x1 x4 x5 x6 x7 x8 x10
  obtain ⟨x1, x4, x5, x6, x7, x8, x10⟩ := HX.out w2 HC2.out
  go_wp2_with fail
  refine (HWD.out _).mono ?_
  rintro e w0 ⟨rfl, rfl⟩
  go_wp2_with fail
  refine (HLV.out _).mono ?_
  rintro e w3 ⟨rfl, hbc⟩
  have HC3 : Hid (Below W.heap.size W w3) := HC2.out.trans (hbc.mono HC2.out.size)
  clear hbc x1 x4 x5 x6 x7 x8 x10
  obtain ⟨x1, x4, x5, x6, x7, x8, x10⟩ := HX.out w3 HC3.out
  go_wp2_with fail
  refine (HPR.out _ HC3.out).mono ?_
  rintro e w4 ⟨rfl, hbc⟩
  have HC4 : Hid (Below W.heap.size W w4) := HC3.out.trans (hbc.mono HC3.out.size)
  clear hbc x1 x4 x5 x6 x7 x8 x10
  obtain ⟨x1, x4, x5, x6, x7, x8, x10⟩ := HX.out w4 HC4.out
  have HFIN : Hid (LinePost ls s now (.returned (.tuple #[.string ⟨#[]⟩, .iface 55 (.int .i64 12)])) ∧ Below w.heap.size w w4) := ⟨LinePost.mk (no := 12) (HRU.out) rfl rfl, HB0.out.trans (HC4.out.mono HB0.out.size)⟩
  go_wp2
  go_ret2
  exact HFIN.out

set_option maxHeartbeats 4000000 in
theorem line_f2lw (lo B : Nat) (ls : List ByteArray) (s : Sess) (now : Int) (wn : (Lit.int .i64 now).wf = true) (w : World) (hin : LineIn lo B ls s w) (ha0 : 1 ≤ s.birth) (ha1 : s.birth ≤ 1048576) (hu : nameB s.user.data.toList = true) (hne : s.label.data.toList ≠ []) (hl : nameB s.label.data.toList = true) (hk0 : 0 ≤ s.kind) (hk1 : s.kind ≤ 2) (hl0 : 0 ≤ s.level) (hl1 : s.level ≤ 2) (hs : ¬ 2 ^ ls.length ≤ s.scopes) (g0 : 0 ≤ now) (h : 1099511627776 < now) :
    Calls Tryz.prog 7 #[.pointer (some ⟨B, 0, none⟩), .agg #[.int .i64 s.slot, .int .i64 s.birth, .int .i64 s.us, .int .i64 s.ub, .int .i64 s.kind, .string s.user, .string s.label, .int .u64 (s.scopes : Int), .int .i64 s.level, .int .i64 s.born, .int .i64 s.dl, .int .i64 s.depth], .int .i64 now] w fun e w' => LinePost ls s now e ∧ Below w.heap.size w w' := by
  obtain ⟨W, hW⟩ : ∃ W, W = w.alloc (.cells #[.int .i64 s.slot, .int .i64 s.birth, .int .i64 s.us, .int .i64 s.ub, .int .i64 s.kind, .string s.user, .string s.label, .int .u64 (s.scopes : Int), .int .i64 s.level, .int .i64 s.born, .int .i64 s.dl, .int .i64 s.depth] 30) := ⟨_, rfl⟩
  have hb0 : Below w.heap.size w W := by rw [hW]; exact (Below.refl _ _).alloc (Nat.le_refl _) _
  have hbx : W.heap[w.heap.size]? = some (.cells #[.int .i64 s.slot, .int .i64 s.birth, .int .i64 s.us, .int .i64 s.ub, .int .i64 s.kind, .string s.user, .string s.label, .int .u64 (s.scopes : Int), .int .i64 s.level, .int .i64 s.born, .int .i64 s.dl, .int .i64 s.depth] 30 (0, 0)) := by rw [hW]; exact Ut.alloc_at _ _
  have HX := Lib.hid (fun (w' : World) (hb : Below W.heap.size W w') => (by
    have h1 := (hb.block w.heap.size (Array.getElem?_eq_some_iff.1 hbx).1).trans hbx
    have h2 : ∀ j, w'.cell? ⟨w.heap.size, j, none⟩ = (#[.int .i64 s.slot, .int .i64 s.birth, .int .i64 s.us, .int .i64 s.ub, .int .i64 s.kind, .string s.user, .string s.label, .int .u64 (s.scopes : Int), .int .i64 s.level, .int .i64 s.born, .int .i64 s.dl, .int .i64 s.depth] : Array Value)[j]? := fun j => cell_of_row _ _ _ _ _ _ h1
    exact ⟨h2 1, h2 4, h2 5, h2 6, h2 7, h2 8, h2 10⟩ : w'.cell? ⟨w.heap.size, 1, none⟩ = some (.int .i64 s.birth) ∧ w'.cell? ⟨w.heap.size, 4, none⟩ = some (.int .i64 s.kind) ∧ w'.cell? ⟨w.heap.size, 5, none⟩ = some (.string s.user) ∧ w'.cell? ⟨w.heap.size, 6, none⟩ = some (.string s.label) ∧ w'.cell? ⟨w.heap.size, 7, none⟩ = some (.int .u64 (s.scopes : Int)) ∧ w'.cell? ⟨w.heap.size, 8, none⟩ = some (.int .i64 s.level) ∧ w'.cell? ⟨w.heap.size, 10, none⟩ = some (.int .i64 s.dl)))
  obtain ⟨x1, x4, x5, x6, x7, x8, x10⟩ := HX.out W (Below.refl _ _)
  have HB0 := Lib.hid hb0
  have HW := Lib.hid hW
  have HIN := Lib.hid hin
  have HN1 := Lib.hid (fun (w' : World) => (name_any s.user (by have := HIN.out.hz1; omega) w').mono fun e w2 h2 => (by rw [hu] at h2; exact h2 : e = .returned (.bool true) ∧ Below w'.heap.size w' w2))
  have HN2 := Lib.hid (fun (w' : World) => (name_any s.label (by have := HIN.out.hz2; omega) w').mono fun e w2 h2 => (by rw [hl] at h2; exact h2 : e = .returned (.bool true) ∧ Below w'.heap.size w' w2))
  have l1 : s.label.toList.isEmpty = false := by rw [Lib.toList_data]; cases h : s.label.data.toList with | nil => exact absurd h hne | cons a r => rfl
  obtain ⟨K, hK⟩ : ∃ K : ByteArray, K = ⟨(kindL s.kind).toArray⟩ := ⟨_, rfl⟩
  have HWD := Lib.hid (fun w' => vword_any s.kind w')
  rw [← hK] at HWD
  have hKe : K.toList.isEmpty = false := by
    rw [Lib.toList_data, hK]
    have := kind_yes hk0 hk1
    show (kindL s.kind).isEmpty = false
    cases h : kindL s.kind with
    | nil => exact absurd h this
    | cons a r => rfl
  have HK := Lib.hid hK
  clear hK
  obtain ⟨L, hL⟩ : ∃ L : ByteArray, L = ⟨(levL s.level).toArray⟩ := ⟨_, rfl⟩
  have HLV := Lib.hid (fun w' => level_yes s.level hl0 hl1 w')
  rw [← hL] at HLV
  have HL := Lib.hid hL
  clear hL
  obtain ⟨P, hP⟩ : ∃ P : ByteArray, P = ⟨(jn ls s.scopes ls.length).toArray⟩ := ⟨_, rfl⟩
  have HPR := Lib.hid (fun (w' : World) (hb : Below W.heap.size W w') => (print_any lo B ls HIN.out.hbk s.scopes HIN.out.hsc w' (HIN.out.henv w' (HB0.out.trans (hb.mono HB0.out.size))).book).mono fun e w2 h2 => (⟨by have h3 := h2.1; unfold PrintPost at h3; rw [scopes_ok hs] at h3; rw [hP]; exact h3, h2.2⟩ : e = .returned (.tuple #[.string P, .nilIface]) ∧ Below w'.heap.size w' w2))
  have HPL : Hid (P.size ≤ 8512) := by
    show _ ≤ _
    have h1 := vjn_len HIN.out.hbk s.scopes ls.length (Nat.le_refl _)
    have h2 := HIN.out.hbk.len
    have h3 : P.size = (jn ls s.scopes ls.length).length := by rw [hP]; simp [ByteArray.size]
    omega
  have HP := Lib.hid hP
  clear hP
  have hnb : ¬ (nameB s.user.data.toList = false ∨ (s.label.data.toList ≠ [] ∧ nameB s.label.data.toList = false)) := by
    rintro (h | ⟨h1, h2⟩)
    · rw [hu] at h; cases h
    · rw [hl] at h2; cases h2
  have HRU := Lib.hid (line_f (ls := ls) (s := s) (now := now) (show ¬ (s.birth < 1 ∨ 1048576 < s.birth) by omega) hnb (show ¬ (s.kind < 0 ∨ 2 < s.kind) by omega) (show ¬ (s.level < 0 ∨ 2 < s.level) by omega) hs (.inr (.inl h)))
  clear hbx hb0 hin wn
  clear hu hk0 hk1 hl0 hl1 hs hnb hl hne
  go_enter Tryz.func7, Tryz.ntmps7
  go_wp2_with fail
  rw [← hW]
  clear hW
  refine (HN1.out _).mono ?_
  rintro e w1 ⟨rfl, hbc⟩
  have HC1 : Hid (Below W.heap.size W w1) := hbc
  clear hbc x1 x4 x5 x6 x7 x8 x10
  obtain ⟨x1, x4, x5, x6, x7, x8, x10⟩ := HX.out w1 HC1.out
  go_wp2_with fail
  refine (HN2.out _).mono ?_
  rintro e w2 ⟨rfl, hbc⟩
  have HC2 : Hid (Below W.heap.size W w2) := HC1.out.trans (hbc.mono HC1.out.size)
  clear hbc x1 x4 x5 x6 x7 x8 x10
  obtain ⟨x1, x4, x5, x6, x7, x8, x10⟩ := HX.out w2 HC2.out
  go_wp2_with fail
  refine (HWD.out _).mono ?_
  rintro e w0 ⟨rfl, rfl⟩
  go_wp2_with fail
  refine (HLV.out _).mono ?_
  rintro e w3 ⟨rfl, hbc⟩
  have HC3 : Hid (Below W.heap.size W w3) := HC2.out.trans (hbc.mono HC2.out.size)
  clear hbc x1 x4 x5 x6 x7 x8 x10
  obtain ⟨x1, x4, x5, x6, x7, x8, x10⟩ := HX.out w3 HC3.out
  go_wp2_with fail
  refine (HPR.out _ HC3.out).mono ?_
  rintro e w4 ⟨rfl, hbc⟩
  have HC4 : Hid (Below W.heap.size W w4) := HC3.out.trans (hbc.mono HC3.out.size)
  clear hbc x1 x4 x5 x6 x7 x8 x10
  obtain ⟨x1, x4, x5, x6, x7, x8, x10⟩ := HX.out w4 HC4.out
  have HFIN : Hid (LinePost ls s now (.returned (.tuple #[.string ⟨#[]⟩, .iface 55 (.int .i64 12)])) ∧ Below w.heap.size w w4) := ⟨LinePost.mk (no := 12) (HRU.out) rfl rfl, HB0.out.trans (HC4.out.mono HB0.out.size)⟩
  go_wp2
  go_ret2
  exact HFIN.out

set_option maxHeartbeats 4000000 in
theorem line_f3lw (lo B : Nat) (ls : List ByteArray) (s : Sess) (now : Int) (wn : (Lit.int .i64 now).wf = true) (w : World) (hin : LineIn lo B ls s w) (ha0 : 1 ≤ s.birth) (ha1 : s.birth ≤ 1048576) (hu : nameB s.user.data.toList = true) (hne : s.label.data.toList ≠ []) (hl : nameB s.label.data.toList = true) (hk0 : 0 ≤ s.kind) (hk1 : s.kind ≤ 2) (hl0 : 0 ≤ s.level) (hl1 : s.level ≤ 2) (hs : ¬ 2 ^ ls.length ≤ s.scopes) (g0 : 0 ≤ now) (g1 : now ≤ 1099511627776) (h : s.dl < 0) :
    Calls Tryz.prog 7 #[.pointer (some ⟨B, 0, none⟩), .agg #[.int .i64 s.slot, .int .i64 s.birth, .int .i64 s.us, .int .i64 s.ub, .int .i64 s.kind, .string s.user, .string s.label, .int .u64 (s.scopes : Int), .int .i64 s.level, .int .i64 s.born, .int .i64 s.dl, .int .i64 s.depth], .int .i64 now] w fun e w' => LinePost ls s now e ∧ Below w.heap.size w w' := by
  obtain ⟨W, hW⟩ : ∃ W, W = w.alloc (.cells #[.int .i64 s.slot, .int .i64 s.birth, .int .i64 s.us, .int .i64 s.ub, .int .i64 s.kind, .string s.user, .string s.label, .int .u64 (s.scopes : Int), .int .i64 s.level, .int .i64 s.born, .int .i64 s.dl, .int .i64 s.depth] 30) := ⟨_, rfl⟩
  have hb0 : Below w.heap.size w W := by rw [hW]; exact (Below.refl _ _).alloc (Nat.le_refl _) _
  have hbx : W.heap[w.heap.size]? = some (.cells #[.int .i64 s.slot, .int .i64 s.birth, .int .i64 s.us, .int .i64 s.ub, .int .i64 s.kind, .string s.user, .string s.label, .int .u64 (s.scopes : Int), .int .i64 s.level, .int .i64 s.born, .int .i64 s.dl, .int .i64 s.depth] 30 (0, 0)) := by rw [hW]; exact Ut.alloc_at _ _
  have HX := Lib.hid (fun (w' : World) (hb : Below W.heap.size W w') => (by
    have h1 := (hb.block w.heap.size (Array.getElem?_eq_some_iff.1 hbx).1).trans hbx
    have h2 : ∀ j, w'.cell? ⟨w.heap.size, j, none⟩ = (#[.int .i64 s.slot, .int .i64 s.birth, .int .i64 s.us, .int .i64 s.ub, .int .i64 s.kind, .string s.user, .string s.label, .int .u64 (s.scopes : Int), .int .i64 s.level, .int .i64 s.born, .int .i64 s.dl, .int .i64 s.depth] : Array Value)[j]? := fun j => cell_of_row _ _ _ _ _ _ h1
    exact ⟨h2 1, h2 4, h2 5, h2 6, h2 7, h2 8, h2 10⟩ : w'.cell? ⟨w.heap.size, 1, none⟩ = some (.int .i64 s.birth) ∧ w'.cell? ⟨w.heap.size, 4, none⟩ = some (.int .i64 s.kind) ∧ w'.cell? ⟨w.heap.size, 5, none⟩ = some (.string s.user) ∧ w'.cell? ⟨w.heap.size, 6, none⟩ = some (.string s.label) ∧ w'.cell? ⟨w.heap.size, 7, none⟩ = some (.int .u64 (s.scopes : Int)) ∧ w'.cell? ⟨w.heap.size, 8, none⟩ = some (.int .i64 s.level) ∧ w'.cell? ⟨w.heap.size, 10, none⟩ = some (.int .i64 s.dl)))
  obtain ⟨x1, x4, x5, x6, x7, x8, x10⟩ := HX.out W (Below.refl _ _)
  have HB0 := Lib.hid hb0
  have HW := Lib.hid hW
  have HIN := Lib.hid hin
  have HN1 := Lib.hid (fun (w' : World) => (name_any s.user (by have := HIN.out.hz1; omega) w').mono fun e w2 h2 => (by rw [hu] at h2; exact h2 : e = .returned (.bool true) ∧ Below w'.heap.size w' w2))
  have HN2 := Lib.hid (fun (w' : World) => (name_any s.label (by have := HIN.out.hz2; omega) w').mono fun e w2 h2 => (by rw [hl] at h2; exact h2 : e = .returned (.bool true) ∧ Below w'.heap.size w' w2))
  have l1 : s.label.toList.isEmpty = false := by rw [Lib.toList_data]; cases h : s.label.data.toList with | nil => exact absurd h hne | cons a r => rfl
  obtain ⟨K, hK⟩ : ∃ K : ByteArray, K = ⟨(kindL s.kind).toArray⟩ := ⟨_, rfl⟩
  have HWD := Lib.hid (fun w' => vword_any s.kind w')
  rw [← hK] at HWD
  have hKe : K.toList.isEmpty = false := by
    rw [Lib.toList_data, hK]
    have := kind_yes hk0 hk1
    show (kindL s.kind).isEmpty = false
    cases h : kindL s.kind with
    | nil => exact absurd h this
    | cons a r => rfl
  have HK := Lib.hid hK
  clear hK
  obtain ⟨L, hL⟩ : ∃ L : ByteArray, L = ⟨(levL s.level).toArray⟩ := ⟨_, rfl⟩
  have HLV := Lib.hid (fun w' => level_yes s.level hl0 hl1 w')
  rw [← hL] at HLV
  have HL := Lib.hid hL
  clear hL
  obtain ⟨P, hP⟩ : ∃ P : ByteArray, P = ⟨(jn ls s.scopes ls.length).toArray⟩ := ⟨_, rfl⟩
  have HPR := Lib.hid (fun (w' : World) (hb : Below W.heap.size W w') => (print_any lo B ls HIN.out.hbk s.scopes HIN.out.hsc w' (HIN.out.henv w' (HB0.out.trans (hb.mono HB0.out.size))).book).mono fun e w2 h2 => (⟨by have h3 := h2.1; unfold PrintPost at h3; rw [scopes_ok hs] at h3; rw [hP]; exact h3, h2.2⟩ : e = .returned (.tuple #[.string P, .nilIface]) ∧ Below w'.heap.size w' w2))
  have HPL : Hid (P.size ≤ 8512) := by
    show _ ≤ _
    have h1 := vjn_len HIN.out.hbk s.scopes ls.length (Nat.le_refl _)
    have h2 := HIN.out.hbk.len
    have h3 : P.size = (jn ls s.scopes ls.length).length := by rw [hP]; simp [ByteArray.size]
    omega
  have HP := Lib.hid hP
  clear hP
  have hnb : ¬ (nameB s.user.data.toList = false ∨ (s.label.data.toList ≠ [] ∧ nameB s.label.data.toList = false)) := by
    rintro (h | ⟨h1, h2⟩)
    · rw [hu] at h; cases h
    · rw [hl] at h2; cases h2
  have HRU := Lib.hid (line_f (ls := ls) (s := s) (now := now) (show ¬ (s.birth < 1 ∨ 1048576 < s.birth) by omega) hnb (show ¬ (s.kind < 0 ∨ 2 < s.kind) by omega) (show ¬ (s.level < 0 ∨ 2 < s.level) by omega) hs (.inr (.inr (.inl h))))
  clear hbx hb0 hin wn
  clear hu hk0 hk1 hl0 hl1 hs hnb hl hne
  go_enter Tryz.func7, Tryz.ntmps7
  go_wp2_with fail
  rw [← hW]
  clear hW
  refine (HN1.out _).mono ?_
  rintro e w1 ⟨rfl, hbc⟩
  have HC1 : Hid (Below W.heap.size W w1) := hbc
  clear hbc x1 x4 x5 x6 x7 x8 x10
  obtain ⟨x1, x4, x5, x6, x7, x8, x10⟩ := HX.out w1 HC1.out
  go_wp2_with fail
  refine (HN2.out _).mono ?_
  rintro e w2 ⟨rfl, hbc⟩
  have HC2 : Hid (Below W.heap.size W w2) := HC1.out.trans (hbc.mono HC1.out.size)
  clear hbc x1 x4 x5 x6 x7 x8 x10
  obtain ⟨x1, x4, x5, x6, x7, x8, x10⟩ := HX.out w2 HC2.out
  go_wp2_with fail
  refine (HWD.out _).mono ?_
  rintro e w0 ⟨rfl, rfl⟩
  go_wp2_with fail
  refine (HLV.out _).mono ?_
  rintro e w3 ⟨rfl, hbc⟩
  have HC3 : Hid (Below W.heap.size W w3) := HC2.out.trans (hbc.mono HC2.out.size)
  clear hbc x1 x4 x5 x6 x7 x8 x10
  obtain ⟨x1, x4, x5, x6, x7, x8, x10⟩ := HX.out w3 HC3.out
  go_wp2_with fail
  refine (HPR.out _ HC3.out).mono ?_
  rintro e w4 ⟨rfl, hbc⟩
  have HC4 : Hid (Below W.heap.size W w4) := HC3.out.trans (hbc.mono HC3.out.size)
  clear hbc x1 x4 x5 x6 x7 x8 x10
  obtain ⟨x1, x4, x5, x6, x7, x8, x10⟩ := HX.out w4 HC4.out
  have HFIN : Hid (LinePost ls s now (.returned (.tuple #[.string ⟨#[]⟩, .iface 55 (.int .i64 12)])) ∧ Below w.heap.size w w4) := ⟨LinePost.mk (no := 12) (HRU.out) rfl rfl, HB0.out.trans (HC4.out.mono HB0.out.size)⟩
  go_wp2
  go_ret2
  exact HFIN.out

set_option maxHeartbeats 4000000 in
theorem line_f4lw (lo B : Nat) (ls : List ByteArray) (s : Sess) (now : Int) (wn : (Lit.int .i64 now).wf = true) (w : World) (hin : LineIn lo B ls s w) (ha0 : 1 ≤ s.birth) (ha1 : s.birth ≤ 1048576) (hu : nameB s.user.data.toList = true) (hne : s.label.data.toList ≠ []) (hl : nameB s.label.data.toList = true) (hk0 : 0 ≤ s.kind) (hk1 : s.kind ≤ 2) (hl0 : 0 ≤ s.level) (hl1 : s.level ≤ 2) (hs : ¬ 2 ^ ls.length ≤ s.scopes) (g0 : 0 ≤ now) (g1 : now ≤ 1099511627776) (g2 : 0 ≤ s.dl) (h : 1099511627776 < s.dl) :
    Calls Tryz.prog 7 #[.pointer (some ⟨B, 0, none⟩), .agg #[.int .i64 s.slot, .int .i64 s.birth, .int .i64 s.us, .int .i64 s.ub, .int .i64 s.kind, .string s.user, .string s.label, .int .u64 (s.scopes : Int), .int .i64 s.level, .int .i64 s.born, .int .i64 s.dl, .int .i64 s.depth], .int .i64 now] w fun e w' => LinePost ls s now e ∧ Below w.heap.size w w' := by
  obtain ⟨W, hW⟩ : ∃ W, W = w.alloc (.cells #[.int .i64 s.slot, .int .i64 s.birth, .int .i64 s.us, .int .i64 s.ub, .int .i64 s.kind, .string s.user, .string s.label, .int .u64 (s.scopes : Int), .int .i64 s.level, .int .i64 s.born, .int .i64 s.dl, .int .i64 s.depth] 30) := ⟨_, rfl⟩
  have hb0 : Below w.heap.size w W := by rw [hW]; exact (Below.refl _ _).alloc (Nat.le_refl _) _
  have hbx : W.heap[w.heap.size]? = some (.cells #[.int .i64 s.slot, .int .i64 s.birth, .int .i64 s.us, .int .i64 s.ub, .int .i64 s.kind, .string s.user, .string s.label, .int .u64 (s.scopes : Int), .int .i64 s.level, .int .i64 s.born, .int .i64 s.dl, .int .i64 s.depth] 30 (0, 0)) := by rw [hW]; exact Ut.alloc_at _ _
  have HX := Lib.hid (fun (w' : World) (hb : Below W.heap.size W w') => (by
    have h1 := (hb.block w.heap.size (Array.getElem?_eq_some_iff.1 hbx).1).trans hbx
    have h2 : ∀ j, w'.cell? ⟨w.heap.size, j, none⟩ = (#[.int .i64 s.slot, .int .i64 s.birth, .int .i64 s.us, .int .i64 s.ub, .int .i64 s.kind, .string s.user, .string s.label, .int .u64 (s.scopes : Int), .int .i64 s.level, .int .i64 s.born, .int .i64 s.dl, .int .i64 s.depth] : Array Value)[j]? := fun j => cell_of_row _ _ _ _ _ _ h1
    exact ⟨h2 1, h2 4, h2 5, h2 6, h2 7, h2 8, h2 10⟩ : w'.cell? ⟨w.heap.size, 1, none⟩ = some (.int .i64 s.birth) ∧ w'.cell? ⟨w.heap.size, 4, none⟩ = some (.int .i64 s.kind) ∧ w'.cell? ⟨w.heap.size, 5, none⟩ = some (.string s.user) ∧ w'.cell? ⟨w.heap.size, 6, none⟩ = some (.string s.label) ∧ w'.cell? ⟨w.heap.size, 7, none⟩ = some (.int .u64 (s.scopes : Int)) ∧ w'.cell? ⟨w.heap.size, 8, none⟩ = some (.int .i64 s.level) ∧ w'.cell? ⟨w.heap.size, 10, none⟩ = some (.int .i64 s.dl)))
  obtain ⟨x1, x4, x5, x6, x7, x8, x10⟩ := HX.out W (Below.refl _ _)
  have HB0 := Lib.hid hb0
  have HW := Lib.hid hW
  have HIN := Lib.hid hin
  have HN1 := Lib.hid (fun (w' : World) => (name_any s.user (by have := HIN.out.hz1; omega) w').mono fun e w2 h2 => (by rw [hu] at h2; exact h2 : e = .returned (.bool true) ∧ Below w'.heap.size w' w2))
  have HN2 := Lib.hid (fun (w' : World) => (name_any s.label (by have := HIN.out.hz2; omega) w').mono fun e w2 h2 => (by rw [hl] at h2; exact h2 : e = .returned (.bool true) ∧ Below w'.heap.size w' w2))
  have l1 : s.label.toList.isEmpty = false := by rw [Lib.toList_data]; cases h : s.label.data.toList with | nil => exact absurd h hne | cons a r => rfl
  obtain ⟨K, hK⟩ : ∃ K : ByteArray, K = ⟨(kindL s.kind).toArray⟩ := ⟨_, rfl⟩
  have HWD := Lib.hid (fun w' => vword_any s.kind w')
  rw [← hK] at HWD
  have hKe : K.toList.isEmpty = false := by
    rw [Lib.toList_data, hK]
    have := kind_yes hk0 hk1
    show (kindL s.kind).isEmpty = false
    cases h : kindL s.kind with
    | nil => exact absurd h this
    | cons a r => rfl
  have HK := Lib.hid hK
  clear hK
  obtain ⟨L, hL⟩ : ∃ L : ByteArray, L = ⟨(levL s.level).toArray⟩ := ⟨_, rfl⟩
  have HLV := Lib.hid (fun w' => level_yes s.level hl0 hl1 w')
  rw [← hL] at HLV
  have HL := Lib.hid hL
  clear hL
  obtain ⟨P, hP⟩ : ∃ P : ByteArray, P = ⟨(jn ls s.scopes ls.length).toArray⟩ := ⟨_, rfl⟩
  have HPR := Lib.hid (fun (w' : World) (hb : Below W.heap.size W w') => (print_any lo B ls HIN.out.hbk s.scopes HIN.out.hsc w' (HIN.out.henv w' (HB0.out.trans (hb.mono HB0.out.size))).book).mono fun e w2 h2 => (⟨by have h3 := h2.1; unfold PrintPost at h3; rw [scopes_ok hs] at h3; rw [hP]; exact h3, h2.2⟩ : e = .returned (.tuple #[.string P, .nilIface]) ∧ Below w'.heap.size w' w2))
  have HPL : Hid (P.size ≤ 8512) := by
    show _ ≤ _
    have h1 := vjn_len HIN.out.hbk s.scopes ls.length (Nat.le_refl _)
    have h2 := HIN.out.hbk.len
    have h3 : P.size = (jn ls s.scopes ls.length).length := by rw [hP]; simp [ByteArray.size]
    omega
  have HP := Lib.hid hP
  clear hP
  have hnb : ¬ (nameB s.user.data.toList = false ∨ (s.label.data.toList ≠ [] ∧ nameB s.label.data.toList = false)) := by
    rintro (h | ⟨h1, h2⟩)
    · rw [hu] at h; cases h
    · rw [hl] at h2; cases h2
  have HRU := Lib.hid (line_f (ls := ls) (s := s) (now := now) (show ¬ (s.birth < 1 ∨ 1048576 < s.birth) by omega) hnb (show ¬ (s.kind < 0 ∨ 2 < s.kind) by omega) (show ¬ (s.level < 0 ∨ 2 < s.level) by omega) hs (.inr (.inr (.inr h))))
  clear hbx hb0 hin wn
  clear hu hk0 hk1 hl0 hl1 hs hnb hl hne
  go_enter Tryz.func7, Tryz.ntmps7
  go_wp2_with fail
  rw [← hW]
  clear hW
  refine (HN1.out _).mono ?_
  rintro e w1 ⟨rfl, hbc⟩
  have HC1 : Hid (Below W.heap.size W w1) := hbc
  clear hbc x1 x4 x5 x6 x7 x8 x10
  obtain ⟨x1, x4, x5, x6, x7, x8, x10⟩ := HX.out w1 HC1.out
  go_wp2_with fail
  refine (HN2.out _).mono ?_
  rintro e w2 ⟨rfl, hbc⟩
  have HC2 : Hid (Below W.heap.size W w2) := HC1.out.trans (hbc.mono HC1.out.size)
  clear hbc x1 x4 x5 x6 x7 x8 x10
  obtain ⟨x1, x4, x5, x6, x7, x8, x10⟩ := HX.out w2 HC2.out
  go_wp2_with fail
  refine (HWD.out _).mono ?_
  rintro e w0 ⟨rfl, rfl⟩
  go_wp2_with fail
  refine (HLV.out _).mono ?_
  rintro e w3 ⟨rfl, hbc⟩
  have HC3 : Hid (Below W.heap.size W w3) := HC2.out.trans (hbc.mono HC2.out.size)
  clear hbc x1 x4 x5 x6 x7 x8 x10
  obtain ⟨x1, x4, x5, x6, x7, x8, x10⟩ := HX.out w3 HC3.out
  go_wp2_with fail
  refine (HPR.out _ HC3.out).mono ?_
  rintro e w4 ⟨rfl, hbc⟩
  have HC4 : Hid (Below W.heap.size W w4) := HC3.out.trans (hbc.mono HC3.out.size)
  clear hbc x1 x4 x5 x6 x7 x8 x10
  obtain ⟨x1, x4, x5, x6, x7, x8, x10⟩ := HX.out w4 HC4.out
  have HFIN : Hid (LinePost ls s now (.returned (.tuple #[.string ⟨#[]⟩, .iface 55 (.int .i64 12)])) ∧ Below w.heap.size w w4) := ⟨LinePost.mk (no := 12) (HRU.out) rfl rfl, HB0.out.trans (HC4.out.mono HB0.out.size)⟩
  go_wp2
  go_ret2
  exact HFIN.out

end Vw
end Go.Proofs.YtocoonkachbjaaaGreatDoor
