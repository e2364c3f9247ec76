/- The law ViewLines. -/
import Derived.Test.YtocoonkachbjaaaGreatDoorVwBoth
import Derived.Test.YtocoonkachbjaaaGreatDoorClkLaid
import Derived.Test.YtocoonkachbjaaaGreatDoorLeavesUp
namespace Go.Proofs.YtocoonkachbjaaaGreatDoor
open Go.RowKit Go.Maps Go.ChangeMaps Go.Proofs.NmPlain Go.Proofs.Ar Go.Proofs.YtocoonkachbjaaaGreatDoor.Sc
set_option linter.unusedVariables false
namespace Vw
theorem vparts_below {w w' : World} (h : PartsAt w) (hb : Below w.heap.size w w') : PartsAt w' := by
  have hl := h.lt
  obtain ⟨t, fr, h⟩ := h
  exact ⟨t, fr, by rw [hb.block _ hl]; exact h⟩
theorem vnew_cases (ls : List ByteArray) : (newL ls = (0, -1)) ∨ (1 ≤ (newL ls).1 ∧ (newL ls).1 ≤ 24) := by
  unfold newL
  split
  · right; exact ⟨by show (1 : Int) ≤ 5; omega, by show (5 : Int) ≤ 24; omega⟩
  · rcases newAt_range _ 0 ls rfl with h | ⟨h | h, _⟩
    · exact .inl h
    · right; rw [h]; omega
    · right; rw [h]; omega
theorem errV_iface {no at_ : Int} (h : 1 ≤ no) : ∃ ty y, errV no at_ = .iface ty y := by
  unfold errV
  rw [if_neg (by omega)]
  split
  · exact ⟨_, _, by unfold errVal; rw [if_neg (by omega)]⟩
  · exact ⟨_, _, rfl⟩
theorem lineL_range (ls : List ByteArray) (s : Sess) (now : Int) : 0 ≤ (lineL ls s now).2 ∧ (lineL ls s now).2 ≤ 24 := by
  unfold lineL
  (repeat' split) <;> simp

set_option maxHeartbeats 4000000 in
theorem viewLines_core (x : Value) (ls : List ByteArray) (hl : ls.length ≤ maxLen) (hz : ∀ s ∈ ls, s.size ≤ 1048576) (now : Int) (wn : (Lit.int .i64 now).wf = true) (s : Sess) (hsc : s.scopes < 18446744073709551616) (hz1 : s.user.size ≤ 1048576) (hz2 : s.label.size ≤ 1048576) (wd : (Lit.int .i64 s.dl).wf = true)
    (w : World) (hg : erHandle w) (hm : MaxAt w) (hp : PartsAt w) (htab : Lib.TabIs Tryz.prog w "internal/strconv.uint64pow10" .u64 Lib.pow10Tab) (ht : TextArg w x ls) :
    Calls Tryz.prog 3 #[.agg #[x, .int .i64 now], .agg #[.int .i64 s.slot, .int .i64 s.birth, .int .i64 s.us, .int .i64 s.ub, .int .i64 s.kind, .string s.user, .string s.label, .int .u64 (s.scopes : Int), .int .i64 s.level, .int .i64 s.born, .int .i64 s.dl, .int .i64 s.depth]] w fun e w' => e = .returned (.bool true) ∧ Below w.heap.size w w' := by
  have hlI : (ls.length : Int) ≤ 9223372036854775807 := by unfold maxLen at hl; omega
  have hzz : ∀ s ∈ ls, s.size ≤ 16777216 := fun s h => Nat.le_trans (hz s h) (by omega)
  obtain ⟨W1, hW1⟩ : ∃ W1, W1 = w.alloc (.cells #[x, .int .i64 now] 24) := ⟨_, rfl⟩
  obtain ⟨W, hW⟩ : ∃ W, W = W1.alloc (.cells #[.int .i64 s.slot, .int .i64 s.birth, .int .i64 s.us, .int .i64 s.ub, .int .i64 s.kind, .string s.user, .string s.label, .int .u64 (s.scopes : Int), .int .i64 s.level, .int .i64 s.born, .int .i64 s.dl, .int .i64 s.depth] 30) := ⟨_, rfl⟩
  have hs1 : W1.heap.size = w.heap.size + 1 := by rw [hW1]; simp
  have hb1 : Below w.heap.size w W1 := by rw [hW1]; exact (Below.refl _ _).alloc (Nat.le_refl _) _
  have hb2 : Below W1.heap.size W1 W := by rw [hW]; exact (Below.refl _ _).alloc (Nat.le_refl _) _
  have hbr : W1.heap[w.heap.size]? = some (.cells #[x, .int .i64 now] 24 (0, 0)) := by rw [hW1]; exact Ut.alloc_at _ _
  have hbr2 : W.heap[w.heap.size]? = some (.cells #[x, .int .i64 now] 24 (0, 0)) := (hb2.block _ (Array.getElem?_eq_some_iff.1 hbr).1).trans hbr
  have hbs : W.heap[w.heap.size + 1]? = some (.cells #[.int .i64 s.slot, .int .i64 s.birth, .int .i64 s.us, .int .i64 s.ub, .int .i64 s.kind, .string s.user, .string s.label, .int .u64 (s.scopes : Int), .int .i64 s.level, .int .i64 s.born, .int .i64 s.dl, .int .i64 s.depth] 30 (0, 0)) := by rw [← hs1, hW]; exact Ut.alloc_at _ _
  have hb0 : Below w.heap.size w W := hb1.trans (hb2.mono hb1.size)
  have HX := Lib.hid (fun (w' : World) (hb : Below W.heap.size W w') => (by
    have h1 := (hb.block w.heap.size (Array.getElem?_eq_some_iff.1 hbr2).1).trans hbr2
    have h2 : ∀ j, w'.cell? ⟨w.heap.size, j, none⟩ = (#[x, .int .i64 now] : Array Value)[j]? := fun j => cell_of_row _ _ _ _ _ _ h1
    exact ⟨h2 0, h2 1, (hb.block (w.heap.size + 1) (Array.getElem?_eq_some_iff.1 hbs).1).trans hbs⟩ : w'.cell? ⟨w.heap.size, 0, none⟩ = some x ∧ w'.cell? ⟨w.heap.size, 1, none⟩ = some (.int .i64 now) ∧ w'.heap[w.heap.size + 1]? = some (.cells #[.int .i64 s.slot, .int .i64 s.birth, .int .i64 s.us, .int .i64 s.ub, .int .i64 s.kind, .string s.user, .string s.label, .int .u64 (s.scopes : Int), .int .i64 s.level, .int .i64 s.born, .int .i64 s.dl, .int .i64 s.depth] 30 (0, 0))))
  obtain ⟨no, hno⟩ : ∃ no : Int, no = (lineL ls s now).2 := ⟨_, rfl⟩
  obtain ⟨T, hT⟩ : ∃ T : ByteArray, T = ⟨(lineL ls s now).1.toArray⟩ := ⟨_, rfl⟩
  obtain ⟨V, hV⟩ : ∃ V, V = errVal no := ⟨_, rfl⟩
  have hrg := lineL_range ls s now
  rw [← hno] at hrg
  have HN := Lib.hid (new_any x ls hlI (fun _ => hzz) W (hm.below hb0) (ht.below hb0))
  have HLN := Lib.hid (fun (B : Nat) (w' : World) (hbk : IsBook ls) (hB : BookAt W.heap.size w' B ls) (hb : Below w.heap.size w w') => (line_any W.heap.size B ls s now wn w' ⟨hbk, hsc, hz1, hz2, fun w2 h2 => ⟨hB.below h2, vparts_below hp (hb.trans (h2.mono hb.size)), tab_below gPow htab (tab_lt gPow htab) (hb.trans (h2.mono hb.size))⟩, wd⟩).mono fun e w2 h2 => (⟨by have h3 := h2.1; unfold LinePost at h3; rw [← hT, ← hno, ← hV] at h3; exact h3, h2.2⟩ : e = .returned (.tuple #[.string T, V]) ∧ Below w'.heap.size w' w2))
  have HRL := Lib.hid (fun (w' : World) (hbk : IsBook ls) (hb : Below w.heap.size w w') => (rline_any x ls s now wn w' ⟨hbk, hsc, hz1, hz2, ht.below hb, wd⟩).mono fun e w2 h2 => (⟨by have h3 := h2.1; unfold RLinePost at h3; rw [← hT, ← hno] at h3; exact h3, h2.2⟩ : e = .returned (.tuple #[.string T, .int .i64 no]) ∧ Below w'.heap.size w' w2))
  have hqq : (no == no) = true := by simp
  have HT := Lib.hid (fun (w' : World) (hb : Below w.heap.size w w') => by
    have h := plain_any no no hrg.1 hrg.2 w' (hg.below hg.lt hb)
    rw [hqq, ← hV] at h
    exact h)
  have hq : (T.toList == T.toList) = true := by simp
  obtain ⟨x0, x1, hsx⟩ := HX.out W (Below.refl _ _)
  have HB0 := Lib.hid hb0
  have HNC := Lib.hid (vnew_cases ls)
  obtain ⟨q, c, rfl, -⟩ := id ht
  clear hno hT hV hrg hqq hbr hbr2 hbs hb1 hb2 hb0 hz hzz hl hlI ht hm hg hp htab hsc hz1 hz2 wd wn hs1
  go_enter Tryz.func3, Tryz.ntmps3
  go_wp2_with fail
  rw [← hW1, ← hW]
  clear hW hW1
  refine HN.out.mono ?_
  rintro e w1 ⟨hpo, hbc⟩
  have HC1 := Lib.hid hbc
  clear x0 x1 hsx hbc
  obtain ⟨x0, x1, hsx⟩ := HX.out w1 HC1.out
  rcases hpo with ⟨hn, B, rfl, hB⟩ | ⟨hn, rfl⟩
  · have HBK := Lib.hid (book_of hn)
    have HB := Lib.hid hB
    clear hn hB
    go_wp2_with (refine wpList_load_row rfl 30 _ rfl _ rfl 30 _ (0, 0) _ hsx Tryz.underlying30 rfl (by kernel_rfl) ?_)
    refine (HLN.out B w1 HBK.out HB.out (HB0.out.trans (HC1.out.mono HB0.out.size))).mono ?_
    rintro e w2 ⟨rfl, hbc⟩
    have HC2 : Hid (Below W.heap.size W w2) := HC1.out.trans (hbc.mono HC1.out.size)
    clear x0 x1 hsx hbc
    obtain ⟨x0, x1, hsx⟩ := HX.out w2 HC2.out
    go_wp2_with (refine wpList_load_row rfl 30 _ rfl _ rfl 30 _ (0, 0) _ hsx Tryz.underlying30 rfl (by kernel_rfl) ?_)
    refine (HRL.out w2 HBK.out (HB0.out.trans (HC2.out.mono HB0.out.size))).mono ?_
    rintro e w3 ⟨rfl, hbc⟩
    have HC3 : Hid (Below W.heap.size W w3) := HC2.out.trans (hbc.mono HC2.out.size)
    clear x0 x1 hsx hbc
    go_wp2_with fail
    refine (HT.out w3 (HB0.out.trans (HC3.out.mono HB0.out.size))).mono ?_
    rintro e w4 ⟨rfl, hbc⟩
    have HC4 : Hid (Below W.heap.size W w4) := HC3.out.trans (hbc.mono HC3.out.size)
    clear hbc
    go_wp2
    go_ret
    exact ⟨rfl, HB0.out.trans (HC4.out.mono HB0.out.size)⟩
  · have h1 : 1 ≤ (newL ls).1 := by
      rcases HNC.out with h | h
      · exact absurd h hn
      · exact h.1
    obtain ⟨ty, y, hy⟩ := errV_iface (at_ := (newL ls).2) h1
    rw [hy]
    clear hn h1 hy
    go_wp2
    go_ret
    exact ⟨rfl, HB0.out.trans (HC1.out.mono HB0.out.size)⟩
end Vw

theorem vu64_nat {n : Int} (wf : (Lit.int .u64 n).wf = true) : ∃ s : Nat, n = (s : Int) ∧ s < 18446744073709551616 := by
  simp [Lit.wf, IntKind.min, IntKind.max, IntKind.signed, IntKind.bits] at wf
  refine ⟨n.toNat, by omega, by omega⟩

theorem sess_of {H : Type} {enc : TypeId × Value → H} {w : World} {B : Nat} (c : Array Value) (hc : c.size = ([3, 3, 3, 3, 3, 9, 9, 28, 3, 3, 3, 3] : List TypeId).length)
    (h : ∀ (i : Nat) (tl : TypeId) (u : Value), ([3, 3, 3, 3, 3, 9, 9, 28, 3, 3, 3, 3] : List TypeId)[i]? = some tl → c[i]? = some u → LeafUp enc Tryz.prog w 0 (fun _ => true) true B tl u) :
    ∃ s : Vw.Sess, c = #[.int .i64 s.slot, .int .i64 s.birth, .int .i64 s.us, .int .i64 s.ub, .int .i64 s.kind, .string s.user, .string s.label, .int .u64 (s.scopes : Int), .int .i64 s.level, .int .i64 s.born, .int .i64 s.dl, .int .i64 s.depth] ∧ s.scopes < 18446744073709551616 ∧ s.user.size ≤ B ∧ s.label.size ≤ B ∧ (Lit.int .i64 s.dl).wf = true := by
  obtain ⟨l⟩ := c
  match l, hc with
  | [c0, c1, c2, c3, c4, c5, c6, c7, c8, c9, c10, c11], _ =>
    obtain ⟨n0, rfl, -⟩ := LeafIs.int Tryz.underlying3 (h 0 _ c0 rfl rfl).leaf
    obtain ⟨n1, rfl, -⟩ := LeafIs.int Tryz.underlying3 (h 1 _ c1 rfl rfl).leaf
    obtain ⟨n2, rfl, -⟩ := LeafIs.int Tryz.underlying3 (h 2 _ c2 rfl rfl).leaf
    obtain ⟨n3, rfl, -⟩ := LeafIs.int Tryz.underlying3 (h 3 _ c3 rfl rfl).leaf
    obtain ⟨n4, rfl, -⟩ := LeafIs.int Tryz.underlying3 (h 4 _ c4 rfl rfl).leaf
    obtain ⟨s5, rfl, z5⟩ := LeafUp.string Tryz.underlying9 (h 5 _ c5 rfl rfl)
    obtain ⟨s6, rfl, z6⟩ := LeafUp.string Tryz.underlying9 (h 6 _ c6 rfl rfl)
    obtain ⟨n7, rfl, w7⟩ := LeafIs.int Tryz.underlying28 (h 7 _ c7 rfl rfl).leaf
    obtain ⟨n8, rfl, -⟩ := LeafIs.int Tryz.underlying3 (h 8 _ c8 rfl rfl).leaf
    obtain ⟨n9, rfl, -⟩ := LeafIs.int Tryz.underlying3 (h 9 _ c9 rfl rfl).leaf
    obtain ⟨n10, rfl, w10⟩ := LeafIs.int Tryz.underlying3 (h 10 _ c10 rfl rfl).leaf
    obtain ⟨n11, rfl, -⟩ := LeafIs.int Tryz.underlying3 (h 11 _ c11 rfl rfl).leaf
    obtain ⟨k7, rfl, hk7⟩ := vu64_nat w7
    exact ⟨⟨n0, n1, n2, n3, n4, s5, s6, k7, n8, n9, n10, n11⟩, rfl, hk7, z5, z6, w10⟩

theorem viewLines_walk {H : Type} {enc : TypeId × Value → H} {B : Nat} (x : Value) (ls : List ByteArray) (hl : ls.length ≤ maxLen) (hz : ∀ s ∈ ls, s.size ≤ maxLen) (now : Int) (wn : (Lit.int .i64 now).wf = true)
    (c : Array Value) (hc : c.size = ([3, 3, 3, 3, 3, 9, 9, 28, 3, 3, 3, 3] : List TypeId).length) (w : World)
    (hL : laidMetH Tryz.prog Rows.viewLinesUptoRow.laid w) (hsh : w.ShapedOpen Tryz.prog) (ht : TextArg w x ls) (hy : ∀ s ∈ ls, s.size ≤ 1048576)
    (hu : ∀ (i : Nat) (tl : TypeId) (u : Value), ([3, 3, 3, 3, 3, 9, 9, 28, 3, 3, 3, 3] : List TypeId)[i]? = some tl → c[i]? = some u → LeafUp enc Tryz.prog w 0 (fun _ => true) true B tl u) (hB : B ≤ 1048576) :
    Calls Tryz.prog 3 #[.agg #[x, .int .i64 now], .agg c] w fun e w' => e = .returned (.bool true) ∧ Below w.heap.size w w' := by
  obtain ⟨s, rfl, h1, h2, h3, h4⟩ := sess_of c hc hu
  exact Vw.viewLines_core x ls hl hy now wn s h1 (by omega) (by omega) h4 w (handle_of_laid hL (by kernel_rfl)) (max_of_shape w hsh) (parts_of_laid hL (by kernel_rfl)) (pow_of_laid hL (by kernel_rfl)) ht

end Go.Proofs.YtocoonkachbjaaaGreatDoor
