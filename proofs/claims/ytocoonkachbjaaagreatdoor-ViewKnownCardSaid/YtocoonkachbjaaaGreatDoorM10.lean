/- Several texts in one: what each proves its own first comment says. -/
import Derived.Test.YtocoonkachbjaaaGreatDoorM9
import Derived.Laws.Concat
import Derived.Test.YtocoonkachbjaaaGreatDoorM8
import Derived.Test.YtocoonkachbjaaaGreatDoorM1
import Derived.Test.YtocoonkachbjaaaGreatDoorRows
import Derived.ProofKit
import Derived.LaidLaws
import Derived.LaidHandle
import Derived.LaidSub
import Derived.Stop.Joined
import Derived.WalkKit
import Derived.OpenShut
import Derived.Lib.LaidU8
import Derived.Lib.LaidTab
import Derived.Test.YtocoonkachbjaaaGreatDoorM3
import Derived.RowKit

/- The document's Line: the line itself (printed by wip/mkrline.py). -/
namespace Go.Proofs.YtocoonkachbjaaaGreatDoor
open Go.RowKit Go.Proofs.NmPlain Go.Proofs.Ar Go.Proofs.YtocoonkachbjaaaGreatDoor.Sc
set_option linter.unusedVariables false
namespace Vw
theorem vadd {a b c : ByteArray} (x y : Nat) (hx : a.size ≤ x) (hy : b.size ≤ y) (h : x + y ≤ 8388608) (hc : c = a ++ b) : (∀ W : World, (Op.stringOp .add a b).run Tryz.prog W = .ok (.string c) W) ∧ c.size ≤ x + y ∧ c.data.toList = a.data.toList ++ b.data.toList :=
  ⟨vcat (by omega) hc, by rw [hc, ByteArray.size_append]; omega, cat_list hc⟩
theorem rline_text (d u k l p q : Bs) : ((((((((d ++ [32]) ++ u) ++ [32]) ++ k) ++ [32]) ++ l) ++ [32, 91]) ++ p ++ [93, 32]) ++ q = Lib.join [d, u, k, l, 91 :: p ++ [93], q] [32] := by
  simp [Lib.join_cons, Lib.joinTail]

set_option maxHeartbeats 4000000 in
theorem rline_gn (v : Value) (ls : List ByteArray) (s : Sess) (now : Int) (wn : (Lit.int .i64 now).wf = true) (w : World) (hin : RLineIn v ls s w) (ha0 : 1 ≤ s.birth) (ha1 : s.birth ≤ 1048576) (hu : nameB s.user.data.toList = true) (he : s.label.data.toList = []) (hk0 : 0 ≤ s.kind) (hk1 : s.kind ≤ 2) (hl0 : 0 ≤ s.level) (hl1 : s.level ≤ 2) (hs : ¬ 2 ^ ls.length ≤ s.scopes) (g0 : 0 ≤ now) (g1 : now ≤ 1099511627776) (g2 : 0 ≤ s.dl) (g3 : s.dl ≤ 1099511627776) :
    Calls Tryz.prog 8 #[v, .agg #[.int .i64 s.slot, .int .i64 s.birth, .int .i64 s.us, .int .i64 s.ub, .int .i64 s.kind, .string s.user, .string s.label, .int .u64 (s.scopes : Int), .int .i64 s.level, .int .i64 s.born, .int .i64 s.dl, .int .i64 s.depth], .int .i64 now] w fun e w' => RLinePost ls s now e ∧ Below w.heap.size w w' := by
  obtain ⟨W, hW⟩ : ∃ W, W = w.alloc (.cells #[.int .i64 s.slot, .int .i64 s.birth, .int .i64 s.us, .int .i64 s.ub, .int .i64 s.kind, .string s.user, .string s.label, .int .u64 (s.scopes : Int), .int .i64 s.level, .int .i64 s.born, .int .i64 s.dl, .int .i64 s.depth] 30) := ⟨_, rfl⟩
  have hb0 : Below w.heap.size w W := by rw [hW]; exact (Below.refl _ _).alloc (Nat.le_refl _) _
  have hbx : W.heap[w.heap.size]? = some (.cells #[.int .i64 s.slot, .int .i64 s.birth, .int .i64 s.us, .int .i64 s.ub, .int .i64 s.kind, .string s.user, .string s.label, .int .u64 (s.scopes : Int), .int .i64 s.level, .int .i64 s.born, .int .i64 s.dl, .int .i64 s.depth] 30 (0, 0)) := by rw [hW]; exact Ut.alloc_at _ _
  have HX := Lib.hid (fun (w' : World) (hb : Below W.heap.size W w') => (by
    have h1 := (hb.block w.heap.size (Array.getElem?_eq_some_iff.1 hbx).1).trans hbx
    have h2 : ∀ j, w'.cell? ⟨w.heap.size, j, none⟩ = (#[.int .i64 s.slot, .int .i64 s.birth, .int .i64 s.us, .int .i64 s.ub, .int .i64 s.kind, .string s.user, .string s.label, .int .u64 (s.scopes : Int), .int .i64 s.level, .int .i64 s.born, .int .i64 s.dl, .int .i64 s.depth] : Array Value)[j]? := fun j => cell_of_row _ _ _ _ _ _ h1
    exact ⟨h2 1, h2 4, h2 5, h2 6, h2 7, h2 8, h2 10⟩ : w'.cell? ⟨w.heap.size, 1, none⟩ = some (.int .i64 s.birth) ∧ w'.cell? ⟨w.heap.size, 4, none⟩ = some (.int .i64 s.kind) ∧ w'.cell? ⟨w.heap.size, 5, none⟩ = some (.string s.user) ∧ w'.cell? ⟨w.heap.size, 6, none⟩ = some (.string s.label) ∧ w'.cell? ⟨w.heap.size, 7, none⟩ = some (.int .u64 (s.scopes : Int)) ∧ w'.cell? ⟨w.heap.size, 8, none⟩ = some (.int .i64 s.level) ∧ w'.cell? ⟨w.heap.size, 10, none⟩ = some (.int .i64 s.dl)))
  obtain ⟨x1, x4, x5, x6, x7, x8, x10⟩ := HX.out W (Below.refl _ _)
  have HB0 := Lib.hid hb0
  have HW := Lib.hid hW
  have HIN := Lib.hid hin
  have HN1 := Lib.hid (fun (w' : World) => (refname_any s.user (by have := HIN.out.hz1; omega) w').mono fun e w2 h2 => (by rw [hu] at h2; exact h2 : e = .returned (.bool true) ∧ Below w'.heap.size w' w2))
  have l1 : s.label.toList = [] := by rw [Lib.toList_data]; exact he
  obtain ⟨K, hK⟩ : ∃ K : ByteArray, K = ⟨(kindL s.kind).toArray⟩ := ⟨_, rfl⟩
  have HWD := Lib.hid (fun w' => rkind_any s.kind w')
  rw [← hK] at HWD
  have hKe : K.toList.isEmpty = false := by
    rw [Lib.toList_data, hK]
    have := kind_yes hk0 hk1
    show (kindL s.kind).isEmpty = false
    cases h : kindL s.kind with
    | nil => exact absurd h this
    | cons a r => rfl
  have HK := Lib.hid hK
  clear hK
  obtain ⟨L, hL⟩ : ∃ L : ByteArray, L = ⟨(levL s.level).toArray⟩ := ⟨_, rfl⟩
  have HLV := Lib.hid (fun w' => rlevel_any s.level w')
  rw [lev_yes_if hl0 hl1, ← hL] at HLV
  have HL := Lib.hid hL
  clear hL
  obtain ⟨P, hP⟩ : ∃ P : ByteArray, P = ⟨(jn ls s.scopes ls.length).toArray⟩ := ⟨_, rfl⟩
  have HPR := Lib.hid (fun (w' : World) (hb : Below W.heap.size W w') => (refprint_any v ls HIN.out.hbk s.scopes HIN.out.hsc w' (HIN.out.arg.below (HB0.out.trans (hb.mono HB0.out.size)))).mono fun e w2 h2 => (⟨by have h3 := h2.1; rw [scopes_ok hs] at h3; rw [hP]; exact h3, h2.2⟩ : e = .returned (.tuple #[.string P, .int .i64 0]) ∧ w' = w2))
  have HPL : Hid (P.size ≤ 8512) := by
    show _ ≤ _
    have h1 := vjn_len HIN.out.hbk s.scopes ls.length (Nat.le_refl _)
    have h2 := HIN.out.hbk.len
    have h3 : P.size = (jn ls s.scopes ls.length).length := by rw [hP]; simp [ByteArray.size]
    omega
  have HP := Lib.hid hP
  clear hP
  obtain ⟨t, ht⟩ : ∃ t, t = lft now s.dl := ⟨_, rfl⟩
  have HLE := Lib.hid (fun w' => refleft_any now s.dl wn hin.wd w')
  rw [← ht] at HLE
  have hlb := lft_bd (now := now) (d := s.dl) g0 g3
  rw [← ht] at hlb
  obtain ⟨Q, hQ⟩ : ∃ Q : ByteArray, Q = ⟨(prt t).toArray⟩ := ⟨_, rfl⟩
  have HCP := Lib.hid (fun (w' : World) => rcprint_any t (tm_of hlb.1 hlb.2) w')
  rw [← hQ] at HCP
  have hQs : Q.size ≤ 88 := by rw [← size_list, hQ, mk_list]; exact vprt_len t hlb.1 hlb.2
  have hQl : Q.data.toList = prt (lft now s.dl) := by rw [hQ, mk_list, ht]
  clear ht hQ hlb
  obtain ⟨D, hD⟩ : ∃ D : ByteArray, D = ⟨(Lib.itoa s.birth).toArray⟩ := ⟨_, rfl⟩
  have HIT := Lib.hid (fun (w' : World) => vdigits_any s.birth.toNat (by omega) (by omega) w')
  have hDe : D = ⟨(Lib.decDigits s.birth.toNat).toArray⟩ := by rw [hD]; unfold Lib.itoa; rw [if_neg (by omega)]
  rw [← hDe, Int.toNat_of_nonneg (by omega)] at HIT
  have hDs : D.size ≤ 21 := by rw [← size_list, hD, mk_list]; exact Lib.itoa_length_le s.birth (by omega) (by omega)
  have hDl : D.data.toList = Lib.itoa s.birth := by rw [hD, mk_list]
  clear hD hDe
  have hKs : K.size ≤ 9 := by rw [← size_list, HK.out, mk_list]; exact kind_len _
  have hLs : L.size ≤ 4 := by rw [← size_list, HL.out, mk_list]; exact lev_len _
  have hUl : s.user.data.toList = whoL s := by unfold whoL; rw [if_pos he, List.append_nil]
  have hUs : s.user.size ≤ 2097153 := by have := vsz hu; omega
  obtain ⟨M0, hm0⟩ : ∃ X : ByteArray, X = D ++ ⟨#[32]⟩ := ⟨_, rfl⟩
  obtain ⟨c0, d0, f0⟩ := vadd 21 1 hDs (by show 1 ≤ 1; omega) (by omega) hm0
  clear hm0
  obtain ⟨M1, hm1⟩ : ∃ X : ByteArray, X = M0 ++ s.user := ⟨_, rfl⟩
  obtain ⟨c1, d1, f1⟩ := vadd 22 2097153 d0 hUs (by omega) hm1
  clear hm1
  obtain ⟨M2, hm2⟩ : ∃ X : ByteArray, X = M1 ++ ⟨#[32]⟩ := ⟨_, rfl⟩
  obtain ⟨c2, d2, f2⟩ := vadd 2097175 1 d1 (by show 1 ≤ 1; omega) (by omega) hm2
  clear hm2
  obtain ⟨M3, hm3⟩ : ∃ X : ByteArray, X = M2 ++ K := ⟨_, rfl⟩
  obtain ⟨c3, d3, f3⟩ := vadd 2097176 9 d2 hKs (by omega) hm3
  clear hm3
  obtain ⟨M4, hm4⟩ : ∃ X : ByteArray, X = M3 ++ ⟨#[32]⟩ := ⟨_, rfl⟩
  obtain ⟨c4, d4, f4⟩ := vadd 2097185 1 d3 (by show 1 ≤ 1; omega) (by omega) hm4
  clear hm4
  obtain ⟨M5, hm5⟩ : ∃ X : ByteArray, X = M4 ++ L := ⟨_, rfl⟩
  obtain ⟨c5, d5, f5⟩ := vadd 2097186 4 d4 hLs (by omega) hm5
  clear hm5
  obtain ⟨M6, hm6⟩ : ∃ X : ByteArray, X = M5 ++ ⟨#[32, 91]⟩ := ⟨_, rfl⟩
  obtain ⟨c6, d6, f6⟩ := vadd 2097190 2 d5 (by show 2 ≤ 2; omega) (by omega) hm6
  clear hm6
  obtain ⟨M7, hm7⟩ : ∃ X : ByteArray, X = M6 ++ P := ⟨_, rfl⟩
  obtain ⟨c7, d7, f7⟩ := vadd 2097192 8512 d6 HPL.out (by omega) hm7
  clear hm7
  obtain ⟨M8, hm8⟩ : ∃ X : ByteArray, X = M7 ++ ⟨#[93, 32]⟩ := ⟨_, rfl⟩
  obtain ⟨c8, d8, f8⟩ := vadd 2105704 2 d7 (by show 2 ≤ 2; omega) (by omega) hm8
  clear hm8
  obtain ⟨J, hm9⟩ : ∃ X : ByteArray, X = M8 ++ Q := ⟨_, rfl⟩
  obtain ⟨c9, d9, f9⟩ := vadd 2105706 88 d8 hQs (by omega) hm9
  clear hm9
  have HJT : Hid (J.data.toList = textL ls s now) := by
    show _ = _
    rw [f9, f8, f7, f6, f5, f4, f3, f2, f1, f0, hDl, hUl, HK.out, HL.out, HP.out, hQl, mk_list, mk_list, mk_list]
    unfold textL
    rw [scopes_ok hs]
    exact rline_text _ _ _ _ _ _
  clear d0 f0 d1 f1 d2 f2 d3 f3 d4 f4 d5 f5 d6 f6 d7 f7 d8 f8 d9 f9 hDs hDl hKs hLs hUl hUs hQs hQl
  have hnb : ¬ (nameB s.user.data.toList = false ∨ (s.label.data.toList ≠ [] ∧ nameB s.label.data.toList = false)) := by
    rintro (h | ⟨h1, h2⟩)
    · rw [hu] at h; cases h
    · exact h1 he
  have HRU := Lib.hid (line_g (ls := ls) (s := s) (now := now) (show ¬ (s.birth < 1 ∨ 1048576 < s.birth) by omega) hnb (show ¬ (s.kind < 0 ∨ 2 < s.kind) by omega) (show ¬ (s.level < 0 ∨ 2 < s.level) by omega) hs (show ¬ (now < 0 ∨ 1099511627776 < now ∨ s.dl < 0 ∨ 1099511627776 < s.dl) by omega))
  clear hbx hb0 hin wn
  clear hu hk0 hk1 hl0 hl1 hs hnb he
  go_enter Tryz.func8, Tryz.ntmps8
  go_wp2_with fail
  rw [← hW]
  clear hW
  refine (HN1.out _).mono ?_
  rintro e w1 ⟨rfl, hbc⟩
  have HC1 : Hid (Below W.heap.size W w1) := hbc
  clear hbc x1 x4 x5 x6 x7 x8 x10
  obtain ⟨x1, x4, x5, x6, x7, x8, x10⟩ := HX.out w1 HC1.out
  go_wp2_with fail
  refine (HWD.out _).mono ?_
  rintro e w0 ⟨rfl, rfl⟩
  go_wp2_with fail
  refine (HLV.out _).mono ?_
  rintro e w0 ⟨rfl, rfl⟩
  go_wp2_with fail
  refine (HPR.out _ HC1.out).mono ?_
  rintro e w0 ⟨rfl, rfl⟩
  go_wp2_with fail
  refine (HLE.out _).mono ?_
  rintro e w0 ⟨rfl, rfl⟩
  go_wp2_with fail
  refine (HCP.out _).mono ?_
  rintro e w2 ⟨rfl, hbc⟩
  have HC2 : Hid (Below W.heap.size W w2) := HC1.out.trans (hbc.mono HC1.out.size)
  clear hbc x1 x4 x5 x6 x7 x8 x10
  obtain ⟨x1, x4, x5, x6, x7, x8, x10⟩ := HX.out w2 HC2.out
  go_wp2_with fail
  have HH := Lib.hid (fun (w' : World) (hb : Below W.heap.size W w') => (by
    obtain ⟨y1, y4, y5, y6, y7, y8, y10⟩ := HX.out w' hb
    exact ⟨y1, y4⟩ : w'.cell? ⟨w.heap.size, 1, none⟩ = some (.int .i64 s.birth) ∧ w'.cell? ⟨w.heap.size, 4, none⟩ = some (.int .i64 s.kind)))
  have HD := Lib.hid (HC2.out.trans (Below.mono (Below.drew (Below.refl w2.heap.size w2)) HC2.out.size))
  go_region_held3 (fun w' => w'.cell? ⟨w.heap.size, 1, none⟩ = some (.int .i64 s.birth) ∧ w'.cell? ⟨w.heap.size, 4, none⟩ = some (.int .i64 s.kind)) (go_keep) (first
    | (go_at_call 36; refine (HIT.out _).mono ?_; rintro e v1 ⟨rfl, hbi⟩; (have HV1 := Lib.hid (HD.out.trans (hbi.mono HD.out.size))); obtain ⟨n1, n4⟩ := HH.out _ HV1.out; clear hbi)
    | (go_at_call 31; refine (HWD.out _).mono ?_; rintro e v2 ⟨rfl, rfl⟩))
  go_wp2
  go_ret2
  exact ⟨RLinePost.mk (no := 0) HRU.out HJT.out rfl, HB0.out.trans (HV1.out.mono HB0.out.size)⟩

set_option maxHeartbeats 4000000 in
theorem rline_gl (v : Value) (ls : List ByteArray) (s : Sess) (now : Int) (wn : (Lit.int .i64 now).wf = true) (w : World) (hin : RLineIn v ls s w) (ha0 : 1 ≤ s.birth) (ha1 : s.birth ≤ 1048576) (hu : nameB s.user.data.toList = true) (hne : s.label.data.toList ≠ []) (hl : nameB s.label.data.toList = true) (hk0 : 0 ≤ s.kind) (hk1 : s.kind ≤ 2) (hl0 : 0 ≤ s.level) (hl1 : s.level ≤ 2) (hs : ¬ 2 ^ ls.length ≤ s.scopes) (g0 : 0 ≤ now) (g1 : now ≤ 1099511627776) (g2 : 0 ≤ s.dl) (g3 : s.dl ≤ 1099511627776) :
    Calls Tryz.prog 8 #[v, .agg #[.int .i64 s.slot, .int .i64 s.birth, .int .i64 s.us, .int .i64 s.ub, .int .i64 s.kind, .string s.user, .string s.label, .int .u64 (s.scopes : Int), .int .i64 s.level, .int .i64 s.born, .int .i64 s.dl, .int .i64 s.depth], .int .i64 now] w fun e w' => RLinePost ls s now e ∧ Below w.heap.size w w' := by
  obtain ⟨W, hW⟩ : ∃ W, W = w.alloc (.cells #[.int .i64 s.slot, .int .i64 s.birth, .int .i64 s.us, .int .i64 s.ub, .int .i64 s.kind, .string s.user, .string s.label, .int .u64 (s.scopes : Int), .int .i64 s.level, .int .i64 s.born, .int .i64 s.dl, .int .i64 s.depth] 30) := ⟨_, rfl⟩
  have hb0 : Below w.heap.size w W := by rw [hW]; exact (Below.refl _ _).alloc (Nat.le_refl _) _
  have hbx : W.heap[w.heap.size]? = some (.cells #[.int .i64 s.slot, .int .i64 s.birth, .int .i64 s.us, .int .i64 s.ub, .int .i64 s.kind, .string s.user, .string s.label, .int .u64 (s.scopes : Int), .int .i64 s.level, .int .i64 s.born, .int .i64 s.dl, .int .i64 s.depth] 30 (0, 0)) := by rw [hW]; exact Ut.alloc_at _ _
  have HX := Lib.hid (fun (w' : World) (hb : Below W.heap.size W w') => (by
    have h1 := (hb.block w.heap.size (Array.getElem?_eq_some_iff.1 hbx).1).trans hbx
    have h2 : ∀ j, w'.cell? ⟨w.heap.size, j, none⟩ = (#[.int .i64 s.slot, .int .i64 s.birth, .int .i64 s.us, .int .i64 s.ub, .int .i64 s.kind, .string s.user, .string s.label, .int .u64 (s.scopes : Int), .int .i64 s.level, .int .i64 s.born, .int .i64 s.dl, .int .i64 s.depth] : Array Value)[j]? := fun j => cell_of_row _ _ _ _ _ _ h1
    exact ⟨h2 1, h2 4, h2 5, h2 6, h2 7, h2 8, h2 10⟩ : w'.cell? ⟨w.heap.size, 1, none⟩ = some (.int .i64 s.birth) ∧ w'.cell? ⟨w.heap.size, 4, none⟩ = some (.int .i64 s.kind) ∧ w'.cell? ⟨w.heap.size, 5, none⟩ = some (.string s.user) ∧ w'.cell? ⟨w.heap.size, 6, none⟩ = some (.string s.label) ∧ w'.cell? ⟨w.heap.size, 7, none⟩ = some (.int .u64 (s.scopes : Int)) ∧ w'.cell? ⟨w.heap.size, 8, none⟩ = some (.int .i64 s.level) ∧ w'.cell? ⟨w.heap.size, 10, none⟩ = some (.int .i64 s.dl)))
  obtain ⟨x1, x4, x5, x6, x7, x8, x10⟩ := HX.out W (Below.refl _ _)
  have HB0 := Lib.hid hb0
  have HW := Lib.hid hW
  have HIN := Lib.hid hin
  have HN1 := Lib.hid (fun (w' : World) => (refname_any s.user (by have := HIN.out.hz1; omega) w').mono fun e w2 h2 => (by rw [hu] at h2; exact h2 : e = .returned (.bool true) ∧ Below w'.heap.size w' w2))
  have HN2 := Lib.hid (fun (w' : World) => (refname_any s.label (by have := HIN.out.hz2; omega) w').mono fun e w2 h2 => (by rw [hl] at h2; exact h2 : e = .returned (.bool true) ∧ Below w'.heap.size w' w2))
  have l1 : s.label.toList.isEmpty = false := by rw [Lib.toList_data]; cases h : s.label.data.toList with | nil => exact absurd h hne | cons a r => rfl
  obtain ⟨K, hK⟩ : ∃ K : ByteArray, K = ⟨(kindL s.kind).toArray⟩ := ⟨_, rfl⟩
  have HWD := Lib.hid (fun w' => rkind_any s.kind w')
  rw [← hK] at HWD
  have hKe : K.toList.isEmpty = false := by
    rw [Lib.toList_data, hK]
    have := kind_yes hk0 hk1
    show (kindL s.kind).isEmpty = false
    cases h : kindL s.kind with
    | nil => exact absurd h this
    | cons a r => rfl
  have HK := Lib.hid hK
  clear hK
  obtain ⟨L, hL⟩ : ∃ L : ByteArray, L = ⟨(levL s.level).toArray⟩ := ⟨_, rfl⟩
  have HLV := Lib.hid (fun w' => rlevel_any s.level w')
  rw [lev_yes_if hl0 hl1, ← hL] at HLV
  have HL := Lib.hid hL
  clear hL
  obtain ⟨P, hP⟩ : ∃ P : ByteArray, P = ⟨(jn ls s.scopes ls.length).toArray⟩ := ⟨_, rfl⟩
  have HPR := Lib.hid (fun (w' : World) (hb : Below W.heap.size W w') => (refprint_any v ls HIN.out.hbk s.scopes HIN.out.hsc w' (HIN.out.arg.below (HB0.out.trans (hb.mono HB0.out.size)))).mono fun e w2 h2 => (⟨by have h3 := h2.1; rw [scopes_ok hs] at h3; rw [hP]; exact h3, h2.2⟩ : e = .returned (.tuple #[.string P, .int .i64 0]) ∧ w' = w2))
  have HPL : Hid (P.size ≤ 8512) := by
    show _ ≤ _
    have h1 := vjn_len HIN.out.hbk s.scopes ls.length (Nat.le_refl _)
    have h2 := HIN.out.hbk.len
    have h3 : P.size = (jn ls s.scopes ls.length).length := by rw [hP]; simp [ByteArray.size]
    omega
  have HP := Lib.hid hP
  clear hP
  obtain ⟨t, ht⟩ : ∃ t, t = lft now s.dl := ⟨_, rfl⟩
  have HLE := Lib.hid (fun w' => refleft_any now s.dl wn hin.wd w')
  rw [← ht] at HLE
  have hlb := lft_bd (now := now) (d := s.dl) g0 g3
  rw [← ht] at hlb
  obtain ⟨Q, hQ⟩ : ∃ Q : ByteArray, Q = ⟨(prt t).toArray⟩ := ⟨_, rfl⟩
  have HCP := Lib.hid (fun (w' : World) => rcprint_any t (tm_of hlb.1 hlb.2) w')
  rw [← hQ] at HCP
  have hQs : Q.size ≤ 88 := by rw [← size_list, hQ, mk_list]; exact vprt_len t hlb.1 hlb.2
  have hQl : Q.data.toList = prt (lft now s.dl) := by rw [hQ, mk_list, ht]
  clear ht hQ hlb
  obtain ⟨D, hD⟩ : ∃ D : ByteArray, D = ⟨(Lib.itoa s.birth).toArray⟩ := ⟨_, rfl⟩
  have HIT := Lib.hid (fun (w' : World) => vdigits_any s.birth.toNat (by omega) (by omega) w')
  have hDe : D = ⟨(Lib.decDigits s.birth.toNat).toArray⟩ := by rw [hD]; unfold Lib.itoa; rw [if_neg (by omega)]
  rw [← hDe, Int.toNat_of_nonneg (by omega)] at HIT
  have hDs : D.size ≤ 21 := by rw [← size_list, hD, mk_list]; exact Lib.itoa_length_le s.birth (by omega) (by omega)
  have hDl : D.data.toList = Lib.itoa s.birth := by rw [hD, mk_list]
  clear hD hDe
  have hKs : K.size ≤ 9 := by rw [← size_list, HK.out, mk_list]; exact kind_len _
  have hLs : L.size ≤ 4 := by rw [← size_list, HL.out, mk_list]; exact lev_len _
  obtain ⟨C1, hC1⟩ : ∃ C1 : ByteArray, C1 = s.user ++ ⟨#[47]⟩ := ⟨_, rfl⟩
  obtain ⟨U, hU⟩ : ∃ U : ByteArray, U = C1 ++ s.label := ⟨_, rfl⟩
  obtain ⟨k1, z1, q1⟩ := vadd 1048576 1 (vsz hu) (by show 1 ≤ 1; omega) (by omega) hC1
  obtain ⟨k2, z2, q2⟩ := vadd (1048576 + 1) 1048576 z1 (vsz hl) (by omega) hU
  have hUl : U.data.toList = whoL s := by
    rw [q2, q1]; unfold whoL; rw [if_neg hne, List.append_assoc]; rfl
  have hUs : U.size ≤ 2097153 := by omega
  clear hC1 hU q1 q2 z1 z2
  obtain ⟨M0, hm0⟩ : ∃ X : ByteArray, X = D ++ ⟨#[32]⟩ := ⟨_, rfl⟩
  obtain ⟨c0, d0, f0⟩ := vadd 21 1 hDs (by show 1 ≤ 1; omega) (by omega) hm0
  clear hm0
  obtain ⟨M1, hm1⟩ : ∃ X : ByteArray, X = M0 ++ U := ⟨_, rfl⟩
  obtain ⟨c1, d1, f1⟩ := vadd 22 2097153 d0 hUs (by omega) hm1
  clear hm1
  obtain ⟨M2, hm2⟩ : ∃ X : ByteArray, X = M1 ++ ⟨#[32]⟩ := ⟨_, rfl⟩
  obtain ⟨c2, d2, f2⟩ := vadd 2097175 1 d1 (by show 1 ≤ 1; omega) (by omega) hm2
  clear hm2
  obtain ⟨M3, hm3⟩ : ∃ X : ByteArray, X = M2 ++ K := ⟨_, rfl⟩
  obtain ⟨c3, d3, f3⟩ := vadd 2097176 9 d2 hKs (by omega) hm3
  clear hm3
  obtain ⟨M4, hm4⟩ : ∃ X : ByteArray, X = M3 ++ ⟨#[32]⟩ := ⟨_, rfl⟩
  obtain ⟨c4, d4, f4⟩ := vadd 2097185 1 d3 (by show 1 ≤ 1; omega) (by omega) hm4
  clear hm4
  obtain ⟨M5, hm5⟩ : ∃ X : ByteArray, X = M4 ++ L := ⟨_, rfl⟩
  obtain ⟨c5, d5, f5⟩ := vadd 2097186 4 d4 hLs (by omega) hm5
  clear hm5
  obtain ⟨M6, hm6⟩ : ∃ X : ByteArray, X = M5 ++ ⟨#[32, 91]⟩ := ⟨_, rfl⟩
  obtain ⟨c6, d6, f6⟩ := vadd 2097190 2 d5 (by show 2 ≤ 2; omega) (by omega) hm6
  clear hm6
  obtain ⟨M7, hm7⟩ : ∃ X : ByteArray, X = M6 ++ P := ⟨_, rfl⟩
  obtain ⟨c7, d7, f7⟩ := vadd 2097192 8512 d6 HPL.out (by omega) hm7
  clear hm7
  obtain ⟨M8, hm8⟩ : ∃ X : ByteArray, X = M7 ++ ⟨#[93, 32]⟩ := ⟨_, rfl⟩
  obtain ⟨c8, d8, f8⟩ := vadd 2105704 2 d7 (by show 2 ≤ 2; omega) (by omega) hm8
  clear hm8
  obtain ⟨J, hm9⟩ : ∃ X : ByteArray, X = M8 ++ Q := ⟨_, rfl⟩
  obtain ⟨c9, d9, f9⟩ := vadd 2105706 88 d8 hQs (by omega) hm9
  clear hm9
  have HJT : Hid (J.data.toList = textL ls s now) := by
    show _ = _
    rw [f9, f8, f7, f6, f5, f4, f3, f2, f1, f0, hDl, hUl, HK.out, HL.out, HP.out, hQl, mk_list, mk_list, mk_list]
    unfold textL
    rw [scopes_ok hs]
    exact rline_text _ _ _ _ _ _
  clear d0 f0 d1 f1 d2 f2 d3 f3 d4 f4 d5 f5 d6 f6 d7 f7 d8 f8 d9 f9 hDs hDl hKs hLs hUl hUs hQs hQl
  have hnb : ¬ (nameB s.user.data.toList = false ∨ (s.label.data.toList ≠ [] ∧ nameB s.label.data.toList = false)) := by
    rintro (h | ⟨h1, h2⟩)
    · rw [hu] at h; cases h
    · rw [hl] at h2; cases h2
  have HRU := Lib.hid (line_g (ls := ls) (s := s) (now := now) (show ¬ (s.birth < 1 ∨ 1048576 < s.birth) by omega) hnb (show ¬ (s.kind < 0 ∨ 2 < s.kind) by omega) (show ¬ (s.level < 0 ∨ 2 < s.level) by omega) hs (show ¬ (now < 0 ∨ 1099511627776 < now ∨ s.dl < 0 ∨ 1099511627776 < s.dl) by omega))
  clear hbx hb0 hin wn
  clear hu hk0 hk1 hl0 hl1 hs hnb hl hne
  go_enter Tryz.func8, Tryz.ntmps8
  go_wp2_with fail
  rw [← hW]
  clear hW
  refine (HN1.out _).mono ?_
  rintro e w1 ⟨rfl, hbc⟩
  have HC1 : Hid (Below W.heap.size W w1) := hbc
  clear hbc x1 x4 x5 x6 x7 x8 x10
  obtain ⟨x1, x4, x5, x6, x7, x8, x10⟩ := HX.out w1 HC1.out
  go_wp2_with fail
  refine (HN2.out _).mono ?_
  rintro e w2 ⟨rfl, hbc⟩
  have HC2 : Hid (Below W.heap.size W w2) := HC1.out.trans (hbc.mono HC1.out.size)
  clear hbc x1 x4 x5 x6 x7 x8 x10
  obtain ⟨x1, x4, x5, x6, x7, x8, x10⟩ := HX.out w2 HC2.out
  go_wp2_with fail
  refine (HWD.out _).mono ?_
  rintro e w0 ⟨rfl, rfl⟩
  go_wp2_with fail
  refine (HLV.out _).mono ?_
  rintro e w0 ⟨rfl, rfl⟩
  go_wp2_with fail
  refine (HPR.out _ HC2.out).mono ?_
  rintro e w0 ⟨rfl, rfl⟩
  go_wp2_with fail
  refine (HLE.out _).mono ?_
  rintro e w0 ⟨rfl, rfl⟩
  go_wp2_with fail
  refine (HCP.out _).mono ?_
  rintro e w3 ⟨rfl, hbc⟩
  have HC3 : Hid (Below W.heap.size W w3) := HC2.out.trans (hbc.mono HC2.out.size)
  clear hbc x1 x4 x5 x6 x7 x8 x10
  obtain ⟨x1, x4, x5, x6, x7, x8, x10⟩ := HX.out w3 HC3.out
  go_wp2_with fail
  have HH := Lib.hid (fun (w' : World) (hb : Below W.heap.size W w') => (by
    obtain ⟨y1, y4, y5, y6, y7, y8, y10⟩ := HX.out w' hb
    exact ⟨y1, y4⟩ : w'.cell? ⟨w.heap.size, 1, none⟩ = some (.int .i64 s.birth) ∧ w'.cell? ⟨w.heap.size, 4, none⟩ = some (.int .i64 s.kind)))
  have HD := Lib.hid (HC3.out.trans (Below.mono (Below.drew (Below.refl w3.heap.size w3)) HC3.out.size))
  go_region_held3 (fun w' => w'.cell? ⟨w.heap.size, 1, none⟩ = some (.int .i64 s.birth) ∧ w'.cell? ⟨w.heap.size, 4, none⟩ = some (.int .i64 s.kind)) (go_keep) (first
    | (go_at_call 36; refine (HIT.out _).mono ?_; rintro e v1 ⟨rfl, hbi⟩; (have HV1 := Lib.hid (HD.out.trans (hbi.mono HD.out.size))); obtain ⟨n1, n4⟩ := HH.out _ HV1.out; clear hbi)
    | (go_at_call 31; refine (HWD.out _).mono ?_; rintro e v2 ⟨rfl, rfl⟩))
  go_wp2
  go_ret2
  exact ⟨RLinePost.mk (no := 0) HRU.out HJT.out rfl, HB0.out.trans (HV1.out.mono HB0.out.size)⟩

end Vw
end Go.Proofs.YtocoonkachbjaaaGreatDoor

/- view.Line and the document's Line: all their ways in one, each. -/
namespace Go.Proofs.YtocoonkachbjaaaGreatDoor
open Go.RowKit Go.Proofs.NmPlain Go.Proofs.Ar Go.Proofs.YtocoonkachbjaaaGreatDoor.Sc
set_option linter.unusedVariables false
namespace Vw
theorem line_any (lo B : Nat) (ls : List ByteArray) (s : Sess) (now : Int) (wn : (Lit.int .i64 now).wf = true) (w : World) (hin : LineIn lo B ls s w) :
    Calls Tryz.prog 7 #[.pointer (some ⟨B, 0, none⟩), .agg #[.int .i64 s.slot, .int .i64 s.birth, .int .i64 s.us, .int .i64 s.ub, .int .i64 s.kind, .string s.user, .string s.label, .int .u64 (s.scopes : Int), .int .i64 s.level, .int .i64 s.born, .int .i64 s.dl, .int .i64 s.depth], .int .i64 now] w fun e w' => LinePost ls s now e ∧ Below w.heap.size w w' := by
  by_cases a1 : s.birth < 1
  · exact line_a1w lo B ls s now wn w hin a1
  by_cases a2 : 1048576 < s.birth
  · exact line_a2w lo B ls s now wn w hin (by omega) a2
  have a1' : 1 ≤ s.birth := by omega
  have a2' : s.birth ≤ 1048576 := by omega
  clear a1 a2
  cases hu : nameB s.user.data.toList with
  | false => exact line_b1w lo B ls s now wn w hin a1' a2' hu
  | true =>
  by_cases he : s.label.data.toList = []
  · by_cases hk : s.kind < 0 ∨ 2 < s.kind
    · exact line_cnw lo B ls s now wn w hin a1' a2' hu he hk
    by_cases hl : s.level < 0 ∨ 2 < s.level
    · exact line_dnw lo B ls s now wn w hin a1' a2' hu he (by omega) (by omega) hl
    by_cases hs : 2 ^ ls.length ≤ s.scopes
    · exact line_enw lo B ls s now wn w hin a1' a2' hu he (by omega) (by omega) (by omega) (by omega) hs
    by_cases f1 : now < 0
    · exact line_f1nw lo B ls s now wn w hin a1' a2' hu he (by omega) (by omega) (by omega) (by omega) hs f1
    by_cases f2 : 1099511627776 < now
    · exact line_f2nw lo B ls s now wn w hin a1' a2' hu he (by omega) (by omega) (by omega) (by omega) hs (by omega) f2
    by_cases f3 : s.dl < 0
    · exact line_f3nw lo B ls s now wn w hin a1' a2' hu he (by omega) (by omega) (by omega) (by omega) hs (by omega) (by omega) f3
    by_cases f4 : 1099511627776 < s.dl
    · exact line_f4nw lo B ls s now wn w hin a1' a2' hu he (by omega) (by omega) (by omega) (by omega) hs (by omega) (by omega) (by omega) f4
    exact line_gnw lo B ls s now wn w hin a1' a2' hu he (by omega) (by omega) (by omega) (by omega) hs (by omega) (by omega) (by omega) (by omega)
  cases hl : nameB s.label.data.toList with
  | false => exact line_b2w lo B ls s now wn w hin a1' a2' hu he hl
  | true =>
    by_cases hk : s.kind < 0 ∨ 2 < s.kind
    · exact line_clw lo B ls s now wn w hin a1' a2' hu he hl hk
    by_cases hv : s.level < 0 ∨ 2 < s.level
    · exact line_dlw lo B ls s now wn w hin a1' a2' hu he hl (by omega) (by omega) hv
    by_cases hs : 2 ^ ls.length ≤ s.scopes
    · exact line_elw lo B ls s now wn w hin a1' a2' hu he hl (by omega) (by omega) (by omega) (by omega) hs
    by_cases f1 : now < 0
    · exact line_f1lw lo B ls s now wn w hin a1' a2' hu he hl (by omega) (by omega) (by omega) (by omega) hs f1
    by_cases f2 : 1099511627776 < now
    · exact line_f2lw lo B ls s now wn w hin a1' a2' hu he hl (by omega) (by omega) (by omega) (by omega) hs (by omega) f2
    by_cases f3 : s.dl < 0
    · exact line_f3lw lo B ls s now wn w hin a1' a2' hu he hl (by omega) (by omega) (by omega) (by omega) hs (by omega) (by omega) f3
    by_cases f4 : 1099511627776 < s.dl
    · exact line_f4lw lo B ls s now wn w hin a1' a2' hu he hl (by omega) (by omega) (by omega) (by omega) hs (by omega) (by omega) (by omega) f4
    exact line_glw lo B ls s now wn w hin a1' a2' hu he hl (by omega) (by omega) (by omega) (by omega) hs (by omega) (by omega) (by omega) (by omega)

theorem rline_any (v : Value) (ls : List ByteArray) (s : Sess) (now : Int) (wn : (Lit.int .i64 now).wf = true) (w : World) (hin : RLineIn v ls s w) :
    Calls Tryz.prog 8 #[v, .agg #[.int .i64 s.slot, .int .i64 s.birth, .int .i64 s.us, .int .i64 s.ub, .int .i64 s.kind, .string s.user, .string s.label, .int .u64 (s.scopes : Int), .int .i64 s.level, .int .i64 s.born, .int .i64 s.dl, .int .i64 s.depth], .int .i64 now] w fun e w' => RLinePost ls s now e ∧ Below w.heap.size w w' := by
  by_cases a1 : s.birth < 1
  · exact rline_a1 v ls s now wn w hin a1
  by_cases a2 : 1048576 < s.birth
  · exact rline_a2 v ls s now wn w hin (by omega) a2
  have a1' : 1 ≤ s.birth := by omega
  have a2' : s.birth ≤ 1048576 := by omega
  clear a1 a2
  cases hu : nameB s.user.data.toList with
  | false => exact rline_b1 v ls s now wn w hin a1' a2' hu
  | true =>
  by_cases he : s.label.data.toList = []
  · by_cases hk : s.kind < 0 ∨ 2 < s.kind
    · exact rline_cn v ls s now wn w hin a1' a2' hu he hk
    by_cases hl : s.level < 0 ∨ 2 < s.level
    · exact rline_dn v ls s now wn w hin a1' a2' hu he (by omega) (by omega) hl
    by_cases hs : 2 ^ ls.length ≤ s.scopes
    · exact rline_en v ls s now wn w hin a1' a2' hu he (by omega) (by omega) (by omega) (by omega) hs
    by_cases f1 : now < 0
    · exact rline_f1n v ls s now wn w hin a1' a2' hu he (by omega) (by omega) (by omega) (by omega) hs f1
    by_cases f2 : 1099511627776 < now
    · exact rline_f2n v ls s now wn w hin a1' a2' hu he (by omega) (by omega) (by omega) (by omega) hs (by omega) f2
    by_cases f3 : s.dl < 0
    · exact rline_f3n v ls s now wn w hin a1' a2' hu he (by omega) (by omega) (by omega) (by omega) hs (by omega) (by omega) f3
    by_cases f4 : 1099511627776 < s.dl
    · exact rline_f4n v ls s now wn w hin a1' a2' hu he (by omega) (by omega) (by omega) (by omega) hs (by omega) (by omega) (by omega) f4
    exact rline_gn v ls s now wn w hin a1' a2' hu he (by omega) (by omega) (by omega) (by omega) hs (by omega) (by omega) (by omega) (by omega)
  cases hl : nameB s.label.data.toList with
  | false => exact rline_b2 v ls s now wn w hin a1' a2' hu he hl
  | true =>
    by_cases hk : s.kind < 0 ∨ 2 < s.kind
    · exact rline_cl v ls s now wn w hin a1' a2' hu he hl hk
    by_cases hv : s.level < 0 ∨ 2 < s.level
    · exact rline_dl v ls s now wn w hin a1' a2' hu he hl (by omega) (by omega) hv
    by_cases hs : 2 ^ ls.length ≤ s.scopes
    · exact rline_el v ls s now wn w hin a1' a2' hu he hl (by omega) (by omega) (by omega) (by omega) hs
    by_cases f1 : now < 0
    · exact rline_f1l v ls s now wn w hin a1' a2' hu he hl (by omega) (by omega) (by omega) (by omega) hs f1
    by_cases f2 : 1099511627776 < now
    · exact rline_f2l v ls s now wn w hin a1' a2' hu he hl (by omega) (by omega) (by omega) (by omega) hs (by omega) f2
    by_cases f3 : s.dl < 0
    · exact rline_f3l v ls s now wn w hin a1' a2' hu he hl (by omega) (by omega) (by omega) (by omega) hs (by omega) (by omega) f3
    by_cases f4 : 1099511627776 < s.dl
    · exact rline_f4l v ls s now wn w hin a1' a2' hu he hl (by omega) (by omega) (by omega) (by omega) hs (by omega) (by omega) (by omega) f4
    exact rline_gl v ls s now wn w hin a1' a2' hu he hl (by omega) (by omega) (by omega) (by omega) hs (by omega) (by omega) (by omega) (by omega)
end Vw
end Go.Proofs.YtocoonkachbjaaaGreatDoor

/- Literal lists where they lie. -/
namespace Go.Proofs.YtocoonkachbjaaaGreatDoor
open Go.RowKit
set_option linter.unusedVariables false

/-- A block of cells that hold these values. -/
def LitAt (w : World) (g : Nat) (vs : List Value) : Prop := ∃ t f, w.heap[g]? = some (.cells vs.toArray t f)
theorem LitAt.lt {w : World} {g : Nat} {vs : List Value} (h : LitAt w g vs) : g < w.heap.size := by
  obtain ⟨t, f, h⟩ := h
  exact (Array.getElem?_eq_some_iff.1 h).1
theorem LitAt.below {w w' : World} {g : Nat} {vs : List Value} (h : LitAt w g vs) (hb : Below w.heap.size w w') : LitAt w' g vs := by
  have hl := h.lt
  obtain ⟨t, f, h⟩ := h
  exact ⟨t, f, (hb.block g hl).trans h⟩
theorem LitAt.cell {w : World} {g : Nat} {vs : List Value} (h : LitAt w g vs) (k : Nat) : w.cell? ⟨g, k, none⟩ = vs[k]? := by
  obtain ⟨t, f, h⟩ := h
  simp [World.cell?, h]
theorem LitAt.get {α : Type} {f : α → Value} {l : List α} {w : World} {g : Nat} (h : LitAt w g (l.map f)) {k : Nat} (hk : k < l.length) (d : α) : w.cell? ⟨g, k, none⟩ = some (f (l.getD k d)) := by
  rw [h.cell, List.getElem?_map, List.getD_eq_getElem?_getD, List.getElem?_eq_getElem hk]
  rfl
theorem LitAt.alloc {w : World} {g : Nat} {vs : List Value} (h : LitAt w g vs) (o : Obj) : LitAt (w.alloc o) g vs :=
  h.below ((Below.refl _ _).alloc (Nat.le_refl _) o)
end Go.Proofs.YtocoonkachbjaaaGreatDoor

/- What a row's list says of errors.errorType: the variable's cell. -/
namespace Go.Proofs.YtocoonkachbjaaaGreatDoor
open Go.RowKit
set_option linter.unusedVariables false

theorem er_et : Tryz.prog.globalNamed "errors.errorType" = some 1 := by kernel_rfl
theorem er_rt : (Tryz.prog.cutTypes.find? (·.1 == "internal/reflectlite.rtype")).map (·.2) = some 161 := by kernel_rfl
theorem er_oneRow : ((List.range 234).filter fun t => Tryz.prog.rowNamed t [101, 114, 114, 111, 114]) = [33] := by kernel_rfl
theorem er_size : Tryz.prog.types.size = 234 := by kernel_rfl

theorem handle_of_laid {l : List (String × DataW Unit)} {W : World} (h : laidMetH Tryz.prog l W) (e : (l.filter fun x => x.1 == "errors.errorType") = [("errors.errorType", Rows.laid_errors_errorType)]) : erHandle W := by
  have h0 := laidMetH.filter (fun x => x.1 == "errors.errorType") h
  rw [e] at h0
  have h' : laidMet Tryz.prog [] W ∧ handlesMet Tryz.prog [("errors.errorType", Rows.laid_errors_errorType)] W := h0
  obtain ⟨name, u, ty, e1, e2, e3, e4, e5⟩ := h'.2 _ (List.mem_singleton.2 rfl)
  have en : name = [101, 114, 114, 111, 114] := (Option.some.inj e1).symm
  subst en
  obtain rfl := Option.some.inj (er_rt.symm.trans e2)
  have hm : ty ∈ (List.range 234).filter fun t => Tryz.prog.rowNamed t [101, 114, 114, 111, 114] := List.mem_filter.2 ⟨List.mem_range.2 (by rw [← er_size]; exact e3), e4⟩
  rw [er_oneRow] at hm
  obtain rfl := List.mem_singleton.1 hm
  have hh : typeHandle Tryz.prog 33 = .pointer (some ⟨8, 33, none⟩) := by kernel_rfl
  rw [hh] at e5
  unfold erHandle
  simpa using World.var?_cell er_et e5 0

end Go.Proofs.YtocoonkachbjaaaGreatDoor

/- A table of structs of integers, off its datum: its cells. No program in sight. -/
namespace Go.Proofs.Rd
open Go.RowKit Go.Lib
theorem rows_flatten {α : Type} (c : Nat) : ∀ (m : Nat) (cs : List α) (rs : List (List α)), cs.length = m * c → rs.length = m → (∀ i (hi : i < rs.length), (cs.drop (i * c)).take c = rs[i]) → cs = rs.flatten
  | 0, cs, rs, h1, h2, _ => by
    have : cs = [] := by simpa using h1
    have : rs = [] := by simpa using h2
    subst_vars; simp
  | m + 1, cs, [], h1, h2, _ => by simp at h2
  | m + 1, cs, r :: rs, h1, h2, h3 => by
    have h0 := h3 0 (by simp)
    simp only [Nat.zero_mul, List.drop_zero, List.getElem_cons_zero] at h0
    have ih := rows_flatten c m (cs.drop c) rs (by rw [List.length_drop, h1, Nat.succ_mul]; omega) (by simpa using h2) (fun i hi => by
      have := h3 (i + 1) (by simp; omega)
      rw [List.drop_drop, show c + i * c = (i + 1) * c from by rw [Nat.succ_mul]; omega]
      simpa using this)
    rw [List.flatten_cons, ← ih, ← h0, List.take_append_drop]

section
variable {H : Type} {enc : TypeId × Value → H} {P : Program} {w : World} {base : Nat} {sp : Nat → Bool} {held : Bool}

/-- A struct whose fields are integers that reads as these numbers holds them, cell for cell. -/
theorem struct_ints {fuel : Nat} {t : TypeId} {fs : Array Field} {cs : List Value} {zs : List (IntKind × Int)} {p : List MemPlace} (ht : P.underlying t = some (.struct fs))
    (hf : ∀ (i : Nat) (f : Field), fs[i]? = some f → (∃ k, P.underlying f.type = some (.int k)) ∧ f.offset = i ∧ P.cellsOf f.type = 1) (hct : P.cellsOf t = fs.size)
    (h : DataW.trod enc P w base sp held fuel t cs = some (.agg (zs.map fun z => .lit (.int z.1 z.2)), p)) : cs = zs.map fun z => Value.int z.1 z.2 := by
  obtain ⟨xs, n, rfl, hx, hl, hxl, hall⟩ := DataW.trod_struct ht h
  have hxs : xs.map (·.1) = zs.map fun z => (DataW.lit (.int z.1 z.2) : DataW H) := by
    have := congrArg Prod.fst hx
    simpa using this.symm
  have hzl : zs.length = fs.size := by
    have := congrArg List.length hxs
    simp at this
    omega
  apply List.ext_getElem?
  intro i
  by_cases hi : i < fs.size
  · obtain ⟨⟨k, hu⟩, ho, hc⟩ := hf i fs[i] (by simp [hi])
    have h1 := hall i fs[i] (by simp [hi])
    obtain ⟨b, hb⟩ : ∃ b, xs[i]? = some b := ⟨xs[i]'(by omega), List.getElem?_eq_getElem (by omega)⟩
    rw [hb, ho, hc] at h1
    obtain ⟨z, hcz, rfl, _⟩ := DataW.trod_int hu h1
    have h2 : cs[i]? = some (.int k z) := by
      have := congrArg (·[0]?) hcz
      simpa [List.getElem?_take, List.getElem?_drop] using this
    have h3 : (xs.map (·.1))[i]? = some (DataW.lit (.int k z) : DataW H) := by simp [hb]
    rw [hxs] at h3
    simp only [List.getElem?_map, Option.map_eq_some_iff, DataW.lit.injEq, Lit.int.injEq] at h3
    obtain ⟨z', hz', h4, h5⟩ := h3
    simp [h2, hz', h4, h5]
  · rw [List.getElem?_eq_none (by omega), List.getElem?_eq_none (by simp; omega)]

/-- An array of such structs. -/
theorem array_structs {fuel : Nat} {t e : TypeId} {m : Nat} {fs : Array Field} {cs : List Value} {zss : List (List (IntKind × Int))} {p : List MemPlace}
    (ht : P.underlying t = some (.array m e)) (he : P.underlying e = some (.struct fs))
    (hf : ∀ (i : Nat) (f : Field), fs[i]? = some f → (∃ k, P.underlying f.type = some (.int k)) ∧ f.offset = i ∧ P.cellsOf f.type = 1) (hce : P.cellsOf e = fs.size) (hct : P.cellsOf t = m * fs.size)
    (h : DataW.trod enc P w base sp held fuel t cs = some (.agg (zss.map fun zs => .agg (zs.map fun z => .lit (.int z.1 z.2))), p)) : cs = (zss.map fun zs => zs.map fun z => Value.int z.1 z.2).flatten := by
  obtain ⟨xs, n, rfl, hx, hl, hxl, hall⟩ := DataW.trod_array ht h
  have hxs : xs.map (·.1) = zss.map fun zs => (DataW.agg (zs.map fun z => .lit (.int z.1 z.2)) : DataW H) := by
    have := congrArg Prod.fst hx
    simpa using this.symm
  have hzl : zss.length = m := by
    have := congrArg List.length hxs
    simp at this; omega
  have hrow : ∀ i (hi : i < m), (cs.drop (i * fs.size)).take fs.size = (zss[i]'(by omega)).map fun z => Value.int z.1 z.2 := by
    intro i hi
    have h1 := hall i hi
    have hb : xs[i]? = some (xs[i]'(by omega)) := List.getElem?_eq_getElem (by omega)
    rw [hb, hce] at h1
    have h2 : (xs[i]'(by omega)).1 = (DataW.agg ((zss[i]'(by omega)).map fun z => .lit (.int z.1 z.2)) : DataW H) := by
      have := congrArg (fun l => l[i]?) hxs
      simp only [List.getElem?_map, hb, Option.map_some] at this
      rw [List.getElem?_eq_getElem (by omega)] at this
      simpa using this
    have h3 : DataW.trod enc P w base sp held n e ((cs.drop (i * fs.size)).take fs.size) = some (.agg ((zss[i]'(by omega)).map fun z => .lit (.int z.1 z.2)), (xs[i]'(by omega)).2) := by
      rw [h1, ← h2]
    exact struct_ints he hf hce h3
  refine rows_flatten fs.size m cs _ (by rw [hl, hct]) (by simpa using hzl) fun i hi => ?_
  have hi' : i < m := by rw [← hzl]; simpa using hi
  rw [hrow i hi']; simp

end
end Go.Proofs.Rd

/- What the rows' lists say of the clock's table and of strconv's powers of ten. -/
namespace Go.Proofs.YtocoonkachbjaaaGreatDoor
open Go.RowKit
set_option linter.unusedVariables false

theorem filt {l : List (String × DataW Unit)} {n : String} {d : DataW Unit} {W : World} (h : laidMetH Tryz.prog l W) (e : (l.filter fun x => x.1 == n) = [(n, d)]) (hd : d.handleName?.isNone = true) : laidMet Tryz.prog [(n, d)] W := by
  have h0 := laidMetH.filter (fun x => x.1 == n) h
  rw [e] at h0
  rwa [MakeChecks.laidMetH_plain _ _ _ (by simp [hd])] at h0

theorem gPow : Tryz.prog.globalNamed "internal/strconv.uint64pow10" = some 3 := by kernel_rfl
theorem gPowType : (Tryz.prog.globals[3]?).map (·.type) = some 195 := by kernel_rfl
theorem powCells : Tryz.prog.cellsOf 195 = 20 := by kernel_rfl
theorem u64Cells : Tryz.prog.cellsOf 27 = 1 := by kernel_rfl
theorem pow_of_laid {l : List (String × DataW Unit)} {W : World} (h : laidMetH Tryz.prog l W) (e : (l.filter fun x => x.1 == "internal/strconv.uint64pow10") = [("internal/strconv.uint64pow10", Rows.laid_internal_strconv_uint64pow10)]) : Lib.TabIs Tryz.prog W "internal/strconv.uint64pow10" .u64 Lib.pow10Tab :=
  Lib.tabIs_of_head (rest := []) gPow gPowType Tryz.underlying195 Tryz.underlying27 u64Cells powCells (filt h e rfl)

theorem gParts : Tryz.prog.globalNamed "lineage/clock.parts" = some 0 := by kernel_rfl
theorem gPartsType : (Tryz.prog.globals[0]?).map (·.type) = some 113 := by kernel_rfl
theorem partsCellsOf : Tryz.prog.cellsOf 113 = 4 * 3 := by kernel_rfl
theorem partCellsOf : Tryz.prog.cellsOf 112 = 3 := by kernel_rfl
theorem i64Cells : Tryz.prog.cellsOf 3 = 1 := by kernel_rfl
theorem u8Cells : Tryz.prog.cellsOf 5 = 1 := by kernel_rfl

theorem parts_of_laid {l : List (String × DataW Unit)} {W : World} (h : laidMetH Tryz.prog l W) (e : (l.filter fun x => x.1 == "lineage/clock.parts") = [("lineage/clock.parts", Rows.laid_lineage_clock_parts)]) : PartsAt W := by
  obtain ⟨g, t, cs, fuel, p, h1, h2, h3, h4⟩ := Lib.laidMet.reads (filt h e rfl) (List.mem_singleton.2 rfl)
  obtain rfl := Option.some.inj (gParts.symm.trans h1)
  obtain rfl := Option.some.inj (gPartsType.symm.trans h2)
  have hc := Rd.array_structs (zss := [[(.u8, 100), (.i64, 86400), (.i64, 1099511627777)], [(.u8, 104), (.i64, 3600), (.i64, 23)], [(.u8, 109), (.i64, 60), (.i64, 59)], [(.u8, 115), (.i64, 1), (.i64, 59)]]) Tryz.underlying113 Tryz.underlying112 (fun i f hf => by
    match i, hf with
    | 0, hf => simp at hf; subst hf; exact ⟨⟨_, Tryz.underlying5⟩, rfl, u8Cells⟩
    | 1, hf => simp at hf; subst hf; exact ⟨⟨_, Tryz.underlying3⟩, rfl, i64Cells⟩
    | 2, hf => simp at hf; subst hf; exact ⟨⟨_, Tryz.underlying3⟩, rfl, i64Cells⟩
    | n + 3, hf => simp at hf) partCellsOf partsCellsOf h4
  have hcs : cs = partsCells := by
    have : cs.toList = partsCells.toList := hc
    exact Array.toList_inj.1 this
  unfold World.var? at h3
  rw [gParts] at h3
  simp only [Option.bind_some] at h3
  split at h3
  · rename_i c t' fr hh
    refine ⟨t', fr, ?_⟩
    rw [hh]
    cases h3; rw [← hcs]
  · cases h3

end Go.Proofs.YtocoonkachbjaaaGreatDoor

/- Preorders of forests whose children stand behind their parents: a new last child is set behind its parent's block. No program's code. -/
namespace Go.Proofs.YtocoonkachbjaaaGreatDoor
set_option linter.unusedVariables false
namespace Vt

/-- How far below, and which: of those of a list and all below them. -/
def pre (kids : Nat → List Nat) : Nat → Nat → List Nat → List (Nat × Nat)
  | 0, _, _ => []
  | f + 1, far, l => l.flatMap fun i => (far, i) :: pre kids f (far + 1) (kids i)

theorem pre_nil (kids : Nat → List Nat) (f far : Nat) : pre kids f far [] = [] := by cases f <;> rfl
theorem pre_cons (kids : Nat → List Nat) (f far i : Nat) (l : List Nat) : pre kids (f + 1) far (i :: l) = (far, i) :: (pre kids f (far + 1) (kids i) ++ pre kids (f + 1) far l) := by
  simp [pre]
theorem pre_append (kids : Nat → List Nat) (f far : Nat) (a b : List Nat) : pre kids f far (a ++ b) = pre kids f far a ++ pre kids f far b := by
  cases f with
  | zero => rfl
  | succ f => simp [pre]
theorem pre_far (kids : Nat → List Nat) : ∀ (f far : Nat) (l : List Nat) (x : Nat × Nat), x ∈ pre kids f far l → far ≤ x.1
  | 0, far, l, x, h => by simp [pre] at h
  | f + 1, far, [], x, h => by simp [pre] at h
  | f + 1, far, i :: l, x, h => by
    rw [pre_cons, List.mem_cons, List.mem_append] at h
    rcases h with rfl | h | h
    · exact Nat.le_refl _
    · exact Nat.le_of_succ_le (pre_far kids f (far + 1) _ x h)
    · exact pre_far kids (f + 1) far l x h
theorem pre_head (kids : Nat → List Nat) : ∀ (f far : Nat) (l : List Nat) (x : Nat × Nat), (pre kids f far l).head? = some x → x.1 = far
  | 0, far, l, x, h => by simp [pre] at h
  | f + 1, far, [], x, h => by simp [pre] at h
  | f + 1, far, i :: l, x, h => by
    rw [pre_cons] at h
    cases h; rfl

/-- A new one behind one's block. -/
def ins (p n : Nat) : List (Nat × Nat) → List (Nat × Nat)
  | [] => []
  | x :: r => if x.2 = p then x :: (r.takeWhile (fun y => decide (x.1 < y.1)) ++ (x.1 + 1, n) :: r.dropWhile (fun y => decide (x.1 < y.1))) else x :: ins p n r

theorem ins_skip (p n : Nat) : ∀ (a b : List (Nat × Nat)), (∀ x ∈ a, x.2 ≠ p) → ins p n (a ++ b) = a ++ ins p n b
  | [], b, h => rfl
  | x :: a, b, h => by
    rw [List.cons_append, ins, if_neg (h x List.mem_cons_self), ins_skip p n a b (fun y hy => h y (List.mem_cons_of_mem _ hy))]
    rfl
theorem takeWhile_stop {α : Type} (q : α → Bool) : ∀ (a b : List α), (∀ x, b.head? = some x → q x = false) → (a ++ b).takeWhile q = a.takeWhile q ∧ (a ++ b).dropWhile q = a.dropWhile q ++ b
  | [], [], h => ⟨rfl, rfl⟩
  | [], x :: b, h => by
    have := h x rfl
    constructor
    · simp [List.takeWhile, this]
    · simp [List.dropWhile, this]
  | x :: a, b, h => by
    obtain ⟨h1, h2⟩ := takeWhile_stop q a b h
    cases hx : q x with
    | false => simp [List.takeWhile, List.dropWhile, hx]
    | true => simp [List.takeWhile, List.dropWhile, hx, h1, h2]
theorem tw_all {α : Type} (q : α → Bool) : ∀ (a : List α), (∀ x ∈ a, q x = true) → a.takeWhile q = a ∧ a.dropWhile q = []
  | [], h => ⟨rfl, rfl⟩
  | x :: a, h => by
    obtain ⟨h1, h2⟩ := tw_all q a (fun y hy => h y (List.mem_cons_of_mem _ hy))
    have hx := h x List.mem_cons_self
    simp [List.takeWhile, List.dropWhile, hx, h1, h2]
theorem ins_left (p n far : Nat) : ∀ (a b : List (Nat × Nat)), (∃ x ∈ a, x.2 = p) → (∀ x ∈ a, far < x.1) → (∀ x, b.head? = some x → x.1 ≤ far) → ins p n (a ++ b) = ins p n a ++ b
  | [], b, h, _, _ => by obtain ⟨x, hx, _⟩ := h; cases hx
  | x :: a, b, h, hf, hb => by
    rw [List.cons_append]
    by_cases e : x.2 = p
    · have hs := takeWhile_stop (fun y : Nat × Nat => decide (x.1 < y.1)) a b (fun y hy => by
        have h1 := hb y hy; have h2 := hf x List.mem_cons_self
        exact decide_eq_false (by omega))
      rw [ins, ins, if_pos e, if_pos e, hs.1, hs.2]
      simp
    · rw [ins, ins, if_neg e, if_neg e, ins_left p n far a b ?_ (fun y hy => hf y (List.mem_cons_of_mem _ hy)) hb]
      · rfl
      · obtain ⟨y, hy, e2⟩ := h
        rcases List.mem_cons.1 hy with rfl | hy
        · exact absurd e2 e
        · exact ⟨y, hy, e2⟩

/-- One more child. -/
def more (kids : Nat → List Nat) (p n : Nat) : Nat → List Nat := fun i => if i = p then kids p ++ [n] else kids i

theorem pre_more_none (kids : Nat → List Nat) (p n : Nat) : ∀ (f far : Nat) (l : List Nat), (∀ x ∈ pre kids f far l, x.2 ≠ p) → pre (more kids p n) f far l = pre kids f far l
  | 0, far, l, h => rfl
  | f + 1, far, [], h => rfl
  | f + 1, far, i :: l, h => by
    rw [pre_cons] at h
    have hi : i ≠ p := h (far, i) List.mem_cons_self
    have e : more kids p n i = kids i := if_neg hi
    rw [pre_cons, pre_cons, e, pre_more_none kids p n f (far + 1) (kids i) (fun x hx => h x (List.mem_cons_of_mem _ (List.mem_append_left _ hx))),
      pre_more_none kids p n (f + 1) far l (fun x hx => h x (List.mem_cons_of_mem _ (List.mem_append_right _ hx)))]

/-- The new child stands behind its parent's block. -/
theorem pre_more (kids : Nat → List Nat) (p n N : Nat) (hpn : p < n) (hnN : n ≤ N) (hup : ∀ i, ∀ j ∈ kids i, i < j) (hn : kids n = []) : ∀ (f far : Nat) (l : List Nat), (∀ i ∈ l, N < f + i) → ((pre kids f far l).map (·.2)).Nodup → (∃ x ∈ pre kids f far l, x.2 = p) →
    pre (more kids p n) f far l = ins p n (pre kids f far l)
  | 0, far, l, _, _, h => by obtain ⟨x, hx, _⟩ := h; simp [pre] at hx
  | f + 1, far, [], _, _, h => by obtain ⟨x, hx, _⟩ := h; simp [pre] at hx
  | f + 1, far, i :: l, hf, hd, h => by
    rw [pre_cons] at hd h
    rw [List.map_cons, List.nodup_cons, List.map_append, List.nodup_append] at hd
    obtain ⟨d1, d2, d3, d4⟩ := hd
    have hfi := hf i List.mem_cons_self
    by_cases e : i = p
    · subst e
      have n1 : ∀ x ∈ pre kids f (far + 1) (kids i), x.2 ≠ i := fun x hx e => d1 (by rw [List.mem_append]; exact .inl (List.mem_map.2 ⟨x, hx, e⟩))
      have n2 : ∀ x ∈ pre kids (f + 1) far l, x.2 ≠ i := fun x hx e => d1 (by rw [List.mem_append]; exact .inr (List.mem_map.2 ⟨x, hx, e⟩))
      have em : more kids i n i = kids i ++ [n] := if_pos rfl
      have en : more kids i n n = [] := by unfold more; rw [if_neg (by omega), hn]
      obtain ⟨f', rfl⟩ : ∃ f', f = f' + 1 := ⟨f - 1, by omega⟩
      rw [pre_cons, em, pre_append, pre_more_none kids i n (f' + 1) (far + 1) (kids i) n1, pre_more_none kids i n (f' + 1 + 1) far l n2, pre_cons, en, pre_nil, pre_nil]
      rw [pre_cons, ins, if_pos rfl]
      have hs := takeWhile_stop (fun y : Nat × Nat => decide (far < y.1)) (pre kids (f' + 1) (far + 1) (kids i)) (pre kids (f' + 1 + 1) far l) (fun y hy => by
        have h1 := pre_head kids _ _ _ y hy
        exact decide_eq_false (by omega))
      have ht : ∀ x ∈ pre kids (f' + 1) (far + 1) (kids i), decide (far < x.1) = true := fun x hx => decide_eq_true (by have := pre_far kids _ _ _ x hx; omega)
      have t1 : (pre kids (f' + 1) (far + 1) (kids i)).takeWhile (fun y => decide (far < y.1)) = pre kids (f' + 1) (far + 1) (kids i) := (tw_all _ _ ht).1
      have t2 : (pre kids (f' + 1) (far + 1) (kids i)).dropWhile (fun y => decide (far < y.1)) = [] := (tw_all _ _ ht).2
      simp only
      rw [hs.1, hs.2, t1, t2]
      simp
    · have em : more kids p n i = kids i := if_neg e
      rw [pre_cons, em, pre_cons, ins, if_neg e]
      obtain ⟨x, hx, ex⟩ := h
      rw [List.mem_cons, List.mem_append] at hx
      rcases hx with rfl | hx | hx
      · exact absurd ex e
      · have n2 : ∀ y ∈ pre kids (f + 1) far l, y.2 ≠ p := fun y hy e2 => d4 p (List.mem_map.2 ⟨x, hx, ex⟩) p (List.mem_map.2 ⟨y, hy, e2⟩) rfl
        rw [pre_more_none kids p n (f + 1) far l n2, pre_more kids p n N hpn hnN hup hn f (far + 1) (kids i) (fun j hj => by have := hup i j hj; omega) d2 ⟨x, hx, ex⟩,
          ins_left p n far _ _ ⟨x, hx, ex⟩ (fun y hy => by have := pre_far kids _ _ _ y hy; omega) (fun y hy => by have := pre_head kids _ _ _ y hy; omega)]
      · have n1 : ∀ y ∈ pre kids f (far + 1) (kids i), y.2 ≠ p := fun y hy e2 => d4 p (List.mem_map.2 ⟨y, hy, e2⟩) p (List.mem_map.2 ⟨x, hx, ex⟩) rfl
        rw [pre_more_none kids p n f (far + 1) (kids i) n1, pre_more kids p n N hpn hnN hup hn (f + 1) far l (fun j hj => hf j (List.mem_cons_of_mem _ hj)) d3 ⟨x, hx, ex⟩, ins_skip p n _ _ n1]
end Vt
end Go.Proofs.YtocoonkachbjaaaGreatDoor

/- The forest of sessions told by births: parents by their places, the order as the document inserts it, and the walk over children. No program's code. -/
namespace Go.Proofs.YtocoonkachbjaaaGreatDoor
set_option linter.unusedVariables false
namespace Vt

/-- The last place ahead of one with this birth number. -/
def lastTo (l : List (Int × Int)) (up : Int) : Nat → Option Nat
  | 0 => none
  | k + 1 => if (l[k]?).map (·.1) = some up then some k else lastTo l up k
theorem lastTo_lt (l : List (Int × Int)) (up : Int) : ∀ (n k : Nat), lastTo l up n = some k → k < n
  | 0, k, h => by cases h
  | n + 1, k, h => by
    unfold lastTo at h
    split at h
    · cases h; omega
    · have := lastTo_lt l up n k h; omega
/-- A session's parent's place. -/
def par (l : List (Int × Int)) (n : Nat) : Option Nat := match l[n]? with
  | none => none
  | some x => if x.2 = 0 then none else lastTo l x.2 n
theorem par_lt {l : List (Int × Int)} {n p : Nat} (h : par l n = some p) : p < n := by
  unfold par at h
  split at h
  · cases h
  · split at h
    · cases h
    · exact lastTo_lt _ _ _ _ h
def roots (l : List (Int × Int)) : Nat → List Nat
  | 0 => []
  | n + 1 => match par l n with
    | none => roots l n ++ [n]
    | some _ => roots l n
def kidsN (l : List (Int × Int)) : Nat → Nat → List Nat
  | 0 => fun _ => []
  | n + 1 => match par l n with
    | none => kidsN l n
    | some p => more (kidsN l n) p n
def depth (l : List (Int × Int)) : Nat → Nat → Nat
  | 0, _ => 0
  | f + 1, n => match par l n with
    | none => 0
    | some p => depth l f p + 1
/-- The order, each with how far below a root it is. -/
def ordL (l : List (Int × Int)) : Nat → List (Nat × Nat)
  | 0 => []
  | n + 1 => match par l n with
    | none => ordL l n ++ [(0, n)]
    | some p => ins p n (ordL l n)

theorem ins_perm (p n : Nat) : ∀ (o : List (Nat × Nat)), (∃ x ∈ o, x.2 = p) → ((ins p n o).map (·.2)).Perm (n :: o.map (·.2))
  | [], h => by obtain ⟨x, hx, _⟩ := h; cases hx
  | x :: r, h => by
    unfold ins
    by_cases e : x.2 = p
    · rw [if_pos e]
      have h1 : (r.takeWhile (fun y => decide (x.1 < y.1)) ++ r.dropWhile (fun y => decide (x.1 < y.1))) = r := List.takeWhile_append_dropWhile
      have h2 : ((r.takeWhile (fun y => decide (x.1 < y.1)) ++ (x.1 + 1, n) :: r.dropWhile (fun y => decide (x.1 < y.1))).map (·.2)).Perm (n :: r.map (·.2)) := by
        have h3 := (List.perm_middle (a := (x.1 + 1, n)) (l₁ := r.takeWhile (fun y => decide (x.1 < y.1))) (l₂ := r.dropWhile (fun y => decide (x.1 < y.1)))).map (·.2)
        rw [h1] at h3
        exact h3
      exact (List.Perm.cons _ h2).trans (List.Perm.swap _ _ _)
    · rw [if_neg e]
      obtain ⟨y, hy, e2⟩ := h
      rcases List.mem_cons.1 hy with rfl | hy
      · exact absurd e2 e
      · exact (List.Perm.cons _ (ins_perm p n r ⟨y, hy, e2⟩)).trans (List.Perm.swap _ _ _)

theorem ord_perm (l : List (Int × Int)) : ∀ n, ((ordL l n).map (·.2)).Perm (List.range n)
  | 0 => List.Perm.refl _
  | n + 1 => by
    have ih := ord_perm l n
    rw [List.range_succ]
    unfold ordL
    split
    · rw [List.map_append]
      exact ih.append_right _
    · rename_i p hp
      have hlt := par_lt hp
      have hm : ∃ x ∈ ordL l n, x.2 = p := by
        have h1 : p ∈ (ordL l n).map (·.2) := ih.mem_iff.2 (List.mem_range.2 hlt)
        obtain ⟨x, hx, e⟩ := List.mem_map.1 h1
        exact ⟨x, hx, e⟩
      exact ((ins_perm p n _ hm).trans (List.Perm.cons _ ih)).trans (List.perm_append_comm (l₁ := [n]) (l₂ := List.range n))
theorem ord_mem {l : List (Int × Int)} {n p : Nat} (h : p < n) : ∃ x ∈ ordL l n, x.2 = p := by
  have h1 : p ∈ (ordL l n).map (·.2) := (ord_perm l n).mem_iff.2 (List.mem_range.2 h)
  obtain ⟨x, hx, e⟩ := List.mem_map.1 h1
  exact ⟨x, hx, e⟩
theorem ord_nodup (l : List (Int × Int)) (n : Nat) : ((ordL l n).map (·.2)).Nodup := (ord_perm l n).nodup_iff.2 List.nodup_range
theorem ord_len (l : List (Int × Int)) (n : Nat) : (ordL l n).length = n := by
  have := (ord_perm l n).length_eq
  simpa using this

theorem kidsN_none {l : List (Int × Int)} {n : Nat} (h : par l n = none) : kidsN l (n + 1) = kidsN l n := by simp only [kidsN, h]
theorem kidsN_some {l : List (Int × Int)} {n p : Nat} (h : par l n = some p) : kidsN l (n + 1) = more (kidsN l n) p n := by simp only [kidsN, h]
theorem kids_up (l : List (Int × Int)) : ∀ n i, ∀ j ∈ kidsN l n i, i < j ∧ j < n
  | 0, i, j, h => by simp [kidsN] at h
  | n + 1, i, j, h => by
    cases hp : par l n with
    | none =>
      rw [kidsN_none hp] at h
      have := kids_up l n i j h; omega
    | some p =>
      rw [kidsN_some hp] at h
      have hlt := par_lt hp
      unfold more at h
      by_cases e : i = p
      · rw [if_pos e] at h
        subst e
        rw [List.mem_append] at h
        rcases h with h | h
        · have := kids_up l n i j h; omega
        · simp at h; omega
      · rw [if_neg e] at h
        have := kids_up l n i j h; omega
theorem kids_new (l : List (Int × Int)) (n : Nat) : kidsN l n n = [] := by
  cases h : kidsN l n n with
  | nil => rfl
  | cons j r =>
    have := kids_up l n n j (by rw [h]; exact List.mem_cons_self)
    omega

/-- The document's order is the walk over children. -/
theorem ord_pre (l : List (Int × Int)) (N f : Nat) (hf : N < f) : ∀ n, n ≤ N → ordL l n = pre (kidsN l n) f 0 (roots l n)
  | 0, _ => by rw [show roots l 0 = [] from rfl, pre_nil]; rfl
  | n + 1, h => by
    have ih := ord_pre l N f hf n (by omega)
    unfold ordL roots kidsN
    cases hp : par l n with
    | none =>
      simp only
      rw [pre_append, ih]
      obtain ⟨f', rfl⟩ : ∃ f', f = f' + 1 := ⟨f - 1, by omega⟩
      rw [pre_cons (l := []), kids_new, pre_nil, pre_nil]
      rfl
    | some p =>
      simp only
      have hm := ord_mem (l := l) (par_lt hp)
      have hd := ord_nodup l n
      rw [ih] at hm hd
      rw [pre_more (kidsN l n) p n N (par_lt hp) (by omega) (fun i j hj => (kids_up l n i j hj).1) (kids_new l n) f 0 (roots l n) (fun i _ => by omega) hd hm, ih]
theorem depth_fuel (l : List (Int × Int)) : ∀ (f g n : Nat), n < f → n < g → depth l f n = depth l g n
  | 0, g, n, h, _ => by omega
  | f + 1, 0, n, _, h => by omega
  | f + 1, g + 1, n, h1, h2 => by
    cases hp : par l n with
    | none => simp only [depth, hp]
    | some p =>
      have := par_lt hp
      simp only [depth, hp]
      rw [depth_fuel l f g p (by omega) (by omega)]
/-- How deep one is. -/
def dep (l : List (Int × Int)) (n : Nat) : Nat := depth l (n + 1) n
theorem dep_none {l : List (Int × Int)} {n : Nat} (h : par l n = none) : dep l n = 0 := by simp only [dep, depth, h]
theorem dep_some {l : List (Int × Int)} {n p : Nat} (h : par l n = some p) : dep l n = dep l p + 1 := by
  have := par_lt h
  have e : dep l n = depth l n p + 1 := by unfold dep; simp only [depth, h]
  rw [e, dep, depth_fuel l n (p + 1) p this (by omega)]
theorem ins_mem (p n : Nat) : ∀ (o : List (Nat × Nat)) (y : Nat × Nat), y ∈ ins p n o → y ∈ o ∨ ∃ x ∈ o, x.2 = p ∧ y = (x.1 + 1, n)
  | [], y, h => by cases h
  | x :: r, y, h => by
    unfold ins at h
    by_cases e : x.2 = p
    · rw [if_pos e, List.mem_cons, List.mem_append, List.mem_cons] at h
      rcases h with rfl | h | rfl | h
      · exact .inl List.mem_cons_self
      · exact .inl (List.mem_cons_of_mem _ ((List.takeWhile_sublist _).subset h))
      · exact .inr ⟨x, List.mem_cons_self, e, rfl⟩
      · exact .inl (List.mem_cons_of_mem _ ((List.dropWhile_sublist _).subset h))
    · rw [if_neg e, List.mem_cons] at h
      rcases h with rfl | h
      · exact .inl List.mem_cons_self
      · rcases ins_mem p n r y h with h | ⟨z, h1, h2⟩
        · exact .inl (List.mem_cons_of_mem _ h)
        · exact .inr ⟨z, List.mem_cons_of_mem _ h1, h2⟩
theorem ord_dep (l : List (Int × Int)) : ∀ n, ∀ x ∈ ordL l n, x.1 = dep l x.2
  | 0, x, h => by cases h
  | n + 1, x, h => by
    cases hp : par l n with
    | none =>
      simp only [ordL, hp, List.mem_append, List.mem_singleton] at h
      rcases h with h | rfl
      · exact ord_dep l n x h
      · exact (dep_none hp).symm
    | some p =>
      simp only [ordL, hp] at h
      rcases ins_mem p n _ x h with h | ⟨y, h1, h2, rfl⟩
      · exact ord_dep l n x h
      · show y.1 + 1 = dep l n
        rw [dep_some hp, ord_dep l n y h1, h2]
end Vt
end Go.Proofs.YtocoonkachbjaaaGreatDoor
