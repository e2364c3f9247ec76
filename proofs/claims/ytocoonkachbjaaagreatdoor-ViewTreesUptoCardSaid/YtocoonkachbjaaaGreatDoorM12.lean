/- Several texts in one: what each proves its own first comment says. -/
import Derived.Test.YtocoonkachbjaaaGreatDoorM11
import Derived.Laws.Concat
import Derived.Test.YtocoonkachbjaaaGreatDoorM10
import Derived.Test.YtocoonkachbjaaaGreatDoorM1
import Derived.Test.YtocoonkachbjaaaGreatDoorRows
import Derived.ProofKit
import Derived.LaidLaws
import Derived.LaidHandle
import Derived.LaidSub
import Derived.Stop.Joined
import Derived.WalkKit
import Derived.OpenShut
import Derived.Lib.LaidU8
import Derived.Lib.LaidTab
import Derived.Test.YtocoonkachbjaaaGreatDoorM3

/- The document's Line: the line itself (printed by wip/mkrline.py). -/
namespace Go.Proofs.YtocoonkachbjaaaGreatDoor
open Go.RowKit Go.Proofs.NmPlain Go.Proofs.Ar Go.Proofs.YtocoonkachbjaaaGreatDoor.Sc
set_option linter.unusedVariables false
namespace Vw
theorem vadd {a b c : ByteArray} (x y : Nat) (hx : a.size ≤ x) (hy : b.size ≤ y) (h : x + y ≤ 8388608) (hc : c = a ++ b) : (∀ W : World, (Op.stringOp .add a b).run Tryz.prog W = .ok (.string c) W) ∧ c.size ≤ x + y ∧ c.data.toList = a.data.toList ++ b.data.toList :=
  ⟨vcat (by omega) hc, by rw [hc, ByteArray.size_append]; omega, cat_list hc⟩
theorem rline_text (d u k l p q : Bs) : ((((((((d ++ [32]) ++ u) ++ [32]) ++ k) ++ [32]) ++ l) ++ [32, 91]) ++ p ++ [93, 32]) ++ q = Lib.join [d, u, k, l, 91 :: p ++ [93], q] [32] := by
  simp [Lib.join_cons, Lib.joinTail]

set_option maxHeartbeats 4000000 in
theorem rline_gn (v : Value) (ls : List ByteArray) (s : Sess) (now : Int) (wn : (Lit.int .i64 now).wf = true) (w : World) (hin : RLineIn v ls s w) (ha0 : 1 ≤ s.birth) (ha1 : s.birth ≤ 1048576) (hu : nameB s.user.data.toList = true) (he : s.label.data.toList = []) (hk0 : 0 ≤ s.kind) (hk1 : s.kind ≤ 2) (hl0 : 0 ≤ s.level) (hl1 : s.level ≤ 2) (hs : ¬ 2 ^ ls.length ≤ s.scopes) (g0 : 0 ≤ now) (g1 : now ≤ 1099511627776) (g2 : 0 ≤ s.dl) (g3 : s.dl ≤ 1099511627776) :
    Calls Tryz.prog 8 #[v, .agg #[.int .i64 s.slot, .int .i64 s.birth, .int .i64 s.us, .int .i64 s.ub, .int .i64 s.kind, .string s.user, .string s.label, .int .u64 (s.scopes : Int), .int .i64 s.level, .int .i64 s.born, .int .i64 s.dl, .int .i64 s.depth], .int .i64 now] w fun e w' => RLinePost ls s now e ∧ Below w.heap.size w w' := by
  obtain ⟨W, hW⟩ : ∃ W, W = w.alloc (.cells #[.int .i64 s.slot, .int .i64 s.birth, .int .i64 s.us, .int .i64 s.ub, .int .i64 s.kind, .string s.user, .string s.label, .int .u64 (s.scopes : Int), .int .i64 s.level, .int .i64 s.born, .int .i64 s.dl, .int .i64 s.depth] 30) := ⟨_, rfl⟩
  have hb0 : Below w.heap.size w W := by rw [hW]; exact (Below.refl _ _).alloc (Nat.le_refl _) _
  have hbx : W.heap[w.heap.size]? = some (.cells #[.int .i64 s.slot, .int .i64 s.birth, .int .i64 s.us, .int .i64 s.ub, .int .i64 s.kind, .string s.user, .string s.label, .int .u64 (s.scopes : Int), .int .i64 s.level, .int .i64 s.born, .int .i64 s.dl, .int .i64 s.depth] 30 (0, 0)) := by rw [hW]; exact Ut.alloc_at _ _
  have HX := Lib.hid (fun (w' : World) (hb : Below W.heap.size W w') => (by
    have h1 := (hb.block w.heap.size (Array.getElem?_eq_some_iff.1 hbx).1).trans hbx
    have h2 : ∀ j, w'.cell? ⟨w.heap.size, j, none⟩ = (#[.int .i64 s.slot, .int .i64 s.birth, .int .i64 s.us, .int .i64 s.ub, .int .i64 s.kind, .string s.user, .string s.label, .int .u64 (s.scopes : Int), .int .i64 s.level, .int .i64 s.born, .int .i64 s.dl, .int .i64 s.depth] : Array Value)[j]? := fun j => cell_of_row _ _ _ _ _ _ h1
    exact ⟨h2 1, h2 4, h2 5, h2 6, h2 7, h2 8, h2 10⟩ : w'.cell? ⟨w.heap.size, 1, none⟩ = some (.int .i64 s.birth) ∧ w'.cell? ⟨w.heap.size, 4, none⟩ = some (.int .i64 s.kind) ∧ w'.cell? ⟨w.heap.size, 5, none⟩ = some (.string s.user) ∧ w'.cell? ⟨w.heap.size, 6, none⟩ = some (.string s.label) ∧ w'.cell? ⟨w.heap.size, 7, none⟩ = some (.int .u64 (s.scopes : Int)) ∧ w'.cell? ⟨w.heap.size, 8, none⟩ = some (.int .i64 s.level) ∧ w'.cell? ⟨w.heap.size, 10, none⟩ = some (.int .i64 s.dl)))
  obtain ⟨x1, x4, x5, x6, x7, x8, x10⟩ := HX.out W (Below.refl _ _)
  have HB0 := Lib.hid hb0
  have HW := Lib.hid hW
  have HIN := Lib.hid hin
  have HN1 := Lib.hid (fun (w' : World) => (refname_any s.user (by have := HIN.out.hz1; omega) w').mono fun e w2 h2 => (by rw [hu] at h2; exact h2 : e = .returned (.bool true) ∧ Below w'.heap.size w' w2))
  have l1 : s.label.toList = [] := by rw [Lib.toList_data]; exact he
  obtain ⟨K, hK⟩ : ∃ K : ByteArray, K = ⟨(kindL s.kind).toArray⟩ := ⟨_, rfl⟩
  have HWD := Lib.hid (fun w' => rkind_any s.kind w')
  rw [← hK] at HWD
  have hKe : K.toList.isEmpty = false := by
    rw [Lib.toList_data, hK]
    have := kind_yes hk0 hk1
    show (kindL s.kind).isEmpty = false
    cases h : kindL s.kind with
    | nil => exact absurd h this
    | cons a r => rfl
  have HK := Lib.hid hK
  clear hK
  obtain ⟨L, hL⟩ : ∃ L : ByteArray, L = ⟨(levL s.level).toArray⟩ := ⟨_, rfl⟩
  have HLV := Lib.hid (fun w' => rlevel_any s.level w')
  rw [lev_yes_if hl0 hl1, ← hL] at HLV
  have HL := Lib.hid hL
  clear hL
  obtain ⟨P, hP⟩ : ∃ P : ByteArray, P = ⟨(jn ls s.scopes ls.length).toArray⟩ := ⟨_, rfl⟩
  have HPR := Lib.hid (fun (w' : World) (hb : Below W.heap.size W w') => (refprint_any v ls HIN.out.hbk s.scopes HIN.out.hsc w' (HIN.out.arg.below (HB0.out.trans (hb.mono HB0.out.size)))).mono fun e w2 h2 => (⟨by have h3 := h2.1; rw [scopes_ok hs] at h3; rw [hP]; exact h3, h2.2⟩ : e = .returned (.tuple #[.string P, .int .i64 0]) ∧ w' = w2))
  have HPL : Hid (P.size ≤ 8512) := by
    show _ ≤ _
    have h1 := vjn_len HIN.out.hbk s.scopes ls.length (Nat.le_refl _)
    have h2 := HIN.out.hbk.len
    have h3 : P.size = (jn ls s.scopes ls.length).length := by rw [hP]; simp [ByteArray.size]
    omega
  have HP := Lib.hid hP
  clear hP
  obtain ⟨t, ht⟩ : ∃ t, t = lft now s.dl := ⟨_, rfl⟩
  have HLE := Lib.hid (fun w' => refleft_any now s.dl wn hin.wd w')
  rw [← ht] at HLE
  have hlb := lft_bd (now := now) (d := s.dl) g0 g3
  rw [← ht] at hlb
  obtain ⟨Q, hQ⟩ : ∃ Q : ByteArray, Q = ⟨(prt t).toArray⟩ := ⟨_, rfl⟩
  have HCP := Lib.hid (fun (w' : World) => rcprint_any t (tm_of hlb.1 hlb.2) w')
  rw [← hQ] at HCP
  have hQs : Q.size ≤ 88 := by rw [← size_list, hQ, mk_list]; exact vprt_len t hlb.1 hlb.2
  have hQl : Q.data.toList = prt (lft now s.dl) := by rw [hQ, mk_list, ht]
  clear ht hQ hlb
  obtain ⟨D, hD⟩ : ∃ D : ByteArray, D = ⟨(Lib.itoa s.birth).toArray⟩ := ⟨_, rfl⟩
  have HIT := Lib.hid (fun (w' : World) => vdigits_any s.birth.toNat (by omega) (by omega) w')
  have hDe : D = ⟨(Lib.decDigits s.birth.toNat).toArray⟩ := by rw [hD]; unfold Lib.itoa; rw [if_neg (by omega)]
  rw [← hDe, Int.toNat_of_nonneg (by omega)] at HIT
  have hDs : D.size ≤ 21 := by rw [← size_list, hD, mk_list]; exact Lib.itoa_length_le s.birth (by omega) (by omega)
  have hDl : D.data.toList = Lib.itoa s.birth := by rw [hD, mk_list]
  clear hD hDe
  have hKs : K.size ≤ 9 := by rw [← size_list, HK.out, mk_list]; exact kind_len _
  have hLs : L.size ≤ 4 := by rw [← size_list, HL.out, mk_list]; exact lev_len _
  have hUl : s.user.data.toList = whoL s := by unfold whoL; rw [if_pos he, List.append_nil]
  have hUs : s.user.size ≤ 2097153 := by have := vsz hu; omega
  obtain ⟨M0, hm0⟩ : ∃ X : ByteArray, X = D ++ ⟨#[32]⟩ := ⟨_, rfl⟩
  obtain ⟨c0, d0, f0⟩ := vadd 21 1 hDs (by show 1 ≤ 1; omega) (by omega) hm0
  clear hm0
  obtain ⟨M1, hm1⟩ : ∃ X : ByteArray, X = M0 ++ s.user := ⟨_, rfl⟩
  obtain ⟨c1, d1, f1⟩ := vadd 22 2097153 d0 hUs (by omega) hm1
  clear hm1
  obtain ⟨M2, hm2⟩ : ∃ X : ByteArray, X = M1 ++ ⟨#[32]⟩ := ⟨_, rfl⟩
  obtain ⟨c2, d2, f2⟩ := vadd 2097175 1 d1 (by show 1 ≤ 1; omega) (by omega) hm2
  clear hm2
  obtain ⟨M3, hm3⟩ : ∃ X : ByteArray, X = M2 ++ K := ⟨_, rfl⟩
  obtain ⟨c3, d3, f3⟩ := vadd 2097176 9 d2 hKs (by omega) hm3
  clear hm3
  obtain ⟨M4, hm4⟩ : ∃ X : ByteArray, X = M3 ++ ⟨#[32]⟩ := ⟨_, rfl⟩
  obtain ⟨c4, d4, f4⟩ := vadd 2097185 1 d3 (by show 1 ≤ 1; omega) (by omega) hm4
  clear hm4
  obtain ⟨M5, hm5⟩ : ∃ X : ByteArray, X = M4 ++ L := ⟨_, rfl⟩
  obtain ⟨c5, d5, f5⟩ := vadd 2097186 4 d4 hLs (by omega) hm5
  clear hm5
  obtain ⟨M6, hm6⟩ : ∃ X : ByteArray, X = M5 ++ ⟨#[32, 91]⟩ := ⟨_, rfl⟩
  obtain ⟨c6, d6, f6⟩ := vadd 2097190 2 d5 (by show 2 ≤ 2; omega) (by omega) hm6
  clear hm6
  obtain ⟨M7, hm7⟩ : ∃ X : ByteArray, X = M6 ++ P := ⟨_, rfl⟩
  obtain ⟨c7, d7, f7⟩ := vadd 2097192 8512 d6 HPL.out (by omega) hm7
  clear hm7
  obtain ⟨M8, hm8⟩ : ∃ X : ByteArray, X = M7 ++ ⟨#[93, 32]⟩ := ⟨_, rfl⟩
  obtain ⟨c8, d8, f8⟩ := vadd 2105704 2 d7 (by show 2 ≤ 2; omega) (by omega) hm8
  clear hm8
  obtain ⟨J, hm9⟩ : ∃ X : ByteArray, X = M8 ++ Q := ⟨_, rfl⟩
  obtain ⟨c9, d9, f9⟩ := vadd 2105706 88 d8 hQs (by omega) hm9
  clear hm9
  have HJT : Hid (J.data.toList = textL ls s now) := by
    show _ = _
    rw [f9, f8, f7, f6, f5, f4, f3, f2, f1, f0, hDl, hUl, HK.out, HL.out, HP.out, hQl, mk_list, mk_list, mk_list]
    unfold textL
    rw [scopes_ok hs]
    exact rline_text _ _ _ _ _ _
  clear d0 f0 d1 f1 d2 f2 d3 f3 d4 f4 d5 f5 d6 f6 d7 f7 d8 f8 d9 f9 hDs hDl hKs hLs hUl hUs hQs hQl
  have hnb : ¬ (nameB s.user.data.toList = false ∨ (s.label.data.toList ≠ [] ∧ nameB s.label.data.toList = false)) := by
    rintro (h | ⟨h1, h2⟩)
    · rw [hu] at h; cases h
    · exact h1 he
  have HRU := Lib.hid (line_g (ls := ls) (s := s) (now := now) (show ¬ (s.birth < 1 ∨ 1048576 < s.birth) by omega) hnb (show ¬ (s.kind < 0 ∨ 2 < s.kind) by omega) (show ¬ (s.level < 0 ∨ 2 < s.level) by omega) hs (show ¬ (now < 0 ∨ 1099511627776 < now ∨ s.dl < 0 ∨ 1099511627776 < s.dl) by omega))
  clear hbx hb0 hin wn
  clear hu hk0 hk1 hl0 hl1 hs hnb he
  go_enter Tryz.func8, Tryz.ntmps8
  go_wp2_with fail
  rw [← hW]
  clear hW
  refine (HN1.out _).mono ?_
  rintro e w1 ⟨rfl, hbc⟩
  have HC1 : Hid (Below W.heap.size W w1) := hbc
  clear hbc x1 x4 x5 x6 x7 x8 x10
  obtain ⟨x1, x4, x5, x6, x7, x8, x10⟩ := HX.out w1 HC1.out
  go_wp2_with fail
  refine (HWD.out _).mono ?_
  rintro e w0 ⟨rfl, rfl⟩
  go_wp2_with fail
  refine (HLV.out _).mono ?_
  rintro e w0 ⟨rfl, rfl⟩
  go_wp2_with fail
  refine (HPR.out _ HC1.out).mono ?_
  rintro e w0 ⟨rfl, rfl⟩
  go_wp2_with fail
  refine (HLE.out _).mono ?_
  rintro e w0 ⟨rfl, rfl⟩
  go_wp2_with fail
  refine (HCP.out _).mono ?_
  rintro e w2 ⟨rfl, hbc⟩
  have HC2 : Hid (Below W.heap.size W w2) := HC1.out.trans (hbc.mono HC1.out.size)
  clear hbc x1 x4 x5 x6 x7 x8 x10
  obtain ⟨x1, x4, x5, x6, x7, x8, x10⟩ := HX.out w2 HC2.out
  go_wp2_with fail
  have HH := Lib.hid (fun (w' : World) (hb : Below W.heap.size W w') => (by
    obtain ⟨y1, y4, y5, y6, y7, y8, y10⟩ := HX.out w' hb
    exact ⟨y1, y4⟩ : w'.cell? ⟨w.heap.size, 1, none⟩ = some (.int .i64 s.birth) ∧ w'.cell? ⟨w.heap.size, 4, none⟩ = some (.int .i64 s.kind)))
  have HD := Lib.hid (HC2.out.trans (Below.mono (Below.drew (Below.refl w2.heap.size w2)) HC2.out.size))
  go_region_held3 (fun w' => w'.cell? ⟨w.heap.size, 1, none⟩ = some (.int .i64 s.birth) ∧ w'.cell? ⟨w.heap.size, 4, none⟩ = some (.int .i64 s.kind)) (go_keep) (first
    | (go_at_call 36; refine (HIT.out _).mono ?_; rintro e v1 ⟨rfl, hbi⟩; (have HV1 := Lib.hid (HD.out.trans (hbi.mono HD.out.size))); obtain ⟨n1, n4⟩ := HH.out _ HV1.out; clear hbi)
    | (go_at_call 31; refine (HWD.out _).mono ?_; rintro e v2 ⟨rfl, rfl⟩))
  go_wp2
  go_ret2
  exact ⟨RLinePost.mk (no := 0) HRU.out HJT.out rfl, HB0.out.trans (HV1.out.mono HB0.out.size)⟩

set_option maxHeartbeats 4000000 in
theorem rline_gl (v : Value) (ls : List ByteArray) (s : Sess) (now : Int) (wn : (Lit.int .i64 now).wf = true) (w : World) (hin : RLineIn v ls s w) (ha0 : 1 ≤ s.birth) (ha1 : s.birth ≤ 1048576) (hu : nameB s.user.data.toList = true) (hne : s.label.data.toList ≠ []) (hl : nameB s.label.data.toList = true) (hk0 : 0 ≤ s.kind) (hk1 : s.kind ≤ 2) (hl0 : 0 ≤ s.level) (hl1 : s.level ≤ 2) (hs : ¬ 2 ^ ls.length ≤ s.scopes) (g0 : 0 ≤ now) (g1 : now ≤ 1099511627776) (g2 : 0 ≤ s.dl) (g3 : s.dl ≤ 1099511627776) :
    Calls Tryz.prog 8 #[v, .agg #[.int .i64 s.slot, .int .i64 s.birth, .int .i64 s.us, .int .i64 s.ub, .int .i64 s.kind, .string s.user, .string s.label, .int .u64 (s.scopes : Int), .int .i64 s.level, .int .i64 s.born, .int .i64 s.dl, .int .i64 s.depth], .int .i64 now] w fun e w' => RLinePost ls s now e ∧ Below w.heap.size w w' := by
  obtain ⟨W, hW⟩ : ∃ W, W = w.alloc (.cells #[.int .i64 s.slot, .int .i64 s.birth, .int .i64 s.us, .int .i64 s.ub, .int .i64 s.kind, .string s.user, .string s.label, .int .u64 (s.scopes : Int), .int .i64 s.level, .int .i64 s.born, .int .i64 s.dl, .int .i64 s.depth] 30) := ⟨_, rfl⟩
  have hb0 : Below w.heap.size w W := by rw [hW]; exact (Below.refl _ _).alloc (Nat.le_refl _) _
  have hbx : W.heap[w.heap.size]? = some (.cells #[.int .i64 s.slot, .int .i64 s.birth, .int .i64 s.us, .int .i64 s.ub, .int .i64 s.kind, .string s.user, .string s.label, .int .u64 (s.scopes : Int), .int .i64 s.level, .int .i64 s.born, .int .i64 s.dl, .int .i64 s.depth] 30 (0, 0)) := by rw [hW]; exact Ut.alloc_at _ _
  have HX := Lib.hid (fun (w' : World) (hb : Below W.heap.size W w') => (by
    have h1 := (hb.block w.heap.size (Array.getElem?_eq_some_iff.1 hbx).1).trans hbx
    have h2 : ∀ j, w'.cell? ⟨w.heap.size, j, none⟩ = (#[.int .i64 s.slot, .int .i64 s.birth, .int .i64 s.us, .int .i64 s.ub, .int .i64 s.kind, .string s.user, .string s.label, .int .u64 (s.scopes : Int), .int .i64 s.level, .int .i64 s.born, .int .i64 s.dl, .int .i64 s.depth] : Array Value)[j]? := fun j => cell_of_row _ _ _ _ _ _ h1
    exact ⟨h2 1, h2 4, h2 5, h2 6, h2 7, h2 8, h2 10⟩ : w'.cell? ⟨w.heap.size, 1, none⟩ = some (.int .i64 s.birth) ∧ w'.cell? ⟨w.heap.size, 4, none⟩ = some (.int .i64 s.kind) ∧ w'.cell? ⟨w.heap.size, 5, none⟩ = some (.string s.user) ∧ w'.cell? ⟨w.heap.size, 6, none⟩ = some (.string s.label) ∧ w'.cell? ⟨w.heap.size, 7, none⟩ = some (.int .u64 (s.scopes : Int)) ∧ w'.cell? ⟨w.heap.size, 8, none⟩ = some (.int .i64 s.level) ∧ w'.cell? ⟨w.heap.size, 10, none⟩ = some (.int .i64 s.dl)))
  obtain ⟨x1, x4, x5, x6, x7, x8, x10⟩ := HX.out W (Below.refl _ _)
  have HB0 := Lib.hid hb0
  have HW := Lib.hid hW
  have HIN := Lib.hid hin
  have HN1 := Lib.hid (fun (w' : World) => (refname_any s.user (by have := HIN.out.hz1; omega) w').mono fun e w2 h2 => (by rw [hu] at h2; exact h2 : e = .returned (.bool true) ∧ Below w'.heap.size w' w2))
  have HN2 := Lib.hid (fun (w' : World) => (refname_any s.label (by have := HIN.out.hz2; omega) w').mono fun e w2 h2 => (by rw [hl] at h2; exact h2 : e = .returned (.bool true) ∧ Below w'.heap.size w' w2))
  have l1 : s.label.toList.isEmpty = false := by rw [Lib.toList_data]; cases h : s.label.data.toList with | nil => exact absurd h hne | cons a r => rfl
  obtain ⟨K, hK⟩ : ∃ K : ByteArray, K = ⟨(kindL s.kind).toArray⟩ := ⟨_, rfl⟩
  have HWD := Lib.hid (fun w' => rkind_any s.kind w')
  rw [← hK] at HWD
  have hKe : K.toList.isEmpty = false := by
    rw [Lib.toList_data, hK]
    have := kind_yes hk0 hk1
    show (kindL s.kind).isEmpty = false
    cases h : kindL s.kind with
    | nil => exact absurd h this
    | cons a r => rfl
  have HK := Lib.hid hK
  clear hK
  obtain ⟨L, hL⟩ : ∃ L : ByteArray, L = ⟨(levL s.level).toArray⟩ := ⟨_, rfl⟩
  have HLV := Lib.hid (fun w' => rlevel_any s.level w')
  rw [lev_yes_if hl0 hl1, ← hL] at HLV
  have HL := Lib.hid hL
  clear hL
  obtain ⟨P, hP⟩ : ∃ P : ByteArray, P = ⟨(jn ls s.scopes ls.length).toArray⟩ := ⟨_, rfl⟩
  have HPR := Lib.hid (fun (w' : World) (hb : Below W.heap.size W w') => (refprint_any v ls HIN.out.hbk s.scopes HIN.out.hsc w' (HIN.out.arg.below (HB0.out.trans (hb.mono HB0.out.size)))).mono fun e w2 h2 => (⟨by have h3 := h2.1; rw [scopes_ok hs] at h3; rw [hP]; exact h3, h2.2⟩ : e = .returned (.tuple #[.string P, .int .i64 0]) ∧ w' = w2))
  have HPL : Hid (P.size ≤ 8512) := by
    show _ ≤ _
    have h1 := vjn_len HIN.out.hbk s.scopes ls.length (Nat.le_refl _)
    have h2 := HIN.out.hbk.len
    have h3 : P.size = (jn ls s.scopes ls.length).length := by rw [hP]; simp [ByteArray.size]
    omega
  have HP := Lib.hid hP
  clear hP
  obtain ⟨t, ht⟩ : ∃ t, t = lft now s.dl := ⟨_, rfl⟩
  have HLE := Lib.hid (fun w' => refleft_any now s.dl wn hin.wd w')
  rw [← ht] at HLE
  have hlb := lft_bd (now := now) (d := s.dl) g0 g3
  rw [← ht] at hlb
  obtain ⟨Q, hQ⟩ : ∃ Q : ByteArray, Q = ⟨(prt t).toArray⟩ := ⟨_, rfl⟩
  have HCP := Lib.hid (fun (w' : World) => rcprint_any t (tm_of hlb.1 hlb.2) w')
  rw [← hQ] at HCP
  have hQs : Q.size ≤ 88 := by rw [← size_list, hQ, mk_list]; exact vprt_len t hlb.1 hlb.2
  have hQl : Q.data.toList = prt (lft now s.dl) := by rw [hQ, mk_list, ht]
  clear ht hQ hlb
  obtain ⟨D, hD⟩ : ∃ D : ByteArray, D = ⟨(Lib.itoa s.birth).toArray⟩ := ⟨_, rfl⟩
  have HIT := Lib.hid (fun (w' : World) => vdigits_any s.birth.toNat (by omega) (by omega) w')
  have hDe : D = ⟨(Lib.decDigits s.birth.toNat).toArray⟩ := by rw [hD]; unfold Lib.itoa; rw [if_neg (by omega)]
  rw [← hDe, Int.toNat_of_nonneg (by omega)] at HIT
  have hDs : D.size ≤ 21 := by rw [← size_list, hD, mk_list]; exact Lib.itoa_length_le s.birth (by omega) (by omega)
  have hDl : D.data.toList = Lib.itoa s.birth := by rw [hD, mk_list]
  clear hD hDe
  have hKs : K.size ≤ 9 := by rw [← size_list, HK.out, mk_list]; exact kind_len _
  have hLs : L.size ≤ 4 := by rw [← size_list, HL.out, mk_list]; exact lev_len _
  obtain ⟨C1, hC1⟩ : ∃ C1 : ByteArray, C1 = s.user ++ ⟨#[47]⟩ := ⟨_, rfl⟩
  obtain ⟨U, hU⟩ : ∃ U : ByteArray, U = C1 ++ s.label := ⟨_, rfl⟩
  obtain ⟨k1, z1, q1⟩ := vadd 1048576 1 (vsz hu) (by show 1 ≤ 1; omega) (by omega) hC1
  obtain ⟨k2, z2, q2⟩ := vadd (1048576 + 1) 1048576 z1 (vsz hl) (by omega) hU
  have hUl : U.data.toList = whoL s := by
    rw [q2, q1]; unfold whoL; rw [if_neg hne, List.append_assoc]; rfl
  have hUs : U.size ≤ 2097153 := by omega
  clear hC1 hU q1 q2 z1 z2
  obtain ⟨M0, hm0⟩ : ∃ X : ByteArray, X = D ++ ⟨#[32]⟩ := ⟨_, rfl⟩
  obtain ⟨c0, d0, f0⟩ := vadd 21 1 hDs (by show 1 ≤ 1; omega) (by omega) hm0
  clear hm0
  obtain ⟨M1, hm1⟩ : ∃ X : ByteArray, X = M0 ++ U := ⟨_, rfl⟩
  obtain ⟨c1, d1, f1⟩ := vadd 22 2097153 d0 hUs (by omega) hm1
  clear hm1
  obtain ⟨M2, hm2⟩ : ∃ X : ByteArray, X = M1 ++ ⟨#[32]⟩ := ⟨_, rfl⟩
  obtain ⟨c2, d2, f2⟩ := vadd 2097175 1 d1 (by show 1 ≤ 1; omega) (by omega) hm2
  clear hm2
  obtain ⟨M3, hm3⟩ : ∃ X : ByteArray, X = M2 ++ K := ⟨_, rfl⟩
  obtain ⟨c3, d3, f3⟩ := vadd 2097176 9 d2 hKs (by omega) hm3
  clear hm3
  obtain ⟨M4, hm4⟩ : ∃ X : ByteArray, X = M3 ++ ⟨#[32]⟩ := ⟨_, rfl⟩
  obtain ⟨c4, d4, f4⟩ := vadd 2097185 1 d3 (by show 1 ≤ 1; omega) (by omega) hm4
  clear hm4
  obtain ⟨M5, hm5⟩ : ∃ X : ByteArray, X = M4 ++ L := ⟨_, rfl⟩
  obtain ⟨c5, d5, f5⟩ := vadd 2097186 4 d4 hLs (by omega) hm5
  clear hm5
  obtain ⟨M6, hm6⟩ : ∃ X : ByteArray, X = M5 ++ ⟨#[32, 91]⟩ := ⟨_, rfl⟩
  obtain ⟨c6, d6, f6⟩ := vadd 2097190 2 d5 (by show 2 ≤ 2; omega) (by omega) hm6
  clear hm6
  obtain ⟨M7, hm7⟩ : ∃ X : ByteArray, X = M6 ++ P := ⟨_, rfl⟩
  obtain ⟨c7, d7, f7⟩ := vadd 2097192 8512 d6 HPL.out (by omega) hm7
  clear hm7
  obtain ⟨M8, hm8⟩ : ∃ X : ByteArray, X = M7 ++ ⟨#[93, 32]⟩ := ⟨_, rfl⟩
  obtain ⟨c8, d8, f8⟩ := vadd 2105704 2 d7 (by show 2 ≤ 2; omega) (by omega) hm8
  clear hm8
  obtain ⟨J, hm9⟩ : ∃ X : ByteArray, X = M8 ++ Q := ⟨_, rfl⟩
  obtain ⟨c9, d9, f9⟩ := vadd 2105706 88 d8 hQs (by omega) hm9
  clear hm9
  have HJT : Hid (J.data.toList = textL ls s now) := by
    show _ = _
    rw [f9, f8, f7, f6, f5, f4, f3, f2, f1, f0, hDl, hUl, HK.out, HL.out, HP.out, hQl, mk_list, mk_list, mk_list]
    unfold textL
    rw [scopes_ok hs]
    exact rline_text _ _ _ _ _ _
  clear d0 f0 d1 f1 d2 f2 d3 f3 d4 f4 d5 f5 d6 f6 d7 f7 d8 f8 d9 f9 hDs hDl hKs hLs hUl hUs hQs hQl
  have hnb : ¬ (nameB s.user.data.toList = false ∨ (s.label.data.toList ≠ [] ∧ nameB s.label.data.toList = false)) := by
    rintro (h | ⟨h1, h2⟩)
    · rw [hu] at h; cases h
    · rw [hl] at h2; cases h2
  have HRU := Lib.hid (line_g (ls := ls) (s := s) (now := now) (show ¬ (s.birth < 1 ∨ 1048576 < s.birth) by omega) hnb (show ¬ (s.kind < 0 ∨ 2 < s.kind) by omega) (show ¬ (s.level < 0 ∨ 2 < s.level) by omega) hs (show ¬ (now < 0 ∨ 1099511627776 < now ∨ s.dl < 0 ∨ 1099511627776 < s.dl) by omega))
  clear hbx hb0 hin wn
  clear hu hk0 hk1 hl0 hl1 hs hnb hl hne
  go_enter Tryz.func8, Tryz.ntmps8
  go_wp2_with fail
  rw [← hW]
  clear hW
  refine (HN1.out _).mono ?_
  rintro e w1 ⟨rfl, hbc⟩
  have HC1 : Hid (Below W.heap.size W w1) := hbc
  clear hbc x1 x4 x5 x6 x7 x8 x10
  obtain ⟨x1, x4, x5, x6, x7, x8, x10⟩ := HX.out w1 HC1.out
  go_wp2_with fail
  refine (HN2.out _).mono ?_
  rintro e w2 ⟨rfl, hbc⟩
  have HC2 : Hid (Below W.heap.size W w2) := HC1.out.trans (hbc.mono HC1.out.size)
  clear hbc x1 x4 x5 x6 x7 x8 x10
  obtain ⟨x1, x4, x5, x6, x7, x8, x10⟩ := HX.out w2 HC2.out
  go_wp2_with fail
  refine (HWD.out _).mono ?_
  rintro e w0 ⟨rfl, rfl⟩
  go_wp2_with fail
  refine (HLV.out _).mono ?_
  rintro e w0 ⟨rfl, rfl⟩
  go_wp2_with fail
  refine (HPR.out _ HC2.out).mono ?_
  rintro e w0 ⟨rfl, rfl⟩
  go_wp2_with fail
  refine (HLE.out _).mono ?_
  rintro e w0 ⟨rfl, rfl⟩
  go_wp2_with fail
  refine (HCP.out _).mono ?_
  rintro e w3 ⟨rfl, hbc⟩
  have HC3 : Hid (Below W.heap.size W w3) := HC2.out.trans (hbc.mono HC2.out.size)
  clear hbc x1 x4 x5 x6 x7 x8 x10
  obtain ⟨x1, x4, x5, x6, x7, x8, x10⟩ := HX.out w3 HC3.out
  go_wp2_with fail
  have HH := Lib.hid (fun (w' : World) (hb : Below W.heap.size W w') => (by
    obtain ⟨y1, y4, y5, y6, y7, y8, y10⟩ := HX.out w' hb
    exact ⟨y1, y4⟩ : w'.cell? ⟨w.heap.size, 1, none⟩ = some (.int .i64 s.birth) ∧ w'.cell? ⟨w.heap.size, 4, none⟩ = some (.int .i64 s.kind)))
  have HD := Lib.hid (HC3.out.trans (Below.mono (Below.drew (Below.refl w3.heap.size w3)) HC3.out.size))
  go_region_held3 (fun w' => w'.cell? ⟨w.heap.size, 1, none⟩ = some (.int .i64 s.birth) ∧ w'.cell? ⟨w.heap.size, 4, none⟩ = some (.int .i64 s.kind)) (go_keep) (first
    | (go_at_call 36; refine (HIT.out _).mono ?_; rintro e v1 ⟨rfl, hbi⟩; (have HV1 := Lib.hid (HD.out.trans (hbi.mono HD.out.size))); obtain ⟨n1, n4⟩ := HH.out _ HV1.out; clear hbi)
    | (go_at_call 31; refine (HWD.out _).mono ?_; rintro e v2 ⟨rfl, rfl⟩))
  go_wp2
  go_ret2
  exact ⟨RLinePost.mk (no := 0) HRU.out HJT.out rfl, HB0.out.trans (HV1.out.mono HB0.out.size)⟩

end Vw
end Go.Proofs.YtocoonkachbjaaaGreatDoor

/- view.Line and the document's Line: all their ways in one, each. -/
namespace Go.Proofs.YtocoonkachbjaaaGreatDoor
open Go.RowKit Go.Proofs.NmPlain Go.Proofs.Ar Go.Proofs.YtocoonkachbjaaaGreatDoor.Sc
set_option linter.unusedVariables false
namespace Vw
theorem line_any (lo B : Nat) (ls : List ByteArray) (s : Sess) (now : Int) (wn : (Lit.int .i64 now).wf = true) (w : World) (hin : LineIn lo B ls s w) :
    Calls Tryz.prog 7 #[.pointer (some ⟨B, 0, none⟩), .agg #[.int .i64 s.slot, .int .i64 s.birth, .int .i64 s.us, .int .i64 s.ub, .int .i64 s.kind, .string s.user, .string s.label, .int .u64 (s.scopes : Int), .int .i64 s.level, .int .i64 s.born, .int .i64 s.dl, .int .i64 s.depth], .int .i64 now] w fun e w' => LinePost ls s now e ∧ Below w.heap.size w w' := by
  by_cases a1 : s.birth < 1
  · exact line_a1w lo B ls s now wn w hin a1
  by_cases a2 : 1048576 < s.birth
  · exact line_a2w lo B ls s now wn w hin (by omega) a2
  have a1' : 1 ≤ s.birth := by omega
  have a2' : s.birth ≤ 1048576 := by omega
  clear a1 a2
  cases hu : nameB s.user.data.toList with
  | false => exact line_b1w lo B ls s now wn w hin a1' a2' hu
  | true =>
  by_cases he : s.label.data.toList = []
  · by_cases hk : s.kind < 0 ∨ 2 < s.kind
    · exact line_cnw lo B ls s now wn w hin a1' a2' hu he hk
    by_cases hl : s.level < 0 ∨ 2 < s.level
    · exact line_dnw lo B ls s now wn w hin a1' a2' hu he (by omega) (by omega) hl
    by_cases hs : 2 ^ ls.length ≤ s.scopes
    · exact line_enw lo B ls s now wn w hin a1' a2' hu he (by omega) (by omega) (by omega) (by omega) hs
    by_cases f1 : now < 0
    · exact line_f1nw lo B ls s now wn w hin a1' a2' hu he (by omega) (by omega) (by omega) (by omega) hs f1
    by_cases f2 : 1099511627776 < now
    · exact line_f2nw lo B ls s now wn w hin a1' a2' hu he (by omega) (by omega) (by omega) (by omega) hs (by omega) f2
    by_cases f3 : s.dl < 0
    · exact line_f3nw lo B ls s now wn w hin a1' a2' hu he (by omega) (by omega) (by omega) (by omega) hs (by omega) (by omega) f3
    by_cases f4 : 1099511627776 < s.dl
    · exact line_f4nw lo B ls s now wn w hin a1' a2' hu he (by omega) (by omega) (by omega) (by omega) hs (by omega) (by omega) (by omega) f4
    exact line_gnw lo B ls s now wn w hin a1' a2' hu he (by omega) (by omega) (by omega) (by omega) hs (by omega) (by omega) (by omega) (by omega)
  cases hl : nameB s.label.data.toList with
  | false => exact line_b2w lo B ls s now wn w hin a1' a2' hu he hl
  | true =>
    by_cases hk : s.kind < 0 ∨ 2 < s.kind
    · exact line_clw lo B ls s now wn w hin a1' a2' hu he hl hk
    by_cases hv : s.level < 0 ∨ 2 < s.level
    · exact line_dlw lo B ls s now wn w hin a1' a2' hu he hl (by omega) (by omega) hv
    by_cases hs : 2 ^ ls.length ≤ s.scopes
    · exact line_elw lo B ls s now wn w hin a1' a2' hu he hl (by omega) (by omega) (by omega) (by omega) hs
    by_cases f1 : now < 0
    · exact line_f1lw lo B ls s now wn w hin a1' a2' hu he hl (by omega) (by omega) (by omega) (by omega) hs f1
    by_cases f2 : 1099511627776 < now
    · exact line_f2lw lo B ls s now wn w hin a1' a2' hu he hl (by omega) (by omega) (by omega) (by omega) hs (by omega) f2
    by_cases f3 : s.dl < 0
    · exact line_f3lw lo B ls s now wn w hin a1' a2' hu he hl (by omega) (by omega) (by omega) (by omega) hs (by omega) (by omega) f3
    by_cases f4 : 1099511627776 < s.dl
    · exact line_f4lw lo B ls s now wn w hin a1' a2' hu he hl (by omega) (by omega) (by omega) (by omega) hs (by omega) (by omega) (by omega) f4
    exact line_glw lo B ls s now wn w hin a1' a2' hu he hl (by omega) (by omega) (by omega) (by omega) hs (by omega) (by omega) (by omega) (by omega)

theorem rline_any (v : Value) (ls : List ByteArray) (s : Sess) (now : Int) (wn : (Lit.int .i64 now).wf = true) (w : World) (hin : RLineIn v ls s w) :
    Calls Tryz.prog 8 #[v, .agg #[.int .i64 s.slot, .int .i64 s.birth, .int .i64 s.us, .int .i64 s.ub, .int .i64 s.kind, .string s.user, .string s.label, .int .u64 (s.scopes : Int), .int .i64 s.level, .int .i64 s.born, .int .i64 s.dl, .int .i64 s.depth], .int .i64 now] w fun e w' => RLinePost ls s now e ∧ Below w.heap.size w w' := by
  by_cases a1 : s.birth < 1
  · exact rline_a1 v ls s now wn w hin a1
  by_cases a2 : 1048576 < s.birth
  · exact rline_a2 v ls s now wn w hin (by omega) a2
  have a1' : 1 ≤ s.birth := by omega
  have a2' : s.birth ≤ 1048576 := by omega
  clear a1 a2
  cases hu : nameB s.user.data.toList with
  | false => exact rline_b1 v ls s now wn w hin a1' a2' hu
  | true =>
  by_cases he : s.label.data.toList = []
  · by_cases hk : s.kind < 0 ∨ 2 < s.kind
    · exact rline_cn v ls s now wn w hin a1' a2' hu he hk
    by_cases hl : s.level < 0 ∨ 2 < s.level
    · exact rline_dn v ls s now wn w hin a1' a2' hu he (by omega) (by omega) hl
    by_cases hs : 2 ^ ls.length ≤ s.scopes
    · exact rline_en v ls s now wn w hin a1' a2' hu he (by omega) (by omega) (by omega) (by omega) hs
    by_cases f1 : now < 0
    · exact rline_f1n v ls s now wn w hin a1' a2' hu he (by omega) (by omega) (by omega) (by omega) hs f1
    by_cases f2 : 1099511627776 < now
    · exact rline_f2n v ls s now wn w hin a1' a2' hu he (by omega) (by omega) (by omega) (by omega) hs (by omega) f2
    by_cases f3 : s.dl < 0
    · exact rline_f3n v ls s now wn w hin a1' a2' hu he (by omega) (by omega) (by omega) (by omega) hs (by omega) (by omega) f3
    by_cases f4 : 1099511627776 < s.dl
    · exact rline_f4n v ls s now wn w hin a1' a2' hu he (by omega) (by omega) (by omega) (by omega) hs (by omega) (by omega) (by omega) f4
    exact rline_gn v ls s now wn w hin a1' a2' hu he (by omega) (by omega) (by omega) (by omega) hs (by omega) (by omega) (by omega) (by omega)
  cases hl : nameB s.label.data.toList with
  | false => exact rline_b2 v ls s now wn w hin a1' a2' hu he hl
  | true =>
    by_cases hk : s.kind < 0 ∨ 2 < s.kind
    · exact rline_cl v ls s now wn w hin a1' a2' hu he hl hk
    by_cases hv : s.level < 0 ∨ 2 < s.level
    · exact rline_dl v ls s now wn w hin a1' a2' hu he hl (by omega) (by omega) hv
    by_cases hs : 2 ^ ls.length ≤ s.scopes
    · exact rline_el v ls s now wn w hin a1' a2' hu he hl (by omega) (by omega) (by omega) (by omega) hs
    by_cases f1 : now < 0
    · exact rline_f1l v ls s now wn w hin a1' a2' hu he hl (by omega) (by omega) (by omega) (by omega) hs f1
    by_cases f2 : 1099511627776 < now
    · exact rline_f2l v ls s now wn w hin a1' a2' hu he hl (by omega) (by omega) (by omega) (by omega) hs (by omega) f2
    by_cases f3 : s.dl < 0
    · exact rline_f3l v ls s now wn w hin a1' a2' hu he hl (by omega) (by omega) (by omega) (by omega) hs (by omega) (by omega) f3
    by_cases f4 : 1099511627776 < s.dl
    · exact rline_f4l v ls s now wn w hin a1' a2' hu he hl (by omega) (by omega) (by omega) (by omega) hs (by omega) (by omega) (by omega) f4
    exact rline_gl v ls s now wn w hin a1' a2' hu he hl (by omega) (by omega) (by omega) (by omega) hs (by omega) (by omega) (by omega) (by omega)
end Vw
end Go.Proofs.YtocoonkachbjaaaGreatDoor

/- Literal lists where they lie. -/
namespace Go.Proofs.YtocoonkachbjaaaGreatDoor
open Go.RowKit
set_option linter.unusedVariables false

/-- A block of cells that hold these values. -/
def LitAt (w : World) (g : Nat) (vs : List Value) : Prop := ∃ t f, w.heap[g]? = some (.cells vs.toArray t f)
theorem LitAt.lt {w : World} {g : Nat} {vs : List Value} (h : LitAt w g vs) : g < w.heap.size := by
  obtain ⟨t, f, h⟩ := h
  exact (Array.getElem?_eq_some_iff.1 h).1
theorem LitAt.below {w w' : World} {g : Nat} {vs : List Value} (h : LitAt w g vs) (hb : Below w.heap.size w w') : LitAt w' g vs := by
  have hl := h.lt
  obtain ⟨t, f, h⟩ := h
  exact ⟨t, f, (hb.block g hl).trans h⟩
theorem LitAt.cell {w : World} {g : Nat} {vs : List Value} (h : LitAt w g vs) (k : Nat) : w.cell? ⟨g, k, none⟩ = vs[k]? := by
  obtain ⟨t, f, h⟩ := h
  simp [World.cell?, h]
theorem LitAt.get {α : Type} {f : α → Value} {l : List α} {w : World} {g : Nat} (h : LitAt w g (l.map f)) {k : Nat} (hk : k < l.length) (d : α) : w.cell? ⟨g, k, none⟩ = some (f (l.getD k d)) := by
  rw [h.cell, List.getElem?_map, List.getD_eq_getElem?_getD, List.getElem?_eq_getElem hk]
  rfl
theorem LitAt.alloc {w : World} {g : Nat} {vs : List Value} (h : LitAt w g vs) (o : Obj) : LitAt (w.alloc o) g vs :=
  h.below ((Below.refl _ _).alloc (Nat.le_refl _) o)
theorem lit0 (w : World) (vs : List Value) (t : TypeId) : LitAt (w.alloc (.cells vs.toArray t)) w.heap.size vs := ⟨t, _, Ut.alloc_at _ _⟩
theorem lit1 (w : World) (o : Obj) (vs : List Value) (t : TypeId) : LitAt ((w.alloc o).alloc (.cells vs.toArray t)) (w.heap.size + 1) vs := by
  have h := lit0 (w.alloc o) vs t
  rw [show (w.alloc o).heap.size = w.heap.size + 1 by simp] at h
  exact h
theorem lit2 (w : World) (o o2 : Obj) (vs : List Value) (t : TypeId) : LitAt (((w.alloc o).alloc o2).alloc (.cells vs.toArray t)) (w.heap.size + 2) vs := by
  have h := lit1 (w.alloc o) o2 vs t
  rw [show (w.alloc o).heap.size = w.heap.size + 1 by simp] at h
  exact h

end Go.Proofs.YtocoonkachbjaaaGreatDoor

/- What a row's list says of errors.errorType: the variable's cell. -/
namespace Go.Proofs.YtocoonkachbjaaaGreatDoor
open Go.RowKit
set_option linter.unusedVariables false

theorem er_et : Tryz.prog.globalNamed "errors.errorType" = some 1 := by kernel_rfl
theorem er_rt : (Tryz.prog.cutTypes.find? (·.1 == "internal/reflectlite.rtype")).map (·.2) = some 161 := by kernel_rfl
theorem er_oneRow : ((List.range 234).filter fun t => Tryz.prog.rowNamed t [101, 114, 114, 111, 114]) = [33] := by kernel_rfl
theorem er_size : Tryz.prog.types.size = 234 := by kernel_rfl

theorem handle_of_laid {l : List (String × DataW Unit)} {W : World} (h : laidMetH Tryz.prog l W) (e : (l.filter fun x => x.1 == "errors.errorType") = [("errors.errorType", Rows.laid_errors_errorType)]) : erHandle W := by
  have h0 := laidMetH.filter (fun x => x.1 == "errors.errorType") h
  rw [e] at h0
  have h' : laidMet Tryz.prog [] W ∧ handlesMet Tryz.prog [("errors.errorType", Rows.laid_errors_errorType)] W := h0
  obtain ⟨name, u, ty, e1, e2, e3, e4, e5⟩ := h'.2 _ (List.mem_singleton.2 rfl)
  have en : name = [101, 114, 114, 111, 114] := (Option.some.inj e1).symm
  subst en
  obtain rfl := Option.some.inj (er_rt.symm.trans e2)
  have hm : ty ∈ (List.range 234).filter fun t => Tryz.prog.rowNamed t [101, 114, 114, 111, 114] := List.mem_filter.2 ⟨List.mem_range.2 (by rw [← er_size]; exact e3), e4⟩
  rw [er_oneRow] at hm
  obtain rfl := List.mem_singleton.1 hm
  have hh : typeHandle Tryz.prog 33 = .pointer (some ⟨8, 33, none⟩) := by kernel_rfl
  rw [hh] at e5
  unfold erHandle
  simpa using World.var?_cell er_et e5 0

end Go.Proofs.YtocoonkachbjaaaGreatDoor

/- A table of structs of integers, off its datum: its cells. No program in sight. -/
namespace Go.Proofs.Rd
open Go.RowKit Go.Lib
theorem rows_flatten {α : Type} (c : Nat) : ∀ (m : Nat) (cs : List α) (rs : List (List α)), cs.length = m * c → rs.length = m → (∀ i (hi : i < rs.length), (cs.drop (i * c)).take c = rs[i]) → cs = rs.flatten
  | 0, cs, rs, h1, h2, _ => by
    have : cs = [] := by simpa using h1
    have : rs = [] := by simpa using h2
    subst_vars; simp
  | m + 1, cs, [], h1, h2, _ => by simp at h2
  | m + 1, cs, r :: rs, h1, h2, h3 => by
    have h0 := h3 0 (by simp)
    simp only [Nat.zero_mul, List.drop_zero, List.getElem_cons_zero] at h0
    have ih := rows_flatten c m (cs.drop c) rs (by rw [List.length_drop, h1, Nat.succ_mul]; omega) (by simpa using h2) (fun i hi => by
      have := h3 (i + 1) (by simp; omega)
      rw [List.drop_drop, show c + i * c = (i + 1) * c from by rw [Nat.succ_mul]; omega]
      simpa using this)
    rw [List.flatten_cons, ← ih, ← h0, List.take_append_drop]

section
variable {H : Type} {enc : TypeId × Value → H} {P : Program} {w : World} {base : Nat} {sp : Nat → Bool} {held : Bool}

/-- A struct whose fields are integers that reads as these numbers holds them, cell for cell. -/
theorem struct_ints {fuel : Nat} {t : TypeId} {fs : Array Field} {cs : List Value} {zs : List (IntKind × Int)} {p : List MemPlace} (ht : P.underlying t = some (.struct fs))
    (hf : ∀ (i : Nat) (f : Field), fs[i]? = some f → (∃ k, P.underlying f.type = some (.int k)) ∧ f.offset = i ∧ P.cellsOf f.type = 1) (hct : P.cellsOf t = fs.size)
    (h : DataW.trod enc P w base sp held fuel t cs = some (.agg (zs.map fun z => .lit (.int z.1 z.2)), p)) : cs = zs.map fun z => Value.int z.1 z.2 := by
  obtain ⟨xs, n, rfl, hx, hl, hxl, hall⟩ := DataW.trod_struct ht h
  have hxs : xs.map (·.1) = zs.map fun z => (DataW.lit (.int z.1 z.2) : DataW H) := by
    have := congrArg Prod.fst hx
    simpa using this.symm
  have hzl : zs.length = fs.size := by
    have := congrArg List.length hxs
    simp at this
    omega
  apply List.ext_getElem?
  intro i
  by_cases hi : i < fs.size
  · obtain ⟨⟨k, hu⟩, ho, hc⟩ := hf i fs[i] (by simp [hi])
    have h1 := hall i fs[i] (by simp [hi])
    obtain ⟨b, hb⟩ : ∃ b, xs[i]? = some b := ⟨xs[i]'(by omega), List.getElem?_eq_getElem (by omega)⟩
    rw [hb, ho, hc] at h1
    obtain ⟨z, hcz, rfl, _⟩ := DataW.trod_int hu h1
    have h2 : cs[i]? = some (.int k z) := by
      have := congrArg (·[0]?) hcz
      simpa [List.getElem?_take, List.getElem?_drop] using this
    have h3 : (xs.map (·.1))[i]? = some (DataW.lit (.int k z) : DataW H) := by simp [hb]
    rw [hxs] at h3
    simp only [List.getElem?_map, Option.map_eq_some_iff, DataW.lit.injEq, Lit.int.injEq] at h3
    obtain ⟨z', hz', h4, h5⟩ := h3
    simp [h2, hz', h4, h5]
  · rw [List.getElem?_eq_none (by omega), List.getElem?_eq_none (by simp; omega)]

/-- An array of such structs. -/
theorem array_structs {fuel : Nat} {t e : TypeId} {m : Nat} {fs : Array Field} {cs : List Value} {zss : List (List (IntKind × Int))} {p : List MemPlace}
    (ht : P.underlying t = some (.array m e)) (he : P.underlying e = some (.struct fs))
    (hf : ∀ (i : Nat) (f : Field), fs[i]? = some f → (∃ k, P.underlying f.type = some (.int k)) ∧ f.offset = i ∧ P.cellsOf f.type = 1) (hce : P.cellsOf e = fs.size) (hct : P.cellsOf t = m * fs.size)
    (h : DataW.trod enc P w base sp held fuel t cs = some (.agg (zss.map fun zs => .agg (zs.map fun z => .lit (.int z.1 z.2))), p)) : cs = (zss.map fun zs => zs.map fun z => Value.int z.1 z.2).flatten := by
  obtain ⟨xs, n, rfl, hx, hl, hxl, hall⟩ := DataW.trod_array ht h
  have hxs : xs.map (·.1) = zss.map fun zs => (DataW.agg (zs.map fun z => .lit (.int z.1 z.2)) : DataW H) := by
    have := congrArg Prod.fst hx
    simpa using this.symm
  have hzl : zss.length = m := by
    have := congrArg List.length hxs
    simp at this; omega
  have hrow : ∀ i (hi : i < m), (cs.drop (i * fs.size)).take fs.size = (zss[i]'(by omega)).map fun z => Value.int z.1 z.2 := by
    intro i hi
    have h1 := hall i hi
    have hb : xs[i]? = some (xs[i]'(by omega)) := List.getElem?_eq_getElem (by omega)
    rw [hb, hce] at h1
    have h2 : (xs[i]'(by omega)).1 = (DataW.agg ((zss[i]'(by omega)).map fun z => .lit (.int z.1 z.2)) : DataW H) := by
      have := congrArg (fun l => l[i]?) hxs
      simp only [List.getElem?_map, hb, Option.map_some] at this
      rw [List.getElem?_eq_getElem (by omega)] at this
      simpa using this
    have h3 : DataW.trod enc P w base sp held n e ((cs.drop (i * fs.size)).take fs.size) = some (.agg ((zss[i]'(by omega)).map fun z => .lit (.int z.1 z.2)), (xs[i]'(by omega)).2) := by
      rw [h1, ← h2]
    exact struct_ints he hf hce h3
  refine rows_flatten fs.size m cs _ (by rw [hl, hct]) (by simpa using hzl) fun i hi => ?_
  have hi' : i < m := by rw [← hzl]; simpa using hi
  rw [hrow i hi']; simp

end
end Go.Proofs.Rd

/- What the rows' lists say of the clock's table and of strconv's powers of ten. -/
namespace Go.Proofs.YtocoonkachbjaaaGreatDoor
open Go.RowKit
set_option linter.unusedVariables false

theorem filt {l : List (String × DataW Unit)} {n : String} {d : DataW Unit} {W : World} (h : laidMetH Tryz.prog l W) (e : (l.filter fun x => x.1 == n) = [(n, d)]) (hd : d.handleName?.isNone = true) : laidMet Tryz.prog [(n, d)] W := by
  have h0 := laidMetH.filter (fun x => x.1 == n) h
  rw [e] at h0
  rwa [MakeChecks.laidMetH_plain _ _ _ (by simp [hd])] at h0

theorem gPow : Tryz.prog.globalNamed "internal/strconv.uint64pow10" = some 3 := by kernel_rfl
theorem gPowType : (Tryz.prog.globals[3]?).map (·.type) = some 195 := by kernel_rfl
theorem powCells : Tryz.prog.cellsOf 195 = 20 := by kernel_rfl
theorem u64Cells : Tryz.prog.cellsOf 27 = 1 := by kernel_rfl
theorem pow_of_laid {l : List (String × DataW Unit)} {W : World} (h : laidMetH Tryz.prog l W) (e : (l.filter fun x => x.1 == "internal/strconv.uint64pow10") = [("internal/strconv.uint64pow10", Rows.laid_internal_strconv_uint64pow10)]) : Lib.TabIs Tryz.prog W "internal/strconv.uint64pow10" .u64 Lib.pow10Tab :=
  Lib.tabIs_of_head (rest := []) gPow gPowType Tryz.underlying195 Tryz.underlying27 u64Cells powCells (filt h e rfl)

theorem gParts : Tryz.prog.globalNamed "lineage/clock.parts" = some 0 := by kernel_rfl
theorem gPartsType : (Tryz.prog.globals[0]?).map (·.type) = some 113 := by kernel_rfl
theorem partsCellsOf : Tryz.prog.cellsOf 113 = 4 * 3 := by kernel_rfl
theorem partCellsOf : Tryz.prog.cellsOf 112 = 3 := by kernel_rfl
theorem i64Cells : Tryz.prog.cellsOf 3 = 1 := by kernel_rfl
theorem u8Cells : Tryz.prog.cellsOf 5 = 1 := by kernel_rfl

theorem parts_of_laid {l : List (String × DataW Unit)} {W : World} (h : laidMetH Tryz.prog l W) (e : (l.filter fun x => x.1 == "lineage/clock.parts") = [("lineage/clock.parts", Rows.laid_lineage_clock_parts)]) : PartsAt W := by
  obtain ⟨g, t, cs, fuel, p, h1, h2, h3, h4⟩ := Lib.laidMet.reads (filt h e rfl) (List.mem_singleton.2 rfl)
  obtain rfl := Option.some.inj (gParts.symm.trans h1)
  obtain rfl := Option.some.inj (gPartsType.symm.trans h2)
  have hc := Rd.array_structs (zss := [[(.u8, 100), (.i64, 86400), (.i64, 1099511627777)], [(.u8, 104), (.i64, 3600), (.i64, 23)], [(.u8, 109), (.i64, 60), (.i64, 59)], [(.u8, 115), (.i64, 1), (.i64, 59)]]) Tryz.underlying113 Tryz.underlying112 (fun i f hf => by
    match i, hf with
    | 0, hf => simp at hf; subst hf; exact ⟨⟨_, Tryz.underlying5⟩, rfl, u8Cells⟩
    | 1, hf => simp at hf; subst hf; exact ⟨⟨_, Tryz.underlying3⟩, rfl, i64Cells⟩
    | 2, hf => simp at hf; subst hf; exact ⟨⟨_, Tryz.underlying3⟩, rfl, i64Cells⟩
    | n + 3, hf => simp at hf) partCellsOf partsCellsOf h4
  have hcs : cs = partsCells := by
    have : cs.toList = partsCells.toList := hc
    exact Array.toList_inj.1 this
  unfold World.var? at h3
  rw [gParts] at h3
  simp only [Option.bind_some] at h3
  split at h3
  · rename_i c t' fr hh
    refine ⟨t', fr, ?_⟩
    rw [hh]
    cases h3; rw [← hcs]
  · cases h3

end Go.Proofs.YtocoonkachbjaaaGreatDoor
