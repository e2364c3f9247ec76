/- The document's Line: the line itself (printed by wip/mkrline.py). -/
import Derived.Test.YtocoonkachbjaaaGreatDoorVwRLine
import Derived.Laws.Concat
namespace Go.Proofs.YtocoonkachbjaaaGreatDoor
open Go.RowKit Go.Proofs.NmPlain Go.Proofs.Ar Go.Proofs.YtocoonkachbjaaaGreatDoor.Sc
set_option linter.unusedVariables false
namespace Vw
theorem vadd {a b c : ByteArray} (x y : Nat) (hx : a.size ≤ x) (hy : b.size ≤ y) (h : x + y ≤ 8388608) (hc : c = a ++ b) : (∀ W : World, (Op.stringOp .add a b).run Tryz.prog W = .ok (.string c) W) ∧ c.size ≤ x + y ∧ c.data.toList = a.data.toList ++ b.data.toList :=
  ⟨vcat (by omega) hc, by rw [hc, ByteArray.size_append]; omega, cat_list hc⟩
theorem rline_text (d u k l p q : Bs) : ((((((((d ++ [32]) ++ u) ++ [32]) ++ k) ++ [32]) ++ l) ++ [32, 91]) ++ p ++ [93, 32]) ++ q = Lib.join [d, u, k, l, 91 :: p ++ [93], q] [32] := by
  simp [Lib.join_cons, Lib.joinTail]

set_option maxHeartbeats 4000000 in
theorem rline_gn (v : Value) (ls : List ByteArray) (s : Sess) (now : Int) (wn : (Lit.int .i64 now).wf = true) (w : World) (hin : RLineIn v ls s w) (ha0 : 1 ≤ s.birth) (ha1 : s.birth ≤ 1048576) (hu : nameB s.user.data.toList = true) (he : s.label.data.toList = []) (hk0 : 0 ≤ s.kind) (hk1 : s.kind ≤ 2) (hl0 : 0 ≤ s.level) (hl1 : s.level ≤ 2) (hs : ¬ 2 ^ ls.length ≤ s.scopes) (g0 : 0 ≤ now) (g1 : now ≤ 1099511627776) (g2 : 0 ≤ s.dl) (g3 : s.dl ≤ 1099511627776) :
    Calls Tryz.prog 8 #[v, .agg #[.int .i64 s.slot, .int .i64 s.birth, .int .i64 s.us, .int .i64 s.ub, .int .i64 s.kind, .string s.user, .string s.label, .int .u64 (s.scopes : Int), .int .i64 s.level, .int .i64 s.born, .int .i64 s.dl, .int .i64 s.depth], .int .i64 now] w fun e w' => RLinePost ls s now e ∧ Below w.heap.size w w' := by
  obtain ⟨W, hW⟩ : ∃ W, W = w.alloc (.cells #[.int .i64 s.slot, .int .i64 s.birth, .int .i64 s.us, .int .i64 s.ub, .int .i64 s.kind, .string s.user, .string s.label, .int .u64 (s.scopes : Int), .int .i64 s.level, .int .i64 s.born, .int .i64 s.dl, .int .i64 s.depth] 30) := ⟨_, rfl⟩
  have hb0 : Below w.heap.size w W := by rw [hW]; exact (Below.refl _ _).alloc (Nat.le_refl _) _
  have hbx : W.heap[w.heap.size]? = some (.cells #[.int .i64 s.slot, .int .i64 s.birth, .int .i64 s.us, .int .i64 s.ub, .int .i64 s.kind, .string s.user, .string s.label, .int .u64 (s.scopes : Int), .int .i64 s.level, .int .i64 s.born, .int .i64 s.dl, .int .i64 s.depth] 30 (0, 0)) := by rw [hW]; exact Ut.alloc_at _ _
  have HX := Lib.hid (fun (w' : World) (hb : Below W.heap.size W w') => (by
    have h1 := (hb.block w.heap.size (Array.getElem?_eq_some_iff.1 hbx).1).trans hbx
    have h2 : ∀ j, w'.cell? ⟨w.heap.size, j, none⟩ = (#[.int .i64 s.slot, .int .i64 s.birth, .int .i64 s.us, .int .i64 s.ub, .int .i64 s.kind, .string s.user, .string s.label, .int .u64 (s.scopes : Int), .int .i64 s.level, .int .i64 s.born, .int .i64 s.dl, .int .i64 s.depth] : Array Value)[j]? := fun j => cell_of_row _ _ _ _ _ _ h1
    exact ⟨h2 1, h2 4, h2 5, h2 6, h2 7, h2 8, h2 10⟩ : w'.cell? ⟨w.heap.size, 1, none⟩ = some (.int .i64 s.birth) ∧ w'.cell? ⟨w.heap.size, 4, none⟩ = some (.int .i64 s.kind) ∧ w'.cell? ⟨w.heap.size, 5, none⟩ = some (.string s.user) ∧ w'.cell? ⟨w.heap.size, 6, none⟩ = some (.string s.label) ∧ w'.cell? ⟨w.heap.size, 7, none⟩ = some (.int .u64 (s.scopes : Int)) ∧ w'.cell? ⟨w.heap.size, 8, none⟩ = some (.int .i64 s.level) ∧ w'.cell? ⟨w.heap.size, 10, none⟩ = some (.int .i64 s.dl)))
  obtain ⟨x1, x4, x5, x6, x7, x8, x10⟩ := HX.out W (Below.refl _ _)
  have HB0 := Lib.hid hb0
  have HW := Lib.hid hW
  have HIN := Lib.hid hin
  have HN1 := Lib.hid (fun (w' : World) => (refname_any s.user (by have := HIN.out.hz1; omega) w').mono fun e w2 h2 => (by rw [hu] at h2; exact h2 : e = .returned (.bool true) ∧ Below w'.heap.size w' w2))
  have l1 : s.label.toList = [] := by rw [Lib.toList_data]; exact he
  obtain ⟨K, hK⟩ : ∃ K : ByteArray, K = ⟨(kindL s.kind).toArray⟩ := ⟨_, rfl⟩
  have HWD := Lib.hid (fun w' => rkind_any s.kind w')
  rw [← hK] at HWD
  have hKe : K.toList.isEmpty = false := by
    rw [Lib.toList_data, hK]
    have := kind_yes hk0 hk1
    show (kindL s.kind).isEmpty = false
    cases h : kindL s.kind with
    | nil => exact absurd h this
    | cons a r => rfl
  have HK := Lib.hid hK
  clear hK
  obtain ⟨L, hL⟩ : ∃ L : ByteArray, L = ⟨(levL s.level).toArray⟩ := ⟨_, rfl⟩
  have HLV := Lib.hid (fun w' => rlevel_any s.level w')
  rw [lev_yes_if hl0 hl1, ← hL] at HLV
  have HL := Lib.hid hL
  clear hL
  obtain ⟨P, hP⟩ : ∃ P : ByteArray, P = ⟨(jn ls s.scopes ls.length).toArray⟩ := ⟨_, rfl⟩
  have HPR := Lib.hid (fun (w' : World) (hb : Below W.heap.size W w') => (refprint_any v ls HIN.out.hbk s.scopes HIN.out.hsc w' (HIN.out.arg.below (HB0.out.trans (hb.mono HB0.out.size)))).mono fun e w2 h2 => (⟨by have h3 := h2.1; rw [scopes_ok hs] at h3; rw [hP]; exact h3, h2.2⟩ : e = .returned (.tuple #[.string P, .int .i64 0]) ∧ w' = w2))
  have HPL : Hid (P.size ≤ 8512) := by
    show _ ≤ _
    have h1 := vjn_len HIN.out.hbk s.scopes ls.length (Nat.le_refl _)
    have h2 := HIN.out.hbk.len
    have h3 : P.size = (jn ls s.scopes ls.length).length := by rw [hP]; simp [ByteArray.size]
    omega
  have HP := Lib.hid hP
  clear hP
  obtain ⟨t, ht⟩ : ∃ t, t = lft now s.dl := ⟨_, rfl⟩
  have HLE := Lib.hid (fun w' => refleft_any now s.dl wn hin.wd w')
  rw [← ht] at HLE
  have hlb := lft_bd (now := now) (d := s.dl) g0 g3
  rw [← ht] at hlb
  obtain ⟨Q, hQ⟩ : ∃ Q : ByteArray, Q = ⟨(prt t).toArray⟩ := ⟨_, rfl⟩
  have HCP := Lib.hid (fun (w' : World) => rcprint_any t (tm_of hlb.1 hlb.2) w')
  rw [← hQ] at HCP
  have hQs : Q.size ≤ 88 := by rw [← size_list, hQ, mk_list]; exact vprt_len t hlb.1 hlb.2
  have hQl : Q.data.toList = prt (lft now s.dl) := by rw [hQ, mk_list, ht]
  clear ht hQ hlb
  obtain ⟨D, hD⟩ : ∃ D : ByteArray, D = ⟨(Lib.itoa s.birth).toArray⟩ := ⟨_, rfl⟩
  have HIT := Lib.hid (fun (w' : World) => vdigits_any s.birth.toNat (by omega) (by omega) w')
  have hDe : D = ⟨(Lib.decDigits s.birth.toNat).toArray⟩ := by rw [hD]; unfold Lib.itoa; rw [if_neg (by omega)]
  rw [← hDe, Int.toNat_of_nonneg (by omega)] at HIT
  have hDs : D.size ≤ 21 := by rw [← size_list, hD, mk_list]; exact Lib.itoa_length_le s.birth (by omega) (by omega)
  have hDl : D.data.toList = Lib.itoa s.birth := by rw [hD, mk_list]
  clear hD hDe
  have hKs : K.size ≤ 9 := by rw [← size_list, HK.out, mk_list]; exact kind_len _
  have hLs : L.size ≤ 4 := by rw [← size_list, HL.out, mk_list]; exact lev_len _
  have hUl : s.user.data.toList = whoL s := by unfold whoL; rw [if_pos he, List.append_nil]
  have hUs : s.user.size ≤ 2097153 := by have := hin.hz1; omega
  obtain ⟨M0, hm0⟩ : ∃ X : ByteArray, X = D ++ ⟨#[32]⟩ := ⟨_, rfl⟩
  obtain ⟨c0, d0, f0⟩ := vadd 21 1 hDs (by show 1 ≤ 1; omega) (by omega) hm0
  clear hm0
  obtain ⟨M1, hm1⟩ : ∃ X : ByteArray, X = M0 ++ s.user := ⟨_, rfl⟩
  obtain ⟨c1, d1, f1⟩ := vadd 22 2097153 d0 hUs (by omega) hm1
  clear hm1
  obtain ⟨M2, hm2⟩ : ∃ X : ByteArray, X = M1 ++ ⟨#[32]⟩ := ⟨_, rfl⟩
  obtain ⟨c2, d2, f2⟩ := vadd 2097175 1 d1 (by show 1 ≤ 1; omega) (by omega) hm2
  clear hm2
  obtain ⟨M3, hm3⟩ : ∃ X : ByteArray, X = M2 ++ K := ⟨_, rfl⟩
  obtain ⟨c3, d3, f3⟩ := vadd 2097176 9 d2 hKs (by omega) hm3
  clear hm3
  obtain ⟨M4, hm4⟩ : ∃ X : ByteArray, X = M3 ++ ⟨#[32]⟩ := ⟨_, rfl⟩
  obtain ⟨c4, d4, f4⟩ := vadd 2097185 1 d3 (by show 1 ≤ 1; omega) (by omega) hm4
  clear hm4
  obtain ⟨M5, hm5⟩ : ∃ X : ByteArray, X = M4 ++ L := ⟨_, rfl⟩
  obtain ⟨c5, d5, f5⟩ := vadd 2097186 4 d4 hLs (by omega) hm5
  clear hm5
  obtain ⟨M6, hm6⟩ : ∃ X : ByteArray, X = M5 ++ ⟨#[32, 91]⟩ := ⟨_, rfl⟩
  obtain ⟨c6, d6, f6⟩ := vadd 2097190 2 d5 (by show 2 ≤ 2; omega) (by omega) hm6
  clear hm6
  obtain ⟨M7, hm7⟩ : ∃ X : ByteArray, X = M6 ++ P := ⟨_, rfl⟩
  obtain ⟨c7, d7, f7⟩ := vadd 2097192 8512 d6 HPL.out (by omega) hm7
  clear hm7
  obtain ⟨M8, hm8⟩ : ∃ X : ByteArray, X = M7 ++ ⟨#[93, 32]⟩ := ⟨_, rfl⟩
  obtain ⟨c8, d8, f8⟩ := vadd 2105704 2 d7 (by show 2 ≤ 2; omega) (by omega) hm8
  clear hm8
  obtain ⟨J, hm9⟩ : ∃ X : ByteArray, X = M8 ++ Q := ⟨_, rfl⟩
  obtain ⟨c9, d9, f9⟩ := vadd 2105706 88 d8 hQs (by omega) hm9
  clear hm9
  have HJT : Hid (J.data.toList = textL ls s now) := by
    show _ = _
    rw [f9, f8, f7, f6, f5, f4, f3, f2, f1, f0, hDl, hUl, HK.out, HL.out, HP.out, hQl, mk_list, mk_list, mk_list]
    unfold textL
    rw [scopes_ok hs]
    exact rline_text _ _ _ _ _ _
  clear d0 f0 d1 f1 d2 f2 d3 f3 d4 f4 d5 f5 d6 f6 d7 f7 d8 f8 d9 f9 hDs hDl hKs hLs hUl hUs hQs hQl
  have hnb : ¬ (nameB s.user.data.toList = false ∨ (s.label.data.toList ≠ [] ∧ nameB s.label.data.toList = false)) := by
    rintro (h | ⟨h1, h2⟩)
    · rw [hu] at h; cases h
    · exact h1 he
  have HRU := Lib.hid (line_g (ls := ls) (s := s) (now := now) (show ¬ (s.birth < 1 ∨ 1048576 < s.birth) by omega) hnb (show ¬ (s.kind < 0 ∨ 2 < s.kind) by omega) (show ¬ (s.level < 0 ∨ 2 < s.level) by omega) hs (show ¬ (now < 0 ∨ 1099511627776 < now ∨ s.dl < 0 ∨ 1099511627776 < s.dl) by omega))
  clear hbx hb0 hin wn
  clear hu hk0 hk1 hl0 hl1 hs hnb he
  go_enter Tryz.func8, Tryz.ntmps8
  go_wp2_with fail
  rw [← hW]
  clear hW
  refine (HN1.out _).mono ?_
  rintro e w1 ⟨rfl, hbc⟩
  have HC1 : Hid (Below W.heap.size W w1) := hbc
  clear hbc x1 x4 x5 x6 x7 x8 x10
  obtain ⟨x1, x4, x5, x6, x7, x8, x10⟩ := HX.out w1 HC1.out
  go_wp2_with fail
  refine (HWD.out _).mono ?_
  rintro e w0 ⟨rfl, rfl⟩
  go_wp2_with fail
  refine (HLV.out _).mono ?_
  rintro e w0 ⟨rfl, rfl⟩
  go_wp2_with fail
  refine (HPR.out _ HC1.out).mono ?_
  rintro e w0 ⟨rfl, rfl⟩
  go_wp2_with fail
  refine (HLE.out _).mono ?_
  rintro e w0 ⟨rfl, rfl⟩
  go_wp2_with fail
  refine (HCP.out _).mono ?_
  rintro e w2 ⟨rfl, hbc⟩
  have HC2 : Hid (Below W.heap.size W w2) := HC1.out.trans (hbc.mono HC1.out.size)
  clear hbc x1 x4 x5 x6 x7 x8 x10
  obtain ⟨x1, x4, x5, x6, x7, x8, x10⟩ := HX.out w2 HC2.out
  go_wp2_with fail
  have HH := Lib.hid (fun (w' : World) (hb : Below W.heap.size W w') => (by
    obtain ⟨y1, y4, y5, y6, y7, y8, y10⟩ := HX.out w' hb
    exact ⟨y1, y4⟩ : w'.cell? ⟨w.heap.size, 1, none⟩ = some (.int .i64 s.birth) ∧ w'.cell? ⟨w.heap.size, 4, none⟩ = some (.int .i64 s.kind)))
  have HD := Lib.hid (HC2.out.trans (Below.mono (Below.drew (Below.refl w2.heap.size w2)) HC2.out.size))
  go_region_held3 (fun w' => w'.cell? ⟨w.heap.size, 1, none⟩ = some (.int .i64 s.birth) ∧ w'.cell? ⟨w.heap.size, 4, none⟩ = some (.int .i64 s.kind)) (go_keep) (first
    | (go_at_call 36; refine (HIT.out _).mono ?_; rintro e v1 ⟨rfl, hbi⟩; (have HV1 := Lib.hid (HD.out.trans (hbi.mono HD.out.size))); obtain ⟨n1, n4⟩ := HH.out _ HV1.out; clear hbi)
    | (go_at_call 31; refine (HWD.out _).mono ?_; rintro e v2 ⟨rfl, rfl⟩))
  go_wp2
  go_ret2
  exact ⟨RLinePost.mk (no := 0) HRU.out HJT.out rfl, HB0.out.trans (HV1.out.mono HB0.out.size)⟩

set_option maxHeartbeats 4000000 in
theorem rline_gl (v : Value) (ls : List ByteArray) (s : Sess) (now : Int) (wn : (Lit.int .i64 now).wf = true) (w : World) (hin : RLineIn v ls s w) (ha0 : 1 ≤ s.birth) (ha1 : s.birth ≤ 1048576) (hu : nameB s.user.data.toList = true) (hne : s.label.data.toList ≠ []) (hl : nameB s.label.data.toList = true) (hk0 : 0 ≤ s.kind) (hk1 : s.kind ≤ 2) (hl0 : 0 ≤ s.level) (hl1 : s.level ≤ 2) (hs : ¬ 2 ^ ls.length ≤ s.scopes) (g0 : 0 ≤ now) (g1 : now ≤ 1099511627776) (g2 : 0 ≤ s.dl) (g3 : s.dl ≤ 1099511627776) :
    Calls Tryz.prog 8 #[v, .agg #[.int .i64 s.slot, .int .i64 s.birth, .int .i64 s.us, .int .i64 s.ub, .int .i64 s.kind, .string s.user, .string s.label, .int .u64 (s.scopes : Int), .int .i64 s.level, .int .i64 s.born, .int .i64 s.dl, .int .i64 s.depth], .int .i64 now] w fun e w' => RLinePost ls s now e ∧ Below w.heap.size w w' := by
  obtain ⟨W, hW⟩ : ∃ W, W = w.alloc (.cells #[.int .i64 s.slot, .int .i64 s.birth, .int .i64 s.us, .int .i64 s.ub, .int .i64 s.kind, .string s.user, .string s.label, .int .u64 (s.scopes : Int), .int .i64 s.level, .int .i64 s.born, .int .i64 s.dl, .int .i64 s.depth] 30) := ⟨_, rfl⟩
  have hb0 : Below w.heap.size w W := by rw [hW]; exact (Below.refl _ _).alloc (Nat.le_refl _) _
  have hbx : W.heap[w.heap.size]? = some (.cells #[.int .i64 s.slot, .int .i64 s.birth, .int .i64 s.us, .int .i64 s.ub, .int .i64 s.kind, .string s.user, .string s.label, .int .u64 (s.scopes : Int), .int .i64 s.level, .int .i64 s.born, .int .i64 s.dl, .int .i64 s.depth] 30 (0, 0)) := by rw [hW]; exact Ut.alloc_at _ _
  have HX := Lib.hid (fun (w' : World) (hb : Below W.heap.size W w') => (by
    have h1 := (hb.block w.heap.size (Array.getElem?_eq_some_iff.1 hbx).1).trans hbx
    have h2 : ∀ j, w'.cell? ⟨w.heap.size, j, none⟩ = (#[.int .i64 s.slot, .int .i64 s.birth, .int .i64 s.us, .int .i64 s.ub, .int .i64 s.kind, .string s.user, .string s.label, .int .u64 (s.scopes : Int), .int .i64 s.level, .int .i64 s.born, .int .i64 s.dl, .int .i64 s.depth] : Array Value)[j]? := fun j => cell_of_row _ _ _ _ _ _ h1
    exact ⟨h2 1, h2 4, h2 5, h2 6, h2 7, h2 8, h2 10⟩ : w'.cell? ⟨w.heap.size, 1, none⟩ = some (.int .i64 s.birth) ∧ w'.cell? ⟨w.heap.size, 4, none⟩ = some (.int .i64 s.kind) ∧ w'.cell? ⟨w.heap.size, 5, none⟩ = some (.string s.user) ∧ w'.cell? ⟨w.heap.size, 6, none⟩ = some (.string s.label) ∧ w'.cell? ⟨w.heap.size, 7, none⟩ = some (.int .u64 (s.scopes : Int)) ∧ w'.cell? ⟨w.heap.size, 8, none⟩ = some (.int .i64 s.level) ∧ w'.cell? ⟨w.heap.size, 10, none⟩ = some (.int .i64 s.dl)))
  obtain ⟨x1, x4, x5, x6, x7, x8, x10⟩ := HX.out W (Below.refl _ _)
  have HB0 := Lib.hid hb0
  have HW := Lib.hid hW
  have HIN := Lib.hid hin
  have HN1 := Lib.hid (fun (w' : World) => (refname_any s.user (by have := HIN.out.hz1; omega) w').mono fun e w2 h2 => (by rw [hu] at h2; exact h2 : e = .returned (.bool true) ∧ Below w'.heap.size w' w2))
  have HN2 := Lib.hid (fun (w' : World) => (refname_any s.label (by have := HIN.out.hz2; omega) w').mono fun e w2 h2 => (by rw [hl] at h2; exact h2 : e = .returned (.bool true) ∧ Below w'.heap.size w' w2))
  have l1 : s.label.toList.isEmpty = false := by rw [Lib.toList_data]; cases h : s.label.data.toList with | nil => exact absurd h hne | cons a r => rfl
  obtain ⟨K, hK⟩ : ∃ K : ByteArray, K = ⟨(kindL s.kind).toArray⟩ := ⟨_, rfl⟩
  have HWD := Lib.hid (fun w' => rkind_any s.kind w')
  rw [← hK] at HWD
  have hKe : K.toList.isEmpty = false := by
    rw [Lib.toList_data, hK]
    have := kind_yes hk0 hk1
    show (kindL s.kind).isEmpty = false
    cases h : kindL s.kind with
    | nil => exact absurd h this
    | cons a r => rfl
  have HK := Lib.hid hK
  clear hK
  obtain ⟨L, hL⟩ : ∃ L : ByteArray, L = ⟨(levL s.level).toArray⟩ := ⟨_, rfl⟩
  have HLV := Lib.hid (fun w' => rlevel_any s.level w')
  rw [lev_yes_if hl0 hl1, ← hL] at HLV
  have HL := Lib.hid hL
  clear hL
  obtain ⟨P, hP⟩ : ∃ P : ByteArray, P = ⟨(jn ls s.scopes ls.length).toArray⟩ := ⟨_, rfl⟩
  have HPR := Lib.hid (fun (w' : World) (hb : Below W.heap.size W w') => (refprint_any v ls HIN.out.hbk s.scopes HIN.out.hsc w' (HIN.out.arg.below (HB0.out.trans (hb.mono HB0.out.size)))).mono fun e w2 h2 => (⟨by have h3 := h2.1; rw [scopes_ok hs] at h3; rw [hP]; exact h3, h2.2⟩ : e = .returned (.tuple #[.string P, .int .i64 0]) ∧ w' = w2))
  have HPL : Hid (P.size ≤ 8512) := by
    show _ ≤ _
    have h1 := vjn_len HIN.out.hbk s.scopes ls.length (Nat.le_refl _)
    have h2 := HIN.out.hbk.len
    have h3 : P.size = (jn ls s.scopes ls.length).length := by rw [hP]; simp [ByteArray.size]
    omega
  have HP := Lib.hid hP
  clear hP
  obtain ⟨t, ht⟩ : ∃ t, t = lft now s.dl := ⟨_, rfl⟩
  have HLE := Lib.hid (fun w' => refleft_any now s.dl wn hin.wd w')
  rw [← ht] at HLE
  have hlb := lft_bd (now := now) (d := s.dl) g0 g3
  rw [← ht] at hlb
  obtain ⟨Q, hQ⟩ : ∃ Q : ByteArray, Q = ⟨(prt t).toArray⟩ := ⟨_, rfl⟩
  have HCP := Lib.hid (fun (w' : World) => rcprint_any t (tm_of hlb.1 hlb.2) w')
  rw [← hQ] at HCP
  have hQs : Q.size ≤ 88 := by rw [← size_list, hQ, mk_list]; exact vprt_len t hlb.1 hlb.2
  have hQl : Q.data.toList = prt (lft now s.dl) := by rw [hQ, mk_list, ht]
  clear ht hQ hlb
  obtain ⟨D, hD⟩ : ∃ D : ByteArray, D = ⟨(Lib.itoa s.birth).toArray⟩ := ⟨_, rfl⟩
  have HIT := Lib.hid (fun (w' : World) => vdigits_any s.birth.toNat (by omega) (by omega) w')
  have hDe : D = ⟨(Lib.decDigits s.birth.toNat).toArray⟩ := by rw [hD]; unfold Lib.itoa; rw [if_neg (by omega)]
  rw [← hDe, Int.toNat_of_nonneg (by omega)] at HIT
  have hDs : D.size ≤ 21 := by rw [← size_list, hD, mk_list]; exact Lib.itoa_length_le s.birth (by omega) (by omega)
  have hDl : D.data.toList = Lib.itoa s.birth := by rw [hD, mk_list]
  clear hD hDe
  have hKs : K.size ≤ 9 := by rw [← size_list, HK.out, mk_list]; exact kind_len _
  have hLs : L.size ≤ 4 := by rw [← size_list, HL.out, mk_list]; exact lev_len _
  obtain ⟨C1, hC1⟩ : ∃ C1 : ByteArray, C1 = s.user ++ ⟨#[47]⟩ := ⟨_, rfl⟩
  obtain ⟨U, hU⟩ : ∃ U : ByteArray, U = C1 ++ s.label := ⟨_, rfl⟩
  obtain ⟨k1, z1, q1⟩ := vadd 1048576 1 hin.hz1 (by show 1 ≤ 1; omega) (by omega) hC1
  obtain ⟨k2, z2, q2⟩ := vadd (1048576 + 1) 1048576 z1 hin.hz2 (by omega) hU
  have hUl : U.data.toList = whoL s := by
    rw [q2, q1]; unfold whoL; rw [if_neg hne, List.append_assoc]; rfl
  have hUs : U.size ≤ 2097153 := by omega
  clear hC1 hU q1 q2 z1 z2
  obtain ⟨M0, hm0⟩ : ∃ X : ByteArray, X = D ++ ⟨#[32]⟩ := ⟨_, rfl⟩
  obtain ⟨c0, d0, f0⟩ := vadd 21 1 hDs (by show 1 ≤ 1; omega) (by omega) hm0
  clear hm0
  obtain ⟨M1, hm1⟩ : ∃ X : ByteArray, X = M0 ++ U := ⟨_, rfl⟩
  obtain ⟨c1, d1, f1⟩ := vadd 22 2097153 d0 hUs (by omega) hm1
  clear hm1
  obtain ⟨M2, hm2⟩ : ∃ X : ByteArray, X = M1 ++ ⟨#[32]⟩ := ⟨_, rfl⟩
  obtain ⟨c2, d2, f2⟩ := vadd 2097175 1 d1 (by show 1 ≤ 1; omega) (by omega) hm2
  clear hm2
  obtain ⟨M3, hm3⟩ : ∃ X : ByteArray, X = M2 ++ K := ⟨_, rfl⟩
  obtain ⟨c3, d3, f3⟩ := vadd 2097176 9 d2 hKs (by omega) hm3
  clear hm3
  obtain ⟨M4, hm4⟩ : ∃ X : ByteArray, X = M3 ++ ⟨#[32]⟩ := ⟨_, rfl⟩
  obtain ⟨c4, d4, f4⟩ := vadd 2097185 1 d3 (by show 1 ≤ 1; omega) (by omega) hm4
  clear hm4
  obtain ⟨M5, hm5⟩ : ∃ X : ByteArray, X = M4 ++ L := ⟨_, rfl⟩
  obtain ⟨c5, d5, f5⟩ := vadd 2097186 4 d4 hLs (by omega) hm5
  clear hm5
  obtain ⟨M6, hm6⟩ : ∃ X : ByteArray, X = M5 ++ ⟨#[32, 91]⟩ := ⟨_, rfl⟩
  obtain ⟨c6, d6, f6⟩ := vadd 2097190 2 d5 (by show 2 ≤ 2; omega) (by omega) hm6
  clear hm6
  obtain ⟨M7, hm7⟩ : ∃ X : ByteArray, X = M6 ++ P := ⟨_, rfl⟩
  obtain ⟨c7, d7, f7⟩ := vadd 2097192 8512 d6 HPL.out (by omega) hm7
  clear hm7
  obtain ⟨M8, hm8⟩ : ∃ X : ByteArray, X = M7 ++ ⟨#[93, 32]⟩ := ⟨_, rfl⟩
  obtain ⟨c8, d8, f8⟩ := vadd 2105704 2 d7 (by show 2 ≤ 2; omega) (by omega) hm8
  clear hm8
  obtain ⟨J, hm9⟩ : ∃ X : ByteArray, X = M8 ++ Q := ⟨_, rfl⟩
  obtain ⟨c9, d9, f9⟩ := vadd 2105706 88 d8 hQs (by omega) hm9
  clear hm9
  have HJT : Hid (J.data.toList = textL ls s now) := by
    show _ = _
    rw [f9, f8, f7, f6, f5, f4, f3, f2, f1, f0, hDl, hUl, HK.out, HL.out, HP.out, hQl, mk_list, mk_list, mk_list]
    unfold textL
    rw [scopes_ok hs]
    exact rline_text _ _ _ _ _ _
  clear d0 f0 d1 f1 d2 f2 d3 f3 d4 f4 d5 f5 d6 f6 d7 f7 d8 f8 d9 f9 hDs hDl hKs hLs hUl hUs hQs hQl
  have hnb : ¬ (nameB s.user.data.toList = false ∨ (s.label.data.toList ≠ [] ∧ nameB s.label.data.toList = false)) := by
    rintro (h | ⟨h1, h2⟩)
    · rw [hu] at h; cases h
    · rw [hl] at h2; cases h2
  have HRU := Lib.hid (line_g (ls := ls) (s := s) (now := now) (show ¬ (s.birth < 1 ∨ 1048576 < s.birth) by omega) hnb (show ¬ (s.kind < 0 ∨ 2 < s.kind) by omega) (show ¬ (s.level < 0 ∨ 2 < s.level) by omega) hs (show ¬ (now < 0 ∨ 1099511627776 < now ∨ s.dl < 0 ∨ 1099511627776 < s.dl) by omega))
  clear hbx hb0 hin wn
  clear hu hk0 hk1 hl0 hl1 hs hnb hl hne
  go_enter Tryz.func8, Tryz.ntmps8
  go_wp2_with fail
  rw [← hW]
  clear hW
  refine (HN1.out _).mono ?_
  rintro e w1 ⟨rfl, hbc⟩
  have HC1 : Hid (Below W.heap.size W w1) := hbc
  clear hbc x1 x4 x5 x6 x7 x8 x10
  obtain ⟨x1, x4, x5, x6, x7, x8, x10⟩ := HX.out w1 HC1.out
  go_wp2_with fail
  refine (HN2.out _).mono ?_
  rintro e w2 ⟨rfl, hbc⟩
  have HC2 : Hid (Below W.heap.size W w2) := HC1.out.trans (hbc.mono HC1.out.size)
  clear hbc x1 x4 x5 x6 x7 x8 x10
  obtain ⟨x1, x4, x5, x6, x7, x8, x10⟩ := HX.out w2 HC2.out
  go_wp2_with fail
  refine (HWD.out _).mono ?_
  rintro e w0 ⟨rfl, rfl⟩
  go_wp2_with fail
  refine (HLV.out _).mono ?_
  rintro e w0 ⟨rfl, rfl⟩
  go_wp2_with fail
  refine (HPR.out _ HC2.out).mono ?_
  rintro e w0 ⟨rfl, rfl⟩
  go_wp2_with fail
  refine (HLE.out _).mono ?_
  rintro e w0 ⟨rfl, rfl⟩
  go_wp2_with fail
  refine (HCP.out _).mono ?_
  rintro e w3 ⟨rfl, hbc⟩
  have HC3 : Hid (Below W.heap.size W w3) := HC2.out.trans (hbc.mono HC2.out.size)
  clear hbc x1 x4 x5 x6 x7 x8 x10
  obtain ⟨x1, x4, x5, x6, x7, x8, x10⟩ := HX.out w3 HC3.out
  go_wp2_with fail
  have HH := Lib.hid (fun (w' : World) (hb : Below W.heap.size W w') => (by
    obtain ⟨y1, y4, y5, y6, y7, y8, y10⟩ := HX.out w' hb
    exact ⟨y1, y4⟩ : w'.cell? ⟨w.heap.size, 1, none⟩ = some (.int .i64 s.birth) ∧ w'.cell? ⟨w.heap.size, 4, none⟩ = some (.int .i64 s.kind)))
  have HD := Lib.hid (HC3.out.trans (Below.mono (Below.drew (Below.refl w3.heap.size w3)) HC3.out.size))
  go_region_held3 (fun w' => w'.cell? ⟨w.heap.size, 1, none⟩ = some (.int .i64 s.birth) ∧ w'.cell? ⟨w.heap.size, 4, none⟩ = some (.int .i64 s.kind)) (go_keep) (first
    | (go_at_call 36; refine (HIT.out _).mono ?_; rintro e v1 ⟨rfl, hbi⟩; (have HV1 := Lib.hid (HD.out.trans (hbi.mono HD.out.size))); obtain ⟨n1, n4⟩ := HH.out _ HV1.out; clear hbi)
    | (go_at_call 31; refine (HWD.out _).mono ?_; rintro e v2 ⟨rfl, rfl⟩))
  go_wp2
  go_ret2
  exact ⟨RLinePost.mk (no := 0) HRU.out HJT.out rfl, HB0.out.trans (HV1.out.mono HB0.out.size)⟩

end Vw
end Go.Proofs.YtocoonkachbjaaaGreatDoor
