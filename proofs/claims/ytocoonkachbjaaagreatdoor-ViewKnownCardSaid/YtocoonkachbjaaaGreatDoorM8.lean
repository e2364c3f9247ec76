/- Several texts in one: what each proves its own first comment says. -/
import Derived.Test.YtocoonkachbjaaaGreatDoorM7
import Derived.Laws.Concat

/- view.Line: the line itself (printed by wip/mkline.py). -/
namespace Go.Proofs.YtocoonkachbjaaaGreatDoor
open Go.RowKit Go.Proofs.NmPlain Go.Proofs.YtocoonkachbjaaaGreatDoor.Sc
set_option linter.unusedVariables false
namespace Vw
theorem vsz {x : ByteArray} (h : nameB x.data.toList = true) : x.size ≤ 1048576 := by
  have h1 := nameB_le h
  have h2 : x.data.toList.length = x.size := Array.length_toList
  omega
theorem vcat {a b c : ByteArray} (h : a.size + b.size ≤ 8388608) (hc : c = a ++ b) (W : World) : (Op.stringOp .add a b).run Tryz.prog W = .ok (.string c) W := by
  rw [hc]; exact run_string_add_sum W a b (by omega)
theorem cat_list {a b c : ByteArray} (hc : c = a ++ b) : c.data.toList = a.data.toList ++ b.data.toList := by rw [hc, ByteArray.data_append, Array.toList_append]
theorem join6 (a b c d e f : Bs) : (Lib.join [a, b, c, d, e, f] [32]).length = a.length + b.length + c.length + d.length + e.length + f.length + 5 := by
  rw [Lib.join_length]
  simp only [Lib.lens, List.map_cons, List.map_nil, List.sum_cons, List.sum_nil, List.length_cons, List.length_nil]
  omega
theorem mk_list (l : Bs) : (⟨l.toArray⟩ : ByteArray).data.toList = l := by simp
theorem size_list (a : ByteArray) : a.data.toList.length = a.size := by show a.data.toList.length = a.data.size; exact Array.length_toList

set_option maxHeartbeats 4000000 in
theorem line_gnw (lo B : Nat) (ls : List ByteArray) (s : Sess) (now : Int) (wn : (Lit.int .i64 now).wf = true) (w : World) (hin : LineIn lo B ls s w) (ha0 : 1 ≤ s.birth) (ha1 : s.birth ≤ 1048576) (hu : nameB s.user.data.toList = true) (he : s.label.data.toList = []) (hk0 : 0 ≤ s.kind) (hk1 : s.kind ≤ 2) (hl0 : 0 ≤ s.level) (hl1 : s.level ≤ 2) (hs : ¬ 2 ^ ls.length ≤ s.scopes) (g0 : 0 ≤ now) (g1 : now ≤ 1099511627776) (g2 : 0 ≤ s.dl) (g3 : s.dl ≤ 1099511627776) :
    Calls Tryz.prog 7 #[.pointer (some ⟨B, 0, none⟩), .agg #[.int .i64 s.slot, .int .i64 s.birth, .int .i64 s.us, .int .i64 s.ub, .int .i64 s.kind, .string s.user, .string s.label, .int .u64 (s.scopes : Int), .int .i64 s.level, .int .i64 s.born, .int .i64 s.dl, .int .i64 s.depth], .int .i64 now] w fun e w' => LinePost ls s now e ∧ Below w.heap.size w w' := by
  obtain ⟨W, hW⟩ : ∃ W, W = w.alloc (.cells #[.int .i64 s.slot, .int .i64 s.birth, .int .i64 s.us, .int .i64 s.ub, .int .i64 s.kind, .string s.user, .string s.label, .int .u64 (s.scopes : Int), .int .i64 s.level, .int .i64 s.born, .int .i64 s.dl, .int .i64 s.depth] 30) := ⟨_, rfl⟩
  have hb0 : Below w.heap.size w W := by rw [hW]; exact (Below.refl _ _).alloc (Nat.le_refl _) _
  have hbx : W.heap[w.heap.size]? = some (.cells #[.int .i64 s.slot, .int .i64 s.birth, .int .i64 s.us, .int .i64 s.ub, .int .i64 s.kind, .string s.user, .string s.label, .int .u64 (s.scopes : Int), .int .i64 s.level, .int .i64 s.born, .int .i64 s.dl, .int .i64 s.depth] 30 (0, 0)) := by rw [hW]; exact Ut.alloc_at _ _
  have HX := Lib.hid (fun (w' : World) (hb : Below W.heap.size W w') => (by
    have h1 := (hb.block w.heap.size (Array.getElem?_eq_some_iff.1 hbx).1).trans hbx
    have h2 : ∀ j, w'.cell? ⟨w.heap.size, j, none⟩ = (#[.int .i64 s.slot, .int .i64 s.birth, .int .i64 s.us, .int .i64 s.ub, .int .i64 s.kind, .string s.user, .string s.label, .int .u64 (s.scopes : Int), .int .i64 s.level, .int .i64 s.born, .int .i64 s.dl, .int .i64 s.depth] : Array Value)[j]? := fun j => cell_of_row _ _ _ _ _ _ h1
    exact ⟨h2 1, h2 4, h2 5, h2 6, h2 7, h2 8, h2 10⟩ : w'.cell? ⟨w.heap.size, 1, none⟩ = some (.int .i64 s.birth) ∧ w'.cell? ⟨w.heap.size, 4, none⟩ = some (.int .i64 s.kind) ∧ w'.cell? ⟨w.heap.size, 5, none⟩ = some (.string s.user) ∧ w'.cell? ⟨w.heap.size, 6, none⟩ = some (.string s.label) ∧ w'.cell? ⟨w.heap.size, 7, none⟩ = some (.int .u64 (s.scopes : Int)) ∧ w'.cell? ⟨w.heap.size, 8, none⟩ = some (.int .i64 s.level) ∧ w'.cell? ⟨w.heap.size, 10, none⟩ = some (.int .i64 s.dl)))
  obtain ⟨x1, x4, x5, x6, x7, x8, x10⟩ := HX.out W (Below.refl _ _)
  have HB0 := Lib.hid hb0
  have HW := Lib.hid hW
  have HIN := Lib.hid hin
  have HN1 := Lib.hid (fun (w' : World) => (name_any s.user (by have := HIN.out.hz1; omega) w').mono fun e w2 h2 => (by rw [hu] at h2; exact h2 : e = .returned (.bool true) ∧ Below w'.heap.size w' w2))
  have l1 : s.label.toList = [] := by rw [Lib.toList_data]; exact he
  obtain ⟨K, hK⟩ : ∃ K : ByteArray, K = ⟨(kindL s.kind).toArray⟩ := ⟨_, rfl⟩
  have HWD := Lib.hid (fun w' => vword_any s.kind w')
  rw [← hK] at HWD
  have hKe : K.toList.isEmpty = false := by
    rw [Lib.toList_data, hK]
    have := kind_yes hk0 hk1
    show (kindL s.kind).isEmpty = false
    cases h : kindL s.kind with
    | nil => exact absurd h this
    | cons a r => rfl
  have HK := Lib.hid hK
  clear hK
  obtain ⟨L, hL⟩ : ∃ L : ByteArray, L = ⟨(levL s.level).toArray⟩ := ⟨_, rfl⟩
  have HLV := Lib.hid (fun w' => level_yes s.level hl0 hl1 w')
  rw [← hL] at HLV
  have HL := Lib.hid hL
  clear hL
  obtain ⟨P, hP⟩ : ∃ P : ByteArray, P = ⟨(jn ls s.scopes ls.length).toArray⟩ := ⟨_, rfl⟩
  have HPR := Lib.hid (fun (w' : World) (hb : Below W.heap.size W w') => (print_any lo B ls HIN.out.hbk s.scopes HIN.out.hsc w' (HIN.out.henv w' (HB0.out.trans (hb.mono HB0.out.size))).book).mono fun e w2 h2 => (⟨by have h3 := h2.1; unfold PrintPost at h3; rw [scopes_ok hs] at h3; rw [hP]; exact h3, h2.2⟩ : e = .returned (.tuple #[.string P, .nilIface]) ∧ Below w'.heap.size w' w2))
  have HPL : Hid (P.size ≤ 8512) := by
    show _ ≤ _
    have h1 := vjn_len HIN.out.hbk s.scopes ls.length (Nat.le_refl _)
    have h2 := HIN.out.hbk.len
    have h3 : P.size = (jn ls s.scopes ls.length).length := by rw [hP]; simp [ByteArray.size]
    omega
  have HP := Lib.hid hP
  clear hP
  obtain ⟨t, ht⟩ : ∃ t, t = lft now s.dl := ⟨_, rfl⟩
  have HLE := Lib.hid (fun w' => left_any now s.dl wn hin.wd w')
  rw [← ht] at HLE
  have hlb := lft_bd (now := now) (d := s.dl) g0 g3
  rw [← ht] at hlb
  obtain ⟨Q, hQ⟩ : ∃ Q : ByteArray, Q = ⟨(prt t).toArray⟩ := ⟨_, rfl⟩
  have HCP := Lib.hid (fun (w' : World) (hb : Below W.heap.size W w') => cprint_any t (tm_of hlb.1 hlb.2) w' (HIN.out.henv w' (HB0.out.trans (hb.mono HB0.out.size))).parts (HIN.out.henv w' (HB0.out.trans (hb.mono HB0.out.size))).tab)
  rw [← hQ] at HCP
  have HQL : Hid (Q.data.toList.length ≤ 88) := by show _ ≤ _; rw [hQ, mk_list]; exact vprt_len t hlb.1 hlb.2
  have HT := Lib.hid ht; have HQ := Lib.hid hQ
  clear ht hQ hlb
  obtain ⟨I, hI⟩ : ∃ I : ByteArray, I = ⟨(Lib.itoa s.birth).toArray⟩ := ⟨_, rfl⟩
  have HIT := Lib.hid (fun (w' : World) (hb : Below W.heap.size W w') => itoa_below s.birth (by omega) (by omega) w' (HIN.out.henv w' (HB0.out.trans (hb.mono HB0.out.size))).tab)
  rw [← hI] at HIT
  have HIL : Hid (I.data.toList.length ≤ 21) := by show _ ≤ _; rw [hI, mk_list]; exact Lib.itoa_length_le s.birth (by omega) (by omega)
  have HI := Lib.hid hI
  clear hI
  obtain ⟨P1, hP1⟩ : ∃ P1 : ByteArray, P1 = ⟨#[91]⟩ ++ P := ⟨_, rfl⟩
  obtain ⟨P2, hP2⟩ : ∃ P2 : ByteArray, P2 = P1 ++ ⟨#[93]⟩ := ⟨_, rfl⟩
  have hp1s : P1.size = 1 + P.size := by rw [hP1, ByteArray.size_append]; rfl
  have hp2s : P2.size = P1.size + 1 := by rw [hP2, ByteArray.size_append]; rfl
  have k1 := vcat (a := ⟨#[91]⟩) (b := P) (by have := HPL.out; show 1 + P.size ≤ _; omega) hP1
  have k2 := vcat (a := P1) (b := ⟨#[93]⟩) (by have := HPL.out; show P1.size + 1 ≤ _; omega) hP2
  have hP2l : P2.data.toList = 91 :: (printL ls s.scopes).1 ++ [93] := by
    rw [cat_list hP2, cat_list hP1, scopes_ok hs, HP.out, mk_list]; rfl
  obtain ⟨U, hU⟩ : ∃ U : ByteArray, U = s.user := ⟨_, rfl⟩
  have hUl : U.data.toList = whoL s := by rw [hU]; unfold whoL; rw [if_pos he, List.append_nil]
  have hUs : U.size ≤ 2097153 := by have := vsz hu; rw [hU]; omega
  have HUU := Lib.hid hU
  clear hU
  have hjoin : Lib.join ([I, U, K, L, P2, Q].map (·.data.toList)) [32] = textL ls s now := by
    simp only [List.map_cons, List.map_nil]
    unfold textL
    rw [hUl, hP2l, HI.out, HK.out, HL.out, HQ.out, HT.out, mk_list, mk_list, mk_list, mk_list]
  have hjl : (Lib.join ([I, U, K, L, P2, Q].map (·.data.toList)) [32]).length ≤ 140737488355328 := by
    have e1 := HIL.out; have e2 := size_list U; have e3 := size_list P2; have e4 := HQL.out; have e5 := HPL.out
    have e6 : K.data.toList.length ≤ 9 := by rw [HK.out, mk_list]; exact kind_len _
    have e7 : L.data.toList.length ≤ 4 := by rw [HL.out, mk_list]; exact lev_len _
    simp only [List.map_cons, List.map_nil]
    rw [join6]
    omega
  have HJ := Lib.hid (fun (w' : World) => (Tryz.strings_Join w'.heap.size 0 6 [I, U, K, L, P2, Q] ⟨#[32]⟩ (w'.alloc (.cells #[.string I, .string U, .string K, .string L, .string P2, .string Q] 9)) (fun j x hj => by
      have e : (w'.alloc (.cells #[.string I, .string U, .string K, .string L, .string P2, .string Q] 9)).cell? ⟨w'.heap.size, 0 + j, none⟩ = (#[Value.string I, .string U, .string K, .string L, .string P2, .string Q] : Array Value)[0 + j]? := cell_of_row _ _ _ _ _ _ (Ut.alloc_at w' _)
      rw [e, Nat.zero_add]
      have h2 : (#[Value.string I, .string U, .string K, .string L, .string P2, .string Q] : Array Value) = ([I, U, K, L, P2, Q].map Value.string).toArray := rfl
      rw [h2, List.getElem?_toArray, List.getElem?_map, hj]
      rfl) (by simp) (by simp) (by simp) hjl).mono fun e w2 h2 => (⟨h2.1, h2.2⟩ : e = .returned (.string ⟨(Lib.join ([I, U, K, L, P2, Q].map (·.data.toList)) [32]).toArray⟩) ∧ Below (w'.alloc (.cells #[.string I, .string U, .string K, .string L, .string P2, .string Q] 9)).heap.size (w'.alloc (.cells #[.string I, .string U, .string K, .string L, .string P2, .string Q] 9)) w2))
  obtain ⟨J, hJ⟩ : ∃ J : ByteArray, J = ⟨(Lib.join ([I, U, K, L, P2, Q].map (·.data.toList)) [32]).toArray⟩ := ⟨_, rfl⟩
  rw [← hJ] at HJ
  have HJT : Hid (J.data.toList = textL ls s now) := by show _ = _; rw [hJ, mk_list]; exact hjoin
  clear hJ hjoin hjl hP1 hP2 hp1s hp2s hP2l hUl hUs
  have hnb : ¬ (nameB s.user.data.toList = false ∨ (s.label.data.toList ≠ [] ∧ nameB s.label.data.toList = false)) := by
    rintro (h | ⟨h1, h2⟩)
    · rw [hu] at h; cases h
    · exact h1 he
  have HRU := Lib.hid (line_g (ls := ls) (s := s) (now := now) (show ¬ (s.birth < 1 ∨ 1048576 < s.birth) by omega) hnb (show ¬ (s.kind < 0 ∨ 2 < s.kind) by omega) (show ¬ (s.level < 0 ∨ 2 < s.level) by omega) hs (show ¬ (now < 0 ∨ 1099511627776 < now ∨ s.dl < 0 ∨ 1099511627776 < s.dl) by omega))
  clear hbx hb0 hin wn
  clear hu hk0 hk1 hl0 hl1 hs hnb he
  go_enter Tryz.func7, Tryz.ntmps7
  go_wp2_with fail
  rw [← hW]
  clear hW
  refine (HN1.out _).mono ?_
  rintro e w1 ⟨rfl, hbc⟩
  have HC1 : Hid (Below W.heap.size W w1) := hbc
  clear hbc x1 x4 x5 x6 x7 x8 x10
  obtain ⟨x1, x4, x5, x6, x7, x8, x10⟩ := HX.out w1 HC1.out
  go_wp2_with fail
  refine (HWD.out _).mono ?_
  rintro e w0 ⟨rfl, rfl⟩
  go_wp2_with fail
  refine (HLV.out _).mono ?_
  rintro e w2 ⟨rfl, hbc⟩
  have HC2 : Hid (Below W.heap.size W w2) := HC1.out.trans (hbc.mono HC1.out.size)
  clear hbc x1 x4 x5 x6 x7 x8 x10
  obtain ⟨x1, x4, x5, x6, x7, x8, x10⟩ := HX.out w2 HC2.out
  go_wp2_with fail
  refine (HPR.out _ HC2.out).mono ?_
  rintro e w3 ⟨rfl, hbc⟩
  have HC3 : Hid (Below W.heap.size W w3) := HC2.out.trans (hbc.mono HC2.out.size)
  clear hbc x1 x4 x5 x6 x7 x8 x10
  obtain ⟨x1, x4, x5, x6, x7, x8, x10⟩ := HX.out w3 HC3.out
  go_wp2_with fail
  refine (HLE.out _).mono ?_
  rintro e w0 ⟨rfl, rfl⟩
  go_wp2_with fail
  refine (HCP.out _ HC3.out).mono ?_
  rintro e w4 ⟨rfl, hbc⟩
  have HC4 : Hid (Below W.heap.size W w4) := HC3.out.trans (hbc.mono HC3.out.size)
  clear hbc x1 x4 x5 x6 x7 x8 x10
  obtain ⟨x1, x4, x5, x6, x7, x8, x10⟩ := HX.out w4 HC4.out
  have hx5 : _ = some (Value.string s.user) := x5
  rw [← HUU.out] at x5
  clear hx5
  go_wp2_with fail
  have HH := Lib.hid (fun (w' : World) (hb : Below W.heap.size W w') => (by
    obtain ⟨y1, y4, y5, y6, y7, y8, y10⟩ := HX.out w' hb
    exact ⟨y1, y4⟩ : w'.cell? ⟨w.heap.size, 1, none⟩ = some (.int .i64 s.birth) ∧ w'.cell? ⟨w.heap.size, 4, none⟩ = some (.int .i64 s.kind)))
  have HD := Lib.hid (HC4.out.trans (Below.mono (Below.drew (Below.refl w4.heap.size w4)) HC4.out.size))
  go_region_held3 (fun w' => w'.cell? ⟨w.heap.size, 1, none⟩ = some (.int .i64 s.birth) ∧ w'.cell? ⟨w.heap.size, 4, none⟩ = some (.int .i64 s.kind)) (go_keep) (first
    | (go_at_call 29; refine (HIT.out _ HD.out).mono ?_; rintro e v1 ⟨rfl, hbi⟩; (have HV1 := Lib.hid (HD.out.trans (hbi.mono HD.out.size))); obtain ⟨n1, n4⟩ := HH.out _ HV1.out; clear hbi)
    | (go_at_call 23; refine (HWD.out _).mono ?_; rintro e v2 ⟨rfl, rfl⟩)
    | (go_at_call 28; refine (HJ.out _).mono ?_; rintro e v3 ⟨rfl, hbj⟩; (have HV3 := Lib.hid (HV1.out.trans (((Below.refl _ v1).alloc (Nat.le_refl _) _).trans (hbj.mono (by simp)) |>.mono HV1.out.size))); obtain ⟨p1, p4⟩ := HH.out _ HV3.out; clear hbj))
  go_wp2
  go_ret2
  exact ⟨LinePost.mk (no := 0) HRU.out HJT.out rfl, HB0.out.trans (HV3.out.mono HB0.out.size)⟩

set_option maxHeartbeats 4000000 in
theorem line_glw (lo B : Nat) (ls : List ByteArray) (s : Sess) (now : Int) (wn : (Lit.int .i64 now).wf = true) (w : World) (hin : LineIn lo B ls s w) (ha0 : 1 ≤ s.birth) (ha1 : s.birth ≤ 1048576) (hu : nameB s.user.data.toList = true) (hne : s.label.data.toList ≠ []) (hl : nameB s.label.data.toList = true) (hk0 : 0 ≤ s.kind) (hk1 : s.kind ≤ 2) (hl0 : 0 ≤ s.level) (hl1 : s.level ≤ 2) (hs : ¬ 2 ^ ls.length ≤ s.scopes) (g0 : 0 ≤ now) (g1 : now ≤ 1099511627776) (g2 : 0 ≤ s.dl) (g3 : s.dl ≤ 1099511627776) :
    Calls Tryz.prog 7 #[.pointer (some ⟨B, 0, none⟩), .agg #[.int .i64 s.slot, .int .i64 s.birth, .int .i64 s.us, .int .i64 s.ub, .int .i64 s.kind, .string s.user, .string s.label, .int .u64 (s.scopes : Int), .int .i64 s.level, .int .i64 s.born, .int .i64 s.dl, .int .i64 s.depth], .int .i64 now] w fun e w' => LinePost ls s now e ∧ Below w.heap.size w w' := by
  obtain ⟨W, hW⟩ : ∃ W, W = w.alloc (.cells #[.int .i64 s.slot, .int .i64 s.birth, .int .i64 s.us, .int .i64 s.ub, .int .i64 s.kind, .string s.user, .string s.label, .int .u64 (s.scopes : Int), .int .i64 s.level, .int .i64 s.born, .int .i64 s.dl, .int .i64 s.depth] 30) := ⟨_, rfl⟩
  have hb0 : Below w.heap.size w W := by rw [hW]; exact (Below.refl _ _).alloc (Nat.le_refl _) _
  have hbx : W.heap[w.heap.size]? = some (.cells #[.int .i64 s.slot, .int .i64 s.birth, .int .i64 s.us, .int .i64 s.ub, .int .i64 s.kind, .string s.user, .string s.label, .int .u64 (s.scopes : Int), .int .i64 s.level, .int .i64 s.born, .int .i64 s.dl, .int .i64 s.depth] 30 (0, 0)) := by rw [hW]; exact Ut.alloc_at _ _
  have HX := Lib.hid (fun (w' : World) (hb : Below W.heap.size W w') => (by
    have h1 := (hb.block w.heap.size (Array.getElem?_eq_some_iff.1 hbx).1).trans hbx
    have h2 : ∀ j, w'.cell? ⟨w.heap.size, j, none⟩ = (#[.int .i64 s.slot, .int .i64 s.birth, .int .i64 s.us, .int .i64 s.ub, .int .i64 s.kind, .string s.user, .string s.label, .int .u64 (s.scopes : Int), .int .i64 s.level, .int .i64 s.born, .int .i64 s.dl, .int .i64 s.depth] : Array Value)[j]? := fun j => cell_of_row _ _ _ _ _ _ h1
    exact ⟨h2 1, h2 4, h2 5, h2 6, h2 7, h2 8, h2 10⟩ : w'.cell? ⟨w.heap.size, 1, none⟩ = some (.int .i64 s.birth) ∧ w'.cell? ⟨w.heap.size, 4, none⟩ = some (.int .i64 s.kind) ∧ w'.cell? ⟨w.heap.size, 5, none⟩ = some (.string s.user) ∧ w'.cell? ⟨w.heap.size, 6, none⟩ = some (.string s.label) ∧ w'.cell? ⟨w.heap.size, 7, none⟩ = some (.int .u64 (s.scopes : Int)) ∧ w'.cell? ⟨w.heap.size, 8, none⟩ = some (.int .i64 s.level) ∧ w'.cell? ⟨w.heap.size, 10, none⟩ = some (.int .i64 s.dl)))
  obtain ⟨x1, x4, x5, x6, x7, x8, x10⟩ := HX.out W (Below.refl _ _)
  have HB0 := Lib.hid hb0
  have HW := Lib.hid hW
  have HIN := Lib.hid hin
  have HN1 := Lib.hid (fun (w' : World) => (name_any s.user (by have := HIN.out.hz1; omega) w').mono fun e w2 h2 => (by rw [hu] at h2; exact h2 : e = .returned (.bool true) ∧ Below w'.heap.size w' w2))
  have HN2 := Lib.hid (fun (w' : World) => (name_any s.label (by have := HIN.out.hz2; omega) w').mono fun e w2 h2 => (by rw [hl] at h2; exact h2 : e = .returned (.bool true) ∧ Below w'.heap.size w' w2))
  have l1 : s.label.toList.isEmpty = false := by rw [Lib.toList_data]; cases h : s.label.data.toList with | nil => exact absurd h hne | cons a r => rfl
  obtain ⟨K, hK⟩ : ∃ K : ByteArray, K = ⟨(kindL s.kind).toArray⟩ := ⟨_, rfl⟩
  have HWD := Lib.hid (fun w' => vword_any s.kind w')
  rw [← hK] at HWD
  have hKe : K.toList.isEmpty = false := by
    rw [Lib.toList_data, hK]
    have := kind_yes hk0 hk1
    show (kindL s.kind).isEmpty = false
    cases h : kindL s.kind with
    | nil => exact absurd h this
    | cons a r => rfl
  have HK := Lib.hid hK
  clear hK
  obtain ⟨L, hL⟩ : ∃ L : ByteArray, L = ⟨(levL s.level).toArray⟩ := ⟨_, rfl⟩
  have HLV := Lib.hid (fun w' => level_yes s.level hl0 hl1 w')
  rw [← hL] at HLV
  have HL := Lib.hid hL
  clear hL
  obtain ⟨P, hP⟩ : ∃ P : ByteArray, P = ⟨(jn ls s.scopes ls.length).toArray⟩ := ⟨_, rfl⟩
  have HPR := Lib.hid (fun (w' : World) (hb : Below W.heap.size W w') => (print_any lo B ls HIN.out.hbk s.scopes HIN.out.hsc w' (HIN.out.henv w' (HB0.out.trans (hb.mono HB0.out.size))).book).mono fun e w2 h2 => (⟨by have h3 := h2.1; unfold PrintPost at h3; rw [scopes_ok hs] at h3; rw [hP]; exact h3, h2.2⟩ : e = .returned (.tuple #[.string P, .nilIface]) ∧ Below w'.heap.size w' w2))
  have HPL : Hid (P.size ≤ 8512) := by
    show _ ≤ _
    have h1 := vjn_len HIN.out.hbk s.scopes ls.length (Nat.le_refl _)
    have h2 := HIN.out.hbk.len
    have h3 : P.size = (jn ls s.scopes ls.length).length := by rw [hP]; simp [ByteArray.size]
    omega
  have HP := Lib.hid hP
  clear hP
  obtain ⟨t, ht⟩ : ∃ t, t = lft now s.dl := ⟨_, rfl⟩
  have HLE := Lib.hid (fun w' => left_any now s.dl wn hin.wd w')
  rw [← ht] at HLE
  have hlb := lft_bd (now := now) (d := s.dl) g0 g3
  rw [← ht] at hlb
  obtain ⟨Q, hQ⟩ : ∃ Q : ByteArray, Q = ⟨(prt t).toArray⟩ := ⟨_, rfl⟩
  have HCP := Lib.hid (fun (w' : World) (hb : Below W.heap.size W w') => cprint_any t (tm_of hlb.1 hlb.2) w' (HIN.out.henv w' (HB0.out.trans (hb.mono HB0.out.size))).parts (HIN.out.henv w' (HB0.out.trans (hb.mono HB0.out.size))).tab)
  rw [← hQ] at HCP
  have HQL : Hid (Q.data.toList.length ≤ 88) := by show _ ≤ _; rw [hQ, mk_list]; exact vprt_len t hlb.1 hlb.2
  have HT := Lib.hid ht; have HQ := Lib.hid hQ
  clear ht hQ hlb
  obtain ⟨I, hI⟩ : ∃ I : ByteArray, I = ⟨(Lib.itoa s.birth).toArray⟩ := ⟨_, rfl⟩
  have HIT := Lib.hid (fun (w' : World) (hb : Below W.heap.size W w') => itoa_below s.birth (by omega) (by omega) w' (HIN.out.henv w' (HB0.out.trans (hb.mono HB0.out.size))).tab)
  rw [← hI] at HIT
  have HIL : Hid (I.data.toList.length ≤ 21) := by show _ ≤ _; rw [hI, mk_list]; exact Lib.itoa_length_le s.birth (by omega) (by omega)
  have HI := Lib.hid hI
  clear hI
  obtain ⟨P1, hP1⟩ : ∃ P1 : ByteArray, P1 = ⟨#[91]⟩ ++ P := ⟨_, rfl⟩
  obtain ⟨P2, hP2⟩ : ∃ P2 : ByteArray, P2 = P1 ++ ⟨#[93]⟩ := ⟨_, rfl⟩
  have hp1s : P1.size = 1 + P.size := by rw [hP1, ByteArray.size_append]; rfl
  have hp2s : P2.size = P1.size + 1 := by rw [hP2, ByteArray.size_append]; rfl
  have k1 := vcat (a := ⟨#[91]⟩) (b := P) (by have := HPL.out; show 1 + P.size ≤ _; omega) hP1
  have k2 := vcat (a := P1) (b := ⟨#[93]⟩) (by have := HPL.out; show P1.size + 1 ≤ _; omega) hP2
  have hP2l : P2.data.toList = 91 :: (printL ls s.scopes).1 ++ [93] := by
    rw [cat_list hP2, cat_list hP1, scopes_ok hs, HP.out, mk_list]; rfl
  obtain ⟨C1, hC1⟩ : ∃ C1 : ByteArray, C1 = ⟨#[47]⟩ ++ s.label := ⟨_, rfl⟩
  obtain ⟨U, hU⟩ : ∃ U : ByteArray, U = s.user ++ C1 := ⟨_, rfl⟩
  have hc1s : C1.size = 1 + s.label.size := by rw [hC1, ByteArray.size_append]; rfl
  have hus : U.size = s.user.size + C1.size := by rw [hU, ByteArray.size_append]
  have k3 := vcat (a := ⟨#[47]⟩) (b := s.label) (by have := vsz hl; show 1 + s.label.size ≤ _; omega) hC1
  have k4 := vcat (a := s.user) (b := C1) (by have := vsz hu; have := vsz hl; omega) hU
  have hUl : U.data.toList = whoL s := by
    rw [cat_list hU, cat_list hC1]; unfold whoL; rw [if_neg hne]; rfl
  have hUs : U.size ≤ 2097153 := by have := vsz hu; have := vsz hl; omega
  clear hC1 hU hc1s hus
  have hjoin : Lib.join ([I, U, K, L, P2, Q].map (·.data.toList)) [32] = textL ls s now := by
    simp only [List.map_cons, List.map_nil]
    unfold textL
    rw [hUl, hP2l, HI.out, HK.out, HL.out, HQ.out, HT.out, mk_list, mk_list, mk_list, mk_list]
  have hjl : (Lib.join ([I, U, K, L, P2, Q].map (·.data.toList)) [32]).length ≤ 140737488355328 := by
    have e1 := HIL.out; have e2 := size_list U; have e3 := size_list P2; have e4 := HQL.out; have e5 := HPL.out
    have e6 : K.data.toList.length ≤ 9 := by rw [HK.out, mk_list]; exact kind_len _
    have e7 : L.data.toList.length ≤ 4 := by rw [HL.out, mk_list]; exact lev_len _
    simp only [List.map_cons, List.map_nil]
    rw [join6]
    omega
  have HJ := Lib.hid (fun (w' : World) => (Tryz.strings_Join w'.heap.size 0 6 [I, U, K, L, P2, Q] ⟨#[32]⟩ (w'.alloc (.cells #[.string I, .string U, .string K, .string L, .string P2, .string Q] 9)) (fun j x hj => by
      have e : (w'.alloc (.cells #[.string I, .string U, .string K, .string L, .string P2, .string Q] 9)).cell? ⟨w'.heap.size, 0 + j, none⟩ = (#[Value.string I, .string U, .string K, .string L, .string P2, .string Q] : Array Value)[0 + j]? := cell_of_row _ _ _ _ _ _ (Ut.alloc_at w' _)
      rw [e, Nat.zero_add]
      have h2 : (#[Value.string I, .string U, .string K, .string L, .string P2, .string Q] : Array Value) = ([I, U, K, L, P2, Q].map Value.string).toArray := rfl
      rw [h2, List.getElem?_toArray, List.getElem?_map, hj]
      rfl) (by simp) (by simp) (by simp) hjl).mono fun e w2 h2 => (⟨h2.1, h2.2⟩ : e = .returned (.string ⟨(Lib.join ([I, U, K, L, P2, Q].map (·.data.toList)) [32]).toArray⟩) ∧ Below (w'.alloc (.cells #[.string I, .string U, .string K, .string L, .string P2, .string Q] 9)).heap.size (w'.alloc (.cells #[.string I, .string U, .string K, .string L, .string P2, .string Q] 9)) w2))
  obtain ⟨J, hJ⟩ : ∃ J : ByteArray, J = ⟨(Lib.join ([I, U, K, L, P2, Q].map (·.data.toList)) [32]).toArray⟩ := ⟨_, rfl⟩
  rw [← hJ] at HJ
  have HJT : Hid (J.data.toList = textL ls s now) := by show _ = _; rw [hJ, mk_list]; exact hjoin
  clear hJ hjoin hjl hP1 hP2 hp1s hp2s hP2l hUl hUs
  have hnb : ¬ (nameB s.user.data.toList = false ∨ (s.label.data.toList ≠ [] ∧ nameB s.label.data.toList = false)) := by
    rintro (h | ⟨h1, h2⟩)
    · rw [hu] at h; cases h
    · rw [hl] at h2; cases h2
  have HRU := Lib.hid (line_g (ls := ls) (s := s) (now := now) (show ¬ (s.birth < 1 ∨ 1048576 < s.birth) by omega) hnb (show ¬ (s.kind < 0 ∨ 2 < s.kind) by omega) (show ¬ (s.level < 0 ∨ 2 < s.level) by omega) hs (show ¬ (now < 0 ∨ 1099511627776 < now ∨ s.dl < 0 ∨ 1099511627776 < s.dl) by omega))
  clear hbx hb0 hin wn
  clear hu hk0 hk1 hl0 hl1 hs hnb hl hne
  go_enter Tryz.func7, Tryz.ntmps7
  go_wp2_with fail
  rw [← hW]
  clear hW
  refine (HN1.out _).mono ?_
  rintro e w1 ⟨rfl, hbc⟩
  have HC1 : Hid (Below W.heap.size W w1) := hbc
  clear hbc x1 x4 x5 x6 x7 x8 x10
  obtain ⟨x1, x4, x5, x6, x7, x8, x10⟩ := HX.out w1 HC1.out
  go_wp2_with fail
  refine (HN2.out _).mono ?_
  rintro e w2 ⟨rfl, hbc⟩
  have HC2 : Hid (Below W.heap.size W w2) := HC1.out.trans (hbc.mono HC1.out.size)
  clear hbc x1 x4 x5 x6 x7 x8 x10
  obtain ⟨x1, x4, x5, x6, x7, x8, x10⟩ := HX.out w2 HC2.out
  go_wp2_with fail
  refine (HWD.out _).mono ?_
  rintro e w0 ⟨rfl, rfl⟩
  go_wp2_with fail
  refine (HLV.out _).mono ?_
  rintro e w3 ⟨rfl, hbc⟩
  have HC3 : Hid (Below W.heap.size W w3) := HC2.out.trans (hbc.mono HC2.out.size)
  clear hbc x1 x4 x5 x6 x7 x8 x10
  obtain ⟨x1, x4, x5, x6, x7, x8, x10⟩ := HX.out w3 HC3.out
  go_wp2_with fail
  refine (HPR.out _ HC3.out).mono ?_
  rintro e w4 ⟨rfl, hbc⟩
  have HC4 : Hid (Below W.heap.size W w4) := HC3.out.trans (hbc.mono HC3.out.size)
  clear hbc x1 x4 x5 x6 x7 x8 x10
  obtain ⟨x1, x4, x5, x6, x7, x8, x10⟩ := HX.out w4 HC4.out
  go_wp2_with fail
  refine (HLE.out _).mono ?_
  rintro e w0 ⟨rfl, rfl⟩
  go_wp2_with fail
  refine (HCP.out _ HC4.out).mono ?_
  rintro e w5 ⟨rfl, hbc⟩
  have HC5 : Hid (Below W.heap.size W w5) := HC4.out.trans (hbc.mono HC4.out.size)
  clear hbc x1 x4 x5 x6 x7 x8 x10
  obtain ⟨x1, x4, x5, x6, x7, x8, x10⟩ := HX.out w5 HC5.out
  go_wp2_with fail
  have HH := Lib.hid (fun (w' : World) (hb : Below W.heap.size W w') => (by
    obtain ⟨y1, y4, y5, y6, y7, y8, y10⟩ := HX.out w' hb
    exact ⟨y1, y4⟩ : w'.cell? ⟨w.heap.size, 1, none⟩ = some (.int .i64 s.birth) ∧ w'.cell? ⟨w.heap.size, 4, none⟩ = some (.int .i64 s.kind)))
  have HD := Lib.hid (HC5.out.trans (Below.mono (Below.drew (Below.refl w5.heap.size w5)) HC5.out.size))
  go_region_held3 (fun w' => w'.cell? ⟨w.heap.size, 1, none⟩ = some (.int .i64 s.birth) ∧ w'.cell? ⟨w.heap.size, 4, none⟩ = some (.int .i64 s.kind)) (go_keep) (first
    | (go_at_call 29; refine (HIT.out _ HD.out).mono ?_; rintro e v1 ⟨rfl, hbi⟩; (have HV1 := Lib.hid (HD.out.trans (hbi.mono HD.out.size))); obtain ⟨n1, n4⟩ := HH.out _ HV1.out; clear hbi)
    | (go_at_call 23; refine (HWD.out _).mono ?_; rintro e v2 ⟨rfl, rfl⟩)
    | (go_at_call 28; refine (HJ.out _).mono ?_; rintro e v3 ⟨rfl, hbj⟩; (have HV3 := Lib.hid (HV1.out.trans (((Below.refl _ v1).alloc (Nat.le_refl _) _).trans (hbj.mono (by simp)) |>.mono HV1.out.size))); obtain ⟨p1, p4⟩ := HH.out _ HV3.out; clear hbj))
  go_wp2
  go_ret2
  exact ⟨LinePost.mk (no := 0) HRU.out HJT.out rfl, HB0.out.trans (HV3.out.mono HB0.out.size)⟩

end Vw
end Go.Proofs.YtocoonkachbjaaaGreatDoor
