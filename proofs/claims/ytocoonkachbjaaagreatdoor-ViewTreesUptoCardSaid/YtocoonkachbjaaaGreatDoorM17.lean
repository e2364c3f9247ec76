/- Several texts in one: what each proves its own first comment says. -/
import Derived.Test.YtocoonkachbjaaaGreatDoorM16

/- slices.Clone at sessions; slices.IndexFunc with first's closure; first. -/
namespace Go.Proofs.YtocoonkachbjaaaGreatDoor
open Go.RowKit Go.Maps
set_option linter.unusedVariables false
namespace Vw

theorem all_at {ss : List Sess} {j i : Nat} {u : Value} (hu : (allV ss)[j]? = some u) : ∃ (k : Nat) (h : k < ss.length) (i : Nat), j = k * 12 + i ∧ ss[k].cells[i]? = some u := by
  induction ss generalizing j with
  | nil => simp [allV] at hu
  | cons s r ih =>
    unfold allV at hu
    rw [List.flatMap_cons] at hu
    have hc : s.cells.length = 12 := rfl
    rcases Nat.lt_or_ge j 12 with h | h
    · rw [List.getElem?_append_left (by rw [hc]; exact h)] at hu
      exact ⟨0, by simp, j, by omega, hu⟩
    · rw [List.getElem?_append_right (by rw [hc]; exact h), hc] at hu
      obtain ⟨k, hk, i, e, h2⟩ := ih hu
      exact ⟨k + 1, by simpa using hk, i, by omega, by simpa using h2⟩
theorem all_cell {ss : List Sess} {k i : Nat} (h : k < ss.length) (hi : i < 12) : (allV ss)[k * 12 + i]? = ss[k].cells[i]? := by
  induction ss generalizing k with
  | nil => simp at h
  | cons s r ih =>
    unfold allV
    rw [List.flatMap_cons]
    have hc : s.cells.length = 12 := rfl
    cases k with
    | zero => rw [List.getElem?_append_left (by omega)]; simp
    | succ k =>
      rw [List.getElem?_append_right (by rw [hc]; omega), hc, show (k + 1) * 12 + i - 12 = k * 12 + i by omega]
      exact ih (by simpa using h)
theorem all_one {ss : List Sess} : ∀ u ∈ allV ss, u.oneCell' = true := fun u hu => by
  obtain ⟨s, _, h⟩ := List.mem_flatMap.1 hu
  exact s.one u h
theorem sess_src {w : World} {p : Option Addr} {cap : Nat} {ss : List Sess} (h : SessArg w (.slice p ss.length cap) ss) : Ap.SrcAt w p ss.length 12 (allV ss) := by
  obtain ⟨p2, c2, e, hc⟩ := h
  injection e with e1 e2 e3
  subst e1
  rcases Nat.eq_zero_or_pos ss.length with h0 | h0
  · exact .inl ⟨h0, List.eq_nil_of_length_eq_zero (by rw [allV_len, h0])⟩
  · obtain ⟨g, o, rfl, _, _⟩ := hc 0 h0
    refine .inr ⟨_, rfl, allV_len ss, fun j u hu => ?_⟩
    obtain ⟨k, hk, i, rfl, h2⟩ := all_at (i := 0) hu
    obtain ⟨g2, o2, e2, _, h3⟩ := hc k hk
    cases e2
    have := h3 i u h2
    have e : (⟨g, o, none⟩ : Addr).add (k * 12 + i) = ⟨g, o + k * 12 + i, none⟩ := by rw [Addr.add_mid, Nat.add_assoc]
    rw [e]; exact this
/-- Out of an own row. -/
theorem sess_of_own {w : World} {base cap : Nat} {q : Option Addr} {ss : List Sess} (h : w.ownsRow base 30 12 (.slice q ss.length cap) ss.length (allV ss)) : SessArg w (.slice q ss.length cap) ss := by
  refine ⟨q, cap, rfl, fun j hj => ?_⟩
  rcases h.2 with ⟨h1, h2⟩ | ⟨g, c, cur, h1, h2, h3, h4, h5, h6, h7⟩
  · omega
  · injection h1 with e1 e2 e3
    subst e1 e3
    refine ⟨g, 0, rfl, (Array.getElem?_eq_some_iff.1 h3).1, fun i u hi => ?_⟩
    have hi2 : i < 12 := (List.getElem?_eq_some_iff.1 hi).1
    rw [Nat.zero_add, World.ownsRow.cellAt (w := w) h (j * 12 + i) (by omega), all_cell hj hi2]
    exact hi

set_option maxRecDepth 100000 in
set_option maxHeartbeats 2000000 in
theorem vclone_any (v : Value) (ss : List Sess) (hl : ss.length ≤ 65536) (w : World) (h1 : SessArg w v ss) :
    Calls Tryz.prog 82 #[v] w fun e w' => (∃ d, e = .returned d ∧ w'.ownsRow w.heap.size 30 12 d ss.length (allV ss)) ∧ Below w.heap.size w w' := by
  have HA := Lib.hid h1
  obtain ⟨p, cap, rfl, h2⟩ := h1
  obtain ⟨i0, hi, hz0, hz1, hz2⟩ := info_parts vinfo_sess
  have hq := fun (w : World) a n c n2 c2 => Lib.run_eql_slice_nil (P := Tryz.prog) w 42 30 a n c n2 c2 Tryz.underlying42
  cases p with
  | none =>
    have he : ss = [] := by
      rcases Nat.eq_zero_or_pos ss.length with h | h
      · exact List.eq_nil_of_length_eq_zero h
      · obtain ⟨g, o, e, _⟩ := h2 0 h
        cases e
    subst he
    clear h2 HA
    go_enter Tryz.func82, Tryz.ntmps82
    go_wp2
    go_ret
    exact ⟨⟨_, rfl, World.ownsRow_nil _ _ _ _⟩, Below.refl _ _⟩
  | some ad =>
    have HS := Lib.hid (sess_src HA.out)
    have hown0 : (w.alloc (.cells [].toArray 30)).ownsRow w.heap.size 30 12 (.slice (some ⟨w.heap.size, 0, none⟩) 0 0) 0 [] := own_new rfl (Nat.le_refl _) (Nat.zero_le _)
    have HO0 := Lib.hid hown0
    have HS1 : Hid (Ap.SrcAt (w.alloc (.cells #[] 30)) (some ad) ss.length 12 (allV ss)) := sess_src (HA.out.below ((Below.refl _ _).alloc (Nat.le_refl _) _))
    have am1 : 0 + ss.length ≤ maxLen := by unfold maxLen; omega
    have am2 : (0 + ss.length) * 112 ≤ 140737488355328 := by omega
    have hb0 : Below w.heap.size w (w.alloc (.cells #[] 30)) := (Below.refl _ _).alloc (Nat.le_refl _) _
    have HB0 := Lib.hid hb0
    clear h2 hown0 hb0
    go_enter Tryz.func82, Tryz.ntmps82
    go_wp2_with (at_builtin; refine Ap.wpList_any _ rfl (.tmp 5) (.tmp 6) 42 rfl w.heap.size 30 i0 _ 12 112 Tryz.underlying42 hi hz0 hz1 hz2 rfl (by decide) _ 0 [] rfl HO0.out (some ad) ss.length cap _ rfl HS1.out all_one am1 am2 (by simp) ?_; intro v2 w5 hown5 hgrow5 _)
    go_ret
    rw [Nat.zero_add, List.nil_append] at hown5
    exact ⟨⟨_, rfl, hown5⟩, HB0.out.grown hgrow5 (by simp) (fun j hj => by have h : w.heap.size = j := Option.some.inj hj; omega)⟩

theorem cs_birth {ss : List Sess} {k : Nat} (h : k < ss.length) : (csAt ss k)[1]? = some (.int .i64 ss[k].birth) := by rw [csAt_at h]; rfl

/-- The closure that first hands to IndexFunc. -/
theorem first1_any (cs : List Value) (B b : Int) (bb : Nat) (hc : cs[1]? = some (.int .i64 B)) (w : World) (hb : w.cell? ⟨bb, 0, none⟩ = some (.int .i64 b)) :
    Calls Tryz.prog 114 #[.agg cs.toArray, .pointer (some ⟨bb, 0, none⟩)] w fun e w' => e = .returned (.bool (B == b)) ∧ Below w.heap.size w w' := by
  have h1 : (w.alloc (.cells cs.toArray 30)).cell? ⟨w.heap.size, 1, none⟩ = some (.int .i64 B) := by
    rw [cell_of_row _ _ _ _ _ _ (Ut.alloc_at _ _)]
    simpa using hc
  have h2 : (w.alloc (.cells cs.toArray 30)).cell? ⟨bb, 0, none⟩ = some (.int .i64 b) := (((Below.refl _ _).alloc (Nat.le_refl _) _).cell (p := ⟨bb, 0, none⟩) (World.block_lt_of_cell? w _ hb)).trans hb
  have HB : Hid (Below w.heap.size w (w.alloc (.cells cs.toArray 30))) := (Below.refl _ _).alloc (Nat.le_refl _) _
  clear hc hb
  go_enter Tryz.func114, Tryz.ntmps114
  go_wp2
  go_ret
  exact ⟨rfl, HB.out⟩

set_option maxRecDepth 100000 in
set_option maxHeartbeats 2000000 in
theorem vindex_any (v : Value) (ss : List Sess) (hl : (ss.length : Int) ≤ 9223372036854775807) (b : Int) (bb : Nat) (w : World) (h1 : SessArg w v ss) (hb : w.cell? ⟨bb, 0, none⟩ = some (.int .i64 b)) :
    Calls Tryz.prog 113 #[v, .func (.func 114) #[] #[.pointer (some ⟨bb, 0, none⟩)]] w fun e w' => e = .returned (.int .i64 (firstI ss b)) ∧ Below w.heap.size w w' := by
  obtain ⟨p, cap, rfl, h⟩ := h1
  have H := Lib.hid h
  have HBB := Lib.hid hb
  clear h hb
  go_enter Tryz.func113, Tryz.ntmps113
  go_wp2
  go_loopw [8] (fun i wr => FsRel ss b w i wr) (fun i _ => ss.length - (intOf i).toNat)
  case atStart => exact ⟨0, Nat.zero_le _, rfl, fun j h hj => absurd hj (Nat.not_lt_zero _), Below.refl _ _⟩
  case round =>
    obtain ⟨k, hk, rfl, hne, hbr⟩ := hrel
    have HE := Lib.hid hne; have HBR := Lib.hid hbr; clear hne
    have b0 : (0 : Int) ≤ (k : Int) := by omega
    by_cases h : k < ss.length
    · have b1 : (k : Int) < (ss.length : Int) := by omega
      obtain ⟨g, o, rfl, hg, k2⟩ := H.out k h
      obtain ⟨cs, hcs⟩ : ∃ cs, cs = csAt ss k := ⟨_, rfl⟩
      have HRG : Hid (wr.rangeAt g (o + k * 12) cs) := fun j u hu => (hbr.cell (p := ⟨g, o + k * 12 + j, none⟩) hg).trans (k2 j u (by rw [hcs, csAt_at h] at hu; exact hu))
      have HCL : Hid (cs.length = 12) := by show _ = _; rw [hcs, csAt_at h]; rfl
      have hcb : cs[1]? = some (.int .i64 ss[k].birth) := by rw [hcs]; exact cs_birth h
      have w1 : IntKind.i64.wrap ((k : Int) + 1) = ((k + 1 : Nat) : Int) := by rw [IntWalk.i64_in _ (by omega)]; rfl
      have hyes : ss[k].birth = b → firstL ss b = some k := fun e => by
        unfold firstL
        rw [List.findIdx?_eq_some_iff_getElem]
        exact ⟨h, by simp [e], fun j hj => by simpa using HE.out j (by omega) hj⟩
      have hno : ss[k].birth ≠ b → ∀ j (h : j < ss.length), j < k + 1 → ss[j].birth ≠ b := fun e j h hj => by
        rcases Nat.lt_or_ge j k with h2 | h2
        · exact HE.out j h h2
        · have e2 : j = k := by omega
          subst e2; exact e
      obtain ⟨X, hX⟩ : ∃ X, X = ss[k].birth := ⟨_, rfl⟩
      rw [← hX] at hcb hyes hno
      have HC := Lib.hid (first1_any cs X b bb hcb wr ((hbr.cell (p := ⟨bb, 0, none⟩) (World.block_lt_of_cell? w _ HBB.out)).trans HBB.out))
      clear k2 hX hcs hcb hbr
      go_wp2_with (first
        | (refine wpList_load_mid rfl 30 _ rfl _ _ rfl cs _ HRG.out Tryz.underlying30 rfl (by rw [HCL.out]; kernel_rfl) ?_)
        | fail)
      refine HC.out.mono ?_
      rintro e w2 ⟨rfl, hb2⟩
      have HB2 : Hid (Below w.heap.size w w2) := HBR.out.trans (hb2.mono HBR.out.size)
      clear hb2
      by_cases hx : X = b
      · have HF : Hid (Ending.returned (.int .i64 (k : Int)) = .returned (.int .i64 (firstI ss b))) := by show _ = _; unfold firstI; rw [hyes hx]
        have hxq : (X == b) = true := by simp [hx]
        clear hyes hno hx
        go_wp2
        go_ret
        exact ⟨HF.out, HB2.out⟩
      · have HN := Lib.hid (hno hx)
        have hxq : (X == b) = false := by rw [beq_eq_false_iff_ne]; exact hx
        clear hyes hno hx
        go_wp2
        go_roundw
        case rel => exact ⟨k + 1, by omega, rfl, HN.out, HB2.out⟩
        case measure => simp [intOf]; omega
    · have b1 : (ss.length : Int) ≤ (k : Int) := by omega
      have HF : Hid (Ending.returned (.int .i64 (-1)) = .returned (.int .i64 (firstI ss b))) := by
        show _ = _
        have : firstL ss b = none := by
          unfold firstL
          rw [List.findIdx?_eq_none_iff]
          intro s hs
          obtain ⟨j, hj, e⟩ := List.getElem_of_mem hs
          have := HE.out j hj (by omega)
          rw [e] at this
          simpa using this
        unfold firstI; rw [this]
      clear h
      go_wp2
      go_ret
      exact ⟨HF.out, hbr⟩

set_option maxRecDepth 100000 in
set_option maxHeartbeats 2000000 in
theorem vfirst_any (v K : Value) (ss : List Sess) (hl : (ss.length : Int) ≤ 9223372036854775807) (b : Int) (w : World) (h1 : SessArg w v ss) (hv1 : v.oneCell' = true) (hK1 : K.oneCell' = true) :
    Calls Tryz.prog 91 #[.agg #[v, K], .int .i64 b] w fun e w' => e = .returned (.int .i64 (firstI ss b)) ∧ Below w.heap.size w w' := by
  obtain ⟨W, hW⟩ : ∃ W, W = (w.alloc (.cells #[v, K] 77)).alloc (.cells #[.int .i64 b] 3) := ⟨_, rfl⟩
  have hbW : Below w.heap.size w W := by rw [hW]; exact ((Below.refl _ _).alloc (Nat.le_refl _) _).alloc (by simp) _
  have HI := Lib.hid (vindex_any v ss hl b (w.heap.size + 1) W (h1.below hbW) (by rw [hW]; simp))
  have HB := Lib.hid hbW
  have hf0 : ((w.alloc (.cells #[v, K] 77)).alloc (.cells #[.int .i64 b] 3)).cell? ⟨w.heap.size, 0, none⟩ = some v := by simp
  subst hW
  clear hbW
  go_enter Tryz.func91, Tryz.ntmps91
  go_wp2_with fail
  refine HI.out.mono ?_
  rintro e w2 ⟨rfl, hb2⟩
  have HB2 := Lib.hid (HB.out.trans (hb2.mono HB.out.size))
  clear hb2
  go_wp2
  go_ret
  exact ⟨rfl, HB2.out⟩
end Vw
end Go.Proofs.YtocoonkachbjaaaGreatDoor

/- view.grow's first statement: whatever order its memory is made in. -/
namespace Go.Proofs.YtocoonkachbjaaaGreatDoor
open Go.RowKit Go.Maps
set_option linter.unusedVariables false
namespace Vw

theorem gintLaw : Keyed Tryz.prog 3 := int_keyed Tryz.underlying3
theorem gzeroI (w : World) : (zeroValue 3).run Tryz.prog w = .ok (.int .i64 0) w := by kernel_rfl

theorem made_arr (v : Value) (n : Nat) : madeCells #[v] n = arr n (fun _ => v) := by
  unfold madeCells arr
  apply Array.ext_getElem?
  intro i
  by_cases h : i < n
  · simp [h, Nat.mod_one]
  · simp [h]
theorem ginfo_ints : (Tryz.prog.info? 82).map (fun i => (i.zero, i.size, i.bytes)) = some (some (.slice none 0 0), 1, 24) := by kernel_rfl
theorem make_rows (n : Nat) (hn : n ≤ 65536) (W : World) : (Instr.makeSlice 75 (.int .i64 ((n : Int) + 1)) (.int .i64 ((n : Int) + 1))).run Tryz.prog W = .ok (.slice (some ⟨W.heap.size, 0, none⟩) (n + 1) (n + 1)) (W.alloc (.cells (arr (n + 1) (fun _ => .slice none 0 0)) 82)) := by
  obtain ⟨i, hi, hz0, hz1, hz2⟩ := info_parts ginfo_ints
  have h := run_makeSlice (P := Tryz.prog) (w := W) 75 82 i _ Tryz.underlying75 hi hz0 .i64 .i64 ((n : Int) + 1) ((n : Int) + 1) (by omega) (by omega) (by rw [hz1]; omega) (by rw [hz2]; omega) (by omega)
  rw [h, hz1]
  have e : ((n : Int) + 1).toNat = n + 1 := by omega
  rw [e, Nat.mul_one]
  have e2 := made_arr (.slice none 0 0) (n + 1)
  rw [← e2]; rfl

theorem below_frozen {B : Nat} {w w' : World} (h : Below B w w') (b j : Nat) (hb : b < B) : w'.frozen? ⟨b, j, none⟩ = w.frozen? ⟨b, j, none⟩ := by unfold World.frozen?; rw [h.block b hb]

/-- What lies ready behind the first statement. -/
def G0 (ss : List Sess) (w : World) (t3 : Value) (wc : World) : Prop :=
  ∃ F g d, t3 = .pointer (some ⟨F, 0, none⟩) ∧ wc.heap[F]? = some (.cells #[d, .slice (some ⟨g, 0, none⟩) (ss.length + 1) (ss.length + 1)] 77 (0, 0)) ∧ wc.ownsRow (w.heap.size + 1) 30 12 d ss.length (allV ss) ∧
    wc.heap[g]? = some (.cells (arr (ss.length + 1) (fun _ => .slice none 0 0)) 82 (0, 0)) ∧ w.heap.size + 1 ≤ F ∧ w.heap.size + 1 ≤ g ∧ F ≠ g ∧ (∀ b, d.ownBlock = some b → b ≠ F ∧ b ≠ g) ∧ wc.heap[w.heap.size]? = some (.cells #[.slice none 0 0, .slice none 0 0] 77 (0, 0)) ∧ Below w.heap.size w wc

def fz : Obj := .cells #[.slice none 0 0, .slice none 0 0] 77
abbrev kz (g n : Nat) : Value := .slice (some ⟨g, 0, none⟩) (n + 1) (n + 1)
section
variable {ss : List Sess} {w w2 X : World} {d : Value}
def R0 (w : World) : World := w.alloc (.cells #[.slice none 0 0, .slice none 0 0] 77)
theorem r0_size (w : World) : (R0 w).heap.size = w.heap.size + 1 := by unfold R0; rw [World.size_alloc]
theorem r0_at (w : World) : (R0 w).heap[w.heap.size]? = some (.cells #[.slice none 0 0, .slice none 0 0] 77 (0, 0)) := Ut.alloc_at _ _
theorem r0_below (w : World) : Below w.heap.size w (R0 w) := (Below.refl _ _).alloc (Nat.le_refl _) _
theorem g0_intro {AR : Array Value} (hAR : AR = arr (ss.length + 1) (fun _ => .slice none 0 0)) (F g : Nat) (W : World) (hF : W.heap[F]? = some (.cells #[d, kz g ss.length] 77 (0, 0))) (hd : W.ownsRow (w.heap.size + 1) 30 12 d ss.length (allV ss))
    (hg : W.heap[g]? = some (.cells AR 82 (0, 0))) (h1 : w.heap.size + 1 ≤ F) (h2 : w.heap.size + 1 ≤ g) (h3 : F ≠ g) (h4 : ∀ b, d.ownBlock = some b → b ≠ F ∧ b ≠ g) (hb : Below (w.heap.size + 1) (R0 w) W) : G0 ss w (.pointer (some ⟨F, 0, none⟩)) W :=
  ⟨F, g, d, rfl, hF, hd, by rw [← hAR]; exact hg, h1, h2, h3, h4, (hb.block w.heap.size (Nat.lt_succ_self _)).trans (r0_at w), (r0_below w).trans (hb.mono (Nat.le_succ _))⟩
theorem two_sets {W : World} {F : Nat} {a b d K : Value} {t : TypeId} (h : W.heap[F]? = some (.cells #[a, b] t (0, 0))) : ((W.setCell ⟨F, 0, none⟩ d).setCell ⟨F, 1, none⟩ K).heap[F]? = some (.cells #[d, K] t (0, 0)) := by
  have h1 := heap_setCell_same W F 0 _ t d h
  rw [heap_setCell_same _ F 1 _ t K h1]
  rfl
theorem sets_other {W : World} {F b : Nat} {d K : Value} (h : b ≠ F) : ((W.setCell ⟨F, 0, none⟩ d).setCell ⟨F, 1, none⟩ K).heap[b]? = W.heap[b]? := by
  rw [Below.heap_setCell _ _ _ _ (fun e => h e), Below.heap_setCell _ _ _ _ (fun e => h e)]
theorem sets_size {W : World} {F : Nat} {d K : Value} : ((W.setCell ⟨F, 0, none⟩ d).setCell ⟨F, 1, none⟩ K).heap.size = W.heap.size := by simp [World.setCell]
theorem al_old {W : World} {o : Obj} {b : Nat} (h : b < W.heap.size) : (W.alloc o).heap[b]? = W.heap[b]? := Below.heap_alloc _ _ _ h

variable {AR : Array Value} (hAR : AR = arr (ss.length + 1) (fun _ => .slice none 0 0))
include hAR
theorem g0_1 (hb : Below (R0 w).drew.heap.size (R0 w).drew w2) (hd : w2.ownsRow (R0 w).drew.heap.size 30 12 d ss.length (allV ss)) : G0 ss w (.pointer (some ⟨w2.heap.size + 1, 0, none⟩)) ((w2.alloc (.cells AR 82)).alloc (.cells #[d, kz w2.heap.size ss.length] 77)) := by
  have e1 : (R0 w).drew.heap.size = w.heap.size + 1 := r0_size w
  rw [e1] at hb hd
  have hs := hb.size
  rw [e1] at hs
  refine g0_intro hAR (w2.heap.size + 1) w2.heap.size _ ?_ (own_keep hd (fun b e => by have := (hd.lt b e).2; rw [al_old (by simp; omega), al_old this])) ?_ (by omega) hs (by omega) (fun b e => by have := (hd.lt b e).2; omega) ?_
  · have := Ut.alloc_at (w2.alloc (.cells AR 82)) (.cells #[d, kz w2.heap.size ss.length] 77)
    rwa [World.size_alloc] at this
  · rw [al_old (by simp)]; exact Ut.alloc_at _ _
  · exact ((Below.trans (Below.drew (Below.refl _ (R0 w))) hb).alloc hs _).alloc (by simp; omega) _
theorem g0_2 (hb : Below (R0 w).drew.heap.size (R0 w).drew w2) (hd : w2.ownsRow (R0 w).drew.heap.size 30 12 d ss.length (allV ss)) : G0 ss w (.pointer (some ⟨w2.heap.size, 0, none⟩)) ((w2.alloc (.cells #[d, kz (w2.heap.size + 1) ss.length] 77)).alloc (.cells AR 82)) := by
  have e1 : (R0 w).drew.heap.size = w.heap.size + 1 := r0_size w
  rw [e1] at hb hd
  have hs := hb.size
  rw [e1] at hs
  refine g0_intro hAR w2.heap.size (w2.heap.size + 1) _ ?_ (own_keep hd (fun b e => by have := (hd.lt b e).2; rw [al_old (by simp; omega), al_old this])) ?_ hs (by omega) (by omega) (fun b e => by have := (hd.lt b e).2; omega) ?_
  · rw [al_old (by simp)]; exact Ut.alloc_at _ _
  · have := Ut.alloc_at (w2.alloc (.cells #[d, kz (w2.heap.size + 1) ss.length] 77)) (.cells AR 82)
    rwa [World.size_alloc] at this
  · exact ((Below.trans (Below.drew (Below.refl _ (R0 w))) hb).alloc hs _).alloc (by simp; omega) _
theorem g0_3 (hb : Below ((R0 w).alloc (.cells AR 82)).drew.heap.size ((R0 w).alloc (.cells AR 82)).drew w2) (hd : w2.ownsRow ((R0 w).alloc (.cells AR 82)).drew.heap.size 30 12 d ss.length (allV ss)) : G0 ss w (.pointer (some ⟨w2.heap.size, 0, none⟩)) (w2.alloc (.cells #[d, kz (w.heap.size + 1) ss.length] 77)) := by
  have e1 : ((R0 w).alloc (.cells AR 82)).drew.heap.size = w.heap.size + 2 := by show ((R0 w).alloc _).heap.size = _; rw [World.size_alloc, r0_size]
  rw [e1] at hb hd
  have hs := hb.size
  rw [e1] at hs
  refine g0_intro hAR w2.heap.size (w.heap.size + 1) _ ?_ (own_keep (Ut.own_base hd (by omega)) (fun b e => by have := (hd.lt b e).2; rw [al_old this])) ?_ (by omega) (by omega) (by omega) (fun b e => by have := hd.lt b e; omega) ?_
  · exact Ut.alloc_at _ _
  · rw [al_old (by omega), hb.block _ (by omega)]
    have := Ut.alloc_at (R0 w) (.cells AR 82)
    rwa [r0_size] at this
  · exact (((Below.drew ((Below.refl _ (R0 w)).alloc (by rw [r0_size]; exact Nat.le_refl _) _)).trans (hb.mono (show w.heap.size + 1 ≤ _ by omega)))).alloc (by omega) _
theorem g0_4 (hb : Below (((R0 w).alloc (.cells AR 82)).alloc fz).drew.heap.size (((R0 w).alloc (.cells AR 82)).alloc fz).drew w2) (hd : w2.ownsRow (((R0 w).alloc (.cells AR 82)).alloc fz).drew.heap.size 30 12 d ss.length (allV ss)) :
    G0 ss w (.pointer (some ⟨w.heap.size + 1 + 1, 0, none⟩)) ((w2.setCell ⟨w.heap.size + 1 + 1, 0, none⟩ d).setCell ⟨w.heap.size + 1 + 1, 1, none⟩ (kz (w.heap.size + 1) ss.length)) := by
  have e1 : (((R0 w).alloc (.cells AR 82)).alloc fz).drew.heap.size = w.heap.size + 3 := by show (((R0 w).alloc _).alloc _).heap.size = _; rw [World.size_alloc, World.size_alloc, r0_size]
  rw [e1] at hb hd
  have hs := hb.size
  rw [e1] at hs
  have hF : w2.heap[w.heap.size + 1 + 1]? = some (.cells #[.slice none 0 0, .slice none 0 0] 77 (0, 0)) := by
    rw [hb.block _ (by omega)]
    have := Ut.alloc_at ((R0 w).alloc (.cells AR 82)) fz
    rwa [World.size_alloc, r0_size] at this
  refine g0_intro hAR (w.heap.size + 1 + 1) (w.heap.size + 1) _ (two_sets hF) (own_keep (Ut.own_base hd (by omega)) (fun b e => by have := (hd.lt b e); rw [sets_other (by omega)])) ?_ (by omega) (by omega) (by omega) (fun b e => by have := hd.lt b e; omega) ?_
  · rw [sets_other (by omega), hb.block _ (by omega)]
    show (((R0 w).alloc (.cells AR 82)).alloc fz).heap[_]? = _
    rw [al_old (by rw [World.size_alloc, r0_size]; omega)]
    have := Ut.alloc_at (R0 w) (.cells AR 82)
    rwa [r0_size] at this
  · exact (((Below.drew (((Below.refl _ (R0 w)).alloc (by rw [r0_size]; exact Nat.le_refl _) _).alloc (show w.heap.size + 1 ≤ _ by rw [World.size_alloc, r0_size]; omega) _)).trans (hb.mono (show w.heap.size + 1 ≤ _ by omega))).setCell (p := ⟨w.heap.size + 1 + 1, 0, none⟩) (by show _ ≤ w.heap.size + 1 + 1; omega) _).setCell (p := ⟨w.heap.size + 1 + 1, 1, none⟩) (by show _ ≤ w.heap.size + 1 + 1; omega) _
theorem g0_5 (hb : Below ((R0 w).alloc fz).drew.heap.size ((R0 w).alloc fz).drew w2) (hd : w2.ownsRow ((R0 w).alloc fz).drew.heap.size 30 12 d ss.length (allV ss)) :
    G0 ss w (.pointer (some ⟨w.heap.size + 1, 0, none⟩)) (((w2.setCell ⟨w.heap.size + 1, 0, none⟩ d).setCell ⟨w.heap.size + 1, 1, none⟩ (kz w2.heap.size ss.length)).alloc (.cells AR 82)) := by
  have e1 : ((R0 w).alloc fz).drew.heap.size = w.heap.size + 2 := by show ((R0 w).alloc _).heap.size = _; rw [World.size_alloc, r0_size]
  rw [e1] at hb hd
  have hs := hb.size
  rw [e1] at hs
  have hF : w2.heap[w.heap.size + 1]? = some (.cells #[.slice none 0 0, .slice none 0 0] 77 (0, 0)) := by
    rw [hb.block _ (by omega)]
    have := Ut.alloc_at (R0 w) fz
    rwa [r0_size] at this
  refine g0_intro hAR (w.heap.size + 1) w2.heap.size _ ?_ (own_keep (Ut.own_base hd (by omega)) (fun b e => by have := (hd.lt b e); rw [al_old (by rw [sets_size]; omega), sets_other (by omega)])) ?_ (by omega) (by omega) (by omega) (fun b e => by have := hd.lt b e; omega) ?_
  · rw [al_old (by rw [sets_size]; omega)]; exact two_sets hF
  · have := Ut.alloc_at ((w2.setCell ⟨w.heap.size + 1, 0, none⟩ d).setCell ⟨w.heap.size + 1, 1, none⟩ (kz w2.heap.size ss.length)) (.cells AR 82)
    rwa [sets_size] at this
  · exact ((((Below.drew ((Below.refl _ (R0 w)).alloc (by rw [r0_size]; exact Nat.le_refl _) _)).trans (hb.mono (show w.heap.size + 1 ≤ _ by omega))).setCell (p := ⟨w.heap.size + 1, 0, none⟩) (show w.heap.size + 1 ≤ w.heap.size + 1 from Nat.le_refl _) _).setCell (p := ⟨w.heap.size + 1, 1, none⟩) (show w.heap.size + 1 ≤ w.heap.size + 1 from Nat.le_refl _) _).alloc (show w.heap.size + 1 ≤ _ by rw [sets_size]; omega) _
theorem g0_6 (hb : Below (((R0 w).alloc fz).alloc (.cells AR 82)).drew.heap.size (((R0 w).alloc fz).alloc (.cells AR 82)).drew w2) (hd : w2.ownsRow (((R0 w).alloc fz).alloc (.cells AR 82)).drew.heap.size 30 12 d ss.length (allV ss)) :
    G0 ss w (.pointer (some ⟨w.heap.size + 1, 0, none⟩)) ((w2.setCell ⟨w.heap.size + 1, 0, none⟩ d).setCell ⟨w.heap.size + 1, 1, none⟩ (kz (w.heap.size + 1 + 1) ss.length)) := by
  have e1 : (((R0 w).alloc fz).alloc (.cells AR 82)).drew.heap.size = w.heap.size + 3 := by show (((R0 w).alloc _).alloc _).heap.size = _; rw [World.size_alloc, World.size_alloc, r0_size]
  rw [e1] at hb hd
  have hs := hb.size
  rw [e1] at hs
  have hF : w2.heap[w.heap.size + 1]? = some (.cells #[.slice none 0 0, .slice none 0 0] 77 (0, 0)) := by
    rw [hb.block _ (by omega)]
    show (((R0 w).alloc fz).alloc (.cells AR 82)).heap[_]? = _
    rw [al_old (by rw [World.size_alloc, r0_size]; omega)]
    have := Ut.alloc_at (R0 w) fz
    rwa [r0_size] at this
  refine g0_intro hAR (w.heap.size + 1) (w.heap.size + 1 + 1) _ (two_sets hF) (own_keep (Ut.own_base hd (by omega)) (fun b e => by have := (hd.lt b e); rw [sets_other (by omega)])) ?_ (by omega) (by omega) (by omega) (fun b e => by have := hd.lt b e; omega) ?_
  · rw [sets_other (by omega), hb.block _ (by omega)]
    have := Ut.alloc_at ((R0 w).alloc fz) (.cells AR 82)
    rwa [World.size_alloc, r0_size] at this
  · exact (((Below.drew (((Below.refl _ (R0 w)).alloc (by rw [r0_size]; exact Nat.le_refl _) _).alloc (show w.heap.size + 1 ≤ _ by rw [World.size_alloc, r0_size]; omega) _)).trans (hb.mono (show w.heap.size + 1 ≤ _ by omega))).setCell (p := ⟨w.heap.size + 1, 0, none⟩) (show w.heap.size + 1 ≤ w.heap.size + 1 from Nat.le_refl _) _).setCell (p := ⟨w.heap.size + 1, 1, none⟩) (show w.heap.size + 1 ≤ w.heap.size + 1 from Nat.le_refl _) _
end

end Vw
end Go.Proofs.YtocoonkachbjaaaGreatDoor
