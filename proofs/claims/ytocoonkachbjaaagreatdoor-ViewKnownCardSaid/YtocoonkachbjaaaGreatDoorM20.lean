/- Several texts in one: what each proves its own first comment says. -/
import Derived.Test.YtocoonkachbjaaaGreatDoorM17
import Derived.Test.YtocoonkachbjaaaGreatDoorRows
import Derived.Test.YtocoonkachbjaaaGreatDoorM4
import Derived.Test.YtocoonkachbjaaaGreatDoorM10
import Derived.Test.YtocoonkachbjaaaGreatDoorM1
import Derived.OneCell
import Derived.Laws.OwnMore
import Derived.OwnWalk
import Derived.ArgAppend

/- lineagekit.KeptFullSessions, KeptSessions: a lent list that lies as it was lent. -/
namespace Go.Proofs.YtocoonkachbjaaaGreatDoor
open Go.RowKit
set_option linter.unusedVariables false
namespace Vw
theorem fullS_at {ss : List Sess} {k : Nat} (h : k < (ss ++ mks 16).length) : (ss ++ mks 16)[k] = if h2 : k < ss.length then ss[k] else mkS (k - ss.length) := by
  rw [List.getElem_append]
  split
  · rfl
  · simp [mks]

set_option maxRecDepth 100000 in
set_option maxHeartbeats 4000000 in
theorem keptFullS_any (v u : Value) (ss : List Sess) (hl : ss.length ≤ 65536) (w : World) (h1 : SessArg w v (ss ++ mks 16)) (h2 : SessArg w u ss) :
    Calls Tryz.prog 48 #[v, u] w fun e w' => e = .returned (.bool true) ∧ Below w.heap.size w w' := by
  have hlen : (ss ++ mks 16).length = ss.length + 16 := by rw [List.length_append, mks_len]
  obtain ⟨p, cp, rfl, -⟩ := id h1
  obtain ⟨q, cq, rfl, -⟩ := id h2
  have H1 := Lib.hid h1; have H2 := Lib.hid h2
  have HLN := Lib.hid hlen
  rw [hlen] at H1 ⊢
  clear h1 h2 hlen
  have b0 : (ss.length : Int) ≤ 65536 := by omega
  have e0 : (((ss.length + 16 : Nat) : Int) != (ss.length : Int) + 16) = false := by rw [bne_eq_false_iff_eq]; omega
  have b1 : ((ss.length + 16 : Nat) : Int) ≤ 65552 := by omega
  obtain ⟨n, hn⟩ : ∃ n, n = ss.length + 16 := ⟨_, rfl⟩
  have hn2 : ss.length ≤ n := by omega
  have HN := Lib.hid hn
  rw [← hn] at e0 b1 H1 ⊢
  clear hl hn
  go_enter Tryz.func48, Tryz.ntmps48
  go_wp2
  go_loopw [5, 6] (fun i _ wr => ∃ k : Nat, k ≤ n ∧ i = .int .i64 k ∧ Below w.heap.size w wr) (fun i _ _ => n - (intOf i).toNat)
  case atStart => exact ⟨0, Nat.zero_le _, rfl, Below.refl _ _⟩
  case round =>
    obtain ⟨k, hk, rfl, hbl⟩ := hrel
    have HBL := Lib.hid hbl
    clear hbl
    have b2 : (0 : Int) ≤ (k : Int) := by omega
    by_cases h : k < n
    · have b3 : (k : Int) < (n : Int) := by omega
      have hk1 : k < (ss ++ mks 16).length := by rw [HLN.out, ← HN.out]; exact h
      obtain ⟨g1, o1, rfl, hg1, k1⟩ := H1.out.at hk1
      obtain ⟨sk, hsk⟩ : ∃ sk, sk = (ss ++ mks 16)[k] := ⟨_, rfl⟩
      rw [← hsk] at k1
      rw [fullS_at hk1] at hsk
      have HR1 : Hid (∀ w', Below w.heap.size w w' → w'.rangeAt g1 (o1 + k * 12) sk.cells) := fun w' hb j x hx => (hb.cell (p := ⟨g1, o1 + k * 12 + j, none⟩) hg1).trans (k1 j x hx)
      have HG1 := Lib.hid hg1
      clear k1 hk1 hg1
      have HSL : Hid (sk.cells.length = 12) := rfl
      have HS1 := Lib.hid sk.one
      by_cases hs : k < ss.length
      · rw [dif_pos hs] at hsk
        obtain ⟨g2, o2, rfl, hg2, k2⟩ := H2.out.at hs
        rw [← hsk] at k2
        have HR2 : Hid (∀ w', Below w.heap.size w w' → w'.rangeAt g2 (o2 + k * 12) sk.cells) := fun w' hb j x hx => (hb.cell (p := ⟨g2, o2 + k * 12 + j, none⟩) hg2).trans (k2 j x hx)
        have b4 : (k : Int) < (ss.length : Int) := by omega
        have hmt := Lib.hid (fun w' => markS_neg ((k : Int) - (ss.length : Int)) (by omega) (by omega) w')
        clear k2 hsk hg2
        go_wp2_with fail
        refine (hmt.out _).mono ?_
        rintro e w2 ⟨t, rfl, hb2⟩
        obtain ⟨cs, hcs⟩ : ∃ cs, cs = (mkT t).cells := ⟨_, rfl⟩
        have HCL : Hid (cs.length = 12) := by show _ = _; rw [hcs]; rfl
        have HC1 : Hid (∀ u ∈ cs, u.oneCell' = true) := by show ∀ _, _; rw [hcs]; exact (mkT t).one
        rw [← hcs]
        have HB2 := Lib.hid (HBL.out.trans (hb2.mono HBL.out.size))
        have hzw : w.heap.size ≤ w2.heap.size := HB2.out.size
        obtain ⟨ck, hck⟩ : ∃ ck, ck = sk.cells := ⟨_, rfl⟩
        have HKL : Hid (ck.length = 12) := by show _ = _; rw [hck]; rfl
        have HK1 : Hid (∀ u ∈ ck, u.oneCell' = true) := by show ∀ _, _; rw [hck]; exact sk.one
        have HRA : Hid ((w2.alloc (.cells cs.toArray 30)).rangeAt g2 (o2 + k * 12) ck) := by show _; rw [hck]; exact HR2.out _ (HB2.out.alloc hzw _)
        have HBA : Hid (Below w.heap.size w (w2.alloc (.cells sk.cells.toArray 30))) := HB2.out.alloc hzw _
        have HQ1 : Hid (∀ w', (∃ n, w' = (w2.alloc (.cells sk.cells.toArray 30)).drewN n) → w'.rangeAt g1 (o1 + k * 12) sk.cells) := by rintro w' ⟨n, rfl⟩ j x hx; rw [World.cell?_drewN]; exact HR1.out _ HBA.out j x hx
        have HQ2 : Hid (∀ w', (∃ n, w' = (w2.alloc (.cells sk.cells.toArray 30)).drewN n) → w'.rangeAt w2.heap.size 0 sk.cells) := by
          rintro w' ⟨n, rfl⟩ j x hx
          rw [World.cell?_drewN, Nat.zero_add, block_cell (Ut.alloc_at _ _)]
          simpa using hx
        have HCK := Lib.hid hck
        clear hb2 hcs hck hs
        go_wp2_with (first
          | (refine Ag.wpList_store_new (by rfl) 30 (.tmp 6) (.tmp 23) (by rfl) cs (by rfl) (by rfl) (by rw [HCL.out]; kernel_rfl) (by rw [HCL.out]; rfl) HC1.out ?_)
          | (refine wpList_load_mid (by rfl) 30 (.tmp 30) (by rfl) _ _ (by rfl) ck _ HRA.out Tryz.underlying30 rfl (by rw [HKL.out]; kernel_rfl) ?_)
          | (refine Ag.wpList_store_new (by rfl) 30 (.tmp 6) (.tmp 31) (by rfl) ck (by rfl) (by rfl) (by rw [HKL.out]; kernel_rfl) (by rw [List.size_toArray, HCL.out, HKL.out]) HK1.out ?_))
        rw [HCK.out]
        clear HRA
        refine wp_region_quiet_lit (by kernel_rfl) (by kernel_rfl) ?_
        quiet_step (fail)
        quiet_step (fail)
        quiet_step (fail)
        refine wpQuiet_load_mid (by rfl) 30 (.tmp 34) rfl g1 (o1 + k * 12) rfl sk.cells _ HQ1.out Tryz.underlying30 rfl (by kernel_rfl) ?_
        refine wpQuiet_load_mid (by rfl) 30 (.tmp 6) rfl w2.heap.size 0 rfl sk.cells _ HQ2.out Tryz.underlying30 rfl (by kernel_rfl) ?_
        refine wpQuiet_value (.bool false) (by rfl) (fun w' _ => exec_neq_sess sk _ (.tmp 35) (.tmp 36) rfl rfl rfl w') ?_
        refine wpQuiet_nil ?_
        rintro _ ⟨nq, rfl⟩
        go_wp2
        go_roundw
        case rel => exact ⟨k + 1, by omega, by go_num, Ut.below_drewN HBA.out _⟩
        case measure => simp [intOf]; omega
      · rw [dif_neg hs] at hsk
        have b4 : (ss.length : Int) ≤ (k : Int) := by omega
        have hkn : k < ss.length + 16 := by rw [← HN.out]; exact h
        have e1 : (k : Int) - (ss.length : Int) = ((k - ss.length : Nat) : Int) := by omega
        have hmt := Lib.hid (fun w' => markS_any (k - ss.length) (by omega) w')
        rw [← e1, ← hsk] at hmt
        clear hsk hkn e1 hs
        go_wp2_with fail
        refine (hmt.out _).mono ?_
        rintro e w2 ⟨rfl, hb2⟩
        have HB2 := Lib.hid (HBL.out.trans (hb2.mono HBL.out.size))
        have hzw : w.heap.size ≤ w2.heap.size := HB2.out.size
        have HBA : Hid (Below w.heap.size w (w2.alloc (.cells sk.cells.toArray 30))) := HB2.out.alloc hzw _
        have HQ1 : Hid (∀ w', (∃ n, w' = (w2.alloc (.cells sk.cells.toArray 30)).drewN n) → w'.rangeAt g1 (o1 + k * 12) sk.cells) := by rintro w' ⟨n, rfl⟩ j x hx; rw [World.cell?_drewN]; exact HR1.out _ HBA.out j x hx
        have HQ2 : Hid (∀ w', (∃ n, w' = (w2.alloc (.cells sk.cells.toArray 30)).drewN n) → w'.rangeAt w2.heap.size 0 sk.cells) := by
          rintro w' ⟨n, rfl⟩ j x hx
          rw [World.cell?_drewN, Nat.zero_add, block_cell (Ut.alloc_at _ _)]
          simpa using hx
        obtain ⟨cs, hcs⟩ : ∃ cs, cs = sk.cells := ⟨_, rfl⟩
        have HCK := Lib.hid hcs
        rw [← hcs] at HSL HS1 ⊢
        clear hb2 hcs
        go_wp2_with (refine Ag.wpList_store_new (by rfl) 30 (.tmp 6) (.tmp 23) (by rfl) cs (by rfl) (by rfl) (by rw [HSL.out]; kernel_rfl) (by rw [HSL.out]; rfl) HS1.out ?_)
        rw [HCK.out]
        refine wp_region_quiet_lit (by kernel_rfl) (by kernel_rfl) ?_
        quiet_step (fail)
        quiet_step (fail)
        quiet_step (fail)
        refine wpQuiet_load_mid (by rfl) 30 (.tmp 34) rfl g1 (o1 + k * 12) rfl sk.cells _ HQ1.out Tryz.underlying30 rfl (by kernel_rfl) ?_
        refine wpQuiet_load_mid (by rfl) 30 (.tmp 6) rfl w2.heap.size 0 rfl sk.cells _ HQ2.out Tryz.underlying30 rfl (by kernel_rfl) ?_
        refine wpQuiet_value (.bool false) (by rfl) (fun w' _ => exec_neq_sess sk _ (.tmp 35) (.tmp 36) rfl rfl rfl w') ?_
        refine wpQuiet_nil ?_
        rintro _ ⟨nq, rfl⟩
        go_wp2
        go_roundw
        case rel => exact ⟨k + 1, by omega, by go_num, Ut.below_drewN HBA.out _⟩
        case measure => simp [intOf]; omega
    · have b3 : (n : Int) ≤ (k : Int) := by omega
      go_wp2
      go_ret
      exact ⟨rfl, HBL.out⟩

set_option maxRecDepth 100000 in
set_option maxHeartbeats 2000000 in
theorem keptS_any (base g c : Nat) (u : Value) (ss : List Sess) (hl : ss.length ≤ 65536) (w : World) (h1 : LentS base g c ss w) (hc : ss.length + 16 ≤ c) (h2 : SessArg w u ss) :
    Calls Tryz.prog 16 #[.slice (some ⟨g, 0, none⟩) ss.length c, u] w fun e w' => e = .returned (.bool true) ∧ Below w.heap.size w w' := by
  have HF := Lib.hid (keptFullS_any (.slice (some ⟨g, 0, none⟩) (ss.length + 16) c) u ss hl w h1.whole h2)
  obtain ⟨q, cq, rfl, -⟩ := h2
  have b0 : (ss.length : Int) ≤ 65536 := by omega
  have e0 : ((ss.length : Int) != (ss.length : Int)) = false := by simp
  have c0 : (0 : Int) ≤ (ss.length : Int) + 16 := by omega
  have c1 : (ss.length : Int) + 16 ≤ (c : Int) := by omega
  have e1 : ((ss.length : Int) + 16).toNat = ss.length + 16 := by omega
  clear hl h1
  go_enter Tryz.func16, Tryz.ntmps16
  go_wp2_with fail
  refine HF.out.mono ?_
  rintro e w1 ⟨rfl, hb⟩
  go_wp2
  go_ret
  exact ⟨rfl, hb⟩
end Vw
end Go.Proofs.YtocoonkachbjaaaGreatDoor

/- Lists of texts among the arguments, with the bulk of their reading. -/
namespace Go.Proofs.YtocoonkachbjaaaGreatDoor
open Go.RowKit Go.ChangeShapes Go.WideShapes Go.Deep Go.Proofs.Ar
set_option linter.unusedVariables false

end Go.Proofs.YtocoonkachbjaaaGreatDoor

/- Arguments that are lists of structs whose cells are numbers, texts and bools, structs within structs among them. Of any program. -/
namespace Go.Proofs.Ar
open Go.RowKit Go.ChangeShapes Go.WideShapes Go.Deep
set_option linter.unusedVariables false

section
variable {H : Type} {enc : TypeId × Value → H} {P : Program} {w : World} {base : Nat} {spare : Nat → Bool} {held : Bool}

/-- A cell that reads as a value of a type. -/
def LeafIs (enc : TypeId × Value → H) (P : Program) (w : World) (base : Nat) (spare : Nat → Bool) (held : Bool) (t : TypeId) (v : Value) : Prop := ∃ n y, DataW.trod enc P w base spare held n t [v] = some y
theorem LeafIs.int {t : TypeId} {v : Value} {k : IntKind} (ht : P.underlying t = some (.int k)) (h : LeafIs enc P w base spare held t v) : ∃ n, v = .int k n ∧ (Lit.int k n).wf = true := by
  obtain ⟨n, y, h⟩ := h
  obtain ⟨q, e, _, hw⟩ := DataW.trod_int ht h
  exact ⟨q, by simpa using e, hw⟩
theorem LeafIs.string {t : TypeId} {v : Value} (ht : P.underlying t = some .string) (h : LeafIs enc P w base spare held t v) : ∃ s : ByteArray, v = .string s ∧ s.size ≤ maxLen := by
  obtain ⟨n, y, h⟩ := h
  obtain ⟨q, e, _, hw⟩ := DataW.trod_string ht h
  exact ⟨q, by simpa using e, hw⟩
theorem LeafIs.bool {t : TypeId} {v : Value} (ht : P.underlying t = some .bool) (h : LeafIs enc P w base spare held t v) : ∃ b : Bool, v = .bool b := by
  obtain ⟨n, y, h⟩ := h
  obtain ⟨q, e, _⟩ := DataW.trod_bool ht h
  exact ⟨q, by simpa using e⟩

/-- A value is a list of rows of c cells each, wherever it lies. -/
def RowArg (w : World) (v : Value) (c : Nat) (rs : List (List Value)) : Prop :=
  ∃ p cap, v = .slice p rs.length cap ∧ ∀ j (hj : j < rs.length), rs[j].length = c ∧ ∃ g o, p = some ⟨g, o, none⟩ ∧ g < w.heap.size ∧ ∀ (i : Nat) (u : Value), rs[j][i]? = some u → w.cell? ⟨g, o + (j * c + i), none⟩ = some u

theorem RowArg.below {w w' : World} {v : Value} {c : Nat} {rs : List (List Value)} (h : RowArg w v c rs) (hb : Below w.heap.size w w') : RowArg w' v c rs := by
  obtain ⟨p, cap, rfl, h⟩ := h
  refine ⟨p, cap, rfl, fun j hj => ?_⟩
  obtain ⟨hc, g, o, h1, h2, h3⟩ := h j hj
  exact ⟨hc, g, o, h1, Nat.lt_of_lt_of_le h2 hb.size, fun i u hi => (hb.cell (p := ⟨g, o + (j * c + i), none⟩) h2).trans (h3 i u hi)⟩

end

end Go.Proofs.Ar

/- Arguments that are flat structs, and pairs of a list of texts and a number, with the bulk of their reading. -/
namespace Go.Proofs.YtocoonkachbjaaaGreatDoor
open Go.RowKit Go.ChangeShapes Go.WideShapes Go.Deep Go.Proofs.Ar
set_option linter.unusedVariables false
section
variable {H : Type} {enc : TypeId × Value → H} {P : Program} {w : World} {base : Nat} {spare : Nat → Bool} {held : Bool}
/-- A cell that reads as a value of a type, of no more than this bulk. -/
def LeafUp (enc : TypeId × Value → H) (P : Program) (w : World) (base : Nat) (spare : Nat → Bool) (held : Bool) (B : Nat) (t : TypeId) (v : Value) : Prop := ∃ n y, DataW.trod enc P w base spare held n t [v] = some y ∧ Rows.uptoBulk y.1 ≤ B
theorem LeafUp.string {B : Nat} {t : TypeId} {v : Value} (ht : P.underlying t = some .string) (h : LeafUp enc P w base spare held B t v) : ∃ s : ByteArray, v = .string s ∧ s.size ≤ B := by
  obtain ⟨n, y, h, hb⟩ := h
  obtain ⟨q, e, rfl, hw⟩ := DataW.trod_string ht h
  refine ⟨q, by simpa using e, ?_⟩
  simp only [Rows.uptoBulk] at hb
  have e : q.data.toList.length = q.size := by simp
  omega
end

end Go.Proofs.YtocoonkachbjaaaGreatDoor

/- The law ViewLines. -/
namespace Go.Proofs.YtocoonkachbjaaaGreatDoor
open Go.RowKit Go.Maps Go.ChangeMaps Go.Proofs.NmPlain Go.Proofs.Ar Go.Proofs.YtocoonkachbjaaaGreatDoor.Sc
set_option linter.unusedVariables false
namespace Vw
theorem vparts_below {w w' : World} (h : PartsAt w) (hb : Below w.heap.size w w') : PartsAt w' := by
  have hl := h.lt
  obtain ⟨t, fr, h⟩ := h
  exact ⟨t, fr, by rw [hb.block _ hl]; exact h⟩
theorem vnew_cases (ls : List ByteArray) : (newL ls = (0, -1)) ∨ (1 ≤ (newL ls).1 ∧ (newL ls).1 ≤ 24) := by
  unfold newL
  split
  · right; exact ⟨by show (1 : Int) ≤ 5; omega, by show (5 : Int) ≤ 24; omega⟩
  · rcases newAt_range _ 0 ls rfl with h | ⟨h | h, _⟩
    · exact .inl h
    · right; rw [h]; omega
    · right; rw [h]; omega
theorem errV_iface {no at_ : Int} (h : 1 ≤ no) : ∃ ty y, errV no at_ = .iface ty y := by
  unfold errV
  rw [if_neg (by omega)]
  split
  · exact ⟨_, _, by unfold errVal; rw [if_neg (by omega)]⟩
  · exact ⟨_, _, rfl⟩
theorem lineL_range (ls : List ByteArray) (s : Sess) (now : Int) : 0 ≤ (lineL ls s now).2 ∧ (lineL ls s now).2 ≤ 24 := by
  unfold lineL
  (repeat' split) <;> simp

set_option maxHeartbeats 4000000 in
theorem viewLines_core (x : Value) (ls : List ByteArray) (hl : ls.length ≤ maxLen) (hz : ∀ s ∈ ls, s.size ≤ 1048576) (now : Int) (wn : (Lit.int .i64 now).wf = true) (s : Sess) (hsc : s.scopes < 18446744073709551616) (hz1 : s.user.size ≤ 1048576) (hz2 : s.label.size ≤ 1048576) (wd : (Lit.int .i64 s.dl).wf = true)
    (w : World) (hg : erHandle w) (hm : MaxAt w) (hp : PartsAt w) (htab : Lib.TabIs Tryz.prog w "internal/strconv.uint64pow10" .u64 Lib.pow10Tab) (ht : TextArg w x ls) :
    Calls Tryz.prog 3 #[.agg #[x, .int .i64 now], .agg #[.int .i64 s.slot, .int .i64 s.birth, .int .i64 s.us, .int .i64 s.ub, .int .i64 s.kind, .string s.user, .string s.label, .int .u64 (s.scopes : Int), .int .i64 s.level, .int .i64 s.born, .int .i64 s.dl, .int .i64 s.depth]] w fun e w' => e = .returned (.bool true) ∧ Below w.heap.size w w' := by
  have hlI : (ls.length : Int) ≤ 9223372036854775807 := by unfold maxLen at hl; omega
  have hzz : ∀ s ∈ ls, s.size ≤ 16777216 := fun s h => Nat.le_trans (hz s h) (by omega)
  obtain ⟨W1, hW1⟩ : ∃ W1, W1 = w.alloc (.cells #[x, .int .i64 now] 24) := ⟨_, rfl⟩
  obtain ⟨W, hW⟩ : ∃ W, W = W1.alloc (.cells #[.int .i64 s.slot, .int .i64 s.birth, .int .i64 s.us, .int .i64 s.ub, .int .i64 s.kind, .string s.user, .string s.label, .int .u64 (s.scopes : Int), .int .i64 s.level, .int .i64 s.born, .int .i64 s.dl, .int .i64 s.depth] 30) := ⟨_, rfl⟩
  have hs1 : W1.heap.size = w.heap.size + 1 := by rw [hW1]; simp
  have hb1 : Below w.heap.size w W1 := by rw [hW1]; exact (Below.refl _ _).alloc (Nat.le_refl _) _
  have hb2 : Below W1.heap.size W1 W := by rw [hW]; exact (Below.refl _ _).alloc (Nat.le_refl _) _
  have hbr : W1.heap[w.heap.size]? = some (.cells #[x, .int .i64 now] 24 (0, 0)) := by rw [hW1]; exact Ut.alloc_at _ _
  have hbr2 : W.heap[w.heap.size]? = some (.cells #[x, .int .i64 now] 24 (0, 0)) := (hb2.block _ (Array.getElem?_eq_some_iff.1 hbr).1).trans hbr
  have hbs : W.heap[w.heap.size + 1]? = some (.cells #[.int .i64 s.slot, .int .i64 s.birth, .int .i64 s.us, .int .i64 s.ub, .int .i64 s.kind, .string s.user, .string s.label, .int .u64 (s.scopes : Int), .int .i64 s.level, .int .i64 s.born, .int .i64 s.dl, .int .i64 s.depth] 30 (0, 0)) := by rw [← hs1, hW]; exact Ut.alloc_at _ _
  have hb0 : Below w.heap.size w W := hb1.trans (hb2.mono hb1.size)
  have HX := Lib.hid (fun (w' : World) (hb : Below W.heap.size W w') => (by
    have h1 := (hb.block w.heap.size (Array.getElem?_eq_some_iff.1 hbr2).1).trans hbr2
    have h2 : ∀ j, w'.cell? ⟨w.heap.size, j, none⟩ = (#[x, .int .i64 now] : Array Value)[j]? := fun j => cell_of_row _ _ _ _ _ _ h1
    exact ⟨h2 0, h2 1, (hb.block (w.heap.size + 1) (Array.getElem?_eq_some_iff.1 hbs).1).trans hbs⟩ : w'.cell? ⟨w.heap.size, 0, none⟩ = some x ∧ w'.cell? ⟨w.heap.size, 1, none⟩ = some (.int .i64 now) ∧ w'.heap[w.heap.size + 1]? = some (.cells #[.int .i64 s.slot, .int .i64 s.birth, .int .i64 s.us, .int .i64 s.ub, .int .i64 s.kind, .string s.user, .string s.label, .int .u64 (s.scopes : Int), .int .i64 s.level, .int .i64 s.born, .int .i64 s.dl, .int .i64 s.depth] 30 (0, 0))))
  obtain ⟨no, hno⟩ : ∃ no : Int, no = (lineL ls s now).2 := ⟨_, rfl⟩
  obtain ⟨T, hT⟩ : ∃ T : ByteArray, T = ⟨(lineL ls s now).1.toArray⟩ := ⟨_, rfl⟩
  obtain ⟨V, hV⟩ : ∃ V, V = errVal no := ⟨_, rfl⟩
  have hrg := lineL_range ls s now
  rw [← hno] at hrg
  have HN := Lib.hid (new_any x ls hlI (fun _ => hzz) W (hm.below hb0) (ht.below hb0))
  have HLN := Lib.hid (fun (B : Nat) (w' : World) (hbk : IsBook ls) (hB : BookAt W.heap.size w' B ls) (hb : Below w.heap.size w w') => (line_any W.heap.size B ls s now wn w' ⟨hbk, hsc, Nat.le_trans hz1 (by omega), Nat.le_trans hz2 (by omega), fun w2 h2 => ⟨hB.below h2, vparts_below hp (hb.trans (h2.mono hb.size)), tab_below gPow htab (tab_lt gPow htab) (hb.trans (h2.mono hb.size))⟩, wd⟩).mono fun e w2 h2 => (⟨by have h3 := h2.1; unfold LinePost at h3; rw [← hT, ← hno, ← hV] at h3; exact h3, h2.2⟩ : e = .returned (.tuple #[.string T, V]) ∧ Below w'.heap.size w' w2))
  have HRL := Lib.hid (fun (w' : World) (hbk : IsBook ls) (hb : Below w.heap.size w w') => (rline_any x ls s now wn w' ⟨hbk, hsc, hz1, hz2, ht.below hb, wd⟩).mono fun e w2 h2 => (⟨by have h3 := h2.1; unfold RLinePost at h3; rw [← hT, ← hno] at h3; exact h3, h2.2⟩ : e = .returned (.tuple #[.string T, .int .i64 no]) ∧ Below w'.heap.size w' w2))
  have hqq : (no == no) = true := by simp
  have HT := Lib.hid (fun (w' : World) (hb : Below w.heap.size w w') => by
    have h := plain_any no no hrg.1 hrg.2 w' (hg.below hg.lt hb)
    rw [hqq, ← hV] at h
    exact h)
  have hq : (T.toList == T.toList) = true := by simp
  obtain ⟨x0, x1, hsx⟩ := HX.out W (Below.refl _ _)
  have HB0 := Lib.hid hb0
  have HNC := Lib.hid (vnew_cases ls)
  obtain ⟨q, c, rfl, -⟩ := id ht
  clear hno hT hV hrg hqq hbr hbr2 hbs hb1 hb2 hb0 hz hzz hl hlI ht hm hg hp htab hsc hz1 hz2 wd wn hs1
  go_enter Tryz.func3, Tryz.ntmps3
  go_wp2_with fail
  rw [← hW1, ← hW]
  clear hW hW1
  refine HN.out.mono ?_
  rintro e w1 ⟨hpo, hbc⟩
  have HC1 := Lib.hid hbc
  clear x0 x1 hsx hbc
  obtain ⟨x0, x1, hsx⟩ := HX.out w1 HC1.out
  rcases hpo with ⟨hn, B, rfl, hB⟩ | ⟨hn, rfl⟩
  · have HBK := Lib.hid (book_of hn)
    have HB := Lib.hid hB
    clear hn hB
    go_wp2_with (refine wpList_load_row rfl 30 _ rfl _ rfl 30 _ (0, 0) _ hsx Tryz.underlying30 rfl (by kernel_rfl) ?_)
    refine (HLN.out B w1 HBK.out HB.out (HB0.out.trans (HC1.out.mono HB0.out.size))).mono ?_
    rintro e w2 ⟨rfl, hbc⟩
    have HC2 : Hid (Below W.heap.size W w2) := HC1.out.trans (hbc.mono HC1.out.size)
    clear x0 x1 hsx hbc
    obtain ⟨x0, x1, hsx⟩ := HX.out w2 HC2.out
    go_wp2_with (refine wpList_load_row rfl 30 _ rfl _ rfl 30 _ (0, 0) _ hsx Tryz.underlying30 rfl (by kernel_rfl) ?_)
    refine (HRL.out w2 HBK.out (HB0.out.trans (HC2.out.mono HB0.out.size))).mono ?_
    rintro e w3 ⟨rfl, hbc⟩
    have HC3 : Hid (Below W.heap.size W w3) := HC2.out.trans (hbc.mono HC2.out.size)
    clear x0 x1 hsx hbc
    go_wp2_with fail
    refine (HT.out w3 (HB0.out.trans (HC3.out.mono HB0.out.size))).mono ?_
    rintro e w4 ⟨rfl, hbc⟩
    have HC4 : Hid (Below W.heap.size W w4) := HC3.out.trans (hbc.mono HC3.out.size)
    clear hbc
    go_wp2
    go_ret
    exact ⟨rfl, HB0.out.trans (HC4.out.mono HB0.out.size)⟩
  · have h1 : 1 ≤ (newL ls).1 := by
      rcases HNC.out with h | h
      · exact absurd h hn
      · exact h.1
    obtain ⟨ty, y, hy⟩ := errV_iface (at_ := (newL ls).2) h1
    rw [hy]
    clear hn h1 hy
    go_wp2
    go_ret
    exact ⟨rfl, HB0.out.trans (HC1.out.mono HB0.out.size)⟩
end Vw

end Go.Proofs.YtocoonkachbjaaaGreatDoor

/- A family of lists, each in a block of its own: what stores, growth and calls leave of it. -/
namespace Go.Proofs.YtocoonkachbjaaaGreatDoor
open Go.RowKit
set_option linter.unusedVariables false

/-- Lists in blocks of their own, from the block B on. -/
structure Fam (B : Nat) (w : World) (e : TypeId) (vs : List Value) (Z : Nat → List Value) : Prop where
  own : ∀ k (h : k < vs.length), w.ownsRow B e 1 vs[k] (Z k).length (Z k)
  apart : ∀ j k (hj : j < vs.length) (hk : k < vs.length), j ≠ k → ∀ g, vs[j].ownBlock = some g → vs[k].ownBlock ≠ some g

theorem Fam.below {B : Nat} {w w' : World} {e : TypeId} {vs : List Value} {Z : Nat → List Value} (h : Fam B w e vs Z) (hb : Below w.heap.size w w') : Fam B w' e vs Z :=
  ⟨fun k hk => Ut.own_below (h.own k hk) hb, h.apart⟩

/-- A family's row with one cell written anew. -/
def setZ (Z : Nat → List Value) (k i : Nat) (u : Value) : Nat → List Value := fun j => if j = k then (Z k).set i u else Z j

theorem setZ_len (Z : Nat → List Value) (k i : Nat) (u : Value) (j : Nat) : (setZ Z k i u j).length = (Z j).length := by
  unfold setZ
  by_cases h : j = k
  · rw [if_pos h, List.length_set, h]
  · rw [if_neg h]

theorem Fam.store {B : Nat} {w : World} {e : TypeId} {vs : List Value} {Z : Nat → List Value} (h : Fam B w e vs Z) {k : Nat} (hk : k < vs.length) {g n cap : Nat} (hv : vs[k] = .slice (some ⟨g, 0, none⟩) n cap) (i : Nat) (u : Value) :
    Fam B (w.setCell ⟨g, i, none⟩ u) e vs (setZ Z k i u) := by
  have hob : vs[k].ownBlock = some g := by rw [hv]; rfl
  refine ⟨fun j hj => ?_, h.apart⟩
  rw [setZ_len]
  by_cases hjk : j = k
  · subst hjk
    have ho := h.own j hj
    have hn : (Z j).length = n := by
      have := ho.2
      rcases this with ⟨h1, h2⟩ | ⟨g', cap', cur, h1, _⟩
      · rw [hv] at h1; cases h1
      · rw [hv] at h1
        have := (Value.slice.inj h1).2.1
        exact this.symm
    rw [hv, hn] at ho ⊢
    have := (World.ownsRow.stored ho i u).1
    unfold setZ
    rw [if_pos rfl]
    exact this
  · have hz : setZ Z k i u j = Z j := by unfold setZ; rw [if_neg hjk]
    rw [hz]
    exact ownsRow_setCell_other (h.own j hj) (h.apart k j hk hj (fun e => hjk e.symm) g hob) u

theorem Fam.slice {B : Nat} {w : World} {e : TypeId} {vs : List Value} {Z : Nat → List Value} (h : Fam B w e vs Z) {k : Nat} (hk : k < vs.length) (hn : 0 < (Z k).length) :
    ∃ g cap, vs[k] = .slice (some ⟨g, 0, none⟩) (Z k).length cap ∧ (Z k).length ≤ cap ∧ cap ≤ maxLen ∧ B ≤ g ∧ g < w.heap.size ∧ (∀ j, j < (Z k).length → w.cell? ⟨g, j, none⟩ = (Z k)[j]?) ∧ ∀ j, w.frozen? ⟨g, j, none⟩ = false := by
  have ho := h.own k hk
  obtain ⟨g, cap, e1, e2, e3, e4, e5, e6⟩ := Ut.own_cells ho hn
  exact ⟨g, cap, e1, e2, e3, e4, e5, e6, fun j => World.ownsRow.frozenAt (e1 ▸ ho) j⟩

end Go.Proofs.YtocoonkachbjaaaGreatDoor

/- append to a list of the call's own: the new value lies in its own block or in a new one. Families of own lists that grow. -/
namespace Go.Proofs.YtocoonkachbjaaaGreatDoor
open Go.RowKit
set_option linter.unusedVariables false

theorem own_grown_weak {w w' : World} {row : Option Nat} (h : w.grownBy w' none) : w.grownBy w' row :=
  ⟨h.os, h.tape, h.output, h.size, fun k hk _ => h.block k hk (by simp)⟩

/-- A list has grown: where it lay, or into new memory. -/
def Grew (w w' : World) (r r' : Option Nat) : Prop := (w.grownBy w' r ∧ r' = r ∧ r ≠ none) ∨ (w.grownBy w' none ∧ ∃ g, r' = some g ∧ w.heap.size ≤ g)

theorem Grew.weak {w w' : World} {r r' : Option Nat} (h : Grew w w' r r') : w.grownBy w' r := by
  rcases h with ⟨h, _⟩ | ⟨h, _⟩
  · exact h
  · exact own_grown_weak h

/-- Where a list lies now that lay at r before: there, or in new memory. -/
def Moved (H : Nat) (r r' : Option Nat) : Prop := r' = r ∨ ∃ g, r' = some g ∧ H ≤ g

theorem Moved.trans {H : Nat} {r r' r2 : Option Nat} (h : Moved H r r') (k : Moved H r' r2) : Moved H r r2 := by
  rcases k with rfl | k
  · exact h
  · exact .inr k

theorem Grew.moved {w w' : World} {r r' : Option Nat} (h : Grew w w' r r') {H : Nat} (hH : H ≤ w.heap.size) : Moved H r r' := by
  rcases h with ⟨_, h, _⟩ | ⟨_, g, h1, h2⟩
  · exact .inl h
  · exact .inr ⟨g, h1, Nat.le_trans hH h2⟩

theorem own_new {w : World} {base e size n : Nat} {v : Value} {xs : List Value} (h : w.ownsRow base e size v n xs) (hn : 0 < n) : ∃ g, v.ownBlock = some g ∧ base ≤ g := by
  rcases h.2 with ⟨_, h0⟩ | ⟨g, cap, cur, rfl, hb, _⟩
  · omega
  · exact ⟨g, rfl, hb⟩

theorem wpList_append_apart {P : Program} {w : World} {ops : Array Oper} {rest : List Oper} {o : Oper} {a : Act} {Q : Exit → Act → World → Prop} (hgd : o.guard = none) (s x : Operand) (t : TypeId)
    (ho : o.op = .call { callee := .builtin .append, args := #[s, x], argTypes := #[t, t] })
    (base : Nat) (e : TypeId) (i : TypeInfo) (z : Value) (size bytes : Nat) (ht : P.underlying t = some (.slice e)) (hi : P.info? e = some i) (hz : i.zero = some z)
    (hsize : i.size = size) (hby : i.bytes = bytes) (hzs : z.cells.size = size) (hsz : 0 < size)
    (v : Value) (n : Nat) (xs : List Value) (hs : a.eval s = v) (hown : w.ownsRow base e size v n xs)
    (ad : Addr) (m c : Nat) (news : List Value) (hx : a.eval x = .slice (some ad) m c) (hl : news.length = m * size) (hnews : ∀ j u, news[j]? = some u → w.cell? (ad.add j) = some u) (h1 : ∀ u ∈ news, u.oneCell' = true)
    (h63 : n + m ≤ maxLen) (hbytes : (n + m) * bytes ≤ 140737488355328) (hbase : base ≤ w.heap.size) (hm0 : 0 < m)
    (h : ∀ v' w', w'.ownsRow base e size v' (n + m) (xs ++ news) → Grew w w' v.ownBlock v'.ownBlock → wpList P ops Q rest (a.put o.dst v') w') : wpList P ops Q (o :: rest) a w := by
  rcases hown.2 with ⟨hv, hn⟩ | ⟨g, cap, cur, hv, hg, hh, hnc, hcm, hcs, htake⟩
  · subst hv; subst hn
    have hxs : xs = [] := List.eq_nil_of_length_eq_zero (by simpa using hown.1)
    subst hxs
    refine wpList_append_own w hgd s x t ho w.heap.size e i z size bytes ht hi hz hsize hby hzs hsz _ 0 [] hs (World.ownsRow_nil _ _ _ _) ad m c news hx hl hnews h1 h63 hbytes (Nat.le_refl _) ?_
    intro v' w' h2 h3 h4
    exact h v' w' (Ut.own_base h2 hbase) (.inr ⟨h3, own_new h2 (by omega)⟩)
  · subst hv
    by_cases hr : n + m ≤ cap
    · refine wpList_append_fits w hgd s x t ho base e i size ht hi hsize g n cap xs hs hown ad m c news hx hl hnews h1 hr ?_
      intro w' h2 h3
      exact h _ _ h2 (.inl ⟨h3, rfl, by simp [Value.ownBlock]⟩)
    · refine wpList_append_grows w hgd s x t ho e i z size bytes ht hi hz hsize hby hzs hsz (some ⟨g, 0, none⟩) n cap xs hs (fun h => by cases h) hown.1 (fun b hb j u hu => ?_) ad m c news hx hl hnews h1 (by omega) h63 hbytes ?_
      · obtain rfl := Option.some.inj hb
        exact hown.cells (g := g) rfl j u hu
      · intro v' w' h2 h3
        exact h v' w' (Ut.own_base h2 hbase) (.inr ⟨h3, own_new h2 (by omega)⟩)

/-- Two own rows of different element types lie in different blocks. -/
theorem own_ne {w : World} {b b' e e' s s' n m : Nat} {v u : Value} {xs ys : List Value} (h : w.ownsRow b e s v n xs) (k : w.ownsRow b' e' s' u m ys) (hne : e ≠ e') : v.ownBlock = none ∨ v.ownBlock ≠ u.ownBlock := by
  rcases h.2 with ⟨rfl, _⟩ | ⟨g, cap, cur, rfl, _, hh, _⟩
  · exact .inl rfl
  · rcases k.2 with ⟨rfl, _⟩ | ⟨g', cap', cur', rfl, _, hh', _⟩
    · exact .inr (by simp [Value.ownBlock])
    · refine .inr fun e => ?_
      simp only [Value.ownBlock, Option.some.injEq] at e
      subst e
      rw [hh] at hh'
      simp at hh'
      exact hne hh'.2

/-- A family in which one list has grown. -/
theorem Fam.grow {B : Nat} {w w' : World} {e : TypeId} {vs : List Value} {Z : Nat → List Value} (h : Fam B w e vs Z) {k : Nat} (hk : k < vs.length) {v' : Value} {zs : List Value}
    (hg : w.grownBy w' vs[k].ownBlock) (hown : w'.ownsRow B e 1 v' zs.length zs) (hm : Moved w.heap.size vs[k].ownBlock v'.ownBlock) :
    Fam B w' e (vs.set k v') (fun j => if j = k then zs else Z j) := by
  refine ⟨fun j hj => ?_, fun i j hi hj hij g hgi => ?_⟩
  · rw [List.length_set] at hj
    by_cases hjk : j = k
    · subst hjk; simpa using hown
    · have := h.own j hj
      rw [List.getElem_set_ne (fun e => hjk e.symm)]
      simp only [if_neg hjk]
      refine this.kept hg ?_
      cases hb : vs[j].ownBlock with
      | none => exact .inl rfl
      | some g => exact .inr fun e => h.apart j k hj hk hjk g hb e.symm
  · rw [List.length_set] at hi hj
    rw [List.getElem_set] at hgi ⊢
    split at hgi
    · rename_i hki
      subst hki
      rw [if_neg hij]
      rcases hm with hm | ⟨g', h1, h2⟩
      · rw [hm] at hgi; exact h.apart _ _ hk hj hij g hgi
      · rw [h1] at hgi
        obtain rfl := Option.some.inj hgi
        intro e; have := (h.own j hj).lt _ e; omega
    · rename_i hki
      split
      · rename_i hkj
        subst hkj
        rcases hm with hm | ⟨g', h1, h2⟩
        · rw [hm]; exact h.apart _ _ hi hk hij g hgi
        · rw [h1]; intro e
          obtain rfl := Option.some.inj e
          have := (h.own i hi).lt _ hgi; omega
      · exact h.apart _ _ hi hj hij g hgi

/-- Everything in a family stays where one block that is none of theirs was written. -/
theorem Fam.kept {B : Nat} {w w' : World} {e : TypeId} {vs : List Value} {Z : Nat → List Value} (h : Fam B w e vs Z) {row : Option Nat} (hg : w.grownBy w' row) (hr : ∀ k (hk : k < vs.length), vs[k].ownBlock = none ∨ vs[k].ownBlock ≠ row) : Fam B w' e vs Z :=
  ⟨fun k hk => (h.own k hk).kept hg (hr k hk), h.apart⟩

end Go.Proofs.YtocoonkachbjaaaGreatDoor

/- What ApartX does to lists in memory of their own: the relations of its loops. No program's code. -/
namespace Go.Proofs.YtocoonkachbjaaaGreatDoor
open Go.RowKit
set_option linter.unusedVariables false

/-- The first n marks of list k. -/
def marks (mk : Nat → Nat → Value) (k n : Nat) : List Value := (List.range n).map (mk k)
theorem marks_len (mk : Nat → Nat → Value) (k n : Nat) : (marks mk k n).length = n := by simp [marks]
theorem marks_succ (mk : Nat → Nat → Value) (k n : Nat) : marks mk k n ++ [mk k n] = marks mk k (n + 1) := by simp [marks, List.range_succ]
theorem marks_at (mk : Nat → Nat → Value) (k n j : Nat) (h : j < n) : (marks mk k n)[j]? = some (mk k j) := by simp [marks, h]

theorem Fam.congr {B : Nat} {w : World} {e : TypeId} {vs : List Value} {Z Z' : Nat → List Value} (h : Fam B w e vs Z) (hz : ∀ k, k < vs.length → Z k = Z' k) : Fam B w e vs Z' :=
  ⟨fun k hk => by rw [← hz k hk]; exact h.own k hk, h.apart⟩

/-- How many marks list j has while list k has p marks more. -/
def upTo (n : Nat → Nat) (k p j : Nat) : Nat := if j < k then n j + 64 else if j = k then n j + p else n j

/-- While the lists are appended to: ws are the lists as they are now, gs the list of the first k of them. -/
structure Two (B H L : Nat) (w0 : World) (e eT : TypeId) (mk : Nat → Nat → Value) (vs : List Value) (n : Nat → Nat) (k p : Nat) (ws : List Value) (gs : Value) (w : World) : Prop where
  fam : Fam B w e ws (fun j => marks mk j (upTo n k p j))
  len : ws.length = vs.length
  rest : ∀ j (h : j < ws.length) (h' : j < vs.length), k < j ∨ (p = 0 ∧ k ≤ j) → ws[j] = vs[j]
  moved : ∀ j (h : j < ws.length) (h' : j < vs.length), Moved H vs[j].ownBlock ws[j].ownBlock
  lt : ∀ j (h : j < vs.length) g, vs[j].ownBlock = some g → g < H
  apart : ∀ i j (hi : i < vs.length) (hj : j < vs.length), i ≠ j → ∀ g, vs[i].ownBlock = some g → vs[j].ownBlock ≠ some g
  shape : ∀ j (h : j < vs.length), 0 < n j → ∃ g cap, vs[j] = .slice (some ⟨g, 0, none⟩) (n j) cap
  old : ∀ j (h : j < vs.length) g, vs[j].ownBlock = some g → ∀ m, m < n j → w.cell? ⟨g, m, none⟩ = some (mk j m)
  gsown : w.ownsRow H eT 1 gs k (ws.take k)
  hL : w.heap[L]? = some (.cells vs.toArray eT (0, 0))
  ltL : L < H
  hH : H ≤ w.heap.size
  hB : B ≤ H
  below : Below B w0 w

theorem Two.step {B H L : Nat} {w0 w w' : World} {e eT : TypeId} {mk : Nat → Nat → Value} {vs : List Value} {n : Nat → Nat} {k p : Nat} {ws : List Value} {gs : Value} (h : Two B H L w0 e eT mk vs n k p ws gs w) (hb : Below w.heap.size w w') : Two B H L w0 e eT mk vs n k p ws gs w' :=
  { fam := h.fam.below hb, len := h.len, rest := h.rest, moved := h.moved, lt := h.lt, apart := h.apart, shape := h.shape
    old := fun j hj g hg m hm => (hb.cell (p := ⟨g, m, none⟩) (Nat.lt_of_lt_of_le (h.lt j hj g hg) h.hH)).trans (h.old j hj g hg m hm)
    gsown := Ut.own_below h.gsown hb
    hL := (hb.block L (Nat.lt_of_lt_of_le h.ltL h.hH)).trans h.hL
    ltL := h.ltL, hH := Nat.le_trans h.hH hb.size, hB := h.hB
    below := h.below.trans (hb.mono (Nat.le_trans h.hB h.hH)) }

/-- At the start. -/
theorem Two.start {B L : Nat} {w0 w : World} {e eT : TypeId} {mk : Nat → Nat → Value} {vs : List Value} {n : Nat → Nat} (hF : Fam B w e vs (fun j => marks mk j (n j))) (hL : w.heap[L]? = some (.cells vs.toArray eT (0, 0))) (hB : B ≤ w.heap.size) (hb : Below B w0 w) :
    Two B w.heap.size L w0 e eT mk vs n 0 0 vs (.slice none 0 0) w where
  fam := hF.congr fun k _ => by unfold upTo; rw [if_neg (Nat.not_lt_zero _)]; split <;> rfl
  len := rfl
  rest := fun _ _ _ _ => rfl
  moved := fun _ _ _ => .inl rfl
  lt := fun j hj g hg => ((hF.own j hj).lt g hg).2
  apart := hF.apart
  shape := fun j hj hn => by
    obtain ⟨g, cap, h1, _⟩ := hF.slice hj (by rw [marks_len]; exact hn)
    rw [marks_len] at h1
    exact ⟨g, cap, h1⟩
  old := fun j hj g hg m hm => by
    obtain ⟨g', cap, h1, _, _, _, _, h6, _⟩ := hF.slice hj (by rw [marks_len]; omega)
    rw [h1] at hg
    simp only [Value.ownBlock, Option.some.injEq] at hg
    subst hg
    rw [h6 m (by rw [marks_len]; exact hm)]
    exact marks_at mk j _ m hm
  gsown := World.ownsRow_nil _ _ _ _
  hL := hL
  ltL := lt_of_block hL
  hH := Nat.le_refl _
  hB := hB
  below := hb

/-- One mark more behind list k. -/
theorem Two.grow {B H L : Nat} {w0 w w' : World} {e eT : TypeId} {mk : Nat → Nat → Value} {vs : List Value} {n : Nat → Nat} {k p : Nat} {ws : List Value} {gs : Value} (h : Two B H L w0 e eT mk vs n k p ws gs w) (hne : e ≠ eT) (hk : k < ws.length) {v' : Value}
    (hg : Grew w w' ws[k].ownBlock v'.ownBlock) (hown : w'.ownsRow B e 1 v' (n k + p + 1) (marks mk k (n k + p) ++ [mk k (n k + p)])) : Two B H L w0 e eT mk vs n k (p + 1) (ws.set k v') gs w' := by
  have hkv : k < vs.length := by rw [← h.len]; exact hk
  have hwk : some L ≠ ws[k].ownBlock := by
    intro e'
    have := h.fam.own k hk
    rcases this.2 with ⟨h1, _⟩ | ⟨g, cap, cur, h1, _, hh, _⟩
    · rw [h1] at e'; cases e'
    · rw [h1] at e'
      simp only [Value.ownBlock, Option.some.injEq] at e'
      subst e'
      rw [h.hL] at hh
      simp at hh
      exact hne hh.2.symm
  have hgk : gs.ownBlock = none ∨ gs.ownBlock ≠ ws[k].ownBlock := own_ne h.gsown (h.fam.own k hk) (fun e => hne e.symm)
  have ho2 : w'.ownsRow B e 1 v' (marks mk k (n k + p + 1)).length (marks mk k (n k + p + 1)) := by rw [marks_len, ← marks_succ]; exact hown
  refine { fam := ?_, len := by rw [List.length_set]; exact h.len, rest := ?_, moved := ?_, lt := h.lt, apart := h.apart, shape := h.shape, old := ?_, gsown := ?_, hL := ?_, ltL := h.ltL, hH := Nat.le_trans h.hH hg.weak.size, hB := h.hB, below := ?_ }
  · refine (h.fam.grow hk hg.weak ho2 (hg.moved (Nat.le_refl _))).congr fun j _ => ?_
    by_cases hj : j = k
    · subst hj; simp [upTo, Nat.add_assoc]
    · simp [upTo, hj]
  · intro j hj hj' hkj
    rw [List.getElem_set_ne (by omega)]
    exact h.rest j _ hj' (.inl (by omega))
  · intro j hj hj'
    rw [List.length_set] at hj
    rw [List.getElem_set]
    split
    · rename_i e'; subst e'
      exact (h.moved _ hj hj').trans (hg.moved h.hH)
    · exact h.moved j hj hj'
  · intro j hj g hgj m hm
    have hold := h.old j hj g hgj m hm
    rcases hg with ⟨hg1, hg2, hg3⟩ | ⟨hg1, _⟩
    · by_cases hgk' : some g = ws[k].ownBlock
      · have hjk : j = k := by
          rcases h.moved k hk hkv with hm2 | ⟨g', h1, h2⟩
          · by_cases e' : j = k
            · exact e'
            · exfalso; exact h.apart j k hj hkv e' g hgj (by rw [← hm2, ← hgk'])
          · rw [h1] at hgk'
            have := h.lt j hj g hgj
            have := Option.some.inj hgk'
            omega
        subst hjk
        rw [← hgk'] at hg2
        have hc := ho2.cells hg2 m _ (marks_at mk j _ m (by omega))
        rw [Addr.add_lit] at hc
        simpa using hc
      · exact hg1.cell (a := ⟨g, m, none⟩) hold hgk'
    · exact hg1.cell (a := ⟨g, m, none⟩) hold (by simp)
  · have := h.gsown.kept hg.weak hgk
    rw [List.take_set_of_le (Nat.le_refl _)]
    exact this
  · exact (hg.weak.block L (Nat.lt_of_lt_of_le h.ltL h.hH) hwk).trans h.hL
  · exact h.below.grown hg.weak (Nat.le_trans h.hB h.hH) (fun j hj => ((h.fam.own k hk).lt j hj).1)

/-- List k is laid into the list of lists. -/
theorem Two.next {B H L : Nat} {w0 w w' : World} {e eT : TypeId} {mk : Nat → Nat → Value} {vs : List Value} {n : Nat → Nat} {k : Nat} {ws : List Value} {gs gs' : Value} (h : Two B H L w0 e eT mk vs n k 64 ws gs w) (hne : e ≠ eT) (hk : k < ws.length)
    (hg : w.grownBy w' gs.ownBlock) (hown : w'.ownsRow H eT 1 gs' (k + 1) (ws.take k ++ [ws[k]])) : Two B H L w0 e eT mk vs n (k + 1) 0 ws gs' w' := by
  refine { fam := ?_, len := h.len, rest := fun j hj hj' hkj => h.rest j hj hj' (.inl (by omega)), moved := h.moved, lt := h.lt, apart := h.apart, shape := h.shape, old := ?_, gsown := ?_, hL := ?_, ltL := h.ltL, hH := Nat.le_trans h.hH hg.size, hB := h.hB, below := ?_ }
  · refine (h.fam.kept hg fun j hj => own_ne (h.fam.own j hj) h.gsown hne).congr fun j _ => ?_
    unfold upTo
    by_cases h1 : j < k
    · rw [if_pos h1, if_pos (by omega)]
    · rw [if_neg h1]
      by_cases h2 : j = k
      · rw [if_pos h2, if_pos (by omega)]
      · rw [if_neg h2, if_neg (by omega)]; split <;> simp
  · intro j hj g hgj m hm
    exact hg.cell (a := ⟨g, m, none⟩) (h.old j hj g hgj m hm) (fun e' => by
      have := h.lt j hj g hgj
      have := (h.gsown.lt g e'.symm).1
      omega)
  · rw [List.take_succ_eq_append_getElem hk]; exact hown
  · exact (hg.block L (Nat.lt_of_lt_of_le h.ltL h.hH) (fun e' => by have := (h.gsown.lt L e'.symm).1; have := h.ltL; omega)).trans h.hL
  · exact h.below.grown hg (Nat.le_trans h.hB h.hH) (fun j hj => Nat.le_trans h.hB (h.gsown.lt j hj).1)

/-- At the end: the list k of the new ones, read. -/
theorem Two.read {B H L : Nat} {w0 w : World} {e eT : TypeId} {mk : Nat → Nat → Value} {vs : List Value} {n : Nat → Nat} {ws : List Value} {gs : Value} (h : Two B H L w0 e eT mk vs n vs.length 0 ws gs w) {k : Nat} (hk : k < vs.length) :
    (∃ g cap, gs = .slice (some ⟨g, 0, none⟩) vs.length cap ∧ ∃ gk capk, w.cell? ⟨g, k, none⟩ = some (.slice (some ⟨gk, 0, none⟩) (n k + 64) capk) ∧ ∀ m, m < n k + 64 → w.cell? ⟨gk, m, none⟩ = some (mk k m)) ∧
      w.cell? ⟨L, k, none⟩ = some vs[k] := by
  have hkw : k < ws.length := by rw [h.len]; exact hk
  constructor
  · obtain ⟨g, cap, h1, _, _, _, _, h6⟩ := Ut.own_cells h.gsown (by omega)
    have hz : upTo n vs.length 0 k = n k + 64 := by unfold upTo; rw [if_pos hk]
    obtain ⟨gk, capk, e1, _, _, _, _, e6, _⟩ := h.fam.slice hkw (by rw [marks_len, hz]; omega)
    simp only [marks_len, hz] at e1 e6
    refine ⟨g, cap, h1, gk, capk, ?_, fun m hm => (e6 m hm).trans (marks_at mk k _ m hm)⟩
    rw [h6 k hk, List.getElem?_take, if_pos hk, List.getElem?_eq_getElem hkw, e1]
  · simp only [World.cell?, h.hL]
    simp [hk]

end Go.Proofs.YtocoonkachbjaaaGreatDoor
