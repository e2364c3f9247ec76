/- scope.New: of any list of names. -/
import Derived.Test.YtocoonkachbjaaaGreatDoorScBook
import Derived.Test.YtocoonkachbjaaaGreatDoorErrA3
import Derived.Deep.RegionHeld3
import Derived.StringKeys
namespace Go.Proofs.YtocoonkachbjaaaGreatDoor
open Go.RowKit Go.Maps Go.ChangeMaps Go.Proofs.NmPlain Go.Proofs.Ar
set_option linter.unusedVariables false
namespace Sc

/-- The error of a number and a place (below nought: it tells none). -/
def errV (no at_ : Int) : Value := if no = 0 then .nilIface else if at_ < 0 then errVal no else .iface 62 (Fl.fv at_ no)

/-- What New hands back. -/
def NewPost (lo : Nat) (ls : List ByteArray) (e : Ending) (w' : World) : Prop :=
  (newL ls = (0, -1) ∧ ∃ B, e = .returned (.tuple #[.pointer (some ⟨B, 0, none⟩), .nilIface]) ∧ BookAt lo w' B ls) ∨
  (newL ls ≠ (0, -1) ∧ e = .returned (.tuple #[.pointer none, errV (newL ls).1 (newL ls).2]))

theorem NewPost.no {lo : Nat} {ls : List ByteArray} {w' : World} {no at_ : Int} {v : Value} (h : newL ls = (no, at_)) (h0 : no ≠ 0) (hv : v = errV no at_) : NewPost lo ls (.returned (.tuple #[.pointer none, v])) w' := by
  refine .inr ⟨by rw [h]; intro e; exact h0 (congrArg Prod.fst e), ?_⟩
  rw [h, hv]

/-- A new map of names, with room for some. -/
theorem made (q : IntKind) (n : Int) (w : World) : (Instr.makeMap 57 (some (.int q n))).run Tryz.prog w = .ok (.map (some w.heap.size)) (w.alloc (.map #[] 0)) := by
  unfold Instr.makeMap
  simp [run_underlying Tryz.underlying57]
  rfl

/-- While the names are gone through. -/
def NRel (ls : List ByteArray) (w : World) (B bm : Nat) (v : Value) (i : Value) (wr : World) : Prop :=
  ∃ k : Nat, k ≤ ls.length ∧ i = .int .i64 k ∧ newL ls = newAt ls k ∧ (∀ a b (ha : a < ls.length) (hb : b < ls.length), a < k → b < k → ls[a] = ls[b] → a = b) ∧
    wr.heap[B]? = some (.cells #[v, .map (some bm)] 59 (0, 0)) ∧ wr.ownsRow w.heap.size 9 1 v ls.length (ls.map Value.string) ∧ wr.ownsMap Tryz.prog 9 (plainElem Tryz.prog 3) bm k (mapL ls k) ∧ Below w.heap.size w wr

/-- Where a map lies, no row of texts lies. -/
theorem own_ne_map {w : World} {P : Program} {kt : TypeId} {R : Value → Option (DataW Unit × List MemPlace)} {bm m : Nat} {D : DataW Unit} {lo e size n : Nat} {v : Value} {xs : List Value} (hm : w.ownsMap P kt R bm m D) (h : w.ownsRow lo e size v n xs) : v.ownBlock = none ∨ v.ownBlock ≠ some bm := by
  right
  intro e2
  obtain ⟨es, clock, hb, _⟩ := hm
  rcases h.2 with ⟨rfl, _⟩ | ⟨g, cap, cur, rfl, _, h3, _⟩
  · simp [Value.ownBlock] at e2
  · simp only [Value.ownBlock, Option.some.injEq] at e2
    subst e2
    rw [hb] at h3; simp at h3
theorem cells_ne_map {w : World} {P : Program} {kt : TypeId} {R : Value → Option (DataW Unit × List MemPlace)} {bm m B : Nat} {D : DataW Unit} {xs : Array Value} {t : TypeId} {f : Nat × Nat} (hm : w.ownsMap P kt R bm m D) (h : w.heap[B]? = some (.cells xs t f)) : B ≠ bm := by
  rintro rfl
  obtain ⟨es, clock, hb, _⟩ := hm
  rw [hb] at h; simp at h

theorem start_a {ls : List ByteArray} {w w1 : World} {v : Value} (hn : newL ls = newAt ls 0) (ho : w1.ownsRow w.heap.size 9 1 v ls.length (ls.map Value.string)) (hb : Below w.heap.size w w1) :
    NRel ls w (w1.heap.size + 1) w1.heap.size v (.int .i64 0) ((w1.alloc (.map #[] 0)).alloc (.cells #[v, .map (some w1.heap.size)] 59 (0, 0))) :=
  ⟨0, Nat.zero_le _, rfl, hn, fun a b _ _ h => absurd h (Nat.not_lt_zero _), by
    have h := Ut.alloc_at (w1.alloc (.map #[] 0)) (.cells #[v, .map (some w1.heap.size)] 59 (0, 0))
    simpa using h, (ho.alloc _).alloc _, (World.ownsMap_made w1 _ _ _).alloc _, (hb.alloc hb.size _).alloc (by simp; have := hb.size; omega) _⟩
theorem start_b {ls : List ByteArray} {w w1 : World} {v : Value} (hn : newL ls = newAt ls 0) (ho : w1.ownsRow (w.alloc (.map #[] 0)).drew.heap.size 9 1 v ls.length (ls.map Value.string)) (hb : Below (w.alloc (.map #[] 0)).drew.heap.size (w.alloc (.map #[] 0)).drew w1) :
    NRel ls w w1.heap.size w.heap.size v (.int .i64 0) (w1.alloc (.cells #[v, .map (some w.heap.size)] 59 (0, 0))) := by
  have e1 : (w.alloc (.map #[] 0)).drew.heap.size = w.heap.size + 1 := by simp
  have hs := hb.size
  rw [e1] at ho hb hs
  have hm : w1.ownsMap Tryz.prog 9 (plainElem (H := Unit) Tryz.prog 3) w.heap.size 0 (DataW.map []) := by
    obtain ⟨es, clock, h1, h2⟩ := World.ownsMap_made (H := Unit) w Tryz.prog 9 (plainElem Tryz.prog 3)
    exact ⟨es, clock, (hb.block _ (by omega)).trans h1, h2⟩
  exact ⟨0, Nat.zero_le _, rfl, hn, fun a b _ _ h => absurd h (Nat.not_lt_zero _), Ut.alloc_at _ _, (Ut.own_base ho (by omega)).alloc _, hm.alloc _,
    ((((Below.refl _ w).alloc (Nat.le_refl _) _).drew.trans (hb.mono (by omega))).alloc (by omega) _)⟩

theorem NRel.next {ls : List ByteArray} {w wr w2 : World} {B bm k : Nat} {v : Value} (hk : k < ls.length) (hd : dotB ls[k].data.toList = true) (hx : ls[k] ∉ ls.take k) (hn : newL ls = newAt ls k)
    (hdis : ∀ a b (ha : a < ls.length) (hb : b < ls.length), a < k → b < k → ls[a] = ls[b] → a = b)
    (hB : wr.heap[B]? = some (.cells #[v, .map (some bm)] 59 (0, 0))) (ho : wr.ownsRow w.heap.size 9 1 v ls.length (ls.map Value.string)) (hm : wr.ownsMap Tryz.prog 9 (plainElem Tryz.prog 3) bm k (mapL ls k)) (hbl : Below w.heap.size w wr) (hbm : w.heap.size ≤ bm)
    (hm2 : w2.ownsMap Tryz.prog 9 (plainElem Tryz.prog 3) bm (k + 1) ((mapL ls k).put (keyL ls[k]) (.lit (.int .i64 k)))) (hg : wr.grownBy w2 (some bm)) : NRel ls w B bm v (.int .i64 ((k : Int) + 1)) w2 := by
  have hne := cells_ne_map hm hB
  have hmem : ∀ a (ha : a < ls.length), a < k → ls[a] ≠ ls[k] := fun a ha hak e => hx (mem_take ha hak e)
  refine ⟨k + 1, by omega, by go_num, by rw [hn]; exact newAt_next hk hd hx, fun a b ha hb hak hbk e => ?_, (hg.block B (Array.getElem?_eq_some_iff.1 hB).1 (by intro e; exact hne (Option.some.inj e))).trans hB, ho.kept hg (own_ne_map hm ho), by rw [mapL_next hk]; exact hm2,
    hbl.grown hg hbl.size (fun j hj => by cases hj; exact hbm)⟩
  by_cases ea : a = k
  · by_cases eb : b = k
    · rw [ea, eb]
    · subst ea; exact absurd e.symm (hmem b hb (by omega))
  · by_cases eb : b = k
    · subst eb; exact absurd e (hmem a ha (by omega))
    · exact hdis a b ha hb (by omega) (by omega) e

theorem NRel.book {ls : List ByteArray} {w wr : World} {B bm : Nat} {v : Value} (h64 : ls.length ≤ 64) (hB0 : w.heap.size ≤ B) (hbm : w.heap.size ≤ bm) (h : NRel ls w B bm v (.int .i64 (ls.length : Int)) wr) :
    NewPost w.heap.size ls (.returned (.tuple #[.pointer (some ⟨B, 0, none⟩), .nilIface])) wr := by
  obtain ⟨k, hk, e, hn, hdis, hB, ho, hm, hbl⟩ := h
  have e2 : k = ls.length := by cases e; omega
  subst e2
  rw [newAt_end (Nat.le_refl _)] at hn
  exact .inl ⟨hn, B, rfl, v, bm, hB, hB0, hbm, ho, hm⟩

set_option maxHeartbeats 4000000 in
theorem new_any (v : Value) (ls : List ByteArray) (hl : (ls.length : Int) ≤ 9223372036854775807) (hz : ls.length ≤ 64 → ∀ s ∈ ls, s.size ≤ 16777216) (w : World) (hm : MaxAt w) (h1 : TextArg w v ls) :
    Calls Tryz.prog 6 #[v] w fun e w' => NewPost w.heap.size ls e w' ∧ Below w.heap.size w w' := by
  by_cases hm64 : 64 < ls.length
  · have e1 : (64 : Int) < (ls.length : Int) := by omega
    have HN : Hid (newL ls = (5, -1)) := by show _ = _; unfold newL; rw [if_pos hm64]
    obtain ⟨p, cp, rfl, h1⟩ := h1
    clear hm64 hz h1
    go_enter Tryz.func6, Tryz.ntmps6
    go_wp2
    go_ret2
    exact ⟨NewPost.no HN.out (by omega) rfl, Below.refl _ _⟩
  · have e1 : (ls.length : Int) ≤ 64 := by omega
    have HN : Hid (newL ls = newAt ls 0) := by show _ = _; unfold newL; rw [if_neg hm64]
    have HZ := Lib.hid (hz (by omega)); have HM := Lib.hid hm
    have HC := Lib.hid (fun (w' : World) (hb : Below w.heap.size w w') => clone_out v ls (by omega) w' (h1.below hb))
    obtain ⟨p, cp, rfl, h1⟩ := h1
    have H1 := Lib.hid h1
    have hmm := made
    clear hm64 hz h1
    go_enter Tryz.func6, Tryz.ntmps6
    go_wp2
    go_region_held3 (fun _ => True) (go_keep) (first | (go_at_call 20; refine (HC.out _ (by first | exact (Below.refl _ w).drew | exact (Below.refl _ w).drew.alloc (Nat.le_refl _) _)).mono ?_; rintro e w1 ⟨q, c, rfl, ho, hb1⟩))
    · have hws := hb1.size
      have HS := Lib.hid (start_a (w := w) HN.out ho ((Below.refl _ w).drew.trans hb1))
      have hB0 : w.heap.size ≤ w1.heap.size + 1 := Nat.le_succ_of_le hb1.size
      have hbm : w.heap.size ≤ w1.heap.size := hb1.size
      clear hws
      clear ho hb1
      generalize (w1.alloc (.map #[] 0)).alloc (.cells #[.slice q ls.length c, .map (some w1.heap.size)] 59 (0, 0)) = W at HS ⊢
      generalize w1.heap.size + 1 = B at HS hB0 ⊢
      generalize w1.heap.size = bm at HS hbm ⊢
      obtain ⟨v, hv⟩ : ∃ v : Value, v = .slice q ls.length c := ⟨_, rfl⟩
      rw [← hv] at HS ⊢
      clear hmm HC hv
      go_wp2
      go_loopw [22] (fun i wr => NRel ls w B bm v i wr) (fun i _ => ls.length - (intOf i).toNat)
      case atStart => exact HS.out
      case round =>
        obtain ⟨k, hk, rfl, hn, hdis, hBc, ho, hmp, hbl⟩ := hrel
        have HK := Lib.hid hn; have HD := Lib.hid hdis; have HO := Lib.hid ho; have HP := Lib.hid hmp; have HB := Lib.hid hbl
        clear hn hdis ho hmp hbl HS
        by_cases h : k < ls.length
        · obtain ⟨g1, o1, rfl, hg1, k1⟩ := H1.out k h
          have k1' : wr.cell? ⟨g1, o1 + k, none⟩ = some (.string ls[k]) := (HB.out.cell (p := ⟨g1, o1 + k, none⟩) hg1).trans k1
          obtain ⟨x, hx⟩ : ∃ x, x = ls[k] := ⟨_, rfl⟩
          have hxs : x.size ≤ 16777216 := by rw [hx]; exact HZ.out _ (List.getElem_mem h)
          have HDC := Lib.hid (dotted_any x (by omega) wr (HM.out.below HB.out))
          have hkey : keyOf Tryz.prog 9 (.string x) = some (keyL x) := WideMaps.keyOf_string_mk Tryz.underlying9 (by unfold maxLen; omega)
          have HKEY := Lib.hid hkey
          have hdn : dotB x.data.toList = false → newL ls = (8, (k : Int)) := fun e => by rw [HK.out]; exact newAt_name h (by rw [← hx]; exact e)
          have HDN := Lib.hid hdn
          rw [← hx] at k1'
          have HX := Lib.hid hx
          clear k1 hdn hx hxs hkey
          have b1 : (0 : Int) ≤ (k : Int) := by omega
          have b2 : (k : Int) < (ls.length : Int) := by omega
          cases hd : dotB x.data.toList with
          | false =>
            have HF := Lib.hid (HDN.out hd)
            rw [hd] at HDC
            clear hd HDN
            go_wp2_with fail
            refine HDC.out.mono ?_
            rintro e w2 ⟨rfl, hb2⟩
            have hb3 : Below w.heap.size w w2 := HB.out.trans (hb2.mono HB.out.size)
            go_wp2
            go_ret2
            exact ⟨NewPost.no HF.out (by omega) (by unfold errV; rw [if_neg (by omega), if_neg (by omega)]; rfl), hb3⟩
          | true =>
            have HDY : Hid (dotB ls[k].data.toList = true) := by show _ = _; rw [← HX.out]; exact hd
            rw [hd] at HDC
            clear hd HDN
            go_wp2_with fail
            refine HDC.out.mono ?_
            rintro e w2 ⟨rfl, hb2⟩
            have hb3 : Below w.heap.size w w2 := HB.out.trans (hb2.mono HB.out.size)
            have hB2 : w2.heap[B]? = some (.cells #[v, .map (some bm)] 59 (0, 0)) := (hb2.block B (Array.getElem?_eq_some_iff.1 hBc).1).trans hBc
            have c1 : w2.cell? ⟨B, 1, none⟩ = some (.map (some bm)) := by rw [cell_of_row w2 _ 1 _ _ _ hB2]; rfl
            have hmp2 : w2.ownsMap Tryz.prog 9 (plainElem Tryz.prog 3) bm k (mapL ls k) := by
              obtain ⟨es, clock, h5, h6⟩ := HP.out
              exact ⟨es, clock, (hb2.block bm (Array.getElem?_eq_some_iff.1 h5).1).trans h5, h6⟩
            have ho2 := Ut.own_below HO.out hb2
            have HP2 := Lib.hid hmp2; have HO2 := Lib.hid ho2; have HB2 := Lib.hid hB2; have HB3 := Lib.hid hb3
            clear hmp2 ho2 hB2 hb3 HB HP HO hBc hb2 HDC k1'
            by_cases hmem : ls[k] ∈ ls.take k
            · have HF : Hid (newL ls = (9, (k : Int))) := by show _ = _; rw [HK.out]; exact newAt_twice h HDY.out hmem
              have hhas : Maps.has (mapL ls k) (keyL x) = true := by
                obtain ⟨j, hj, ej⟩ := List.mem_take_iff_getElem.1 hmem
                rw [HX.out, ← ej]
                exact (map_yes k j (by omega) (by omega) fun i hi hik e => HD.out i j hi (by omega) hik (by omega) e).1
              clear hmem
              go_wp2_with (first | (at_lookup; refine wpList_lookup_own_ok_int _ rfl _ _ 57 rfl 9 3 .i64 kLaw Tryz.underlying57 Tryz.underlying3 (zeroI _) bm k _ rfl HP2.out _ (keyL x) rfl HKEY.out ?_; intro c2 hat hwc))
              go_ret2
              exact ⟨NewPost.no HF.out (by omega) (by unfold errV; rw [if_neg (by omega), if_neg (by omega)]; rfl), HB3.out⟩
            · have hhas : Maps.has (mapL ls k) (keyL x) = false := by
                rw [HX.out]
                exact map_no k fun i hi hik e => hmem (mem_take hi hik e)
              have HM2 := Lib.hid hmem
              clear hmem
              go_wp2_with (first | (at_lookup; refine wpList_lookup_own_ok_int _ rfl _ _ 57 rfl 9 3 .i64 kLaw Tryz.underlying57 Tryz.underlying3 (zeroI _) bm k _ rfl HP2.out _ (keyL x) rfl HKEY.out ?_; intro c2 hat hwc) | (at_mapUpdate; refine wpList_mapUpdate_own _ rfl _ _ _ 57 rfl 9 3 kLaw Tryz.underlying57 _ bm k _ rfl HP2.out (by unfold maxLen; omega) _ _ _ rfl rfl HKEY.out _ [] (plainElem_int Tryz.underlying3 (WalkArith.wf_i64 (by omega))) ?_; intro w3 hown3 hgrow3))
              go_roundw
              case rel => exact NRel.next h HDY.out HM2.out HK.out HD.out HB2.out HO2.out HP2.out HB3.out hbm (by rw [← HX.out]; exact hown3) hgrow3
              case measure => simp [intOf]; omega
        · obtain rfl : k = ls.length := by omega
          have HR := Lib.hid (NRel.book (by omega) hB0 hbm ⟨ls.length, Nat.le_refl _, rfl, HK.out, HD.out, hBc, HO.out, HP.out, HB.out⟩)
          go_wp2
          go_ret2
          exact ⟨HR.out, HB.out⟩
    · have HS := Lib.hid (start_b (w := w) HN.out ho hb1)
      have hB0 : w.heap.size ≤ w1.heap.size := by have := hb1.size; simp at this; omega
      clear ho hb1
      generalize w1.alloc (.cells #[.slice q ls.length c, .map (some w.heap.size)] 59 (0, 0)) = W at HS ⊢
      generalize w1.heap.size = B at HS hB0 ⊢
      obtain ⟨bm, hbe⟩ : ∃ bm, bm = w.heap.size := ⟨_, rfl⟩
      have HS2 : Hid (NRel ls w B bm (.slice q ls.length c) (.int .i64 0) W) := by rw [hbe]; exact HS
      clear HS
      have HS := HS2
      clear HS2
      have hbm : w.heap.size ≤ bm := Nat.le_of_eq hbe.symm
      rw [← hbe]
      clear hbe
      obtain ⟨v, hv⟩ : ∃ v : Value, v = .slice q ls.length c := ⟨_, rfl⟩
      rw [← hv] at HS ⊢
      clear hmm HC hv
      go_wp2
      go_loopw [22] (fun i wr => NRel ls w B bm v i wr) (fun i _ => ls.length - (intOf i).toNat)
      case atStart => exact HS.out
      case round =>
        obtain ⟨k, hk, rfl, hn, hdis, hBc, ho, hmp, hbl⟩ := hrel
        have HK := Lib.hid hn; have HD := Lib.hid hdis; have HO := Lib.hid ho; have HP := Lib.hid hmp; have HB := Lib.hid hbl
        clear hn hdis ho hmp hbl HS
        by_cases h : k < ls.length
        · obtain ⟨g1, o1, rfl, hg1, k1⟩ := H1.out k h
          have k1' : wr.cell? ⟨g1, o1 + k, none⟩ = some (.string ls[k]) := (HB.out.cell (p := ⟨g1, o1 + k, none⟩) hg1).trans k1
          obtain ⟨x, hx⟩ : ∃ x, x = ls[k] := ⟨_, rfl⟩
          have hxs : x.size ≤ 16777216 := by rw [hx]; exact HZ.out _ (List.getElem_mem h)
          have HDC := Lib.hid (dotted_any x (by omega) wr (HM.out.below HB.out))
          have hkey : keyOf Tryz.prog 9 (.string x) = some (keyL x) := WideMaps.keyOf_string_mk Tryz.underlying9 (by unfold maxLen; omega)
          have HKEY := Lib.hid hkey
          have hdn : dotB x.data.toList = false → newL ls = (8, (k : Int)) := fun e => by rw [HK.out]; exact newAt_name h (by rw [← hx]; exact e)
          have HDN := Lib.hid hdn
          rw [← hx] at k1'
          have HX := Lib.hid hx
          clear k1 hdn hx hxs hkey
          have b1 : (0 : Int) ≤ (k : Int) := by omega
          have b2 : (k : Int) < (ls.length : Int) := by omega
          cases hd : dotB x.data.toList with
          | false =>
            have HF := Lib.hid (HDN.out hd)
            rw [hd] at HDC
            clear hd HDN
            go_wp2_with fail
            refine HDC.out.mono ?_
            rintro e w2 ⟨rfl, hb2⟩
            have hb3 : Below w.heap.size w w2 := HB.out.trans (hb2.mono HB.out.size)
            go_wp2
            go_ret2
            exact ⟨NewPost.no HF.out (by omega) (by unfold errV; rw [if_neg (by omega), if_neg (by omega)]; rfl), hb3⟩
          | true =>
            have HDY : Hid (dotB ls[k].data.toList = true) := by show _ = _; rw [← HX.out]; exact hd
            rw [hd] at HDC
            clear hd HDN
            go_wp2_with fail
            refine HDC.out.mono ?_
            rintro e w2 ⟨rfl, hb2⟩
            have hb3 : Below w.heap.size w w2 := HB.out.trans (hb2.mono HB.out.size)
            have hB2 : w2.heap[B]? = some (.cells #[v, .map (some bm)] 59 (0, 0)) := (hb2.block B (Array.getElem?_eq_some_iff.1 hBc).1).trans hBc
            have c1 : w2.cell? ⟨B, 1, none⟩ = some (.map (some bm)) := by rw [cell_of_row w2 _ 1 _ _ _ hB2]; rfl
            have hmp2 : w2.ownsMap Tryz.prog 9 (plainElem Tryz.prog 3) bm k (mapL ls k) := by
              obtain ⟨es, clock, h5, h6⟩ := HP.out
              exact ⟨es, clock, (hb2.block bm (Array.getElem?_eq_some_iff.1 h5).1).trans h5, h6⟩
            have ho2 := Ut.own_below HO.out hb2
            have HP2 := Lib.hid hmp2; have HO2 := Lib.hid ho2; have HB2 := Lib.hid hB2; have HB3 := Lib.hid hb3
            clear hmp2 ho2 hB2 hb3 HB HP HO hBc hb2 HDC k1'
            by_cases hmem : ls[k] ∈ ls.take k
            · have HF : Hid (newL ls = (9, (k : Int))) := by show _ = _; rw [HK.out]; exact newAt_twice h HDY.out hmem
              have hhas : Maps.has (mapL ls k) (keyL x) = true := by
                obtain ⟨j, hj, ej⟩ := List.mem_take_iff_getElem.1 hmem
                rw [HX.out, ← ej]
                exact (map_yes k j (by omega) (by omega) fun i hi hik e => HD.out i j hi (by omega) hik (by omega) e).1
              clear hmem
              go_wp2_with (first | (at_lookup; refine wpList_lookup_own_ok_int _ rfl _ _ 57 rfl 9 3 .i64 kLaw Tryz.underlying57 Tryz.underlying3 (zeroI _) bm k _ rfl HP2.out _ (keyL x) rfl HKEY.out ?_; intro c2 hat hwc))
              go_ret2
              exact ⟨NewPost.no HF.out (by omega) (by unfold errV; rw [if_neg (by omega), if_neg (by omega)]; rfl), HB3.out⟩
            · have hhas : Maps.has (mapL ls k) (keyL x) = false := by
                rw [HX.out]
                exact map_no k fun i hi hik e => hmem (mem_take hi hik e)
              have HM2 := Lib.hid hmem
              clear hmem
              go_wp2_with (first | (at_lookup; refine wpList_lookup_own_ok_int _ rfl _ _ 57 rfl 9 3 .i64 kLaw Tryz.underlying57 Tryz.underlying3 (zeroI _) bm k _ rfl HP2.out _ (keyL x) rfl HKEY.out ?_; intro c2 hat hwc) | (at_mapUpdate; refine wpList_mapUpdate_own _ rfl _ _ _ 57 rfl 9 3 kLaw Tryz.underlying57 _ bm k _ rfl HP2.out (by unfold maxLen; omega) _ _ _ rfl rfl HKEY.out _ [] (plainElem_int Tryz.underlying3 (WalkArith.wf_i64 (by omega))) ?_; intro w3 hown3 hgrow3))
              go_roundw
              case rel => exact NRel.next h HDY.out HM2.out HK.out HD.out HB2.out HO2.out HP2.out HB3.out hbm (by rw [← HX.out]; exact hown3) hgrow3
              case measure => simp [intOf]; omega
        · obtain rfl : k = ls.length := by omega
          have HR := Lib.hid (NRel.book (by omega) hB0 hbm ⟨ls.length, Nat.le_refl _, rfl, HK.out, HD.out, hBc, HO.out, HP.out, HB.out⟩)
          go_wp2
          go_ret2
          exact ⟨HR.out, HB.out⟩

end Sc
end Go.Proofs.YtocoonkachbjaaaGreatDoor
