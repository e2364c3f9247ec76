/- Several texts in one: what each proves its own first comment says. -/
import Derived.Test.YtocoonkachbjaaaGreatDoorM7
import Derived.Deep.RegionHeld3
import Derived.StringKeys

/- scope.New: of any list of names. -/
namespace Go.Proofs.YtocoonkachbjaaaGreatDoor
open Go.RowKit Go.Maps Go.ChangeMaps Go.Proofs.NmPlain Go.Proofs.Ar
set_option linter.unusedVariables false
namespace Sc

/-- The error of a number and a place (below nought: it tells none). -/
def errV (no at_ : Int) : Value := if no = 0 then .nilIface else if at_ < 0 then errVal no else .iface 62 (Fl.fv at_ no)

/-- What New hands back. -/
def NewPost (lo : Nat) (ls : List ByteArray) (e : Ending) (w' : World) : Prop :=
  (newL ls = (0, -1) ∧ ∃ B, e = .returned (.tuple #[.pointer (some ⟨B, 0, none⟩), .nilIface]) ∧ BookAt lo w' B ls) ∨
  (newL ls ≠ (0, -1) ∧ e = .returned (.tuple #[.pointer none, errV (newL ls).1 (newL ls).2]))

theorem NewPost.no {lo : Nat} {ls : List ByteArray} {w' : World} {no at_ : Int} {v : Value} (h : newL ls = (no, at_)) (h0 : no ≠ 0) (hv : v = errV no at_) : NewPost lo ls (.returned (.tuple #[.pointer none, v])) w' := by
  refine .inr ⟨by rw [h]; intro e; exact h0 (congrArg Prod.fst e), ?_⟩
  rw [h, hv]

/-- A new map of names, with room for some. -/
theorem made (q : IntKind) (n : Int) (w : World) : (Instr.makeMap 57 (some (.int q n))).run Tryz.prog w = .ok (.map (some w.heap.size)) (w.alloc (.map #[] 0)) := by
  unfold Instr.makeMap
  simp [run_underlying Tryz.underlying57]
  rfl

/-- While the names are gone through. -/
def NRel (ls : List ByteArray) (w : World) (B bm : Nat) (v : Value) (i : Value) (wr : World) : Prop :=
  ∃ k : Nat, k ≤ ls.length ∧ i = .int .i64 k ∧ newL ls = newAt ls k ∧ (∀ a b (ha : a < ls.length) (hb : b < ls.length), a < k → b < k → ls[a] = ls[b] → a = b) ∧
    wr.heap[B]? = some (.cells #[v, .map (some bm)] 59 (0, 0)) ∧ wr.ownsRow w.heap.size 9 1 v ls.length (ls.map Value.string) ∧ wr.ownsMap Tryz.prog 9 (plainElem Tryz.prog 3) bm k (mapL ls k) ∧ Below w.heap.size w wr

/-- Where a map lies, no row of texts lies. -/
theorem own_ne_map {w : World} {P : Program} {kt : TypeId} {R : Value → Option (DataW Unit × List MemPlace)} {bm m : Nat} {D : DataW Unit} {lo e size n : Nat} {v : Value} {xs : List Value} (hm : w.ownsMap P kt R bm m D) (h : w.ownsRow lo e size v n xs) : v.ownBlock = none ∨ v.ownBlock ≠ some bm := by
  right
  intro e2
  obtain ⟨es, clock, hb, _⟩ := hm
  rcases h.2 with ⟨rfl, _⟩ | ⟨g, cap, cur, rfl, _, h3, _⟩
  · simp [Value.ownBlock] at e2
  · simp only [Value.ownBlock, Option.some.injEq] at e2
    subst e2
    rw [hb] at h3; simp at h3
theorem cells_ne_map {w : World} {P : Program} {kt : TypeId} {R : Value → Option (DataW Unit × List MemPlace)} {bm m B : Nat} {D : DataW Unit} {xs : Array Value} {t : TypeId} {f : Nat × Nat} (hm : w.ownsMap P kt R bm m D) (h : w.heap[B]? = some (.cells xs t f)) : B ≠ bm := by
  rintro rfl
  obtain ⟨es, clock, hb, _⟩ := hm
  rw [hb] at h; simp at h

theorem start_a {ls : List ByteArray} {w w1 : World} {v : Value} (hn : newL ls = newAt ls 0) (ho : w1.ownsRow w.heap.size 9 1 v ls.length (ls.map Value.string)) (hb : Below w.heap.size w w1) :
    NRel ls w (w1.heap.size + 1) w1.heap.size v (.int .i64 0) ((w1.alloc (.map #[] 0)).alloc (.cells #[v, .map (some w1.heap.size)] 59 (0, 0))) :=
  ⟨0, Nat.zero_le _, rfl, hn, fun a b _ _ h => absurd h (Nat.not_lt_zero _), by
    have h := Ut.alloc_at (w1.alloc (.map #[] 0)) (.cells #[v, .map (some w1.heap.size)] 59 (0, 0))
    simpa using h, (ho.alloc _).alloc _, (World.ownsMap_made w1 _ _ _).alloc _, (hb.alloc hb.size _).alloc (by simp; have := hb.size; omega) _⟩
theorem start_b {ls : List ByteArray} {w w1 : World} {v : Value} (hn : newL ls = newAt ls 0) (ho : w1.ownsRow (w.alloc (.map #[] 0)).drew.heap.size 9 1 v ls.length (ls.map Value.string)) (hb : Below (w.alloc (.map #[] 0)).drew.heap.size (w.alloc (.map #[] 0)).drew w1) :
    NRel ls w w1.heap.size w.heap.size v (.int .i64 0) (w1.alloc (.cells #[v, .map (some w.heap.size)] 59 (0, 0))) := by
  have e1 : (w.alloc (.map #[] 0)).drew.heap.size = w.heap.size + 1 := by simp
  have hs := hb.size
  rw [e1] at ho hb hs
  have hm : w1.ownsMap Tryz.prog 9 (plainElem (H := Unit) Tryz.prog 3) w.heap.size 0 (DataW.map []) := by
    obtain ⟨es, clock, h1, h2⟩ := World.ownsMap_made (H := Unit) w Tryz.prog 9 (plainElem Tryz.prog 3)
    exact ⟨es, clock, (hb.block _ (by omega)).trans h1, h2⟩
  exact ⟨0, Nat.zero_le _, rfl, hn, fun a b _ _ h => absurd h (Nat.not_lt_zero _), Ut.alloc_at _ _, (Ut.own_base ho (by omega)).alloc _, hm.alloc _,
    ((((Below.refl _ w).alloc (Nat.le_refl _) _).drew.trans (hb.mono (by omega))).alloc (by omega) _)⟩

theorem NRel.next {ls : List ByteArray} {w wr w2 : World} {B bm k : Nat} {v : Value} (hk : k < ls.length) (hd : dotB ls[k].data.toList = true) (hx : ls[k] ∉ ls.take k) (hn : newL ls = newAt ls k)
    (hdis : ∀ a b (ha : a < ls.length) (hb : b < ls.length), a < k → b < k → ls[a] = ls[b] → a = b)
    (hB : wr.heap[B]? = some (.cells #[v, .map (some bm)] 59 (0, 0))) (ho : wr.ownsRow w.heap.size 9 1 v ls.length (ls.map Value.string)) (hm : wr.ownsMap Tryz.prog 9 (plainElem Tryz.prog 3) bm k (mapL ls k)) (hbl : Below w.heap.size w wr) (hbm : w.heap.size ≤ bm)
    (hm2 : w2.ownsMap Tryz.prog 9 (plainElem Tryz.prog 3) bm (k + 1) ((mapL ls k).put (keyL ls[k]) (.lit (.int .i64 k)))) (hg : wr.grownBy w2 (some bm)) : NRel ls w B bm v (.int .i64 ((k : Int) + 1)) w2 := by
  have hne := cells_ne_map hm hB
  have hmem : ∀ a (ha : a < ls.length), a < k → ls[a] ≠ ls[k] := fun a ha hak e => hx (mem_take ha hak e)
  refine ⟨k + 1, by omega, by go_num, by rw [hn]; exact newAt_next hk hd hx, fun a b ha hb hak hbk e => ?_, (hg.block B (Array.getElem?_eq_some_iff.1 hB).1 (by intro e; exact hne (Option.some.inj e))).trans hB, ho.kept hg (own_ne_map hm ho), by rw [mapL_next hk]; exact hm2,
    hbl.grown hg hbl.size (fun j hj => by cases hj; exact hbm)⟩
  by_cases ea : a = k
  · by_cases eb : b = k
    · rw [ea, eb]
    · subst ea; exact absurd e.symm (hmem b hb (by omega))
  · by_cases eb : b = k
    · subst eb; exact absurd e (hmem a ha (by omega))
    · exact hdis a b ha hb (by omega) (by omega) e

theorem NRel.book {ls : List ByteArray} {w wr : World} {B bm : Nat} {v : Value} (h64 : ls.length ≤ 64) (hB0 : w.heap.size ≤ B) (hbm : w.heap.size ≤ bm) (h : NRel ls w B bm v (.int .i64 (ls.length : Int)) wr) :
    NewPost w.heap.size ls (.returned (.tuple #[.pointer (some ⟨B, 0, none⟩), .nilIface])) wr := by
  obtain ⟨k, hk, e, hn, hdis, hB, ho, hm, hbl⟩ := h
  have e2 : k = ls.length := by cases e; omega
  subst e2
  rw [newAt_end (Nat.le_refl _)] at hn
  exact .inl ⟨hn, B, rfl, v, bm, hB, hB0, hbm, ho, hm⟩

set_option maxHeartbeats 4000000 in
theorem new_any (v : Value) (ls : List ByteArray) (hl : (ls.length : Int) ≤ 9223372036854775807) (hz : ls.length ≤ 64 → ∀ s ∈ ls, s.size ≤ 16777216) (w : World) (hm : MaxAt w) (h1 : TextArg w v ls) :
    Calls Tryz.prog 6 #[v] w fun e w' => NewPost w.heap.size ls e w' ∧ Below w.heap.size w w' := by
  by_cases hm64 : 64 < ls.length
  · have e1 : (64 : Int) < (ls.length : Int) := by omega
    have HN : Hid (newL ls = (5, -1)) := by show _ = _; unfold newL; rw [if_pos hm64]
    obtain ⟨p, cp, rfl, h1⟩ := h1
    clear hm64 hz h1
    go_enter Tryz.func6, Tryz.ntmps6
    go_wp2
    go_ret2
    exact ⟨NewPost.no HN.out (by omega) rfl, Below.refl _ _⟩
  · have e1 : (ls.length : Int) ≤ 64 := by omega
    have HN : Hid (newL ls = newAt ls 0) := by show _ = _; unfold newL; rw [if_neg hm64]
    have HZ := Lib.hid (hz (by omega)); have HM := Lib.hid hm
    have HC := Lib.hid (fun (w' : World) (hb : Below w.heap.size w w') => clone_out v ls (by omega) w' (h1.below hb))
    obtain ⟨p, cp, rfl, h1⟩ := h1
    have H1 := Lib.hid h1
    have hmm := made
    clear hm64 hz h1
    go_enter Tryz.func6, Tryz.ntmps6
    go_wp2
    go_region_held3 (fun _ => True) (go_keep) (first | (go_at_call 20; refine (HC.out _ (by first | exact (Below.refl _ w).drew | exact (Below.refl _ w).drew.alloc (Nat.le_refl _) _)).mono ?_; rintro e w1 ⟨q, c, rfl, ho, hb1⟩))
    · have hws := hb1.size
      have HS := Lib.hid (start_a (w := w) HN.out ho ((Below.refl _ w).drew.trans hb1))
      have hB0 : w.heap.size ≤ w1.heap.size + 1 := Nat.le_succ_of_le hb1.size
      have hbm : w.heap.size ≤ w1.heap.size := hb1.size
      clear hws
      clear ho hb1
      generalize (w1.alloc (.map #[] 0)).alloc (.cells #[.slice q ls.length c, .map (some w1.heap.size)] 59 (0, 0)) = W at HS ⊢
      generalize w1.heap.size + 1 = B at HS hB0 ⊢
      generalize w1.heap.size = bm at HS hbm ⊢
      obtain ⟨v, hv⟩ : ∃ v : Value, v = .slice q ls.length c := ⟨_, rfl⟩
      rw [← hv] at HS ⊢
      clear hmm HC hv
      go_wp2
      go_loopw [22] (fun i wr => NRel ls w B bm v i wr) (fun i _ => ls.length - (intOf i).toNat)
      case atStart => exact HS.out
      case round =>
        obtain ⟨k, hk, rfl, hn, hdis, hBc, ho, hmp, hbl⟩ := hrel
        have HK := Lib.hid hn; have HD := Lib.hid hdis; have HO := Lib.hid ho; have HP := Lib.hid hmp; have HB := Lib.hid hbl
        clear hn hdis ho hmp hbl HS
        by_cases h : k < ls.length
        · obtain ⟨g1, o1, rfl, hg1, k1⟩ := H1.out k h
          have k1' : wr.cell? ⟨g1, o1 + k, none⟩ = some (.string ls[k]) := (HB.out.cell (p := ⟨g1, o1 + k, none⟩) hg1).trans k1
          obtain ⟨x, hx⟩ : ∃ x, x = ls[k] := ⟨_, rfl⟩
          have hxs : x.size ≤ 16777216 := by rw [hx]; exact HZ.out _ (List.getElem_mem h)
          have HDC := Lib.hid (dotted_any x (by omega) wr (HM.out.below HB.out))
          have hkey : keyOf Tryz.prog 9 (.string x) = some (keyL x) := WideMaps.keyOf_string_mk Tryz.underlying9 (by unfold maxLen; omega)
          have HKEY := Lib.hid hkey
          have hdn : dotB x.data.toList = false → newL ls = (8, (k : Int)) := fun e => by rw [HK.out]; exact newAt_name h (by rw [← hx]; exact e)
          have HDN := Lib.hid hdn
          rw [← hx] at k1'
          have HX := Lib.hid hx
          clear k1 hdn hx hxs hkey
          have b1 : (0 : Int) ≤ (k : Int) := by omega
          have b2 : (k : Int) < (ls.length : Int) := by omega
          cases hd : dotB x.data.toList with
          | false =>
            have HF := Lib.hid (HDN.out hd)
            rw [hd] at HDC
            clear hd HDN
            go_wp2_with fail
            refine HDC.out.mono ?_
            rintro e w2 ⟨rfl, hb2⟩
            have hb3 : Below w.heap.size w w2 := HB.out.trans (hb2.mono HB.out.size)
            go_wp2
            go_ret2
            exact ⟨NewPost.no HF.out (by omega) (by unfold errV; rw [if_neg (by omega), if_neg (by omega)]; rfl), hb3⟩
          | true =>
            have HDY : Hid (dotB ls[k].data.toList = true) := by show _ = _; rw [← HX.out]; exact hd
            rw [hd] at HDC
            clear hd HDN
            go_wp2_with fail
            refine HDC.out.mono ?_
            rintro e w2 ⟨rfl, hb2⟩
            have hb3 : Below w.heap.size w w2 := HB.out.trans (hb2.mono HB.out.size)
            have hB2 : w2.heap[B]? = some (.cells #[v, .map (some bm)] 59 (0, 0)) := (hb2.block B (Array.getElem?_eq_some_iff.1 hBc).1).trans hBc
            have c1 : w2.cell? ⟨B, 1, none⟩ = some (.map (some bm)) := by rw [cell_of_row w2 _ 1 _ _ _ hB2]; rfl
            have hmp2 : w2.ownsMap Tryz.prog 9 (plainElem Tryz.prog 3) bm k (mapL ls k) := by
              obtain ⟨es, clock, h5, h6⟩ := HP.out
              exact ⟨es, clock, (hb2.block bm (Array.getElem?_eq_some_iff.1 h5).1).trans h5, h6⟩
            have ho2 := Ut.own_below HO.out hb2
            have HP2 := Lib.hid hmp2; have HO2 := Lib.hid ho2; have HB2 := Lib.hid hB2; have HB3 := Lib.hid hb3
            clear hmp2 ho2 hB2 hb3 HB HP HO hBc hb2 HDC k1'
            by_cases hmem : ls[k] ∈ ls.take k
            · have HF : Hid (newL ls = (9, (k : Int))) := by show _ = _; rw [HK.out]; exact newAt_twice h HDY.out hmem
              have hhas : Maps.has (mapL ls k) (keyL x) = true := by
                obtain ⟨j, hj, ej⟩ := List.mem_take_iff_getElem.1 hmem
                rw [HX.out, ← ej]
                exact (map_yes k j (by omega) (by omega) fun i hi hik e => HD.out i j hi (by omega) hik (by omega) e).1
              clear hmem
              go_wp2_with (first | (at_lookup; refine wpList_lookup_own_ok_int _ rfl _ _ 57 rfl 9 3 .i64 kLaw Tryz.underlying57 Tryz.underlying3 (zeroI _) bm k _ rfl HP2.out _ (keyL x) rfl HKEY.out ?_; intro c2 hat hwc))
              go_ret2
              exact ⟨NewPost.no HF.out (by omega) (by unfold errV; rw [if_neg (by omega), if_neg (by omega)]; rfl), HB3.out⟩
            · have hhas : Maps.has (mapL ls k) (keyL x) = false := by
                rw [HX.out]
                exact map_no k fun i hi hik e => hmem (mem_take hi hik e)
              have HM2 := Lib.hid hmem
              clear hmem
              go_wp2_with (first | (at_lookup; refine wpList_lookup_own_ok_int _ rfl _ _ 57 rfl 9 3 .i64 kLaw Tryz.underlying57 Tryz.underlying3 (zeroI _) bm k _ rfl HP2.out _ (keyL x) rfl HKEY.out ?_; intro c2 hat hwc) | (at_mapUpdate; refine wpList_mapUpdate_own _ rfl _ _ _ 57 rfl 9 3 kLaw Tryz.underlying57 _ bm k _ rfl HP2.out (by unfold maxLen; omega) _ _ _ rfl rfl HKEY.out _ [] (plainElem_int Tryz.underlying3 (WalkArith.wf_i64 (by omega))) ?_; intro w3 hown3 hgrow3))
              go_roundw
              case rel => exact NRel.next h HDY.out HM2.out HK.out HD.out HB2.out HO2.out HP2.out HB3.out hbm (by rw [← HX.out]; exact hown3) hgrow3
              case measure => simp [intOf]; omega
        · obtain rfl : k = ls.length := by omega
          have HR := Lib.hid (NRel.book (by omega) hB0 hbm ⟨ls.length, Nat.le_refl _, rfl, HK.out, HD.out, hBc, HO.out, HP.out, HB.out⟩)
          go_wp2
          go_ret2
          exact ⟨HR.out, HB.out⟩
    · have HS := Lib.hid (start_b (w := w) HN.out ho hb1)
      have hB0 : w.heap.size ≤ w1.heap.size := by have := hb1.size; simp at this; omega
      clear ho hb1
      generalize w1.alloc (.cells #[.slice q ls.length c, .map (some w.heap.size)] 59 (0, 0)) = W at HS ⊢
      generalize w1.heap.size = B at HS hB0 ⊢
      obtain ⟨bm, hbe⟩ : ∃ bm, bm = w.heap.size := ⟨_, rfl⟩
      have HS2 : Hid (NRel ls w B bm (.slice q ls.length c) (.int .i64 0) W) := by rw [hbe]; exact HS
      clear HS
      have HS := HS2
      clear HS2
      have hbm : w.heap.size ≤ bm := Nat.le_of_eq hbe.symm
      rw [← hbe]
      clear hbe
      obtain ⟨v, hv⟩ : ∃ v : Value, v = .slice q ls.length c := ⟨_, rfl⟩
      rw [← hv] at HS ⊢
      clear hmm HC hv
      go_wp2
      go_loopw [22] (fun i wr => NRel ls w B bm v i wr) (fun i _ => ls.length - (intOf i).toNat)
      case atStart => exact HS.out
      case round =>
        obtain ⟨k, hk, rfl, hn, hdis, hBc, ho, hmp, hbl⟩ := hrel
        have HK := Lib.hid hn; have HD := Lib.hid hdis; have HO := Lib.hid ho; have HP := Lib.hid hmp; have HB := Lib.hid hbl
        clear hn hdis ho hmp hbl HS
        by_cases h : k < ls.length
        · obtain ⟨g1, o1, rfl, hg1, k1⟩ := H1.out k h
          have k1' : wr.cell? ⟨g1, o1 + k, none⟩ = some (.string ls[k]) := (HB.out.cell (p := ⟨g1, o1 + k, none⟩) hg1).trans k1
          obtain ⟨x, hx⟩ : ∃ x, x = ls[k] := ⟨_, rfl⟩
          have hxs : x.size ≤ 16777216 := by rw [hx]; exact HZ.out _ (List.getElem_mem h)
          have HDC := Lib.hid (dotted_any x (by omega) wr (HM.out.below HB.out))
          have hkey : keyOf Tryz.prog 9 (.string x) = some (keyL x) := WideMaps.keyOf_string_mk Tryz.underlying9 (by unfold maxLen; omega)
          have HKEY := Lib.hid hkey
          have hdn : dotB x.data.toList = false → newL ls = (8, (k : Int)) := fun e => by rw [HK.out]; exact newAt_name h (by rw [← hx]; exact e)
          have HDN := Lib.hid hdn
          rw [← hx] at k1'
          have HX := Lib.hid hx
          clear k1 hdn hx hxs hkey
          have b1 : (0 : Int) ≤ (k : Int) := by omega
          have b2 : (k : Int) < (ls.length : Int) := by omega
          cases hd : dotB x.data.toList with
          | false =>
            have HF := Lib.hid (HDN.out hd)
            rw [hd] at HDC
            clear hd HDN
            go_wp2_with fail
            refine HDC.out.mono ?_
            rintro e w2 ⟨rfl, hb2⟩
            have hb3 : Below w.heap.size w w2 := HB.out.trans (hb2.mono HB.out.size)
            go_wp2
            go_ret2
            exact ⟨NewPost.no HF.out (by omega) (by unfold errV; rw [if_neg (by omega), if_neg (by omega)]; rfl), hb3⟩
          | true =>
            have HDY : Hid (dotB ls[k].data.toList = true) := by show _ = _; rw [← HX.out]; exact hd
            rw [hd] at HDC
            clear hd HDN
            go_wp2_with fail
            refine HDC.out.mono ?_
            rintro e w2 ⟨rfl, hb2⟩
            have hb3 : Below w.heap.size w w2 := HB.out.trans (hb2.mono HB.out.size)
            have hB2 : w2.heap[B]? = some (.cells #[v, .map (some bm)] 59 (0, 0)) := (hb2.block B (Array.getElem?_eq_some_iff.1 hBc).1).trans hBc
            have c1 : w2.cell? ⟨B, 1, none⟩ = some (.map (some bm)) := by rw [cell_of_row w2 _ 1 _ _ _ hB2]; rfl
            have hmp2 : w2.ownsMap Tryz.prog 9 (plainElem Tryz.prog 3) bm k (mapL ls k) := by
              obtain ⟨es, clock, h5, h6⟩ := HP.out
              exact ⟨es, clock, (hb2.block bm (Array.getElem?_eq_some_iff.1 h5).1).trans h5, h6⟩
            have ho2 := Ut.own_below HO.out hb2
            have HP2 := Lib.hid hmp2; have HO2 := Lib.hid ho2; have HB2 := Lib.hid hB2; have HB3 := Lib.hid hb3
            clear hmp2 ho2 hB2 hb3 HB HP HO hBc hb2 HDC k1'
            by_cases hmem : ls[k] ∈ ls.take k
            · have HF : Hid (newL ls = (9, (k : Int))) := by show _ = _; rw [HK.out]; exact newAt_twice h HDY.out hmem
              have hhas : Maps.has (mapL ls k) (keyL x) = true := by
                obtain ⟨j, hj, ej⟩ := List.mem_take_iff_getElem.1 hmem
                rw [HX.out, ← ej]
                exact (map_yes k j (by omega) (by omega) fun i hi hik e => HD.out i j hi (by omega) hik (by omega) e).1
              clear hmem
              go_wp2_with (first | (at_lookup; refine wpList_lookup_own_ok_int _ rfl _ _ 57 rfl 9 3 .i64 kLaw Tryz.underlying57 Tryz.underlying3 (zeroI _) bm k _ rfl HP2.out _ (keyL x) rfl HKEY.out ?_; intro c2 hat hwc))
              go_ret2
              exact ⟨NewPost.no HF.out (by omega) (by unfold errV; rw [if_neg (by omega), if_neg (by omega)]; rfl), HB3.out⟩
            · have hhas : Maps.has (mapL ls k) (keyL x) = false := by
                rw [HX.out]
                exact map_no k fun i hi hik e => hmem (mem_take hi hik e)
              have HM2 := Lib.hid hmem
              clear hmem
              go_wp2_with (first | (at_lookup; refine wpList_lookup_own_ok_int _ rfl _ _ 57 rfl 9 3 .i64 kLaw Tryz.underlying57 Tryz.underlying3 (zeroI _) bm k _ rfl HP2.out _ (keyL x) rfl HKEY.out ?_; intro c2 hat hwc) | (at_mapUpdate; refine wpList_mapUpdate_own _ rfl _ _ _ 57 rfl 9 3 kLaw Tryz.underlying57 _ bm k _ rfl HP2.out (by unfold maxLen; omega) _ _ _ rfl rfl HKEY.out _ [] (plainElem_int Tryz.underlying3 (WalkArith.wf_i64 (by omega))) ?_; intro w3 hown3 hgrow3))
              go_roundw
              case rel => exact NRel.next h HDY.out HM2.out HK.out HD.out HB2.out HO2.out HP2.out HB3.out hbm (by rw [← HX.out]; exact hown3) hgrow3
              case measure => simp [intOf]; omega
        · obtain rfl : k = ls.length := by omega
          have HR := Lib.hid (NRel.book (by omega) hB0 hbm ⟨ls.length, Nat.le_refl _, rfl, HK.out, HD.out, hBc, HO.out, HP.out, HB.out⟩)
          go_wp2
          go_ret2
          exact ⟨HR.out, HB.out⟩

end Sc
end Go.Proofs.YtocoonkachbjaaaGreatDoor

/- (*scope.Book).All, Names, below: of any Book. -/
namespace Go.Proofs.YtocoonkachbjaaaGreatDoor
open Go.RowKit Go.Maps Go.ChangeMaps Go.Proofs.NmPlain Go.Proofs.Ar
set_option linter.unusedVariables false
namespace Sc

/-- A Book taken apart. -/
theorem BookAt.out {lo : Nat} {w : World} {B : Nat} {ls : List ByteArray} (h : BookAt lo w B ls) : ∃ q c bm, w.cell? ⟨B, 0, none⟩ = some (.slice q ls.length c) ∧ w.cell? ⟨B, 1, none⟩ = some (.map (some bm)) ∧
    TextArg w (.slice q ls.length c) ls ∧ w.ownsMap Tryz.prog 9 (plainElem Tryz.prog 3) bm ls.length (mapL ls ls.length) := by
  obtain ⟨v, bm, h1, h2, h3, h4, h5⟩ := h
  obtain ⟨q, c, rfl⟩ := own_shape h4
  exact ⟨q, c, bm, by rw [cell_of_row w _ 0 _ _ _ h1]; rfl, by rw [cell_of_row w _ 1 _ _ _ h1]; rfl, Tx.own_arg h4, h5⟩

theorem all_64 {ls : List ByteArray} (h : ls.length = 64) : ((allS ls : Nat) : Int) = 18446744073709551615 := by unfold allS; rw [h]; rfl
theorem all_lt {ls : List ByteArray} (h : ls.length < 64) : IntKind.u64.wrap (IntKind.u64.wrap ((2 : Int) ^ ls.length) - 1) = ((allS ls : Nat) : Int) := by
  have h1 := pow_u64 h
  have h2 : 0 < 2 ^ ls.length := Nat.pow_pos (by omega)
  have e : ((2 ^ ls.length : Nat) : Int) - 1 = ((2 ^ ls.length - 1 : Nat) : Int) := by omega
  rw [wrap_pow h, e, IntWalk.u64_in _ ⟨Int.natCast_nonneg _, Int.ofNat_le.2 (show 2 ^ ls.length - 1 ≤ 18446744073709551615 by omega)⟩]
  rfl

set_option maxHeartbeats 2000000 in
theorem all_any (lo B : Nat) (ls : List ByteArray) (hl : ls.length ≤ 64) (w : World) (hb : BookAt lo w B ls) :
    Calls Tryz.prog 65 #[.pointer (some ⟨B, 0, none⟩)] w fun e w' => e = .returned (.int .u64 (allS ls : Nat)) ∧ w = w' := by
  obtain ⟨q, c, bm, c0, c1, ht, hm⟩ := hb.out
  clear c1 ht hm hb
  by_cases h : ls.length = 64
  · have HA := Lib.hid (all_64 h)
    have e1 : ((ls.length : Int) == 64) = true := by rw [h]; rfl
    clear h
    go_enter Tryz.func65, Tryz.ntmps65
    go_wp2
    go_ret
    exact ⟨by rw [HA.out]; rfl, rfl⟩
  · have HA := Lib.hid (all_lt (ls := ls) (by omega))
    have e1 : ((ls.length : Int) == 64) = false := by rw [beq_eq_false_iff_ne]; omega
    have e2 : (0 : Int) ≤ (ls.length : Int) := by omega
    have e3 : (ls.length : Int) ≤ 63 := by omega
    clear h
    go_enter Tryz.func65, Tryz.ntmps65
    go_wp2
    go_ret
    exact ⟨by rw [← HA.out]; rfl, rfl⟩

end Sc
end Go.Proofs.YtocoonkachbjaaaGreatDoor

/- (*scope.Book).word: of any Book and any word. -/
namespace Go.Proofs.YtocoonkachbjaaaGreatDoor
open Go.RowKit Go.Maps Go.ChangeMaps Go.Proofs.NmPlain Go.Proofs.Ar
set_option linter.unusedVariables false
namespace Sc

theorem eq_one {ls : List ByteArray} (hb : IsBook ls) {l : Bs} {j : Nat} (hj : j < ls.length) (h : ls[j].data.toList = l) : setBy (eqAt ls l) ls.length = 2 ^ j := by
  rw [← setBy_one hj]
  refine setBy_congr fun i hi => ?_
  rw [eqAt_at hi]
  by_cases e : i = j
  · subst e; simp [h]
  · have : ¬ ls[i].data.toList = l := fun h2 => e (hb.once i j hi hj (by
      have h3 : ls[i].data.toList = ls[j].data.toList := by rw [h2, h]
      cases ha : ls[i]; cases hb : ls[j]
      rw [ha, hb] at h3
      simpa using h3))
    rw [decide_eq_false this]
    exact (beq_eq_false_iff_ne.2 e).symm
theorem eq_none {ls : List ByteArray} {l : Bs} (h : ∀ i (hi : i < ls.length), ls[i].data.toList ≠ l) : setBy (eqAt ls l) ls.length = 0 :=
  setBy_none fun i hi => by rw [eqAt_at hi, decide_eq_false (h i hi)]

theorem suffix_iff (l : Bs) : Lib.hasSuffix l [46, 42] = true ↔ 2 ≤ l.length ∧ l.drop (l.length - 2) = [46, 42] := by
  unfold Lib.hasSuffix
  rw [List.isSuffixOf_iff_suffix, List.suffix_iff_eq_drop]
  constructor
  · intro h
    have h2 := congrArg List.length h
    simp at h2
    exact ⟨by omega, h.symm⟩
  · intro h; exact h.2.symm
theorem trim_eq {l : Bs} (h : Lib.hasSuffix l [46, 42] = true) : Lib.trimSuffix l [46, 42] = l.take (l.length - 2) := by
  unfold Lib.trimSuffix; rw [if_pos h]; rfl

theorem int_of_lit {q : IntKind} {a b : Int} {d : DataW Unit} (h1 : d = .lit (.int q a)) (h2 : d = .lit (.int q b)) : a = b := by
  have h := h1.symm.trans h2
  injection h with h
  injection h

/-- A look-up whose answer is known. -/
theorem look_known {P : Program} {w : World} {ops : Array Oper} {rest : List Oper} {o : Oper} {a : Act} {Q : Exit → Act → World → Prop} (hg : o.guard = none) (m x : Operand) (t : TypeId) (hop : o.op = Op.lookup t m x true)
    (k e : TypeId) (K : Keyed P k) (ht : P.underlying t = some (.map k e)) (he : P.underlying e = some (.int .i64)) (hz : (zeroValue e).run P w = .ok (.int .i64 0) w) (b n : Nat) (D : DataW Unit)
    (hm : a.eval m = .map (some b)) (hown : w.ownsMap P k (plainElem P e) b n D) (key : Value) (kl : Lit) (hx : a.eval x = key) (hkey : keyOf P k key = some kl) (j : Int) (hj : D.atKey kl (.lit (.int .i64 0)) = .lit (.int .i64 j)) (hh : Maps.has D kl = true)
    (hK : wpList P ops Q rest (a.put o.dst (.tuple #[.int .i64 j, .bool true])) w) : wpList P ops Q (o :: rest) a w :=
  wpList_lookup_own_ok_int w hg m x t hop k e .i64 K ht he hz b n D hm hown key kl hx hkey fun c hat _ => by
    have e1 : c = j := int_of_lit hat hj
    rw [e1, hh]; exact hK

theorem retw {a : Nat} {b : Int} {p : Nat × Int} (h : p = (a, b)) : Ending.returned (.tuple #[.int .u64 (a : Int), .int .i64 b]) = .returned (.tuple #[.int .u64 (p.1 : Int), .int .i64 p.2]) := by
  subst h; rfl

end Sc
end Go.Proofs.YtocoonkachbjaaaGreatDoor

/- (*scope.Book).Parse: of any Book and any text. -/
namespace Go.Proofs.YtocoonkachbjaaaGreatDoor
open Go.RowKit Go.Maps Go.ChangeMaps Go.Proofs.NmPlain Go.Proofs.Ar
set_option linter.unusedVariables false
namespace Sc

theorem byte_index : ∀ L : Bs, (Lib.indexByte L 32 = -1 ∧ L.takeWhile nb = L) ∨ (∃ i : Nat, Lib.indexByte L 32 = i ∧ L.takeWhile nb = L.take i)
  | [] => .inl ⟨rfl, rfl⟩
  | c :: r => by
    by_cases h : c = 32
    · right; exact ⟨0, by simp [Lib.indexByte, h], by simp [nb, h]⟩
    · have hc : nb c = true := by simp [nb, h]
      rcases byte_index r with ⟨h1, h2⟩ | ⟨i, h1, h2⟩
      · left; exact ⟨by simp [Lib.indexByte, h, h1], by rw [List.takeWhile_cons, if_pos hc, h2]⟩
      · right
        refine ⟨i + 1, ?_, by rw [List.takeWhile_cons, if_pos hc, h2]; rfl⟩
        simp only [Lib.indexByte, h1]
        simp [h]
theorem cut_word (L : Bs) : (Lib.cut L [32]).1 = L.takeWhile nb := by
  unfold Lib.cut
  rw [Lib.index_one]
  rcases byte_index L with ⟨h1, h2⟩ | ⟨i, h1, h2⟩
  · rw [h1, h2]; rfl
  · rw [h1, if_pos (by omega), h2]; simp

/-- What Parse hands back. -/
def ParsePost (ls : List ByteArray) (l : Bs) (e : Ending) : Prop := e = .returned (.tuple #[.int .u64 ((parseL ls l).1 : Nat), errV (parseL ls l).2.1 (parseL ls l).2.2])
theorem ParsePost.mk {ls : List ByteArray} {l : Bs} {a : Nat} {no at_ : Int} {v : Value} (h : parseL ls l = (a, no, at_)) (hv : v = errV no at_) : ParsePost ls l (.returned (.tuple #[.int .u64 (a : Int), v])) := by
  unfold ParsePost; rw [h, hv]

end Sc
end Go.Proofs.YtocoonkachbjaaaGreatDoor

/- (*scope.Book).Print: of any Book and set. -/
namespace Go.Proofs.YtocoonkachbjaaaGreatDoor
open Go.RowKit Go.Maps Go.ChangeMaps Go.Proofs.NmPlain Go.Proofs.Ar
set_option linter.unusedVariables false
namespace Sc

/-- strings.Join with a blank, of a list of the call's own. -/
theorem join_own (v : Value) (xs : List ByteArray) (lo : Nat) (w : World) (h : w.ownsRow lo 9 1 v xs.length (xs.map Value.string)) (hn : xs.length ≤ 1048576) (hl : (Lib.join (xs.map (·.data.toList)) [32]).length ≤ 140737488355328) :
    Calls Tryz.prog 28 #[v, .string ⟨#[32]⟩] w fun e w' => e = .returned (.string ⟨(Lib.join (xs.map (·.data.toList)) [32]).toArray⟩) ∧ Below w.heap.size w w' := by
  rcases Nat.eq_zero_or_pos xs.length with h0 | h0
  · have e : xs = [] := List.eq_nil_of_length_eq_zero h0
    subst e
    obtain ⟨q, c, rfl⟩ := own_shape h
    refine (Tryz.strings_Join_none q c ⟨#[32]⟩ w).mono fun e w' ⟨h1, h2⟩ => ⟨?_, by rw [h2]; exact Below.refl _ _⟩
    rw [h1]; rfl
  · obtain ⟨g, c, rfl, h1, h2, h3, hg, hc⟩ := Ut.own_cells h h0
    refine Tryz.strings_Join g 0 c xs ⟨#[32]⟩ w (fun j x hj => ?_) hg (by omega) h1 hl
    obtain ⟨hj2, e⟩ := List.getElem?_eq_some_iff.1 hj
    rw [Nat.zero_add, hc j hj2]
    simp [hj2, e]

theorem join_len_le {xs : List Bs} (h : ∀ x ∈ xs, x.length ≤ 132) : (Lib.join xs [32]).length ≤ 133 * xs.length := by
  cases xs with
  | nil => simp [Lib.join_nil]
  | cons a r =>
    rw [Lib.join_cons, List.length_append, Lib.joinTail_length]
    have ha := h a (by simp)
    have hr : ∀ r : List Bs, (∀ x ∈ r, x.length ≤ 132) → Lib.lens r ≤ 132 * r.length := by
      intro r
      induction r with
      | nil => intro _; simp [Lib.lens]
      | cons b r ih =>
        intro h
        have h1 := h b (by simp)
        have h2 := ih fun x hx => h x (by simp [hx])
        simp only [Lib.lens, List.map_cons, List.sum_cons, List.length_cons] at h2 ⊢
        omega
    have h3 := hr r fun x hx => h x (by simp [hx])
    simp only [List.length_cons, List.length_nil] at h3 ⊢
    omega

/-- While a set's names are gathered. -/
def SRel (ls : List ByteArray) (s : Nat) (w : World) (l i : Value) (wr : World) : Prop :=
  ∃ k : Nat, k ≤ ls.length ∧ i = .int .i64 k ∧ wr.ownsRow w.heap.size 9 1 l (selTo ls s k).length ((selTo ls s k).map Value.string) ∧ Below w.heap.size w wr

theorem SRel.push {ls : List ByteArray} {s k : Nat} {w wr w1 : World} {l v' : Value} {o : Obj} (hk : k < ls.length) (hb : s.testBit k = true) (hbl : Below w.heap.size w wr)
    (hown : wr.ownsRow w.heap.size 9 1 l (selTo ls s k).length ((selTo ls s k).map Value.string))
    (hown' : w1.ownsRow w.heap.size 9 1 v' ((selTo ls s k).length + 1) ((selTo ls s k).map Value.string ++ [.string ls[k]])) (hgrow : (wr.alloc o).grownBy w1 l.ownBlock) : SRel ls s w v' (.int .i64 ((k : Int) + 1)) w1 := by
  refine ⟨k + 1, by omega, by go_num, ?_, Ut.below_app hbl hbl.size hown hgrow⟩
  rw [sel_yes hk hb]
  simpa using hown'

def PrintPost (ls : List ByteArray) (s : Nat) (e : Ending) : Prop := e = .returned (.tuple #[.string ⟨(printL ls s).1.toArray⟩, errVal (printL ls s).2])
theorem PrintPost.mk {ls : List ByteArray} {s : Nat} {a : ByteArray} {l : Bs} {no : Int} {v : Value} (h : printL ls s = (l, no)) (ha : a = ⟨l.toArray⟩) (hv : v = errVal no) : PrintPost ls s (.returned (.tuple #[.string a, v])) := by
  unfold PrintPost; rw [h, ha, hv]

set_option maxHeartbeats 4000000 in
theorem print_any (lo B : Nat) (ls : List ByteArray) (hbk : IsBook ls) (s : Nat) (hs : s < 18446744073709551616) (w : World) (hb : BookAt lo w B ls) :
    Calls Tryz.prog 25 #[.pointer (some ⟨B, 0, none⟩), .int .u64 (s : Int)] w fun e w' => PrintPost ls s e ∧ Below w.heap.size w w' := by
  have hA := all_any lo B ls hbk.len w hb
  have hal := allS_lt hbk.len
  have han := u64_andNot_nat s (allS ls) hs (by omega)
  have hz := andNot_zero hs hbk.len
  have hal2 : allS ls = 2 ^ ls.length - 1 := rfl
  rw [← hal2] at hz
  obtain ⟨A, hA2⟩ : ∃ A, A = allS ls := ⟨_, rfl⟩
  obtain ⟨X, hX⟩ : ∃ X, X = s &&& (18446744073709551615 - allS ls) := ⟨_, rfl⟩
  rw [← hX] at hz han
  rw [← hA2] at hA han
  have HA := Lib.hid hA; have HAN := Lib.hid han
  have hlen : (ls.length : Int) ≤ 64 := by have := hbk.len; omega
  clear hA han hal hal2 hA2 hX
  by_cases h : s < 2 ^ ls.length
  · have q1 : (bits .andNot .u64 (s : Int) (A : Int) != 0) = false := by rw [HAN.out, bne_eq_false_iff_eq]; have := hz.2 h; omega
    have HP : Hid (printL ls s = (jn ls s ls.length, 0)) := by show _ = _; unfold printL; rw [if_neg (by omega)]; rfl
    have HJ : Hid ((jn ls s ls.length).length ≤ 140737488355328) := by
      show _ ≤ _
      have h1 := join_len_le (xs := (selTo ls s ls.length).map (·.data.toList)) (fun x hx => by
        obtain ⟨y, hy, rfl⟩ := List.mem_map.1 hx
        obtain ⟨i, hi, _, rfl, _⟩ := sel_mem ls s ls.length y hy
        exact dotB_le (hbk.dots i hi))
      have h2 := sel_len ls s ls.length
      have h3 := hbk.len
      rw [List.length_map] at h1
      show (Lib.join _ _).length ≤ _
      omega
    have HB := Lib.hid hbk
    have HS := Lib.hid hs
    obtain ⟨q, c, bm, c0, c1, h1, hmp⟩ := hb.out
    obtain ⟨p, c', e, h1⟩ := h1
    cases e
    have H2 := Lib.hid h1
    obtain ⟨i0, hi, hz0, hz1, hz2⟩ := info_parts nm_info
    clear hz h hbk h1 hs c1 hmp hb
    go_enter Tryz.func25, Tryz.ntmps25
    go_wp2_with fail
    refine HA.out.mono ?_
    rintro e w1 ⟨rfl, rfl⟩
    go_wp2
    go_loopw [6, 20] (fun l i wr => SRel ls s w l i wr) (fun _ i _ => ls.length - (intOf i).toNat)
    case atStart => exact ⟨0, Nat.zero_le _, rfl, World.ownsRow_nil _ _ _ _, Below.refl _ _⟩
    case round =>
      obtain ⟨k, hk, rfl, hown, hbl⟩ := hrel
      have HO := Lib.hid hown; have HBL := Lib.hid hbl
      have hzw : w.heap.size ≤ wr.heap.size := hbl.size
      have hsl := sel_len ls s k
      clear hown hbl
      have b2 : (0 : Int) ≤ (k : Int) := by omega
      by_cases h : k < ls.length
      · have b3 : (k : Int) < (ls.length : Int) := by omega
        have b4 : (k : Int) ≤ 63 := by omega
        obtain ⟨g1, o1, rfl, hg1, k1⟩ := H2.out k h
        have k1' : wr.cell? ⟨g1, o1 + k, none⟩ = some (.string ls[k]) := (HBL.out.cell (p := ⟨g1, o1 + k, none⟩) hg1).trans k1
        have hq := bit_at HS.out k
        clear k1
        cases hbit : s.testBit k with
        | true =>
          rw [hbit] at hq
          have HBIT := Lib.hid hbit
          have am1 : (selTo ls s k).length + 1 ≤ maxLen := by unfold maxLen; omega
          have am2 : ((selTo ls s k).length + 1) * 16 ≤ 140737488355328 := by omega
          clear hbit
          go_wp2_with (at_builtin; refine wpList_append_own _ rfl _ _ 22 rfl w.heap.size 9 i0 (.string ByteArray.empty) 1 16 Tryz.underlying22 hi hz0 hz1 hz2 rfl (by decide) _ _ _ rfl (HO.out.alloc _) ⟨wr.heap.size, 0, none⟩ 1 1 [.string ls[k]] rfl rfl (cell_one_new _ _ _) (by intro u hu; simp at hu; subst hu; rfl) am1 am2 (by simp; exact Nat.le_succ_of_le hzw) ?_; intro v' w1 hown' hgrow _)
          have HU := Lib.hid (SRel.push h HBIT.out HBL.out HO.out hown' hgrow)
          clear hown' hgrow
          go_wp2
          go_roundw
          case rel => exact HU.out
          case measure => simp [intOf]; omega
        | false =>
          rw [hbit] at hq
          have HN := Lib.hid (sel_no (ls := ls) hbit)
          clear hbit
          go_wp2
          go_roundw
          case rel => exact ⟨k + 1, by omega, by go_num, by rw [HN.out]; exact HO.out, HBL.out⟩
          case measure => simp [intOf]; omega
      · obtain rfl : k = ls.length := by omega
        have HJN := Lib.hid (join_own _ (selTo ls s ls.length) _ _ HO.out (by omega) HJ.out)
        go_wp2_with fail
        refine HJN.out.mono ?_
        rintro e w2 ⟨rfl, hb2⟩
        go_wp2
        go_ret2
        exact ⟨PrintPost.mk HP.out rfl rfl, HBL.out.trans (hb2.mono HBL.out.size)⟩
  · have q1 : (bits .andNot .u64 (s : Int) (A : Int) != 0) = true := by rw [HAN.out, bne_iff_ne]; have := fun e => h (hz.1 e); omega
    have HP : Hid (printL ls s = ([], 11)) := by show _ = _; unfold printL; rw [if_pos (by omega)]
    clear hz h hbk hs hb
    go_enter Tryz.func25, Tryz.ntmps25
    go_wp2_with fail
    refine HA.out.mono ?_
    rintro e w1 ⟨rfl, rfl⟩
    go_wp2
    go_ret2
    exact ⟨PrintPost.mk HP.out rfl rfl, Below.refl _ _⟩

end Sc
end Go.Proofs.YtocoonkachbjaaaGreatDoor
