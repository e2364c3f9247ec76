/- (*scope.Book).word: of any Book and any word. -/
import Derived.Test.YtgneebidmhiagaaDoorScMeth
namespace Go.Proofs.YtgneebidmhiagaaDoor
open Go.RowKit Go.Maps Go.ChangeMaps Go.Proofs.NmPlain Go.Proofs.Ar
set_option linter.unusedVariables false
namespace Sc

theorem eq_one {ls : List ByteArray} (hb : IsBook ls) {l : Bs} {j : Nat} (hj : j < ls.length) (h : ls[j].data.toList = l) : setBy (eqAt ls l) ls.length = 2 ^ j := by
  rw [← setBy_one hj]
  refine setBy_congr fun i hi => ?_
  rw [eqAt_at hi]
  by_cases e : i = j
  · subst e; simp [h]
  · have : ¬ ls[i].data.toList = l := fun h2 => e (hb.once i j hi hj (by
      have h3 : ls[i].data.toList = ls[j].data.toList := by rw [h2, h]
      cases ha : ls[i]; cases hb : ls[j]
      rw [ha, hb] at h3
      simpa using h3))
    rw [decide_eq_false this]
    exact (beq_eq_false_iff_ne.2 e).symm
theorem eq_none {ls : List ByteArray} {l : Bs} (h : ∀ i (hi : i < ls.length), ls[i].data.toList ≠ l) : setBy (eqAt ls l) ls.length = 0 :=
  setBy_none fun i hi => by rw [eqAt_at hi, decide_eq_false (h i hi)]

theorem suffix_iff (l : Bs) : Lib.hasSuffix l [46, 42] = true ↔ 2 ≤ l.length ∧ l.drop (l.length - 2) = [46, 42] := by
  unfold Lib.hasSuffix
  rw [List.isSuffixOf_iff_suffix, List.suffix_iff_eq_drop]
  constructor
  · intro h
    have h2 := congrArg List.length h
    simp at h2
    exact ⟨by omega, h.symm⟩
  · intro h; exact h.2.symm
theorem trim_eq {l : Bs} (h : Lib.hasSuffix l [46, 42] = true) : Lib.trimSuffix l [46, 42] = l.take (l.length - 2) := by
  unfold Lib.trimSuffix; rw [if_pos h]; rfl

theorem int_of_lit {q : IntKind} {a b : Int} {d : DataW Unit} (h1 : d = .lit (.int q a)) (h2 : d = .lit (.int q b)) : a = b := by
  have h := h1.symm.trans h2
  injection h with h
  injection h

/-- A look-up whose answer is known. -/
theorem look_known {P : Program} {w : World} {ops : Array Oper} {rest : List Oper} {o : Oper} {a : Act} {Q : Exit → Act → World → Prop} (hg : o.guard = none) (m x : Operand) (t : TypeId) (hop : o.op = Op.lookup t m x true)
    (k e : TypeId) (K : Keyed P k) (ht : P.underlying t = some (.map k e)) (he : P.underlying e = some (.int .i64)) (hz : (zeroValue e).run P w = .ok (.int .i64 0) w) (b n : Nat) (D : DataW Unit)
    (hm : a.eval m = .map (some b)) (hown : w.ownsMap P k (plainElem P e) b n D) (key : Value) (kl : Lit) (hx : a.eval x = key) (hkey : keyOf P k key = some kl) (j : Int) (hj : D.atKey kl (.lit (.int .i64 0)) = .lit (.int .i64 j)) (hh : Maps.has D kl = true)
    (hK : wpList P ops Q rest (a.put o.dst (.tuple #[.int .i64 j, .bool true])) w) : wpList P ops Q (o :: rest) a w :=
  wpList_lookup_own_ok_int w hg m x t hop k e .i64 K ht he hz b n D hm hown key kl hx hkey fun c hat _ => by
    have e1 : c = j := int_of_lit hat hj
    rw [e1, hh]; exact hK

theorem retw {a : Nat} {b : Int} {p : Nat × Int} (h : p = (a, b)) : Ending.returned (.tuple #[.int .u64 (a : Int), .int .i64 b]) = .returned (.tuple #[.int .u64 (p.1 : Int), .int .i64 p.2]) := by
  subst h; rfl

set_option maxHeartbeats 4000000 in
theorem word_any (lo B : Nat) (ls : List ByteArray) (hbk : IsBook ls) (hz : ∀ s ∈ ls, s.size ≤ 16777216) (t : ByteArray) (ht : t.size ≤ 16777216) (w : World) (hm : MaxAt w) (hb : BookAt lo w B ls) :
    Calls Tryd.prog 41 #[.pointer (some ⟨B, 0, none⟩), .string t] w fun e w' => e = .returned (.tuple #[.int .u64 ((wordL ls t.data.toList).1 : Nat), .int .i64 (wordL ls t.data.toList).2]) ∧ Below w.heap.size w w' := by
  by_cases c0 : t.data.toList = [42]
  · have HW : Hid (wordL ls t.data.toList = (allS ls, 0)) := by show _ = _; unfold wordL; rw [if_pos c0]
    have e0 : t = ⟨#[42]⟩ := by cases t; simp only [ByteArray.mk.injEq]; exact Array.toList_inj.1 c0
    subst e0
    have HA := Lib.hid (all_any lo B ls hbk.len w hb)
    clear c0 hb hm hz hbk
    go_enter Tryd.func41, Tryd.ntmps41
    go_wp2_with fail
    refine HA.out.mono ?_
    rintro e w1 ⟨rfl, rfl⟩
    go_wp2
    go_ret2
    exact ⟨retw HW.out, Below.refl _ _⟩
  · have q0 : (t.toList == [42]) = false := by rw [beq_eq_false_iff_ne, Lib.toList_data]; exact c0
    have HD := Lib.hid (dotted_any t (by omega) w hm)
    have hlen := hbk.len
    cases hdt : dotB t.data.toList with
    | true =>
      have hw : wordL ls t.data.toList = fin (setBy (eqAt ls t.data.toList) ls.length) := by unfold wordL; rw [if_neg c0, if_pos hdt]
      have HKEY := Lib.hid (WideMaps.keyOf_string_mk (P := Tryd.prog) Tryd.underlying9 (s := t) (by unfold maxLen; omega))
      rw [hdt] at HD
      clear c0 hdt
      by_cases hmem : ∃ j, ∃ h : j < ls.length, ls[j] = t
      · obtain ⟨j, hj, ej⟩ := hmem
        have hyes := map_yes (ls := ls) ls.length j hj hj fun i hi _ e => hbk.once i j hi hj e
        rw [ej] at hyes
        have hf : fin (setBy (eqAt ls t.data.toList) ls.length) = (2 ^ j, 0) := by
          rw [eq_one hbk hj (by rw [ej])]
          have h0 : 0 < 2 ^ j := Nat.pow_pos (by omega)
          unfold fin; rw [if_neg (by omega)]
        have HW := Lib.hid (hw.trans hf)
        have HP := Lib.hid (wrap_pow (k := j) (by omega))
        have hhas : Maps.has (mapL ls ls.length) (.string t.data.toList) = true := hyes.1
        have HY := Lib.hid (hyes.2 (.lit (.int .i64 0)))
        have b1 : (0 : Int) ≤ (j : Int) := by omega
        have b2 : (j : Int) ≤ 63 := by omega
        clear hw hf hyes ej hbk hz
        go_enter Tryd.func41, Tryd.ntmps41
        go_wp2_with fail
        refine HD.out.mono ?_
        rintro e w1 ⟨rfl, hb1⟩
        obtain ⟨q, c, bm, c0, c1, -, hmp⟩ := (hb.below hb1).out
        have HMP := Lib.hid hmp
        clear hb c0 hmp
        go_wp2_with (first | (at_lookup; refine look_known rfl _ _ 67 rfl 9 3 kLaw Tryd.underlying67 Tryd.underlying3 (zeroI _) bm ls.length _ rfl HMP.out _ (.string t.data.toList) rfl HKEY.out (j : Int) HY.out hhas ?_))
        go_ret2
        exact ⟨by rw [HP.out]; exact retw HW.out, hb1⟩
      · have hno : ∀ i (hi : i < ls.length), ls[i] ≠ t := fun i hi e => hmem ⟨i, hi, e⟩
        have hhas : Maps.has (mapL ls ls.length) (.string t.data.toList) = false := map_no (x := t) ls.length fun i hi _ => hno i hi
        have hf : fin (setBy (eqAt ls t.data.toList) ls.length) = (0, 10) := by
          rw [eq_none (fun i hi e => hno i hi (by
            cases ha : ls[i]; cases hb : t
            rw [ha, hb] at e
            simpa using e))]
          rfl
        have HW := Lib.hid (hw.trans hf)
        clear hw hf hno hmem hbk hz
        go_enter Tryd.func41, Tryd.ntmps41
        go_wp2_with fail
        refine HD.out.mono ?_
        rintro e w1 ⟨rfl, hb1⟩
        obtain ⟨q, c, bm, c0, c1, -, hmp⟩ := (hb.below hb1).out
        have HMP := Lib.hid hmp
        clear hb c0 hmp
        go_wp2_with (first | (at_lookup; refine wpList_lookup_own_ok_int _ rfl _ _ 67 rfl 9 3 .i64 kLaw Tryd.underlying67 Tryd.underlying3 (zeroI _) bm ls.length _ rfl HMP.out _ (.string t.data.toList) rfl HKEY.out ?_; intro c2 hat hwc))
        go_ret2
        exact ⟨retw HW.out, hb1⟩
    | false =>
      rw [hdt] at HD
      have hcs := Tryd.strings_CutSuffix t ⟨#[46, 42]⟩
      simp only at hcs
      obtain ⟨u, hu⟩ : ∃ u : ByteArray, u = ⟨(Lib.trimSuffix t.data.toList [46, 42]).toArray⟩ := ⟨_, rfl⟩
      have hcs2 : ∀ w', Calls Tryd.prog 55 #[.string t, .string ⟨#[46, 42]⟩] w' fun e w'' => e = .returned (.tuple #[.string u, .bool (Lib.hasSuffix t.data.toList [46, 42])]) ∧ w'' = w' := fun w' => by
        rw [hu]; exact hcs w' (by omega)
      cases hsx : Lib.hasSuffix t.data.toList [46, 42] with
      | false =>
        have HW : Hid (wordL ls t.data.toList = (0, 4)) := by
          show _ = _; unfold wordL
          rw [if_neg c0, if_neg (by rw [hdt]; simp), if_neg (fun h => by
            have := (suffix_iff t.data.toList).2 ⟨h.1, h.2.1⟩
            rw [hsx] at this; cases this)]
        have HC := Lib.hid hcs2
        rw [hsx] at HC
        clear hcs hcs2 hsx hu c0 hdt hbk hz hb
        go_enter Tryd.func41, Tryd.ntmps41
        go_wp2_with fail
        refine HD.out.mono ?_
        rintro e w1 ⟨rfl, hb1⟩
        go_wp2_with fail
        refine (HC.out _).mono ?_
        rintro e w2 ⟨rfl, rfl⟩
        go_wp2
        go_ret2
        exact ⟨retw HW.out, hb1⟩
      | true =>
        obtain ⟨s1, s2⟩ := (suffix_iff t.data.toList).1 hsx
        have hul : u.data.toList = t.data.toList.take (t.data.toList.length - 2) := by rw [hu, ← trim_eq hsx]
        have hus : u.size ≤ 16777216 := by
          have e : u.size = u.data.toList.length := by simp
          have e2 : t.size = t.data.toList.length := by simp
          rw [e, hul, List.length_take]; omega
        have HC := Lib.hid hcs2
        rw [hsx] at HC
        have HDU := Lib.hid (fun w' (hb : Below w.heap.size w w') => dotted_any u (by omega) w' (hm.below hb))
        cases hdu : dotB u.data.toList with
        | false =>
          have HW : Hid (wordL ls t.data.toList = (0, 4)) := by
            show _ = _; unfold wordL
            rw [if_neg c0, if_neg (by rw [hdt]; simp), if_neg (fun h => by
              have := h.2.2
              rw [← hul, hdu] at this; cases this)]
          rw [hdu] at HDU
          clear hcs hcs2 hsx hu c0 hdt hbk hz hb hul hdu s1 s2
          go_enter Tryd.func41, Tryd.ntmps41
          go_wp2_with fail
          refine HD.out.mono ?_
          rintro e w1 ⟨rfl, hb1⟩
          go_wp2_with fail
          refine (HC.out _).mono ?_
          rintro e w2 ⟨rfl, rfl⟩
          go_wp2_with fail
          refine (HDU.out _ hb1).mono ?_
          rintro e w3 ⟨rfl, hb3⟩
          have hb4 : Below w.heap.size w w3 := hb1.trans (hb3.mono hb1.size)
          go_wp2
          go_ret2
          exact ⟨retw HW.out, hb4⟩
        | true =>
          have hw : wordL ls t.data.toList = fin (setBy (belAt ls u.data.toList) ls.length) := by
            unfold wordL
            rw [if_neg c0, if_neg (by rw [hdt]; simp), ← hul, if_pos ⟨s1, s2, hdu⟩]
          rw [hdu] at HDU
          have HB := Lib.hid (fun w' (hb' : Below w.heap.size w w') => below_any lo B ls hbk.len hz u hus w' (hm.below hb') (hb.below hb'))
          obtain ⟨S, hS⟩ : ∃ S, S = setBy (belAt ls u.data.toList) ls.length := ⟨_, rfl⟩
          rw [← hS] at hw HB
          rcases fin_cases S with ⟨hf, hs⟩ | ⟨hf, hs⟩
          · have HW := Lib.hid (hw.trans hf)
            have q2 : ((S : Int) == 0) = true := by rw [hs]; rfl
            clear hcs hcs2 hsx hu c0 hdt hbk hz hb hul hdu s1 s2 hw hS hf hs
            go_enter Tryd.func41, Tryd.ntmps41
            go_wp2_with fail
            refine HD.out.mono ?_
            rintro e w1 ⟨rfl, hb1⟩
            go_wp2_with fail
            refine (HC.out _).mono ?_
            rintro e w2 ⟨rfl, rfl⟩
            go_wp2_with fail
            refine (HDU.out _ hb1).mono ?_
            rintro e w3 ⟨rfl, hb3⟩
            have hb4 : Below w.heap.size w w3 := hb1.trans (hb3.mono hb1.size)
            go_wp2_with fail
            refine (HB.out _ hb4).mono ?_
            rintro e w5 ⟨rfl, hb5⟩
            have hb6 : Below w.heap.size w w5 := hb4.trans (hb5.mono hb4.size)
            go_wp2
            go_ret2
            exact ⟨retw HW.out, hb6⟩
          · have HW := Lib.hid (hw.trans hf)
            have q2 : ((S : Int) == 0) = false := by rw [beq_eq_false_iff_ne]; omega
            clear hcs hcs2 hsx hu c0 hdt hbk hz hb hul hdu s1 s2 hw hS hf hs
            go_enter Tryd.func41, Tryd.ntmps41
            go_wp2_with fail
            refine HD.out.mono ?_
            rintro e w1 ⟨rfl, hb1⟩
            go_wp2_with fail
            refine (HC.out _).mono ?_
            rintro e w2 ⟨rfl, rfl⟩
            go_wp2_with fail
            refine (HDU.out _ hb1).mono ?_
            rintro e w3 ⟨rfl, hb3⟩
            have hb4 : Below w.heap.size w w3 := hb1.trans (hb3.mono hb1.size)
            go_wp2_with fail
            refine (HB.out _ hb4).mono ?_
            rintro e w5 ⟨rfl, hb5⟩
            have hb6 : Below w.heap.size w w5 := hb4.trans (hb5.mono hb4.size)
            go_wp2
            go_ret2
            exact ⟨retw HW.out, hb6⟩

end Sc
end Go.Proofs.YtgneebidmhiagaaDoor
