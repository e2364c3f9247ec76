/- ConsoleWords: the law's walk, for lines of at most 2^20 bytes. -/
import Derived.Test.YtnkjalladhmffaaDoorCwRefWords
import Derived.Test.YtnkjalladhmffaaDoorErrF
import Derived.Test.YtnkjalladhmffaaDoorApartT
import Derived.Test.YtnkjalladhmffaaDoorTexts
import Derived.Test.YtnkjalladhmffaaDoorHandle
namespace Go.Proofs.YtnkjalladhmffaaDoor
open Go.RowKit Go.Proofs.CwPlain Go.Proofs.Ar
set_option linter.unusedVariables false
namespace Cw

def mk (l : Bs) : ByteArray := ⟨l.toArray⟩
theorem sv_mk (ws : List Bs) : ws.map sv = (ws.map mk).map Value.string := by rw [List.map_map]; rfl

/-- The words of a text, the error's number, the error. -/
def psOf (s : ByteArray) : List ByteArray := ((wordsOf s.data.toList).getD []).map mk
def noOf (s : ByteArray) : Int := if wordsOf s.data.toList = none then 6 else 0
def errOf (s : ByteArray) : Value := if wordsOf s.data.toList = none then .iface 41 (Cf.fv ⟨#[119, 111, 114, 100, 115]⟩ 6) else .nilIface

theorem cw_any (s : ByteArray) (hs : s.size ≤ 1048576) (w : World) :
    Calls Tryd.prog 5 #[.string s] w fun e w' => ∃ v, e = .returned (.tuple #[v, errOf s]) ∧ w'.ownsRow w.heap.size 9 1 v (psOf s).length ((psOf s).map Value.string) ∧ (psOf s).length ≤ 1048576 ∧ Below w.heap.size w w' := by
  refine (words_any s (by omega) w).mono fun e w' ⟨hp, hb⟩ => ?_
  unfold WPost at hp
  cases hw : wordsOf s.data.toList with
  | none =>
    rw [hw] at hp
    refine ⟨_, by unfold errOf; rw [if_pos hw]; exact hp, ?_, ?_, hb⟩
    · unfold psOf; rw [hw]; exact World.ownsRow_nil _ _ _ _
    · unfold psOf; rw [hw]; simp
  | some ws =>
    rw [hw] at hp
    obtain ⟨v, he, ho, hl⟩ := hp
    refine ⟨v, by unfold errOf; rw [if_neg (by rw [hw]; simp)]; exact he, ?_, ?_, hb⟩
    · unfold psOf; rw [hw, List.length_map, ← sv_mk]; exact ho
    · unfold psOf; rw [hw]; simp; omega

theorem rw_any (s : ByteArray) (hs : s.size ≤ 1048576) (w : World) :
    Calls Tryd.prog 4 #[.string s] w fun e w' => ∃ v, e = .returned (.tuple #[v, .int .i64 (noOf s)]) ∧ TextArg w' v (psOf s) ∧ Below w.heap.size w w' := by
  refine (rwords_any s (by omega) w).mono fun e w' ⟨hp, hb⟩ => ?_
  unfold RWPost at hp
  cases hw : wordsOf s.data.toList with
  | none =>
    rw [hw] at hp
    refine ⟨_, by unfold noOf; rw [if_pos hw]; exact hp, ?_, hb⟩
    unfold psOf; rw [hw]; exact ⟨none, 0, rfl, fun j hj => absurd hj (Nat.not_lt_zero _)⟩
  | some ws =>
    rw [hw] at hp
    obtain ⟨v, he, ho, hl⟩ := hp
    refine ⟨v, by unfold noOf; rw [if_neg (by rw [hw]; simp)]; exact he, ?_, hb⟩
    refine Tx.own_arg (base := w.heap.size) ?_
    unfold psOf; rw [hw]
    show w'.ownsRow _ _ _ _ (ws.map mk).length ((ws.map mk).map Value.string)
    rw [List.length_map, ← sv_mk]; exact ho

theorem plain_words (s : ByteArray) (w : World) (hg : erHandle w) :
    Calls Tryd.prog 6 #[errOf s, .int .i64 (noOf s)] w fun e w' => e = .returned (.bool true) ∧ Below w.heap.size w w' := by
  unfold errOf noOf
  by_cases h : wordsOf s.data.toList = none
  · rw [if_pos h, if_pos h]; exact Cf.plain_fault _ 6 6 (by omega) (by omega) w hg
  · rw [if_neg h, if_neg h]; exact plain_nil 0 w

/-- Three lists, one behind the other made, are a family. -/
theorem fam_three {B C D : Nat} {w : World} {e : TypeId} {a b c : Value} {xs ys zs : List Value} (h1 : w.ownsRow B e 1 a xs.length xs) (h2 : w.ownsRow C e 1 b ys.length ys) (h3 : w.ownsRow D e 1 c zs.length zs) (hC : B ≤ C) (hD : C ≤ D)
    (ha : ∀ g, a.ownBlock = some g → g < C) (hb : ∀ g, b.ownBlock = some g → g < D) : Fam B w e [a, b, c] (fun k => if k = 0 then xs else if k = 1 then ys else zs) := by
  refine ⟨fun k hk => ?_, fun i j hi hj hij g hg => ?_⟩
  · match k, hk with
    | 0, _ => exact h1
    | 1, _ => exact Ut.own_base h2 hC
    | 2, _ => exact Ut.own_base h3 (Nat.le_trans hC hD)
  · match i, j, hi, hj with
    | 0, 0, _, _ => exact absurd rfl hij
    | 1, 1, _, _ => exact absurd rfl hij
    | 2, 2, _, _ => exact absurd rfl hij
    | 0, 1, _, _ => intro e2; have := ha g hg; have := (h2.lt g e2).1; omega
    | 1, 0, _, _ => intro e2; have := ha g e2; have := (h2.lt g hg).1; omega
    | 0, 2, _, _ => intro e2; have := ha g hg; have := (h3.lt g e2).1; omega
    | 2, 0, _, _ => intro e2; have := ha g e2; have := (h3.lt g hg).1; omega
    | 1, 2, _, _ => intro e2; have := hb g hg; have := (h3.lt g e2).1; omega
    | 2, 1, _, _ => intro e2; have := hb g e2; have := (h3.lt g hg).1; omega

theorem own_shape {w : World} {base e n : Nat} {v : Value} {xs : List Value} (h : w.ownsRow base e 1 v n xs) : ∃ q r, v = .slice q n r := by
  rcases h.2 with ⟨h1, h2⟩ | ⟨g, cap, cur, h1, _⟩
  · exact ⟨none, 0, by rw [h1, h2]⟩
  · exact ⟨_, cap, h1⟩

set_option maxRecDepth 100000 in
set_option maxHeartbeats 2000000 in
theorem consoleWords_core (s t : ByteArray) (hs : s.size ≤ 1048576) (ht : t.size ≤ 1048576) (w : World) (hg : erHandle w) :
    Calls Tryd.prog 3 #[.string s, .string t] w fun e w' => e = .returned (.bool true) ∧ Below w.heap.size w w' := by
  have HG : Hid (∀ w', Below w.heap.size w w' → erHandle w') := fun w' hb => hg.below hg.lt hb
  have HR1 := Lib.hid (fun w' => rw_any s hs w'); have HR2 := Lib.hid (fun w' => rw_any t ht w')
  have HA1 := Lib.hid (fun w' => cw_any s hs w'); have HA2 := Lib.hid (fun w' => cw_any t ht w')
  have HP1 := Lib.hid (fun w' hg => plain_words s w' hg); have HP2 := Lib.hid (fun w' hg => plain_words t w' hg)
  obtain ⟨ps, hps⟩ : ∃ ps, ps = psOf s := ⟨_, rfl⟩
  obtain ⟨qs, hqs⟩ : ∃ qs, qs = psOf t := ⟨_, rfl⟩
  obtain ⟨e1, he1⟩ : ∃ x, x = errOf s := ⟨_, rfl⟩
  obtain ⟨e2, he2⟩ : ∃ x, x = errOf t := ⟨_, rfl⟩
  obtain ⟨n1, hn1⟩ : ∃ x, x = noOf s := ⟨_, rfl⟩
  obtain ⟨n2, hn2⟩ : ∃ x, x = noOf t := ⟨_, rfl⟩
  rw [← hps, ← hn1] at HR1; rw [← hqs, ← hn2] at HR2
  rw [← hps, ← he1] at HA1; rw [← hqs, ← he2] at HA2
  rw [← he1, ← hn1] at HP1; rw [← he2, ← hn2] at HP2
  clear hps hqs he1 he2 hn1 hn2 hg hs ht
  go_enter Tryd.func3, Tryd.ntmps3
  go_wp2_with fail
  refine (HR1.out _).mono ?_
  rintro e w1 ⟨v1, rfl, t1, b1⟩
  go_wp2_with fail
  refine (HR2.out _).mono ?_
  rintro e w2 ⟨v2, rfl, t2, d2⟩
  have b2 := b1.trans (d2.mono b1.size)
  have T1 := Lib.hid (t1.below d2); have T2 := Lib.hid t2; have B2 := Lib.hid b2
  clear t1 t2 b1 d2 b2
  go_wp2_with fail
  refine (HA1.out _).mono ?_
  rintro e w3 ⟨v3, rfl, o3, l3, d3⟩
  obtain ⟨q3, r3, rfl⟩ := own_shape o3
  have B3 := Lib.hid (B2.out.trans (d3.mono B2.out.size))
  have O3 := Lib.hid o3; have D3 := Lib.hid d3
  clear o3 d3
  go_wp2_with fail
  refine (HA2.out _).mono ?_
  rintro e w4 ⟨v4, rfl, o4, l4, d4⟩
  obtain ⟨q4, r4, rfl⟩ := own_shape o4
  have B4 := Lib.hid (B3.out.trans (d4.mono B3.out.size))
  have O4 := Lib.hid o4; have D4 := Lib.hid d4
  clear o4 d4
  go_wp2_with fail
  refine (HA1.out _).mono ?_
  rintro e w5 ⟨v5, rfl, o5, l5, d5⟩
  obtain ⟨q5, r5, rfl⟩ := own_shape o5
  have B5 := Lib.hid (B4.out.trans (d5.mono B4.out.size))
  have O5 := Lib.hid o5; have D5 := Lib.hid d5
  clear o5 d5
  have D35 := Lib.hid (D4.out.trans (D5.out.mono D4.out.size))
  have O3' := Lib.hid (Ut.own_below O3.out D35.out)
  have O4' := Lib.hid (Ut.own_below O4.out D5.out)
  have T1' := Lib.hid ((T1.out.below D3.out).below D35.out)
  have T2' := Lib.hid ((T2.out.below D3.out).below D35.out)
  have SAME : Hid (∀ (u x : Value) (ls : List ByteArray), ls.length ≤ 1048576 → TextArg w5 u ls → TextArg w5 x ls → ∀ w', Below w5.heap.size w5 w' → Calls Tryd.prog 7 #[u, x] w' fun e w2 => e = .returned (.bool true) ∧ Below w'.heap.size w' w2) := fun u x ls hl hu hx w' hb => by
    have := Tx.same_any u x ls ls (by omega) (by omega) w' (hu.below hb) (hx.below hb)
    rw [decide_eq_true rfl] at this
    exact this
  have S1 := Lib.hid (SAME.out (.slice q3 ps.length r3) v1 ps l3 (Tx.own_arg O3'.out) T1'.out)
  have S2 := Lib.hid (SAME.out (.slice q4 qs.length r4) v2 qs l4 (Tx.own_arg O4'.out) T2'.out)
  have S3 := Lib.hid (SAME.out (.slice q5 ps.length r5) v1 ps l3 (Tx.own_arg O5.out) T1'.out)
  have AP : Hid (∀ w', Below w5.heap.size w5 w' → Calls Tryd.prog 8 #[.slice (some ⟨w'.heap.size, 0, none⟩) 3 3] (w'.alloc (.cells #[.slice q3 ps.length r3, .slice q4 qs.length r4, .slice q5 ps.length r5] 22)) fun e w2 => e = .returned (.bool true) ∧ Below w.heap.size w w2) := fun w' hb => by
    have hb2 : Below w5.heap.size w5 (w'.alloc (.cells #[.slice q3 ps.length r3, .slice q4 qs.length r4, .slice q5 ps.length r5] 22)) := hb.alloc hb.size _
    have hc : Below w.heap.size w (w'.alloc (.cells #[.slice q3 ps.length r3, .slice q4 qs.length r4, .slice q5 ps.length r5] 22)) := B5.out.trans (hb2.mono B5.out.size)
    have hF := (fam_three (xs := ps.map Value.string) (ys := qs.map Value.string) (zs := ps.map Value.string) (by simpa using O3'.out) (by simpa using O4'.out) (by simpa using O5.out) D3.out.size D4.out.size (fun g hg => (O3.out.lt g hg).2) (fun g hg => (O4.out.lt g hg).2)).below hb2
    have := apartTexts_any w2.heap.size w'.heap.size _ [.slice q3 ps.length r3, .slice q4 qs.length r4, .slice q5 ps.length r5] _ hF (Ut.alloc_at _ _) (by have h1 := hb.size; have h2 := D35.out.size; have h3 := D3.out.size; simp; omega) (by simp) (by simp) (fun k => by
      show ((if k = 0 then ps.map Value.string else if k = 1 then qs.map Value.string else ps.map Value.string).length : Int) ≤ _
      split
      · rw [List.length_map]; omega
      · split <;> (rw [List.length_map]; omega))
    exact this.mono fun e w2 ⟨h1, h2⟩ => ⟨h1, hc.trans (h2.mono B2.out.size)⟩
  clear l3 l4 l5
  go_wp2_with fail
  refine (HP1.out _ (HG.out _ B5.out)).mono ?_
  rintro e w6 ⟨rfl, d6⟩
  have G6 := Lib.hid d6
  clear d6
  go_wp2_with fail
  refine (HP2.out _ (HG.out _ (B5.out.trans (G6.out.mono B5.out.size)))).mono ?_
  rintro e w7 ⟨rfl, d7⟩
  have G7 := Lib.hid (G6.out.trans (d7.mono G6.out.size))
  clear d7
  go_wp2_with fail
  refine (HP1.out _ (HG.out _ (B5.out.trans (G7.out.mono B5.out.size)))).mono ?_
  rintro e w8 ⟨rfl, d8⟩
  have G8 := Lib.hid (G7.out.trans (d8.mono G7.out.size))
  clear d8
  go_wp2_with fail
  refine (S1.out _ G8.out).mono ?_
  rintro e w9 ⟨rfl, d9⟩
  have G9 := Lib.hid (G8.out.trans (d9.mono G8.out.size))
  clear d9
  go_wp2_with fail
  refine (S2.out _ G9.out).mono ?_
  rintro e w10 ⟨rfl, d10⟩
  have G10 := Lib.hid (G9.out.trans (d10.mono G9.out.size))
  clear d10
  go_wp2_with fail
  refine (S3.out _ G10.out).mono ?_
  rintro e w11 ⟨rfl, d11⟩
  have G11 := Lib.hid (G10.out.trans (d11.mono G10.out.size))
  clear d11
  go_wp2_with fail
  refine (AP.out _ G11.out).mono ?_
  rintro e w12 ⟨rfl, d12⟩
  go_wp2
  go_ret
  exact ⟨rfl, d12⟩

end Cw

theorem consoleWords_walk (s : ByteArray) (ws : s.size ≤ maxLen) (t : ByteArray) (wt : t.size ≤ maxLen) (w : World) (hL : laidMetH Tryd.prog Rows.consoleWordsRow.laid w) (hs : s.size ≤ 1048576) (ht : t.size ≤ 1048576) :
    Calls Tryd.prog 3 #[.string s, .string t] w fun e w' => e = .returned (.bool true) ∧ Below w.heap.size w w' :=
  Cw.consoleWords_core s t hs ht w (handle_of_laid hL (by kernel_rfl))

end Go.Proofs.YtnkjalladhmffaaDoor
