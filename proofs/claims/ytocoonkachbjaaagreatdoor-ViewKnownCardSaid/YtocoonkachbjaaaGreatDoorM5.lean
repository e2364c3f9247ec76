/- Several texts in one: what each proves its own first comment says. -/
import Derived.Test.YtocoonkachbjaaaGreatDoorM3
import Derived.Test.YtocoonkachbjaaaGreatDoorM4
import Derived.Test.YtocoonkachbjaaaGreatDoorM2
import Derived.Maps.OwnSet
import Derived.Maps.OwnOps
import Derived.Test.YtocoonkachbjaaaGreatDoorM1
import Derived.OneCell
import Derived.Laws.Cells
import Derived.Deep.RegionWith
import Derived.Deep.RegionHeld3
import Derived.StringKeys

/- A session's line: what the document says of it. No program's code is walked here. -/
namespace Go.Proofs.YtocoonkachbjaaaGreatDoor
open Go.RowKit Go.Proofs.NmPlain Go.Proofs.YtocoonkachbjaaaGreatDoor.Sc
set_option linter.unusedVariables false

theorem vdpart_len (n c : Int) (h0 : 0 ≤ n) (h1 : n ≤ 1099511627777) : (dpart n c).length ≤ 22 := by
  unfold dpart
  split
  · have := Lib.itoa_length_le n (by omega) (by omega)
    simp; omega
  · simp
theorem vaccAt_len (t : Int) (h0 : 0 ≤ t) (h1 : t ≤ 1099511627776) : ∀ k, (accAt t k).length ≤ 22 * k
  | 0 => by simp [accAt]
  | k + 1 => by
    have ih := vaccAt_len t h0 h1 k
    obtain ⟨r1, r2⟩ := remAt_bd t h0 h1 k
    obtain ⟨c1, c2⟩ := worth_pos k
    have d1 : 0 ≤ remAt t k / worthOf k := Int.ediv_nonneg r1 (by omega)
    have d2 : remAt t k / worthOf k ≤ remAt t k := Int.ediv_le_self _ r1
    have := vdpart_len (remAt t k / worthOf k) (letterOf k) d1 (by omega)
    simp only [accAt, List.length_append]; omega
theorem vprt_len (t : Int) (h0 : 0 ≤ t) (h1 : t ≤ 1099511627776) : (prt t).length ≤ 88 := by
  unfold prt
  split
  · simp
  · exact vaccAt_len t h0 h1 4
theorem vjn_len {ls : List ByteArray} (hb : IsBook ls) (s : Nat) : ∀ k, k ≤ ls.length → (jn ls s k).length ≤ 133 * k
  | 0, _ => by simp [jn, selTo, Lib.join]
  | k + 1, hk => by
    have ih := vjn_len hb s k (by omega)
    have hd : ls[k].data.toList.length ≤ 132 := by
      rcases Nat.lt_or_ge 132 ls[k].data.toList.length with h | h
      · have := dotB_len h
        rw [hb.dots k (by omega)] at this; cases this
      · exact h
    cases h : s.testBit k with
    | false => rw [jn_no h]; omega
    | true =>
      by_cases he : jn ls s k = []
      · rw [jn_first hb (by omega) h he]; omega
      · rw [jn_more (by omega) h he]; simp only [List.length_append, List.length_cons, List.length_nil]; omega

namespace Vw
def whoL (s : Sess) : Bs := s.user.data.toList ++ if s.label.data.toList = [] then [] else 47 :: s.label.data.toList
def textL (ls : List ByteArray) (s : Sess) (now : Int) : Bs :=
  Lib.join [Lib.itoa s.birth, whoL s, kindL s.kind, levL s.level, 91 :: (printL ls s.scopes).1 ++ [93], prt (lft now s.dl)] [32]
/-- The line, or the number of what is wrong first. -/
def lineL (ls : List ByteArray) (s : Sess) (now : Int) : Bs × Int :=
  if s.birth < 1 ∨ 1048576 < s.birth then ([], 1)
  else if nameB s.user.data.toList = false ∨ (s.label.data.toList ≠ [] ∧ nameB s.label.data.toList = false) then ([], 8)
  else if s.kind < 0 ∨ 2 < s.kind then ([], 1)
  else if s.level < 0 ∨ 2 < s.level then ([], 13)
  else if 2 ^ ls.length ≤ s.scopes then ([], 11)
  else if now < 0 ∨ 1099511627776 < now ∨ s.dl < 0 ∨ 1099511627776 < s.dl then ([], 12)
  else (textL ls s now, 0)
theorem kind_no {k : Int} (h : k < 0 ∨ 2 < k) : kindL k = [] := by unfold kindL; rw [if_neg (by omega), if_neg (by omega), if_neg (by omega)]
theorem kind_yes {k : Int} (h0 : 0 ≤ k) (h1 : k ≤ 2) : kindL k ≠ [] := by
  have h : k = 0 ∨ k = 1 ∨ k = 2 := by omega
  rcases h with rfl | rfl | rfl <;> simp [kindL]
theorem scopes_err {ls : List ByteArray} {s : Nat} (h : 2 ^ ls.length ≤ s) : printL ls s = ([], 11) := by unfold printL; rw [if_pos h]
theorem scopes_ok {ls : List ByteArray} {s : Nat} (h : ¬ 2 ^ ls.length ≤ s) : printL ls s = (jn ls s ls.length, 0) := by unfold printL; rw [if_neg h]; rfl
theorem lft_bd {now d : Int} (h0 : 0 ≤ now) (h1 : d ≤ 1099511627776) : 0 ≤ lft now d ∧ lft now d ≤ 1099511627776 := by unfold lft; split <;> (try split) <;> omega
theorem tm_of {t : Int} (h0 : 0 ≤ t) (h1 : t ≤ 1099511627776) : tm t = true := by unfold tm; simp; omega

section
variable {ls : List ByteArray} {s : Sess} {now : Int}
theorem line_a (h : s.birth < 1 ∨ 1048576 < s.birth) : lineL ls s now = ([], 1) := if_pos h
variable (ha : ¬ (s.birth < 1 ∨ 1048576 < s.birth))
include ha
theorem line_b (h : nameB s.user.data.toList = false ∨ (s.label.data.toList ≠ [] ∧ nameB s.label.data.toList = false)) : lineL ls s now = ([], 8) := by unfold lineL; rw [if_neg ha, if_pos h]
variable (hb : ¬ (nameB s.user.data.toList = false ∨ (s.label.data.toList ≠ [] ∧ nameB s.label.data.toList = false)))
include hb
theorem line_c (h : s.kind < 0 ∨ 2 < s.kind) : lineL ls s now = ([], 1) := by unfold lineL; rw [if_neg ha, if_neg hb, if_pos h]
variable (hc : ¬ (s.kind < 0 ∨ 2 < s.kind))
include hc
theorem line_d (h : s.level < 0 ∨ 2 < s.level) : lineL ls s now = ([], 13) := by unfold lineL; rw [if_neg ha, if_neg hb, if_neg hc, if_pos h]
variable (hd : ¬ (s.level < 0 ∨ 2 < s.level))
include hd
theorem line_e (h : 2 ^ ls.length ≤ s.scopes) : lineL ls s now = ([], 11) := by unfold lineL; rw [if_neg ha, if_neg hb, if_neg hc, if_neg hd, if_pos h]
variable (he : ¬ 2 ^ ls.length ≤ s.scopes)
include he
theorem line_f (h : now < 0 ∨ 1099511627776 < now ∨ s.dl < 0 ∨ 1099511627776 < s.dl) : lineL ls s now = ([], 12) := by unfold lineL; rw [if_neg ha, if_neg hb, if_neg hc, if_neg hd, if_neg he, if_pos h]
theorem line_g (hf : ¬ (now < 0 ∨ 1099511627776 < now ∨ s.dl < 0 ∨ 1099511627776 < s.dl)) : lineL ls s now = (textL ls s now, 0) := by unfold lineL; rw [if_neg ha, if_neg hb, if_neg hc, if_neg hd, if_neg he, if_neg hf]
end

def LinePost (ls : List ByteArray) (s : Sess) (now : Int) (e : Ending) : Prop := e = .returned (.tuple #[.string ⟨(lineL ls s now).1.toArray⟩, errVal (lineL ls s now).2])
theorem LinePost.mk {ls : List ByteArray} {s : Sess} {now : Int} {a : ByteArray} {l : Bs} {no : Int} {v : Value} (h : lineL ls s now = (l, no)) (ha : a.data.toList = l) (hv : v = errVal no) : LinePost ls s now (.returned (.tuple #[.string a, v])) := by
  unfold LinePost; rw [h, hv]; subst ha; rfl
def RLinePost (ls : List ByteArray) (s : Sess) (now : Int) (e : Ending) : Prop := e = .returned (.tuple #[.string ⟨(lineL ls s now).1.toArray⟩, .int .i64 (lineL ls s now).2])
theorem RLinePost.mk {ls : List ByteArray} {s : Sess} {now : Int} {a : ByteArray} {l : Bs} {no : Int} {v : Int} (h : lineL ls s now = (l, no)) (ha : a.data.toList = l) (hv : v = no) : RLinePost ls s now (.returned (.tuple #[.string a, .int .i64 v])) := by
  unfold RLinePost; rw [h, hv]; subst ha; rfl

end Vw
end Go.Proofs.YtocoonkachbjaaaGreatDoor

/- A Book where it lies: its names, its map. The map's reading, slices.Clone. -/
namespace Go.Proofs.YtocoonkachbjaaaGreatDoor
open Go.RowKit Go.Maps Go.ChangeMaps Go.Proofs.NmPlain Go.Proofs.Ar
set_option linter.unusedVariables false
namespace Sc

theorem kLaw : Keyed Tryz.prog 9 := string_keyed Tryz.underlying9
theorem zeroI (w : World) : (zeroValue 3).run Tryz.prog w = .ok (.int .i64 0) w := by kernel_rfl

def keyL (x : ByteArray) : Lit := .string x.data.toList
/-- The map of the first k names: each with its place. -/
def mapL (ls : List ByteArray) : Nat → DataW Unit
  | 0 => .map []
  | k + 1 => match ls[k]? with
    | some x => (mapL ls k).put (keyL x) (.lit (.int .i64 k))
    | none => mapL ls k
theorem mapL_next {ls : List ByteArray} {k : Nat} (h : k < ls.length) : mapL ls (k + 1) = (mapL ls k).put (keyL ls[k]) (.lit (.int .i64 k)) := by
  rw [mapL, List.getElem?_eq_getElem h]
theorem mapL_map (ls : List ByteArray) : ∀ k, IsMap (mapL ls k)
  | 0 => isMap_empty
  | k + 1 => by
    rw [mapL]
    split
    · exact (mapL_map ls k).put _ _
    · exact mapL_map ls k
theorem keyL_ne {x y : ByteArray} (h : x ≠ y) : keyL x ≠ keyL y := by
  intro e; apply h
  cases x; cases y
  simpa [keyL] using e
theorem key_is (x : ByteArray) : WideAt.IsKeyLit (keyL x) := by
  simp [WideAt.IsKeyLit, keyL]
theorem map_no {ls : List ByteArray} {x : ByteArray} : ∀ k, (∀ i (h : i < ls.length), i < k → ls[i] ≠ x) → Maps.has (mapL ls k) (keyL x) = false
  | 0, _ => rfl
  | k + 1, h => by
    by_cases hk : k < ls.length
    · rw [mapL_next hk, has_put_other (keyL_ne (fun e => h k hk (by omega) e.symm))]
      exact map_no k fun i hi hik => h i hi (by omega)
    · rw [mapL, List.getElem?_eq_none (by omega)]
      exact map_no k fun i hi hik => h i hi (by omega)
theorem map_yes {ls : List ByteArray} : ∀ k j (hj : j < ls.length), j < k → (∀ i (h : i < ls.length), i < k → ls[i] = ls[j] → i = j) → Maps.has (mapL ls k) (keyL ls[j]) = true ∧ ∀ z, (mapL ls k).atKey (keyL ls[j]) z = .lit (.int .i64 j)
  | 0, j, hj, h0, _ => by omega
  | k + 1, j, hj, hjk, h => by
    by_cases hk : k < ls.length
    · rw [mapL_next hk]
      by_cases e : k = j
      · subst e
        exact ⟨has_put_same (mapL_map ls k) (key_is _) _, fun z => atKey_put_same (mapL_map ls k) (key_is _) _ z⟩
      · have hne : ls[j] ≠ ls[k] := fun e2 => e (h k hk (by omega) e2.symm)
        have ih := map_yes k j hj (by omega) fun i hi hik => h i hi (by omega)
        rw [has_put_other (keyL_ne hne)]
        exact ⟨ih.1, fun z => by rw [atKey_put_other (keyL_ne hne)]; exact ih.2 z⟩
    · rw [mapL, List.getElem?_eq_none (by omega)]
      exact map_yes k j hj (by omega) fun i hi hik => h i hi (by omega)

/-- A Book of these names. -/
def BookAt (lo : Nat) (w : World) (B : Nat) (ls : List ByteArray) : Prop :=
  ∃ v bm, w.heap[B]? = some (.cells #[v, .map (some bm)] 59 (0, 0)) ∧ lo ≤ B ∧ lo ≤ bm ∧ w.ownsRow lo 9 1 v ls.length (ls.map Value.string) ∧ w.ownsMap Tryz.prog 9 (plainElem Tryz.prog 3) bm ls.length (mapL ls ls.length)

theorem own_kept {w w' : World} {lo e size n : Nat} {v : Value} {xs : List Value} (h : w.ownsRow lo e size v n xs) (hk : ∀ i, lo ≤ i → i < w.heap.size → w'.heap[i]? = w.heap[i]?) : w'.ownsRow lo e size v n xs := by
  refine ⟨h.1, ?_⟩
  rcases h.2 with h2 | ⟨g, cap, cur, h1, h2, h3, h4⟩
  · exact .inl h2
  · refine .inr ⟨g, cap, cur, h1, h2, ?_, h4⟩
    rw [hk g h2 (Array.getElem?_eq_some_iff.1 h3).1]; exact h3
theorem BookAt.kept {lo : Nat} {w w' : World} {B : Nat} {ls : List ByteArray} (h : BookAt lo w B ls) (hk : ∀ i, lo ≤ i → i < w.heap.size → w'.heap[i]? = w.heap[i]?) : BookAt lo w' B ls := by
  obtain ⟨v, bm, h1, h2, h3, h4, es, clock, h5, h6⟩ := h
  exact ⟨v, bm, (hk B h2 (Array.getElem?_eq_some_iff.1 h1).1).trans h1, h2, h3, own_kept h4 hk, es, clock, (hk bm h3 (Array.getElem?_eq_some_iff.1 h5).1).trans h5, h6⟩
theorem BookAt.below {lo : Nat} {w w' : World} {B : Nat} {ls : List ByteArray} (h : BookAt lo w B ls) (hb : Below w.heap.size w w') : BookAt lo w' B ls :=
  h.kept fun i _ hi => hb.block i hi
theorem BookAt.lt {lo : Nat} {w : World} {B : Nat} {ls : List ByteArray} (h : BookAt lo w B ls) : B < w.heap.size := by
  obtain ⟨v, bm, h1, _⟩ := h
  exact (Array.getElem?_eq_some_iff.1 h1).1

theorem own_shape {w : World} {base e n : Nat} {v : Value} {xs : List Value} (h : w.ownsRow base e 1 v n xs) : ∃ q r, v = .slice q n r := by
  rcases h.2 with ⟨h1, h2⟩ | ⟨g, cap, cur, h1, _⟩
  · exact ⟨none, 0, by rw [h1, h2]⟩
  · exact ⟨_, cap, h1⟩

/-- .. its value written out. -/
def Cloned (ls : List ByteArray) (w : World) (e : Ending) (w' : World) : Prop :=
  ∃ q c, e = .returned (.slice q ls.length c) ∧ w'.ownsRow w.heap.size 9 1 (.slice q ls.length c) ls.length (ls.map Value.string) ∧ Below w.heap.size w w'

/-- slices.Clone of a list of texts, wherever it lies. -/
theorem clone_any (v : Value) (ls : List ByteArray) (hl : ls.length ≤ 1048576) (w : World) (h : TextArg w v ls) :
    Calls Tryz.prog 20 #[v] w fun e w' => ∃ v', e = .returned v' ∧ w'.ownsRow w.heap.size 9 1 v' ls.length (ls.map Value.string) ∧ Below w.heap.size w w' := by
  obtain ⟨p, c, rfl, h⟩ := h
  cases ls with
  | nil =>
    cases p with
    | none =>
      refine (Tryz.slices_Clone_string_nil 0 c w).mono fun e w' h => ⟨_, h.1, World.ownsRow_nil _ _ _ _, by rw [h.2]; exact Below.refl _ _⟩
    | some a =>
      exact (Tryz.slices_Clone_string_zero a c w).mono fun e w' ⟨v', h1, h2, _, h4⟩ => ⟨v', h1, h2, h4⟩
  | cons x r =>
    obtain ⟨g, o, rfl, hg, _⟩ := h 0 (by simp)
    refine (Tryz.slices_Clone_string g o (x :: r).length c (x :: r) w (Nat.le_refl _) (by omega) (fun j hj => ?_)).mono fun e w' ⟨v', h1, h2, _, h4⟩ => ⟨v', h1, ?_, h4⟩
    · obtain ⟨g2, o2, e2, _, hc⟩ := h j hj
      cases e2
      rw [hc, List.getD_eq_getElem?_getD, List.getElem?_eq_getElem hj]; rfl
    · rw [List.take_length] at h2; exact h2

theorem clone_out (v : Value) (ls : List ByteArray) (hl : ls.length ≤ 1048576) (w : World) (h : TextArg w v ls) : Calls Tryz.prog 20 #[v] w (Cloned ls w) :=
  (clone_any v ls hl w h).mono fun e w' ⟨v', h1, h2, h3⟩ => by
    obtain ⟨q, r, rfl⟩ := own_shape h2
    exact ⟨q, r, h1, h2, h3⟩

end Sc
end Go.Proofs.YtocoonkachbjaaaGreatDoor

/- lineagekit.Num, Place and At of a Fault of package api. -/
namespace Go.Proofs.YtocoonkachbjaaaGreatDoor
open Go.RowKit Go.Extern.Stop Go.Stop Go.Extern
set_option linter.unusedVariables false
namespace Fl

/-- A Fault of package api: its number n, its place a. -/
def fv (a : Int) (n : Int) : Value := .agg #[.int .i64 n, .int .i64 a]

theorem f_noIs (v : Value) (xT : TypeId) (w : World) : (Instr.typeAssert (.iface 62 v) xT 190 true).run Tryz.prog w = .ok (.tuple #[.nilIface, .bool false]) w := run_typeAssert_lacksB Tryz.underlying190 (by kernel_rfl) (by kernel_rfl) v xT w
theorem f_unwrap (v : Value) (xT : TypeId) (w : World) : (Instr.typeAssert (.iface 62 v) xT 168 true).run Tryz.prog w = .ok (.tuple #[.iface 62 v, .bool true]) w := run_typeAssert_hasB Tryz.underlying168 (by kernel_rfl) v xT w
theorem f_method (v : Value) (w : World) : (Go.method 334 62 v "Unwrap").run Tryz.prog w = .ok (165, v) w := by kernel_rfl
theorem f_typeOf (v : Value) (w : World) : (Extern.ReflectliteType.typeOf #[.iface 62 v]).run Tryz.prog w = .ok (.iface 161 (.agg #[.pointer (some ⟨8, 62, none⟩)])) w := by kernel_rfl
theorem f_eql (u v : Value) (w : World) : (binOp .eql 33 (.iface 62 u) (.iface 55 v)).run Tryz.prog w = .ok (.bool false) w := run_eql_iface_types _ _ _ _ Tryz.underlying33 (by decide) w

theorem unwrap_any (a : Int) (n : Int) (w : World) : Calls Tryz.prog 165 #[fv a n] w fun e w' => e = .returned (.iface 55 (.int .i64 n)) ∧ Below w.heap.size w w' := by
  unfold fv
  go_enter Tryz.func165, Tryz.ntmps165
  go_wp2
  go_ret
  exact ⟨rfl, (Below.refl _ _).alloc (Nat.le_refl _) _⟩

set_option maxHeartbeats 4000000 in
theorem is_fault (a : Int) (n b : Int) (w : World) :
    Calls Tryz.prog 76 #[.iface 62 (fv a n), .iface 55 (.int .i64 b)] w fun e w' => e = .returned (.bool (n == b)) ∧ Below w.heap.size w w' := by
  obtain ⟨i, hi, hcmp⟩ := Option.map_eq_some_iff.1 er_comp
  have h8 := @run_callFunc_extern Tryz.prog 106 _ Extern.ReflectliteType.typeOf Tryz.func106 (by kernel_rfl) (by kernel_rfl) (by kernel_rfl) (by kernel_rfl)
  have h32 := @run_callFunc_extern Tryz.prog 172 _ cmpFn Tryz.func172 (by kernel_rfl) (by kernel_rfl) (by kernel_rfl) (by kernel_rfl)
  have tT := er_typeOf
  have cT := er_comparable
  have mR := er_methodComparable
  have nF := f_noIs
  have uF := f_unwrap
  have mF := f_method
  have qF := f_eql
  have nE := er_noIs
  have uE := er_noUnwrap
  have vE := er_noUnwraps
  have heq := fun w => eql_iface_int (P := Tryz.prog) w n b Tryz.underlying33 Tryz.underlying55 hi hcmp
  obtain ⟨v, hv⟩ : ∃ v, v = fv a n := ⟨_, rfl⟩
  have hU := Lib.hid (fun w' => unwrap_any a n w')
  rw [← hv] at hU ⊢
  clear hv
  by_cases hab : (n == b) = true
  · rw [hab] at heq ⊢
    go_enter Tryz.func76, Tryz.ntmps76
    go_wp2
    refine wp_loop_rounds 2 ?_
    rw [rounds_succ]
    go_wp2_with (go_at_call 165; refine (hU.out _).mono ?_; rintro e w1 ⟨rfl, hb1⟩)
    rw [rounds_succ]
    go_wp2
    go_ret
    exact ⟨rfl, hb1⟩
  · simp only [Bool.not_eq_true] at hab
    rw [hab] at heq ⊢
    go_enter Tryz.func76, Tryz.ntmps76
    go_wp2
    refine wp_loop_rounds 2 ?_
    rw [rounds_succ]
    go_wp2_with (go_at_call 165; refine (hU.out _).mono ?_; rintro e w1 ⟨rfl, hb1⟩)
    rw [rounds_succ]
    go_wp2
    go_ret
    exact ⟨rfl, hb1⟩

set_option maxHeartbeats 1000000 in
theorem num_fault (a : Int) (k : Int) (h1 : 1 ≤ k) (h2 : k ≤ 24) (w : World) :
    Calls Tryz.prog 37 #[.iface 62 (fv a k)] w fun e w' => e = .returned (.int .i64 k) ∧ Below w.heap.size w w' := by
  have hk0 : (k == 0) = false := by rw [beq_eq_false_iff_ne]; omega
  obtain ⟨v, hv⟩ : ∃ v, v = fv a k := ⟨_, rfl⟩
  have hI := Lib.hid (fun m w' => is_fault a k m w')
  rw [← hv] at hI ⊢
  clear hv
  go_enter Tryz.func37, Tryz.ntmps37
  go_wp2
  go_loopw [3, 4] (fun f n wr => (∃ m : Int, 1 ≤ m ∧ m ≤ 25 ∧ n = .int .i64 m ∧ ((m ≤ k ∧ f = .int .i64 0) ∨ (k < m ∧ f = .int .i64 k))) ∧ Below w.heap.size w wr) (fun _ n _ => (25 - intOf n).toNat)
  case atStart => exact ⟨⟨1, by omega, by omega, rfl, .inl ⟨h1, rfl⟩⟩, Below.refl _ _⟩
  case round =>
    obtain ⟨⟨m, hm1, hm2, rfl, hf⟩, hbl⟩ := hrel
    have HB := Lib.hid hbl
    clear hbl
    by_cases hm : m ≤ 24
    · rcases hf with ⟨hle, rfl⟩ | ⟨hlt, rfl⟩
      · by_cases he : k = m
        · subst he
          have hq : (k == k) = true := by simp
          go_wp2_with fail
          refine (hI.out k _).mono ?_
          rintro e w' ⟨rfl, hb⟩
          go_wp2
          go_roundw
          case rel => exact ⟨⟨k + 1, by omega, by omega, rfl, .inr ⟨by omega, rfl⟩⟩, HB.out.trans (hb.mono HB.out.size)⟩
          case measure => simp [intOf]; omega
        · have hq : (k == m) = false := by rw [beq_eq_false_iff_ne]; exact he
          go_wp2_with fail
          refine (hI.out m _).mono ?_
          rintro e w' ⟨rfl, hb⟩
          go_wp2
          go_roundw
          case rel => exact ⟨⟨m + 1, by omega, by omega, rfl, .inl ⟨by omega, rfl⟩⟩, HB.out.trans (hb.mono HB.out.size)⟩
          case measure => simp [intOf]; omega
      · have hq : (k == m) = false := by rw [beq_eq_false_iff_ne]; omega
        go_wp2_with fail
        refine (hI.out m _).mono ?_
        rintro e w' ⟨rfl, hb⟩
        go_wp2
        go_roundw
        case rel => exact ⟨⟨m + 1, by omega, by omega, rfl, .inr ⟨by omega, rfl⟩⟩, HB.out.trans (hb.mono HB.out.size)⟩
        case measure => simp [intOf]; omega
    · rcases hf with ⟨hle, rfl⟩ | ⟨hlt, rfl⟩
      · omega
      · go_wp2_with fail
        refine (hI.out 0 _).mono ?_
        rintro e w' ⟨rfl, hb⟩
        go_wp2
        go_ret
        exact ⟨rfl, HB.out.trans (hb.mono HB.out.size)⟩

theorem fl_assign (w : World) : (ReflectliteType.relation "AssignableTo" ReflectliteType.assignableTo #[.agg #[.pointer (some ⟨8, 62, none⟩)], .iface 161 (.agg #[.pointer (some ⟨8, 62, none⟩)])]).run Tryz.prog w = .ok (.bool true) w := by kernel_rfl
theorem fl_valueOf (n a : Int) (w : World) : (ReflectliteValue.unpack (.iface 62 (.agg #[.int .i64 n, .int .i64 a]))).run Tryz.prog w
    = .ok (.agg #[.pointer (some ⟨8, 62, none⟩), .pointer (some ⟨w.heap.size, 0, none⟩), .int .u64 153]) (w.alloc (.cells #[.int .i64 n, .int .i64 a] 62)) := by kernel_rfl
theorem fl_elemOf (w : World) : (Rtype.elem? 73).run Tryz.prog w = .ok (some 62) w := by kernel_rfl
theorem fl_mk (p : Addr) (w : World) : (ReflectliteValue.mk 62 p ReflectliteValue.flagAddr).run Tryz.prog w = .ok (.agg #[.pointer (some ⟨8, 62, none⟩), .pointer (some p), .int .u64 409]) w := by kernel_rfl
theorem fl_elemV (a p : Addr) (W : World) (ha : W.cell? a = some (.pointer (some p))) :
    (ReflectliteValue.method (ReflectliteValue.valueError "reflectlite.Value.Elem" 0) ReflectliteValue.elem #[.agg #[.pointer (some ⟨8, 73, none⟩), .pointer (some a), .int .u64 150]]).run Tryz.prog W
      = .ok (.agg #[.pointer (some ⟨8, 62, none⟩), .pointer (some p), .int .u64 409]) W := by
  rw [er_rlm]
  simp only [Sem.run_bind, er_partsPF, Result.andThen]
  simp [ReflectliteValue.elem, loadVar, isAgg, underlying, Tryz.underlying73, ha, Result.andThen, fl_elemOf, fl_mk]
theorem fl_rls (v x : Value) : ReflectliteValue.set #[v, x] = (do
    let (some (dst, a, fl), some (src, b, _)) := (← ReflectliteValue.parts v, ← ReflectliteValue.parts x)
      | unsupported (.noEntry "extern/(internal/reflectlite.Value).Set.zeroValue")
    if fl / ReflectliteValue.flagAddr % 2 == 0 then unsupported (.noEntry "extern/(internal/reflectlite.Value).Set.unaddressable")
    let val ← loadVar src b
    if ← Rtype.directlyAssignable dst src then storeVar dst a val
    else if ← Rtype.implements dst src then
      if (← Rtype.kind src) == 20 then
        match val with
        | .nilIface => unsupported (.noEntry "extern/reflectlite: a nil value of one interface type handed on as a value of another")
        | _ => storeVar dst a val
      else storeVar dst a (.iface src val)
    else panicString ("reflectlite.Set: value of type " ++ (← Rtype.spelt src) ++ " is not assignable to type " ++ (← Rtype.spelt dst))
    pure (.tuple #[])) := rfl
theorem fl_partsA (a : Addr) (w : World) : (ReflectliteValue.parts (.agg #[.pointer (some ⟨8, 62, none⟩), .pointer (some a), .int .u64 409])).run Tryz.prog w = .ok (some (62, a, 409)) w := by kernel_rfl
theorem fl_parts (a : Addr) (w : World) : (ReflectliteValue.parts (.agg #[.pointer (some ⟨8, 62, none⟩), .pointer (some a), .int .u64 153])).run Tryz.prog w = .ok (some (62, a, 153)) w := by kernel_rfl
theorem fl_direct (w : World) : (Rtype.directlyAssignable 62 62).run Tryz.prog w = .ok true w := by kernel_rfl
end Fl
end Go.Proofs.YtocoonkachbjaaaGreatDoor

/- errors.As of a Fault of package api: its number and its place are handed out; lineagekit.Place, At, Plain of it. -/
namespace Go.Proofs.YtocoonkachbjaaaGreatDoor
open Go.RowKit Go.Extern.Stop Go.Stop Go.Extern
set_option linter.unusedVariables false
namespace Fl

theorem fl_load (b : Nat) (n a : Int) (W : World) (hb : W.heap[b]? = some (.cells #[.int .i64 n, .int .i64 a] 62 (0, 0))) :
    (loadCellsFrom ⟨b, 0, none⟩ 0 2 #[]).run Tryz.prog W = .ok #[.int .i64 n, .int .i64 a] W := by
  have := run_loadCells_list (P := Tryz.prog) W ⟨b, 0, none⟩ [.int .i64 n, .int .i64 a] (fun j v hj => by
    have hp : (⟨b, 0, none⟩ : Addr).add j = ⟨b, j, none⟩ := by unfold Addr.add; split <;> simp_all
    rw [hp, cell_of_row W b j _ _ _ hb]
    simpa using hj)
  exact this

theorem fl_set (N b : Nat) (x y n a : Int) (W : World) (hb : W.heap[b]? = some (.cells #[.int .i64 n, .int .i64 a] 62 (0, 0))) (ht : W.heap[N]? = some (.cells #[.int .i64 x, .int .i64 y] 62 (0, 0))) :
    (ReflectliteValue.set #[.agg #[.pointer (some ⟨8, 62, none⟩), .pointer (some ⟨N, 0, none⟩), .int .u64 409], .agg #[.pointer (some ⟨8, 62, none⟩), .pointer (some ⟨b, 0, none⟩), .int .u64 153]]).run Tryz.prog W
      = .ok (.tuple #[]) ((W.setCell ⟨N, 0, none⟩ (.int .i64 n)).setCell ⟨N, 1, none⟩ (.int .i64 a)) := by
  rw [fl_rls]
  simp only [Sem.run_bind, fl_partsA, fl_parts, Result.andThen]
  simp [ReflectliteValue.flagAddr, loadVar, Result.andThen, fl_direct, storeVar, Value.cells, storeCells, loadCells, Addr.add]
  rw [fl_load b n a W hb]
  have c0 : W.cell? ⟨N, 0, none⟩ = some (.int .i64 x) := by rw [cell_of_row W N 0 _ _ _ ht]; rfl
  have f0 : ∀ j, W.frozen? ⟨N, j, none⟩ = false := fun j => by simp [World.frozen?, ht]
  have ht2 : (W.setCell ⟨N, 0, none⟩ (.int .i64 n)).heap[N]? = some (.cells #[.int .i64 n, .int .i64 y] 62 (0, 0)) := by
    simp [World.setCell, Array.getElem?_modify, ht]
  have c1 : (W.setCell ⟨N, 0, none⟩ (.int .i64 n)).cell? ⟨N, 1, none⟩ = some (.int .i64 y) := by rw [cell_of_row _ N 1 _ _ _ ht2]; rfl
  have f1 : (W.setCell ⟨N, 0, none⟩ (.int .i64 n)).frozen? ⟨N, 1, none⟩ = false := by simp [World.frozen?, ht2]
  have s0 : (store ⟨N, 0, none⟩ (.int .i64 n)).run Tryz.prog W = .ok () (W.setCell ⟨N, 0, none⟩ (.int .i64 n)) := by simp [go_sem, stored, c0, f0 0]
  have s1 : (store ⟨N, 1, none⟩ (.int .i64 a)).run Tryz.prog (W.setCell ⟨N, 0, none⟩ (.int .i64 n)) = .ok () ((W.setCell ⟨N, 0, none⟩ (.int .i64 n)).setCell ⟨N, 1, none⟩ (.int .i64 a)) := by simp [go_sem, stored, c1, f1]
  simp [storeCells, Addr.add, s0, s1, Result.andThen]

/-- Where a Fault was laid: its place, and nothing else that was there has turned. -/
def Hit (w : World) (N : Nat) (n a : Int) (w' : World) : Prop := w'.heap[N]? = some (.cells #[.int .i64 n, .int .i64 a] 62 (0, 0)) ∧ w.grownBy w' (some N)

set_option maxHeartbeats 8000000 in
/-- errors.As(a Fault, &f): true; f is that Fault. -/
theorem as_hit (a n x y : Int) (N : Nat) (w : World) (hg : erHandle w) (ht : w.heap[N]? = some (.cells #[.int .i64 x, .int .i64 y] 62 (0, 0))) :
    Calls Tryz.prog 38 #[.iface 62 (fv a n), .iface 73 (.pointer (some ⟨N, 0, none⟩))] w fun e w' => e = .returned (.bool true) ∧ Hit w N n a w' := by
  have h6 := @run_callFunc_extern Tryz.prog 77 _ (fun args => ReflectliteValue.unpack (args.getD 0 (.tuple #[]))) Tryz.func77 (by kernel_rfl) (by kernel_rfl) (by kernel_rfl) (by kernel_rfl)
  have h7 := @run_callFunc_extern Tryz.prog 78 _ (ReflectliteValue.methodAny (ReflectliteValue.valueError "reflectlite.Value.Type" 0) (fun t _ _ _ => ReflectliteType.toType t)) Tryz.func78 (by kernel_rfl) (by kernel_rfl) (by kernel_rfl) (by kernel_rfl)
  have h8 := @run_callFunc_extern Tryz.prog 79 _ (ReflectliteValue.method (ReflectliteValue.valueError "reflectlite.Value.IsNil" 0) ReflectliteValue.isNil) Tryz.func79 (by kernel_rfl) (by kernel_rfl) (by kernel_rfl) (by kernel_rfl)
  have h27 := @run_callFunc_extern Tryz.prog 160 _ (ReflectliteType.abiMethod fun t => do pure (.int .u8 (← Rtype.kind t))) Tryz.func160 (by kernel_rfl) (by kernel_rfl) (by kernel_rfl) (by kernel_rfl)
  have h37 := @run_callFunc_extern Tryz.prog 173 _ (ReflectliteType.method ReflectliteType.elem) Tryz.func173 (by kernel_rfl) (by kernel_rfl) (by kernel_rfl) (by kernel_rfl)
  have h38 := @run_callFunc_extern Tryz.prog 174 _ (ReflectliteType.relation "Implements" ReflectliteType.implements_) Tryz.func174 (by kernel_rfl) (by kernel_rfl) (by kernel_rfl) (by kernel_rfl)
  have h10 := @run_callFunc_extern Tryz.prog 106 _ ReflectliteType.typeOf Tryz.func106 (by kernel_rfl) (by kernel_rfl) (by kernel_rfl) (by kernel_rfl)
  have h35 := @run_callFunc_extern Tryz.prog 171 _ (ReflectliteType.relation "AssignableTo" ReflectliteType.assignableTo) Tryz.func171 (by kernel_rfl) (by kernel_rfl) (by kernel_rfl) (by kernel_rfl)
  have h11 := @run_callFunc_extern Tryz.prog 108 _ (ReflectliteValue.method (ReflectliteValue.valueError "reflectlite.Value.Elem" 0) ReflectliteValue.elem) Tryz.func108 (by kernel_rfl) (by kernel_rfl) (by kernel_rfl) (by kernel_rfl)
  have h12 := @run_callFunc_extern Tryz.prog 109 _ ReflectliteValue.set Tryz.func109 (by kernel_rfl) (by kernel_rfl) (by kernel_rfl) (by kernel_rfl)
  have tF := f_typeOf
  have mA := er_methodAssignableTo
  have aF := fl_assign
  have vF := fl_valueOf n a
  have f6 := er_valueOfPF
  have f7 := er_typePF
  have mK := er_methodKind
  have mE := er_methodElem
  have mI := er_methodImplements
  have k27 := er_kindPF
  have k25 := er_kindF
  have e27 := er_elemPF
  have i25 := er_implementsF
  have hlt := hg.lt
  unfold erHandle at hg
  have hNl : N < w.heap.size := (Array.getElem?_eq_some_iff.1 ht).1
  have n8 := er_isNilPF ⟨w.heap.size, 0, none⟩ ⟨N, 0, none⟩ ((w.alloc (.cells #[.pointer (some ⟨N, 0, none⟩)] 73)).alloc (.cells #[.pointer (some ⟨8, 73, none⟩), .pointer (some ⟨w.heap.size, 0, none⟩), .int .u64 150] 126)) (by simp)
  have hg2 : ((w.alloc (.cells #[.pointer (some ⟨N, 0, none⟩)] 73)).alloc (.cells #[.pointer (some ⟨8, 73, none⟩), .pointer (some ⟨w.heap.size, 0, none⟩), .int .u64 150] 126)).cell? ⟨1, 0, none⟩ = some (.iface 161 (.agg #[.pointer (some ⟨8, 33, none⟩)])) := by
    rw [World.cell?_alloc_lt _ _ ⟨1, 0, none⟩ (by first | (simp; done) | (simp; omega)), World.cell?_alloc_lt _ _ ⟨1, 0, none⟩ hlt]; exact hg
  have el := fl_elemV ⟨w.heap.size, 0, none⟩ ⟨N, 0, none⟩ (((w.alloc (.cells #[.pointer (some ⟨N, 0, none⟩)] 73)).alloc (.cells #[.pointer (some ⟨8, 73, none⟩), .pointer (some ⟨w.heap.size, 0, none⟩), .int .u64 150] 126)).alloc (.cells #[.pointer (some ⟨8, 73, none⟩), .pointer (some ⟨w.heap.size, 0, none⟩), .int .u64 150] 126)) (by rw [World.cell?_alloc_lt _ _ ⟨w.heap.size, 0, none⟩ (by simp; omega)]; simp)
  obtain ⟨W3, hW3⟩ : ∃ W3, W3 = (((w.alloc (.cells #[.pointer (some ⟨N, 0, none⟩)] 73)).alloc (.cells #[.pointer (some ⟨8, 73, none⟩), .pointer (some ⟨w.heap.size, 0, none⟩), .int .u64 150] 126)).alloc (.cells #[.pointer (some ⟨8, 73, none⟩), .pointer (some ⟨w.heap.size, 0, none⟩), .int .u64 150] 126)) := ⟨_, rfl⟩
  have hb3 : Below w.heap.size w W3 := by rw [hW3]; exact (((Below.refl _ _).alloc (Nat.le_refl _) _).alloc (by simp) _).alloc (by simp; omega) _
  have hz3 : W3.heap.size = w.heap.size + 1 + 1 + 1 := by rw [hW3]; simp
  have st := fl_set N W3.heap.size x y n a (W3.alloc (.cells #[.int .i64 n, .int .i64 a] 62)) (Ut.alloc_at _ _) (by rw [Below.heap_alloc _ _ _ (by rw [hz3]; omega), hb3.block N hNl]; exact ht)
  have hfin : Hit w N n a (((W3.alloc (.cells #[.int .i64 n, .int .i64 a] 62)).setCell ⟨N, 0, none⟩ (.int .i64 n)).setCell ⟨N, 1, none⟩ (.int .i64 a)) := by
    have hb4 : Below w.heap.size w (W3.alloc (.cells #[.int .i64 n, .int .i64 a] 62)) := hb3.alloc hb3.size _
    have h4 : (W3.alloc (.cells #[.int .i64 n, .int .i64 a] 62)).heap[N]? = some (.cells #[.int .i64 x, .int .i64 y] 62 (0, 0)) := (hb4.block N hNl).trans ht
    refine ⟨by simp [World.setCell, Array.getElem?_modify, h4], ⟨hb4.os, hb4.tape, hb4.output, by simpa [World.setCell] using hb4.size, fun k hk hne => ?_⟩⟩
    rw [Below.heap_setCell _ _ _ _ (by simpa using fun e => hne (by rw [e])), Below.heap_setCell _ _ _ _ (by simpa using fun e => hne (by rw [e]))]
    exact hb4.block k hk
  rw [hz3] at st
  rw [hW3] at st hfin
  have HF := Lib.hid hfin
  clear hfin hb3 hz3 hW3
  obtain ⟨v, hv⟩ : ∃ v, v = fv a n := ⟨_, rfl⟩
  unfold fv at hv
  go_enter Tryz.func38, Tryz.ntmps38
  unfold fv
  clear hv
  go_wp2
  refine wp_loop_rounds 1 ?_
  rw [rounds_succ]
  go_wp2
  go_ret
  exact ⟨rfl, HF.out⟩

end Fl
end Go.Proofs.YtocoonkachbjaaaGreatDoor

/- lineagekit.Place and At of a Fault of package api. -/
namespace Go.Proofs.YtocoonkachbjaaaGreatDoor
open Go.RowKit Go.Extern.Stop Go.Stop Go.Extern
set_option linter.unusedVariables false
namespace Fl

theorem Hit.below {w w' : World} {N B : Nat} {n a : Int} (h : Hit w N n a w') (hN : B ≤ N) (hB : B ≤ w.heap.size) : Below B w w' :=
  (Below.refl B w).grown h.2 hB (fun j hj => by cases hj; exact hN)

set_option maxHeartbeats 2000000 in
theorem place_flt (a n : Int) (h1 : 1 ≤ n) (h2 : n ≤ 24) (w : World) (hg : erHandle w) :
    Calls Tryz.prog 46 #[.iface 62 (fv a n)] w fun e w' => e = .returned (.tuple #[.int .i64 a, .bool true]) ∧ Below w.heap.size w w' := by
  have hA := as_hit a n 0 0 w.heap.size (w.alloc (.cells #[.int .i64 0, .int .i64 0] 62)) (hg.below hg.lt ((Below.refl _ w).alloc (Nat.le_refl _) _)) (Ut.alloc_at _ _)
  have hN := Lib.hid (fun w' => num_fault a n h1 h2 w')
  obtain ⟨v, hv⟩ : ∃ v, v = fv a n := ⟨_, rfl⟩
  rw [← hv] at hA hN ⊢
  have HA := Lib.hid hA
  have hq : (n == n) = true := by simp
  clear hv hA hg
  go_enter Tryz.func46, Tryz.ntmps46
  go_wp2_with fail
  refine HA.out.mono ?_
  rintro e w1 ⟨rfl, hh⟩
  have hbl : Below w.heap.size w w1 := ((Below.refl _ w).alloc (Nat.le_refl _) _).trans (hh.below (Nat.le_refl _) (by simp))
  have c0 : w1.cell? ⟨w.heap.size, 0, none⟩ = some (.int .i64 n) := by rw [cell_of_row w1 _ 0 _ _ _ hh.1]; rfl
  have c1 : w1.cell? ⟨w.heap.size, 1, none⟩ = some (.int .i64 a) := by rw [cell_of_row w1 _ 1 _ _ _ hh.1]; rfl
  have hz : w.heap.size < w1.heap.size := (Array.getElem?_eq_some_iff.1 hh.1).1
  have HB := Lib.hid hbl
  clear hh hbl
  go_wp2_with fail
  go_region_with (go_at_call 37; refine (hN.out _).mono ?_; rintro e w2 ⟨rfl, hb2⟩; have k0 := (hb2.cell (p := ⟨w.heap.size, 0, none⟩) hz).trans c0; have k1 := (hb2.cell (p := ⟨w.heap.size, 1, none⟩) hz).trans c1)
  all_goals
    go_wp2
    go_ret2
    exact ⟨rfl, HB.out.trans ((Ut.below_drewN (Below.refl _ _) 1).trans (hb2.mono HB.out.size))⟩

set_option maxHeartbeats 2000000 in
theorem at_flt (a n : Int) (h1 : 1 ≤ n) (h2 : n ≤ 24) (w : World) (hg : erHandle w) :
    Calls Tryz.prog 14 #[.iface 62 (fv a n), .int .i64 n, .int .i64 a] w fun e w' => e = .returned (.bool true) ∧ Below w.heap.size w w' := by
  have hP := place_flt a n h1 h2 w hg
  have hN := Lib.hid (fun w' => num_fault a n h1 h2 w')
  obtain ⟨v, hv⟩ : ∃ v, v = fv a n := ⟨_, rfl⟩
  rw [← hv] at hP hN ⊢
  have HP := Lib.hid hP
  have hq : (n == n) = true := by simp
  have hq2 : (a == a) = true := by simp
  have hq3 : (n == 0) = false := by rw [beq_eq_false_iff_ne]; omega
  clear hv hP hg
  go_enter Tryz.func14, Tryz.ntmps14
  go_wp2_with fail
  refine HP.out.mono ?_
  rintro e w1 ⟨rfl, hb1⟩
  go_wp2_with fail
  refine (hN.out _).mono ?_
  rintro e w2 ⟨rfl, hb2⟩
  go_wp2
  go_ret
  exact ⟨rfl, hb1.trans (hb2.mono hb1.size)⟩

end Fl
end Go.Proofs.YtocoonkachbjaaaGreatDoor

/- scope.New: of any list of names. -/
namespace Go.Proofs.YtocoonkachbjaaaGreatDoor
open Go.RowKit Go.Maps Go.ChangeMaps Go.Proofs.NmPlain Go.Proofs.Ar
set_option linter.unusedVariables false
namespace Sc

/-- The error of a number and a place (below nought: it tells none). -/
def errV (no at_ : Int) : Value := if no = 0 then .nilIface else if at_ < 0 then errVal no else .iface 62 (Fl.fv at_ no)

/-- What New hands back. -/
def NewPost (lo : Nat) (ls : List ByteArray) (e : Ending) (w' : World) : Prop :=
  (newL ls = (0, -1) ∧ ∃ B, e = .returned (.tuple #[.pointer (some ⟨B, 0, none⟩), .nilIface]) ∧ BookAt lo w' B ls) ∨
  (newL ls ≠ (0, -1) ∧ e = .returned (.tuple #[.pointer none, errV (newL ls).1 (newL ls).2]))

theorem NewPost.no {lo : Nat} {ls : List ByteArray} {w' : World} {no at_ : Int} {v : Value} (h : newL ls = (no, at_)) (h0 : no ≠ 0) (hv : v = errV no at_) : NewPost lo ls (.returned (.tuple #[.pointer none, v])) w' := by
  refine .inr ⟨by rw [h]; intro e; exact h0 (congrArg Prod.fst e), ?_⟩
  rw [h, hv]

/-- A new map of names, with room for some. -/
theorem made (q : IntKind) (n : Int) (w : World) : (Instr.makeMap 57 (some (.int q n))).run Tryz.prog w = .ok (.map (some w.heap.size)) (w.alloc (.map #[] 0)) := by
  unfold Instr.makeMap
  simp [run_underlying Tryz.underlying57]
  rfl

/-- While the names are gone through. -/
def NRel (ls : List ByteArray) (w : World) (B bm : Nat) (v : Value) (i : Value) (wr : World) : Prop :=
  ∃ k : Nat, k ≤ ls.length ∧ i = .int .i64 k ∧ newL ls = newAt ls k ∧ (∀ a b (ha : a < ls.length) (hb : b < ls.length), a < k → b < k → ls[a] = ls[b] → a = b) ∧
    wr.heap[B]? = some (.cells #[v, .map (some bm)] 59 (0, 0)) ∧ wr.ownsRow w.heap.size 9 1 v ls.length (ls.map Value.string) ∧ wr.ownsMap Tryz.prog 9 (plainElem Tryz.prog 3) bm k (mapL ls k) ∧ Below w.heap.size w wr

/-- Where a map lies, no row of texts lies. -/
theorem own_ne_map {w : World} {P : Program} {kt : TypeId} {R : Value → Option (DataW Unit × List MemPlace)} {bm m : Nat} {D : DataW Unit} {lo e size n : Nat} {v : Value} {xs : List Value} (hm : w.ownsMap P kt R bm m D) (h : w.ownsRow lo e size v n xs) : v.ownBlock = none ∨ v.ownBlock ≠ some bm := by
  right
  intro e2
  obtain ⟨es, clock, hb, _⟩ := hm
  rcases h.2 with ⟨rfl, _⟩ | ⟨g, cap, cur, rfl, _, h3, _⟩
  · simp [Value.ownBlock] at e2
  · simp only [Value.ownBlock, Option.some.injEq] at e2
    subst e2
    rw [hb] at h3; simp at h3
theorem cells_ne_map {w : World} {P : Program} {kt : TypeId} {R : Value → Option (DataW Unit × List MemPlace)} {bm m B : Nat} {D : DataW Unit} {xs : Array Value} {t : TypeId} {f : Nat × Nat} (hm : w.ownsMap P kt R bm m D) (h : w.heap[B]? = some (.cells xs t f)) : B ≠ bm := by
  rintro rfl
  obtain ⟨es, clock, hb, _⟩ := hm
  rw [hb] at h; simp at h

theorem start_a {ls : List ByteArray} {w w1 : World} {v : Value} (hn : newL ls = newAt ls 0) (ho : w1.ownsRow w.heap.size 9 1 v ls.length (ls.map Value.string)) (hb : Below w.heap.size w w1) :
    NRel ls w (w1.heap.size + 1) w1.heap.size v (.int .i64 0) ((w1.alloc (.map #[] 0)).alloc (.cells #[v, .map (some w1.heap.size)] 59 (0, 0))) :=
  ⟨0, Nat.zero_le _, rfl, hn, fun a b _ _ h => absurd h (Nat.not_lt_zero _), by
    have h := Ut.alloc_at (w1.alloc (.map #[] 0)) (.cells #[v, .map (some w1.heap.size)] 59 (0, 0))
    simpa using h, (ho.alloc _).alloc _, (World.ownsMap_made w1 _ _ _).alloc _, (hb.alloc hb.size _).alloc (by simp; have := hb.size; omega) _⟩
theorem start_b {ls : List ByteArray} {w w1 : World} {v : Value} (hn : newL ls = newAt ls 0) (ho : w1.ownsRow (w.alloc (.map #[] 0)).drew.heap.size 9 1 v ls.length (ls.map Value.string)) (hb : Below (w.alloc (.map #[] 0)).drew.heap.size (w.alloc (.map #[] 0)).drew w1) :
    NRel ls w w1.heap.size w.heap.size v (.int .i64 0) (w1.alloc (.cells #[v, .map (some w.heap.size)] 59 (0, 0))) := by
  have e1 : (w.alloc (.map #[] 0)).drew.heap.size = w.heap.size + 1 := by simp
  have hs := hb.size
  rw [e1] at ho hb hs
  have hm : w1.ownsMap Tryz.prog 9 (plainElem (H := Unit) Tryz.prog 3) w.heap.size 0 (DataW.map []) := by
    obtain ⟨es, clock, h1, h2⟩ := World.ownsMap_made (H := Unit) w Tryz.prog 9 (plainElem Tryz.prog 3)
    exact ⟨es, clock, (hb.block _ (by omega)).trans h1, h2⟩
  exact ⟨0, Nat.zero_le _, rfl, hn, fun a b _ _ h => absurd h (Nat.not_lt_zero _), Ut.alloc_at _ _, (Ut.own_base ho (by omega)).alloc _, hm.alloc _,
    ((((Below.refl _ w).alloc (Nat.le_refl _) _).drew.trans (hb.mono (by omega))).alloc (by omega) _)⟩

theorem NRel.next {ls : List ByteArray} {w wr w2 : World} {B bm k : Nat} {v : Value} (hk : k < ls.length) (hd : dotB ls[k].data.toList = true) (hx : ls[k] ∉ ls.take k) (hn : newL ls = newAt ls k)
    (hdis : ∀ a b (ha : a < ls.length) (hb : b < ls.length), a < k → b < k → ls[a] = ls[b] → a = b)
    (hB : wr.heap[B]? = some (.cells #[v, .map (some bm)] 59 (0, 0))) (ho : wr.ownsRow w.heap.size 9 1 v ls.length (ls.map Value.string)) (hm : wr.ownsMap Tryz.prog 9 (plainElem Tryz.prog 3) bm k (mapL ls k)) (hbl : Below w.heap.size w wr) (hbm : w.heap.size ≤ bm)
    (hm2 : w2.ownsMap Tryz.prog 9 (plainElem Tryz.prog 3) bm (k + 1) ((mapL ls k).put (keyL ls[k]) (.lit (.int .i64 k)))) (hg : wr.grownBy w2 (some bm)) : NRel ls w B bm v (.int .i64 ((k : Int) + 1)) w2 := by
  have hne := cells_ne_map hm hB
  have hmem : ∀ a (ha : a < ls.length), a < k → ls[a] ≠ ls[k] := fun a ha hak e => hx (mem_take ha hak e)
  refine ⟨k + 1, by omega, by go_num, by rw [hn]; exact newAt_next hk hd hx, fun a b ha hb hak hbk e => ?_, (hg.block B (Array.getElem?_eq_some_iff.1 hB).1 (by intro e; exact hne (Option.some.inj e))).trans hB, ho.kept hg (own_ne_map hm ho), by rw [mapL_next hk]; exact hm2,
    hbl.grown hg hbl.size (fun j hj => by cases hj; exact hbm)⟩
  by_cases ea : a = k
  · by_cases eb : b = k
    · rw [ea, eb]
    · subst ea; exact absurd e.symm (hmem b hb (by omega))
  · by_cases eb : b = k
    · subst eb; exact absurd e (hmem a ha (by omega))
    · exact hdis a b ha hb (by omega) (by omega) e

theorem NRel.book {ls : List ByteArray} {w wr : World} {B bm : Nat} {v : Value} (h64 : ls.length ≤ 64) (hB0 : w.heap.size ≤ B) (hbm : w.heap.size ≤ bm) (h : NRel ls w B bm v (.int .i64 (ls.length : Int)) wr) :
    NewPost w.heap.size ls (.returned (.tuple #[.pointer (some ⟨B, 0, none⟩), .nilIface])) wr := by
  obtain ⟨k, hk, e, hn, hdis, hB, ho, hm, hbl⟩ := h
  have e2 : k = ls.length := by cases e; omega
  subst e2
  rw [newAt_end (Nat.le_refl _)] at hn
  exact .inl ⟨hn, B, rfl, v, bm, hB, hB0, hbm, ho, hm⟩

set_option maxHeartbeats 4000000 in
theorem new_any (v : Value) (ls : List ByteArray) (hl : (ls.length : Int) ≤ 9223372036854775807) (hz : ls.length ≤ 64 → ∀ s ∈ ls, s.size ≤ 16777216) (w : World) (hm : MaxAt w) (h1 : TextArg w v ls) :
    Calls Tryz.prog 6 #[v] w fun e w' => NewPost w.heap.size ls e w' ∧ Below w.heap.size w w' := by
  by_cases hm64 : 64 < ls.length
  · have e1 : (64 : Int) < (ls.length : Int) := by omega
    have HN : Hid (newL ls = (5, -1)) := by show _ = _; unfold newL; rw [if_pos hm64]
    obtain ⟨p, cp, rfl, h1⟩ := h1
    clear hm64 hz h1
    go_enter Tryz.func6, Tryz.ntmps6
    go_wp2
    go_ret2
    exact ⟨NewPost.no HN.out (by omega) rfl, Below.refl _ _⟩
  · have e1 : (ls.length : Int) ≤ 64 := by omega
    have HN : Hid (newL ls = newAt ls 0) := by show _ = _; unfold newL; rw [if_neg hm64]
    have HZ := Lib.hid (hz (by omega)); have HM := Lib.hid hm
    have HC := Lib.hid (fun (w' : World) (hb : Below w.heap.size w w') => clone_out v ls (by omega) w' (h1.below hb))
    obtain ⟨p, cp, rfl, h1⟩ := h1
    have H1 := Lib.hid h1
    have hmm := made
    clear hm64 hz h1
    go_enter Tryz.func6, Tryz.ntmps6
    go_wp2
    go_region_held3 (fun _ => True) (go_keep) (first | (go_at_call 20; refine (HC.out _ (by first | exact (Below.refl _ w).drew | exact (Below.refl _ w).drew.alloc (Nat.le_refl _) _)).mono ?_; rintro e w1 ⟨q, c, rfl, ho, hb1⟩))
    · have hws := hb1.size
      have HS := Lib.hid (start_a (w := w) HN.out ho ((Below.refl _ w).drew.trans hb1))
      have hB0 : w.heap.size ≤ w1.heap.size + 1 := Nat.le_succ_of_le hb1.size
      have hbm : w.heap.size ≤ w1.heap.size := hb1.size
      clear hws
      clear ho hb1
      generalize (w1.alloc (.map #[] 0)).alloc (.cells #[.slice q ls.length c, .map (some w1.heap.size)] 59 (0, 0)) = W at HS ⊢
      generalize w1.heap.size + 1 = B at HS hB0 ⊢
      generalize w1.heap.size = bm at HS hbm ⊢
      obtain ⟨v, hv⟩ : ∃ v : Value, v = .slice q ls.length c := ⟨_, rfl⟩
      rw [← hv] at HS ⊢
      clear hmm HC hv
      go_wp2
      go_loopw [22] (fun i wr => NRel ls w B bm v i wr) (fun i _ => ls.length - (intOf i).toNat)
      case atStart => exact HS.out
      case round =>
        obtain ⟨k, hk, rfl, hn, hdis, hBc, ho, hmp, hbl⟩ := hrel
        have HK := Lib.hid hn; have HD := Lib.hid hdis; have HO := Lib.hid ho; have HP := Lib.hid hmp; have HB := Lib.hid hbl
        clear hn hdis ho hmp hbl HS
        by_cases h : k < ls.length
        · obtain ⟨g1, o1, rfl, hg1, k1⟩ := H1.out k h
          have k1' : wr.cell? ⟨g1, o1 + k, none⟩ = some (.string ls[k]) := (HB.out.cell (p := ⟨g1, o1 + k, none⟩) hg1).trans k1
          obtain ⟨x, hx⟩ : ∃ x, x = ls[k] := ⟨_, rfl⟩
          have hxs : x.size ≤ 16777216 := by rw [hx]; exact HZ.out _ (List.getElem_mem h)
          have HDC := Lib.hid (dotted_any x (by omega) wr (HM.out.below HB.out))
          have hkey : keyOf Tryz.prog 9 (.string x) = some (keyL x) := WideMaps.keyOf_string_mk Tryz.underlying9 (by unfold maxLen; omega)
          have HKEY := Lib.hid hkey
          have hdn : dotB x.data.toList = false → newL ls = (8, (k : Int)) := fun e => by rw [HK.out]; exact newAt_name h (by rw [← hx]; exact e)
          have HDN := Lib.hid hdn
          rw [← hx] at k1'
          have HX := Lib.hid hx
          clear k1 hdn hx hxs hkey
          have b1 : (0 : Int) ≤ (k : Int) := by omega
          have b2 : (k : Int) < (ls.length : Int) := by omega
          cases hd : dotB x.data.toList with
          | false =>
            have HF := Lib.hid (HDN.out hd)
            rw [hd] at HDC
            clear hd HDN
            go_wp2_with fail
            refine HDC.out.mono ?_
            rintro e w2 ⟨rfl, hb2⟩
            have hb3 : Below w.heap.size w w2 := HB.out.trans (hb2.mono HB.out.size)
            go_wp2
            go_ret2
            exact ⟨NewPost.no HF.out (by omega) (by unfold errV; rw [if_neg (by omega), if_neg (by omega)]; rfl), hb3⟩
          | true =>
            have HDY : Hid (dotB ls[k].data.toList = true) := by show _ = _; rw [← HX.out]; exact hd
            rw [hd] at HDC
            clear hd HDN
            go_wp2_with fail
            refine HDC.out.mono ?_
            rintro e w2 ⟨rfl, hb2⟩
            have hb3 : Below w.heap.size w w2 := HB.out.trans (hb2.mono HB.out.size)
            have hB2 : w2.heap[B]? = some (.cells #[v, .map (some bm)] 59 (0, 0)) := (hb2.block B (Array.getElem?_eq_some_iff.1 hBc).1).trans hBc
            have c1 : w2.cell? ⟨B, 1, none⟩ = some (.map (some bm)) := by rw [cell_of_row w2 _ 1 _ _ _ hB2]; rfl
            have hmp2 : w2.ownsMap Tryz.prog 9 (plainElem Tryz.prog 3) bm k (mapL ls k) := by
              obtain ⟨es, clock, h5, h6⟩ := HP.out
              exact ⟨es, clock, (hb2.block bm (Array.getElem?_eq_some_iff.1 h5).1).trans h5, h6⟩
            have ho2 := Ut.own_below HO.out hb2
            have HP2 := Lib.hid hmp2; have HO2 := Lib.hid ho2; have HB2 := Lib.hid hB2; have HB3 := Lib.hid hb3
            clear hmp2 ho2 hB2 hb3 HB HP HO hBc hb2 HDC k1'
            by_cases hmem : ls[k] ∈ ls.take k
            · have HF : Hid (newL ls = (9, (k : Int))) := by show _ = _; rw [HK.out]; exact newAt_twice h HDY.out hmem
              have hhas : Maps.has (mapL ls k) (keyL x) = true := by
                obtain ⟨j, hj, ej⟩ := List.mem_take_iff_getElem.1 hmem
                rw [HX.out, ← ej]
                exact (map_yes k j (by omega) (by omega) fun i hi hik e => HD.out i j hi (by omega) hik (by omega) e).1
              clear hmem
              go_wp2_with (first | (at_lookup; refine wpList_lookup_own_ok_int _ rfl _ _ 57 rfl 9 3 .i64 kLaw Tryz.underlying57 Tryz.underlying3 (zeroI _) bm k _ rfl HP2.out _ (keyL x) rfl HKEY.out ?_; intro c2 hat hwc))
              go_ret2
              exact ⟨NewPost.no HF.out (by omega) (by unfold errV; rw [if_neg (by omega), if_neg (by omega)]; rfl), HB3.out⟩
            · have hhas : Maps.has (mapL ls k) (keyL x) = false := by
                rw [HX.out]
                exact map_no k fun i hi hik e => hmem (mem_take hi hik e)
              have HM2 := Lib.hid hmem
              clear hmem
              go_wp2_with (first | (at_lookup; refine wpList_lookup_own_ok_int _ rfl _ _ 57 rfl 9 3 .i64 kLaw Tryz.underlying57 Tryz.underlying3 (zeroI _) bm k _ rfl HP2.out _ (keyL x) rfl HKEY.out ?_; intro c2 hat hwc) | (at_mapUpdate; refine wpList_mapUpdate_own _ rfl _ _ _ 57 rfl 9 3 kLaw Tryz.underlying57 _ bm k _ rfl HP2.out (by unfold maxLen; omega) _ _ _ rfl rfl HKEY.out _ [] (plainElem_int Tryz.underlying3 (WalkArith.wf_i64 (by omega))) ?_; intro w3 hown3 hgrow3))
              go_roundw
              case rel => exact NRel.next h HDY.out HM2.out HK.out HD.out HB2.out HO2.out HP2.out HB3.out hbm (by rw [← HX.out]; exact hown3) hgrow3
              case measure => simp [intOf]; omega
        · obtain rfl : k = ls.length := by omega
          have HR := Lib.hid (NRel.book (by omega) hB0 hbm ⟨ls.length, Nat.le_refl _, rfl, HK.out, HD.out, hBc, HO.out, HP.out, HB.out⟩)
          go_wp2
          go_ret2
          exact ⟨HR.out, HB.out⟩
    · have HS := Lib.hid (start_b (w := w) HN.out ho hb1)
      have hB0 : w.heap.size ≤ w1.heap.size := by have := hb1.size; simp at this; omega
      clear ho hb1
      generalize w1.alloc (.cells #[.slice q ls.length c, .map (some w.heap.size)] 59 (0, 0)) = W at HS ⊢
      generalize w1.heap.size = B at HS hB0 ⊢
      obtain ⟨bm, hbe⟩ : ∃ bm, bm = w.heap.size := ⟨_, rfl⟩
      have HS2 : Hid (NRel ls w B bm (.slice q ls.length c) (.int .i64 0) W) := by rw [hbe]; exact HS
      clear HS
      have HS := HS2
      clear HS2
      have hbm : w.heap.size ≤ bm := Nat.le_of_eq hbe.symm
      rw [← hbe]
      clear hbe
      obtain ⟨v, hv⟩ : ∃ v : Value, v = .slice q ls.length c := ⟨_, rfl⟩
      rw [← hv] at HS ⊢
      clear hmm HC hv
      go_wp2
      go_loopw [22] (fun i wr => NRel ls w B bm v i wr) (fun i _ => ls.length - (intOf i).toNat)
      case atStart => exact HS.out
      case round =>
        obtain ⟨k, hk, rfl, hn, hdis, hBc, ho, hmp, hbl⟩ := hrel
        have HK := Lib.hid hn; have HD := Lib.hid hdis; have HO := Lib.hid ho; have HP := Lib.hid hmp; have HB := Lib.hid hbl
        clear hn hdis ho hmp hbl HS
        by_cases h : k < ls.length
        · obtain ⟨g1, o1, rfl, hg1, k1⟩ := H1.out k h
          have k1' : wr.cell? ⟨g1, o1 + k, none⟩ = some (.string ls[k]) := (HB.out.cell (p := ⟨g1, o1 + k, none⟩) hg1).trans k1
          obtain ⟨x, hx⟩ : ∃ x, x = ls[k] := ⟨_, rfl⟩
          have hxs : x.size ≤ 16777216 := by rw [hx]; exact HZ.out _ (List.getElem_mem h)
          have HDC := Lib.hid (dotted_any x (by omega) wr (HM.out.below HB.out))
          have hkey : keyOf Tryz.prog 9 (.string x) = some (keyL x) := WideMaps.keyOf_string_mk Tryz.underlying9 (by unfold maxLen; omega)
          have HKEY := Lib.hid hkey
          have hdn : dotB x.data.toList = false → newL ls = (8, (k : Int)) := fun e => by rw [HK.out]; exact newAt_name h (by rw [← hx]; exact e)
          have HDN := Lib.hid hdn
          rw [← hx] at k1'
          have HX := Lib.hid hx
          clear k1 hdn hx hxs hkey
          have b1 : (0 : Int) ≤ (k : Int) := by omega
          have b2 : (k : Int) < (ls.length : Int) := by omega
          cases hd : dotB x.data.toList with
          | false =>
            have HF := Lib.hid (HDN.out hd)
            rw [hd] at HDC
            clear hd HDN
            go_wp2_with fail
            refine HDC.out.mono ?_
            rintro e w2 ⟨rfl, hb2⟩
            have hb3 : Below w.heap.size w w2 := HB.out.trans (hb2.mono HB.out.size)
            go_wp2
            go_ret2
            exact ⟨NewPost.no HF.out (by omega) (by unfold errV; rw [if_neg (by omega), if_neg (by omega)]; rfl), hb3⟩
          | true =>
            have HDY : Hid (dotB ls[k].data.toList = true) := by show _ = _; rw [← HX.out]; exact hd
            rw [hd] at HDC
            clear hd HDN
            go_wp2_with fail
            refine HDC.out.mono ?_
            rintro e w2 ⟨rfl, hb2⟩
            have hb3 : Below w.heap.size w w2 := HB.out.trans (hb2.mono HB.out.size)
            have hB2 : w2.heap[B]? = some (.cells #[v, .map (some bm)] 59 (0, 0)) := (hb2.block B (Array.getElem?_eq_some_iff.1 hBc).1).trans hBc
            have c1 : w2.cell? ⟨B, 1, none⟩ = some (.map (some bm)) := by rw [cell_of_row w2 _ 1 _ _ _ hB2]; rfl
            have hmp2 : w2.ownsMap Tryz.prog 9 (plainElem Tryz.prog 3) bm k (mapL ls k) := by
              obtain ⟨es, clock, h5, h6⟩ := HP.out
              exact ⟨es, clock, (hb2.block bm (Array.getElem?_eq_some_iff.1 h5).1).trans h5, h6⟩
            have ho2 := Ut.own_below HO.out hb2
            have HP2 := Lib.hid hmp2; have HO2 := Lib.hid ho2; have HB2 := Lib.hid hB2; have HB3 := Lib.hid hb3
            clear hmp2 ho2 hB2 hb3 HB HP HO hBc hb2 HDC k1'
            by_cases hmem : ls[k] ∈ ls.take k
            · have HF : Hid (newL ls = (9, (k : Int))) := by show _ = _; rw [HK.out]; exact newAt_twice h HDY.out hmem
              have hhas : Maps.has (mapL ls k) (keyL x) = true := by
                obtain ⟨j, hj, ej⟩ := List.mem_take_iff_getElem.1 hmem
                rw [HX.out, ← ej]
                exact (map_yes k j (by omega) (by omega) fun i hi hik e => HD.out i j hi (by omega) hik (by omega) e).1
              clear hmem
              go_wp2_with (first | (at_lookup; refine wpList_lookup_own_ok_int _ rfl _ _ 57 rfl 9 3 .i64 kLaw Tryz.underlying57 Tryz.underlying3 (zeroI _) bm k _ rfl HP2.out _ (keyL x) rfl HKEY.out ?_; intro c2 hat hwc))
              go_ret2
              exact ⟨NewPost.no HF.out (by omega) (by unfold errV; rw [if_neg (by omega), if_neg (by omega)]; rfl), HB3.out⟩
            · have hhas : Maps.has (mapL ls k) (keyL x) = false := by
                rw [HX.out]
                exact map_no k fun i hi hik e => hmem (mem_take hi hik e)
              have HM2 := Lib.hid hmem
              clear hmem
              go_wp2_with (first | (at_lookup; refine wpList_lookup_own_ok_int _ rfl _ _ 57 rfl 9 3 .i64 kLaw Tryz.underlying57 Tryz.underlying3 (zeroI _) bm k _ rfl HP2.out _ (keyL x) rfl HKEY.out ?_; intro c2 hat hwc) | (at_mapUpdate; refine wpList_mapUpdate_own _ rfl _ _ _ 57 rfl 9 3 kLaw Tryz.underlying57 _ bm k _ rfl HP2.out (by unfold maxLen; omega) _ _ _ rfl rfl HKEY.out _ [] (plainElem_int Tryz.underlying3 (WalkArith.wf_i64 (by omega))) ?_; intro w3 hown3 hgrow3))
              go_roundw
              case rel => exact NRel.next h HDY.out HM2.out HK.out HD.out HB2.out HO2.out HP2.out HB3.out hbm (by rw [← HX.out]; exact hown3) hgrow3
              case measure => simp [intOf]; omega
        · obtain rfl : k = ls.length := by omega
          have HR := Lib.hid (NRel.book (by omega) hB0 hbm ⟨ls.length, Nat.le_refl _, rfl, HK.out, HD.out, hBc, HO.out, HP.out, HB.out⟩)
          go_wp2
          go_ret2
          exact ⟨HR.out, HB.out⟩

end Sc
end Go.Proofs.YtocoonkachbjaaaGreatDoor

/- (*scope.Book).All, Names, below: of any Book. -/
namespace Go.Proofs.YtocoonkachbjaaaGreatDoor
open Go.RowKit Go.Maps Go.ChangeMaps Go.Proofs.NmPlain Go.Proofs.Ar
set_option linter.unusedVariables false
namespace Sc

/-- A Book taken apart. -/
theorem BookAt.out {lo : Nat} {w : World} {B : Nat} {ls : List ByteArray} (h : BookAt lo w B ls) : ∃ q c bm, w.cell? ⟨B, 0, none⟩ = some (.slice q ls.length c) ∧ w.cell? ⟨B, 1, none⟩ = some (.map (some bm)) ∧
    TextArg w (.slice q ls.length c) ls ∧ w.ownsMap Tryz.prog 9 (plainElem Tryz.prog 3) bm ls.length (mapL ls ls.length) := by
  obtain ⟨v, bm, h1, h2, h3, h4, h5⟩ := h
  obtain ⟨q, c, rfl⟩ := own_shape h4
  exact ⟨q, c, bm, by rw [cell_of_row w _ 0 _ _ _ h1]; rfl, by rw [cell_of_row w _ 1 _ _ _ h1]; rfl, Tx.own_arg h4, h5⟩

theorem all_64 {ls : List ByteArray} (h : ls.length = 64) : ((allS ls : Nat) : Int) = 18446744073709551615 := by unfold allS; rw [h]; rfl
theorem all_lt {ls : List ByteArray} (h : ls.length < 64) : IntKind.u64.wrap (IntKind.u64.wrap ((2 : Int) ^ ls.length) - 1) = ((allS ls : Nat) : Int) := by
  have h1 := pow_u64 h
  have h2 : 0 < 2 ^ ls.length := Nat.pow_pos (by omega)
  have e : ((2 ^ ls.length : Nat) : Int) - 1 = ((2 ^ ls.length - 1 : Nat) : Int) := by omega
  rw [wrap_pow h, e, IntWalk.u64_in _ ⟨Int.natCast_nonneg _, Int.ofNat_le.2 (show 2 ^ ls.length - 1 ≤ 18446744073709551615 by omega)⟩]
  rfl

set_option maxHeartbeats 2000000 in
theorem all_any (lo B : Nat) (ls : List ByteArray) (hl : ls.length ≤ 64) (w : World) (hb : BookAt lo w B ls) :
    Calls Tryz.prog 65 #[.pointer (some ⟨B, 0, none⟩)] w fun e w' => e = .returned (.int .u64 (allS ls : Nat)) ∧ w = w' := by
  obtain ⟨q, c, bm, c0, c1, ht, hm⟩ := hb.out
  clear c1 ht hm hb
  by_cases h : ls.length = 64
  · have HA := Lib.hid (all_64 h)
    have e1 : ((ls.length : Int) == 64) = true := by rw [h]; rfl
    clear h
    go_enter Tryz.func65, Tryz.ntmps65
    go_wp2
    go_ret
    exact ⟨by rw [HA.out]; rfl, rfl⟩
  · have HA := Lib.hid (all_lt (ls := ls) (by omega))
    have e1 : ((ls.length : Int) == 64) = false := by rw [beq_eq_false_iff_ne]; omega
    have e2 : (0 : Int) ≤ (ls.length : Int) := by omega
    have e3 : (ls.length : Int) ≤ 63 := by omega
    clear h
    go_enter Tryz.func65, Tryz.ntmps65
    go_wp2
    go_ret
    exact ⟨by rw [← HA.out]; rfl, rfl⟩

end Sc
end Go.Proofs.YtocoonkachbjaaaGreatDoor

/- (*scope.Book).word: of any Book and any word. -/
namespace Go.Proofs.YtocoonkachbjaaaGreatDoor
open Go.RowKit Go.Maps Go.ChangeMaps Go.Proofs.NmPlain Go.Proofs.Ar
set_option linter.unusedVariables false
namespace Sc

end Sc
end Go.Proofs.YtocoonkachbjaaaGreatDoor

/- (*scope.Book).Parse: of any Book and any text. -/
namespace Go.Proofs.YtocoonkachbjaaaGreatDoor
open Go.RowKit Go.Maps Go.ChangeMaps Go.Proofs.NmPlain Go.Proofs.Ar
set_option linter.unusedVariables false
namespace Sc

/-- What Parse hands back. -/
def ParsePost (ls : List ByteArray) (l : Bs) (e : Ending) : Prop := e = .returned (.tuple #[.int .u64 ((parseL ls l).1 : Nat), errV (parseL ls l).2.1 (parseL ls l).2.2])
theorem ParsePost.mk {ls : List ByteArray} {l : Bs} {a : Nat} {no at_ : Int} {v : Value} (h : parseL ls l = (a, no, at_)) (hv : v = errV no at_) : ParsePost ls l (.returned (.tuple #[.int .u64 (a : Int), v])) := by
  unfold ParsePost; rw [h, hv]

end Sc
end Go.Proofs.YtocoonkachbjaaaGreatDoor
