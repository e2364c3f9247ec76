/- A session's line: what the document says of it. No program's code is walked here. -/
import Derived.Test.YtocoonkachbjaaaGreatDoorVwWords
import Derived.Test.YtocoonkachbjaaaGreatDoorScRefPrint
namespace Go.Proofs.YtocoonkachbjaaaGreatDoor
open Go.RowKit Go.Proofs.NmPlain Go.Proofs.YtocoonkachbjaaaGreatDoor.Sc
set_option linter.unusedVariables false

theorem vdpart_len (n c : Int) (h0 : 0 ≤ n) (h1 : n ≤ 1099511627777) : (dpart n c).length ≤ 22 := by
  unfold dpart
  split
  · have := Lib.itoa_length_le n (by omega) (by omega)
    simp; omega
  · simp
theorem vaccAt_len (t : Int) (h0 : 0 ≤ t) (h1 : t ≤ 1099511627776) : ∀ k, (accAt t k).length ≤ 22 * k
  | 0 => by simp [accAt]
  | k + 1 => by
    have ih := vaccAt_len t h0 h1 k
    obtain ⟨r1, r2⟩ := remAt_bd t h0 h1 k
    obtain ⟨c1, c2⟩ := worth_pos k
    have d1 : 0 ≤ remAt t k / worthOf k := Int.ediv_nonneg r1 (by omega)
    have d2 : remAt t k / worthOf k ≤ remAt t k := Int.ediv_le_self _ r1
    have := vdpart_len (remAt t k / worthOf k) (letterOf k) d1 (by omega)
    simp only [accAt, List.length_append]; omega
theorem vprt_len (t : Int) (h0 : 0 ≤ t) (h1 : t ≤ 1099511627776) : (prt t).length ≤ 88 := by
  unfold prt
  split
  · simp
  · exact vaccAt_len t h0 h1 4
theorem vjn_len {ls : List ByteArray} (hb : IsBook ls) (s : Nat) : ∀ k, k ≤ ls.length → (jn ls s k).length ≤ 133 * k
  | 0, _ => by simp [jn, selTo, Lib.join]
  | k + 1, hk => by
    have ih := vjn_len hb s k (by omega)
    have hd : ls[k].data.toList.length ≤ 132 := by
      rcases Nat.lt_or_ge 132 ls[k].data.toList.length with h | h
      · have := dotB_len h
        rw [hb.dots k (by omega)] at this; cases this
      · exact h
    cases h : s.testBit k with
    | false => rw [jn_no h]; omega
    | true =>
      by_cases he : jn ls s k = []
      · rw [jn_first hb (by omega) h he]; omega
      · rw [jn_more (by omega) h he]; simp only [List.length_append, List.length_cons, List.length_nil]; omega

namespace Vw
structure Sess where
  slot : Int
  birth : Int
  us : Int
  ub : Int
  kind : Int
  user : ByteArray
  label : ByteArray
  scopes : Nat
  level : Int
  born : Int
  dl : Int
  depth : Int
def whoL (s : Sess) : Bs := s.user.data.toList ++ if s.label.data.toList = [] then [] else 47 :: s.label.data.toList
def textL (ls : List ByteArray) (s : Sess) (now : Int) : Bs :=
  Lib.join [Lib.itoa s.birth, whoL s, kindL s.kind, levL s.level, 91 :: (printL ls s.scopes).1 ++ [93], prt (lft now s.dl)] [32]
/-- The line, or the number of what is wrong first. -/
def lineL (ls : List ByteArray) (s : Sess) (now : Int) : Bs × Int :=
  if s.birth < 1 ∨ 1048576 < s.birth then ([], 1)
  else if nameB s.user.data.toList = false ∨ (s.label.data.toList ≠ [] ∧ nameB s.label.data.toList = false) then ([], 8)
  else if s.kind < 0 ∨ 2 < s.kind then ([], 1)
  else if s.level < 0 ∨ 2 < s.level then ([], 13)
  else if 2 ^ ls.length ≤ s.scopes then ([], 11)
  else if now < 0 ∨ 1099511627776 < now ∨ s.dl < 0 ∨ 1099511627776 < s.dl then ([], 12)
  else (textL ls s now, 0)
theorem kind_no {k : Int} (h : k < 0 ∨ 2 < k) : kindL k = [] := by unfold kindL; rw [if_neg (by omega), if_neg (by omega), if_neg (by omega)]
theorem kind_yes {k : Int} (h0 : 0 ≤ k) (h1 : k ≤ 2) : kindL k ≠ [] := by
  have h : k = 0 ∨ k = 1 ∨ k = 2 := by omega
  rcases h with rfl | rfl | rfl <;> simp [kindL]
theorem scopes_err {ls : List ByteArray} {s : Nat} (h : 2 ^ ls.length ≤ s) : printL ls s = ([], 11) := by unfold printL; rw [if_pos h]
theorem scopes_ok {ls : List ByteArray} {s : Nat} (h : ¬ 2 ^ ls.length ≤ s) : printL ls s = (jn ls s ls.length, 0) := by unfold printL; rw [if_neg h]; rfl
theorem lft_bd {now d : Int} (h0 : 0 ≤ now) (h1 : d ≤ 1099511627776) : 0 ≤ lft now d ∧ lft now d ≤ 1099511627776 := by unfold lft; split <;> (try split) <;> omega
theorem tm_of {t : Int} (h0 : 0 ≤ t) (h1 : t ≤ 1099511627776) : tm t = true := by unfold tm; simp; omega

section
variable {ls : List ByteArray} {s : Sess} {now : Int}
theorem line_a (h : s.birth < 1 ∨ 1048576 < s.birth) : lineL ls s now = ([], 1) := if_pos h
variable (ha : ¬ (s.birth < 1 ∨ 1048576 < s.birth))
include ha
theorem line_b (h : nameB s.user.data.toList = false ∨ (s.label.data.toList ≠ [] ∧ nameB s.label.data.toList = false)) : lineL ls s now = ([], 8) := by unfold lineL; rw [if_neg ha, if_pos h]
variable (hb : ¬ (nameB s.user.data.toList = false ∨ (s.label.data.toList ≠ [] ∧ nameB s.label.data.toList = false)))
include hb
theorem line_c (h : s.kind < 0 ∨ 2 < s.kind) : lineL ls s now = ([], 1) := by unfold lineL; rw [if_neg ha, if_neg hb, if_pos h]
variable (hc : ¬ (s.kind < 0 ∨ 2 < s.kind))
include hc
theorem line_d (h : s.level < 0 ∨ 2 < s.level) : lineL ls s now = ([], 13) := by unfold lineL; rw [if_neg ha, if_neg hb, if_neg hc, if_pos h]
variable (hd : ¬ (s.level < 0 ∨ 2 < s.level))
include hd
theorem line_e (h : 2 ^ ls.length ≤ s.scopes) : lineL ls s now = ([], 11) := by unfold lineL; rw [if_neg ha, if_neg hb, if_neg hc, if_neg hd, if_pos h]
variable (he : ¬ 2 ^ ls.length ≤ s.scopes)
include he
theorem line_f (h : now < 0 ∨ 1099511627776 < now ∨ s.dl < 0 ∨ 1099511627776 < s.dl) : lineL ls s now = ([], 12) := by unfold lineL; rw [if_neg ha, if_neg hb, if_neg hc, if_neg hd, if_neg he, if_pos h]
theorem line_g (hf : ¬ (now < 0 ∨ 1099511627776 < now ∨ s.dl < 0 ∨ 1099511627776 < s.dl)) : lineL ls s now = (textL ls s now, 0) := by unfold lineL; rw [if_neg ha, if_neg hb, if_neg hc, if_neg hd, if_neg he, if_neg hf]
end

def LinePost (ls : List ByteArray) (s : Sess) (now : Int) (e : Ending) : Prop := e = .returned (.tuple #[.string ⟨(lineL ls s now).1.toArray⟩, errVal (lineL ls s now).2])
theorem LinePost.mk {ls : List ByteArray} {s : Sess} {now : Int} {a : ByteArray} {l : Bs} {no : Int} {v : Value} (h : lineL ls s now = (l, no)) (ha : a.data.toList = l) (hv : v = errVal no) : LinePost ls s now (.returned (.tuple #[.string a, v])) := by
  unfold LinePost; rw [h, hv]; subst ha; rfl
def RLinePost (ls : List ByteArray) (s : Sess) (now : Int) (e : Ending) : Prop := e = .returned (.tuple #[.string ⟨(lineL ls s now).1.toArray⟩, .int .i64 (lineL ls s now).2])
theorem RLinePost.mk {ls : List ByteArray} {s : Sess} {now : Int} {a : ByteArray} {l : Bs} {no : Int} {v : Int} (h : lineL ls s now = (l, no)) (ha : a.data.toList = l) (hv : v = no) : RLinePost ls s now (.returned (.tuple #[.string a, .int .i64 v])) := by
  unfold RLinePost; rw [h, hv]; subst ha; rfl

end Vw
end Go.Proofs.YtocoonkachbjaaaGreatDoor
