/- (*scope.Book).word: of any Book and any word. -/
import Derived.Test.YtocoonkachbjaaaGreatDoorScMeth
namespace Go.Proofs.YtocoonkachbjaaaGreatDoor
open Go.RowKit Go.Maps Go.ChangeMaps Go.Proofs.NmPlain Go.Proofs.Ar
set_option linter.unusedVariables false
namespace Sc

theorem eq_one {ls : List ByteArray} (hb : IsBook ls) {l : Bs} {j : Nat} (hj : j < ls.length) (h : ls[j].data.toList = l) : setBy (eqAt ls l) ls.length = 2 ^ j := by
  rw [← setBy_one hj]
  refine setBy_congr fun i hi => ?_
  rw [eqAt_at hi]
  by_cases e : i = j
  · subst e; simp [h]
  · have : ¬ ls[i].data.toList = l := fun h2 => e (hb.once i j hi hj (by
      have h3 : ls[i].data.toList = ls[j].data.toList := by rw [h2, h]
      cases ha : ls[i]; cases hb : ls[j]
      rw [ha, hb] at h3
      simpa using h3))
    rw [decide_eq_false this]
    exact (beq_eq_false_iff_ne.2 e).symm
theorem eq_none {ls : List ByteArray} {l : Bs} (h : ∀ i (hi : i < ls.length), ls[i].data.toList ≠ l) : setBy (eqAt ls l) ls.length = 0 :=
  setBy_none fun i hi => by rw [eqAt_at hi, decide_eq_false (h i hi)]

theorem suffix_iff (l : Bs) : Lib.hasSuffix l [46, 42] = true ↔ 2 ≤ l.length ∧ l.drop (l.length - 2) = [46, 42] := by
  unfold Lib.hasSuffix
  rw [List.isSuffixOf_iff_suffix, List.suffix_iff_eq_drop]
  constructor
  · intro h
    have h2 := congrArg List.length h
    simp at h2
    exact ⟨by omega, h.symm⟩
  · intro h; exact h.2.symm
theorem trim_eq {l : Bs} (h : Lib.hasSuffix l [46, 42] = true) : Lib.trimSuffix l [46, 42] = l.take (l.length - 2) := by
  unfold Lib.trimSuffix; rw [if_pos h]; rfl

theorem int_of_lit {q : IntKind} {a b : Int} {d : DataW Unit} (h1 : d = .lit (.int q a)) (h2 : d = .lit (.int q b)) : a = b := by
  have h := h1.symm.trans h2
  injection h with h
  injection h

/-- A look-up whose answer is known. -/
theorem look_known {P : Program} {w : World} {ops : Array Oper} {rest : List Oper} {o : Oper} {a : Act} {Q : Exit → Act → World → Prop} (hg : o.guard = none) (m x : Operand) (t : TypeId) (hop : o.op = Op.lookup t m x true)
    (k e : TypeId) (K : Keyed P k) (ht : P.underlying t = some (.map k e)) (he : P.underlying e = some (.int .i64)) (hz : (zeroValue e).run P w = .ok (.int .i64 0) w) (b n : Nat) (D : DataW Unit)
    (hm : a.eval m = .map (some b)) (hown : w.ownsMap P k (plainElem P e) b n D) (key : Value) (kl : Lit) (hx : a.eval x = key) (hkey : keyOf P k key = some kl) (j : Int) (hj : D.atKey kl (.lit (.int .i64 0)) = .lit (.int .i64 j)) (hh : Maps.has D kl = true)
    (hK : wpList P ops Q rest (a.put o.dst (.tuple #[.int .i64 j, .bool true])) w) : wpList P ops Q (o :: rest) a w :=
  wpList_lookup_own_ok_int w hg m x t hop k e .i64 K ht he hz b n D hm hown key kl hx hkey fun c hat _ => by
    have e1 : c = j := int_of_lit hat hj
    rw [e1, hh]; exact hK

theorem retw {a : Nat} {b : Int} {p : Nat × Int} (h : p = (a, b)) : Ending.returned (.tuple #[.int .u64 (a : Int), .int .i64 b]) = .returned (.tuple #[.int .u64 (p.1 : Int), .int .i64 p.2]) := by
  subst h; rfl

end Sc
end Go.Proofs.YtocoonkachbjaaaGreatDoor
