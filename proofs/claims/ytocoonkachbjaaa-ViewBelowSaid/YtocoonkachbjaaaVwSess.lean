/- Lists of sessions among the arguments, and the document's Parent. -/
import Derived.Test.YtocoonkachbjaaaUtil
import Derived.Test.YtocoonkachbjaaaVwBlk
import Derived.Test.YtocoonkachbjaaaProg
import Derived.BigQuiet
import Derived.Deep.QuietTactic
import Derived.Outline
import Derived.WalkLawsBesides
import Derived.WalkSpells
namespace Go.Proofs.Ytocoonkachbjaaa
open Go.RowKit
set_option linter.unusedVariables false
namespace Vw
structure Sess where
  slot : Int
  birth : Int
  us : Int
  ub : Int
  kind : Int
  user : ByteArray
  label : ByteArray
  scopes : Nat
  level : Int
  born : Int
  dl : Int
  depth : Int
def Sess.cells (s : Sess) : List Value := [.int .i64 s.slot, .int .i64 s.birth, .int .i64 s.us, .int .i64 s.ub, .int .i64 s.kind, .string s.user, .string s.label, .int .u64 (s.scopes : Int), .int .i64 s.level, .int .i64 s.born, .int .i64 s.dl, .int .i64 s.depth]
/-- A list of sessions, wherever it lies. -/
def SessArg (w : World) (v : Value) (ss : List Sess) : Prop :=
  ∃ p cap, v = .slice p ss.length cap ∧ ∀ j (hj : j < ss.length), ∃ g o, p = some ⟨g, o, none⟩ ∧ g < w.heap.size ∧ ∀ (i : Nat) (u : Value), ss[j].cells[i]? = some u → w.cell? ⟨g, o + j * 12 + i, none⟩ = some u
theorem SessArg.below {w w' : World} {v : Value} {ss : List Sess} (h : SessArg w v ss) (hb : Below w.heap.size w w') : SessArg w' v ss := by
  obtain ⟨p, cap, rfl, h⟩ := h
  refine ⟨p, cap, rfl, fun j hj => ?_⟩
  obtain ⟨g, o, h1, h2, h3⟩ := h j hj
  exact ⟨g, o, h1, Nat.lt_of_lt_of_le h2 hb.size, fun i u hi => (hb.cell (p := ⟨g, o + j * 12 + i, none⟩) h2).trans (h3 i u hi)⟩
/-- The births, and those of the parents. -/
def bu (ss : List Sess) : List (Int × Int) := ss.map fun s => (s.birth, s.ub)
theorem bu_at {ss : List Sess} {j : Nat} (hj : j < ss.length) : (bu ss)[j]? = some (ss[j].birth, ss[j].ub) := by
  unfold bu; rw [List.getElem?_map, List.getElem?_eq_getElem hj]; rfl
def parI (l : List (Int × Int)) (n : Nat) : Int := match Vt.par l n with
  | none => -1
  | some p => p

def PRel (l : List (Int × Int)) (up : Int) (n : Nat) (w : World) (i : Value) (wr : World) : Prop :=
  ∃ k : Nat, k ≤ n ∧ i = .int .i64 ((k : Int) - 1) ∧ Vt.lastTo l up n = Vt.lastTo l up k ∧ Below w.heap.size w wr

set_option maxHeartbeats 2000000 in
theorem rparent_any (v : Value) (ss : List Sess) (hl : (ss.length : Int) ≤ 9223372036854775807) (n : Nat) (hn : n < ss.length) (w : World) (h1 : SessArg w v ss) :
    Calls Try.prog 22 #[v, .int .i64 n] w fun e w' => e = .returned (.int .i64 (parI (bu ss) n)) ∧ Below w.heap.size w w' := by
  obtain ⟨p, cap, rfl, h⟩ := h1
  obtain ⟨g, o, rfl, hg, hc⟩ := h n hn
  have e0 : w.cell? ⟨g, o + n * 12 + 2 + 1, none⟩ = some (.int .i64 ss[n].ub) := hc 3 _ rfl
  have b0 : (0 : Int) ≤ (n : Int) := by omega
  have b1 : (n : Int) < (ss.length : Int) := by omega
  by_cases hz : ss[n].ub = 0
  · have hp : parI (bu ss) n = -1 := by unfold parI Vt.par; rw [bu_at hn]; simp only; rw [if_pos hz]
    rw [hp]
    rw [hz] at e0
    clear hc h hz hp
    go_enter Try.func22, Try.ntmps22
    go_wp2
    go_ret
    exact ⟨rfl, Below.refl _ _⟩
  · have hp : Vt.par (bu ss) n = Vt.lastTo (bu ss) ss[n].ub n := by unfold Vt.par; rw [bu_at hn]; simp only; rw [if_neg hz]
    have hq : (ss[n].ub == 0) = false := by rw [beq_eq_false_iff_ne]; exact hz
    obtain ⟨U, hU⟩ : ∃ U, U = ss[n].ub := ⟨_, rfl⟩
    rw [← hU] at hp hq e0
    have HP := Lib.hid hp
    have H := Lib.hid h
    have w1 : IntKind.i64.wrap ((n : Int) - 1) = (n : Int) - 1 := IntWalk.i64_in _ (by omega)
    clear hc h hz hp hU
    go_enter Try.func22, Try.ntmps22
    go_wp2
    go_loopw [5] (fun i wr => PRel (bu ss) U n w i wr) (fun i _ => (intOf i + 1).toNat)
    case atStart => exact ⟨n, Nat.le_refl _, rfl, rfl, Below.refl _ _⟩
    case round =>
      obtain ⟨k, hk, rfl, heq, hbr⟩ := hrel
      have HE := Lib.hid heq; clear heq
      rcases Nat.eq_zero_or_pos k with rfl | h0
      · have hno : parI (bu ss) n = -1 := by unfold parI; rw [HP.out, HE.out]; rfl
        have HF : Hid (Ending.returned (.int .i64 (-1)) = .returned (.int .i64 (parI (bu ss) n))) := by show _ = _; rw [hno]
        clear hno
        go_wp2
        go_ret
        exact ⟨HF.out, hbr⟩
      · obtain ⟨j, rfl⟩ : ∃ j, k = j + 1 := ⟨k - 1, by omega⟩
        have hj : j < ss.length := by omega
        obtain ⟨g2, o2, e2, hg2, k2⟩ := H.out j hj
        cases e2
        have e1 : wr.cell? ⟨g, o + j * 12 + 1, none⟩ = some (.int .i64 ss[j].birth) := (hbr.cell (p := ⟨g, o + j * 12 + 1, none⟩) hg).trans (k2 1 _ rfl)
        have e0' : wr.cell? ⟨g, o + n * 12 + 2 + 1, none⟩ = some (.int .i64 U) := (hbr.cell (p := ⟨g, o + n * 12 + 2 + 1, none⟩) hg).trans e0
        have c1 : ((j + 1 : Nat) : Int) - 1 = (j : Int) := by omega
        rw [c1]
        have c2 : (0 : Int) ≤ (j : Int) := by omega
        have c3 : (j : Int) < (ss.length : Int) := by omega
        have w2 : IntKind.i64.wrap ((j : Int) - 1) = (j : Int) - 1 := IntWalk.i64_in _ (by omega)
        obtain ⟨X, hX⟩ : ∃ X, X = ss[j].birth := ⟨_, rfl⟩
        rw [← hX] at e1
        have hlast : Vt.lastTo (bu ss) U (j + 1) = if X = U then some j else Vt.lastTo (bu ss) U j := by
          rw [Vt.lastTo, bu_at hj, hX]; simp
        clear k2 hX
        by_cases hxu : X = U
        · subst hxu
          rw [if_pos rfl] at hlast
          have HF : Hid (Ending.returned (.int .i64 (j : Int)) = .returned (.int .i64 (parI (bu ss) n))) := by show _ = _; unfold parI; rw [HP.out, HE.out, hlast]
          clear hlast c1
          have hxq : (X == X) = true := by simp
          go_wp2
          go_quiet (fail)
          go_wp2
          go_ret
          exact ⟨HF.out, Ut.below_drewN hbr _⟩
        · rw [if_neg hxu] at hlast
          have HE2 : Hid (Vt.lastTo (bu ss) U n = Vt.lastTo (bu ss) U j) := by show _ = _; rw [HE.out, hlast]
          have hxq : (X == U) = false := by rw [beq_eq_false_iff_ne]; exact hxu
          clear hlast c1 hxu
          go_wp2
          go_quiet (fail)
          go_wp2
          go_roundw
          case rel => exact ⟨j, by omega, by go_num, HE2.out, Ut.below_drewN hbr _⟩
          case measure => simp [intOf]
end Vw
end Go.Proofs.Ytocoonkachbjaaa
