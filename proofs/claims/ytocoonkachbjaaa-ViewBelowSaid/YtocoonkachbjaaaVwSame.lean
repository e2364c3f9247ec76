/- lineageref0.SameSessions of two lists that are alike, wherever they lie. -/
import Derived.Test.YtocoonkachbjaaaVwSess
import Derived.Laws.StructEq
import Derived.Deep.MidRow
namespace Go.Proofs.Ytocoonkachbjaaa
open Go.RowKit
set_option linter.unusedVariables false
namespace Vw

set_option maxHeartbeats 2000000 in
theorem equal_sess (x : Sess) (W : World) : (Op.equalIn 10000 40 (.agg x.cells.toArray) (.agg x.cells.toArray)).run Try.prog W = .ok true W := by
  obtain ⟨a1, a2, a3, a4, a5, a6, a7, a8, a9, a10, a11, a12⟩ := x
  unfold Sess.cells
  go_simp
theorem neq_sess (x : Sess) (W : World) : (binOp .neq 40 (.agg x.cells.toArray) (.agg x.cells.toArray)).run Try.prog W = .ok (.bool false) W := by
  rw [run_neq_struct, equal_sess]; rfl

section
variable {ops : Array Oper} {C : World → Prop} {Q : Act → Prop} {a : Act} {o : Oper} {rest : List Oper}
theorem wpQuiet_value {P : Program} (v : Value) (hw : Region.wanted o (yielded ops a.tmps) = true) (hv : ∀ w, C w → (execOp a.eval o).run P w = .ok (.value v) w) (h : wpQuiet P ops C Q rest (a.put o.dst v)) : wpQuiet P ops C Q (o :: rest) a :=
  wpQuiet_step fun K hK => by
    rw [if_pos hw]
    exact ⟨v, fun w hC => by unfold Oper.quietAt; rw [hv w hC]; exact ⟨rfl, rfl⟩, hK _ h⟩
theorem wpQuiet_load_mid {P : Program} (hw : Region.wanted o (yielded ops a.tmps) = true) (ty : TypeId) (x : Operand) (ho : o.op = .load ty x)
    (b k : Nat) (hx : a.eval x = .pointer (some ⟨b, k, none⟩)) (cs : List Value) (d : TypeDesc) (hS : ∀ w, C w → w.rangeAt b k cs)
    (hu : P.underlying ty = some d) (hd : d.isRow = true) (hi : (P.info? ty).map (·.size) = some cs.length) (h : wpQuiet P ops C Q rest (a.put o.dst (.agg cs.toArray))) : wpQuiet P ops C Q (o :: rest) a :=
  wpQuiet_value (.agg cs.toArray) hw (fun w hw' => by
    unfold execOp
    simp only [ho, hx, Instr.loadAt, Instr.sureAddr, Sem.run_bind, Sem.run_pure, Result.andThen_ok, run_loadVar_mid w b k ty cs d (hS w hw') hu hd hi]) h
theorem exec_neq_sess (s : Sess) (tt : TypeId) (x y : Operand) (ho : o.op = .binOp .neq 40 x y tt) (hx : a.eval x = .agg s.cells.toArray) (hy : a.eval y = .agg s.cells.toArray) (w : World) :
    (execOp a.eval o).run Try.prog w = .ok (.value (.bool false)) w := by
  have e1 := run_eqGuard_agg (P := Try.prog) w .neq 40 x y s.cells.toArray s.cells.toArray (by kernel_rfl)
  unfold execOp
  simp only [ho, hx, hy, Sem.run_bind, e1, Result.andThen_ok, neq_sess, Sem.run_pure]
end

/-- A session of a list, where it lies. -/
theorem SessArg.at {w : World} {q : Option Addr} {n c : Nat} {ss : List Sess} (h : SessArg w (.slice q n c) ss) {k : Nat} (hk : k < ss.length) :
    ∃ g o, q = some ⟨g, o, none⟩ ∧ g < w.heap.size ∧ w.rangeAt g (o + k * 12) ss[k].cells := by
  obtain ⟨p, cap, e, h⟩ := h
  cases e
  obtain ⟨g, o, rfl, hg, hc⟩ := h k hk
  exact ⟨g, o, rfl, hg, fun j v hv => hc j v hv⟩

def SameRel (n : Nat) (w : World) (i : Value) (wr : World) : Prop :=
  ∃ k : Nat, k ≤ n ∧ i = .int .i64 k ∧ Below w.heap.size w wr

set_option maxHeartbeats 2000000 in
theorem sameS_any (v u : Value) (ss : List Sess) (hl : (ss.length : Int) ≤ 9223372036854775807) (w : World) (h1 : SessArg w v ss) (h2 : SessArg w u ss) :
    Calls Try.prog 11 #[v, u] w fun e w' => e = .returned (.bool true) ∧ Below w.heap.size w w' := by
  obtain ⟨p, cp, rfl, -⟩ := id h1
  obtain ⟨q, cq, rfl, -⟩ := id h2
  have H1 := Lib.hid h1; have H2 := Lib.hid h2
  clear h1 h2
  have e1 : ((ss.length : Int) != (ss.length : Int)) = false := by simp
  go_enter Try.func11, Try.ntmps11
  go_wp2
  go_loopw [5] (fun i wr => SameRel ss.length w i wr) (fun i _ => ss.length - (intOf i).toNat)
  case atStart => exact ⟨0, Nat.zero_le _, rfl, Below.refl _ _⟩
  case round =>
    obtain ⟨k, hk, rfl, hbr⟩ := hrel
    by_cases h : k < ss.length
    · obtain ⟨g1, o1, rfl, hg1, k1⟩ := H1.out.at h
      obtain ⟨g2, o2, rfl, hg2, k2⟩ := H2.out.at h
      have k1' : wr.rangeAt g1 (o1 + k * 12) ss[k].cells := fun j x hx => (hbr.cell (p := ⟨g1, o1 + k * 12 + j, none⟩) hg1).trans (k1 j x hx)
      have k2' : wr.rangeAt g2 (o2 + k * 12) ss[k].cells := fun j x hx => (hbr.cell (p := ⟨g2, o2 + k * 12 + j, none⟩) hg2).trans (k2 j x hx)
      have b1 : (0 : Int) ≤ (k : Int) := by omega
      have b2 : (k : Int) < (ss.length : Int) := by omega
      obtain ⟨sk, hsk⟩ : ∃ sk, sk = ss[k] := ⟨_, rfl⟩
      have r1 : ∀ w', (∃ n, w' = wr.drewN n) → w'.rangeAt g1 (o1 + k * 12) sk.cells := by rintro w' ⟨n, rfl⟩ j x hx; rw [World.cell?_drewN]; rw [hsk] at hx; exact k1' j x hx
      have r2 : ∀ w', (∃ n, w' = wr.drewN n) → w'.rangeAt g2 (o2 + k * 12) sk.cells := by rintro w' ⟨n, rfl⟩ j x hx; rw [World.cell?_drewN]; rw [hsk] at hx; exact k2' j x hx
      clear k1 k2 k1' k2' hsk
      have R1 := Lib.hid r1; have R2 := Lib.hid r2
      clear r1 r2
      go_wp2
      refine wp_region_quiet_lit (by kernel_rfl) (by kernel_rfl) ?_
      quiet_step (fail)
      quiet_step (fail)
      quiet_step (fail)
      refine wpQuiet_load_mid (by rfl) 40 (.tmp 19) rfl g1 (o1 + k * 12) rfl sk.cells _ R1.out Try.underlying40 rfl (by kernel_rfl) ?_
      quiet_step (fail)
      quiet_step (fail)
      quiet_step (fail)
      refine wpQuiet_load_mid (by rfl) 40 (.tmp 23) rfl g2 (o2 + k * 12) rfl sk.cells _ R2.out Try.underlying40 rfl (by kernel_rfl) ?_
      refine wpQuiet_value (.bool false) (by rfl) (fun w' _ => exec_neq_sess sk _ (.tmp 20) (.tmp 24) rfl rfl rfl w') ?_
      refine wpQuiet_nil ?_
      rintro _ ⟨nq, rfl⟩
      go_wp2
      go_roundw
      case rel => exact ⟨k + 1, by omega, by go_num, Ut.below_drewN hbr _⟩
      case measure => simp [intOf]; omega
    · have b2 : (ss.length : Int) ≤ (k : Int) := by omega
      go_wp2
      go_ret
      exact ⟨rfl, hbr⟩
end Vw
end Go.Proofs.Ytocoonkachbjaaa
