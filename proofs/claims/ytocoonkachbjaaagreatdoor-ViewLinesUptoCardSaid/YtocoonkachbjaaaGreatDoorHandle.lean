/- What a row's list says of errors.errorType: the variable's cell. -/
import Derived.Test.YtocoonkachbjaaaGreatDoorErrs2
import Derived.Test.YtocoonkachbjaaaGreatDoorRows
import Derived.ProofKit
import Derived.LaidLaws
import Derived.LaidHandle
import Derived.LaidSub
import Derived.Stop.Joined
namespace Go.Proofs.YtocoonkachbjaaaGreatDoor
open Go.RowKit
set_option linter.unusedVariables false

theorem er_et : Tryz.prog.globalNamed "errors.errorType" = some 1 := by kernel_rfl
theorem er_rt : (Tryz.prog.cutTypes.find? (·.1 == "internal/reflectlite.rtype")).map (·.2) = some 161 := by kernel_rfl
theorem er_oneRow : ((List.range 234).filter fun t => Tryz.prog.rowNamed t [101, 114, 114, 111, 114]) = [33] := by kernel_rfl
theorem er_size : Tryz.prog.types.size = 234 := by kernel_rfl

theorem handle_of_laid {l : List (String × DataW Unit)} {W : World} (h : laidMetH Tryz.prog l W) (e : (l.filter fun x => x.1 == "errors.errorType") = [("errors.errorType", Rows.laid_errors_errorType)]) : erHandle W := by
  have h0 := laidMetH.filter (fun x => x.1 == "errors.errorType") h
  rw [e] at h0
  have h' : laidMet Tryz.prog [] W ∧ handlesMet Tryz.prog [("errors.errorType", Rows.laid_errors_errorType)] W := h0
  obtain ⟨name, u, ty, e1, e2, e3, e4, e5⟩ := h'.2 _ (List.mem_singleton.2 rfl)
  have en : name = [101, 114, 114, 111, 114] := (Option.some.inj e1).symm
  subst en
  obtain rfl := Option.some.inj (er_rt.symm.trans e2)
  have hm : ty ∈ (List.range 234).filter fun t => Tryz.prog.rowNamed t [101, 114, 114, 111, 114] := List.mem_filter.2 ⟨List.mem_range.2 (by rw [← er_size]; exact e3), e4⟩
  rw [er_oneRow] at hm
  obtain rfl := List.mem_singleton.1 hm
  have hh : typeHandle Tryz.prog 33 = .pointer (some ⟨8, 33, none⟩) := by kernel_rfl
  rw [hh] at e5
  unfold erHandle
  simpa using World.var?_cell er_et e5 0

end Go.Proofs.YtocoonkachbjaaaGreatDoor
