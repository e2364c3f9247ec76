/- What the rows' lists say of the clock's table and of strconv's powers of ten. -/
import Derived.Test.YtocoonkachbjaaaGreatDoorClkRefPrint
import Derived.Test.YtocoonkachbjaaaGreatDoorHandle
import Derived.Test.YtocoonkachbjaaaGreatDoorReads
namespace Go.Proofs.YtocoonkachbjaaaGreatDoor
open Go.RowKit
set_option linter.unusedVariables false

theorem filt {l : List (String × DataW Unit)} {n : String} {d : DataW Unit} {W : World} (h : laidMetH Tryz.prog l W) (e : (l.filter fun x => x.1 == n) = [(n, d)]) (hd : d.handleName?.isNone = true) : laidMet Tryz.prog [(n, d)] W := by
  have h0 := laidMetH.filter (fun x => x.1 == n) h
  rw [e] at h0
  rwa [MakeChecks.laidMetH_plain _ _ _ (by simp [hd])] at h0

theorem gPow : Tryz.prog.globalNamed "internal/strconv.uint64pow10" = some 3 := by kernel_rfl
theorem gPowType : (Tryz.prog.globals[3]?).map (·.type) = some 195 := by kernel_rfl
theorem powCells : Tryz.prog.cellsOf 195 = 20 := by kernel_rfl
theorem u64Cells : Tryz.prog.cellsOf 27 = 1 := by kernel_rfl
theorem pow_of_laid {l : List (String × DataW Unit)} {W : World} (h : laidMetH Tryz.prog l W) (e : (l.filter fun x => x.1 == "internal/strconv.uint64pow10") = [("internal/strconv.uint64pow10", Rows.laid_internal_strconv_uint64pow10)]) : Lib.TabIs Tryz.prog W "internal/strconv.uint64pow10" .u64 Lib.pow10Tab :=
  Lib.tabIs_of_head (rest := []) gPow gPowType Tryz.underlying195 Tryz.underlying27 u64Cells powCells (filt h e rfl)

theorem gParts : Tryz.prog.globalNamed "lineage/clock.parts" = some 0 := by kernel_rfl
theorem gPartsType : (Tryz.prog.globals[0]?).map (·.type) = some 113 := by kernel_rfl
theorem partsCellsOf : Tryz.prog.cellsOf 113 = 4 * 3 := by kernel_rfl
theorem partCellsOf : Tryz.prog.cellsOf 112 = 3 := by kernel_rfl
theorem i64Cells : Tryz.prog.cellsOf 3 = 1 := by kernel_rfl
theorem u8Cells : Tryz.prog.cellsOf 5 = 1 := by kernel_rfl

theorem parts_of_laid {l : List (String × DataW Unit)} {W : World} (h : laidMetH Tryz.prog l W) (e : (l.filter fun x => x.1 == "lineage/clock.parts") = [("lineage/clock.parts", Rows.laid_lineage_clock_parts)]) : PartsAt W := by
  obtain ⟨g, t, cs, fuel, p, h1, h2, h3, h4⟩ := Lib.laidMet.reads (filt h e rfl) (List.mem_singleton.2 rfl)
  obtain rfl := Option.some.inj (gParts.symm.trans h1)
  obtain rfl := Option.some.inj (gPartsType.symm.trans h2)
  have hc := Rd.array_structs (zss := [[(.u8, 100), (.i64, 86400), (.i64, 1099511627777)], [(.u8, 104), (.i64, 3600), (.i64, 23)], [(.u8, 109), (.i64, 60), (.i64, 59)], [(.u8, 115), (.i64, 1), (.i64, 59)]]) Tryz.underlying113 Tryz.underlying112 (fun i f hf => by
    match i, hf with
    | 0, hf => simp at hf; subst hf; exact ⟨⟨_, Tryz.underlying5⟩, rfl, u8Cells⟩
    | 1, hf => simp at hf; subst hf; exact ⟨⟨_, Tryz.underlying3⟩, rfl, i64Cells⟩
    | 2, hf => simp at hf; subst hf; exact ⟨⟨_, Tryz.underlying3⟩, rfl, i64Cells⟩
    | n + 3, hf => simp at hf) partCellsOf partsCellsOf h4
  have hcs : cs = partsCells := by
    have : cs.toList = partsCells.toList := hc
    exact Array.toList_inj.1 this
  unfold World.var? at h3
  rw [gParts] at h3
  simp only [Option.bind_some] at h3
  split at h3
  · rename_i c t' fr hh
    refine ⟨t', fr, ?_⟩
    rw [hh]
    cases h3; rw [← hcs]
  · cases h3

end Go.Proofs.YtocoonkachbjaaaGreatDoor
