/- Parts of the proof. -/
import Derived.Test.YtimhglmfckfclaaGreatDoorM43
set_option linter.unusedVariables false
set_option linter.unusedSimpArgs false
set_option maxRecDepth 100000
set_option maxHeartbeats 16000000
namespace Go.Proofs.YtimhglmfckfclaaGreatDoor
section
open Go.RowKit
theorem forestKnown_walk (w:World) (hL:laidMetH Tryz.prog Rows.forestKnownRow.laid w) :
  Calls Tryz.prog 4 #[] w fun e w' => e = .returned (.bool true)/\Below w.heap.size w w' :=
 Fr.Fk.forestKnown_core w (handle_of_laid hL (by kernel_rfl))
end
end Go.Proofs.YtimhglmfckfclaaGreatDoor
