/- (Without the names' comparison.) The reference's pieces of a text: a new list of texts, of the call's own. -/
import Derived.WalkKit
import Derived.WalkLawsBesides
import Derived.WalkSpells
import Derived.Lib.Hide
import Derived.BigQuiet
import Derived.Deep.QuietTactic
import Derived.Deep.RegionWith
import Derived.Test.YtocoonkachbjaaaGreatDoorProg
import Derived.Test.YtocoonkachbjaaaGreatDoorNmPlain
import Derived.Maps.AppendAt
namespace Go.Proofs.YtocoonkachbjaaaGreatDoor
open Go.RowKit Go.Proofs.NmPlain
set_option linter.unusedVariables false

theorem nm_info : (Tryz.prog.info? 9).map (fun i => (i.zero, i.size, i.bytes)) = some (some (.string ByteArray.empty), 1, 16) := by kernel_rfl

/-- Behind an append of one element to a list of the call's own. -/
theorem below_app {B : Nat} {w wr w1 : World} {e size n : Nat} {v : Value} {xs : List Value} {o : Obj} (hnx : Below B w wr) (hB : B ≤ wr.heap.size) (hown : wr.ownsRow B e size v n xs) (hgrow : (wr.alloc o).grownBy w1 v.ownBlock) : Below B w w1 :=
  (hnx.alloc hB o).grown hgrow (by simp; omega) (fun j hj => (hown.lt j hj).1)

end Go.Proofs.YtocoonkachbjaaaGreatDoor
