/- Marks of texts. -/
import Derived.Test.YtocoonkachbjaaaProg
import Derived.Test.YtocoonkachbjaaaUtil
import Derived.Laws.Concat
import Derived.Laws.BytesString
import Derived.Laws.BytesArg
import Derived.BigQuiet
import Derived.Deep.QuietTactic
import Derived.Deep.RegionWith
import Derived.WalkLawsBesides
import Derived.WalkSpells
import Derived.OwnWalk
import Derived.Outline
import Derived.Lib.Strings
namespace Go.Proofs.Ytocoonkachbjaaa
open Go.RowKit
set_option linter.unusedVariables false

theorem mk_info : (Try.prog.info? 9).map (fun i => (i.zero, i.size, i.bytes)) = some (some (.string ByteArray.empty), 1, 16) := by kernel_rfl
theorem mk_eq (p : ByteArray) : (p.toList == p.toList) = true := by simp

theorem conv_five (w : World) (x0 x1 x2 x3 x4 : Int) : (convert 67 9 (.slice (some ⟨w.heap.size, 0, none⟩) 5 5)).run Try.prog (w.alloc (.cells #[.int .u8 x0, .int .u8 x1, .int .u8 x2, .int .u8 x3, .int .u8 x4] 5)) = .ok (.string (strOfNums [x0, x1, x2, x3, x4])) (w.alloc (.cells #[.int .u8 x0, .int .u8 x1, .int .u8 x2, .int .u8 x3, .int .u8 x4] 5)) :=
  run_convert_bytes_arg (w.alloc (.cells #[.int .u8 x0, .int .u8 x1, .int .u8 x2, .int .u8 x3, .int .u8 x4] 5)) 67 5 Try.underlying67 Try.underlying5 w.heap.size 0 5 5 [x0, x1, x2, x3, x4] rfl (fun i hi => by
    match i, hi with
    | 0, _ => simp
    | 1, _ => simp
    | 2, _ => simp
    | 3, _ => simp
    | 4, _ => simp) 9 Try.underlying9

/-- A mark. -/
def markB (k i : Nat) : ByteArray := strOfNums [35, (k : Int) % 256, (k : Int) / 256 % 256, (i : Int) % 256, (i : Int) / 256 % 256]

set_option maxHeartbeats 1000000 in
theorem markText_any (k i : Nat) (hk : (k : Int) < 1099511627776) (hi : (i : Int) < 1099511627776) (w : World) :
    Calls Try.prog 33 #[.int .i64 k, .int .i64 i] w fun e w' => e = .returned (.string (markB k i)) ∧ Below w.heap.size w w' := by
  have hcv := conv_five w 35 ((k : Int) % 256) ((k : Int) / 256 % 256) ((i : Int) % 256) ((i : Int) / 256 % 256)
  have hbl : Below w.heap.size w (w.alloc (.cells #[.int .u8 35, .int .u8 ((k : Int) % 256), .int .u8 ((k : Int) / 256 % 256), .int .u8 ((i : Int) % 256), .int .u8 ((i : Int) / 256 % 256)] 5)) := (Below.refl _ _).alloc (Nat.le_refl _) _
  go_enter Try.func33, Try.ntmps33
  go_wp2
  go_ret
  exact ⟨rfl, hbl⟩

end Go.Proofs.Ytocoonkachbjaaa
