/- names.Dotted, names.Under, of any texts of at most 2^24 bytes. -/
import Derived.Test.YtocoonkachbjaaaGreatDoorNmParts
namespace Go.Proofs.YtocoonkachbjaaaGreatDoor
open Go.RowKit Go.Proofs.NmPlain
set_option linter.unusedVariables false

set_option maxHeartbeats 1000000 in
theorem dotted_any (s : ByteArray) (hs : (s.size : Int) ≤ 16777216) (w : World) (hm : MaxAt w) :
    Calls Tryz.prog 21 #[.string s] w fun e w' => e = .returned (.bool (dotB s.data.toList)) ∧ Below w.heap.size w w' := by
  have hp := parts_any s hs w hm
  have HP := Lib.hid hp
  clear hp hm
  have hq := fun (w : World) a n c => run_neq_slice_nil_any (P := Tryz.prog) w 22 9 a n c 0 0 Tryz.underlying22
  go_enter Tryz.func21, Tryz.ntmps21
  go_wp2_with fail
  refine HP.out.mono ?_
  rintro e w1 ⟨v, rfl, hv, hb⟩
  rcases hv with ⟨hd, rfl⟩ | ⟨hd, g, ps, rfl, hg, hsp, ht⟩
  · have HD := Lib.hid hd; clear hd
    go_wp2
    go_ret
    exact ⟨Ut.ret_bool HD.out.symm, hb⟩
  · have HD := Lib.hid hd; clear hd hsp ht
    go_wp2
    go_ret
    exact ⟨Ut.ret_bool HD.out.symm, hb⟩

/-- Does one scope's name stand under another? -/
def underB (l m : Bs) : Bool := dotB l && dotB m && decide ((split m).length ≤ (split l).length) && decide ((split l).take (split m).length = split m)

theorem map_inj {xs ys : List ByteArray} (h : xs.map (·.data.toList) = ys.map (·.data.toList)) : xs = ys := by
  have : Function.Injective (fun x : ByteArray => x.data.toList) := fun a b e => by
    cases a; cases b; simpa using e
  exact List.map_inj_right (fun _ _ e => this e) |>.1 h

end Go.Proofs.YtocoonkachbjaaaGreatDoor
