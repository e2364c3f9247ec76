/- An expiry: the law's works. -/
import Derived.Test.YtkmgpajodbadmaaExpDue
import Derived.Test.YtkmgpajodbadmaaExpNext
namespace Go.Proofs.Ytkmgpajodbadmaa
open Go.RowKit
set_option linter.unusedVariables false
namespace Ex

set_option maxHeartbeats 2000000 in
theorem eworks_any (w : World) : Calls Try.prog 19 #[] w fun e w' => e = .returned (.bool true) ∧ Below w.heap.size w w' := by
  have HNEW := Lib.hid (enew_any w)
  have hfn := fun (a b : Nat) (w : World) => (by kernel_rfl : (binOp .neq 55 (.func (.func 36) #[] #[.pointer (some ⟨a, 0, none⟩), .pointer (some ⟨b, 0, none⟩)]) .nilFunc).run Try.prog w = .ok (.bool true) w)
  go_enter Try.func19, Try.ntmps19
  go_wp2_with fail
  refine HNEW.out.mono ?_
  rintro e w1 ⟨E, F1, rfl, hx1, hb1⟩
  have HS := Lib.hid ((eset_ok w.heap.size E 0 [] F1 w1 hx1 hb1.size (by omega) 3 1 9 (by unfold okE; omega)).mono fun e w2 h2 => (h2 : SetPost w.heap.size E 0 [] F1 (3, 1, 9) w1 e w2))
  have HX1 := Lib.hid hx1; have HB1 := Lib.hid hb1
  clear hx1 hb1
  go_wp2_with fail
  refine HS.out.mono ?_
  rintro e w2 ⟨rfl, F2, hx2, ho2, hn2⟩
  have HX2 := Lib.hid hx2
  have hb2 : Below w.heap.size w w2 := HB1.out.trans (ho2.below HB1.out.size (fun i hi hf => by have := (HX1.out.lt i hf).1; omega))
  have HB2 := Lib.hid hb2
  have HNX := Lib.hid ((enext_any w.heap.size E 1 _ F2 w2 hx2).mono fun e w3 h3 => (h3 : e = .returned (.tuple #[.int .i64 9, .bool true]) ∧ Below w2.heap.size w2 w3))
  clear hx2 ho2 hn2 hb2
  go_wp2_with fail
  refine HNX.out.mono ?_
  rintro e w3 ⟨rfl, hb3⟩
  have HB3 := Lib.hid (HB2.out.trans (hb3.mono HB2.out.size))
  have HDU := Lib.hid (edue_any E 0 w3)
  clear hb3
  go_wp2_with fail
  refine HDU.out.mono ?_
  rintro e w4 ⟨rfl, rfl⟩
  have HB4 : Hid (Below w.heap.size w ((w3.alloc (.cells #[.pointer (some ⟨E, 0, none⟩)] 47)).alloc (.cells #[.int .i64 0] 3))) := (HB3.out.alloc HB3.out.size _).alloc (by have := HB3.out.size; simp; omega) _
  go_wp2
  go_ret
  exact ⟨rfl, HB4.out⟩

end Ex
end Go.Proofs.Ytkmgpajodbadmaa
