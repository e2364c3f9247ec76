/- The document's own book; works. -/
import Derived.Test.YtgneebidmhiagaaDoorScLaw2
namespace Go.Proofs.YtgneebidmhiagaaDoor
open Go.RowKit Go.Maps Go.ChangeMaps Go.Proofs.NmPlain Go.Proofs.Ar
set_option linter.unusedVariables false
namespace Sc

def bk : List ByteArray := [⟨#[109, 97, 105, 108]⟩, ⟨#[109, 97, 105, 108, 46, 114, 101, 97, 100]⟩, ⟨#[109, 97, 105, 108, 46, 115, 101, 110, 100]⟩, ⟨#[102, 105, 108, 101, 115]⟩]
set_option maxRecDepth 100000 in
theorem bk_new : newL bk = (0, -1) := by decide +kernel
set_option maxRecDepth 100000 in
theorem bk_parse : parseL bk [109, 97, 105, 108, 46, 114, 101, 97, 100, 32, 32, 102, 105, 108, 101, 115] = (10, 0, -1) := by decide +kernel
set_option maxRecDepth 100000 in
theorem bk_print : printL bk 10 = ([109, 97, 105, 108, 46, 114, 101, 97, 100, 32, 102, 105, 108, 101, 115], 0) := by decide +kernel

theorem bk_small : ∀ s ∈ bk, s.size ≤ 16777216 := by decide +kernel
theorem bk_book : IsBook bk := book_of bk_new

def BookPost (w : World) (e : Ending) (w' : World) : Prop := ∃ lo B, e = .returned (.tuple #[.pointer (some ⟨B, 0, none⟩), .bool true]) ∧ BookAt lo w' B bk ∧ Below w.heap.size w w'

set_option maxHeartbeats 2000000 in
theorem book_any (w : World) (hm : MaxAt w) : Calls Tryd.prog 31 #[] w (BookPost w) := by
  have hb0 : Below w.heap.size w (w.alloc (.cells (bk.map Value.string).toArray 9)) := (Below.refl _ w).alloc (Nat.le_refl _) _
  have HB0 := Lib.hid hb0
  have hn := new_any (.slice (some ⟨w.heap.size, 0, none⟩) 4 4) bk (by decide) (fun _ => bk_small) _ (hm.below hb0) (Tx.lit_arg w bk 9)
  have HN := Lib.hid hn
  clear hn hm hb0
  go_enter Tryd.func31, Tryd.ntmps31
  go_wp2_with fail
  refine HN.out.mono ?_
  rintro e w1 ⟨hp, hb1⟩
  have hb2 : Below w.heap.size w w1 := HB0.out.trans (hb1.mono HB0.out.size)
  rcases hp with ⟨-, B, rfl, hB⟩ | ⟨h, -⟩
  · have HB := Lib.hid hB
    clear hB hb1
    go_wp2
    go_ret2
    exact ⟨_, B, rfl, HB.out, hb2⟩
  · exact absurd bk_new h

def wt : ByteArray := ⟨#[109, 97, 105, 108, 46, 114, 101, 97, 100, 32, 32, 102, 105, 108, 101, 115]⟩
def wp : ByteArray := ⟨#[109, 97, 105, 108, 46, 114, 101, 97, 100, 32, 102, 105, 108, 101, 115]⟩

set_option maxHeartbeats 2000000 in
theorem works_any (w : World) (hm : MaxAt w) : Calls Tryd.prog 20 #[] w fun e w' => e = .returned (.bool true) ∧ Below w.heap.size w w' := by
  have HK := Lib.hid (book_any w hm)
  have HP := Lib.hid (fun lo B w' (hb : BookAt lo w' B bk) (hb2 : Below w.heap.size w w') => parse_any lo B bk bk_book bk_small wt (by decide) w' (hm.below hb2) hb)
  have HQ := Lib.hid (fun lo B w' (hb : BookAt lo w' B bk) => print_any lo B bk bk_book 10 (by omega) w' hb)
  unfold ParsePost at HP
  unfold PrintPost at HQ
  have e1 : parseL bk wt.data.toList = (10, 0, -1) := bk_parse
  rw [e1] at HP
  rw [bk_print] at HQ
  have e2 : errV (10, (0 : Int), (-1 : Int)).2.1 (10, (0 : Int), (-1 : Int)).2.2 = .nilIface := rfl
  have e3 : errVal 0 = .nilIface := rfl
  simp only [e3, errV_nil] at HP HQ
  clear hm e1 e2 e3
  go_enter Tryd.func20, Tryd.ntmps20
  go_wp2_with fail
  refine HK.out.mono ?_
  rintro e w1 ⟨lo, B, rfl, hB, hb1⟩
  have HB := Lib.hid hB
  clear hB
  go_wp2_with fail
  refine (HP.out _ B _ HB.out hb1).mono ?_
  rintro e w2 ⟨rfl, hb2⟩
  have hb3 := hb1.trans (hb2.mono hb1.size)
  have HB2 := Lib.hid (HB.out.below hb2)
  clear hb2
  go_wp2_with fail
  refine (HQ.out _ B _ HB2.out).mono ?_
  rintro e w3 ⟨rfl, hb4⟩
  have hb5 := hb3.trans (hb4.mono hb3.size)
  clear hb4
  go_wp2
  go_ret
  exact ⟨rfl, hb5⟩

end Sc
end Go.Proofs.YtgneebidmhiagaaDoor
