/-
  DERIVED. GIVEN WITH THE SEED: THE CARDS: each row of YtimhglmfckfclaaGreatDoorRows.lean that lists a variable, with what it lists TIED to the program's text (the seventh form; the later family's looks); each row that meets fmt, with fmt's text TOLD by the authors' own Lean function (tested against real Go, not proved from fmt's source: count such statements apart). THE CARD IS WHAT COUNTS. Prove the row's statement (the work); the ties are given (YtimhglmfckfclaaGreatDoorTie.lean); close each card by the builder's one call (the guide's Derived/Test/ToyasCard.lean, 'card_holds'). Laid BY PROGRAM, IN A SANDBOX (cutbox-door.mjs). By AI agents, Wed Nov 11 2026. No macro, syntax, notation, axiom, sorry.
-/
import Derived.Test.YtimhglmfckfclaaGreatDoorRows
import GoSem.ClaimSeven
namespace Go.Proofs.YtimhglmfckfclaaGreatDoor
namespace Rows

/-- THE TIED CARD OF 'lineagelaw23.ForestFrom'. -/
def forestFromCard : Claim7 := { stood := { row := forestFromRow, standIns := [], harness := (true, "da223d37e9732b31671cf105ba8e6aee31a8c211a56e9bedde493ebf09a09e32"), looks := true }, kinds := [], alts := [], laidByText := true, laidKinds := [.handle], laidTests := true, laidLooks := .later }
def ForestFromCardSaid : Prop := Claim7.holds Tryz.pinned (.plain (OpenSpec.ofChange forestFromSpec)) forestFromCard

/-- THE TIED CARD OF 'lineagelaw23.ForestKnown'. -/
def forestKnownCard : Claim7 := { stood := { row := forestKnownRow, standIns := [], harness := (true, "da223d37e9732b31671cf105ba8e6aee31a8c211a56e9bedde493ebf09a09e32"), looks := true }, kinds := [], alts := [], laidByText := true, laidKinds := [.handle], laidTests := true, laidLooks := .later }
def ForestKnownCardSaid : Prop := Claim7.holds Tryz.pinned (.plain (OpenSpec.ofChange forestKnownSpec)) forestKnownCard

/-- THE TIED CARD OF 'lineagelaw23.ForestPlays'. -/
def forestPlaysCard : Claim7 := { stood := { row := forestPlaysRow, standIns := [], harness := (true, "da223d37e9732b31671cf105ba8e6aee31a8c211a56e9bedde493ebf09a09e32"), looks := true }, kinds := [], alts := [], laidByText := true, laidKinds := [.handle], laidTests := true, laidLooks := .later }
def ForestPlaysCardSaid : Prop := Claim7.holds Tryz.pinned (.plain (OpenSpec.ofChange forestPlaysSpec)) forestPlaysCard

/-- THE SECOND FORM's CARD OF 'lineagelaw23.ForestFrom'. -/
def forestFromUptoCard : Claim7 := { stood := { row := forestFromUptoRow, standIns := [], harness := (true, "da223d37e9732b31671cf105ba8e6aee31a8c211a56e9bedde493ebf09a09e32"), looks := true }, kinds := [], alts := [], laidByText := true, laidKinds := [.handle], laidTests := true, laidLooks := .later }
def ForestFromUptoCardSaid : Prop := Claim7.holds Tryz.pinned (.plain (OpenSpec.upto forestFromSpec)) forestFromUptoCard

/-- THE SECOND FORM's CARD OF 'lineagelaw23.ForestKnown'. -/
def forestKnownUptoCard : Claim7 := { stood := { row := forestKnownUptoRow, standIns := [], harness := (true, "da223d37e9732b31671cf105ba8e6aee31a8c211a56e9bedde493ebf09a09e32"), looks := true }, kinds := [], alts := [], laidByText := true, laidKinds := [.handle], laidTests := true, laidLooks := .later }
def ForestKnownUptoCardSaid : Prop := Claim7.holds Tryz.pinned (.plain (OpenSpec.upto forestKnownSpec)) forestKnownUptoCard

/-- THE SECOND FORM's CARD OF 'lineagelaw23.ForestPlays'. -/
def forestPlaysUptoCard : Claim7 := { stood := { row := forestPlaysUptoRow, standIns := [], harness := (true, "da223d37e9732b31671cf105ba8e6aee31a8c211a56e9bedde493ebf09a09e32"), looks := true }, kinds := [], alts := [], laidByText := true, laidKinds := [.handle], laidTests := true, laidLooks := .later }
def ForestPlaysUptoCardSaid : Prop := Claim7.holds Tryz.pinned (.plain (OpenSpec.upto forestPlaysSpec)) forestPlaysUptoCard
end Rows
end Go.Proofs.YtimhglmfckfclaaGreatDoor
