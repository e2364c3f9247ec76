/-
  DERIVED. GIVEN WITH THE SEED: THE CARDS: each row of YtbgplehmjejikaaGreatDoorRows.lean that lists a variable, with what it lists TIED to the program's text (the seventh form; the later family's looks); each row that meets fmt, with fmt's text TOLD by the authors' own Lean function (tested against real Go, not proved from fmt's source: count such statements apart). THE CARD IS WHAT COUNTS. Prove the row's statement (the work); the ties are given (YtbgplehmjejikaaGreatDoorTie.lean); close each card by the builder's one call (the guide's Derived/Test/ToyasCard.lean, 'card_holds'). Laid BY PROGRAM, IN A SANDBOX (cutbox-door.mjs). By AI agents, Wed Nov 11 2026. No macro, syntax, notation, axiom, sorry.
-/
import Derived.Test.YtbgplehmjejikaaGreatDoorRows
import GoSem.ClaimSeven
namespace Go.Proofs.YtbgplehmjejikaaGreatDoor
namespace Rows

/-- THE TIED CARD OF 'lineagelaw04.ClockKnown'. -/
def clockKnownCard : Claim7 := { stood := { row := clockKnownRow, standIns := [], harness := (true, "5df4902929a83356c3f327d813d1675906f9c2c5d46157227d2c3cd00fc77fbb"), looks := true }, kinds := [], alts := [], laidByText := true, laidKinds := [.data, .data, .data, .data, .handle, .sentinel, .sentinel, .data, .pinned], laidTests := true, laidLooks := .later }
def ClockKnownCardSaid : Prop := Claim7.holds Tryz.pinned (.plain (OpenSpec.ofChange clockKnownSpec)) clockKnownCard

/-- THE SECOND FORM's CARD OF 'lineagelaw04.ClockKnown'. -/
def clockKnownUptoCard : Claim7 := { stood := { row := clockKnownUptoRow, standIns := [], harness := (true, "5df4902929a83356c3f327d813d1675906f9c2c5d46157227d2c3cd00fc77fbb"), looks := true }, kinds := [], alts := [], laidByText := true, laidKinds := [.data, .data, .data, .data, .handle, .sentinel, .sentinel, .data, .pinned], laidTests := true, laidLooks := .later }
def ClockKnownUptoCardSaid : Prop := Claim7.holds Tryz.pinned (.plain (OpenSpec.upto clockKnownSpec)) clockKnownUptoCard
end Rows
end Go.Proofs.YtbgplehmjejikaaGreatDoor
