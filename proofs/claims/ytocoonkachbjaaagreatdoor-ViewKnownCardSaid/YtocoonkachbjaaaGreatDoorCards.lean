/-
  DERIVED. GIVEN WITH THE SEED: THE CARDS: each row of YtocoonkachbjaaaGreatDoorRows.lean that lists a variable, with what it lists TIED to the program's text (the seventh form; the later family's looks); each row that meets fmt, with fmt's text TOLD by the authors' own Lean function (tested against real Go, not proved from fmt's source: count such statements apart). THE CARD IS WHAT COUNTS. Prove the row's statement (the work); the ties are given (YtocoonkachbjaaaGreatDoorTie.lean); close each card by the builder's one call (the guide's Derived/Test/ToyasCard.lean, 'card_holds'). Laid BY PROGRAM, IN A SANDBOX (cutbox-door.mjs). By AI agents, Wed Nov 11 2026. No macro, syntax, notation, axiom, sorry.
-/
import Derived.Test.YtocoonkachbjaaaGreatDoorRows
import GoSem.ClaimSeven
namespace Go.Proofs.YtocoonkachbjaaaGreatDoor
namespace Rows

/-- THE TIED CARD OF 'lineagelaw28.ViewLines'. -/
def viewLinesCard : Claim7 := { stood := { row := viewLinesRow, standIns := [], harness := (true, "976c3431a1d7e58cc16a729f7c1ad1d788aa7c78f159cb1dda68c70075e92e44"), looks := true }, kinds := [], alts := [], laidByText := true, laidKinds := [.data, .data, .data, .data, .handle, .data, .pinned], laidTests := true, laidLooks := .later }
def ViewLinesCardSaid : Prop := Claim7.holds Tryz.pinned (.plain (OpenSpec.ofChange viewLinesSpec)) viewLinesCard

/-- THE TIED CARD OF 'lineagelaw28.ViewTrees'. -/
def viewTreesCard : Claim7 := { stood := { row := viewTreesRow, standIns := [], harness := (true, "976c3431a1d7e58cc16a729f7c1ad1d788aa7c78f159cb1dda68c70075e92e44"), looks := true }, kinds := [], alts := [], laidByText := true, laidKinds := [.data, .data, .data, .data, .handle, .data, .pinned], laidTests := true, laidLooks := .later }
def ViewTreesCardSaid : Prop := Claim7.holds Tryz.pinned (.plain (OpenSpec.ofChange viewTreesSpec)) viewTreesCard

/-- THE TIED CARD OF 'lineagelaw28.ViewKnown'. -/
def viewKnownCard : Claim7 := { stood := { row := viewKnownRow, standIns := [], harness := (true, "976c3431a1d7e58cc16a729f7c1ad1d788aa7c78f159cb1dda68c70075e92e44"), looks := true }, kinds := [], alts := [], laidByText := true, laidKinds := [.data, .data, .data, .data, .handle, .data, .pinned], laidTests := true, laidLooks := .later }
def ViewKnownCardSaid : Prop := Claim7.holds Tryz.pinned (.plain (OpenSpec.ofChange viewKnownSpec)) viewKnownCard

/-- THE SECOND FORM's CARD OF 'lineagelaw28.ViewLines'. -/
def viewLinesUptoCard : Claim7 := { stood := { row := viewLinesUptoRow, standIns := [], harness := (true, "976c3431a1d7e58cc16a729f7c1ad1d788aa7c78f159cb1dda68c70075e92e44"), looks := true }, kinds := [], alts := [], laidByText := true, laidKinds := [.data, .data, .data, .data, .handle, .data, .pinned], laidTests := true, laidLooks := .later }
def ViewLinesUptoCardSaid : Prop := Claim7.holds Tryz.pinned (.plain (OpenSpec.upto viewLinesSpec)) viewLinesUptoCard

/-- THE SECOND FORM's CARD OF 'lineagelaw28.ViewTrees'. -/
def viewTreesUptoCard : Claim7 := { stood := { row := viewTreesUptoRow, standIns := [], harness := (true, "976c3431a1d7e58cc16a729f7c1ad1d788aa7c78f159cb1dda68c70075e92e44"), looks := true }, kinds := [], alts := [], laidByText := true, laidKinds := [.data, .data, .data, .data, .handle, .data, .pinned], laidTests := true, laidLooks := .later }
def ViewTreesUptoCardSaid : Prop := Claim7.holds Tryz.pinned (.plain (OpenSpec.upto viewTreesSpec)) viewTreesUptoCard

/-- THE SECOND FORM's CARD OF 'lineagelaw28.ViewKnown'. -/
def viewKnownUptoCard : Claim7 := { stood := { row := viewKnownUptoRow, standIns := [], harness := (true, "976c3431a1d7e58cc16a729f7c1ad1d788aa7c78f159cb1dda68c70075e92e44"), looks := true }, kinds := [], alts := [], laidByText := true, laidKinds := [.data, .data, .data, .data, .handle, .data, .pinned], laidTests := true, laidLooks := .later }
def ViewKnownUptoCardSaid : Prop := Claim7.holds Tryz.pinned (.plain (OpenSpec.upto viewKnownSpec)) viewKnownUptoCard
end Rows
end Go.Proofs.YtocoonkachbjaaaGreatDoor
