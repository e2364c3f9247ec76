/-
  DERIVED. GIVEN WITH THE SEED: THE CARDS: each row of YtocoonkachbjaaaDoorRows.lean that lists a variable, with what it lists TIED to the program's text (the seventh form; the later family's looks); each row that meets fmt, with fmt's text TOLD by the authors' own Lean function (tested against real Go, not proved from fmt's source: count such statements apart). THE CARD IS WHAT COUNTS. Prove the row's statement (the work); the ties are given (YtocoonkachbjaaaDoorTie.lean); close each card by the builder's one call (the guide's Derived/Test/ToyasCard.lean, 'card_holds'). Laid BY PROGRAM, IN A SANDBOX (cutbox-door.mjs). By AI agents, Wed Nov 11 2026. No macro, syntax, notation, axiom, sorry.
-/
import Derived.Test.YtocoonkachbjaaaDoorRows
import GoSem.ClaimSeven
namespace Go.Proofs.YtocoonkachbjaaaDoor
namespace Rows

/-- THE TIED CARD OF 'lineagelaw28.ViewKids'. -/
def viewKidsCard : Claim7 := { stood := { row := viewKidsRow, standIns := [], harness := (true, "66cbc919727d60b0e0e17167947ea6c771886f3425d00f57b6688c27fdc6306d"), looks := true }, kinds := [], alts := [], laidByText := true, laidKinds := [.data, .data, .data, .data, .data, .pinned], laidTests := true, laidLooks := .later }
def ViewKidsCardSaid : Prop := Claim7.holds Tryd.pinned (.plain (OpenSpec.ofChange viewKidsSpec)) viewKidsCard

/-- THE TIED CARD OF 'lineagelaw28.ViewWhole'. -/
def viewWholeCard : Claim7 := { stood := { row := viewWholeRow, standIns := [], harness := (true, "66cbc919727d60b0e0e17167947ea6c771886f3425d00f57b6688c27fdc6306d"), looks := true }, kinds := [], alts := [], laidByText := true, laidKinds := [.data, .data, .data, .data, .data, .pinned], laidTests := true, laidLooks := .later }
def ViewWholeCardSaid : Prop := Claim7.holds Tryd.pinned (.plain (OpenSpec.ofChange viewWholeSpec)) viewWholeCard

/-- THE TIED CARD OF 'lineagelaw28.ViewSame'. -/
def viewSameCard : Claim7 := { stood := { row := viewSameRow, standIns := [], harness := (true, "66cbc919727d60b0e0e17167947ea6c771886f3425d00f57b6688c27fdc6306d"), looks := true }, kinds := [], alts := [], laidByText := true, laidKinds := [.data, .data, .data, .data, .data, .pinned], laidTests := true, laidLooks := .later }
def ViewSameCardSaid : Prop := Claim7.holds Tryd.pinned (.plain (OpenSpec.ofChange viewSameSpec)) viewSameCard

/-- THE SECOND FORM's CARD OF 'lineagelaw28.ViewKids'. -/
def viewKidsUptoCard : Claim7 := { stood := { row := viewKidsUptoRow, standIns := [], harness := (true, "66cbc919727d60b0e0e17167947ea6c771886f3425d00f57b6688c27fdc6306d"), looks := true }, kinds := [], alts := [], laidByText := true, laidKinds := [.data, .data, .data, .data, .data, .pinned], laidTests := true, laidLooks := .later }
def ViewKidsUptoCardSaid : Prop := Claim7.holds Tryd.pinned (.plain (OpenSpec.upto viewKidsSpec)) viewKidsUptoCard

/-- THE SECOND FORM's CARD OF 'lineagelaw28.ViewWhole'. -/
def viewWholeUptoCard : Claim7 := { stood := { row := viewWholeUptoRow, standIns := [], harness := (true, "66cbc919727d60b0e0e17167947ea6c771886f3425d00f57b6688c27fdc6306d"), looks := true }, kinds := [], alts := [], laidByText := true, laidKinds := [.data, .data, .data, .data, .data, .pinned], laidTests := true, laidLooks := .later }
def ViewWholeUptoCardSaid : Prop := Claim7.holds Tryd.pinned (.plain (OpenSpec.upto viewWholeSpec)) viewWholeUptoCard

/-- THE SECOND FORM's CARD OF 'lineagelaw28.ViewSame'. -/
def viewSameUptoCard : Claim7 := { stood := { row := viewSameUptoRow, standIns := [], harness := (true, "66cbc919727d60b0e0e17167947ea6c771886f3425d00f57b6688c27fdc6306d"), looks := true }, kinds := [], alts := [], laidByText := true, laidKinds := [.data, .data, .data, .data, .data, .pinned], laidTests := true, laidLooks := .later }
def ViewSameUptoCardSaid : Prop := Claim7.holds Tryd.pinned (.plain (OpenSpec.upto viewSameSpec)) viewSameUptoCard
end Rows
end Go.Proofs.YtocoonkachbjaaaDoor
