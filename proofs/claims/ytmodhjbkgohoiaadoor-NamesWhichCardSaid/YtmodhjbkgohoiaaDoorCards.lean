/-
  DERIVED. GIVEN WITH THE SEED: THE CARDS: each row of YtmodhjbkgohoiaaDoorRows.lean that lists a variable, with what it lists TIED to the program's text (the seventh form; the later family's looks); each row that meets fmt, with fmt's text TOLD by the authors' own Lean function (tested against real Go, not proved from fmt's source: count such statements apart). THE CARD IS WHAT COUNTS. Prove the row's statement (the work); the ties are given (YtmodhjbkgohoiaaDoorTie.lean); close each card by the builder's one call (the guide's Derived/Test/ToyasCard.lean, 'card_holds'). Laid BY PROGRAM, IN A SANDBOX (cutbox-door.mjs). By AI agents, Wed Nov 11 2026. No macro, syntax, notation, axiom, sorry.
-/
import Derived.Test.YtmodhjbkgohoiaaDoorRows
import GoSem.ClaimSeven
namespace Go.Proofs.YtmodhjbkgohoiaaDoor
namespace Rows

/-- THE TIED CARD OF 'lineagelaw01.NamesWhich'. -/
def namesWhichCard : Claim7 := { stood := { row := namesWhichRow, standIns := [], harness := (true, "07fd6573eeaa779506e0c532798fbe44ff2ccdf317cf8ed00b5051e0954899e5"), looks := false }, kinds := [], alts := [], laidByText := true, laidKinds := [.data, .pinned], laidTests := true, laidLooks := .later }
def NamesWhichCardSaid : Prop := Claim7.holds Tryd.pinned (.plain (OpenSpec.ofChange namesWhichSpec)) namesWhichCard

/-- THE TIED CARD OF 'lineagelaw01.NamesUnder'. -/
def namesUnderCard : Claim7 := { stood := { row := namesUnderRow, standIns := [], harness := (true, "07fd6573eeaa779506e0c532798fbe44ff2ccdf317cf8ed00b5051e0954899e5"), looks := false }, kinds := [], alts := [], laidByText := true, laidKinds := [.data, .pinned], laidTests := true, laidLooks := .later }
def NamesUnderCardSaid : Prop := Claim7.holds Tryd.pinned (.plain (OpenSpec.ofChange namesUnderSpec)) namesUnderCard

/-- THE TIED CARD OF 'lineagelaw01.NamesJoined'. -/
def namesJoinedCard : Claim7 := { stood := { row := namesJoinedRow, standIns := [], harness := (true, "07fd6573eeaa779506e0c532798fbe44ff2ccdf317cf8ed00b5051e0954899e5"), looks := false }, kinds := [], alts := [], laidByText := true, laidKinds := [.data, .pinned], laidTests := true, laidLooks := .later }
def NamesJoinedCardSaid : Prop := Claim7.holds Tryd.pinned (.plain (OpenSpec.ofChange namesJoinedSpec)) namesJoinedCard

/-- THE TIED CARD OF 'lineagelaw01.NamesAbove'. -/
def namesAboveCard : Claim7 := { stood := { row := namesAboveRow, standIns := [], harness := (true, "07fd6573eeaa779506e0c532798fbe44ff2ccdf317cf8ed00b5051e0954899e5"), looks := false }, kinds := [], alts := [], laidByText := true, laidKinds := [.data, .pinned], laidTests := true, laidLooks := .later }
def NamesAboveCardSaid : Prop := Claim7.holds Tryd.pinned (.plain (OpenSpec.ofChange namesAboveSpec)) namesAboveCard

/-- THE TIED CARD OF 'lineagelaw01.NamesOrder'. -/
def namesOrderCard : Claim7 := { stood := { row := namesOrderRow, standIns := [], harness := (true, "07fd6573eeaa779506e0c532798fbe44ff2ccdf317cf8ed00b5051e0954899e5"), looks := false }, kinds := [], alts := [], laidByText := true, laidKinds := [.data, .pinned], laidTests := true, laidLooks := .later }
def NamesOrderCardSaid : Prop := Claim7.holds Tryd.pinned (.plain (OpenSpec.ofChange namesOrderSpec)) namesOrderCard

/-- THE TIED CARD OF 'lineagelaw01.NamesKnown'. -/
def namesKnownCard : Claim7 := { stood := { row := namesKnownRow, standIns := [], harness := (true, "07fd6573eeaa779506e0c532798fbe44ff2ccdf317cf8ed00b5051e0954899e5"), looks := false }, kinds := [], alts := [], laidByText := true, laidKinds := [.data, .pinned], laidTests := true, laidLooks := .later }
def NamesKnownCardSaid : Prop := Claim7.holds Tryd.pinned (.plain (OpenSpec.ofChange namesKnownSpec)) namesKnownCard

/-- THE SECOND FORM's CARD OF 'lineagelaw01.NamesWhich'. -/
def namesWhichUptoCard : Claim7 := { stood := { row := namesWhichUptoRow, standIns := [], harness := (true, "07fd6573eeaa779506e0c532798fbe44ff2ccdf317cf8ed00b5051e0954899e5"), looks := false }, kinds := [], alts := [], laidByText := true, laidKinds := [.data, .pinned], laidTests := true, laidLooks := .later }
def NamesWhichUptoCardSaid : Prop := Claim7.holds Tryd.pinned (.plain (OpenSpec.upto namesWhichSpec)) namesWhichUptoCard

/-- THE SECOND FORM's CARD OF 'lineagelaw01.NamesUnder'. -/
def namesUnderUptoCard : Claim7 := { stood := { row := namesUnderUptoRow, standIns := [], harness := (true, "07fd6573eeaa779506e0c532798fbe44ff2ccdf317cf8ed00b5051e0954899e5"), looks := false }, kinds := [], alts := [], laidByText := true, laidKinds := [.data, .pinned], laidTests := true, laidLooks := .later }
def NamesUnderUptoCardSaid : Prop := Claim7.holds Tryd.pinned (.plain (OpenSpec.upto namesUnderSpec)) namesUnderUptoCard

/-- THE SECOND FORM's CARD OF 'lineagelaw01.NamesJoined'. -/
def namesJoinedUptoCard : Claim7 := { stood := { row := namesJoinedUptoRow, standIns := [], harness := (true, "07fd6573eeaa779506e0c532798fbe44ff2ccdf317cf8ed00b5051e0954899e5"), looks := false }, kinds := [], alts := [], laidByText := true, laidKinds := [.data, .pinned], laidTests := true, laidLooks := .later }
def NamesJoinedUptoCardSaid : Prop := Claim7.holds Tryd.pinned (.plain (OpenSpec.upto namesJoinedSpec)) namesJoinedUptoCard

/-- THE SECOND FORM's CARD OF 'lineagelaw01.NamesAbove'. -/
def namesAboveUptoCard : Claim7 := { stood := { row := namesAboveUptoRow, standIns := [], harness := (true, "07fd6573eeaa779506e0c532798fbe44ff2ccdf317cf8ed00b5051e0954899e5"), looks := false }, kinds := [], alts := [], laidByText := true, laidKinds := [.data, .pinned], laidTests := true, laidLooks := .later }
def NamesAboveUptoCardSaid : Prop := Claim7.holds Tryd.pinned (.plain (OpenSpec.upto namesAboveSpec)) namesAboveUptoCard

/-- THE SECOND FORM's CARD OF 'lineagelaw01.NamesOrder'. -/
def namesOrderUptoCard : Claim7 := { stood := { row := namesOrderUptoRow, standIns := [], harness := (true, "07fd6573eeaa779506e0c532798fbe44ff2ccdf317cf8ed00b5051e0954899e5"), looks := false }, kinds := [], alts := [], laidByText := true, laidKinds := [.data, .pinned], laidTests := true, laidLooks := .later }
def NamesOrderUptoCardSaid : Prop := Claim7.holds Tryd.pinned (.plain (OpenSpec.upto namesOrderSpec)) namesOrderUptoCard

/-- THE SECOND FORM's CARD OF 'lineagelaw01.NamesKnown'. -/
def namesKnownUptoCard : Claim7 := { stood := { row := namesKnownUptoRow, standIns := [], harness := (true, "07fd6573eeaa779506e0c532798fbe44ff2ccdf317cf8ed00b5051e0954899e5"), looks := false }, kinds := [], alts := [], laidByText := true, laidKinds := [.data, .pinned], laidTests := true, laidLooks := .later }
def NamesKnownUptoCardSaid : Prop := Claim7.holds Tryd.pinned (.plain (OpenSpec.upto namesKnownSpec)) namesKnownUptoCard
end Rows
end Go.Proofs.YtmodhjbkgohoiaaDoor
