/-
  DERIVED. GIVEN WITH THE SEED: THE CARDS: each row of YtbgplehmjejikaaDoorRows.lean that lists a variable, with what it lists TIED to the program's text (the seventh form; the later family's looks); each row that meets fmt, with fmt's text TOLD by the authors' own Lean function (tested against real Go, not proved from fmt's source: count such statements apart). THE CARD IS WHAT COUNTS. Prove the row's statement (the work); the ties are given (YtbgplehmjejikaaDoorTie.lean); close each card by the builder's one call (the guide's Derived/Test/ToyasCard.lean, 'card_holds'). Laid BY PROGRAM, IN A SANDBOX (cutbox-door.mjs). By AI agents, Wed Nov 11 2026. No macro, syntax, notation, axiom, sorry.
-/
import Derived.Test.YtbgplehmjejikaaDoorRows
import GoSem.ClaimSeven
namespace Go.Proofs.YtbgplehmjejikaaDoor
namespace Rows

/-- THE TIED CARD OF 'lineagelaw04.ClockUntil'. -/
def clockUntilCard : Claim7 := { stood := { row := clockUntilRow, standIns := [], harness := (true, "4452589e56b3fcb41047a854940a4a7b400dcb4c38fe5d812614e87bfa2e84bd"), looks := true }, kinds := [], alts := [], laidByText := true, laidKinds := [.handle], laidTests := true, laidLooks := .later }
def ClockUntilCardSaid : Prop := Claim7.holds Tryd.pinned (.plain (OpenSpec.ofChange clockUntilSpec)) clockUntilCard

/-- THE TIED CARD OF 'lineagelaw04.ClockAfter'. -/
def clockAfterCard : Claim7 := { stood := { row := clockAfterRow, standIns := [], harness := (true, "4452589e56b3fcb41047a854940a4a7b400dcb4c38fe5d812614e87bfa2e84bd"), looks := true }, kinds := [], alts := [], laidByText := true, laidKinds := [.handle], laidTests := true, laidLooks := .later }
def ClockAfterCardSaid : Prop := Claim7.holds Tryd.pinned (.plain (OpenSpec.ofChange clockAfterSpec)) clockAfterCard

/-- THE TIED CARD OF 'lineagelaw04.ClockLives'. -/
def clockLivesCard : Claim7 := { stood := { row := clockLivesRow, standIns := [], harness := (true, "4452589e56b3fcb41047a854940a4a7b400dcb4c38fe5d812614e87bfa2e84bd"), looks := true }, kinds := [], alts := [], laidByText := true, laidKinds := [.data, .data, .data, .data], laidTests := true, laidLooks := .later }
def ClockLivesCardSaid : Prop := Claim7.holds Tryd.pinned (.plain (OpenSpec.ofChange clockLivesSpec)) clockLivesCard

/-- THE TIED CARD OF 'lineagelaw04.ClockLeft'. -/
def clockLeftCard : Claim7 := { stood := { row := clockLeftRow, standIns := [], harness := (true, "4452589e56b3fcb41047a854940a4a7b400dcb4c38fe5d812614e87bfa2e84bd"), looks := true }, kinds := [], alts := [], laidByText := true, laidKinds := [.data, .data, .data, .data], laidTests := true, laidLooks := .later }
def ClockLeftCardSaid : Prop := Claim7.holds Tryd.pinned (.plain (OpenSpec.ofChange clockLeftSpec)) clockLeftCard

/-- THE TIED CARD OF 'lineagelaw04.ClockPrints'. -/
def clockPrintsCard : Claim7 := { stood := { row := clockPrintsRow, standIns := [], harness := (true, "4452589e56b3fcb41047a854940a4a7b400dcb4c38fe5d812614e87bfa2e84bd"), looks := true }, kinds := [], alts := [], laidByText := true, laidKinds := [.data, .data, .data, .handle, .data], laidTests := true, laidLooks := .later }
def ClockPrintsCardSaid : Prop := Claim7.holds Tryd.pinned (.plain (OpenSpec.ofChange clockPrintsSpec)) clockPrintsCard

/-- THE TIED CARD OF 'lineagelaw04.ClockThere'. -/
def clockThereCard : Claim7 := { stood := { row := clockThereRow, standIns := [], harness := (true, "4452589e56b3fcb41047a854940a4a7b400dcb4c38fe5d812614e87bfa2e84bd"), looks := true }, kinds := [], alts := [], laidByText := true, laidKinds := [.data, .data, .data, .data, .sentinel, .sentinel, .data, .pinned], laidTests := true, laidLooks := .later }
def ClockThereCardSaid : Prop := Claim7.holds Tryd.pinned (.plain (OpenSpec.ofChange clockThereSpec)) clockThereCard

/-- THE TIED CARD OF 'lineagelaw04.ClockBack'. -/
def clockBackCard : Claim7 := { stood := { row := clockBackRow, standIns := [], harness := (true, "4452589e56b3fcb41047a854940a4a7b400dcb4c38fe5d812614e87bfa2e84bd"), looks := true }, kinds := [], alts := [], laidByText := true, laidKinds := [.data, .data, .data, .data, .sentinel, .sentinel, .data, .pinned], laidTests := true, laidLooks := .later }
def ClockBackCardSaid : Prop := Claim7.holds Tryd.pinned (.plain (OpenSpec.ofChange clockBackSpec)) clockBackCard

/-- THE TIED CARD OF 'lineagelaw04.ClockParses'. -/
def clockParsesCard : Claim7 := { stood := { row := clockParsesRow, standIns := [], harness := (true, "4452589e56b3fcb41047a854940a4a7b400dcb4c38fe5d812614e87bfa2e84bd"), looks := true }, kinds := [], alts := [], laidByText := true, laidKinds := [.data, .data, .data, .data, .handle, .sentinel, .sentinel, .data, .pinned], laidTests := true, laidLooks := .later }
def ClockParsesCardSaid : Prop := Claim7.holds Tryd.pinned (.plain (OpenSpec.ofChange clockParsesSpec)) clockParsesCard

/-- THE SECOND FORM's CARD OF 'lineagelaw04.ClockUntil'. -/
def clockUntilUptoCard : Claim7 := { stood := { row := clockUntilUptoRow, standIns := [], harness := (true, "4452589e56b3fcb41047a854940a4a7b400dcb4c38fe5d812614e87bfa2e84bd"), looks := true }, kinds := [], alts := [], laidByText := true, laidKinds := [.handle], laidTests := true, laidLooks := .later }
def ClockUntilUptoCardSaid : Prop := Claim7.holds Tryd.pinned (.plain (OpenSpec.upto clockUntilSpec)) clockUntilUptoCard

/-- THE SECOND FORM's CARD OF 'lineagelaw04.ClockAfter'. -/
def clockAfterUptoCard : Claim7 := { stood := { row := clockAfterUptoRow, standIns := [], harness := (true, "4452589e56b3fcb41047a854940a4a7b400dcb4c38fe5d812614e87bfa2e84bd"), looks := true }, kinds := [], alts := [], laidByText := true, laidKinds := [.handle], laidTests := true, laidLooks := .later }
def ClockAfterUptoCardSaid : Prop := Claim7.holds Tryd.pinned (.plain (OpenSpec.upto clockAfterSpec)) clockAfterUptoCard

/-- THE SECOND FORM's CARD OF 'lineagelaw04.ClockLives'. -/
def clockLivesUptoCard : Claim7 := { stood := { row := clockLivesUptoRow, standIns := [], harness := (true, "4452589e56b3fcb41047a854940a4a7b400dcb4c38fe5d812614e87bfa2e84bd"), looks := true }, kinds := [], alts := [], laidByText := true, laidKinds := [.data, .data, .data, .data], laidTests := true, laidLooks := .later }
def ClockLivesUptoCardSaid : Prop := Claim7.holds Tryd.pinned (.plain (OpenSpec.upto clockLivesSpec)) clockLivesUptoCard

/-- THE SECOND FORM's CARD OF 'lineagelaw04.ClockLeft'. -/
def clockLeftUptoCard : Claim7 := { stood := { row := clockLeftUptoRow, standIns := [], harness := (true, "4452589e56b3fcb41047a854940a4a7b400dcb4c38fe5d812614e87bfa2e84bd"), looks := true }, kinds := [], alts := [], laidByText := true, laidKinds := [.data, .data, .data, .data], laidTests := true, laidLooks := .later }
def ClockLeftUptoCardSaid : Prop := Claim7.holds Tryd.pinned (.plain (OpenSpec.upto clockLeftSpec)) clockLeftUptoCard

/-- THE SECOND FORM's CARD OF 'lineagelaw04.ClockPrints'. -/
def clockPrintsUptoCard : Claim7 := { stood := { row := clockPrintsUptoRow, standIns := [], harness := (true, "4452589e56b3fcb41047a854940a4a7b400dcb4c38fe5d812614e87bfa2e84bd"), looks := true }, kinds := [], alts := [], laidByText := true, laidKinds := [.data, .data, .data, .handle, .data], laidTests := true, laidLooks := .later }
def ClockPrintsUptoCardSaid : Prop := Claim7.holds Tryd.pinned (.plain (OpenSpec.upto clockPrintsSpec)) clockPrintsUptoCard

/-- THE SECOND FORM's CARD OF 'lineagelaw04.ClockThere'. -/
def clockThereUptoCard : Claim7 := { stood := { row := clockThereUptoRow, standIns := [], harness := (true, "4452589e56b3fcb41047a854940a4a7b400dcb4c38fe5d812614e87bfa2e84bd"), looks := true }, kinds := [], alts := [], laidByText := true, laidKinds := [.data, .data, .data, .data, .sentinel, .sentinel, .data, .pinned], laidTests := true, laidLooks := .later }
def ClockThereUptoCardSaid : Prop := Claim7.holds Tryd.pinned (.plain (OpenSpec.upto clockThereSpec)) clockThereUptoCard

/-- THE SECOND FORM's CARD OF 'lineagelaw04.ClockBack'. -/
def clockBackUptoCard : Claim7 := { stood := { row := clockBackUptoRow, standIns := [], harness := (true, "4452589e56b3fcb41047a854940a4a7b400dcb4c38fe5d812614e87bfa2e84bd"), looks := true }, kinds := [], alts := [], laidByText := true, laidKinds := [.data, .data, .data, .data, .sentinel, .sentinel, .data, .pinned], laidTests := true, laidLooks := .later }
def ClockBackUptoCardSaid : Prop := Claim7.holds Tryd.pinned (.plain (OpenSpec.upto clockBackSpec)) clockBackUptoCard

/-- THE SECOND FORM's CARD OF 'lineagelaw04.ClockParses'. -/
def clockParsesUptoCard : Claim7 := { stood := { row := clockParsesUptoRow, standIns := [], harness := (true, "4452589e56b3fcb41047a854940a4a7b400dcb4c38fe5d812614e87bfa2e84bd"), looks := true }, kinds := [], alts := [], laidByText := true, laidKinds := [.data, .data, .data, .data, .handle, .sentinel, .sentinel, .data, .pinned], laidTests := true, laidLooks := .later }
def ClockParsesUptoCardSaid : Prop := Claim7.holds Tryd.pinned (.plain (OpenSpec.upto clockParsesSpec)) clockParsesUptoCard
end Rows
end Go.Proofs.YtbgplehmjejikaaDoor
