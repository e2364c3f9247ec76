/-
  DERIVED. GIVEN WITH THE SEED: THE CARDS: each row of YtgneebidmhiagaaDoorRows.lean that lists a variable, with what it lists TIED to the program's text (the seventh form; the later family's looks); each row that meets fmt, with fmt's text TOLD by the authors' own Lean function (tested against real Go, not proved from fmt's source: count such statements apart). THE CARD IS WHAT COUNTS. Prove the row's statement (the work); the ties are given (YtgneebidmhiagaaDoorTie.lean); close each card by the builder's one call (the guide's Derived/Test/ToyasCard.lean, 'card_holds'). Laid BY PROGRAM, IN A SANDBOX (cutbox-door.mjs). By AI agents, Wed Nov 11 2026. No macro, syntax, notation, axiom, sorry.
-/
import Derived.Test.YtgneebidmhiagaaDoorRows
import GoSem.ClaimSeven
namespace Go.Proofs.YtgneebidmhiagaaDoor
namespace Rows

/-- THE TIED CARD OF 'lineagelaw03.ScopeBooks'. -/
def scopeBooksCard : Claim7 := { stood := { row := scopeBooksRow, standIns := [], harness := (true, "780eb2d3e68ef5a4a7578fc66f32779415b676e14602066afca59cee2e5c2ade"), looks := true }, kinds := [], alts := [], laidByText := true, laidKinds := [.data, .handle, .pinned], laidTests := true, laidLooks := .later }
def ScopeBooksCardSaid : Prop := Claim7.holds Tryd.pinned (.plain (OpenSpec.ofChange scopeBooksSpec)) scopeBooksCard

/-- THE TIED CARD OF 'lineagelaw03.ScopeBack'. -/
def scopeBackCard : Claim7 := { stood := { row := scopeBackRow, standIns := [], harness := (true, "780eb2d3e68ef5a4a7578fc66f32779415b676e14602066afca59cee2e5c2ade"), looks := true }, kinds := [], alts := [], laidByText := true, laidKinds := [.data, .pinned], laidTests := true, laidLooks := .later }
def ScopeBackCardSaid : Prop := Claim7.holds Tryd.pinned (.plain (OpenSpec.ofChange scopeBackSpec)) scopeBackCard

/-- THE TIED CARD OF 'lineagelaw03.ScopePrints'. -/
def scopePrintsCard : Claim7 := { stood := { row := scopePrintsRow, standIns := [], harness := (true, "780eb2d3e68ef5a4a7578fc66f32779415b676e14602066afca59cee2e5c2ade"), looks := true }, kinds := [], alts := [], laidByText := true, laidKinds := [.data, .handle, .pinned], laidTests := true, laidLooks := .later }
def ScopePrintsCardSaid : Prop := Claim7.holds Tryd.pinned (.plain (OpenSpec.ofChange scopePrintsSpec)) scopePrintsCard

/-- THE TIED CARD OF 'lineagelaw03.ScopeParses'. -/
def scopeParsesCard : Claim7 := { stood := { row := scopeParsesRow, standIns := [], harness := (true, "780eb2d3e68ef5a4a7578fc66f32779415b676e14602066afca59cee2e5c2ade"), looks := true }, kinds := [], alts := [], laidByText := true, laidKinds := [.data, .handle, .pinned], laidTests := true, laidLooks := .later }
def ScopeParsesCardSaid : Prop := Claim7.holds Tryd.pinned (.plain (OpenSpec.ofChange scopeParsesSpec)) scopeParsesCard

/-- THE TIED CARD OF 'lineagelaw03.ScopeJoined'. -/
def scopeJoinedCard : Claim7 := { stood := { row := scopeJoinedRow, standIns := [], harness := (true, "780eb2d3e68ef5a4a7578fc66f32779415b676e14602066afca59cee2e5c2ade"), looks := true }, kinds := [], alts := [], laidByText := true, laidKinds := [.data, .handle, .pinned], laidTests := true, laidLooks := .later }
def ScopeJoinedCardSaid : Prop := Claim7.holds Tryd.pinned (.plain (OpenSpec.ofChange scopeJoinedSpec)) scopeJoinedCard

/-- THE TIED CARD OF 'lineagelaw03.ScopeBelow'. -/
def scopeBelowCard : Claim7 := { stood := { row := scopeBelowRow, standIns := [], harness := (true, "780eb2d3e68ef5a4a7578fc66f32779415b676e14602066afca59cee2e5c2ade"), looks := true }, kinds := [], alts := [], laidByText := true, laidKinds := [.data, .handle, .pinned], laidTests := true, laidLooks := .later }
def ScopeBelowCardSaid : Prop := Claim7.holds Tryd.pinned (.plain (OpenSpec.ofChange scopeBelowSpec)) scopeBelowCard

/-- THE TIED CARD OF 'lineagelaw03.ScopeKnown'. -/
def scopeKnownCard : Claim7 := { stood := { row := scopeKnownRow, standIns := [], harness := (true, "780eb2d3e68ef5a4a7578fc66f32779415b676e14602066afca59cee2e5c2ade"), looks := true }, kinds := [], alts := [], laidByText := true, laidKinds := [.data, .handle, .pinned], laidTests := true, laidLooks := .later }
def ScopeKnownCardSaid : Prop := Claim7.holds Tryd.pinned (.plain (OpenSpec.ofChange scopeKnownSpec)) scopeKnownCard

/-- THE SECOND FORM's CARD OF 'lineagelaw03.ScopeBooks'. -/
def scopeBooksUptoCard : Claim7 := { stood := { row := scopeBooksUptoRow, standIns := [], harness := (true, "780eb2d3e68ef5a4a7578fc66f32779415b676e14602066afca59cee2e5c2ade"), looks := true }, kinds := [], alts := [], laidByText := true, laidKinds := [.data, .handle, .pinned], laidTests := true, laidLooks := .later }
def ScopeBooksUptoCardSaid : Prop := Claim7.holds Tryd.pinned (.plain (OpenSpec.upto scopeBooksSpec)) scopeBooksUptoCard

/-- THE SECOND FORM's CARD OF 'lineagelaw03.ScopeBack'. -/
def scopeBackUptoCard : Claim7 := { stood := { row := scopeBackUptoRow, standIns := [], harness := (true, "780eb2d3e68ef5a4a7578fc66f32779415b676e14602066afca59cee2e5c2ade"), looks := true }, kinds := [], alts := [], laidByText := true, laidKinds := [.data, .pinned], laidTests := true, laidLooks := .later }
def ScopeBackUptoCardSaid : Prop := Claim7.holds Tryd.pinned (.plain (OpenSpec.upto scopeBackSpec)) scopeBackUptoCard

/-- THE SECOND FORM's CARD OF 'lineagelaw03.ScopePrints'. -/
def scopePrintsUptoCard : Claim7 := { stood := { row := scopePrintsUptoRow, standIns := [], harness := (true, "780eb2d3e68ef5a4a7578fc66f32779415b676e14602066afca59cee2e5c2ade"), looks := true }, kinds := [], alts := [], laidByText := true, laidKinds := [.data, .handle, .pinned], laidTests := true, laidLooks := .later }
def ScopePrintsUptoCardSaid : Prop := Claim7.holds Tryd.pinned (.plain (OpenSpec.upto scopePrintsSpec)) scopePrintsUptoCard

/-- THE SECOND FORM's CARD OF 'lineagelaw03.ScopeParses'. -/
def scopeParsesUptoCard : Claim7 := { stood := { row := scopeParsesUptoRow, standIns := [], harness := (true, "780eb2d3e68ef5a4a7578fc66f32779415b676e14602066afca59cee2e5c2ade"), looks := true }, kinds := [], alts := [], laidByText := true, laidKinds := [.data, .handle, .pinned], laidTests := true, laidLooks := .later }
def ScopeParsesUptoCardSaid : Prop := Claim7.holds Tryd.pinned (.plain (OpenSpec.upto scopeParsesSpec)) scopeParsesUptoCard

/-- THE SECOND FORM's CARD OF 'lineagelaw03.ScopeJoined'. -/
def scopeJoinedUptoCard : Claim7 := { stood := { row := scopeJoinedUptoRow, standIns := [], harness := (true, "780eb2d3e68ef5a4a7578fc66f32779415b676e14602066afca59cee2e5c2ade"), looks := true }, kinds := [], alts := [], laidByText := true, laidKinds := [.data, .handle, .pinned], laidTests := true, laidLooks := .later }
def ScopeJoinedUptoCardSaid : Prop := Claim7.holds Tryd.pinned (.plain (OpenSpec.upto scopeJoinedSpec)) scopeJoinedUptoCard

/-- THE SECOND FORM's CARD OF 'lineagelaw03.ScopeBelow'. -/
def scopeBelowUptoCard : Claim7 := { stood := { row := scopeBelowUptoRow, standIns := [], harness := (true, "780eb2d3e68ef5a4a7578fc66f32779415b676e14602066afca59cee2e5c2ade"), looks := true }, kinds := [], alts := [], laidByText := true, laidKinds := [.data, .handle, .pinned], laidTests := true, laidLooks := .later }
def ScopeBelowUptoCardSaid : Prop := Claim7.holds Tryd.pinned (.plain (OpenSpec.upto scopeBelowSpec)) scopeBelowUptoCard

/-- THE SECOND FORM's CARD OF 'lineagelaw03.ScopeKnown'. -/
def scopeKnownUptoCard : Claim7 := { stood := { row := scopeKnownUptoRow, standIns := [], harness := (true, "780eb2d3e68ef5a4a7578fc66f32779415b676e14602066afca59cee2e5c2ade"), looks := true }, kinds := [], alts := [], laidByText := true, laidKinds := [.data, .handle, .pinned], laidTests := true, laidLooks := .later }
def ScopeKnownUptoCardSaid : Prop := Claim7.holds Tryd.pinned (.plain (OpenSpec.upto scopeKnownSpec)) scopeKnownUptoCard
end Rows
end Go.Proofs.YtgneebidmhiagaaDoor
