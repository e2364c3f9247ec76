/-
  DERIVED. GIVEN WITH THE SEED: THE CARDS: each row of YtkmgpajodbadmaaDoorRows.lean that lists a variable, with what it lists TIED to the program's text (the seventh form; the later family's looks); each row that meets fmt, with fmt's text TOLD by the authors' own Lean function (tested against real Go, not proved from fmt's source: count such statements apart). THE CARD IS WHAT COUNTS. Prove the row's statement (the work); the ties are given (YtkmgpajodbadmaaDoorTie.lean); close each card by the builder's one call (the guide's Derived/Test/ToyasCard.lean, 'card_holds'). Laid BY PROGRAM, IN A SANDBOX (cutbox-door.mjs). By AI agents, Wed Nov 11 2026. No macro, syntax, notation, axiom, sorry.
-/
import Derived.Test.YtkmgpajodbadmaaDoorRows
import GoSem.ClaimSeven
namespace Go.Proofs.YtkmgpajodbadmaaDoor
namespace Rows

/-- THE TIED CARD OF 'lineagelaw20.HeapPlays'. -/
def heapPlaysCard : Claim7 := { stood := { row := heapPlaysRow, standIns := [], harness := (true, "685a2337a9ae1f245b6fde5677ddfe728013ed9e4691ffd2cceb0ce86ae39d38"), looks := true }, kinds := [], alts := [], laidByText := true, laidKinds := [.handle], laidTests := true, laidLooks := .later }
def HeapPlaysCardSaid : Prop := Claim7.holds Tryd.pinned (.plain (OpenSpec.ofChange heapPlaysSpec)) heapPlaysCard

/-- THE TIED CARD OF 'lineagelaw20.HeapKnown'. -/
def heapKnownCard : Claim7 := { stood := { row := heapKnownRow, standIns := [], harness := (true, "685a2337a9ae1f245b6fde5677ddfe728013ed9e4691ffd2cceb0ce86ae39d38"), looks := true }, kinds := [], alts := [], laidByText := true, laidKinds := [.handle], laidTests := true, laidLooks := .later }
def HeapKnownCardSaid : Prop := Claim7.holds Tryd.pinned (.plain (OpenSpec.ofChange heapKnownSpec)) heapKnownCard

/-- THE TIED CARD OF 'lineagelaw21.ExpiryPlays'. -/
def expiryPlaysCard : Claim7 := { stood := { row := expiryPlaysRow, standIns := [], harness := (true, "685a2337a9ae1f245b6fde5677ddfe728013ed9e4691ffd2cceb0ce86ae39d38"), looks := true }, kinds := [], alts := [], laidByText := true, laidKinds := [.handle], laidTests := true, laidLooks := .later }
def ExpiryPlaysCardSaid : Prop := Claim7.holds Tryd.pinned (.plain (OpenSpec.ofChange expiryPlaysSpec)) expiryPlaysCard

/-- THE SECOND FORM's CARD OF 'lineagelaw20.HeapPlays'. -/
def heapPlaysUptoCard : Claim7 := { stood := { row := heapPlaysUptoRow, standIns := [], harness := (true, "685a2337a9ae1f245b6fde5677ddfe728013ed9e4691ffd2cceb0ce86ae39d38"), looks := true }, kinds := [], alts := [], laidByText := true, laidKinds := [.handle], laidTests := true, laidLooks := .later }
def HeapPlaysUptoCardSaid : Prop := Claim7.holds Tryd.pinned (.plain (OpenSpec.upto heapPlaysSpec)) heapPlaysUptoCard

/-- THE SECOND FORM's CARD OF 'lineagelaw20.HeapKnown'. -/
def heapKnownUptoCard : Claim7 := { stood := { row := heapKnownUptoRow, standIns := [], harness := (true, "685a2337a9ae1f245b6fde5677ddfe728013ed9e4691ffd2cceb0ce86ae39d38"), looks := true }, kinds := [], alts := [], laidByText := true, laidKinds := [.handle], laidTests := true, laidLooks := .later }
def HeapKnownUptoCardSaid : Prop := Claim7.holds Tryd.pinned (.plain (OpenSpec.upto heapKnownSpec)) heapKnownUptoCard

/-- THE SECOND FORM's CARD OF 'lineagelaw21.ExpiryPlays'. -/
def expiryPlaysUptoCard : Claim7 := { stood := { row := expiryPlaysUptoRow, standIns := [], harness := (true, "685a2337a9ae1f245b6fde5677ddfe728013ed9e4691ffd2cceb0ce86ae39d38"), looks := true }, kinds := [], alts := [], laidByText := true, laidKinds := [.handle], laidTests := true, laidLooks := .later }
def ExpiryPlaysUptoCardSaid : Prop := Claim7.holds Tryd.pinned (.plain (OpenSpec.upto expiryPlaysSpec)) expiryPlaysUptoCard
end Rows
end Go.Proofs.YtkmgpajodbadmaaDoor
