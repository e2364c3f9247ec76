/-
  DERIVED. GIVEN WITH THE SEED: THE CARDS: each row of YtnkjalladhmffaaDoorRows.lean that lists a variable, with what it lists TIED to the program's text (the seventh form; the later family's looks); each row that meets fmt, with fmt's text TOLD by the authors' own Lean function (tested against real Go, not proved from fmt's source: count such statements apart). THE CARD IS WHAT COUNTS. Prove the row's statement (the work); the ties are given (YtnkjalladhmffaaDoorTie.lean); close each card by the builder's one call (the guide's Derived/Test/ToyasCard.lean, 'card_holds'). Laid BY PROGRAM, IN A SANDBOX (cutbox-door.mjs). By AI agents, Wed Nov 11 2026. No macro, syntax, notation, axiom, sorry.
-/
import Derived.Test.YtnkjalladhmffaaDoorRows
import GoSem.ClaimSeven
namespace Go.Proofs.YtnkjalladhmffaaDoor
namespace Rows

/-- THE TIED CARD OF 'lineagelaw31.ConsoleWords'. -/
def consoleWordsCard : Claim7 := { stood := { row := consoleWordsRow, standIns := [], harness := (true, "b703491e2efc8a4422ce747ba61bce9cd7e6bef3adc715527f186aed192feb71"), looks := true }, kinds := [], alts := [], laidByText := true, laidKinds := [.handle], laidTests := true, laidLooks := .later }
def ConsoleWordsCardSaid : Prop := Claim7.holds Tryd.pinned (.plain (OpenSpec.ofChange consoleWordsSpec)) consoleWordsCard

/-- THE SECOND FORM's CARD OF 'lineagelaw31.ConsoleWords'. -/
def consoleWordsUptoCard : Claim7 := { stood := { row := consoleWordsUptoRow, standIns := [], harness := (true, "b703491e2efc8a4422ce747ba61bce9cd7e6bef3adc715527f186aed192feb71"), looks := true }, kinds := [], alts := [], laidByText := true, laidKinds := [.handle], laidTests := true, laidLooks := .later }
def ConsoleWordsUptoCardSaid : Prop := Claim7.holds Tryd.pinned (.plain (OpenSpec.upto consoleWordsSpec)) consoleWordsUptoCard
end Rows
end Go.Proofs.YtnkjalladhmffaaDoor
