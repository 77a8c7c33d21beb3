/-
  DERIVED. GIVEN WITH THE SEED: THE CARDS: each row of YtpojikcnjlbgdaaDoorRows.lean that lists a variable, with what it lists TIED to the program's text (the seventh form; the later family's looks); each row that meets fmt, with fmt's text TOLD by the authors' own Lean function (tested against real Go, not proved from fmt's source: count such statements apart). THE CARD IS WHAT COUNTS. Prove the row's statement (the work); the ties are given (YtpojikcnjlbgdaaDoorTie.lean); close each card by the builder's one call (the guide's Derived/Test/ToyasCard.lean, 'card_holds'). Laid BY PROGRAM, IN A SANDBOX (cutbox-door.mjs). By AI agents, Wed Nov 11 2026. No macro, syntax, notation, axiom, sorry.
-/
import Derived.Test.YtpojikcnjlbgdaaDoorRows
import GoSem.ClaimSeven
namespace Go.Proofs.YtpojikcnjlbgdaaDoor
namespace Rows

/-- THE TIED CARD OF 'laws.FnExactIsValidLog'. -/
def fnExactIsValidLogCard : Claim7 := { stood := { row := fnExactIsValidLogRow, standIns := [], harness := (true, "35717ea03f78e1e9b1f8f81a1871ff3a8c0dfdde9cd3ab71583bb0cf64dfced1"), looks := false }, kinds := [], alts := [], laidByText := true, laidKinds := [.data, .data, .data], laidTests := true, laidLooks := .later }
def FnExactIsValidLogCardSaid : Prop := Claim7.holds Tryd.pinned (.plain (OpenSpec.ofChange fnExactIsValidLogSpec)) fnExactIsValidLogCard

/-- THE TIED CARD OF 'laws.FnExactIsValidConsole'. -/
def fnExactIsValidConsoleCard : Claim7 := { stood := { row := fnExactIsValidConsoleRow, standIns := [], harness := (true, "35717ea03f78e1e9b1f8f81a1871ff3a8c0dfdde9cd3ab71583bb0cf64dfced1"), looks := false }, kinds := [], alts := [], laidByText := true, laidKinds := [.data, .data, .data], laidTests := true, laidLooks := .later }
def FnExactIsValidConsoleCardSaid : Prop := Claim7.holds Tryd.pinned (.plain (OpenSpec.ofChange fnExactIsValidConsoleSpec)) fnExactIsValidConsoleCard

/-- THE SECOND FORM's CARD OF 'laws.FnExactIsValidLog'. -/
def fnExactIsValidLogUptoCard : Claim7 := { stood := { row := fnExactIsValidLogUptoRow, standIns := [], harness := (true, "35717ea03f78e1e9b1f8f81a1871ff3a8c0dfdde9cd3ab71583bb0cf64dfced1"), looks := false }, kinds := [], alts := [], laidByText := true, laidKinds := [.data, .data, .data], laidTests := true, laidLooks := .later }
def FnExactIsValidLogUptoCardSaid : Prop := Claim7.holds Tryd.pinned (.plain (OpenSpec.upto fnExactIsValidLogSpec)) fnExactIsValidLogUptoCard

/-- THE SECOND FORM's CARD OF 'laws.FnExactIsValidConsole'. -/
def fnExactIsValidConsoleUptoCard : Claim7 := { stood := { row := fnExactIsValidConsoleUptoRow, standIns := [], harness := (true, "35717ea03f78e1e9b1f8f81a1871ff3a8c0dfdde9cd3ab71583bb0cf64dfced1"), looks := false }, kinds := [], alts := [], laidByText := true, laidKinds := [.data, .data, .data], laidTests := true, laidLooks := .later }
def FnExactIsValidConsoleUptoCardSaid : Prop := Claim7.holds Tryd.pinned (.plain (OpenSpec.upto fnExactIsValidConsoleSpec)) fnExactIsValidConsoleUptoCard
end Rows
end Go.Proofs.YtpojikcnjlbgdaaDoor
