/-
  DERIVED. GIVEN WITH THE SEED: THE CARDS: each row of YtcamgjgfjpcelaaGreatDoorRows.lean that lists a variable, with what it lists TIED to the program's text (the seventh form; the later family's looks); each row that meets fmt, with fmt's text TOLD by the authors' own Lean function (tested against real Go, not proved from fmt's source: count such statements apart). THE CARD IS WHAT COUNTS. Prove the row's statement (the work); the ties are given (YtcamgjgfjpcelaaGreatDoorTie.lean); close each card by the builder's one call (the guide's Derived/Test/ToyasCard.lean, 'card_holds'). Laid BY PROGRAM, IN A SANDBOX (cutbox-door.mjs). By AI agents, Wed Nov 11 2026. No macro, syntax, notation, axiom, sorry.
-/
import Derived.Test.YtcamgjgfjpcelaaGreatDoorRows
import GoSem.ClaimSeven
namespace Go.Proofs.YtcamgjgfjpcelaaGreatDoor
namespace Rows

/-- THE TIED CARD OF 'laws.FnCubes'. -/
def fnCubesCard : Claim7 := { stood := { row := fnCubesRow, standIns := [], harness := (true, "1fa6f62b5f4f4409f0c1b14ccc81025df1bb6c2b2138ac14db84d3dc2b14fde9"), looks := false }, kinds := [], alts := [], laidByText := true, laidKinds := [.data, .data, .data, .data, .pinned], laidTests := true, laidLooks := .later }
def FnCubesCardSaid : Prop := Claim7.holds Tryz.pinned (.plain (OpenSpec.ofChange fnCubesSpec)) fnCubesCard

/-- THE SECOND FORM's CARD OF 'laws.FnCubes'. -/
def fnCubesUptoCard : Claim7 := { stood := { row := fnCubesUptoRow, standIns := [], harness := (true, "1fa6f62b5f4f4409f0c1b14ccc81025df1bb6c2b2138ac14db84d3dc2b14fde9"), looks := false }, kinds := [], alts := [], laidByText := true, laidKinds := [.data, .data, .data, .data, .pinned], laidTests := true, laidLooks := .later }
def FnCubesUptoCardSaid : Prop := Claim7.holds Tryz.pinned (.plain (OpenSpec.upto fnCubesSpec)) fnCubesUptoCard
end Rows
end Go.Proofs.YtcamgjgfjpcelaaGreatDoor
