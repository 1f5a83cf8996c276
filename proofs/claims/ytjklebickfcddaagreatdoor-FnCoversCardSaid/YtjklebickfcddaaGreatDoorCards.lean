/-
  DERIVED. GIVEN WITH THE SEED: THE CARDS: each row of YtjklebickfcddaaGreatDoorRows.lean that lists a variable, with what it lists TIED to the program's text (the seventh form; the later family's looks); each row that meets fmt, with fmt's text TOLD by the authors' own Lean function (tested against real Go, not proved from fmt's source: count such statements apart). THE CARD IS WHAT COUNTS. Prove the row's statement (the work); the ties are given (YtjklebickfcddaaGreatDoorTie.lean); close each card by the builder's one call (the guide's Derived/Test/ToyasCard.lean, 'card_holds'). Laid BY PROGRAM, IN A SANDBOX (cutbox-door.mjs). By AI agents, Wed Nov 11 2026. No macro, syntax, notation, axiom, sorry.
-/
import Derived.Test.YtjklebickfcddaaGreatDoorRows
import GoSem.ClaimSeven
namespace Go.Proofs.YtjklebickfcddaaGreatDoor
namespace Rows

/-- THE TIED CARD OF 'laws.FnCovers'. -/
def fnCoversCard : Claim7 := { stood := { row := fnCoversRow, standIns := [], harness := (true, "dae97ddebbba2fc79a8c4d0433490a02c02a5459a9bb0d233ec60c218f50e2c5"), looks := false }, kinds := [], alts := [], laidByText := true, laidKinds := [.data, .pinned], laidTests := true, laidLooks := .later }
def FnCoversCardSaid : Prop := Claim7.holds Tryz.pinned (.plain (OpenSpec.ofChange fnCoversSpec)) fnCoversCard

/-- THE SECOND FORM's CARD OF 'laws.FnCovers'. -/
def fnCoversUptoCard : Claim7 := { stood := { row := fnCoversUptoRow, standIns := [], harness := (true, "dae97ddebbba2fc79a8c4d0433490a02c02a5459a9bb0d233ec60c218f50e2c5"), looks := false }, kinds := [], alts := [], laidByText := true, laidKinds := [.data, .pinned], laidTests := true, laidLooks := .later }
def FnCoversUptoCardSaid : Prop := Claim7.holds Tryz.pinned (.plain (OpenSpec.upto fnCoversSpec)) fnCoversUptoCard
end Rows
end Go.Proofs.YtjklebickfcddaaGreatDoor
