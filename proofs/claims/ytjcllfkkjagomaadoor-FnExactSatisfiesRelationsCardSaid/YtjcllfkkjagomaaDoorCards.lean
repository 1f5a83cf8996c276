/-
  DERIVED. GIVEN WITH THE SEED: THE CARDS: each row of YtjcllfkkjagomaaDoorRows.lean that lists a variable, with what it lists TIED to the program's text (the seventh form; the later family's looks); each row that meets fmt, with fmt's text TOLD by the authors' own Lean function (tested against real Go, not proved from fmt's source: count such statements apart). THE CARD IS WHAT COUNTS. Prove the row's statement (the work); the ties are given (YtjcllfkkjagomaaDoorTie.lean); close each card by the builder's one call (the guide's Derived/Test/ToyasCard.lean, 'card_holds'). Laid BY PROGRAM, IN A SANDBOX (cutbox-door.mjs). By AI agents, Wed Nov 11 2026. No macro, syntax, notation, axiom, sorry.
-/
import Derived.Test.YtjcllfkkjagomaaDoorRows
import GoSem.ClaimSeven
namespace Go.Proofs.YtjcllfkkjagomaaDoor
namespace Rows

/-- THE TIED CARD OF 'laws.FnExactWalkOf'. -/
def fnExactWalkOfCard : Claim7 := { stood := { row := fnExactWalkOfRow, standIns := [], harness := (true, "db2f826b480ee73c5cd3002d3ca01e2ec9859842053342f4c8d0163d7d7306ff"), looks := false }, kinds := [], alts := [], laidByText := true, laidKinds := [.data, .pinned], laidTests := true, laidLooks := .later }
def FnExactWalkOfCardSaid : Prop := Claim7.holds Tryd.pinned (.plain (OpenSpec.ofChange fnExactWalkOfSpec)) fnExactWalkOfCard

/-- THE TIED CARD OF 'laws.FnExactIsWord'. -/
def fnExactIsWordCard : Claim7 := { stood := { row := fnExactIsWordRow, standIns := [], harness := (true, "db2f826b480ee73c5cd3002d3ca01e2ec9859842053342f4c8d0163d7d7306ff"), looks := false }, kinds := [], alts := [], laidByText := true, laidKinds := [.data, .pinned], laidTests := true, laidLooks := .later }
def FnExactIsWordCardSaid : Prop := Claim7.holds Tryd.pinned (.plain (OpenSpec.ofChange fnExactIsWordSpec)) fnExactIsWordCard

/-- THE TIED CARD OF 'laws.FnExactInverseWord'. -/
def fnExactInverseWordCard : Claim7 := { stood := { row := fnExactInverseWordRow, standIns := [], harness := (true, "db2f826b480ee73c5cd3002d3ca01e2ec9859842053342f4c8d0163d7d7306ff"), looks := false }, kinds := [], alts := [], laidByText := true, laidKinds := [.data, .pinned], laidTests := true, laidLooks := .later }
def FnExactInverseWordCardSaid : Prop := Claim7.holds Tryd.pinned (.plain (OpenSpec.ofChange fnExactInverseWordSpec)) fnExactInverseWordCard

/-- THE TIED CARD OF 'laws.FnExactReduceWord'. -/
def fnExactReduceWordCard : Claim7 := { stood := { row := fnExactReduceWordRow, standIns := [], harness := (true, "db2f826b480ee73c5cd3002d3ca01e2ec9859842053342f4c8d0163d7d7306ff"), looks := false }, kinds := [], alts := [], laidByText := true, laidKinds := [.data, .pinned], laidTests := true, laidLooks := .later }
def FnExactReduceWordCardSaid : Prop := Claim7.holds Tryd.pinned (.plain (OpenSpec.ofChange fnExactReduceWordSpec)) fnExactReduceWordCard

/-- THE TIED CARD OF 'laws.FnExactWordPlaces'. -/
def fnExactWordPlacesCard : Claim7 := { stood := { row := fnExactWordPlacesRow, standIns := [], harness := (true, "db2f826b480ee73c5cd3002d3ca01e2ec9859842053342f4c8d0163d7d7306ff"), looks := false }, kinds := [], alts := [], laidByText := true, laidKinds := [.data, .pinned], laidTests := true, laidLooks := .later }
def FnExactWordPlacesCardSaid : Prop := Claim7.holds Tryd.pinned (.plain (OpenSpec.ofChange fnExactWordPlacesSpec)) fnExactWordPlacesCard

/-- THE TIED CARD OF 'laws.FnExactSatisfiesRelations'. -/
def fnExactSatisfiesRelationsCard : Claim7 := { stood := { row := fnExactSatisfiesRelationsRow, standIns := [], harness := (true, "db2f826b480ee73c5cd3002d3ca01e2ec9859842053342f4c8d0163d7d7306ff"), looks := false }, kinds := [], alts := [], laidByText := true, laidKinds := [.data, .pinned], laidTests := true, laidLooks := .later }
def FnExactSatisfiesRelationsCardSaid : Prop := Claim7.holds Tryd.pinned (.plain (OpenSpec.ofChange fnExactSatisfiesRelationsSpec)) fnExactSatisfiesRelationsCard

/-- THE SECOND FORM's CARD OF 'laws.FnExactWalkOf'. -/
def fnExactWalkOfUptoCard : Claim7 := { stood := { row := fnExactWalkOfUptoRow, standIns := [], harness := (true, "db2f826b480ee73c5cd3002d3ca01e2ec9859842053342f4c8d0163d7d7306ff"), looks := false }, kinds := [], alts := [], laidByText := true, laidKinds := [.data, .pinned], laidTests := true, laidLooks := .later }
def FnExactWalkOfUptoCardSaid : Prop := Claim7.holds Tryd.pinned (.plain (OpenSpec.upto fnExactWalkOfSpec)) fnExactWalkOfUptoCard

/-- THE SECOND FORM's CARD OF 'laws.FnExactIsWord'. -/
def fnExactIsWordUptoCard : Claim7 := { stood := { row := fnExactIsWordUptoRow, standIns := [], harness := (true, "db2f826b480ee73c5cd3002d3ca01e2ec9859842053342f4c8d0163d7d7306ff"), looks := false }, kinds := [], alts := [], laidByText := true, laidKinds := [.data, .pinned], laidTests := true, laidLooks := .later }
def FnExactIsWordUptoCardSaid : Prop := Claim7.holds Tryd.pinned (.plain (OpenSpec.upto fnExactIsWordSpec)) fnExactIsWordUptoCard

/-- THE SECOND FORM's CARD OF 'laws.FnExactInverseWord'. -/
def fnExactInverseWordUptoCard : Claim7 := { stood := { row := fnExactInverseWordUptoRow, standIns := [], harness := (true, "db2f826b480ee73c5cd3002d3ca01e2ec9859842053342f4c8d0163d7d7306ff"), looks := false }, kinds := [], alts := [], laidByText := true, laidKinds := [.data, .pinned], laidTests := true, laidLooks := .later }
def FnExactInverseWordUptoCardSaid : Prop := Claim7.holds Tryd.pinned (.plain (OpenSpec.upto fnExactInverseWordSpec)) fnExactInverseWordUptoCard

/-- THE SECOND FORM's CARD OF 'laws.FnExactReduceWord'. -/
def fnExactReduceWordUptoCard : Claim7 := { stood := { row := fnExactReduceWordUptoRow, standIns := [], harness := (true, "db2f826b480ee73c5cd3002d3ca01e2ec9859842053342f4c8d0163d7d7306ff"), looks := false }, kinds := [], alts := [], laidByText := true, laidKinds := [.data, .pinned], laidTests := true, laidLooks := .later }
def FnExactReduceWordUptoCardSaid : Prop := Claim7.holds Tryd.pinned (.plain (OpenSpec.upto fnExactReduceWordSpec)) fnExactReduceWordUptoCard

/-- THE SECOND FORM's CARD OF 'laws.FnExactWordPlaces'. -/
def fnExactWordPlacesUptoCard : Claim7 := { stood := { row := fnExactWordPlacesUptoRow, standIns := [], harness := (true, "db2f826b480ee73c5cd3002d3ca01e2ec9859842053342f4c8d0163d7d7306ff"), looks := false }, kinds := [], alts := [], laidByText := true, laidKinds := [.data, .pinned], laidTests := true, laidLooks := .later }
def FnExactWordPlacesUptoCardSaid : Prop := Claim7.holds Tryd.pinned (.plain (OpenSpec.upto fnExactWordPlacesSpec)) fnExactWordPlacesUptoCard

/-- THE SECOND FORM's CARD OF 'laws.FnExactSatisfiesRelations'. -/
def fnExactSatisfiesRelationsUptoCard : Claim7 := { stood := { row := fnExactSatisfiesRelationsUptoRow, standIns := [], harness := (true, "db2f826b480ee73c5cd3002d3ca01e2ec9859842053342f4c8d0163d7d7306ff"), looks := false }, kinds := [], alts := [], laidByText := true, laidKinds := [.data, .pinned], laidTests := true, laidLooks := .later }
def FnExactSatisfiesRelationsUptoCardSaid : Prop := Claim7.holds Tryd.pinned (.plain (OpenSpec.upto fnExactSatisfiesRelationsSpec)) fnExactSatisfiesRelationsUptoCard
end Rows
end Go.Proofs.YtjcllfkkjagomaaDoor
