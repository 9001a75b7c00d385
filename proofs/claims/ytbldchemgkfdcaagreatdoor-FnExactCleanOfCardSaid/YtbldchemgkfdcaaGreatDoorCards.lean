/-
  DERIVED. GIVEN WITH THE SEED: THE CARDS: each row of YtbldchemgkfdcaaGreatDoorRows.lean that lists a variable, with what it lists TIED to the program's text (the seventh form; the later family's looks); each row that meets fmt, with fmt's text TOLD by the authors' own Lean function (tested against real Go, not proved from fmt's source: count such statements apart). THE CARD IS WHAT COUNTS. Prove the row's statement (the work); the ties are given (YtbldchemgkfdcaaGreatDoorTie.lean); close each card by the builder's one call (the guide's Derived/Test/ToyasCard.lean, 'card_holds'). Laid BY PROGRAM, IN A SANDBOX (cutbox-door.mjs). By AI agents, Wed Nov 11 2026. No macro, syntax, notation, axiom, sorry.
-/
import Derived.Test.YtbldchemgkfdcaaGreatDoorRows
import GoSem.ClaimSeven
namespace Go.Proofs.YtbldchemgkfdcaaGreatDoor
namespace Rows

/-- THE TIED CARD OF 'laws.FnExactSubOf'. -/
def fnExactSubOfCard : Claim7 := { stood := { row := fnExactSubOfRow, standIns := [], harness := (true, "4096cc30d1d245149a469e59da1cdea12d6c8ae7deb7cfdcebfa973f816a1618"), looks := true }, kinds := [], alts := [], laidByText := true, laidKinds := [.data, .data, .data], laidTests := true, laidLooks := .later }
def FnExactSubOfCardSaid : Prop := Claim7.holds Tryz.pinned (.plain (OpenSpec.ofChange fnExactSubOfSpec)) fnExactSubOfCard

/-- THE TIED CARD OF 'laws.FnExactPathsIn'. -/
def fnExactPathsInCard : Claim7 := { stood := { row := fnExactPathsInRow, standIns := [], harness := (true, "4096cc30d1d245149a469e59da1cdea12d6c8ae7deb7cfdcebfa973f816a1618"), looks := true }, kinds := [], alts := [], laidByText := true, laidKinds := [.data, .data, .data], laidTests := true, laidLooks := .later }
def FnExactPathsInCardSaid : Prop := Claim7.holds Tryz.pinned (.plain (OpenSpec.ofChange fnExactPathsInSpec)) fnExactPathsInCard

/-- THE TIED CARD OF 'laws.FnExactCleanOf'. -/
def fnExactCleanOfCard : Claim7 := { stood := { row := fnExactCleanOfRow, standIns := [], harness := (true, "4096cc30d1d245149a469e59da1cdea12d6c8ae7deb7cfdcebfa973f816a1618"), looks := true }, kinds := [], alts := [], laidByText := true, laidKinds := [.data, .data, .data], laidTests := true, laidLooks := .later }
def FnExactCleanOfCardSaid : Prop := Claim7.holds Tryz.pinned (.plain (OpenSpec.ofChange fnExactCleanOfSpec)) fnExactCleanOfCard

/-- THE TIED CARD OF 'laws.FnExactReadKey'. -/
def fnExactReadKeyCard : Claim7 := { stood := { row := fnExactReadKeyRow, standIns := [], harness := (true, "4096cc30d1d245149a469e59da1cdea12d6c8ae7deb7cfdcebfa973f816a1618"), looks := true }, kinds := [], alts := [], laidByText := true, laidKinds := [.data, .data, .data], laidTests := true, laidLooks := .later }
def FnExactReadKeyCardSaid : Prop := Claim7.holds Tryz.pinned (.plain (OpenSpec.ofChange fnExactReadKeySpec)) fnExactReadKeyCard

/-- THE TIED CARD OF 'laws.FnExactSortValues'. -/
def fnExactSortValuesCard : Claim7 := { stood := { row := fnExactSortValuesRow, standIns := [], harness := (true, "4096cc30d1d245149a469e59da1cdea12d6c8ae7deb7cfdcebfa973f816a1618"), looks := true }, kinds := [], alts := [], laidByText := true, laidKinds := [.data, .data, .data], laidTests := true, laidLooks := .later }
def FnExactSortValuesCardSaid : Prop := Claim7.holds Tryz.pinned (.plain (OpenSpec.ofChange fnExactSortValuesSpec)) fnExactSortValuesCard

/-- THE SECOND FORM's CARD OF 'laws.FnExactSubOf'. -/
def fnExactSubOfUptoCard : Claim7 := { stood := { row := fnExactSubOfUptoRow, standIns := [], harness := (true, "4096cc30d1d245149a469e59da1cdea12d6c8ae7deb7cfdcebfa973f816a1618"), looks := true }, kinds := [], alts := [], laidByText := true, laidKinds := [.data, .data, .data], laidTests := true, laidLooks := .later }
def FnExactSubOfUptoCardSaid : Prop := Claim7.holds Tryz.pinned (.plain (OpenSpec.upto fnExactSubOfSpec)) fnExactSubOfUptoCard

/-- THE SECOND FORM's CARD OF 'laws.FnExactPathsIn'. -/
def fnExactPathsInUptoCard : Claim7 := { stood := { row := fnExactPathsInUptoRow, standIns := [], harness := (true, "4096cc30d1d245149a469e59da1cdea12d6c8ae7deb7cfdcebfa973f816a1618"), looks := true }, kinds := [], alts := [], laidByText := true, laidKinds := [.data, .data, .data], laidTests := true, laidLooks := .later }
def FnExactPathsInUptoCardSaid : Prop := Claim7.holds Tryz.pinned (.plain (OpenSpec.upto fnExactPathsInSpec)) fnExactPathsInUptoCard

/-- THE SECOND FORM's CARD OF 'laws.FnExactCleanOf'. -/
def fnExactCleanOfUptoCard : Claim7 := { stood := { row := fnExactCleanOfUptoRow, standIns := [], harness := (true, "4096cc30d1d245149a469e59da1cdea12d6c8ae7deb7cfdcebfa973f816a1618"), looks := true }, kinds := [], alts := [], laidByText := true, laidKinds := [.data, .data, .data], laidTests := true, laidLooks := .later }
def FnExactCleanOfUptoCardSaid : Prop := Claim7.holds Tryz.pinned (.plain (OpenSpec.upto fnExactCleanOfSpec)) fnExactCleanOfUptoCard

/-- THE SECOND FORM's CARD OF 'laws.FnExactReadKey'. -/
def fnExactReadKeyUptoCard : Claim7 := { stood := { row := fnExactReadKeyUptoRow, standIns := [], harness := (true, "4096cc30d1d245149a469e59da1cdea12d6c8ae7deb7cfdcebfa973f816a1618"), looks := true }, kinds := [], alts := [], laidByText := true, laidKinds := [.data, .data, .data], laidTests := true, laidLooks := .later }
def FnExactReadKeyUptoCardSaid : Prop := Claim7.holds Tryz.pinned (.plain (OpenSpec.upto fnExactReadKeySpec)) fnExactReadKeyUptoCard

/-- THE SECOND FORM's CARD OF 'laws.FnExactSortValues'. -/
def fnExactSortValuesUptoCard : Claim7 := { stood := { row := fnExactSortValuesUptoRow, standIns := [], harness := (true, "4096cc30d1d245149a469e59da1cdea12d6c8ae7deb7cfdcebfa973f816a1618"), looks := true }, kinds := [], alts := [], laidByText := true, laidKinds := [.data, .data, .data], laidTests := true, laidLooks := .later }
def FnExactSortValuesUptoCardSaid : Prop := Claim7.holds Tryz.pinned (.plain (OpenSpec.upto fnExactSortValuesSpec)) fnExactSortValuesUptoCard
end Rows
end Go.Proofs.YtbldchemgkfdcaaGreatDoor
