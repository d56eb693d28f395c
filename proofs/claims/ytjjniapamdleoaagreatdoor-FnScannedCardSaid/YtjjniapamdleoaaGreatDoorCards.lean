/-
  DERIVED. GIVEN WITH THE SEED: THE CARDS: each row of YtjjniapamdleoaaGreatDoorRows.lean that lists a variable, with what it lists TIED to the program's text (the seventh form; the later family's looks); each row that meets fmt, with fmt's text TOLD by the authors' own Lean function (tested against real Go, not proved from fmt's source: count such statements apart). THE CARD IS WHAT COUNTS. Prove the row's statement (the work); the ties are given (YtjjniapamdleoaaGreatDoorTie.lean); close each card by the builder's one call (the guide's Derived/Test/ToyasCard.lean, 'card_holds'). Laid BY PROGRAM, IN A SANDBOX (cutbox-door.mjs). By AI agents, Wed Nov 11 2026. No macro, syntax, notation, axiom, sorry.
-/
import Derived.Test.YtjjniapamdleoaaGreatDoorRows
import GoSem.ClaimSeven
namespace Go.Proofs.YtjjniapamdleoaaGreatDoor
namespace Rows

/-- THE TIED CARD OF 'laws.FnListed'. -/
def fnListedCard : Claim7 := { stood := { row := fnListedRow, standIns := [], harness := (true, "2d6219cc3d0e812911b3eacb7f7ee618c7abb54f237bd6360dea46fd955a4580"), looks := false }, kinds := [], alts := [], laidByText := true, laidKinds := [.data], laidTests := true, laidLooks := .later }
def FnListedCardSaid : Prop := Claim7.holds Tryz.pinned (.plain (OpenSpec.ofChange fnListedSpec)) fnListedCard

/-- THE TIED CARD OF 'laws.FnStats'. -/
def fnStatsCard : Claim7 := { stood := { row := fnStatsRow, standIns := [], harness := (true, "2d6219cc3d0e812911b3eacb7f7ee618c7abb54f237bd6360dea46fd955a4580"), looks := false }, kinds := [], alts := [], laidByText := true, laidKinds := [.data], laidTests := true, laidLooks := .later }
def FnStatsCardSaid : Prop := Claim7.holds Tryz.pinned (.plain (OpenSpec.ofChange fnStatsSpec)) fnStatsCard

/-- THE TIED CARD OF 'laws.FnPath'. -/
def fnPathCard : Claim7 := { stood := { row := fnPathRow, standIns := [], harness := (true, "2d6219cc3d0e812911b3eacb7f7ee618c7abb54f237bd6360dea46fd955a4580"), looks := false }, kinds := [], alts := [], laidByText := true, laidKinds := [.data], laidTests := true, laidLooks := .later }
def FnPathCardSaid : Prop := Claim7.holds Tryz.pinned (.plain (OpenSpec.ofChange fnPathSpec)) fnPathCard

/-- THE TIED CARD OF 'laws.FnFind'. -/
def fnFindCard : Claim7 := { stood := { row := fnFindRow, standIns := [], harness := (true, "2d6219cc3d0e812911b3eacb7f7ee618c7abb54f237bd6360dea46fd955a4580"), looks := false }, kinds := [], alts := [], laidByText := true, laidKinds := [.data], laidTests := true, laidLooks := .later }
def FnFindCardSaid : Prop := Claim7.holds Tryz.pinned (.plain (OpenSpec.ofChange fnFindSpec)) fnFindCard

/-- THE TIED CARD OF 'laws.FnScanned'. -/
def fnScannedCard : Claim7 := { stood := { row := fnScannedRow, standIns := [], harness := (true, "2d6219cc3d0e812911b3eacb7f7ee618c7abb54f237bd6360dea46fd955a4580"), looks := false }, kinds := [], alts := [], laidByText := true, laidKinds := [.data], laidTests := true, laidLooks := .later }
def FnScannedCardSaid : Prop := Claim7.holds Tryz.pinned (.plain (OpenSpec.ofChange fnScannedSpec)) fnScannedCard

/-- THE SECOND FORM's CARD OF 'laws.FnListed'. -/
def fnListedUptoCard : Claim7 := { stood := { row := fnListedUptoRow, standIns := [], harness := (true, "2d6219cc3d0e812911b3eacb7f7ee618c7abb54f237bd6360dea46fd955a4580"), looks := false }, kinds := [], alts := [], laidByText := true, laidKinds := [.data], laidTests := true, laidLooks := .later }
def FnListedUptoCardSaid : Prop := Claim7.holds Tryz.pinned (.plain (OpenSpec.upto fnListedSpec)) fnListedUptoCard

/-- THE SECOND FORM's CARD OF 'laws.FnStats'. -/
def fnStatsUptoCard : Claim7 := { stood := { row := fnStatsUptoRow, standIns := [], harness := (true, "2d6219cc3d0e812911b3eacb7f7ee618c7abb54f237bd6360dea46fd955a4580"), looks := false }, kinds := [], alts := [], laidByText := true, laidKinds := [.data], laidTests := true, laidLooks := .later }
def FnStatsUptoCardSaid : Prop := Claim7.holds Tryz.pinned (.plain (OpenSpec.upto fnStatsSpec)) fnStatsUptoCard

/-- THE SECOND FORM's CARD OF 'laws.FnPath'. -/
def fnPathUptoCard : Claim7 := { stood := { row := fnPathUptoRow, standIns := [], harness := (true, "2d6219cc3d0e812911b3eacb7f7ee618c7abb54f237bd6360dea46fd955a4580"), looks := false }, kinds := [], alts := [], laidByText := true, laidKinds := [.data], laidTests := true, laidLooks := .later }
def FnPathUptoCardSaid : Prop := Claim7.holds Tryz.pinned (.plain (OpenSpec.upto fnPathSpec)) fnPathUptoCard

/-- THE SECOND FORM's CARD OF 'laws.FnFind'. -/
def fnFindUptoCard : Claim7 := { stood := { row := fnFindUptoRow, standIns := [], harness := (true, "2d6219cc3d0e812911b3eacb7f7ee618c7abb54f237bd6360dea46fd955a4580"), looks := false }, kinds := [], alts := [], laidByText := true, laidKinds := [.data], laidTests := true, laidLooks := .later }
def FnFindUptoCardSaid : Prop := Claim7.holds Tryz.pinned (.plain (OpenSpec.upto fnFindSpec)) fnFindUptoCard

/-- THE SECOND FORM's CARD OF 'laws.FnScanned'. -/
def fnScannedUptoCard : Claim7 := { stood := { row := fnScannedUptoRow, standIns := [], harness := (true, "2d6219cc3d0e812911b3eacb7f7ee618c7abb54f237bd6360dea46fd955a4580"), looks := false }, kinds := [], alts := [], laidByText := true, laidKinds := [.data], laidTests := true, laidLooks := .later }
def FnScannedUptoCardSaid : Prop := Claim7.holds Tryz.pinned (.plain (OpenSpec.upto fnScannedSpec)) fnScannedUptoCard
end Rows
end Go.Proofs.YtjjniapamdleoaaGreatDoor
