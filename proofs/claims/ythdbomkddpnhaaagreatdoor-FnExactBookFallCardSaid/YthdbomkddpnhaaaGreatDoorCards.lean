/-
  DERIVED. GIVEN WITH THE SEED: THE CARDS: each row of YthdbomkddpnhaaaGreatDoorRows.lean that lists a variable, with what it lists TIED to the program's text (the seventh form; the later family's looks); each row that meets fmt, with fmt's text TOLD by the authors' own Lean function (tested against real Go, not proved from fmt's source: count such statements apart). THE CARD IS WHAT COUNTS. Prove the row's statement (the work); the ties are given (YthdbomkddpnhaaaGreatDoorTie.lean); close each card by the builder's one call (the guide's Derived/Test/ToyasCard.lean, 'card_holds'). Laid BY PROGRAM, IN A SANDBOX (cutbox-door.mjs). By AI agents, Wed Nov 11 2026. No macro, syntax, notation, axiom, sorry.
-/
import Derived.Test.YthdbomkddpnhaaaGreatDoorRows
import GoSem.ClaimSeven
namespace Go.Proofs.YthdbomkddpnhaaaGreatDoor
namespace Rows

/-- THE TIED CARD OF 'laws.FnExactWalk'. -/
def fnExactWalkCard : Claim7 := { stood := { row := fnExactWalkRow, standIns := [], harness := (true, "0140bc74170633316c999a7739695a09ee167ac5f230a88ff1bc4634f0c4f507"), looks := false }, kinds := [], alts := [], laidByText := true, laidKinds := [.data], laidTests := true, laidLooks := .later }
def FnExactWalkCardSaid : Prop := Claim7.holds Tryz.pinned (.plain (OpenSpec.ofChange fnExactWalkSpec)) fnExactWalkCard

/-- THE TIED CARD OF 'laws.FnExactCurOpen'. -/
def fnExactCurOpenCard : Claim7 := { stood := { row := fnExactCurOpenRow, standIns := [], harness := (true, "0140bc74170633316c999a7739695a09ee167ac5f230a88ff1bc4634f0c4f507"), looks := false }, kinds := [], alts := [], laidByText := true, laidKinds := [.data], laidTests := true, laidLooks := .later }
def FnExactCurOpenCardSaid : Prop := Claim7.holds Tryz.pinned (.plain (OpenSpec.ofChange fnExactCurOpenSpec)) fnExactCurOpenCard

/-- THE TIED CARD OF 'laws.FnExactTar'. -/
def fnExactTarCard : Claim7 := { stood := { row := fnExactTarRow, standIns := [], harness := (true, "0140bc74170633316c999a7739695a09ee167ac5f230a88ff1bc4634f0c4f507"), looks := false }, kinds := [], alts := [], laidByText := true, laidKinds := [.data], laidTests := true, laidLooks := .later }
def FnExactTarCardSaid : Prop := Claim7.holds Tryz.pinned (.plain (OpenSpec.ofChange fnExactTarSpec)) fnExactTarCard

/-- THE TIED CARD OF 'laws.FnExactBookFall'. -/
def fnExactBookFallCard : Claim7 := { stood := { row := fnExactBookFallRow, standIns := [], harness := (true, "0140bc74170633316c999a7739695a09ee167ac5f230a88ff1bc4634f0c4f507"), looks := false }, kinds := [], alts := [], laidByText := true, laidKinds := [.data], laidTests := true, laidLooks := .later }
def FnExactBookFallCardSaid : Prop := Claim7.holds Tryz.pinned (.plain (OpenSpec.ofChange fnExactBookFallSpec)) fnExactBookFallCard

/-- THE TIED CARD OF 'laws.FnExactSameTree'. -/
def fnExactSameTreeCard : Claim7 := { stood := { row := fnExactSameTreeRow, standIns := [], harness := (true, "0140bc74170633316c999a7739695a09ee167ac5f230a88ff1bc4634f0c4f507"), looks := false }, kinds := [], alts := [], laidByText := true, laidKinds := [.data], laidTests := true, laidLooks := .later }
def FnExactSameTreeCardSaid : Prop := Claim7.holds Tryz.pinned (.plain (OpenSpec.ofChange fnExactSameTreeSpec)) fnExactSameTreeCard

/-- THE TIED CARD OF 'laws.FnExactListDir'. -/
def fnExactListDirCard : Claim7 := { stood := { row := fnExactListDirRow, standIns := [], harness := (true, "0140bc74170633316c999a7739695a09ee167ac5f230a88ff1bc4634f0c4f507"), looks := false }, kinds := [], alts := [], laidByText := true, laidKinds := [.data], laidTests := true, laidLooks := .later }
def FnExactListDirCardSaid : Prop := Claim7.holds Tryz.pinned (.plain (OpenSpec.ofChange fnExactListDirSpec)) fnExactListDirCard

/-- THE TIED CARD OF 'laws.FnExactDu'. -/
def fnExactDuCard : Claim7 := { stood := { row := fnExactDuRow, standIns := [], harness := (true, "0140bc74170633316c999a7739695a09ee167ac5f230a88ff1bc4634f0c4f507"), looks := false }, kinds := [], alts := [], laidByText := true, laidKinds := [.data], laidTests := true, laidLooks := .later }
def FnExactDuCardSaid : Prop := Claim7.holds Tryz.pinned (.plain (OpenSpec.ofChange fnExactDuSpec)) fnExactDuCard

/-- THE TIED CARD OF 'laws.FnExactFind'. -/
def fnExactFindCard : Claim7 := { stood := { row := fnExactFindRow, standIns := [], harness := (true, "0140bc74170633316c999a7739695a09ee167ac5f230a88ff1bc4634f0c4f507"), looks := false }, kinds := [], alts := [], laidByText := true, laidKinds := [.data], laidTests := true, laidLooks := .later }
def FnExactFindCardSaid : Prop := Claim7.holds Tryz.pinned (.plain (OpenSpec.ofChange fnExactFindSpec)) fnExactFindCard

/-- THE TIED CARD OF 'laws.FnExactGrep'. -/
def fnExactGrepCard : Claim7 := { stood := { row := fnExactGrepRow, standIns := [], harness := (true, "0140bc74170633316c999a7739695a09ee167ac5f230a88ff1bc4634f0c4f507"), looks := false }, kinds := [], alts := [], laidByText := true, laidKinds := [.data], laidTests := true, laidLooks := .later }
def FnExactGrepCardSaid : Prop := Claim7.holds Tryz.pinned (.plain (OpenSpec.ofChange fnExactGrepSpec)) fnExactGrepCard

/-- THE TIED CARD OF 'laws.FnListed'. -/
def fnListedCard : Claim7 := { stood := { row := fnListedRow, standIns := [], harness := (true, "0140bc74170633316c999a7739695a09ee167ac5f230a88ff1bc4634f0c4f507"), looks := false }, kinds := [], alts := [], laidByText := true, laidKinds := [.data], laidTests := true, laidLooks := .later }
def FnListedCardSaid : Prop := Claim7.holds Tryz.pinned (.plain (OpenSpec.ofChange fnListedSpec)) fnListedCard

/-- THE TIED CARD OF 'laws.FnStats'. -/
def fnStatsCard : Claim7 := { stood := { row := fnStatsRow, standIns := [], harness := (true, "0140bc74170633316c999a7739695a09ee167ac5f230a88ff1bc4634f0c4f507"), looks := false }, kinds := [], alts := [], laidByText := true, laidKinds := [.data], laidTests := true, laidLooks := .later }
def FnStatsCardSaid : Prop := Claim7.holds Tryz.pinned (.plain (OpenSpec.ofChange fnStatsSpec)) fnStatsCard

/-- THE TIED CARD OF 'laws.FnPath'. -/
def fnPathCard : Claim7 := { stood := { row := fnPathRow, standIns := [], harness := (true, "0140bc74170633316c999a7739695a09ee167ac5f230a88ff1bc4634f0c4f507"), looks := false }, kinds := [], alts := [], laidByText := true, laidKinds := [.data], laidTests := true, laidLooks := .later }
def FnPathCardSaid : Prop := Claim7.holds Tryz.pinned (.plain (OpenSpec.ofChange fnPathSpec)) fnPathCard

/-- THE SECOND FORM's CARD OF 'laws.FnExactWalk'. -/
def fnExactWalkUptoCard : Claim7 := { stood := { row := fnExactWalkUptoRow, standIns := [], harness := (true, "0140bc74170633316c999a7739695a09ee167ac5f230a88ff1bc4634f0c4f507"), looks := false }, kinds := [], alts := [], laidByText := true, laidKinds := [.data], laidTests := true, laidLooks := .later }
def FnExactWalkUptoCardSaid : Prop := Claim7.holds Tryz.pinned (.plain (OpenSpec.upto fnExactWalkSpec)) fnExactWalkUptoCard

/-- THE SECOND FORM's CARD OF 'laws.FnExactCurOpen'. -/
def fnExactCurOpenUptoCard : Claim7 := { stood := { row := fnExactCurOpenUptoRow, standIns := [], harness := (true, "0140bc74170633316c999a7739695a09ee167ac5f230a88ff1bc4634f0c4f507"), looks := false }, kinds := [], alts := [], laidByText := true, laidKinds := [.data], laidTests := true, laidLooks := .later }
def FnExactCurOpenUptoCardSaid : Prop := Claim7.holds Tryz.pinned (.plain (OpenSpec.upto fnExactCurOpenSpec)) fnExactCurOpenUptoCard

/-- THE SECOND FORM's CARD OF 'laws.FnExactTar'. -/
def fnExactTarUptoCard : Claim7 := { stood := { row := fnExactTarUptoRow, standIns := [], harness := (true, "0140bc74170633316c999a7739695a09ee167ac5f230a88ff1bc4634f0c4f507"), looks := false }, kinds := [], alts := [], laidByText := true, laidKinds := [.data], laidTests := true, laidLooks := .later }
def FnExactTarUptoCardSaid : Prop := Claim7.holds Tryz.pinned (.plain (OpenSpec.upto fnExactTarSpec)) fnExactTarUptoCard

/-- THE SECOND FORM's CARD OF 'laws.FnExactBookFall'. -/
def fnExactBookFallUptoCard : Claim7 := { stood := { row := fnExactBookFallUptoRow, standIns := [], harness := (true, "0140bc74170633316c999a7739695a09ee167ac5f230a88ff1bc4634f0c4f507"), looks := false }, kinds := [], alts := [], laidByText := true, laidKinds := [.data], laidTests := true, laidLooks := .later }
def FnExactBookFallUptoCardSaid : Prop := Claim7.holds Tryz.pinned (.plain (OpenSpec.upto fnExactBookFallSpec)) fnExactBookFallUptoCard

/-- THE SECOND FORM's CARD OF 'laws.FnExactSameTree'. -/
def fnExactSameTreeUptoCard : Claim7 := { stood := { row := fnExactSameTreeUptoRow, standIns := [], harness := (true, "0140bc74170633316c999a7739695a09ee167ac5f230a88ff1bc4634f0c4f507"), looks := false }, kinds := [], alts := [], laidByText := true, laidKinds := [.data], laidTests := true, laidLooks := .later }
def FnExactSameTreeUptoCardSaid : Prop := Claim7.holds Tryz.pinned (.plain (OpenSpec.upto fnExactSameTreeSpec)) fnExactSameTreeUptoCard

/-- THE SECOND FORM's CARD OF 'laws.FnExactListDir'. -/
def fnExactListDirUptoCard : Claim7 := { stood := { row := fnExactListDirUptoRow, standIns := [], harness := (true, "0140bc74170633316c999a7739695a09ee167ac5f230a88ff1bc4634f0c4f507"), looks := false }, kinds := [], alts := [], laidByText := true, laidKinds := [.data], laidTests := true, laidLooks := .later }
def FnExactListDirUptoCardSaid : Prop := Claim7.holds Tryz.pinned (.plain (OpenSpec.upto fnExactListDirSpec)) fnExactListDirUptoCard

/-- THE SECOND FORM's CARD OF 'laws.FnExactDu'. -/
def fnExactDuUptoCard : Claim7 := { stood := { row := fnExactDuUptoRow, standIns := [], harness := (true, "0140bc74170633316c999a7739695a09ee167ac5f230a88ff1bc4634f0c4f507"), looks := false }, kinds := [], alts := [], laidByText := true, laidKinds := [.data], laidTests := true, laidLooks := .later }
def FnExactDuUptoCardSaid : Prop := Claim7.holds Tryz.pinned (.plain (OpenSpec.upto fnExactDuSpec)) fnExactDuUptoCard

/-- THE SECOND FORM's CARD OF 'laws.FnExactFind'. -/
def fnExactFindUptoCard : Claim7 := { stood := { row := fnExactFindUptoRow, standIns := [], harness := (true, "0140bc74170633316c999a7739695a09ee167ac5f230a88ff1bc4634f0c4f507"), looks := false }, kinds := [], alts := [], laidByText := true, laidKinds := [.data], laidTests := true, laidLooks := .later }
def FnExactFindUptoCardSaid : Prop := Claim7.holds Tryz.pinned (.plain (OpenSpec.upto fnExactFindSpec)) fnExactFindUptoCard

/-- THE SECOND FORM's CARD OF 'laws.FnExactGrep'. -/
def fnExactGrepUptoCard : Claim7 := { stood := { row := fnExactGrepUptoRow, standIns := [], harness := (true, "0140bc74170633316c999a7739695a09ee167ac5f230a88ff1bc4634f0c4f507"), looks := false }, kinds := [], alts := [], laidByText := true, laidKinds := [.data], laidTests := true, laidLooks := .later }
def FnExactGrepUptoCardSaid : Prop := Claim7.holds Tryz.pinned (.plain (OpenSpec.upto fnExactGrepSpec)) fnExactGrepUptoCard

/-- THE SECOND FORM's CARD OF 'laws.FnListed'. -/
def fnListedUptoCard : Claim7 := { stood := { row := fnListedUptoRow, standIns := [], harness := (true, "0140bc74170633316c999a7739695a09ee167ac5f230a88ff1bc4634f0c4f507"), looks := false }, kinds := [], alts := [], laidByText := true, laidKinds := [.data], laidTests := true, laidLooks := .later }
def FnListedUptoCardSaid : Prop := Claim7.holds Tryz.pinned (.plain (OpenSpec.upto fnListedSpec)) fnListedUptoCard

/-- THE SECOND FORM's CARD OF 'laws.FnStats'. -/
def fnStatsUptoCard : Claim7 := { stood := { row := fnStatsUptoRow, standIns := [], harness := (true, "0140bc74170633316c999a7739695a09ee167ac5f230a88ff1bc4634f0c4f507"), looks := false }, kinds := [], alts := [], laidByText := true, laidKinds := [.data], laidTests := true, laidLooks := .later }
def FnStatsUptoCardSaid : Prop := Claim7.holds Tryz.pinned (.plain (OpenSpec.upto fnStatsSpec)) fnStatsUptoCard

/-- THE SECOND FORM's CARD OF 'laws.FnPath'. -/
def fnPathUptoCard : Claim7 := { stood := { row := fnPathUptoRow, standIns := [], harness := (true, "0140bc74170633316c999a7739695a09ee167ac5f230a88ff1bc4634f0c4f507"), looks := false }, kinds := [], alts := [], laidByText := true, laidKinds := [.data], laidTests := true, laidLooks := .later }
def FnPathUptoCardSaid : Prop := Claim7.holds Tryz.pinned (.plain (OpenSpec.upto fnPathSpec)) fnPathUptoCard
end Rows
end Go.Proofs.YthdbomkddpnhaaaGreatDoor
