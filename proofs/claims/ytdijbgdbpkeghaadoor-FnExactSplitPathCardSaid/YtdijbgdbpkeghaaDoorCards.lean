/-
  DERIVED. GIVEN WITH THE SEED: THE CARDS: each row of YtdijbgdbpkeghaaDoorRows.lean that lists a variable, with what it lists TIED to the program's text (the seventh form; the later family's looks); each row that meets fmt, with fmt's text TOLD by the authors' own Lean function (tested against real Go, not proved from fmt's source: count such statements apart). THE CARD IS WHAT COUNTS. Prove the row's statement (the work); the ties are given (YtdijbgdbpkeghaaDoorTie.lean); close each card by the builder's one call (the guide's Derived/Test/ToyasCard.lean, 'card_holds'). Laid BY PROGRAM, IN A SANDBOX (cutbox-door.mjs). By AI agents, Wed Nov 11 2026. No macro, syntax, notation, axiom, sorry.
-/
import Derived.Test.YtdijbgdbpkeghaaDoorRows
import GoSem.ClaimSeven
namespace Go.Proofs.YtdijbgdbpkeghaaDoor
namespace Rows

/-- THE TIED CARD OF 'laws.FnExactOpOk'. -/
def fnExactOpOkCard : Claim7 := { stood := { row := fnExactOpOkRow, standIns := [], harness := (true, "2d7962c62bd439e728b3512af7c54420610d5b13384de5416f0c0c7bbdff0af8"), looks := false }, kinds := [], alts := [], laidByText := true, laidKinds := [.data], laidTests := true, laidLooks := .later }
def FnExactOpOkCardSaid : Prop := Claim7.holds Tryd.pinned (.plain (OpenSpec.ofChange fnExactOpOkSpec)) fnExactOpOkCard

/-- THE TIED CARD OF 'laws.FnExactShowOp'. -/
def fnExactShowOpCard : Claim7 := { stood := { row := fnExactShowOpRow, standIns := [], harness := (true, "2d7962c62bd439e728b3512af7c54420610d5b13384de5416f0c0c7bbdff0af8"), looks := false }, kinds := [], alts := [], laidByText := true, laidKinds := [.data], laidTests := true, laidLooks := .later }
def FnExactShowOpCardSaid : Prop := Claim7.holds Tryd.pinned (.plain (OpenSpec.ofChange fnExactShowOpSpec)) fnExactShowOpCard

/-- THE TIED CARD OF 'laws.FnExactSplitPath'. -/
def fnExactSplitPathCard : Claim7 := { stood := { row := fnExactSplitPathRow, standIns := [], harness := (true, "2d7962c62bd439e728b3512af7c54420610d5b13384de5416f0c0c7bbdff0af8"), looks := false }, kinds := [], alts := [], laidByText := true, laidKinds := [.data], laidTests := true, laidLooks := .later }
def FnExactSplitPathCardSaid : Prop := Claim7.holds Tryd.pinned (.plain (OpenSpec.ofChange fnExactSplitPathSpec)) fnExactSplitPathCard

/-- THE TIED CARD OF 'laws.FnExactReadOp'. -/
def fnExactReadOpCard : Claim7 := { stood := { row := fnExactReadOpRow, standIns := [], harness := (true, "2d7962c62bd439e728b3512af7c54420610d5b13384de5416f0c0c7bbdff0af8"), looks := false }, kinds := [], alts := [], laidByText := true, laidKinds := [.data], laidTests := true, laidLooks := .later }
def FnExactReadOpCardSaid : Prop := Claim7.holds Tryd.pinned (.plain (OpenSpec.ofChange fnExactReadOpSpec)) fnExactReadOpCard

/-- THE SECOND FORM's CARD OF 'laws.FnExactOpOk'. -/
def fnExactOpOkUptoCard : Claim7 := { stood := { row := fnExactOpOkUptoRow, standIns := [], harness := (true, "2d7962c62bd439e728b3512af7c54420610d5b13384de5416f0c0c7bbdff0af8"), looks := false }, kinds := [], alts := [], laidByText := true, laidKinds := [.data], laidTests := true, laidLooks := .later }
def FnExactOpOkUptoCardSaid : Prop := Claim7.holds Tryd.pinned (.plain (OpenSpec.upto fnExactOpOkSpec)) fnExactOpOkUptoCard

/-- THE SECOND FORM's CARD OF 'laws.FnExactShowOp'. -/
def fnExactShowOpUptoCard : Claim7 := { stood := { row := fnExactShowOpUptoRow, standIns := [], harness := (true, "2d7962c62bd439e728b3512af7c54420610d5b13384de5416f0c0c7bbdff0af8"), looks := false }, kinds := [], alts := [], laidByText := true, laidKinds := [.data], laidTests := true, laidLooks := .later }
def FnExactShowOpUptoCardSaid : Prop := Claim7.holds Tryd.pinned (.plain (OpenSpec.upto fnExactShowOpSpec)) fnExactShowOpUptoCard

/-- THE SECOND FORM's CARD OF 'laws.FnExactSplitPath'. -/
def fnExactSplitPathUptoCard : Claim7 := { stood := { row := fnExactSplitPathUptoRow, standIns := [], harness := (true, "2d7962c62bd439e728b3512af7c54420610d5b13384de5416f0c0c7bbdff0af8"), looks := false }, kinds := [], alts := [], laidByText := true, laidKinds := [.data], laidTests := true, laidLooks := .later }
def FnExactSplitPathUptoCardSaid : Prop := Claim7.holds Tryd.pinned (.plain (OpenSpec.upto fnExactSplitPathSpec)) fnExactSplitPathUptoCard

/-- THE SECOND FORM's CARD OF 'laws.FnExactReadOp'. -/
def fnExactReadOpUptoCard : Claim7 := { stood := { row := fnExactReadOpUptoRow, standIns := [], harness := (true, "2d7962c62bd439e728b3512af7c54420610d5b13384de5416f0c0c7bbdff0af8"), looks := false }, kinds := [], alts := [], laidByText := true, laidKinds := [.data], laidTests := true, laidLooks := .later }
def FnExactReadOpUptoCardSaid : Prop := Claim7.holds Tryd.pinned (.plain (OpenSpec.upto fnExactReadOpSpec)) fnExactReadOpUptoCard
end Rows
end Go.Proofs.YtdijbgdbpkeghaaDoor
