/-
  DERIVED. GIVEN WITH THE SEED: THE CARDS: each row of YtijfjgenbdbafaaDoorRows.lean that lists a variable, with what it lists TIED to the program's text (the seventh form; the later family's looks); each row that meets fmt, with fmt's text TOLD by the authors' own Lean function (tested against real Go, not proved from fmt's source: count such statements apart). THE CARD IS WHAT COUNTS. Prove the row's statement (the work); the ties are given (YtijfjgenbdbafaaDoorTie.lean); close each card by the builder's one call (the guide's Derived/Test/ToyasCard.lean, 'card_holds'). Laid BY PROGRAM, IN A SANDBOX (cutbox-door.mjs). By AI agents, Wed Nov 11 2026. No macro, syntax, notation, axiom, sorry.
-/
import Derived.Test.YtijfjgenbdbafaaDoorRows
import GoSem.ClaimSeven
namespace Go.Proofs.YtijfjgenbdbafaaDoor
namespace Rows

/-- THE TIED CARD OF 'laws.FnExactShowHome'. -/
def fnExactShowHomeCard : Claim7 := { stood := { row := fnExactShowHomeRow, standIns := [], harness := (true, "7394cd128b4c5331c291b31df0944f953d2f5c8adb288d2d52a67ca5ccb629b7"), looks := false }, kinds := [], alts := [], laidByText := true, laidKinds := [.data], laidTests := true, laidLooks := .later }
def FnExactShowHomeCardSaid : Prop := Claim7.holds Tryd.pinned (.plain (OpenSpec.ofChange fnExactShowHomeSpec)) fnExactShowHomeCard

/-- THE TIED CARD OF 'laws.FnExactDpOk'. -/
def fnExactDpOkCard : Claim7 := { stood := { row := fnExactDpOkRow, standIns := [], harness := (true, "7394cd128b4c5331c291b31df0944f953d2f5c8adb288d2d52a67ca5ccb629b7"), looks := false }, kinds := [], alts := [], laidByText := true, laidKinds := [.data], laidTests := true, laidLooks := .later }
def FnExactDpOkCardSaid : Prop := Claim7.holds Tryd.pinned (.plain (OpenSpec.ofChange fnExactDpOkSpec)) fnExactDpOkCard

/-- THE TIED CARD OF 'laws.FnExactDpNext'. -/
def fnExactDpNextCard : Claim7 := { stood := { row := fnExactDpNextRow, standIns := [], harness := (true, "7394cd128b4c5331c291b31df0944f953d2f5c8adb288d2d52a67ca5ccb629b7"), looks := false }, kinds := [], alts := [], laidByText := true, laidKinds := [.data], laidTests := true, laidLooks := .later }
def FnExactDpNextCardSaid : Prop := Claim7.holds Tryd.pinned (.plain (OpenSpec.ofChange fnExactDpNextSpec)) fnExactDpNextCard

/-- THE TIED CARD OF 'laws.FnExactDpLook'. -/
def fnExactDpLookCard : Claim7 := { stood := { row := fnExactDpLookRow, standIns := [], harness := (true, "7394cd128b4c5331c291b31df0944f953d2f5c8adb288d2d52a67ca5ccb629b7"), looks := false }, kinds := [], alts := [], laidByText := true, laidKinds := [.data], laidTests := true, laidLooks := .later }
def FnExactDpLookCardSaid : Prop := Claim7.holds Tryd.pinned (.plain (OpenSpec.ofChange fnExactDpLookSpec)) fnExactDpLookCard

/-- THE TIED CARD OF 'laws.FnExactBookOk'. -/
def fnExactBookOkCard : Claim7 := { stood := { row := fnExactBookOkRow, standIns := [], harness := (true, "7394cd128b4c5331c291b31df0944f953d2f5c8adb288d2d52a67ca5ccb629b7"), looks := false }, kinds := [], alts := [], laidByText := true, laidKinds := [.data], laidTests := true, laidLooks := .later }
def FnExactBookOkCardSaid : Prop := Claim7.holds Tryd.pinned (.plain (OpenSpec.ofChange fnExactBookOkSpec)) fnExactBookOkCard

/-- THE TIED CARD OF 'laws.FnExactReadHome'. -/
def fnExactReadHomeCard : Claim7 := { stood := { row := fnExactReadHomeRow, standIns := [], harness := (true, "7394cd128b4c5331c291b31df0944f953d2f5c8adb288d2d52a67ca5ccb629b7"), looks := false }, kinds := [], alts := [], laidByText := true, laidKinds := [.data], laidTests := true, laidLooks := .later }
def FnExactReadHomeCardSaid : Prop := Claim7.holds Tryd.pinned (.plain (OpenSpec.ofChange fnExactReadHomeSpec)) fnExactReadHomeCard

/-- THE TIED CARD OF 'laws.FnExactNewBook'. -/
def fnExactNewBookCard : Claim7 := { stood := { row := fnExactNewBookRow, standIns := [], harness := (true, "7394cd128b4c5331c291b31df0944f953d2f5c8adb288d2d52a67ca5ccb629b7"), looks := false }, kinds := [], alts := [], laidByText := true, laidKinds := [.data], laidTests := true, laidLooks := .later }
def FnExactNewBookCardSaid : Prop := Claim7.holds Tryd.pinned (.plain (OpenSpec.ofChange fnExactNewBookSpec)) fnExactNewBookCard

/-- THE TIED CARD OF 'laws.FnExactFullOf'. -/
def fnExactFullOfCard : Claim7 := { stood := { row := fnExactFullOfRow, standIns := [], harness := (true, "7394cd128b4c5331c291b31df0944f953d2f5c8adb288d2d52a67ca5ccb629b7"), looks := false }, kinds := [], alts := [], laidByText := true, laidKinds := [.data], laidTests := true, laidLooks := .later }
def FnExactFullOfCardSaid : Prop := Claim7.holds Tryd.pinned (.plain (OpenSpec.ofChange fnExactFullOfSpec)) fnExactFullOfCard

/-- THE TIED CARD OF 'laws.FnExactCountOfKind'. -/
def fnExactCountOfKindCard : Claim7 := { stood := { row := fnExactCountOfKindRow, standIns := [], harness := (true, "7394cd128b4c5331c291b31df0944f953d2f5c8adb288d2d52a67ca5ccb629b7"), looks := false }, kinds := [], alts := [], laidByText := true, laidKinds := [.data], laidTests := true, laidLooks := .later }
def FnExactCountOfKindCardSaid : Prop := Claim7.holds Tryd.pinned (.plain (OpenSpec.ofChange fnExactCountOfKindSpec)) fnExactCountOfKindCard

/-- THE TIED CARD OF 'laws.FnExactDeepOf'. -/
def fnExactDeepOfCard : Claim7 := { stood := { row := fnExactDeepOfRow, standIns := [], harness := (true, "7394cd128b4c5331c291b31df0944f953d2f5c8adb288d2d52a67ca5ccb629b7"), looks := false }, kinds := [], alts := [], laidByText := true, laidKinds := [.data], laidTests := true, laidLooks := .later }
def FnExactDeepOfCardSaid : Prop := Claim7.holds Tryd.pinned (.plain (OpenSpec.ofChange fnExactDeepOfSpec)) fnExactDeepOfCard

/-- THE TIED CARD OF 'laws.FnExactPathOf'. -/
def fnExactPathOfCard : Claim7 := { stood := { row := fnExactPathOfRow, standIns := [], harness := (true, "7394cd128b4c5331c291b31df0944f953d2f5c8adb288d2d52a67ca5ccb629b7"), looks := false }, kinds := [], alts := [], laidByText := true, laidKinds := [.data], laidTests := true, laidLooks := .later }
def FnExactPathOfCardSaid : Prop := Claim7.holds Tryd.pinned (.plain (OpenSpec.ofChange fnExactPathOfSpec)) fnExactPathOfCard

/-- THE TIED CARD OF 'laws.FnExactOpDo'. -/
def fnExactOpDoCard : Claim7 := { stood := { row := fnExactOpDoRow, standIns := [], harness := (true, "7394cd128b4c5331c291b31df0944f953d2f5c8adb288d2d52a67ca5ccb629b7"), looks := false }, kinds := [], alts := [], laidByText := true, laidKinds := [.data], laidTests := true, laidLooks := .later }
def FnExactOpDoCardSaid : Prop := Claim7.holds Tryd.pinned (.plain (OpenSpec.ofChange fnExactOpDoSpec)) fnExactOpDoCard

/-- THE SECOND FORM's CARD OF 'laws.FnExactShowHome'. -/
def fnExactShowHomeUptoCard : Claim7 := { stood := { row := fnExactShowHomeUptoRow, standIns := [], harness := (true, "7394cd128b4c5331c291b31df0944f953d2f5c8adb288d2d52a67ca5ccb629b7"), looks := false }, kinds := [], alts := [], laidByText := true, laidKinds := [.data], laidTests := true, laidLooks := .later }
def FnExactShowHomeUptoCardSaid : Prop := Claim7.holds Tryd.pinned (.plain (OpenSpec.upto fnExactShowHomeSpec)) fnExactShowHomeUptoCard

/-- THE SECOND FORM's CARD OF 'laws.FnExactDpOk'. -/
def fnExactDpOkUptoCard : Claim7 := { stood := { row := fnExactDpOkUptoRow, standIns := [], harness := (true, "7394cd128b4c5331c291b31df0944f953d2f5c8adb288d2d52a67ca5ccb629b7"), looks := false }, kinds := [], alts := [], laidByText := true, laidKinds := [.data], laidTests := true, laidLooks := .later }
def FnExactDpOkUptoCardSaid : Prop := Claim7.holds Tryd.pinned (.plain (OpenSpec.upto fnExactDpOkSpec)) fnExactDpOkUptoCard

/-- THE SECOND FORM's CARD OF 'laws.FnExactDpNext'. -/
def fnExactDpNextUptoCard : Claim7 := { stood := { row := fnExactDpNextUptoRow, standIns := [], harness := (true, "7394cd128b4c5331c291b31df0944f953d2f5c8adb288d2d52a67ca5ccb629b7"), looks := false }, kinds := [], alts := [], laidByText := true, laidKinds := [.data], laidTests := true, laidLooks := .later }
def FnExactDpNextUptoCardSaid : Prop := Claim7.holds Tryd.pinned (.plain (OpenSpec.upto fnExactDpNextSpec)) fnExactDpNextUptoCard

/-- THE SECOND FORM's CARD OF 'laws.FnExactDpLook'. -/
def fnExactDpLookUptoCard : Claim7 := { stood := { row := fnExactDpLookUptoRow, standIns := [], harness := (true, "7394cd128b4c5331c291b31df0944f953d2f5c8adb288d2d52a67ca5ccb629b7"), looks := false }, kinds := [], alts := [], laidByText := true, laidKinds := [.data], laidTests := true, laidLooks := .later }
def FnExactDpLookUptoCardSaid : Prop := Claim7.holds Tryd.pinned (.plain (OpenSpec.upto fnExactDpLookSpec)) fnExactDpLookUptoCard

/-- THE SECOND FORM's CARD OF 'laws.FnExactBookOk'. -/
def fnExactBookOkUptoCard : Claim7 := { stood := { row := fnExactBookOkUptoRow, standIns := [], harness := (true, "7394cd128b4c5331c291b31df0944f953d2f5c8adb288d2d52a67ca5ccb629b7"), looks := false }, kinds := [], alts := [], laidByText := true, laidKinds := [.data], laidTests := true, laidLooks := .later }
def FnExactBookOkUptoCardSaid : Prop := Claim7.holds Tryd.pinned (.plain (OpenSpec.upto fnExactBookOkSpec)) fnExactBookOkUptoCard

/-- THE SECOND FORM's CARD OF 'laws.FnExactReadHome'. -/
def fnExactReadHomeUptoCard : Claim7 := { stood := { row := fnExactReadHomeUptoRow, standIns := [], harness := (true, "7394cd128b4c5331c291b31df0944f953d2f5c8adb288d2d52a67ca5ccb629b7"), looks := false }, kinds := [], alts := [], laidByText := true, laidKinds := [.data], laidTests := true, laidLooks := .later }
def FnExactReadHomeUptoCardSaid : Prop := Claim7.holds Tryd.pinned (.plain (OpenSpec.upto fnExactReadHomeSpec)) fnExactReadHomeUptoCard

/-- THE SECOND FORM's CARD OF 'laws.FnExactNewBook'. -/
def fnExactNewBookUptoCard : Claim7 := { stood := { row := fnExactNewBookUptoRow, standIns := [], harness := (true, "7394cd128b4c5331c291b31df0944f953d2f5c8adb288d2d52a67ca5ccb629b7"), looks := false }, kinds := [], alts := [], laidByText := true, laidKinds := [.data], laidTests := true, laidLooks := .later }
def FnExactNewBookUptoCardSaid : Prop := Claim7.holds Tryd.pinned (.plain (OpenSpec.upto fnExactNewBookSpec)) fnExactNewBookUptoCard

/-- THE SECOND FORM's CARD OF 'laws.FnExactFullOf'. -/
def fnExactFullOfUptoCard : Claim7 := { stood := { row := fnExactFullOfUptoRow, standIns := [], harness := (true, "7394cd128b4c5331c291b31df0944f953d2f5c8adb288d2d52a67ca5ccb629b7"), looks := false }, kinds := [], alts := [], laidByText := true, laidKinds := [.data], laidTests := true, laidLooks := .later }
def FnExactFullOfUptoCardSaid : Prop := Claim7.holds Tryd.pinned (.plain (OpenSpec.upto fnExactFullOfSpec)) fnExactFullOfUptoCard

/-- THE SECOND FORM's CARD OF 'laws.FnExactCountOfKind'. -/
def fnExactCountOfKindUptoCard : Claim7 := { stood := { row := fnExactCountOfKindUptoRow, standIns := [], harness := (true, "7394cd128b4c5331c291b31df0944f953d2f5c8adb288d2d52a67ca5ccb629b7"), looks := false }, kinds := [], alts := [], laidByText := true, laidKinds := [.data], laidTests := true, laidLooks := .later }
def FnExactCountOfKindUptoCardSaid : Prop := Claim7.holds Tryd.pinned (.plain (OpenSpec.upto fnExactCountOfKindSpec)) fnExactCountOfKindUptoCard

/-- THE SECOND FORM's CARD OF 'laws.FnExactDeepOf'. -/
def fnExactDeepOfUptoCard : Claim7 := { stood := { row := fnExactDeepOfUptoRow, standIns := [], harness := (true, "7394cd128b4c5331c291b31df0944f953d2f5c8adb288d2d52a67ca5ccb629b7"), looks := false }, kinds := [], alts := [], laidByText := true, laidKinds := [.data], laidTests := true, laidLooks := .later }
def FnExactDeepOfUptoCardSaid : Prop := Claim7.holds Tryd.pinned (.plain (OpenSpec.upto fnExactDeepOfSpec)) fnExactDeepOfUptoCard

/-- THE SECOND FORM's CARD OF 'laws.FnExactPathOf'. -/
def fnExactPathOfUptoCard : Claim7 := { stood := { row := fnExactPathOfUptoRow, standIns := [], harness := (true, "7394cd128b4c5331c291b31df0944f953d2f5c8adb288d2d52a67ca5ccb629b7"), looks := false }, kinds := [], alts := [], laidByText := true, laidKinds := [.data], laidTests := true, laidLooks := .later }
def FnExactPathOfUptoCardSaid : Prop := Claim7.holds Tryd.pinned (.plain (OpenSpec.upto fnExactPathOfSpec)) fnExactPathOfUptoCard

/-- THE SECOND FORM's CARD OF 'laws.FnExactOpDo'. -/
def fnExactOpDoUptoCard : Claim7 := { stood := { row := fnExactOpDoUptoRow, standIns := [], harness := (true, "7394cd128b4c5331c291b31df0944f953d2f5c8adb288d2d52a67ca5ccb629b7"), looks := false }, kinds := [], alts := [], laidByText := true, laidKinds := [.data], laidTests := true, laidLooks := .later }
def FnExactOpDoUptoCardSaid : Prop := Claim7.holds Tryd.pinned (.plain (OpenSpec.upto fnExactOpDoSpec)) fnExactOpDoUptoCard
end Rows
end Go.Proofs.YtijfjgenbdbafaaDoor
