/-
  DERIVED. GIVEN WITH THE SEED: THE CARDS: each row of YtlgjehdocppofaaDoorRows.lean that lists a variable, with what it lists TIED to the program's text (the seventh form; the later family's looks); each row that meets fmt, with fmt's text TOLD by the authors' own Lean function (tested against real Go, not proved from fmt's source: count such statements apart). THE CARD IS WHAT COUNTS. Prove the row's statement (the work); the ties are given (YtlgjehdocppofaaDoorTie.lean); close each card by the builder's one call (the guide's Derived/Test/ToyasCard.lean, 'card_holds'). Laid BY PROGRAM, IN A SANDBOX (cutbox-door.mjs). By AI agents, Wed Nov 11 2026. No macro, syntax, notation, axiom, sorry.
-/
import Derived.Test.YtlgjehdocppofaaDoorRows
import GoSem.ClaimSeven
namespace Go.Proofs.YtlgjehdocppofaaDoor
namespace Rows

/-- THE TIED CARD OF 'laws.FnExactNewBook'. -/
def fnExactNewBookCard : Claim7 := { stood := { row := fnExactNewBookRow, standIns := [], harness := (true, "49d8b330bce4247c021c250bb187cf5516bbf9ce89782762af1996dec4cf22e3"), looks := false }, kinds := [], alts := [], laidByText := true, laidKinds := [.data], laidTests := true, laidLooks := .later }
def FnExactNewBookCardSaid : Prop := Claim7.holds Tryd.pinned (.plain (OpenSpec.ofChange fnExactNewBookSpec)) fnExactNewBookCard

/-- THE TIED CARD OF 'laws.FnExactOpDo'. -/
def fnExactOpDoCard : Claim7 := { stood := { row := fnExactOpDoRow, standIns := [], harness := (true, "49d8b330bce4247c021c250bb187cf5516bbf9ce89782762af1996dec4cf22e3"), looks := false }, kinds := [], alts := [], laidByText := true, laidKinds := [.data], laidTests := true, laidLooks := .later }
def FnExactOpDoCardSaid : Prop := Claim7.holds Tryd.pinned (.plain (OpenSpec.ofChange fnExactOpDoSpec)) fnExactOpDoCard

/-- THE TIED CARD OF 'laws.FnExactBookFlush'. -/
def fnExactBookFlushCard : Claim7 := { stood := { row := fnExactBookFlushRow, standIns := [], harness := (true, "49d8b330bce4247c021c250bb187cf5516bbf9ce89782762af1996dec4cf22e3"), looks := false }, kinds := [], alts := [], laidByText := true, laidKinds := [.data], laidTests := true, laidLooks := .later }
def FnExactBookFlushCardSaid : Prop := Claim7.holds Tryd.pinned (.plain (OpenSpec.ofChange fnExactBookFlushSpec)) fnExactBookFlushCard

/-- THE TIED CARD OF 'laws.FnExactTabOk'. -/
def fnExactTabOkCard : Claim7 := { stood := { row := fnExactTabOkRow, standIns := [], harness := (true, "49d8b330bce4247c021c250bb187cf5516bbf9ce89782762af1996dec4cf22e3"), looks := false }, kinds := [], alts := [], laidByText := true, laidKinds := [.data], laidTests := true, laidLooks := .later }
def FnExactTabOkCardSaid : Prop := Claim7.holds Tryd.pinned (.plain (OpenSpec.ofChange fnExactTabOkSpec)) fnExactTabOkCard

/-- THE TIED CARD OF 'laws.FnOps'. -/
def fnOpsCard : Claim7 := { stood := { row := fnOpsRow, standIns := [], harness := (true, "49d8b330bce4247c021c250bb187cf5516bbf9ce89782762af1996dec4cf22e3"), looks := false }, kinds := [], alts := [], laidByText := true, laidKinds := [.data], laidTests := true, laidLooks := .later }
def FnOpsCardSaid : Prop := Claim7.holds Tryd.pinned (.plain (OpenSpec.ofChange fnOpsSpec)) fnOpsCard

/-- THE SECOND FORM's CARD OF 'laws.FnExactNewBook'. -/
def fnExactNewBookUptoCard : Claim7 := { stood := { row := fnExactNewBookUptoRow, standIns := [], harness := (true, "49d8b330bce4247c021c250bb187cf5516bbf9ce89782762af1996dec4cf22e3"), looks := false }, kinds := [], alts := [], laidByText := true, laidKinds := [.data], laidTests := true, laidLooks := .later }
def FnExactNewBookUptoCardSaid : Prop := Claim7.holds Tryd.pinned (.plain (OpenSpec.upto fnExactNewBookSpec)) fnExactNewBookUptoCard

/-- THE SECOND FORM's CARD OF 'laws.FnExactOpDo'. -/
def fnExactOpDoUptoCard : Claim7 := { stood := { row := fnExactOpDoUptoRow, standIns := [], harness := (true, "49d8b330bce4247c021c250bb187cf5516bbf9ce89782762af1996dec4cf22e3"), looks := false }, kinds := [], alts := [], laidByText := true, laidKinds := [.data], laidTests := true, laidLooks := .later }
def FnExactOpDoUptoCardSaid : Prop := Claim7.holds Tryd.pinned (.plain (OpenSpec.upto fnExactOpDoSpec)) fnExactOpDoUptoCard

/-- THE SECOND FORM's CARD OF 'laws.FnExactBookFlush'. -/
def fnExactBookFlushUptoCard : Claim7 := { stood := { row := fnExactBookFlushUptoRow, standIns := [], harness := (true, "49d8b330bce4247c021c250bb187cf5516bbf9ce89782762af1996dec4cf22e3"), looks := false }, kinds := [], alts := [], laidByText := true, laidKinds := [.data], laidTests := true, laidLooks := .later }
def FnExactBookFlushUptoCardSaid : Prop := Claim7.holds Tryd.pinned (.plain (OpenSpec.upto fnExactBookFlushSpec)) fnExactBookFlushUptoCard

/-- THE SECOND FORM's CARD OF 'laws.FnExactTabOk'. -/
def fnExactTabOkUptoCard : Claim7 := { stood := { row := fnExactTabOkUptoRow, standIns := [], harness := (true, "49d8b330bce4247c021c250bb187cf5516bbf9ce89782762af1996dec4cf22e3"), looks := false }, kinds := [], alts := [], laidByText := true, laidKinds := [.data], laidTests := true, laidLooks := .later }
def FnExactTabOkUptoCardSaid : Prop := Claim7.holds Tryd.pinned (.plain (OpenSpec.upto fnExactTabOkSpec)) fnExactTabOkUptoCard

/-- THE SECOND FORM's CARD OF 'laws.FnOps'. -/
def fnOpsUptoCard : Claim7 := { stood := { row := fnOpsUptoRow, standIns := [], harness := (true, "49d8b330bce4247c021c250bb187cf5516bbf9ce89782762af1996dec4cf22e3"), looks := false }, kinds := [], alts := [], laidByText := true, laidKinds := [.data], laidTests := true, laidLooks := .later }
def FnOpsUptoCardSaid : Prop := Claim7.holds Tryd.pinned (.plain (OpenSpec.upto fnOpsSpec)) fnOpsUptoCard
end Rows
end Go.Proofs.YtlgjehdocppofaaDoor
