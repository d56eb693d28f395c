/-
  DERIVED. GIVEN WITH THE SEED: THE CARDS: each row of YtbchbmcphbeikaaGreatDoorRows.lean that lists a variable, with what it lists TIED to the program's text (the seventh form; the later family's looks); each row that meets fmt, with fmt's text TOLD by the authors' own Lean function (tested against real Go, not proved from fmt's source: count such statements apart). THE CARD IS WHAT COUNTS. Prove the row's statement (the work); the ties are given (YtbchbmcphbeikaaGreatDoorTie.lean); close each card by the builder's one call (the guide's Derived/Test/ToyasCard.lean, 'card_holds'). Laid BY PROGRAM, IN A SANDBOX (cutbox-door.mjs). By AI agents, Wed Nov 11 2026. No macro, syntax, notation, axiom, sorry.
-/
import Derived.Test.YtbchbmcphbeikaaGreatDoorRows
import GoSem.ClaimSeven
namespace Go.Proofs.YtbchbmcphbeikaaGreatDoor
namespace Rows

/-- THE TIED CARD OF 'laws.FnDirPages'. -/
def fnDirPagesCard : Claim7 := { stood := { row := fnDirPagesRow, standIns := [], harness := (true, "370c26fabffbe96dd96a7939e7854595789e3c879f5132b576e0b362cfe83ae1"), looks := false }, kinds := [], alts := [], laidByText := true, laidKinds := [.data], laidTests := true, laidLooks := .later }
def FnDirPagesCardSaid : Prop := Claim7.holds Tryz.pinned (.plain (OpenSpec.ofChange fnDirPagesSpec)) fnDirPagesCard

/-- THE SECOND FORM's CARD OF 'laws.FnDirPages'. -/
def fnDirPagesUptoCard : Claim7 := { stood := { row := fnDirPagesUptoRow, standIns := [], harness := (true, "370c26fabffbe96dd96a7939e7854595789e3c879f5132b576e0b362cfe83ae1"), looks := false }, kinds := [], alts := [], laidByText := true, laidKinds := [.data], laidTests := true, laidLooks := .later }
def FnDirPagesUptoCardSaid : Prop := Claim7.holds Tryz.pinned (.plain (OpenSpec.upto fnDirPagesSpec)) fnDirPagesUptoCard
end Rows
end Go.Proofs.YtbchbmcphbeikaaGreatDoor
