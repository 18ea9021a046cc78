/-
  DERIVED. GIVEN WITH THE SEED: THE CARDS: each row of YtpnlkjeedfmhfaaGreatDoorRows.lean that lists a variable, with what it lists TIED to the program's text (the seventh form; the later family's looks); each row that meets fmt, with fmt's text TOLD by the authors' own Lean function (tested against real Go, not proved from fmt's source: count such statements apart). THE CARD IS WHAT COUNTS. Prove the row's statement (the work); the ties are given (YtpnlkjeedfmhfaaGreatDoorTie.lean); close each card by the builder's one call (the guide's Derived/Test/ToyasCard.lean, 'card_holds'). Laid BY PROGRAM, IN A SANDBOX (cutbox-door.mjs). By AI agents, Wed Nov 11 2026. No macro, syntax, notation, axiom, sorry.
-/
import Derived.Test.YtpnlkjeedfmhfaaGreatDoorRows
import GoSem.ClaimSeven
namespace Go.Proofs.YtpnlkjeedfmhfaaGreatDoor
namespace Rows

/-- THE TIED CARD OF 'bedlaw1.BatchesSplit'. -/
def batchesSplitCard : Claim7 := { stood := { row := batchesSplitRow, standIns := [], harness := (true, "6dc2b678313b83c72cde58d1d3b74164da2e16674023782e9c40b77154d7e1ef"), looks := false }, kinds := [], alts := [], laidByText := true, laidKinds := [.data, .pinned], laidTests := true, laidLooks := .later }
def BatchesSplitCardSaid : Prop := Claim7.holds Tryz.pinned (.plain (OpenSpec.ofChange batchesSplitSpec)) batchesSplitCard

/-- THE SECOND FORM's CARD OF 'bedlaw1.BatchesSplit'. -/
def batchesSplitUptoCard : Claim7 := { stood := { row := batchesSplitUptoRow, standIns := [], harness := (true, "6dc2b678313b83c72cde58d1d3b74164da2e16674023782e9c40b77154d7e1ef"), looks := false }, kinds := [], alts := [], laidByText := true, laidKinds := [.data, .pinned], laidTests := true, laidLooks := .later }
def BatchesSplitUptoCardSaid : Prop := Claim7.holds Tryz.pinned (.plain (OpenSpec.upto batchesSplitSpec)) batchesSplitUptoCard
end Rows
end Go.Proofs.YtpnlkjeedfmhfaaGreatDoor
