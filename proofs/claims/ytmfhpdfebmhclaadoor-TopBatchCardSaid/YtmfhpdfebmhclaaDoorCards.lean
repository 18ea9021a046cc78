/-
  DERIVED. GIVEN WITH THE SEED: THE CARDS: each row of YtmfhpdfebmhclaaDoorRows.lean that lists a variable, with what it lists TIED to the program's text (the seventh form; the later family's looks); each row that meets fmt, with fmt's text TOLD by the authors' own Lean function (tested against real Go, not proved from fmt's source: count such statements apart). THE CARD IS WHAT COUNTS. Prove the row's statement (the work); the ties are given (YtmfhpdfebmhclaaDoorTie.lean); close each card by the builder's one call (the guide's Derived/Test/ToyasCard.lean, 'card_holds'). Laid BY PROGRAM, IN A SANDBOX (cutbox-door.mjs). By AI agents, Wed Nov 11 2026. No macro, syntax, notation, axiom, sorry.
-/
import Derived.Test.YtmfhpdfebmhclaaDoorRows
import GoSem.ClaimSeven
namespace Go.Proofs.YtmfhpdfebmhclaaDoor
namespace Rows

/-- THE TIED CARD OF 'bedtop.TopCopies'. -/
def topCopiesCard : Claim7 := { stood := { row := topCopiesRow, standIns := [], harness := (true, "3a02a52e8a695f086b64d7d7b6022bf8c0b497fba0d176417767663ae1b9773d"), looks := false }, kinds := [], alts := [], laidByText := true, laidKinds := [.data, .pinned], laidTests := true, laidLooks := .later }
def TopCopiesCardSaid : Prop := Claim7.holds Tryd.pinned (.plain (OpenSpec.ofChange topCopiesSpec)) topCopiesCard

/-- THE TIED CARD OF 'bedtop.TopBatch'. -/
def topBatchCard : Claim7 := { stood := { row := topBatchRow, standIns := [], harness := (true, "3a02a52e8a695f086b64d7d7b6022bf8c0b497fba0d176417767663ae1b9773d"), looks := false }, kinds := [], alts := [], laidByText := true, laidKinds := [.data, .pinned], laidTests := true, laidLooks := .later }
def TopBatchCardSaid : Prop := Claim7.holds Tryd.pinned (.plain (OpenSpec.ofChange topBatchSpec)) topBatchCard

/-- THE SECOND FORM's CARD OF 'bedtop.TopCopies'. -/
def topCopiesUptoCard : Claim7 := { stood := { row := topCopiesUptoRow, standIns := [], harness := (true, "3a02a52e8a695f086b64d7d7b6022bf8c0b497fba0d176417767663ae1b9773d"), looks := false }, kinds := [], alts := [], laidByText := true, laidKinds := [.data, .pinned], laidTests := true, laidLooks := .later }
def TopCopiesUptoCardSaid : Prop := Claim7.holds Tryd.pinned (.plain (OpenSpec.upto topCopiesSpec)) topCopiesUptoCard

/-- THE SECOND FORM's CARD OF 'bedtop.TopBatch'. -/
def topBatchUptoCard : Claim7 := { stood := { row := topBatchUptoRow, standIns := [], harness := (true, "3a02a52e8a695f086b64d7d7b6022bf8c0b497fba0d176417767663ae1b9773d"), looks := false }, kinds := [], alts := [], laidByText := true, laidKinds := [.data, .pinned], laidTests := true, laidLooks := .later }
def TopBatchUptoCardSaid : Prop := Claim7.holds Tryd.pinned (.plain (OpenSpec.upto topBatchSpec)) topBatchUptoCard
end Rows
end Go.Proofs.YtmfhpdfebmhclaaDoor
