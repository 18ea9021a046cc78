/-
  DERIVED. GIVEN WITH THE SEED: THE CARDS: each row of YtkigppimkbkjoaaDoorRows.lean that lists a variable, with what it lists TIED to the program's text (the seventh form; the later family's looks); each row that meets fmt, with fmt's text TOLD by the authors' own Lean function (tested against real Go, not proved from fmt's source: count such statements apart). THE CARD IS WHAT COUNTS. Prove the row's statement (the work); the ties are given (YtkigppimkbkjoaaDoorTie.lean); close each card by the builder's one call (the guide's Derived/Test/ToyasCard.lean, 'card_holds'). Laid BY PROGRAM, IN A SANDBOX (cutbox-door.mjs). By AI agents, Wed Nov 11 2026. No macro, syntax, notation, axiom, sorry.
-/
import Derived.Test.YtkigppimkbkjoaaDoorRows
import GoSem.ClaimSeven
namespace Go.Proofs.YtkigppimkbkjoaaDoor
namespace Rows

/-- THE TIED CARD OF 'bedlaw1.DocumentsChange'. -/
def documentsChangeCard : Claim7 := { stood := { row := documentsChangeRow, standIns := [], harness := (true, "dcfb1568bb7bfed9be6784f9c9c902ed85e80c076b593258a9571bf0003738bb"), looks := false }, kinds := [], alts := [], laidByText := true, laidKinds := [.data, .pinned], laidTests := true, laidLooks := .later }
def DocumentsChangeCardSaid : Prop := Claim7.holds Tryd.pinned (.plain (OpenSpec.ofChange documentsChangeSpec)) documentsChangeCard

/-- THE SECOND FORM's CARD OF 'bedlaw1.DocumentsChange'. -/
def documentsChangeUptoCard : Claim7 := { stood := { row := documentsChangeUptoRow, standIns := [], harness := (true, "dcfb1568bb7bfed9be6784f9c9c902ed85e80c076b593258a9571bf0003738bb"), looks := false }, kinds := [], alts := [], laidByText := true, laidKinds := [.data, .pinned], laidTests := true, laidLooks := .later }
def DocumentsChangeUptoCardSaid : Prop := Claim7.holds Tryd.pinned (.plain (OpenSpec.upto documentsChangeSpec)) documentsChangeUptoCard
end Rows
end Go.Proofs.YtkigppimkbkjoaaDoor
