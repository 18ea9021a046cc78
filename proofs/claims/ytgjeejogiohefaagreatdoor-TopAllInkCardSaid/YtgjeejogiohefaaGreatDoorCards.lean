/-
  DERIVED. GIVEN WITH THE SEED: THE CARDS: each row of YtgjeejogiohefaaGreatDoorRows.lean that lists a variable, with what it lists TIED to the program's text (the seventh form; the later family's looks); each row that meets fmt, with fmt's text TOLD by the authors' own Lean function (tested against real Go, not proved from fmt's source: count such statements apart). THE CARD IS WHAT COUNTS. Prove the row's statement (the work); the ties are given (YtgjeejogiohefaaGreatDoorTie.lean); close each card by the builder's one call (the guide's Derived/Test/ToyasCard.lean, 'card_holds'). Laid BY PROGRAM, IN A SANDBOX (cutbox-door.mjs). By AI agents, Wed Nov 11 2026. No macro, syntax, notation, axiom, sorry.
-/
import Derived.Test.YtgjeejogiohefaaGreatDoorRows
import GoSem.ClaimSeven
namespace Go.Proofs.YtgjeejogiohefaaGreatDoor
namespace Rows

/-- THE TIED CARD OF 'bedtop.TopCorrected'. -/
def topCorrectedCard : Claim7 := { stood := { row := topCorrectedRow, standIns := [], harness := (true, "b6bae3596e098fc8ae37b7b46b12f56462e9b010cf8f2816ec36d172a8adea09"), looks := true }, kinds := [], alts := [], laidByText := true, laidKinds := [.data, .pinned], laidTests := true, laidLooks := .later }
def TopCorrectedCardSaid : Prop := Claim7.holds Tryz.pinned (.plain (OpenSpec.ofChange topCorrectedSpec)) topCorrectedCard

/-- THE TIED CARD OF 'bedtop.TopAllInk'. -/
def topAllInkCard : Claim7 := { stood := { row := topAllInkRow, standIns := [], harness := (true, "b6bae3596e098fc8ae37b7b46b12f56462e9b010cf8f2816ec36d172a8adea09"), looks := true }, kinds := [], alts := [], laidByText := true, laidKinds := [.data, .pinned], laidTests := true, laidLooks := .later }
def TopAllInkCardSaid : Prop := Claim7.holds Tryz.pinned (.plain (OpenSpec.ofChange topAllInkSpec)) topAllInkCard

/-- THE TIED CARD OF 'bedtop.TopPacked'. -/
def topPackedCard : Claim7 := { stood := { row := topPackedRow, standIns := [], harness := (true, "b6bae3596e098fc8ae37b7b46b12f56462e9b010cf8f2816ec36d172a8adea09"), looks := true }, kinds := [], alts := [], laidByText := true, laidKinds := [.data, .data, .data, .data, .sentinel, .sentinel, .pinned], laidTests := true, laidLooks := .later }
def TopPackedCardSaid : Prop := Claim7.holds Tryz.pinned (.plain (OpenSpec.ofChange topPackedSpec)) topPackedCard

/-- THE SECOND FORM's CARD OF 'bedtop.TopCorrected'. -/
def topCorrectedUptoCard : Claim7 := { stood := { row := topCorrectedUptoRow, standIns := [], harness := (true, "b6bae3596e098fc8ae37b7b46b12f56462e9b010cf8f2816ec36d172a8adea09"), looks := true }, kinds := [], alts := [], laidByText := true, laidKinds := [.data, .pinned], laidTests := true, laidLooks := .later }
def TopCorrectedUptoCardSaid : Prop := Claim7.holds Tryz.pinned (.plain (OpenSpec.upto topCorrectedSpec)) topCorrectedUptoCard

/-- THE SECOND FORM's CARD OF 'bedtop.TopAllInk'. -/
def topAllInkUptoCard : Claim7 := { stood := { row := topAllInkUptoRow, standIns := [], harness := (true, "b6bae3596e098fc8ae37b7b46b12f56462e9b010cf8f2816ec36d172a8adea09"), looks := true }, kinds := [], alts := [], laidByText := true, laidKinds := [.data, .pinned], laidTests := true, laidLooks := .later }
def TopAllInkUptoCardSaid : Prop := Claim7.holds Tryz.pinned (.plain (OpenSpec.upto topAllInkSpec)) topAllInkUptoCard

/-- THE SECOND FORM's CARD OF 'bedtop.TopPacked'. -/
def topPackedUptoCard : Claim7 := { stood := { row := topPackedUptoRow, standIns := [], harness := (true, "b6bae3596e098fc8ae37b7b46b12f56462e9b010cf8f2816ec36d172a8adea09"), looks := true }, kinds := [], alts := [], laidByText := true, laidKinds := [.data, .data, .data, .data, .sentinel, .sentinel, .pinned], laidTests := true, laidLooks := .later }
def TopPackedUptoCardSaid : Prop := Claim7.holds Tryz.pinned (.plain (OpenSpec.upto topPackedSpec)) topPackedUptoCard
end Rows
end Go.Proofs.YtgjeejogiohefaaGreatDoor
