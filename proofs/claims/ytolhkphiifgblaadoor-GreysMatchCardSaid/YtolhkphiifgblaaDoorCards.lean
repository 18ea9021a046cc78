/-
  DERIVED. GIVEN WITH THE SEED: THE CARDS: each row of YtolhkphiifgblaaDoorRows.lean that lists a variable, with what it lists TIED to the program's text (the seventh form; the later family's looks); each row that meets fmt, with fmt's text TOLD by the authors' own Lean function (tested against real Go, not proved from fmt's source: count such statements apart). THE CARD IS WHAT COUNTS. Prove the row's statement (the work); the ties are given (YtolhkphiifgblaaDoorTie.lean); close each card by the builder's one call (the guide's Derived/Test/ToyasCard.lean, 'card_holds'). Laid BY PROGRAM, IN A SANDBOX (cutbox-door.mjs). By AI agents, Wed Nov 11 2026. No macro, syntax, notation, axiom, sorry.
-/
import Derived.Test.YtolhkphiifgblaaDoorRows
import GoSem.ClaimSeven
namespace Go.Proofs.YtolhkphiifgblaaDoor
namespace Rows

/-- THE TIED CARD OF 'bedlaw1.PiecesMatch'. -/
def piecesMatchCard : Claim7 := { stood := { row := piecesMatchRow, standIns := [], harness := (true, "7b0b4616c4db6e088fcae671c08db5a0c7b3d9c6da2da90ab71bceebcb1bb4df"), looks := false }, kinds := [], alts := [], laidByText := true, laidKinds := [.data, .pinned], laidTests := true, laidLooks := .later }
def PiecesMatchCardSaid : Prop := Claim7.holds Tryd.pinned (.plain (OpenSpec.ofChange piecesMatchSpec)) piecesMatchCard

/-- THE TIED CARD OF 'bedlaw1.BoxesMatch'. -/
def boxesMatchCard : Claim7 := { stood := { row := boxesMatchRow, standIns := [], harness := (true, "7b0b4616c4db6e088fcae671c08db5a0c7b3d9c6da2da90ab71bceebcb1bb4df"), looks := false }, kinds := [], alts := [], laidByText := true, laidKinds := [.data, .pinned], laidTests := true, laidLooks := .later }
def BoxesMatchCardSaid : Prop := Claim7.holds Tryd.pinned (.plain (OpenSpec.ofChange boxesMatchSpec)) boxesMatchCard

/-- THE TIED CARD OF 'bedlaw1.ParagraphsMatch'. -/
def paragraphsMatchCard : Claim7 := { stood := { row := paragraphsMatchRow, standIns := [], harness := (true, "7b0b4616c4db6e088fcae671c08db5a0c7b3d9c6da2da90ab71bceebcb1bb4df"), looks := false }, kinds := [], alts := [], laidByText := true, laidKinds := [.data, .pinned], laidTests := true, laidLooks := .later }
def ParagraphsMatchCardSaid : Prop := Claim7.holds Tryd.pinned (.plain (OpenSpec.ofChange paragraphsMatchSpec)) paragraphsMatchCard

/-- THE TIED CARD OF 'bedlaw1.GreysMatch'. -/
def greysMatchCard : Claim7 := { stood := { row := greysMatchRow, standIns := [], harness := (true, "7b0b4616c4db6e088fcae671c08db5a0c7b3d9c6da2da90ab71bceebcb1bb4df"), looks := false }, kinds := [], alts := [], laidByText := true, laidKinds := [.data, .pinned], laidTests := true, laidLooks := .later }
def GreysMatchCardSaid : Prop := Claim7.holds Tryd.pinned (.plain (OpenSpec.ofChange greysMatchSpec)) greysMatchCard

/-- THE TIED CARD OF 'bedlaw1.PiecesGo'. -/
def piecesGoCard : Claim7 := { stood := { row := piecesGoRow, standIns := [], harness := (true, "7b0b4616c4db6e088fcae671c08db5a0c7b3d9c6da2da90ab71bceebcb1bb4df"), looks := false }, kinds := [], alts := [], laidByText := true, laidKinds := [.data, .pinned], laidTests := true, laidLooks := .later }
def PiecesGoCardSaid : Prop := Claim7.holds Tryd.pinned (.plain (OpenSpec.ofChange piecesGoSpec)) piecesGoCard

/-- THE SECOND FORM's CARD OF 'bedlaw1.PiecesMatch'. -/
def piecesMatchUptoCard : Claim7 := { stood := { row := piecesMatchUptoRow, standIns := [], harness := (true, "7b0b4616c4db6e088fcae671c08db5a0c7b3d9c6da2da90ab71bceebcb1bb4df"), looks := false }, kinds := [], alts := [], laidByText := true, laidKinds := [.data, .pinned], laidTests := true, laidLooks := .later }
def PiecesMatchUptoCardSaid : Prop := Claim7.holds Tryd.pinned (.plain (OpenSpec.upto piecesMatchSpec)) piecesMatchUptoCard

/-- THE SECOND FORM's CARD OF 'bedlaw1.BoxesMatch'. -/
def boxesMatchUptoCard : Claim7 := { stood := { row := boxesMatchUptoRow, standIns := [], harness := (true, "7b0b4616c4db6e088fcae671c08db5a0c7b3d9c6da2da90ab71bceebcb1bb4df"), looks := false }, kinds := [], alts := [], laidByText := true, laidKinds := [.data, .pinned], laidTests := true, laidLooks := .later }
def BoxesMatchUptoCardSaid : Prop := Claim7.holds Tryd.pinned (.plain (OpenSpec.upto boxesMatchSpec)) boxesMatchUptoCard

/-- THE SECOND FORM's CARD OF 'bedlaw1.ParagraphsMatch'. -/
def paragraphsMatchUptoCard : Claim7 := { stood := { row := paragraphsMatchUptoRow, standIns := [], harness := (true, "7b0b4616c4db6e088fcae671c08db5a0c7b3d9c6da2da90ab71bceebcb1bb4df"), looks := false }, kinds := [], alts := [], laidByText := true, laidKinds := [.data, .pinned], laidTests := true, laidLooks := .later }
def ParagraphsMatchUptoCardSaid : Prop := Claim7.holds Tryd.pinned (.plain (OpenSpec.upto paragraphsMatchSpec)) paragraphsMatchUptoCard

/-- THE SECOND FORM's CARD OF 'bedlaw1.GreysMatch'. -/
def greysMatchUptoCard : Claim7 := { stood := { row := greysMatchUptoRow, standIns := [], harness := (true, "7b0b4616c4db6e088fcae671c08db5a0c7b3d9c6da2da90ab71bceebcb1bb4df"), looks := false }, kinds := [], alts := [], laidByText := true, laidKinds := [.data, .pinned], laidTests := true, laidLooks := .later }
def GreysMatchUptoCardSaid : Prop := Claim7.holds Tryd.pinned (.plain (OpenSpec.upto greysMatchSpec)) greysMatchUptoCard

/-- THE SECOND FORM's CARD OF 'bedlaw1.PiecesGo'. -/
def piecesGoUptoCard : Claim7 := { stood := { row := piecesGoUptoRow, standIns := [], harness := (true, "7b0b4616c4db6e088fcae671c08db5a0c7b3d9c6da2da90ab71bceebcb1bb4df"), looks := false }, kinds := [], alts := [], laidByText := true, laidKinds := [.data, .pinned], laidTests := true, laidLooks := .later }
def PiecesGoUptoCardSaid : Prop := Claim7.holds Tryd.pinned (.plain (OpenSpec.upto piecesGoSpec)) piecesGoUptoCard
end Rows
end Go.Proofs.YtolhkphiifgblaaDoor
