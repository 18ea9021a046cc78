/-
  DERIVED. GIVEN WITH THE SEED: THE CARDS: each row of YthhdmejmdjhbkaaGreatDoorRows.lean that lists a variable, with what it lists TIED to the program's text (the seventh form; the later family's looks); each row that meets fmt, with fmt's text TOLD by the authors' own Lean function (tested against real Go, not proved from fmt's source: count such statements apart). THE CARD IS WHAT COUNTS. Prove the row's statement (the work); the ties are given (YthhdmejmdjhbkaaGreatDoorTie.lean); close each card by the builder's one call (the guide's Derived/Test/ToyasCard.lean, 'card_holds'). Laid BY PROGRAM, IN A SANDBOX (cutbox-door.mjs). By AI agents, Wed Nov 11 2026. No macro, syntax, notation, axiom, sorry.
-/
import Derived.Test.YthhdmejmdjhbkaaGreatDoorRows
import GoSem.ClaimSeven
namespace Go.Proofs.YthhdmejmdjhbkaaGreatDoor
namespace Rows

/-- THE TIED CARD OF 'bedtop.TopCorrected'. -/
def topCorrectedCard : Claim7 := { stood := { row := topCorrectedRow, standIns := [], harness := (true, "ce22751ade1ad3e1c11b7b8dc7d586674425b75a17654f61fe60418e20743be4"), looks := false }, kinds := [], alts := [], laidByText := true, laidKinds := [.data, .pinned], laidTests := true, laidLooks := .later }
def TopCorrectedCardSaid : Prop := Claim7.holds Tryz.pinned (.plain (OpenSpec.ofChange topCorrectedSpec)) topCorrectedCard

/-- THE TIED CARD OF 'bedlaw1.LinesJoin'. -/
def linesJoinCard : Claim7 := { stood := { row := linesJoinRow, standIns := [], harness := (true, "ce22751ade1ad3e1c11b7b8dc7d586674425b75a17654f61fe60418e20743be4"), looks := false }, kinds := [], alts := [], laidByText := true, laidKinds := [.data, .pinned], laidTests := true, laidLooks := .later }
def LinesJoinCardSaid : Prop := Claim7.holds Tryz.pinned (.plain (OpenSpec.ofChange linesJoinSpec)) linesJoinCard

/-- THE TIED CARD OF 'bedlaw1.GuessesMatch'. -/
def guessesMatchCard : Claim7 := { stood := { row := guessesMatchRow, standIns := [], harness := (true, "ce22751ade1ad3e1c11b7b8dc7d586674425b75a17654f61fe60418e20743be4"), looks := false }, kinds := [], alts := [], laidByText := true, laidKinds := [.data, .pinned], laidTests := true, laidLooks := .later }
def GuessesMatchCardSaid : Prop := Claim7.holds Tryz.pinned (.plain (OpenSpec.ofChange guessesMatchSpec)) guessesMatchCard

/-- THE TIED CARD OF 'bedlaw1.CorrectsMatch'. -/
def correctsMatchCard : Claim7 := { stood := { row := correctsMatchRow, standIns := [], harness := (true, "ce22751ade1ad3e1c11b7b8dc7d586674425b75a17654f61fe60418e20743be4"), looks := false }, kinds := [], alts := [], laidByText := true, laidKinds := [.data, .pinned], laidTests := true, laidLooks := .later }
def CorrectsMatchCardSaid : Prop := Claim7.holds Tryz.pinned (.plain (OpenSpec.ofChange correctsMatchSpec)) correctsMatchCard

/-- THE SECOND FORM's CARD OF 'bedtop.TopCorrected'. -/
def topCorrectedUptoCard : Claim7 := { stood := { row := topCorrectedUptoRow, standIns := [], harness := (true, "ce22751ade1ad3e1c11b7b8dc7d586674425b75a17654f61fe60418e20743be4"), looks := false }, kinds := [], alts := [], laidByText := true, laidKinds := [.data, .pinned], laidTests := true, laidLooks := .later }
def TopCorrectedUptoCardSaid : Prop := Claim7.holds Tryz.pinned (.plain (OpenSpec.upto topCorrectedSpec)) topCorrectedUptoCard

/-- THE SECOND FORM's CARD OF 'bedlaw1.LinesJoin'. -/
def linesJoinUptoCard : Claim7 := { stood := { row := linesJoinUptoRow, standIns := [], harness := (true, "ce22751ade1ad3e1c11b7b8dc7d586674425b75a17654f61fe60418e20743be4"), looks := false }, kinds := [], alts := [], laidByText := true, laidKinds := [.data, .pinned], laidTests := true, laidLooks := .later }
def LinesJoinUptoCardSaid : Prop := Claim7.holds Tryz.pinned (.plain (OpenSpec.upto linesJoinSpec)) linesJoinUptoCard

/-- THE SECOND FORM's CARD OF 'bedlaw1.GuessesMatch'. -/
def guessesMatchUptoCard : Claim7 := { stood := { row := guessesMatchUptoRow, standIns := [], harness := (true, "ce22751ade1ad3e1c11b7b8dc7d586674425b75a17654f61fe60418e20743be4"), looks := false }, kinds := [], alts := [], laidByText := true, laidKinds := [.data, .pinned], laidTests := true, laidLooks := .later }
def GuessesMatchUptoCardSaid : Prop := Claim7.holds Tryz.pinned (.plain (OpenSpec.upto guessesMatchSpec)) guessesMatchUptoCard

/-- THE SECOND FORM's CARD OF 'bedlaw1.CorrectsMatch'. -/
def correctsMatchUptoCard : Claim7 := { stood := { row := correctsMatchUptoRow, standIns := [], harness := (true, "ce22751ade1ad3e1c11b7b8dc7d586674425b75a17654f61fe60418e20743be4"), looks := false }, kinds := [], alts := [], laidByText := true, laidKinds := [.data, .pinned], laidTests := true, laidLooks := .later }
def CorrectsMatchUptoCardSaid : Prop := Claim7.holds Tryz.pinned (.plain (OpenSpec.upto correctsMatchSpec)) correctsMatchUptoCard
end Rows
end Go.Proofs.YthhdmejmdjhbkaaGreatDoor
