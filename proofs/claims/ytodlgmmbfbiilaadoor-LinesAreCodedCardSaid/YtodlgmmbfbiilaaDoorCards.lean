/-
  DERIVED. GIVEN WITH THE SEED: THE CARDS: each row of YtodlgmmbfbiilaaDoorRows.lean that lists a variable, with what it lists TIED to the program's text (the seventh form; the later family's looks); each row that meets fmt, with fmt's text TOLD by the authors' own Lean function (tested against real Go, not proved from fmt's source: count such statements apart). THE CARD IS WHAT COUNTS. Prove the row's statement (the work); the ties are given (YtodlgmmbfbiilaaDoorTie.lean); close each card by the builder's one call (the guide's Derived/Test/ToyasCard.lean, 'card_holds'). Laid BY PROGRAM, IN A SANDBOX (cutbox-door.mjs). By AI agents, Wed Nov 11 2026. No macro, syntax, notation, axiom, sorry.
-/
import Derived.Test.YtodlgmmbfbiilaaDoorRows
import GoSem.ClaimSeven
namespace Go.Proofs.YtodlgmmbfbiilaaDoor
namespace Rows

/-- THE TIED CARD OF 'bedlaw1.GammasMatch'. -/
def gammasMatchCard : Claim7 := { stood := { row := gammasMatchRow, standIns := [], harness := (true, "19c90d340d4b4188f648b6084dac8773cc3a3781f400c6cb0e44d98f0dcbf84c"), looks := true }, kinds := [], alts := [], laidByText := true, laidKinds := [.data, .data, .data, .data, .sentinel, .sentinel, .pinned], laidTests := true, laidLooks := .later }
def GammasMatchCardSaid : Prop := Claim7.holds Tryd.pinned (.plain (OpenSpec.ofChange gammasMatchSpec)) gammasMatchCard

/-- THE TIED CARD OF 'bedlaw1.LinesAreCoded'. -/
def linesAreCodedCard : Claim7 := { stood := { row := linesAreCodedRow, standIns := [], harness := (true, "19c90d340d4b4188f648b6084dac8773cc3a3781f400c6cb0e44d98f0dcbf84c"), looks := true }, kinds := [], alts := [], laidByText := true, laidKinds := [.data, .data, .data, .data, .sentinel, .sentinel, .pinned], laidTests := true, laidLooks := .later }
def LinesAreCodedCardSaid : Prop := Claim7.holds Tryd.pinned (.plain (OpenSpec.ofChange linesAreCodedSpec)) linesAreCodedCard

/-- THE SECOND FORM's CARD OF 'bedlaw1.GammasMatch'. -/
def gammasMatchUptoCard : Claim7 := { stood := { row := gammasMatchUptoRow, standIns := [], harness := (true, "19c90d340d4b4188f648b6084dac8773cc3a3781f400c6cb0e44d98f0dcbf84c"), looks := true }, kinds := [], alts := [], laidByText := true, laidKinds := [.data, .data, .data, .data, .sentinel, .sentinel, .pinned], laidTests := true, laidLooks := .later }
def GammasMatchUptoCardSaid : Prop := Claim7.holds Tryd.pinned (.plain (OpenSpec.upto gammasMatchSpec)) gammasMatchUptoCard

/-- THE SECOND FORM's CARD OF 'bedlaw1.LinesAreCoded'. -/
def linesAreCodedUptoCard : Claim7 := { stood := { row := linesAreCodedUptoRow, standIns := [], harness := (true, "19c90d340d4b4188f648b6084dac8773cc3a3781f400c6cb0e44d98f0dcbf84c"), looks := true }, kinds := [], alts := [], laidByText := true, laidKinds := [.data, .data, .data, .data, .sentinel, .sentinel, .pinned], laidTests := true, laidLooks := .later }
def LinesAreCodedUptoCardSaid : Prop := Claim7.holds Tryd.pinned (.plain (OpenSpec.upto linesAreCodedSpec)) linesAreCodedUptoCard
end Rows
end Go.Proofs.YtodlgmmbfbiilaaDoor
