/-
  DERIVED. GIVEN WITH THE SEED: THE CARDS: each row of YtingcghleidhmaaGreatDoorRows.lean that lists a variable, with what it lists TIED to the program's text (the seventh form; the later family's looks); each row that meets fmt, with fmt's text TOLD by the authors' own Lean function (tested against real Go, not proved from fmt's source: count such statements apart). THE CARD IS WHAT COUNTS. Prove the row's statement (the work); the ties are given (YtingcghleidhmaaGreatDoorTie.lean); close each card by the builder's one call (the guide's Derived/Test/ToyasCard.lean, 'card_holds'). Laid BY PROGRAM, IN A SANDBOX (cutbox-door.mjs). By AI agents, Wed Nov 11 2026. No macro, syntax, notation, axiom, sorry.
-/
import Derived.Test.YtingcghleidhmaaGreatDoorRows
import GoSem.ClaimSeven
namespace Go.Proofs.YtingcghleidhmaaGreatDoor
namespace Rows

/-- THE TIED CARD OF 'bedlaw1.LinesMatch'. -/
def linesMatchCard : Claim7 := { stood := { row := linesMatchRow, standIns := [], harness := (true, "e740b69b33102e21b40570c3bae7847275524d13417d591f014514964a44f136"), looks := false }, kinds := [], alts := [], laidByText := true, laidKinds := [.data, .pinned], laidTests := true, laidLooks := .later }
def LinesMatchCardSaid : Prop := Claim7.holds Tryz.pinned (.plain (OpenSpec.ofChange linesMatchSpec)) linesMatchCard

/-- THE TIED CARD OF 'bedlaw1.LayoutsMatch'. -/
def layoutsMatchCard : Claim7 := { stood := { row := layoutsMatchRow, standIns := [], harness := (true, "e740b69b33102e21b40570c3bae7847275524d13417d591f014514964a44f136"), looks := false }, kinds := [], alts := [], laidByText := true, laidKinds := [.data, .pinned], laidTests := true, laidLooks := .later }
def LayoutsMatchCardSaid : Prop := Claim7.holds Tryz.pinned (.plain (OpenSpec.ofChange layoutsMatchSpec)) layoutsMatchCard

/-- THE SECOND FORM's CARD OF 'bedlaw1.LinesMatch'. -/
def linesMatchUptoCard : Claim7 := { stood := { row := linesMatchUptoRow, standIns := [], harness := (true, "e740b69b33102e21b40570c3bae7847275524d13417d591f014514964a44f136"), looks := false }, kinds := [], alts := [], laidByText := true, laidKinds := [.data, .pinned], laidTests := true, laidLooks := .later }
def LinesMatchUptoCardSaid : Prop := Claim7.holds Tryz.pinned (.plain (OpenSpec.upto linesMatchSpec)) linesMatchUptoCard

/-- THE SECOND FORM's CARD OF 'bedlaw1.LayoutsMatch'. -/
def layoutsMatchUptoCard : Claim7 := { stood := { row := layoutsMatchUptoRow, standIns := [], harness := (true, "e740b69b33102e21b40570c3bae7847275524d13417d591f014514964a44f136"), looks := false }, kinds := [], alts := [], laidByText := true, laidKinds := [.data, .pinned], laidTests := true, laidLooks := .later }
def LayoutsMatchUptoCardSaid : Prop := Claim7.holds Tryz.pinned (.plain (OpenSpec.upto layoutsMatchSpec)) layoutsMatchUptoCard
end Rows
end Go.Proofs.YtingcghleidhmaaGreatDoor
