/-
  DERIVED. GIVEN WITH THE SEED: THE CARDS: each row of YtkfadacmcknejaaDoorRows.lean that lists a variable, with what it lists TIED to the program's text (the seventh form; the later family's looks); each row that meets fmt, with fmt's text TOLD by the authors' own Lean function (tested against real Go, not proved from fmt's source: count such statements apart). THE CARD IS WHAT COUNTS. Prove the row's statement (the work); the ties are given (YtkfadacmcknejaaDoorTie.lean); close each card by the builder's one call (the guide's Derived/Test/ToyasCard.lean, 'card_holds'). Laid BY PROGRAM, IN A SANDBOX (cutbox-door.mjs). By AI agents, Wed Nov 11 2026. No macro, syntax, notation, axiom, sorry.
-/
import Derived.Test.YtkfadacmcknejaaDoorRows
import GoSem.ClaimSeven
namespace Go.Proofs.YtkfadacmcknejaaDoor
namespace Rows

/-- THE TIED CARD OF 'bedlaw1.LearnsMatch'. -/
def learnsMatchCard : Claim7 := { stood := { row := learnsMatchRow, standIns := [], harness := (true, "6492049efecee724f8368189a0f48b892134d5c9ff50b34f23faea5d07267d0f"), looks := false }, kinds := [], alts := [], laidByText := true, laidKinds := [.data, .pinned], laidTests := true, laidLooks := .later }
def LearnsMatchCardSaid : Prop := Claim7.holds Tryd.pinned (.plain (OpenSpec.ofChange learnsMatchSpec)) learnsMatchCard

/-- THE TIED CARD OF 'bedlaw1.DictsMatch'. -/
def dictsMatchCard : Claim7 := { stood := { row := dictsMatchRow, standIns := [], harness := (true, "6492049efecee724f8368189a0f48b892134d5c9ff50b34f23faea5d07267d0f"), looks := false }, kinds := [], alts := [], laidByText := true, laidKinds := [.data, .pinned], laidTests := true, laidLooks := .later }
def DictsMatchCardSaid : Prop := Claim7.holds Tryd.pinned (.plain (OpenSpec.ofChange dictsMatchSpec)) dictsMatchCard

/-- THE SECOND FORM's CARD OF 'bedlaw1.LearnsMatch'. -/
def learnsMatchUptoCard : Claim7 := { stood := { row := learnsMatchUptoRow, standIns := [], harness := (true, "6492049efecee724f8368189a0f48b892134d5c9ff50b34f23faea5d07267d0f"), looks := false }, kinds := [], alts := [], laidByText := true, laidKinds := [.data, .pinned], laidTests := true, laidLooks := .later }
def LearnsMatchUptoCardSaid : Prop := Claim7.holds Tryd.pinned (.plain (OpenSpec.upto learnsMatchSpec)) learnsMatchUptoCard

/-- THE SECOND FORM's CARD OF 'bedlaw1.DictsMatch'. -/
def dictsMatchUptoCard : Claim7 := { stood := { row := dictsMatchUptoRow, standIns := [], harness := (true, "6492049efecee724f8368189a0f48b892134d5c9ff50b34f23faea5d07267d0f"), looks := false }, kinds := [], alts := [], laidByText := true, laidKinds := [.data, .pinned], laidTests := true, laidLooks := .later }
def DictsMatchUptoCardSaid : Prop := Claim7.holds Tryd.pinned (.plain (OpenSpec.upto dictsMatchSpec)) dictsMatchUptoCard
end Rows
end Go.Proofs.YtkfadacmcknejaaDoor
