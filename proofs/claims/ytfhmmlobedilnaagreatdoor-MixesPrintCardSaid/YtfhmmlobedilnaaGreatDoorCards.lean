/-
  DERIVED. GIVEN WITH THE SEED: THE CARDS: each row of YtfhmmlobedilnaaGreatDoorRows.lean that lists a variable, with what it lists TIED to the program's text (the seventh form; the later family's looks); each row that meets fmt, with fmt's text TOLD by the authors' own Lean function (tested against real Go, not proved from fmt's source: count such statements apart). THE CARD IS WHAT COUNTS. Prove the row's statement (the work); the ties are given (YtfhmmlobedilnaaGreatDoorTie.lean); close each card by the builder's one call (the guide's Derived/Test/ToyasCard.lean, 'card_holds'). Laid BY PROGRAM, IN A SANDBOX (cutbox-door.mjs). By AI agents, Wed Nov 11 2026. No macro, syntax, notation, axiom, sorry.
-/
import Derived.Test.YtfhmmlobedilnaaGreatDoorRows
import GoSem.ClaimSeven
namespace Go.Proofs.YtfhmmlobedilnaaGreatDoor
namespace Rows

/-- THE TIED CARD OF 'bedlaw1.MixesPrint'. -/
def mixesPrintCard : Claim7 := { stood := { row := mixesPrintRow, standIns := [], harness := (true, "7dc75ba340da5f1b7bd01427e9533d5977c655d7b686c648615af96befd07740"), looks := true }, kinds := [], alts := [], laidByText := true, laidKinds := [.data, .data, .data, .data, .sentinel, .sentinel, .pinned], laidTests := true, laidLooks := .later }
def MixesPrintCardSaid : Prop := Claim7.holds Tryz.pinned (.plain (OpenSpec.ofChange mixesPrintSpec)) mixesPrintCard

/-- THE SECOND FORM's CARD OF 'bedlaw1.MixesPrint'. -/
def mixesPrintUptoCard : Claim7 := { stood := { row := mixesPrintUptoRow, standIns := [], harness := (true, "7dc75ba340da5f1b7bd01427e9533d5977c655d7b686c648615af96befd07740"), looks := true }, kinds := [], alts := [], laidByText := true, laidKinds := [.data, .data, .data, .data, .sentinel, .sentinel, .pinned], laidTests := true, laidLooks := .later }
def MixesPrintUptoCardSaid : Prop := Claim7.holds Tryz.pinned (.plain (OpenSpec.upto mixesPrintSpec)) mixesPrintUptoCard
end Rows
end Go.Proofs.YtfhmmlobedilnaaGreatDoor
