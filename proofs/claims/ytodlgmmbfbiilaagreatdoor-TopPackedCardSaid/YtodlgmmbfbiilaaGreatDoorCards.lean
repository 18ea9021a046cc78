/-
  DERIVED. GIVEN WITH THE SEED: THE CARDS: each row of YtodlgmmbfbiilaaGreatDoorRows.lean that lists a variable, with what it lists TIED to the program's text (the seventh form; the later family's looks); each row that meets fmt, with fmt's text TOLD by the authors' own Lean function (tested against real Go, not proved from fmt's source: count such statements apart). THE CARD IS WHAT COUNTS. Prove the row's statement (the work); the ties are given (YtodlgmmbfbiilaaGreatDoorTie.lean); close each card by the builder's one call (the guide's Derived/Test/ToyasCard.lean, 'card_holds'). Laid BY PROGRAM, IN A SANDBOX (cutbox-door.mjs). By AI agents, Wed Nov 11 2026. No macro, syntax, notation, axiom, sorry.
-/
import Derived.Test.YtodlgmmbfbiilaaGreatDoorRows
import GoSem.ClaimSeven
namespace Go.Proofs.YtodlgmmbfbiilaaGreatDoor
namespace Rows

/-- THE TIED CARD OF 'bedlaw1.CodesAreChecked'. -/
def codesAreCheckedCard : Claim7 := { stood := { row := codesAreCheckedRow, standIns := [], harness := (true, "f2cb3bbfe9dde40e7a0c950f1f3295761ff1f4a898ec1c4a7224e0ea007239ac"), looks := true }, kinds := [], alts := [], laidByText := true, laidKinds := [.data, .data, .data, .data, .sentinel, .sentinel, .pinned], laidTests := true, laidLooks := .later }
def CodesAreCheckedCardSaid : Prop := Claim7.holds Tryz.pinned (.plain (OpenSpec.ofChange codesAreCheckedSpec)) codesAreCheckedCard

/-- THE TIED CARD OF 'bedlaw1.StripsJoin'. -/
def stripsJoinCard : Claim7 := { stood := { row := stripsJoinRow, standIns := [], harness := (true, "f2cb3bbfe9dde40e7a0c950f1f3295761ff1f4a898ec1c4a7224e0ea007239ac"), looks := true }, kinds := [], alts := [], laidByText := true, laidKinds := [.data, .data, .data, .data, .sentinel, .sentinel, .pinned], laidTests := true, laidLooks := .later }
def StripsJoinCardSaid : Prop := Claim7.holds Tryz.pinned (.plain (OpenSpec.ofChange stripsJoinSpec)) stripsJoinCard

/-- THE TIED CARD OF 'bedlaw1.CodesMatch'. -/
def codesMatchCard : Claim7 := { stood := { row := codesMatchRow, standIns := [], harness := (true, "f2cb3bbfe9dde40e7a0c950f1f3295761ff1f4a898ec1c4a7224e0ea007239ac"), looks := true }, kinds := [], alts := [], laidByText := true, laidKinds := [.data, .data, .data, .data, .sentinel, .sentinel, .pinned], laidTests := true, laidLooks := .later }
def CodesMatchCardSaid : Prop := Claim7.holds Tryz.pinned (.plain (OpenSpec.ofChange codesMatchSpec)) codesMatchCard

/-- THE TIED CARD OF 'bedlaw1.StripsMatch'. -/
def stripsMatchCard : Claim7 := { stood := { row := stripsMatchRow, standIns := [], harness := (true, "f2cb3bbfe9dde40e7a0c950f1f3295761ff1f4a898ec1c4a7224e0ea007239ac"), looks := true }, kinds := [], alts := [], laidByText := true, laidKinds := [.data, .data, .data, .data, .sentinel, .sentinel, .pinned], laidTests := true, laidLooks := .later }
def StripsMatchCardSaid : Prop := Claim7.holds Tryz.pinned (.plain (OpenSpec.ofChange stripsMatchSpec)) stripsMatchCard

/-- THE TIED CARD OF 'bedlaw1.ArchivesGrow'. -/
def archivesGrowCard : Claim7 := { stood := { row := archivesGrowRow, standIns := [], harness := (true, "f2cb3bbfe9dde40e7a0c950f1f3295761ff1f4a898ec1c4a7224e0ea007239ac"), looks := true }, kinds := [], alts := [], laidByText := true, laidKinds := [.data, .data, .data, .data, .sentinel, .sentinel, .pinned], laidTests := true, laidLooks := .later }
def ArchivesGrowCardSaid : Prop := Claim7.holds Tryz.pinned (.plain (OpenSpec.ofChange archivesGrowSpec)) archivesGrowCard

/-- THE TIED CARD OF 'bedlaw1.ArchivesAreChecked'. -/
def archivesAreCheckedCard : Claim7 := { stood := { row := archivesAreCheckedRow, standIns := [], harness := (true, "f2cb3bbfe9dde40e7a0c950f1f3295761ff1f4a898ec1c4a7224e0ea007239ac"), looks := true }, kinds := [], alts := [], laidByText := true, laidKinds := [.data, .data, .data, .data, .sentinel, .sentinel, .pinned], laidTests := true, laidLooks := .later }
def ArchivesAreCheckedCardSaid : Prop := Claim7.holds Tryz.pinned (.plain (OpenSpec.ofChange archivesAreCheckedSpec)) archivesAreCheckedCard

/-- THE TIED CARD OF 'bedlaw1.ArchivesMatch'. -/
def archivesMatchCard : Claim7 := { stood := { row := archivesMatchRow, standIns := [], harness := (true, "f2cb3bbfe9dde40e7a0c950f1f3295761ff1f4a898ec1c4a7224e0ea007239ac"), looks := true }, kinds := [], alts := [], laidByText := true, laidKinds := [.data, .data, .data, .data, .sentinel, .sentinel, .pinned], laidTests := true, laidLooks := .later }
def ArchivesMatchCardSaid : Prop := Claim7.holds Tryz.pinned (.plain (OpenSpec.ofChange archivesMatchSpec)) archivesMatchCard

/-- THE TIED CARD OF 'bedtop.TopPacked'. -/
def topPackedCard : Claim7 := { stood := { row := topPackedRow, standIns := [], harness := (true, "f2cb3bbfe9dde40e7a0c950f1f3295761ff1f4a898ec1c4a7224e0ea007239ac"), looks := true }, kinds := [], alts := [], laidByText := true, laidKinds := [.data, .data, .data, .data, .sentinel, .sentinel, .pinned], laidTests := true, laidLooks := .later }
def TopPackedCardSaid : Prop := Claim7.holds Tryz.pinned (.plain (OpenSpec.ofChange topPackedSpec)) topPackedCard

/-- THE SECOND FORM's CARD OF 'bedlaw1.CodesAreChecked'. -/
def codesAreCheckedUptoCard : Claim7 := { stood := { row := codesAreCheckedUptoRow, standIns := [], harness := (true, "f2cb3bbfe9dde40e7a0c950f1f3295761ff1f4a898ec1c4a7224e0ea007239ac"), looks := true }, kinds := [], alts := [], laidByText := true, laidKinds := [.data, .data, .data, .data, .sentinel, .sentinel, .pinned], laidTests := true, laidLooks := .later }
def CodesAreCheckedUptoCardSaid : Prop := Claim7.holds Tryz.pinned (.plain (OpenSpec.upto codesAreCheckedSpec)) codesAreCheckedUptoCard

/-- THE SECOND FORM's CARD OF 'bedlaw1.StripsJoin'. -/
def stripsJoinUptoCard : Claim7 := { stood := { row := stripsJoinUptoRow, standIns := [], harness := (true, "f2cb3bbfe9dde40e7a0c950f1f3295761ff1f4a898ec1c4a7224e0ea007239ac"), looks := true }, kinds := [], alts := [], laidByText := true, laidKinds := [.data, .data, .data, .data, .sentinel, .sentinel, .pinned], laidTests := true, laidLooks := .later }
def StripsJoinUptoCardSaid : Prop := Claim7.holds Tryz.pinned (.plain (OpenSpec.upto stripsJoinSpec)) stripsJoinUptoCard

/-- THE SECOND FORM's CARD OF 'bedlaw1.CodesMatch'. -/
def codesMatchUptoCard : Claim7 := { stood := { row := codesMatchUptoRow, standIns := [], harness := (true, "f2cb3bbfe9dde40e7a0c950f1f3295761ff1f4a898ec1c4a7224e0ea007239ac"), looks := true }, kinds := [], alts := [], laidByText := true, laidKinds := [.data, .data, .data, .data, .sentinel, .sentinel, .pinned], laidTests := true, laidLooks := .later }
def CodesMatchUptoCardSaid : Prop := Claim7.holds Tryz.pinned (.plain (OpenSpec.upto codesMatchSpec)) codesMatchUptoCard

/-- THE SECOND FORM's CARD OF 'bedlaw1.StripsMatch'. -/
def stripsMatchUptoCard : Claim7 := { stood := { row := stripsMatchUptoRow, standIns := [], harness := (true, "f2cb3bbfe9dde40e7a0c950f1f3295761ff1f4a898ec1c4a7224e0ea007239ac"), looks := true }, kinds := [], alts := [], laidByText := true, laidKinds := [.data, .data, .data, .data, .sentinel, .sentinel, .pinned], laidTests := true, laidLooks := .later }
def StripsMatchUptoCardSaid : Prop := Claim7.holds Tryz.pinned (.plain (OpenSpec.upto stripsMatchSpec)) stripsMatchUptoCard

/-- THE SECOND FORM's CARD OF 'bedlaw1.ArchivesGrow'. -/
def archivesGrowUptoCard : Claim7 := { stood := { row := archivesGrowUptoRow, standIns := [], harness := (true, "f2cb3bbfe9dde40e7a0c950f1f3295761ff1f4a898ec1c4a7224e0ea007239ac"), looks := true }, kinds := [], alts := [], laidByText := true, laidKinds := [.data, .data, .data, .data, .sentinel, .sentinel, .pinned], laidTests := true, laidLooks := .later }
def ArchivesGrowUptoCardSaid : Prop := Claim7.holds Tryz.pinned (.plain (OpenSpec.upto archivesGrowSpec)) archivesGrowUptoCard

/-- THE SECOND FORM's CARD OF 'bedlaw1.ArchivesAreChecked'. -/
def archivesAreCheckedUptoCard : Claim7 := { stood := { row := archivesAreCheckedUptoRow, standIns := [], harness := (true, "f2cb3bbfe9dde40e7a0c950f1f3295761ff1f4a898ec1c4a7224e0ea007239ac"), looks := true }, kinds := [], alts := [], laidByText := true, laidKinds := [.data, .data, .data, .data, .sentinel, .sentinel, .pinned], laidTests := true, laidLooks := .later }
def ArchivesAreCheckedUptoCardSaid : Prop := Claim7.holds Tryz.pinned (.plain (OpenSpec.upto archivesAreCheckedSpec)) archivesAreCheckedUptoCard

/-- THE SECOND FORM's CARD OF 'bedlaw1.ArchivesMatch'. -/
def archivesMatchUptoCard : Claim7 := { stood := { row := archivesMatchUptoRow, standIns := [], harness := (true, "f2cb3bbfe9dde40e7a0c950f1f3295761ff1f4a898ec1c4a7224e0ea007239ac"), looks := true }, kinds := [], alts := [], laidByText := true, laidKinds := [.data, .data, .data, .data, .sentinel, .sentinel, .pinned], laidTests := true, laidLooks := .later }
def ArchivesMatchUptoCardSaid : Prop := Claim7.holds Tryz.pinned (.plain (OpenSpec.upto archivesMatchSpec)) archivesMatchUptoCard

/-- THE SECOND FORM's CARD OF 'bedtop.TopPacked'. -/
def topPackedUptoCard : Claim7 := { stood := { row := topPackedUptoRow, standIns := [], harness := (true, "f2cb3bbfe9dde40e7a0c950f1f3295761ff1f4a898ec1c4a7224e0ea007239ac"), looks := true }, kinds := [], alts := [], laidByText := true, laidKinds := [.data, .data, .data, .data, .sentinel, .sentinel, .pinned], laidTests := true, laidLooks := .later }
def TopPackedUptoCardSaid : Prop := Claim7.holds Tryz.pinned (.plain (OpenSpec.upto topPackedSpec)) topPackedUptoCard
end Rows
end Go.Proofs.YtodlgmmbfbiilaaGreatDoor
