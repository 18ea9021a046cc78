/-
  DERIVED. GIVEN WITH THE SEED: THE CARDS: each row of YtpnlkjeedfmhfaaDoorRows.lean that lists a variable, with what it lists TIED to the program's text (the seventh form; the later family's looks); each row that meets fmt, with fmt's text TOLD by the authors' own Lean function (tested against real Go, not proved from fmt's source: count such statements apart). THE CARD IS WHAT COUNTS. Prove the row's statement (the work); the ties are given (YtpnlkjeedfmhfaaDoorTie.lean); close each card by the builder's one call (the guide's Derived/Test/ToyasCard.lean, 'card_holds'). Laid BY PROGRAM, IN A SANDBOX (cutbox-door.mjs). By AI agents, Wed Nov 11 2026. No macro, syntax, notation, axiom, sorry.
-/
import Derived.Test.YtpnlkjeedfmhfaaDoorRows
import GoSem.ClaimSeven
namespace Go.Proofs.YtpnlkjeedfmhfaaDoor
namespace Rows

/-- THE TIED CARD OF 'bedlaw1.SheetsCollate'. -/
def sheetsCollateCard : Claim7 := { stood := { row := sheetsCollateRow, standIns := [], harness := (true, "ea6c6982405c0b2cd4bdb7ec5d55417f129523dfee973947d02e12ebff3f22a5"), looks := false }, kinds := [], alts := [], laidByText := true, laidKinds := [.data, .pinned], laidTests := true, laidLooks := .later }
def SheetsCollateCardSaid : Prop := Claim7.holds Tryd.pinned (.plain (OpenSpec.ofChange sheetsCollateSpec)) sheetsCollateCard

/-- THE TIED CARD OF 'bedlaw1.BlanksMatch'. -/
def blanksMatchCard : Claim7 := { stood := { row := blanksMatchRow, standIns := [], harness := (true, "ea6c6982405c0b2cd4bdb7ec5d55417f129523dfee973947d02e12ebff3f22a5"), looks := false }, kinds := [], alts := [], laidByText := true, laidKinds := [.data, .pinned], laidTests := true, laidLooks := .later }
def BlanksMatchCardSaid : Prop := Claim7.holds Tryd.pinned (.plain (OpenSpec.ofChange blanksMatchSpec)) blanksMatchCard

/-- THE TIED CARD OF 'bedlaw1.CopiesMatch'. -/
def copiesMatchCard : Claim7 := { stood := { row := copiesMatchRow, standIns := [], harness := (true, "ea6c6982405c0b2cd4bdb7ec5d55417f129523dfee973947d02e12ebff3f22a5"), looks := false }, kinds := [], alts := [], laidByText := true, laidKinds := [.data, .pinned], laidTests := true, laidLooks := .later }
def CopiesMatchCardSaid : Prop := Claim7.holds Tryd.pinned (.plain (OpenSpec.ofChange copiesMatchSpec)) copiesMatchCard

/-- THE TIED CARD OF 'bedlaw1.DocumentsChange'. -/
def documentsChangeCard : Claim7 := { stood := { row := documentsChangeRow, standIns := [], harness := (true, "ea6c6982405c0b2cd4bdb7ec5d55417f129523dfee973947d02e12ebff3f22a5"), looks := false }, kinds := [], alts := [], laidByText := true, laidKinds := [.data, .pinned], laidTests := true, laidLooks := .later }
def DocumentsChangeCardSaid : Prop := Claim7.holds Tryd.pinned (.plain (OpenSpec.ofChange documentsChangeSpec)) documentsChangeCard

/-- THE TIED CARD OF 'bedlaw1.KindsMatch'. -/
def kindsMatchCard : Claim7 := { stood := { row := kindsMatchRow, standIns := [], harness := (true, "ea6c6982405c0b2cd4bdb7ec5d55417f129523dfee973947d02e12ebff3f22a5"), looks := false }, kinds := [], alts := [], laidByText := true, laidKinds := [.data, .pinned], laidTests := true, laidLooks := .later }
def KindsMatchCardSaid : Prop := Claim7.holds Tryd.pinned (.plain (OpenSpec.ofChange kindsMatchSpec)) kindsMatchCard

/-- THE TIED CARD OF 'bedlaw1.TitlesMatch'. -/
def titlesMatchCard : Claim7 := { stood := { row := titlesMatchRow, standIns := [], harness := (true, "ea6c6982405c0b2cd4bdb7ec5d55417f129523dfee973947d02e12ebff3f22a5"), looks := false }, kinds := [], alts := [], laidByText := true, laidKinds := [.data, .data, .data, .data, .pinned], laidTests := true, laidLooks := .later }
def TitlesMatchCardSaid : Prop := Claim7.holds Tryd.pinned (.plain (OpenSpec.ofChange titlesMatchSpec)) titlesMatchCard

/-- THE TIED CARD OF 'bedlaw1.RulesPrint'. -/
def rulesPrintCard : Claim7 := { stood := { row := rulesPrintRow, standIns := [], harness := (true, "ea6c6982405c0b2cd4bdb7ec5d55417f129523dfee973947d02e12ebff3f22a5"), looks := false }, kinds := [], alts := [], laidByText := true, laidKinds := [.data, .pinned], laidTests := true, laidLooks := .later }
def RulesPrintCardSaid : Prop := Claim7.holds Tryd.pinned (.plain (OpenSpec.ofChange rulesPrintSpec)) rulesPrintCard

/-- THE TIED CARD OF 'bedlaw1.FactsMatch'. -/
def factsMatchCard : Claim7 := { stood := { row := factsMatchRow, standIns := [], harness := (true, "ea6c6982405c0b2cd4bdb7ec5d55417f129523dfee973947d02e12ebff3f22a5"), looks := false }, kinds := [], alts := [], laidByText := true, laidKinds := [.data, .data, .data, .data, .pinned], laidTests := true, laidLooks := .later }
def FactsMatchCardSaid : Prop := Claim7.holds Tryd.pinned (.plain (OpenSpec.ofChange factsMatchSpec)) factsMatchCard

/-- THE SECOND FORM's CARD OF 'bedlaw1.SheetsCollate'. -/
def sheetsCollateUptoCard : Claim7 := { stood := { row := sheetsCollateUptoRow, standIns := [], harness := (true, "ea6c6982405c0b2cd4bdb7ec5d55417f129523dfee973947d02e12ebff3f22a5"), looks := false }, kinds := [], alts := [], laidByText := true, laidKinds := [.data, .pinned], laidTests := true, laidLooks := .later }
def SheetsCollateUptoCardSaid : Prop := Claim7.holds Tryd.pinned (.plain (OpenSpec.upto sheetsCollateSpec)) sheetsCollateUptoCard

/-- THE SECOND FORM's CARD OF 'bedlaw1.BlanksMatch'. -/
def blanksMatchUptoCard : Claim7 := { stood := { row := blanksMatchUptoRow, standIns := [], harness := (true, "ea6c6982405c0b2cd4bdb7ec5d55417f129523dfee973947d02e12ebff3f22a5"), looks := false }, kinds := [], alts := [], laidByText := true, laidKinds := [.data, .pinned], laidTests := true, laidLooks := .later }
def BlanksMatchUptoCardSaid : Prop := Claim7.holds Tryd.pinned (.plain (OpenSpec.upto blanksMatchSpec)) blanksMatchUptoCard

/-- THE SECOND FORM's CARD OF 'bedlaw1.CopiesMatch'. -/
def copiesMatchUptoCard : Claim7 := { stood := { row := copiesMatchUptoRow, standIns := [], harness := (true, "ea6c6982405c0b2cd4bdb7ec5d55417f129523dfee973947d02e12ebff3f22a5"), looks := false }, kinds := [], alts := [], laidByText := true, laidKinds := [.data, .pinned], laidTests := true, laidLooks := .later }
def CopiesMatchUptoCardSaid : Prop := Claim7.holds Tryd.pinned (.plain (OpenSpec.upto copiesMatchSpec)) copiesMatchUptoCard

/-- THE SECOND FORM's CARD OF 'bedlaw1.DocumentsChange'. -/
def documentsChangeUptoCard : Claim7 := { stood := { row := documentsChangeUptoRow, standIns := [], harness := (true, "ea6c6982405c0b2cd4bdb7ec5d55417f129523dfee973947d02e12ebff3f22a5"), looks := false }, kinds := [], alts := [], laidByText := true, laidKinds := [.data, .pinned], laidTests := true, laidLooks := .later }
def DocumentsChangeUptoCardSaid : Prop := Claim7.holds Tryd.pinned (.plain (OpenSpec.upto documentsChangeSpec)) documentsChangeUptoCard

/-- THE SECOND FORM's CARD OF 'bedlaw1.KindsMatch'. -/
def kindsMatchUptoCard : Claim7 := { stood := { row := kindsMatchUptoRow, standIns := [], harness := (true, "ea6c6982405c0b2cd4bdb7ec5d55417f129523dfee973947d02e12ebff3f22a5"), looks := false }, kinds := [], alts := [], laidByText := true, laidKinds := [.data, .pinned], laidTests := true, laidLooks := .later }
def KindsMatchUptoCardSaid : Prop := Claim7.holds Tryd.pinned (.plain (OpenSpec.upto kindsMatchSpec)) kindsMatchUptoCard

/-- THE SECOND FORM's CARD OF 'bedlaw1.TitlesMatch'. -/
def titlesMatchUptoCard : Claim7 := { stood := { row := titlesMatchUptoRow, standIns := [], harness := (true, "ea6c6982405c0b2cd4bdb7ec5d55417f129523dfee973947d02e12ebff3f22a5"), looks := false }, kinds := [], alts := [], laidByText := true, laidKinds := [.data, .data, .data, .data, .pinned], laidTests := true, laidLooks := .later }
def TitlesMatchUptoCardSaid : Prop := Claim7.holds Tryd.pinned (.plain (OpenSpec.upto titlesMatchSpec)) titlesMatchUptoCard

/-- THE SECOND FORM's CARD OF 'bedlaw1.RulesPrint'. -/
def rulesPrintUptoCard : Claim7 := { stood := { row := rulesPrintUptoRow, standIns := [], harness := (true, "ea6c6982405c0b2cd4bdb7ec5d55417f129523dfee973947d02e12ebff3f22a5"), looks := false }, kinds := [], alts := [], laidByText := true, laidKinds := [.data, .pinned], laidTests := true, laidLooks := .later }
def RulesPrintUptoCardSaid : Prop := Claim7.holds Tryd.pinned (.plain (OpenSpec.upto rulesPrintSpec)) rulesPrintUptoCard

/-- THE SECOND FORM's CARD OF 'bedlaw1.FactsMatch'. -/
def factsMatchUptoCard : Claim7 := { stood := { row := factsMatchUptoRow, standIns := [], harness := (true, "ea6c6982405c0b2cd4bdb7ec5d55417f129523dfee973947d02e12ebff3f22a5"), looks := false }, kinds := [], alts := [], laidByText := true, laidKinds := [.data, .data, .data, .data, .pinned], laidTests := true, laidLooks := .later }
def FactsMatchUptoCardSaid : Prop := Claim7.holds Tryd.pinned (.plain (OpenSpec.upto factsMatchSpec)) factsMatchUptoCard
end Rows
end Go.Proofs.YtpnlkjeedfmhfaaDoor
