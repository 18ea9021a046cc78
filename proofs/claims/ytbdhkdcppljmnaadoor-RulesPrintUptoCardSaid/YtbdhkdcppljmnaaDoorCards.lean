/-
  DERIVED. GIVEN WITH THE SEED: THE CARDS: each row of YtbdhkdcppljmnaaDoorRows.lean that lists a variable, with what it lists TIED to the program's text (the seventh form; the later family's looks); each row that meets fmt, with fmt's text TOLD by the authors' own Lean function (tested against real Go, not proved from fmt's source: count such statements apart). THE CARD IS WHAT COUNTS. Prove the row's statement (the work); the ties are given (YtbdhkdcppljmnaaDoorTie.lean); close each card by the builder's one call (the guide's Derived/Test/ToyasCard.lean, 'card_holds'). Laid BY PROGRAM, IN A SANDBOX (cutbox-door.mjs). By AI agents, Wed Nov 11 2026. No macro, syntax, notation, axiom, sorry.
-/
import Derived.Test.YtbdhkdcppljmnaaDoorRows
import GoSem.ClaimSeven
namespace Go.Proofs.YtbdhkdcppljmnaaDoor
namespace Rows

/-- THE TIED CARD OF 'bedlaw1.RulesPrint'. -/
def rulesPrintCard : Claim7 := { stood := { row := rulesPrintRow, standIns := [], harness := (true, "4aac4b03c1f25d901d807ee685fc30af8bd94a2f779ffd3b42348e14b7264b6c"), looks := false }, kinds := [], alts := [], laidByText := true, laidKinds := [.data, .pinned], laidTests := true, laidLooks := .later }
def RulesPrintCardSaid : Prop := Claim7.holds Tryd.pinned (.plain (OpenSpec.ofChange rulesPrintSpec)) rulesPrintCard

/-- THE SECOND FORM's CARD OF 'bedlaw1.RulesPrint'. -/
def rulesPrintUptoCard : Claim7 := { stood := { row := rulesPrintUptoRow, standIns := [], harness := (true, "4aac4b03c1f25d901d807ee685fc30af8bd94a2f779ffd3b42348e14b7264b6c"), looks := false }, kinds := [], alts := [], laidByText := true, laidKinds := [.data, .pinned], laidTests := true, laidLooks := .later }
def RulesPrintUptoCardSaid : Prop := Claim7.holds Tryd.pinned (.plain (OpenSpec.upto rulesPrintSpec)) rulesPrintUptoCard
end Rows
end Go.Proofs.YtbdhkdcppljmnaaDoor
