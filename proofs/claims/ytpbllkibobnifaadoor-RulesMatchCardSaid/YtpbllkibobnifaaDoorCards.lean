/-
  DERIVED. GIVEN WITH THE SEED: THE CARDS: each row of YtpbllkibobnifaaDoorRows.lean that lists a variable, with what it lists TIED to the program's text (the seventh form; the later family's looks); each row that meets fmt, with fmt's text TOLD by the authors' own Lean function (tested against real Go, not proved from fmt's source: count such statements apart). THE CARD IS WHAT COUNTS. Prove the row's statement (the work); the ties are given (YtpbllkibobnifaaDoorTie.lean); close each card by the builder's one call (the guide's Derived/Test/ToyasCard.lean, 'card_holds'). Laid BY PROGRAM, IN A SANDBOX (cutbox-door.mjs). By AI agents, Wed Nov 11 2026. No macro, syntax, notation, axiom, sorry.
-/
import Derived.Test.YtpbllkibobnifaaDoorRows
import GoSem.ClaimSeven
namespace Go.Proofs.YtpbllkibobnifaaDoor
namespace Rows

/-- THE TIED CARD OF 'bedlaw1.RulesMatch'. -/
def rulesMatchCard : Claim7 := { stood := { row := rulesMatchRow, standIns := [], harness := (true, "1525363f4529d265ccbe3580980243140044406fa49710d3772e5724dbb78504"), looks := false }, kinds := [], alts := [], laidByText := true, laidKinds := [.data, .pinned], laidTests := true, laidLooks := .later }
def RulesMatchCardSaid : Prop := Claim7.holds Tryd.pinned (.plain (OpenSpec.ofChange rulesMatchSpec)) rulesMatchCard

/-- THE SECOND FORM's CARD OF 'bedlaw1.RulesMatch'. -/
def rulesMatchUptoCard : Claim7 := { stood := { row := rulesMatchUptoRow, standIns := [], harness := (true, "1525363f4529d265ccbe3580980243140044406fa49710d3772e5724dbb78504"), looks := false }, kinds := [], alts := [], laidByText := true, laidKinds := [.data, .pinned], laidTests := true, laidLooks := .later }
def RulesMatchUptoCardSaid : Prop := Claim7.holds Tryd.pinned (.plain (OpenSpec.upto rulesMatchSpec)) rulesMatchUptoCard
end Rows
end Go.Proofs.YtpbllkibobnifaaDoor
