/-
  DERIVED. GIVEN WITH THE SEED: THE CARDS: each row of YtaahmkhlhgkfpaaDoorRows.lean that lists a variable, with what it lists TIED to the program's text (the seventh form; the later family's looks); each row that meets fmt, with fmt's text TOLD by the authors' own Lean function (tested against real Go, not proved from fmt's source: count such statements apart). THE CARD IS WHAT COUNTS. Prove the row's statement (the work); the ties are given (YtaahmkhlhgkfpaaDoorTie.lean); close each card by the builder's one call (the guide's Derived/Test/ToyasCard.lean, 'card_holds'). Laid BY PROGRAM, IN A SANDBOX (cutbox-door.mjs). By AI agents, Wed Nov 11 2026. No macro, syntax, notation, axiom, sorry.
-/
import Derived.Test.YtaahmkhlhgkfpaaDoorRows
import GoSem.ClaimSeven
namespace Go.Proofs.YtaahmkhlhgkfpaaDoor
namespace Rows

/-- THE TIED CARD OF 'bedlaw1.TitlesMatch'. -/
def titlesMatchCard : Claim7 := { stood := { row := titlesMatchRow, standIns := [], harness := (true, "93827abb1b2933adc0f7b80e346e6616317a674c963f52116555b4c5b7344f5b"), looks := false }, kinds := [], alts := [], laidByText := true, laidKinds := [.data, .data, .data, .data, .pinned], laidTests := true, laidLooks := .later }
def TitlesMatchCardSaid : Prop := Claim7.holds Tryd.pinned (.plain (OpenSpec.ofChange titlesMatchSpec)) titlesMatchCard

/-- THE SECOND FORM's CARD OF 'bedlaw1.TitlesMatch'. -/
def titlesMatchUptoCard : Claim7 := { stood := { row := titlesMatchUptoRow, standIns := [], harness := (true, "93827abb1b2933adc0f7b80e346e6616317a674c963f52116555b4c5b7344f5b"), looks := false }, kinds := [], alts := [], laidByText := true, laidKinds := [.data, .data, .data, .data, .pinned], laidTests := true, laidLooks := .later }
def TitlesMatchUptoCardSaid : Prop := Claim7.holds Tryd.pinned (.plain (OpenSpec.upto titlesMatchSpec)) titlesMatchUptoCard
end Rows
end Go.Proofs.YtaahmkhlhgkfpaaDoor
