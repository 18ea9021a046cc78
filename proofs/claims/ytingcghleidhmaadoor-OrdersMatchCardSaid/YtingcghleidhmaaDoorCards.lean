/-
  DERIVED. GIVEN WITH THE SEED: THE CARDS: each row of YtingcghleidhmaaDoorRows.lean that lists a variable, with what it lists TIED to the program's text (the seventh form; the later family's looks); each row that meets fmt, with fmt's text TOLD by the authors' own Lean function (tested against real Go, not proved from fmt's source: count such statements apart). THE CARD IS WHAT COUNTS. Prove the row's statement (the work); the ties are given (YtingcghleidhmaaDoorTie.lean); close each card by the builder's one call (the guide's Derived/Test/ToyasCard.lean, 'card_holds'). Laid BY PROGRAM, IN A SANDBOX (cutbox-door.mjs). By AI agents, Wed Nov 11 2026. No macro, syntax, notation, axiom, sorry.
-/
import Derived.Test.YtingcghleidhmaaDoorRows
import GoSem.ClaimSeven
namespace Go.Proofs.YtingcghleidhmaaDoor
namespace Rows

/-- THE TIED CARD OF 'bedlaw1.SplitsMatch'. -/
def splitsMatchCard : Claim7 := { stood := { row := splitsMatchRow, standIns := [], harness := (true, "0bfcdd0fb9c8ff3df8f0dc8ba804982d1182194bf31f3a533da0fa8aa5d407fd"), looks := false }, kinds := [], alts := [], laidByText := true, laidKinds := [.data, .pinned], laidTests := true, laidLooks := .later }
def SplitsMatchCardSaid : Prop := Claim7.holds Tryd.pinned (.plain (OpenSpec.ofChange splitsMatchSpec)) splitsMatchCard

/-- THE TIED CARD OF 'bedlaw1.RulesMatch'. -/
def rulesMatchCard : Claim7 := { stood := { row := rulesMatchRow, standIns := [], harness := (true, "0bfcdd0fb9c8ff3df8f0dc8ba804982d1182194bf31f3a533da0fa8aa5d407fd"), looks := false }, kinds := [], alts := [], laidByText := true, laidKinds := [.data, .pinned], laidTests := true, laidLooks := .later }
def RulesMatchCardSaid : Prop := Claim7.holds Tryd.pinned (.plain (OpenSpec.ofChange rulesMatchSpec)) rulesMatchCard

/-- THE TIED CARD OF 'bedlaw1.OrdersMatch'. -/
def ordersMatchCard : Claim7 := { stood := { row := ordersMatchRow, standIns := [], harness := (true, "0bfcdd0fb9c8ff3df8f0dc8ba804982d1182194bf31f3a533da0fa8aa5d407fd"), looks := false }, kinds := [], alts := [], laidByText := true, laidKinds := [.data, .pinned], laidTests := true, laidLooks := .later }
def OrdersMatchCardSaid : Prop := Claim7.holds Tryd.pinned (.plain (OpenSpec.ofChange ordersMatchSpec)) ordersMatchCard

/-- THE SECOND FORM's CARD OF 'bedlaw1.SplitsMatch'. -/
def splitsMatchUptoCard : Claim7 := { stood := { row := splitsMatchUptoRow, standIns := [], harness := (true, "0bfcdd0fb9c8ff3df8f0dc8ba804982d1182194bf31f3a533da0fa8aa5d407fd"), looks := false }, kinds := [], alts := [], laidByText := true, laidKinds := [.data, .pinned], laidTests := true, laidLooks := .later }
def SplitsMatchUptoCardSaid : Prop := Claim7.holds Tryd.pinned (.plain (OpenSpec.upto splitsMatchSpec)) splitsMatchUptoCard

/-- THE SECOND FORM's CARD OF 'bedlaw1.RulesMatch'. -/
def rulesMatchUptoCard : Claim7 := { stood := { row := rulesMatchUptoRow, standIns := [], harness := (true, "0bfcdd0fb9c8ff3df8f0dc8ba804982d1182194bf31f3a533da0fa8aa5d407fd"), looks := false }, kinds := [], alts := [], laidByText := true, laidKinds := [.data, .pinned], laidTests := true, laidLooks := .later }
def RulesMatchUptoCardSaid : Prop := Claim7.holds Tryd.pinned (.plain (OpenSpec.upto rulesMatchSpec)) rulesMatchUptoCard

/-- THE SECOND FORM's CARD OF 'bedlaw1.OrdersMatch'. -/
def ordersMatchUptoCard : Claim7 := { stood := { row := ordersMatchUptoRow, standIns := [], harness := (true, "0bfcdd0fb9c8ff3df8f0dc8ba804982d1182194bf31f3a533da0fa8aa5d407fd"), looks := false }, kinds := [], alts := [], laidByText := true, laidKinds := [.data, .pinned], laidTests := true, laidLooks := .later }
def OrdersMatchUptoCardSaid : Prop := Claim7.holds Tryd.pinned (.plain (OpenSpec.upto ordersMatchSpec)) ordersMatchUptoCard
end Rows
end Go.Proofs.YtingcghleidhmaaDoor
