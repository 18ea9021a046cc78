/-
  DERIVED. GIVEN WITH THE SEED: THE CARDS: each row of YtfebnhmnkgnofaaDoorRows.lean that lists a variable, with what it lists TIED to the program's text (the seventh form; the later family's looks); each row that meets fmt, with fmt's text TOLD by the authors' own Lean function (tested against real Go, not proved from fmt's source: count such statements apart). THE CARD IS WHAT COUNTS. Prove the row's statement (the work); the ties are given (YtfebnhmnkgnofaaDoorTie.lean); close each card by the builder's one call (the guide's Derived/Test/ToyasCard.lean, 'card_holds'). Laid BY PROGRAM, IN A SANDBOX (cutbox-door.mjs). By AI agents, Wed Nov 11 2026. No macro, syntax, notation, axiom, sorry.
-/
import Derived.Test.YtfebnhmnkgnofaaDoorRows
import GoSem.ClaimSeven
namespace Go.Proofs.YtfebnhmnkgnofaaDoor
namespace Rows

/-- THE TIED CARD OF 'bedlaw1.LocalsMatch'. -/
def localsMatchCard : Claim7 := { stood := { row := localsMatchRow, standIns := [], harness := (true, "caf04bb6cd0d82d58cc15cdd1c3875e9a1541fb3d398c9af562ff893a39823af"), looks := false }, kinds := [], alts := [], laidByText := true, laidKinds := [.data, .pinned], laidTests := true, laidLooks := .later }
def LocalsMatchCardSaid : Prop := Claim7.holds Tryd.pinned (.plain (OpenSpec.ofChange localsMatchSpec)) localsMatchCard

/-- THE TIED CARD OF 'bedlaw1.InkSpreads'. -/
def inkSpreadsCard : Claim7 := { stood := { row := inkSpreadsRow, standIns := [], harness := (true, "caf04bb6cd0d82d58cc15cdd1c3875e9a1541fb3d398c9af562ff893a39823af"), looks := false }, kinds := [], alts := [], laidByText := true, laidKinds := [.data, .pinned], laidTests := true, laidLooks := .later }
def InkSpreadsCardSaid : Prop := Claim7.holds Tryd.pinned (.plain (OpenSpec.ofChange inkSpreadsSpec)) inkSpreadsCard

/-- THE TIED CARD OF 'bedlaw1.LevelsMatch'. -/
def levelsMatchCard : Claim7 := { stood := { row := levelsMatchRow, standIns := [], harness := (true, "caf04bb6cd0d82d58cc15cdd1c3875e9a1541fb3d398c9af562ff893a39823af"), looks := false }, kinds := [], alts := [], laidByText := true, laidKinds := [.data, .pinned], laidTests := true, laidLooks := .later }
def LevelsMatchCardSaid : Prop := Claim7.holds Tryd.pinned (.plain (OpenSpec.ofChange levelsMatchSpec)) levelsMatchCard

/-- THE TIED CARD OF 'bedlaw1.StrokesMatch'. -/
def strokesMatchCard : Claim7 := { stood := { row := strokesMatchRow, standIns := [], harness := (true, "caf04bb6cd0d82d58cc15cdd1c3875e9a1541fb3d398c9af562ff893a39823af"), looks := false }, kinds := [], alts := [], laidByText := true, laidKinds := [.data, .pinned], laidTests := true, laidLooks := .later }
def StrokesMatchCardSaid : Prop := Claim7.holds Tryd.pinned (.plain (OpenSpec.ofChange strokesMatchSpec)) strokesMatchCard

/-- THE TIED CARD OF 'bedlaw1.PagesCheck'. -/
def pagesCheckCard : Claim7 := { stood := { row := pagesCheckRow, standIns := [], harness := (true, "caf04bb6cd0d82d58cc15cdd1c3875e9a1541fb3d398c9af562ff893a39823af"), looks := false }, kinds := [], alts := [], laidByText := true, laidKinds := [.data, .pinned], laidTests := true, laidLooks := .later }
def PagesCheckCardSaid : Prop := Claim7.holds Tryd.pinned (.plain (OpenSpec.ofChange pagesCheckSpec)) pagesCheckCard

/-- THE TIED CARD OF 'bedlaw1.GreysMatch'. -/
def greysMatchCard : Claim7 := { stood := { row := greysMatchRow, standIns := [], harness := (true, "caf04bb6cd0d82d58cc15cdd1c3875e9a1541fb3d398c9af562ff893a39823af"), looks := false }, kinds := [], alts := [], laidByText := true, laidKinds := [.data, .pinned], laidTests := true, laidLooks := .later }
def GreysMatchCardSaid : Prop := Claim7.holds Tryd.pinned (.plain (OpenSpec.ofChange greysMatchSpec)) greysMatchCard

/-- THE TIED CARD OF 'bedlaw1.PiecesGo'. -/
def piecesGoCard : Claim7 := { stood := { row := piecesGoRow, standIns := [], harness := (true, "caf04bb6cd0d82d58cc15cdd1c3875e9a1541fb3d398c9af562ff893a39823af"), looks := false }, kinds := [], alts := [], laidByText := true, laidKinds := [.data, .pinned], laidTests := true, laidLooks := .later }
def PiecesGoCardSaid : Prop := Claim7.holds Tryd.pinned (.plain (OpenSpec.ofChange piecesGoSpec)) piecesGoCard

/-- THE SECOND FORM's CARD OF 'bedlaw1.LocalsMatch'. -/
def localsMatchUptoCard : Claim7 := { stood := { row := localsMatchUptoRow, standIns := [], harness := (true, "caf04bb6cd0d82d58cc15cdd1c3875e9a1541fb3d398c9af562ff893a39823af"), looks := false }, kinds := [], alts := [], laidByText := true, laidKinds := [.data, .pinned], laidTests := true, laidLooks := .later }
def LocalsMatchUptoCardSaid : Prop := Claim7.holds Tryd.pinned (.plain (OpenSpec.upto localsMatchSpec)) localsMatchUptoCard

/-- THE SECOND FORM's CARD OF 'bedlaw1.InkSpreads'. -/
def inkSpreadsUptoCard : Claim7 := { stood := { row := inkSpreadsUptoRow, standIns := [], harness := (true, "caf04bb6cd0d82d58cc15cdd1c3875e9a1541fb3d398c9af562ff893a39823af"), looks := false }, kinds := [], alts := [], laidByText := true, laidKinds := [.data, .pinned], laidTests := true, laidLooks := .later }
def InkSpreadsUptoCardSaid : Prop := Claim7.holds Tryd.pinned (.plain (OpenSpec.upto inkSpreadsSpec)) inkSpreadsUptoCard

/-- THE SECOND FORM's CARD OF 'bedlaw1.LevelsMatch'. -/
def levelsMatchUptoCard : Claim7 := { stood := { row := levelsMatchUptoRow, standIns := [], harness := (true, "caf04bb6cd0d82d58cc15cdd1c3875e9a1541fb3d398c9af562ff893a39823af"), looks := false }, kinds := [], alts := [], laidByText := true, laidKinds := [.data, .pinned], laidTests := true, laidLooks := .later }
def LevelsMatchUptoCardSaid : Prop := Claim7.holds Tryd.pinned (.plain (OpenSpec.upto levelsMatchSpec)) levelsMatchUptoCard

/-- THE SECOND FORM's CARD OF 'bedlaw1.StrokesMatch'. -/
def strokesMatchUptoCard : Claim7 := { stood := { row := strokesMatchUptoRow, standIns := [], harness := (true, "caf04bb6cd0d82d58cc15cdd1c3875e9a1541fb3d398c9af562ff893a39823af"), looks := false }, kinds := [], alts := [], laidByText := true, laidKinds := [.data, .pinned], laidTests := true, laidLooks := .later }
def StrokesMatchUptoCardSaid : Prop := Claim7.holds Tryd.pinned (.plain (OpenSpec.upto strokesMatchSpec)) strokesMatchUptoCard

/-- THE SECOND FORM's CARD OF 'bedlaw1.PagesCheck'. -/
def pagesCheckUptoCard : Claim7 := { stood := { row := pagesCheckUptoRow, standIns := [], harness := (true, "caf04bb6cd0d82d58cc15cdd1c3875e9a1541fb3d398c9af562ff893a39823af"), looks := false }, kinds := [], alts := [], laidByText := true, laidKinds := [.data, .pinned], laidTests := true, laidLooks := .later }
def PagesCheckUptoCardSaid : Prop := Claim7.holds Tryd.pinned (.plain (OpenSpec.upto pagesCheckSpec)) pagesCheckUptoCard

/-- THE SECOND FORM's CARD OF 'bedlaw1.GreysMatch'. -/
def greysMatchUptoCard : Claim7 := { stood := { row := greysMatchUptoRow, standIns := [], harness := (true, "caf04bb6cd0d82d58cc15cdd1c3875e9a1541fb3d398c9af562ff893a39823af"), looks := false }, kinds := [], alts := [], laidByText := true, laidKinds := [.data, .pinned], laidTests := true, laidLooks := .later }
def GreysMatchUptoCardSaid : Prop := Claim7.holds Tryd.pinned (.plain (OpenSpec.upto greysMatchSpec)) greysMatchUptoCard

/-- THE SECOND FORM's CARD OF 'bedlaw1.PiecesGo'. -/
def piecesGoUptoCard : Claim7 := { stood := { row := piecesGoUptoRow, standIns := [], harness := (true, "caf04bb6cd0d82d58cc15cdd1c3875e9a1541fb3d398c9af562ff893a39823af"), looks := false }, kinds := [], alts := [], laidByText := true, laidKinds := [.data, .pinned], laidTests := true, laidLooks := .later }
def PiecesGoUptoCardSaid : Prop := Claim7.holds Tryd.pinned (.plain (OpenSpec.upto piecesGoSpec)) piecesGoUptoCard
end Rows
end Go.Proofs.YtfebnhmnkgnofaaDoor
