/-
  DERIVED. GIVEN WITH THE SEED: THE CARDS: each row of YtjomdjmmpohaeaaDoorRows.lean that lists a variable, with what it lists TIED to the program's text (the seventh form; the later family's looks); each row that meets fmt, with fmt's text TOLD by the authors' own Lean function (tested against real Go, not proved from fmt's source: count such statements apart). THE CARD IS WHAT COUNTS. Prove the row's statement (the work); the ties are given (YtjomdjmmpohaeaaDoorTie.lean); close each card by the builder's one call (the guide's Derived/Test/ToyasCard.lean, 'card_holds'). Laid BY PROGRAM, IN A SANDBOX (cutbox-door.mjs). By AI agents, Wed Nov 11 2026. No macro, syntax, notation, axiom, sorry.
-/
import Derived.Test.YtjomdjmmpohaeaaDoorRows
import GoSem.ClaimSeven
namespace Go.Proofs.YtjomdjmmpohaeaaDoor
namespace Rows

/-- THE TIED CARD OF 'bedlaw1.DistancesMatch'. -/
def distancesMatchCard : Claim7 := { stood := { row := distancesMatchRow, standIns := [], harness := (true, "47f464409eb11def5dd4e9bd17c1c1f13ca61ff9a42a3a81b79e2d2ef3868bb4"), looks := false }, kinds := [], alts := [], laidByText := true, laidKinds := [.data, .pinned], laidTests := true, laidLooks := .later }
def DistancesMatchCardSaid : Prop := Claim7.holds Tryd.pinned (.plain (OpenSpec.ofChange distancesMatchSpec)) distancesMatchCard

/-- THE TIED CARD OF 'bedlaw1.DictsMatch'. -/
def dictsMatchCard : Claim7 := { stood := { row := dictsMatchRow, standIns := [], harness := (true, "47f464409eb11def5dd4e9bd17c1c1f13ca61ff9a42a3a81b79e2d2ef3868bb4"), looks := false }, kinds := [], alts := [], laidByText := true, laidKinds := [.data, .pinned], laidTests := true, laidLooks := .later }
def DictsMatchCardSaid : Prop := Claim7.holds Tryd.pinned (.plain (OpenSpec.ofChange dictsMatchSpec)) dictsMatchCard

/-- THE TIED CARD OF 'bedlaw1.TokensMatch'. -/
def tokensMatchCard : Claim7 := { stood := { row := tokensMatchRow, standIns := [], harness := (true, "47f464409eb11def5dd4e9bd17c1c1f13ca61ff9a42a3a81b79e2d2ef3868bb4"), looks := false }, kinds := [], alts := [], laidByText := true, laidKinds := [.data, .pinned], laidTests := true, laidLooks := .later }
def TokensMatchCardSaid : Prop := Claim7.holds Tryd.pinned (.plain (OpenSpec.ofChange tokensMatchSpec)) tokensMatchCard

/-- THE TIED CARD OF 'bedlaw1.ParagraphsMatch'. -/
def paragraphsMatchCard : Claim7 := { stood := { row := paragraphsMatchRow, standIns := [], harness := (true, "47f464409eb11def5dd4e9bd17c1c1f13ca61ff9a42a3a81b79e2d2ef3868bb4"), looks := false }, kinds := [], alts := [], laidByText := true, laidKinds := [.data, .pinned], laidTests := true, laidLooks := .later }
def ParagraphsMatchCardSaid : Prop := Claim7.holds Tryd.pinned (.plain (OpenSpec.ofChange paragraphsMatchSpec)) paragraphsMatchCard

/-- THE TIED CARD OF 'bedlaw1.LearnsMatch'. -/
def learnsMatchCard : Claim7 := { stood := { row := learnsMatchRow, standIns := [], harness := (true, "47f464409eb11def5dd4e9bd17c1c1f13ca61ff9a42a3a81b79e2d2ef3868bb4"), looks := false }, kinds := [], alts := [], laidByText := true, laidKinds := [.data, .pinned], laidTests := true, laidLooks := .later }
def LearnsMatchCardSaid : Prop := Claim7.holds Tryd.pinned (.plain (OpenSpec.ofChange learnsMatchSpec)) learnsMatchCard

/-- THE TIED CARD OF 'bedlaw1.ErrorsAreBounded'. -/
def errorsAreBoundedCard : Claim7 := { stood := { row := errorsAreBoundedRow, standIns := [], harness := (true, "47f464409eb11def5dd4e9bd17c1c1f13ca61ff9a42a3a81b79e2d2ef3868bb4"), looks := false }, kinds := [], alts := [], laidByText := true, laidKinds := [.data, .pinned], laidTests := true, laidLooks := .later }
def ErrorsAreBoundedCardSaid : Prop := Claim7.holds Tryd.pinned (.plain (OpenSpec.ofChange errorsAreBoundedSpec)) errorsAreBoundedCard

/-- THE SECOND FORM's CARD OF 'bedlaw1.DistancesMatch'. -/
def distancesMatchUptoCard : Claim7 := { stood := { row := distancesMatchUptoRow, standIns := [], harness := (true, "47f464409eb11def5dd4e9bd17c1c1f13ca61ff9a42a3a81b79e2d2ef3868bb4"), looks := false }, kinds := [], alts := [], laidByText := true, laidKinds := [.data, .pinned], laidTests := true, laidLooks := .later }
def DistancesMatchUptoCardSaid : Prop := Claim7.holds Tryd.pinned (.plain (OpenSpec.upto distancesMatchSpec)) distancesMatchUptoCard

/-- THE SECOND FORM's CARD OF 'bedlaw1.DictsMatch'. -/
def dictsMatchUptoCard : Claim7 := { stood := { row := dictsMatchUptoRow, standIns := [], harness := (true, "47f464409eb11def5dd4e9bd17c1c1f13ca61ff9a42a3a81b79e2d2ef3868bb4"), looks := false }, kinds := [], alts := [], laidByText := true, laidKinds := [.data, .pinned], laidTests := true, laidLooks := .later }
def DictsMatchUptoCardSaid : Prop := Claim7.holds Tryd.pinned (.plain (OpenSpec.upto dictsMatchSpec)) dictsMatchUptoCard

/-- THE SECOND FORM's CARD OF 'bedlaw1.TokensMatch'. -/
def tokensMatchUptoCard : Claim7 := { stood := { row := tokensMatchUptoRow, standIns := [], harness := (true, "47f464409eb11def5dd4e9bd17c1c1f13ca61ff9a42a3a81b79e2d2ef3868bb4"), looks := false }, kinds := [], alts := [], laidByText := true, laidKinds := [.data, .pinned], laidTests := true, laidLooks := .later }
def TokensMatchUptoCardSaid : Prop := Claim7.holds Tryd.pinned (.plain (OpenSpec.upto tokensMatchSpec)) tokensMatchUptoCard

/-- THE SECOND FORM's CARD OF 'bedlaw1.ParagraphsMatch'. -/
def paragraphsMatchUptoCard : Claim7 := { stood := { row := paragraphsMatchUptoRow, standIns := [], harness := (true, "47f464409eb11def5dd4e9bd17c1c1f13ca61ff9a42a3a81b79e2d2ef3868bb4"), looks := false }, kinds := [], alts := [], laidByText := true, laidKinds := [.data, .pinned], laidTests := true, laidLooks := .later }
def ParagraphsMatchUptoCardSaid : Prop := Claim7.holds Tryd.pinned (.plain (OpenSpec.upto paragraphsMatchSpec)) paragraphsMatchUptoCard

/-- THE SECOND FORM's CARD OF 'bedlaw1.LearnsMatch'. -/
def learnsMatchUptoCard : Claim7 := { stood := { row := learnsMatchUptoRow, standIns := [], harness := (true, "47f464409eb11def5dd4e9bd17c1c1f13ca61ff9a42a3a81b79e2d2ef3868bb4"), looks := false }, kinds := [], alts := [], laidByText := true, laidKinds := [.data, .pinned], laidTests := true, laidLooks := .later }
def LearnsMatchUptoCardSaid : Prop := Claim7.holds Tryd.pinned (.plain (OpenSpec.upto learnsMatchSpec)) learnsMatchUptoCard

/-- THE SECOND FORM's CARD OF 'bedlaw1.ErrorsAreBounded'. -/
def errorsAreBoundedUptoCard : Claim7 := { stood := { row := errorsAreBoundedUptoRow, standIns := [], harness := (true, "47f464409eb11def5dd4e9bd17c1c1f13ca61ff9a42a3a81b79e2d2ef3868bb4"), looks := false }, kinds := [], alts := [], laidByText := true, laidKinds := [.data, .pinned], laidTests := true, laidLooks := .later }
def ErrorsAreBoundedUptoCardSaid : Prop := Claim7.holds Tryd.pinned (.plain (OpenSpec.upto errorsAreBoundedSpec)) errorsAreBoundedUptoCard
end Rows
end Go.Proofs.YtjomdjmmpohaeaaDoor
