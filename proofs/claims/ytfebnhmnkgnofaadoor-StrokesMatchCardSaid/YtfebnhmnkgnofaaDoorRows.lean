/-
  NARROWER THAN 'FOR EVERY INPUT', by the rows' own cells (each row's printed sentence says how): LocalsMatch: laid · InkSpreads: laid · LevelsMatch: laid · StrokesMatch: laid · PagesCheck: laid · GreysMatch: laid · PiecesGo: laid.
  DERIVED. THE GIVEN ROWS OF THIS SEAT. 7 by the template 'for every input the law returns true; each argument reads behind the call as it read before'; 0 by the template 'total and deterministic' (their statements: YtfebnhmnkgnofaaDoorTotals.lean).
  GIVEN WITH THE SEED: the statements are not yours to turn. If you find one false, say at which input.
  Laid BY PROGRAM, IN A SANDBOX (cutbox-rows.mjs): the forced cells as the released guide's own fill.sh prints them over the translation f7b383d8a97d3e6a… (all of the seat's roots in one cut). By AI agents, Wed Nov 11 2026. No macro, syntax, notation, axiom, sorry.
-/
import Derived.Test.YtfebnhmnkgnofaaDoorChecked
import GoSem.PinnedTables
import GoSem.Claim
import GoSem.ClaimJoined
import GoSem.ClaimMapViews
import Derived.JoinedTies
import Derived.KernelRfl
namespace Go.Proofs.YtfebnhmnkgnofaaDoor
/- THE CELL 'sum', in the pinned program and in every row, IS THE sha256 OF THE DUMP (.gsa) THAT YtfebnhmnkgnofaaDoorProg.lean LOADS. Nothing in Lean hashes anything: it is a label: what it is worth is what the hold of that sum in a sandbox is worth. -/
noncomputable def Tryd.pinned : Pinned := { name := "ytfebnhmnkgnofaadoor", sum := "f7b383d8a97d3e6a67fe50d25832b40a906c598899b70c7d2c8241ad692cf38d", checked := Tryd.checked }
namespace Rows
def none {H : Type} : Left H := { results := [], args := [] }

/- WHAT THE LISTED PACKAGE-LEVEL VARIABLES READ AS WHEN THE CALL BEGINS. Each datum BY PROGRAM (the guide's laid-datum.mjs) off the statement by which the dump's own 'gosem.cut.vars' lays the variable. In a bare row this is a premise. The card (YtfebnhmnkgnofaaDoorCards.lean) ties it to the program's text. -/
def laid_unicode_utf8_acceptRanges {H : Type} : DataW H := .agg [.agg [.lit (.int .u8 128), .lit (.int .u8 191)], .agg [.lit (.int .u8 160), .lit (.int .u8 191)], .agg [.lit (.int .u8 128), .lit (.int .u8 159)], .agg [.lit (.int .u8 144), .lit (.int .u8 191)], .agg [.lit (.int .u8 128), .lit (.int .u8 143)], .agg [.lit (.int .u8 0), .lit (.int .u8 0)], .agg [.lit (.int .u8 0), .lit (.int .u8 0)], .agg [.lit (.int .u8 0), .lit (.int .u8 0)], .agg [.lit (.int .u8 0), .lit (.int .u8 0)], .agg [.lit (.int .u8 0), .lit (.int .u8 0)], .agg [.lit (.int .u8 0), .lit (.int .u8 0)], .agg [.lit (.int .u8 0), .lit (.int .u8 0)], .agg [.lit (.int .u8 0), .lit (.int .u8 0)], .agg [.lit (.int .u8 0), .lit (.int .u8 0)], .agg [.lit (.int .u8 0), .lit (.int .u8 0)], .agg [.lit (.int .u8 0), .lit (.int .u8 0)]]
/-- One of Go's own tables, pinned by name: the form's constant. -/
def laid_unicode_utf8_first : DataW Unit := Go.Pinned.utf8First

/-- 'bedlaw1.LocalsMatch': WHATEVER THE INPUT: true; the input reads as it did. -/
def localsMatchSpec : ChangeSpec := { name := "localsMatch", fn := fun _ => fun
  | [d1, d2, d3] => { results := [.lit (.bool true)], args := [d1, d2, d3] }
  | _ => none }
def localsMatchRow : OpenClaim := { program := "ytfebnhmnkgnofaadoor", sum := "f7b383d8a97d3e6a67fe50d25832b40a906c598899b70c7d2c8241ad692cf38d", func := "flatbed/bedlaw1.LocalsMatch", spec := "localsMatch", inPlace := ["internal/bytealg.IndexByteString", "internal/bytealg.IndexString"], unfollowed := true, recurses := true, named := ["unicode/utf8.first", "unicode/utf8.acceptRanges", "internal/bytealg.MaxLen"], plainKeys := false, apart := false, laid := [("unicode/utf8.acceptRanges", laid_unicode_utf8_acceptRanges), ("unicode/utf8.first", laid_unicode_utf8_first)] }
def LocalsMatchSaid : Prop := localsMatchRow.holds Tryd.pinned (OpenSpec.ofChange localsMatchSpec)

/-- ITS FALSE NEIGHBOUR: 'it returns false'. Refute it at one input. -/
def localsMatchWrong : ChangeSpec := { name := "localsMatch", fn := fun _ => fun
  | [d1, d2, d3] => { results := [.lit (.bool false)], args := [d1, d2, d3] }
  | _ => none }
def LocalsMatchWrongFalsely : Prop := localsMatchRow.holds Tryd.pinned (OpenSpec.ofChange localsMatchWrong)

/-- 'bedlaw1.InkSpreads': WHATEVER THE INPUT: true; the input reads as it did. -/
def inkSpreadsSpec : ChangeSpec := { name := "inkSpreads", fn := fun _ => fun
  | [d1, d2] => { results := [.lit (.bool true)], args := [d1, d2] }
  | _ => none }
def inkSpreadsRow : OpenClaim := { program := "ytfebnhmnkgnofaadoor", sum := "f7b383d8a97d3e6a67fe50d25832b40a906c598899b70c7d2c8241ad692cf38d", func := "flatbed/bedlaw1.InkSpreads", spec := "inkSpreads", inPlace := ["internal/bytealg.IndexByteString", "internal/bytealg.IndexString"], unfollowed := true, recurses := true, named := ["unicode/utf8.first", "unicode/utf8.acceptRanges", "internal/bytealg.MaxLen"], plainKeys := false, apart := false, laid := [("unicode/utf8.acceptRanges", laid_unicode_utf8_acceptRanges), ("unicode/utf8.first", laid_unicode_utf8_first)] }
def InkSpreadsSaid : Prop := inkSpreadsRow.holds Tryd.pinned (OpenSpec.ofChange inkSpreadsSpec)

/-- ITS FALSE NEIGHBOUR: 'it returns false'. Refute it at one input. -/
def inkSpreadsWrong : ChangeSpec := { name := "inkSpreads", fn := fun _ => fun
  | [d1, d2] => { results := [.lit (.bool false)], args := [d1, d2] }
  | _ => none }
def InkSpreadsWrongFalsely : Prop := inkSpreadsRow.holds Tryd.pinned (OpenSpec.ofChange inkSpreadsWrong)

/-- 'bedlaw1.LevelsMatch': WHATEVER THE INPUT: true; the input reads as it did. -/
def levelsMatchSpec : ChangeSpec := { name := "levelsMatch", fn := fun _ => fun
  | [d] => { results := [.lit (.bool true)], args := [d] }
  | _ => none }
def levelsMatchRow : OpenClaim := { program := "ytfebnhmnkgnofaadoor", sum := "f7b383d8a97d3e6a67fe50d25832b40a906c598899b70c7d2c8241ad692cf38d", func := "flatbed/bedlaw1.LevelsMatch", spec := "levelsMatch", inPlace := ["internal/bytealg.IndexByteString", "internal/bytealg.IndexString"], unfollowed := true, recurses := true, named := ["unicode/utf8.first", "unicode/utf8.acceptRanges", "internal/bytealg.MaxLen"], plainKeys := false, apart := false, laid := [("unicode/utf8.acceptRanges", laid_unicode_utf8_acceptRanges), ("unicode/utf8.first", laid_unicode_utf8_first)] }
def LevelsMatchSaid : Prop := levelsMatchRow.holds Tryd.pinned (OpenSpec.ofChange levelsMatchSpec)

/-- ITS FALSE NEIGHBOUR: 'it returns false'. Refute it at one input. -/
def levelsMatchWrong : ChangeSpec := { name := "levelsMatch", fn := fun _ => fun
  | [d] => { results := [.lit (.bool false)], args := [d] }
  | _ => none }
def LevelsMatchWrongFalsely : Prop := levelsMatchRow.holds Tryd.pinned (OpenSpec.ofChange levelsMatchWrong)

/-- 'bedlaw1.StrokesMatch': WHATEVER THE INPUT: true; the input reads as it did. -/
def strokesMatchSpec : ChangeSpec := { name := "strokesMatch", fn := fun _ => fun
  | [d1, d2] => { results := [.lit (.bool true)], args := [d1, d2] }
  | _ => none }
def strokesMatchRow : OpenClaim := { program := "ytfebnhmnkgnofaadoor", sum := "f7b383d8a97d3e6a67fe50d25832b40a906c598899b70c7d2c8241ad692cf38d", func := "flatbed/bedlaw1.StrokesMatch", spec := "strokesMatch", inPlace := ["internal/bytealg.IndexByteString", "internal/bytealg.IndexString"], unfollowed := true, recurses := true, named := ["unicode/utf8.first", "unicode/utf8.acceptRanges", "internal/bytealg.MaxLen"], plainKeys := false, apart := false, laid := [("unicode/utf8.acceptRanges", laid_unicode_utf8_acceptRanges), ("unicode/utf8.first", laid_unicode_utf8_first)] }
def StrokesMatchSaid : Prop := strokesMatchRow.holds Tryd.pinned (OpenSpec.ofChange strokesMatchSpec)

/-- ITS FALSE NEIGHBOUR: 'it returns false'. Refute it at one input. -/
def strokesMatchWrong : ChangeSpec := { name := "strokesMatch", fn := fun _ => fun
  | [d1, d2] => { results := [.lit (.bool false)], args := [d1, d2] }
  | _ => none }
def StrokesMatchWrongFalsely : Prop := strokesMatchRow.holds Tryd.pinned (OpenSpec.ofChange strokesMatchWrong)

/-- 'bedlaw1.PagesCheck': WHATEVER THE INPUT: true; the input reads as it did. -/
def pagesCheckSpec : ChangeSpec := { name := "pagesCheck", fn := fun _ => fun
  | [d1, d2] => { results := [.lit (.bool true)], args := [d1, d2] }
  | _ => none }
def pagesCheckRow : OpenClaim := { program := "ytfebnhmnkgnofaadoor", sum := "f7b383d8a97d3e6a67fe50d25832b40a906c598899b70c7d2c8241ad692cf38d", func := "flatbed/bedlaw1.PagesCheck", spec := "pagesCheck", inPlace := ["internal/bytealg.IndexByteString", "internal/bytealg.IndexString"], unfollowed := true, recurses := true, named := ["unicode/utf8.first", "unicode/utf8.acceptRanges", "internal/bytealg.MaxLen"], plainKeys := false, apart := false, laid := [("unicode/utf8.acceptRanges", laid_unicode_utf8_acceptRanges), ("unicode/utf8.first", laid_unicode_utf8_first)] }
def PagesCheckSaid : Prop := pagesCheckRow.holds Tryd.pinned (OpenSpec.ofChange pagesCheckSpec)

/-- ITS FALSE NEIGHBOUR: 'it returns false'. Refute it at one input. -/
def pagesCheckWrong : ChangeSpec := { name := "pagesCheck", fn := fun _ => fun
  | [d1, d2] => { results := [.lit (.bool false)], args := [d1, d2] }
  | _ => none }
def PagesCheckWrongFalsely : Prop := pagesCheckRow.holds Tryd.pinned (OpenSpec.ofChange pagesCheckWrong)

/-- 'bedlaw1.GreysMatch': WHATEVER THE INPUT: true; the input reads as it did. -/
def greysMatchSpec : ChangeSpec := { name := "greysMatch", fn := fun _ => fun
  | [d1, d2, d3, d4, d5] => { results := [.lit (.bool true)], args := [d1, d2, d3, d4, d5] }
  | _ => none }
def greysMatchRow : OpenClaim := { program := "ytfebnhmnkgnofaadoor", sum := "f7b383d8a97d3e6a67fe50d25832b40a906c598899b70c7d2c8241ad692cf38d", func := "flatbed/bedlaw1.GreysMatch", spec := "greysMatch", inPlace := ["internal/bytealg.IndexByteString", "internal/bytealg.IndexString"], unfollowed := true, recurses := true, named := ["unicode/utf8.first", "unicode/utf8.acceptRanges", "internal/bytealg.MaxLen"], plainKeys := false, apart := false, laid := [("unicode/utf8.acceptRanges", laid_unicode_utf8_acceptRanges), ("unicode/utf8.first", laid_unicode_utf8_first)] }
def GreysMatchSaid : Prop := greysMatchRow.holds Tryd.pinned (OpenSpec.ofChange greysMatchSpec)

/-- ITS FALSE NEIGHBOUR: 'it returns false'. Refute it at one input. -/
def greysMatchWrong : ChangeSpec := { name := "greysMatch", fn := fun _ => fun
  | [d1, d2, d3, d4, d5] => { results := [.lit (.bool false)], args := [d1, d2, d3, d4, d5] }
  | _ => none }
def GreysMatchWrongFalsely : Prop := greysMatchRow.holds Tryd.pinned (OpenSpec.ofChange greysMatchWrong)

/-- 'bedlaw1.PiecesGo': WHATEVER THE INPUT: true; the input reads as it did. -/
def piecesGoSpec : ChangeSpec := { name := "piecesGo", fn := fun _ => fun
  | [d1, d2] => { results := [.lit (.bool true)], args := [d1, d2] }
  | _ => none }
def piecesGoRow : OpenClaim := { program := "ytfebnhmnkgnofaadoor", sum := "f7b383d8a97d3e6a67fe50d25832b40a906c598899b70c7d2c8241ad692cf38d", func := "flatbed/bedlaw1.PiecesGo", spec := "piecesGo", inPlace := ["internal/bytealg.IndexByteString", "internal/bytealg.IndexString"], unfollowed := true, recurses := true, named := ["unicode/utf8.first", "unicode/utf8.acceptRanges", "internal/bytealg.MaxLen"], plainKeys := false, apart := false, laid := [("unicode/utf8.acceptRanges", laid_unicode_utf8_acceptRanges), ("unicode/utf8.first", laid_unicode_utf8_first)] }
def PiecesGoSaid : Prop := piecesGoRow.holds Tryd.pinned (OpenSpec.ofChange piecesGoSpec)

/-- ITS FALSE NEIGHBOUR: 'it returns false'. Refute it at one input. -/
def piecesGoWrong : ChangeSpec := { name := "piecesGo", fn := fun _ => fun
  | [d1, d2] => { results := [.lit (.bool false)], args := [d1, d2] }
  | _ => none }
def PiecesGoWrongFalsely : Prop := piecesGoRow.holds Tryd.pinned (OpenSpec.ofChange piecesGoWrong)

/- THE SECOND FORM. 'bulk': how many values and letters a reading holds, each counted each time it is reached (what is shared counts as often as it is met; a slice's spare places count too). A statement '..UptoSaid' is the law's where the arguments, and the package variables that the reading takes, are together of bulk at most 1048576: NARROWER than '..Said'. Prove '..Said' where nothing that the law and all that it calls make is longer than what came in: it says more and counts as full. Else prove '..UptoSaid'. A law counts once. -/
mutual
def uptoBulk {H : Type} : DataW H → Nat
  | .lit (.string bytes) => bytes.length + 1
  | .lit _ => 1
  | .nil => 1
  | .ptr d => uptoBulk d + 1
  | .slice elems spare => uptoBulkAll elems + uptoBulkAll spare + 1
  | .agg parts => uptoBulkAll parts + 1
  | .iface _ d => uptoBulk d + 1
  | .map entries => uptoBulkEntries entries + 1
  | .held _ => 1
def uptoBulkAll {H : Type} : List (DataW H) → Nat
  | [] => 0
  | d :: r => uptoBulk d + uptoBulkAll r
def uptoBulkEntries {H : Type} : List (Lit × DataW H) → Nat
  | [] => 0
  | x :: r => uptoBulkEntry x + uptoBulkEntries r
def uptoBulkEntry {H : Type} : Lit × DataW H → Nat
  | (.string bytes, d) => bytes.length + uptoBulk d + 1
  | (_, d) => uptoBulk d + 1
 end
def uptoSmall : (H : Type) → List (DataW H) → Bool := fun _ ds => decide (uptoBulkAll ds ≤ 1048576)
def OpenSpec.upto (s : _root_.Go.ChangeSpec) : _root_.Go.OpenSpec := { _root_.Go.OpenSpec.ofChange s with cond := some uptoSmall }

/-- 'bedlaw1.LocalsMatch', WHERE WHAT IT READS IS OF BULK AT MOST 1048576: true; the input reads as it did. -/
def localsMatchUptoRow : OpenClaim := { program := "ytfebnhmnkgnofaadoor", sum := "f7b383d8a97d3e6a67fe50d25832b40a906c598899b70c7d2c8241ad692cf38d", func := "flatbed/bedlaw1.LocalsMatch", spec := "localsMatch", inPlace := ["internal/bytealg.IndexByteString", "internal/bytealg.IndexString"], unfollowed := true, recurses := true, named := ["unicode/utf8.first", "unicode/utf8.acceptRanges", "internal/bytealg.MaxLen"], plainKeys := false, apart := false, laid := [("unicode/utf8.acceptRanges", laid_unicode_utf8_acceptRanges), ("unicode/utf8.first", laid_unicode_utf8_first)], narrowed := true }
def LocalsMatchUptoSaid : Prop := localsMatchUptoRow.holds Tryd.pinned (OpenSpec.upto localsMatchSpec)

/-- 'bedlaw1.InkSpreads', WHERE WHAT IT READS IS OF BULK AT MOST 1048576: true; the input reads as it did. -/
def inkSpreadsUptoRow : OpenClaim := { program := "ytfebnhmnkgnofaadoor", sum := "f7b383d8a97d3e6a67fe50d25832b40a906c598899b70c7d2c8241ad692cf38d", func := "flatbed/bedlaw1.InkSpreads", spec := "inkSpreads", inPlace := ["internal/bytealg.IndexByteString", "internal/bytealg.IndexString"], unfollowed := true, recurses := true, named := ["unicode/utf8.first", "unicode/utf8.acceptRanges", "internal/bytealg.MaxLen"], plainKeys := false, apart := false, laid := [("unicode/utf8.acceptRanges", laid_unicode_utf8_acceptRanges), ("unicode/utf8.first", laid_unicode_utf8_first)], narrowed := true }
def InkSpreadsUptoSaid : Prop := inkSpreadsUptoRow.holds Tryd.pinned (OpenSpec.upto inkSpreadsSpec)

/-- 'bedlaw1.LevelsMatch', WHERE WHAT IT READS IS OF BULK AT MOST 1048576: true; the input reads as it did. -/
def levelsMatchUptoRow : OpenClaim := { program := "ytfebnhmnkgnofaadoor", sum := "f7b383d8a97d3e6a67fe50d25832b40a906c598899b70c7d2c8241ad692cf38d", func := "flatbed/bedlaw1.LevelsMatch", spec := "levelsMatch", inPlace := ["internal/bytealg.IndexByteString", "internal/bytealg.IndexString"], unfollowed := true, recurses := true, named := ["unicode/utf8.first", "unicode/utf8.acceptRanges", "internal/bytealg.MaxLen"], plainKeys := false, apart := false, laid := [("unicode/utf8.acceptRanges", laid_unicode_utf8_acceptRanges), ("unicode/utf8.first", laid_unicode_utf8_first)], narrowed := true }
def LevelsMatchUptoSaid : Prop := levelsMatchUptoRow.holds Tryd.pinned (OpenSpec.upto levelsMatchSpec)

/-- 'bedlaw1.StrokesMatch', WHERE WHAT IT READS IS OF BULK AT MOST 1048576: true; the input reads as it did. -/
def strokesMatchUptoRow : OpenClaim := { program := "ytfebnhmnkgnofaadoor", sum := "f7b383d8a97d3e6a67fe50d25832b40a906c598899b70c7d2c8241ad692cf38d", func := "flatbed/bedlaw1.StrokesMatch", spec := "strokesMatch", inPlace := ["internal/bytealg.IndexByteString", "internal/bytealg.IndexString"], unfollowed := true, recurses := true, named := ["unicode/utf8.first", "unicode/utf8.acceptRanges", "internal/bytealg.MaxLen"], plainKeys := false, apart := false, laid := [("unicode/utf8.acceptRanges", laid_unicode_utf8_acceptRanges), ("unicode/utf8.first", laid_unicode_utf8_first)], narrowed := true }
def StrokesMatchUptoSaid : Prop := strokesMatchUptoRow.holds Tryd.pinned (OpenSpec.upto strokesMatchSpec)

/-- 'bedlaw1.PagesCheck', WHERE WHAT IT READS IS OF BULK AT MOST 1048576: true; the input reads as it did. -/
def pagesCheckUptoRow : OpenClaim := { program := "ytfebnhmnkgnofaadoor", sum := "f7b383d8a97d3e6a67fe50d25832b40a906c598899b70c7d2c8241ad692cf38d", func := "flatbed/bedlaw1.PagesCheck", spec := "pagesCheck", inPlace := ["internal/bytealg.IndexByteString", "internal/bytealg.IndexString"], unfollowed := true, recurses := true, named := ["unicode/utf8.first", "unicode/utf8.acceptRanges", "internal/bytealg.MaxLen"], plainKeys := false, apart := false, laid := [("unicode/utf8.acceptRanges", laid_unicode_utf8_acceptRanges), ("unicode/utf8.first", laid_unicode_utf8_first)], narrowed := true }
def PagesCheckUptoSaid : Prop := pagesCheckUptoRow.holds Tryd.pinned (OpenSpec.upto pagesCheckSpec)

/-- 'bedlaw1.GreysMatch', WHERE WHAT IT READS IS OF BULK AT MOST 1048576: true; the input reads as it did. -/
def greysMatchUptoRow : OpenClaim := { program := "ytfebnhmnkgnofaadoor", sum := "f7b383d8a97d3e6a67fe50d25832b40a906c598899b70c7d2c8241ad692cf38d", func := "flatbed/bedlaw1.GreysMatch", spec := "greysMatch", inPlace := ["internal/bytealg.IndexByteString", "internal/bytealg.IndexString"], unfollowed := true, recurses := true, named := ["unicode/utf8.first", "unicode/utf8.acceptRanges", "internal/bytealg.MaxLen"], plainKeys := false, apart := false, laid := [("unicode/utf8.acceptRanges", laid_unicode_utf8_acceptRanges), ("unicode/utf8.first", laid_unicode_utf8_first)], narrowed := true }
def GreysMatchUptoSaid : Prop := greysMatchUptoRow.holds Tryd.pinned (OpenSpec.upto greysMatchSpec)

/-- 'bedlaw1.PiecesGo', WHERE WHAT IT READS IS OF BULK AT MOST 1048576: true; the input reads as it did. -/
def piecesGoUptoRow : OpenClaim := { program := "ytfebnhmnkgnofaadoor", sum := "f7b383d8a97d3e6a67fe50d25832b40a906c598899b70c7d2c8241ad692cf38d", func := "flatbed/bedlaw1.PiecesGo", spec := "piecesGo", inPlace := ["internal/bytealg.IndexByteString", "internal/bytealg.IndexString"], unfollowed := true, recurses := true, named := ["unicode/utf8.first", "unicode/utf8.acceptRanges", "internal/bytealg.MaxLen"], plainKeys := false, apart := false, laid := [("unicode/utf8.acceptRanges", laid_unicode_utf8_acceptRanges), ("unicode/utf8.first", laid_unicode_utf8_first)], narrowed := true }
def PiecesGoUptoSaid : Prop := piecesGoUptoRow.holds Tryd.pinned (OpenSpec.upto piecesGoSpec)

end Rows
end Go.Proofs.YtfebnhmnkgnofaaDoor
