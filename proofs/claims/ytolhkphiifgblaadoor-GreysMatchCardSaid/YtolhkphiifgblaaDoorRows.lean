/-
  NARROWER THAN 'FOR EVERY INPUT', by the rows' own cells (each row's printed sentence says how): PiecesMatch: laid · BoxesMatch: laid · ParagraphsMatch: laid · GreysMatch: laid · PiecesGo: laid.
  DERIVED. THE GIVEN ROWS OF THIS SEAT. 5 by the template 'for every input the law returns true; each argument reads behind the call as it read before'; 0 by the template 'total and deterministic' (their statements: YtolhkphiifgblaaDoorTotals.lean).
  GIVEN WITH THE SEED: the statements are not yours to turn. If you find one false, say at which input.
  Laid BY PROGRAM, IN A SANDBOX (cutbox-rows.mjs): the forced cells as the released guide's own fill.sh prints them over the translation 4bd81f2815c505a9… (all of the seat's roots in one cut). By AI agents, Wed Nov 11 2026. No macro, syntax, notation, axiom, sorry.
-/
import Derived.Test.YtolhkphiifgblaaDoorChecked
import GoSem.PinnedTables
import GoSem.Claim
import GoSem.ClaimJoined
import GoSem.ClaimMapViews
import Derived.JoinedTies
import Derived.KernelRfl
namespace Go.Proofs.YtolhkphiifgblaaDoor
/- THE CELL 'sum', in the pinned program and in every row, IS THE sha256 OF THE DUMP (.gsa) THAT YtolhkphiifgblaaDoorProg.lean LOADS. Nothing in Lean hashes anything: it is a label: what it is worth is what the hold of that sum in a sandbox is worth. -/
noncomputable def Tryd.pinned : Pinned := { name := "ytolhkphiifgblaadoor", sum := "4bd81f2815c505a9262f3bb92daec35328cb77494d387a593f8ff3c7856f4026", checked := Tryd.checked }
namespace Rows
def none {H : Type} : Left H := { results := [], args := [] }

/- WHAT THE LISTED PACKAGE-LEVEL VARIABLES READ AS WHEN THE CALL BEGINS. Each datum BY PROGRAM (the guide's laid-datum.mjs) off the statement by which the dump's own 'gosem.cut.vars' lays the variable. In a bare row this is a premise. The card (YtolhkphiifgblaaDoorCards.lean) ties it to the program's text. -/
def laid_unicode_utf8_acceptRanges {H : Type} : DataW H := .agg [.agg [.lit (.int .u8 128), .lit (.int .u8 191)], .agg [.lit (.int .u8 160), .lit (.int .u8 191)], .agg [.lit (.int .u8 128), .lit (.int .u8 159)], .agg [.lit (.int .u8 144), .lit (.int .u8 191)], .agg [.lit (.int .u8 128), .lit (.int .u8 143)], .agg [.lit (.int .u8 0), .lit (.int .u8 0)], .agg [.lit (.int .u8 0), .lit (.int .u8 0)], .agg [.lit (.int .u8 0), .lit (.int .u8 0)], .agg [.lit (.int .u8 0), .lit (.int .u8 0)], .agg [.lit (.int .u8 0), .lit (.int .u8 0)], .agg [.lit (.int .u8 0), .lit (.int .u8 0)], .agg [.lit (.int .u8 0), .lit (.int .u8 0)], .agg [.lit (.int .u8 0), .lit (.int .u8 0)], .agg [.lit (.int .u8 0), .lit (.int .u8 0)], .agg [.lit (.int .u8 0), .lit (.int .u8 0)], .agg [.lit (.int .u8 0), .lit (.int .u8 0)]]
/-- One of Go's own tables, pinned by name: the form's constant. -/
def laid_unicode_utf8_first : DataW Unit := Go.Pinned.utf8First

/-- 'bedlaw1.PiecesMatch': WHATEVER THE INPUT: true; the input reads as it did. -/
def piecesMatchSpec : ChangeSpec := { name := "piecesMatch", fn := fun _ => fun
  | [d] => { results := [.lit (.bool true)], args := [d] }
  | _ => none }
def piecesMatchRow : OpenClaim := { program := "ytolhkphiifgblaadoor", sum := "4bd81f2815c505a9262f3bb92daec35328cb77494d387a593f8ff3c7856f4026", func := "flatbed/bedlaw1.PiecesMatch", spec := "piecesMatch", inPlace := ["internal/bytealg.IndexByteString", "internal/bytealg.IndexString"], unfollowed := true, recurses := true, named := ["unicode/utf8.first", "unicode/utf8.acceptRanges", "internal/bytealg.MaxLen"], plainKeys := false, apart := false, laid := [("unicode/utf8.acceptRanges", laid_unicode_utf8_acceptRanges), ("unicode/utf8.first", laid_unicode_utf8_first)] }
def PiecesMatchSaid : Prop := piecesMatchRow.holds Tryd.pinned (OpenSpec.ofChange piecesMatchSpec)

/-- ITS FALSE NEIGHBOUR: 'it returns false'. Refute it at one input. -/
def piecesMatchWrong : ChangeSpec := { name := "piecesMatch", fn := fun _ => fun
  | [d] => { results := [.lit (.bool false)], args := [d] }
  | _ => none }
def PiecesMatchWrongFalsely : Prop := piecesMatchRow.holds Tryd.pinned (OpenSpec.ofChange piecesMatchWrong)

/-- 'bedlaw1.BoxesMatch': WHATEVER THE INPUT: true; the input reads as it did. -/
def boxesMatchSpec : ChangeSpec := { name := "boxesMatch", fn := fun _ => fun
  | [d1, d2, d3] => { results := [.lit (.bool true)], args := [d1, d2, d3] }
  | _ => none }
def boxesMatchRow : OpenClaim := { program := "ytolhkphiifgblaadoor", sum := "4bd81f2815c505a9262f3bb92daec35328cb77494d387a593f8ff3c7856f4026", func := "flatbed/bedlaw1.BoxesMatch", spec := "boxesMatch", inPlace := ["internal/bytealg.IndexByteString", "internal/bytealg.IndexString"], unfollowed := true, recurses := true, named := ["unicode/utf8.first", "unicode/utf8.acceptRanges", "internal/bytealg.MaxLen"], plainKeys := false, apart := false, laid := [("unicode/utf8.acceptRanges", laid_unicode_utf8_acceptRanges), ("unicode/utf8.first", laid_unicode_utf8_first)] }
def BoxesMatchSaid : Prop := boxesMatchRow.holds Tryd.pinned (OpenSpec.ofChange boxesMatchSpec)

/-- ITS FALSE NEIGHBOUR: 'it returns false'. Refute it at one input. -/
def boxesMatchWrong : ChangeSpec := { name := "boxesMatch", fn := fun _ => fun
  | [d1, d2, d3] => { results := [.lit (.bool false)], args := [d1, d2, d3] }
  | _ => none }
def BoxesMatchWrongFalsely : Prop := boxesMatchRow.holds Tryd.pinned (OpenSpec.ofChange boxesMatchWrong)

/-- 'bedlaw1.ParagraphsMatch': WHATEVER THE INPUT: true; the input reads as it did. -/
def paragraphsMatchSpec : ChangeSpec := { name := "paragraphsMatch", fn := fun _ => fun
  | [d1, d2, d3] => { results := [.lit (.bool true)], args := [d1, d2, d3] }
  | _ => none }
def paragraphsMatchRow : OpenClaim := { program := "ytolhkphiifgblaadoor", sum := "4bd81f2815c505a9262f3bb92daec35328cb77494d387a593f8ff3c7856f4026", func := "flatbed/bedlaw1.ParagraphsMatch", spec := "paragraphsMatch", inPlace := ["internal/bytealg.IndexByteString", "internal/bytealg.IndexString"], unfollowed := true, recurses := true, named := ["unicode/utf8.first", "unicode/utf8.acceptRanges", "internal/bytealg.MaxLen"], plainKeys := false, apart := false, laid := [("unicode/utf8.acceptRanges", laid_unicode_utf8_acceptRanges), ("unicode/utf8.first", laid_unicode_utf8_first)] }
def ParagraphsMatchSaid : Prop := paragraphsMatchRow.holds Tryd.pinned (OpenSpec.ofChange paragraphsMatchSpec)

/-- ITS FALSE NEIGHBOUR: 'it returns false'. Refute it at one input. -/
def paragraphsMatchWrong : ChangeSpec := { name := "paragraphsMatch", fn := fun _ => fun
  | [d1, d2, d3] => { results := [.lit (.bool false)], args := [d1, d2, d3] }
  | _ => none }
def ParagraphsMatchWrongFalsely : Prop := paragraphsMatchRow.holds Tryd.pinned (OpenSpec.ofChange paragraphsMatchWrong)

/-- 'bedlaw1.GreysMatch': WHATEVER THE INPUT: true; the input reads as it did. -/
def greysMatchSpec : ChangeSpec := { name := "greysMatch", fn := fun _ => fun
  | [d1, d2, d3, d4, d5] => { results := [.lit (.bool true)], args := [d1, d2, d3, d4, d5] }
  | _ => none }
def greysMatchRow : OpenClaim := { program := "ytolhkphiifgblaadoor", sum := "4bd81f2815c505a9262f3bb92daec35328cb77494d387a593f8ff3c7856f4026", func := "flatbed/bedlaw1.GreysMatch", spec := "greysMatch", inPlace := ["internal/bytealg.IndexByteString", "internal/bytealg.IndexString"], unfollowed := true, recurses := true, named := ["unicode/utf8.first", "unicode/utf8.acceptRanges", "internal/bytealg.MaxLen"], plainKeys := false, apart := false, laid := [("unicode/utf8.acceptRanges", laid_unicode_utf8_acceptRanges), ("unicode/utf8.first", laid_unicode_utf8_first)] }
def GreysMatchSaid : Prop := greysMatchRow.holds Tryd.pinned (OpenSpec.ofChange greysMatchSpec)

/-- ITS FALSE NEIGHBOUR: 'it returns false'. Refute it at one input. -/
def greysMatchWrong : ChangeSpec := { name := "greysMatch", fn := fun _ => fun
  | [d1, d2, d3, d4, d5] => { results := [.lit (.bool false)], args := [d1, d2, d3, d4, d5] }
  | _ => none }
def GreysMatchWrongFalsely : Prop := greysMatchRow.holds Tryd.pinned (OpenSpec.ofChange greysMatchWrong)

/-- 'bedlaw1.PiecesGo': WHATEVER THE INPUT: true; the input reads as it did. -/
def piecesGoSpec : ChangeSpec := { name := "piecesGo", fn := fun _ => fun
  | [d1, d2] => { results := [.lit (.bool true)], args := [d1, d2] }
  | _ => none }
def piecesGoRow : OpenClaim := { program := "ytolhkphiifgblaadoor", sum := "4bd81f2815c505a9262f3bb92daec35328cb77494d387a593f8ff3c7856f4026", func := "flatbed/bedlaw1.PiecesGo", spec := "piecesGo", inPlace := ["internal/bytealg.IndexByteString", "internal/bytealg.IndexString"], unfollowed := true, recurses := true, named := ["unicode/utf8.first", "unicode/utf8.acceptRanges", "internal/bytealg.MaxLen"], plainKeys := false, apart := false, laid := [("unicode/utf8.acceptRanges", laid_unicode_utf8_acceptRanges), ("unicode/utf8.first", laid_unicode_utf8_first)] }
def PiecesGoSaid : Prop := piecesGoRow.holds Tryd.pinned (OpenSpec.ofChange piecesGoSpec)

/-- ITS FALSE NEIGHBOUR: 'it returns false'. Refute it at one input. -/
def piecesGoWrong : ChangeSpec := { name := "piecesGo", fn := fun _ => fun
  | [d1, d2] => { results := [.lit (.bool false)], args := [d1, d2] }
  | _ => none }
def PiecesGoWrongFalsely : Prop := piecesGoRow.holds Tryd.pinned (OpenSpec.ofChange piecesGoWrong)

/- THE SECOND FORM. 'bulk': how many values and letters a reading holds, each counted each time it is reached (what is shared counts as often as it is met; a slice's spare places count too). A statement '..UptoSaid' is the law's where the arguments, and the package variables that the reading takes, are together of bulk at most 1048576: NARROWER than '..Said'. Prove '..Said' where nothing that the law and all that it calls make is longer than what came in: it says more and counts as full. Else prove '..UptoSaid'. A law counts once. -/
mutual
def uptoBulk {H : Type} : DataW H → Nat
  | .lit (.string bytes) => bytes.length + 1
  | .lit _ => 1
  | .nil => 1
  | .ptr d => uptoBulk d + 1
  | .slice elems spare => uptoBulkAll elems + uptoBulkAll spare + 1
  | .agg parts => uptoBulkAll parts + 1
  | .iface _ d => uptoBulk d + 1
  | .map entries => uptoBulkEntries entries + 1
  | .held _ => 1
def uptoBulkAll {H : Type} : List (DataW H) → Nat
  | [] => 0
  | d :: r => uptoBulk d + uptoBulkAll r
def uptoBulkEntries {H : Type} : List (Lit × DataW H) → Nat
  | [] => 0
  | x :: r => uptoBulkEntry x + uptoBulkEntries r
def uptoBulkEntry {H : Type} : Lit × DataW H → Nat
  | (.string bytes, d) => bytes.length + uptoBulk d + 1
  | (_, d) => uptoBulk d + 1
 end
def uptoSmall : (H : Type) → List (DataW H) → Bool := fun _ ds => decide (uptoBulkAll ds ≤ 1048576)
def OpenSpec.upto (s : _root_.Go.ChangeSpec) : _root_.Go.OpenSpec := { _root_.Go.OpenSpec.ofChange s with cond := some uptoSmall }

/-- 'bedlaw1.PiecesMatch', WHERE WHAT IT READS IS OF BULK AT MOST 1048576: true; the input reads as it did. -/
def piecesMatchUptoRow : OpenClaim := { program := "ytolhkphiifgblaadoor", sum := "4bd81f2815c505a9262f3bb92daec35328cb77494d387a593f8ff3c7856f4026", func := "flatbed/bedlaw1.PiecesMatch", spec := "piecesMatch", inPlace := ["internal/bytealg.IndexByteString", "internal/bytealg.IndexString"], unfollowed := true, recurses := true, named := ["unicode/utf8.first", "unicode/utf8.acceptRanges", "internal/bytealg.MaxLen"], plainKeys := false, apart := false, laid := [("unicode/utf8.acceptRanges", laid_unicode_utf8_acceptRanges), ("unicode/utf8.first", laid_unicode_utf8_first)], narrowed := true }
def PiecesMatchUptoSaid : Prop := piecesMatchUptoRow.holds Tryd.pinned (OpenSpec.upto piecesMatchSpec)

/-- 'bedlaw1.BoxesMatch', WHERE WHAT IT READS IS OF BULK AT MOST 1048576: true; the input reads as it did. -/
def boxesMatchUptoRow : OpenClaim := { program := "ytolhkphiifgblaadoor", sum := "4bd81f2815c505a9262f3bb92daec35328cb77494d387a593f8ff3c7856f4026", func := "flatbed/bedlaw1.BoxesMatch", spec := "boxesMatch", inPlace := ["internal/bytealg.IndexByteString", "internal/bytealg.IndexString"], unfollowed := true, recurses := true, named := ["unicode/utf8.first", "unicode/utf8.acceptRanges", "internal/bytealg.MaxLen"], plainKeys := false, apart := false, laid := [("unicode/utf8.acceptRanges", laid_unicode_utf8_acceptRanges), ("unicode/utf8.first", laid_unicode_utf8_first)], narrowed := true }
def BoxesMatchUptoSaid : Prop := boxesMatchUptoRow.holds Tryd.pinned (OpenSpec.upto boxesMatchSpec)

/-- 'bedlaw1.ParagraphsMatch', WHERE WHAT IT READS IS OF BULK AT MOST 1048576: true; the input reads as it did. -/
def paragraphsMatchUptoRow : OpenClaim := { program := "ytolhkphiifgblaadoor", sum := "4bd81f2815c505a9262f3bb92daec35328cb77494d387a593f8ff3c7856f4026", func := "flatbed/bedlaw1.ParagraphsMatch", spec := "paragraphsMatch", inPlace := ["internal/bytealg.IndexByteString", "internal/bytealg.IndexString"], unfollowed := true, recurses := true, named := ["unicode/utf8.first", "unicode/utf8.acceptRanges", "internal/bytealg.MaxLen"], plainKeys := false, apart := false, laid := [("unicode/utf8.acceptRanges", laid_unicode_utf8_acceptRanges), ("unicode/utf8.first", laid_unicode_utf8_first)], narrowed := true }
def ParagraphsMatchUptoSaid : Prop := paragraphsMatchUptoRow.holds Tryd.pinned (OpenSpec.upto paragraphsMatchSpec)

/-- 'bedlaw1.GreysMatch', WHERE WHAT IT READS IS OF BULK AT MOST 1048576: true; the input reads as it did. -/
def greysMatchUptoRow : OpenClaim := { program := "ytolhkphiifgblaadoor", sum := "4bd81f2815c505a9262f3bb92daec35328cb77494d387a593f8ff3c7856f4026", func := "flatbed/bedlaw1.GreysMatch", spec := "greysMatch", inPlace := ["internal/bytealg.IndexByteString", "internal/bytealg.IndexString"], unfollowed := true, recurses := true, named := ["unicode/utf8.first", "unicode/utf8.acceptRanges", "internal/bytealg.MaxLen"], plainKeys := false, apart := false, laid := [("unicode/utf8.acceptRanges", laid_unicode_utf8_acceptRanges), ("unicode/utf8.first", laid_unicode_utf8_first)], narrowed := true }
def GreysMatchUptoSaid : Prop := greysMatchUptoRow.holds Tryd.pinned (OpenSpec.upto greysMatchSpec)

/-- 'bedlaw1.PiecesGo', WHERE WHAT IT READS IS OF BULK AT MOST 1048576: true; the input reads as it did. -/
def piecesGoUptoRow : OpenClaim := { program := "ytolhkphiifgblaadoor", sum := "4bd81f2815c505a9262f3bb92daec35328cb77494d387a593f8ff3c7856f4026", func := "flatbed/bedlaw1.PiecesGo", spec := "piecesGo", inPlace := ["internal/bytealg.IndexByteString", "internal/bytealg.IndexString"], unfollowed := true, recurses := true, named := ["unicode/utf8.first", "unicode/utf8.acceptRanges", "internal/bytealg.MaxLen"], plainKeys := false, apart := false, laid := [("unicode/utf8.acceptRanges", laid_unicode_utf8_acceptRanges), ("unicode/utf8.first", laid_unicode_utf8_first)], narrowed := true }
def PiecesGoUptoSaid : Prop := piecesGoUptoRow.holds Tryd.pinned (OpenSpec.upto piecesGoSpec)

end Rows
end Go.Proofs.YtolhkphiifgblaaDoor
