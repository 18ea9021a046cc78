/-
  NARROWER THAN 'FOR EVERY INPUT', by the rows' own cells (each row's printed sentence says how): SheetsCollate: laid · BlanksMatch: laid · CopiesMatch: laid · DocumentsChange: laid · KindsMatch: laid · TitlesMatch: laid · RulesPrint: laid · FactsMatch: laid.
  DERIVED. THE GIVEN ROWS OF THIS SEAT. 8 by the template 'for every input the law returns true; each argument reads behind the call as it read before'; 0 by the template 'total and deterministic' (their statements: YtpnlkjeedfmhfaaDoorTotals.lean).
  GIVEN WITH THE SEED: the statements are not yours to turn. If you find one false, say at which input.
  Laid BY PROGRAM, IN A SANDBOX (cutbox-rows.mjs): the forced cells as the released guide's own fill.sh prints them over the translation 9e50cd4db6c92230… (all of the seat's roots in one cut). By AI agents, Wed Nov 11 2026. No macro, syntax, notation, axiom, sorry.
-/
import Derived.Test.YtpnlkjeedfmhfaaDoorChecked
import GoSem.PinnedTables
import GoSem.Claim
import GoSem.ClaimJoined
import GoSem.ClaimMapViews
import Derived.JoinedTies
import Derived.KernelRfl
namespace Go.Proofs.YtpnlkjeedfmhfaaDoor
/- THE CELL 'sum', in the pinned program and in every row, IS THE sha256 OF THE DUMP (.gsa) THAT YtpnlkjeedfmhfaaDoorProg.lean LOADS. Nothing in Lean hashes anything: it is a label: what it is worth is what the hold of that sum in a sandbox is worth. -/
noncomputable def Tryd.pinned : Pinned := { name := "ytpnlkjeedfmhfaadoor", sum := "9e50cd4db6c922305ac93d127be07ad8e3f226ea129eb47a209f03316574691e", checked := Tryd.checked }
namespace Rows
def none {H : Type} : Left H := { results := [], args := [] }

/- WHAT THE LISTED PACKAGE-LEVEL VARIABLES READ AS WHEN THE CALL BEGINS. Each datum BY PROGRAM (the guide's laid-datum.mjs) off the statement by which the dump's own 'gosem.cut.vars' lays the variable. In a bare row this is a premise. The card (YtpnlkjeedfmhfaaDoorCards.lean) ties it to the program's text. -/
def laid_unicode_utf8_acceptRanges {H : Type} : DataW H := .agg [.agg [.lit (.int .u8 128), .lit (.int .u8 191)], .agg [.lit (.int .u8 160), .lit (.int .u8 191)], .agg [.lit (.int .u8 128), .lit (.int .u8 159)], .agg [.lit (.int .u8 144), .lit (.int .u8 191)], .agg [.lit (.int .u8 128), .lit (.int .u8 143)], .agg [.lit (.int .u8 0), .lit (.int .u8 0)], .agg [.lit (.int .u8 0), .lit (.int .u8 0)], .agg [.lit (.int .u8 0), .lit (.int .u8 0)], .agg [.lit (.int .u8 0), .lit (.int .u8 0)], .agg [.lit (.int .u8 0), .lit (.int .u8 0)], .agg [.lit (.int .u8 0), .lit (.int .u8 0)], .agg [.lit (.int .u8 0), .lit (.int .u8 0)], .agg [.lit (.int .u8 0), .lit (.int .u8 0)], .agg [.lit (.int .u8 0), .lit (.int .u8 0)], .agg [.lit (.int .u8 0), .lit (.int .u8 0)], .agg [.lit (.int .u8 0), .lit (.int .u8 0)]]
/-- One of Go's own tables, pinned by name: the form's constant. -/
def laid_unicode_utf8_first : DataW Unit := Go.Pinned.utf8First
def laid_math_bits_deBruijn32tab {H : Type} : DataW H := .agg [.lit (.int .u8 0), .lit (.int .u8 1), .lit (.int .u8 28), .lit (.int .u8 2), .lit (.int .u8 29), .lit (.int .u8 14), .lit (.int .u8 24), .lit (.int .u8 3), .lit (.int .u8 30), .lit (.int .u8 22), .lit (.int .u8 20), .lit (.int .u8 15), .lit (.int .u8 25), .lit (.int .u8 17), .lit (.int .u8 4), .lit (.int .u8 8), .lit (.int .u8 31), .lit (.int .u8 27), .lit (.int .u8 13), .lit (.int .u8 23), .lit (.int .u8 21), .lit (.int .u8 19), .lit (.int .u8 16), .lit (.int .u8 7), .lit (.int .u8 26), .lit (.int .u8 12), .lit (.int .u8 18), .lit (.int .u8 6), .lit (.int .u8 11), .lit (.int .u8 5), .lit (.int .u8 10), .lit (.int .u8 9)]
def laid_math_bits_deBruijn64tab {H : Type} : DataW H := .agg [.lit (.int .u8 0), .lit (.int .u8 1), .lit (.int .u8 56), .lit (.int .u8 2), .lit (.int .u8 57), .lit (.int .u8 49), .lit (.int .u8 28), .lit (.int .u8 3), .lit (.int .u8 61), .lit (.int .u8 58), .lit (.int .u8 42), .lit (.int .u8 50), .lit (.int .u8 38), .lit (.int .u8 29), .lit (.int .u8 17), .lit (.int .u8 4), .lit (.int .u8 62), .lit (.int .u8 47), .lit (.int .u8 59), .lit (.int .u8 36), .lit (.int .u8 45), .lit (.int .u8 43), .lit (.int .u8 51), .lit (.int .u8 22), .lit (.int .u8 53), .lit (.int .u8 39), .lit (.int .u8 33), .lit (.int .u8 30), .lit (.int .u8 24), .lit (.int .u8 18), .lit (.int .u8 12), .lit (.int .u8 5), .lit (.int .u8 63), .lit (.int .u8 55), .lit (.int .u8 48), .lit (.int .u8 27), .lit (.int .u8 60), .lit (.int .u8 41), .lit (.int .u8 37), .lit (.int .u8 16), .lit (.int .u8 46), .lit (.int .u8 35), .lit (.int .u8 44), .lit (.int .u8 21), .lit (.int .u8 52), .lit (.int .u8 32), .lit (.int .u8 23), .lit (.int .u8 11), .lit (.int .u8 54), .lit (.int .u8 26), .lit (.int .u8 40), .lit (.int .u8 15), .lit (.int .u8 34), .lit (.int .u8 20), .lit (.int .u8 31), .lit (.int .u8 10), .lit (.int .u8 25), .lit (.int .u8 14), .lit (.int .u8 19), .lit (.int .u8 9), .lit (.int .u8 13), .lit (.int .u8 8), .lit (.int .u8 7), .lit (.int .u8 6)]
def laid_internal_strconv_uint64pow10 {H : Type} : DataW H := .agg [.lit (.int .u64 1), .lit (.int .u64 10), .lit (.int .u64 100), .lit (.int .u64 1000), .lit (.int .u64 10000), .lit (.int .u64 100000), .lit (.int .u64 1000000), .lit (.int .u64 10000000), .lit (.int .u64 100000000), .lit (.int .u64 1000000000), .lit (.int .u64 10000000000), .lit (.int .u64 100000000000), .lit (.int .u64 1000000000000), .lit (.int .u64 10000000000000), .lit (.int .u64 100000000000000), .lit (.int .u64 1000000000000000), .lit (.int .u64 10000000000000000), .lit (.int .u64 100000000000000000), .lit (.int .u64 1000000000000000000), .lit (.int .u64 10000000000000000000)]

/-- 'bedlaw1.SheetsCollate': WHATEVER THE INPUT: true; the input reads as it did. -/
def sheetsCollateSpec : ChangeSpec := { name := "sheetsCollate", fn := fun _ => fun
  | [d1, d2, d3] => { results := [.lit (.bool true)], args := [d1, d2, d3] }
  | _ => none }
def sheetsCollateRow : OpenClaim := { program := "ytpnlkjeedfmhfaadoor", sum := "9e50cd4db6c922305ac93d127be07ad8e3f226ea129eb47a209f03316574691e", func := "flatbed/bedlaw1.SheetsCollate", spec := "sheetsCollate", inPlace := ["internal/bytealg.IndexByteString", "internal/bytealg.IndexString"], unfollowed := true, recurses := true, named := ["unicode/utf8.first", "unicode/utf8.acceptRanges", "internal/bytealg.MaxLen"], apart := false, laid := [("unicode/utf8.acceptRanges", laid_unicode_utf8_acceptRanges), ("unicode/utf8.first", laid_unicode_utf8_first)] }
def SheetsCollateSaid : Prop := sheetsCollateRow.holds Tryd.pinned (OpenSpec.ofChange sheetsCollateSpec)

/-- ITS FALSE NEIGHBOUR: 'it returns false'. Refute it at one input. -/
def sheetsCollateWrong : ChangeSpec := { name := "sheetsCollate", fn := fun _ => fun
  | [d1, d2, d3] => { results := [.lit (.bool false)], args := [d1, d2, d3] }
  | _ => none }
def SheetsCollateWrongFalsely : Prop := sheetsCollateRow.holds Tryd.pinned (OpenSpec.ofChange sheetsCollateWrong)

/-- 'bedlaw1.BlanksMatch': WHATEVER THE INPUT: true; the input reads as it did. -/
def blanksMatchSpec : ChangeSpec := { name := "blanksMatch", fn := fun _ => fun
  | [d1, d2, d3, d4] => { results := [.lit (.bool true)], args := [d1, d2, d3, d4] }
  | _ => none }
def blanksMatchRow : OpenClaim := { program := "ytpnlkjeedfmhfaadoor", sum := "9e50cd4db6c922305ac93d127be07ad8e3f226ea129eb47a209f03316574691e", func := "flatbed/bedlaw1.BlanksMatch", spec := "blanksMatch", inPlace := ["internal/bytealg.IndexByteString", "internal/bytealg.IndexString"], unfollowed := true, recurses := true, named := ["unicode/utf8.first", "unicode/utf8.acceptRanges", "internal/bytealg.MaxLen"], apart := false, laid := [("unicode/utf8.acceptRanges", laid_unicode_utf8_acceptRanges), ("unicode/utf8.first", laid_unicode_utf8_first)] }
def BlanksMatchSaid : Prop := blanksMatchRow.holds Tryd.pinned (OpenSpec.ofChange blanksMatchSpec)

/-- ITS FALSE NEIGHBOUR: 'it returns false'. Refute it at one input. -/
def blanksMatchWrong : ChangeSpec := { name := "blanksMatch", fn := fun _ => fun
  | [d1, d2, d3, d4] => { results := [.lit (.bool false)], args := [d1, d2, d3, d4] }
  | _ => none }
def BlanksMatchWrongFalsely : Prop := blanksMatchRow.holds Tryd.pinned (OpenSpec.ofChange blanksMatchWrong)

/-- 'bedlaw1.CopiesMatch': WHATEVER THE INPUT: true; the input reads as it did. -/
def copiesMatchSpec : ChangeSpec := { name := "copiesMatch", fn := fun _ => fun
  | [d1, d2, d3] => { results := [.lit (.bool true)], args := [d1, d2, d3] }
  | _ => none }
def copiesMatchRow : OpenClaim := { program := "ytpnlkjeedfmhfaadoor", sum := "9e50cd4db6c922305ac93d127be07ad8e3f226ea129eb47a209f03316574691e", func := "flatbed/bedlaw1.CopiesMatch", spec := "copiesMatch", inPlace := ["internal/bytealg.IndexByteString", "internal/bytealg.IndexString", "internal/bytealg.CountString"], unfollowed := true, recurses := true, named := ["unicode/utf8.first", "unicode/utf8.acceptRanges", "internal/bytealg.MaxLen"], apart := false, laid := [("unicode/utf8.acceptRanges", laid_unicode_utf8_acceptRanges), ("unicode/utf8.first", laid_unicode_utf8_first)] }
def CopiesMatchSaid : Prop := copiesMatchRow.holds Tryd.pinned (OpenSpec.ofChange copiesMatchSpec)

/-- ITS FALSE NEIGHBOUR: 'it returns false'. Refute it at one input. -/
def copiesMatchWrong : ChangeSpec := { name := "copiesMatch", fn := fun _ => fun
  | [d1, d2, d3] => { results := [.lit (.bool false)], args := [d1, d2, d3] }
  | _ => none }
def CopiesMatchWrongFalsely : Prop := copiesMatchRow.holds Tryd.pinned (OpenSpec.ofChange copiesMatchWrong)

/-- 'bedlaw1.DocumentsChange': WHATEVER THE INPUT: true; the input reads as it did. -/
def documentsChangeSpec : ChangeSpec := { name := "documentsChange", fn := fun _ => fun
  | [d1, d2, d3, d4, d5] => { results := [.lit (.bool true)], args := [d1, d2, d3, d4, d5] }
  | _ => none }
def documentsChangeRow : OpenClaim := { program := "ytpnlkjeedfmhfaadoor", sum := "9e50cd4db6c922305ac93d127be07ad8e3f226ea129eb47a209f03316574691e", func := "flatbed/bedlaw1.DocumentsChange", spec := "documentsChange", inPlace := ["internal/bytealg.IndexByteString", "internal/bytealg.IndexString", "slices.overlaps[int]"], unfollowed := true, recurses := true, named := ["unicode/utf8.first", "unicode/utf8.acceptRanges", "internal/bytealg.MaxLen"], apart := false, laid := [("unicode/utf8.acceptRanges", laid_unicode_utf8_acceptRanges), ("unicode/utf8.first", laid_unicode_utf8_first)] }
def DocumentsChangeSaid : Prop := documentsChangeRow.holds Tryd.pinned (OpenSpec.ofChange documentsChangeSpec)

/-- ITS FALSE NEIGHBOUR: 'it returns false'. Refute it at one input. -/
def documentsChangeWrong : ChangeSpec := { name := "documentsChange", fn := fun _ => fun
  | [d1, d2, d3, d4, d5] => { results := [.lit (.bool false)], args := [d1, d2, d3, d4, d5] }
  | _ => none }
def DocumentsChangeWrongFalsely : Prop := documentsChangeRow.holds Tryd.pinned (OpenSpec.ofChange documentsChangeWrong)

/-- 'bedlaw1.KindsMatch': WHATEVER THE INPUT: true; the input reads as it did. -/
def kindsMatchSpec : ChangeSpec := { name := "kindsMatch", fn := fun _ => fun
  | [d1, d2, d3] => { results := [.lit (.bool true)], args := [d1, d2, d3] }
  | _ => none }
def kindsMatchRow : OpenClaim := { program := "ytpnlkjeedfmhfaadoor", sum := "9e50cd4db6c922305ac93d127be07ad8e3f226ea129eb47a209f03316574691e", func := "flatbed/bedlaw1.KindsMatch", spec := "kindsMatch", inPlace := ["internal/bytealg.IndexByteString", "internal/bytealg.IndexString"], unfollowed := true, recurses := true, named := ["unicode/utf8.first", "unicode/utf8.acceptRanges", "internal/bytealg.MaxLen"], apart := false, laid := [("unicode/utf8.acceptRanges", laid_unicode_utf8_acceptRanges), ("unicode/utf8.first", laid_unicode_utf8_first)] }
def KindsMatchSaid : Prop := kindsMatchRow.holds Tryd.pinned (OpenSpec.ofChange kindsMatchSpec)

/-- ITS FALSE NEIGHBOUR: 'it returns false'. Refute it at one input. -/
def kindsMatchWrong : ChangeSpec := { name := "kindsMatch", fn := fun _ => fun
  | [d1, d2, d3] => { results := [.lit (.bool false)], args := [d1, d2, d3] }
  | _ => none }
def KindsMatchWrongFalsely : Prop := kindsMatchRow.holds Tryd.pinned (OpenSpec.ofChange kindsMatchWrong)

/-- 'bedlaw1.TitlesMatch': WHATEVER THE INPUT: true; the input reads as it did. -/
def titlesMatchSpec : ChangeSpec := { name := "titlesMatch", fn := fun _ => fun
  | [d1, d2, d3] => { results := [.lit (.bool true)], args := [d1, d2, d3] }
  | _ => none }
def titlesMatchRow : OpenClaim := { program := "ytpnlkjeedfmhfaadoor", sum := "9e50cd4db6c922305ac93d127be07ad8e3f226ea129eb47a209f03316574691e", func := "flatbed/bedlaw1.TitlesMatch", spec := "titlesMatch", inPlace := ["internal/bytealg.IndexByteString", "internal/bytealg.IndexString"], unfollowed := true, recurses := true, named := ["unicode/utf8.first", "unicode/utf8.acceptRanges", "internal/strconv.uint64pow10", "math/bits.deBruijn32tab", "math/bits.deBruijn64tab", "internal/bytealg.MaxLen"], apart := false, laid := [("math/bits.deBruijn32tab", laid_math_bits_deBruijn32tab), ("math/bits.deBruijn64tab", laid_math_bits_deBruijn64tab), ("internal/strconv.uint64pow10", laid_internal_strconv_uint64pow10), ("unicode/utf8.acceptRanges", laid_unicode_utf8_acceptRanges), ("unicode/utf8.first", laid_unicode_utf8_first)] }
def TitlesMatchSaid : Prop := titlesMatchRow.holds Tryd.pinned (OpenSpec.ofChange titlesMatchSpec)

/-- ITS FALSE NEIGHBOUR: 'it returns false'. Refute it at one input. -/
def titlesMatchWrong : ChangeSpec := { name := "titlesMatch", fn := fun _ => fun
  | [d1, d2, d3] => { results := [.lit (.bool false)], args := [d1, d2, d3] }
  | _ => none }
def TitlesMatchWrongFalsely : Prop := titlesMatchRow.holds Tryd.pinned (OpenSpec.ofChange titlesMatchWrong)

/-- 'bedlaw1.RulesPrint': WHATEVER THE INPUT: true; the input reads as it did. -/
def rulesPrintSpec : ChangeSpec := { name := "rulesPrint", fn := fun _ => fun
  | [d1, d2] => { results := [.lit (.bool true)], args := [d1, d2] }
  | _ => none }
def rulesPrintRow : OpenClaim := { program := "ytpnlkjeedfmhfaadoor", sum := "9e50cd4db6c922305ac93d127be07ad8e3f226ea129eb47a209f03316574691e", func := "flatbed/bedlaw1.RulesPrint", spec := "rulesPrint", inPlace := ["internal/bytealg.IndexByteString", "internal/bytealg.IndexString", "internal/abi.NoEscape", "internal/bytealg.MakeNoZero", "internal/bytealg.CountString"], unfollowed := true, recurses := true, named := ["unicode/utf8.first", "unicode/utf8.acceptRanges", "internal/bytealg.MaxLen"], apart := false, laid := [("unicode/utf8.acceptRanges", laid_unicode_utf8_acceptRanges), ("unicode/utf8.first", laid_unicode_utf8_first)] }
def RulesPrintSaid : Prop := rulesPrintRow.holds Tryd.pinned (OpenSpec.ofChange rulesPrintSpec)

/-- ITS FALSE NEIGHBOUR: 'it returns false'. Refute it at one input. -/
def rulesPrintWrong : ChangeSpec := { name := "rulesPrint", fn := fun _ => fun
  | [d1, d2] => { results := [.lit (.bool false)], args := [d1, d2] }
  | _ => none }
def RulesPrintWrongFalsely : Prop := rulesPrintRow.holds Tryd.pinned (OpenSpec.ofChange rulesPrintWrong)

/-- 'bedlaw1.FactsMatch': WHATEVER THE INPUT: true; the input reads as it did. -/
def factsMatchSpec : ChangeSpec := { name := "factsMatch", fn := fun _ => fun
  | [d1, d2] => { results := [.lit (.bool true)], args := [d1, d2] }
  | _ => none }
def factsMatchRow : OpenClaim := { program := "ytpnlkjeedfmhfaadoor", sum := "9e50cd4db6c922305ac93d127be07ad8e3f226ea129eb47a209f03316574691e", func := "flatbed/bedlaw1.FactsMatch", spec := "factsMatch", inPlace := ["internal/bytealg.IndexByteString", "internal/bytealg.IndexString"], unfollowed := true, recurses := true, named := ["unicode/utf8.first", "unicode/utf8.acceptRanges", "internal/strconv.uint64pow10", "math/bits.deBruijn32tab", "math/bits.deBruijn64tab", "internal/bytealg.MaxLen"], apart := false, laid := [("math/bits.deBruijn32tab", laid_math_bits_deBruijn32tab), ("math/bits.deBruijn64tab", laid_math_bits_deBruijn64tab), ("internal/strconv.uint64pow10", laid_internal_strconv_uint64pow10), ("unicode/utf8.acceptRanges", laid_unicode_utf8_acceptRanges), ("unicode/utf8.first", laid_unicode_utf8_first)] }
def FactsMatchSaid : Prop := factsMatchRow.holds Tryd.pinned (OpenSpec.ofChange factsMatchSpec)

/-- ITS FALSE NEIGHBOUR: 'it returns false'. Refute it at one input. -/
def factsMatchWrong : ChangeSpec := { name := "factsMatch", fn := fun _ => fun
  | [d1, d2] => { results := [.lit (.bool false)], args := [d1, d2] }
  | _ => none }
def FactsMatchWrongFalsely : Prop := factsMatchRow.holds Tryd.pinned (OpenSpec.ofChange factsMatchWrong)

/- THE SECOND FORM. 'bulk': how many values and letters a reading holds, each counted each time it is reached (what is shared counts as often as it is met; a slice's spare places count too). A statement '..UptoSaid' is the law's where the arguments, and the package variables that the reading takes, are together of bulk at most 1048576: NARROWER than '..Said'. Prove '..Said' where nothing that the law and all that it calls make is longer than what came in: it says more and counts as full. Else prove '..UptoSaid'. A law counts once. -/
mutual
def uptoBulk {H : Type} : DataW H → Nat
  | .lit (.string bytes) => bytes.length + 1
  | .lit _ => 1
  | .nil => 1
  | .ptr d => uptoBulk d + 1
  | .slice elems spare => uptoBulkAll elems + uptoBulkAll spare + 1
  | .agg parts => uptoBulkAll parts + 1
  | .iface _ d => uptoBulk d + 1
  | .map entries => uptoBulkEntries entries + 1
  | .held _ => 1
def uptoBulkAll {H : Type} : List (DataW H) → Nat
  | [] => 0
  | d :: r => uptoBulk d + uptoBulkAll r
def uptoBulkEntries {H : Type} : List (Lit × DataW H) → Nat
  | [] => 0
  | x :: r => uptoBulkEntry x + uptoBulkEntries r
def uptoBulkEntry {H : Type} : Lit × DataW H → Nat
  | (.string bytes, d) => bytes.length + uptoBulk d + 1
  | (_, d) => uptoBulk d + 1
 end
def uptoSmall : (H : Type) → List (DataW H) → Bool := fun _ ds => decide (uptoBulkAll ds ≤ 1048576)
def OpenSpec.upto (s : _root_.Go.ChangeSpec) : _root_.Go.OpenSpec := { _root_.Go.OpenSpec.ofChange s with cond := some uptoSmall }

/-- 'bedlaw1.SheetsCollate', WHERE WHAT IT READS IS OF BULK AT MOST 1048576: true; the input reads as it did. -/
def sheetsCollateUptoRow : OpenClaim := { program := "ytpnlkjeedfmhfaadoor", sum := "9e50cd4db6c922305ac93d127be07ad8e3f226ea129eb47a209f03316574691e", func := "flatbed/bedlaw1.SheetsCollate", spec := "sheetsCollate", inPlace := ["internal/bytealg.IndexByteString", "internal/bytealg.IndexString"], unfollowed := true, recurses := true, named := ["unicode/utf8.first", "unicode/utf8.acceptRanges", "internal/bytealg.MaxLen"], apart := false, laid := [("unicode/utf8.acceptRanges", laid_unicode_utf8_acceptRanges), ("unicode/utf8.first", laid_unicode_utf8_first)], narrowed := true }
def SheetsCollateUptoSaid : Prop := sheetsCollateUptoRow.holds Tryd.pinned (OpenSpec.upto sheetsCollateSpec)

/-- 'bedlaw1.BlanksMatch', WHERE WHAT IT READS IS OF BULK AT MOST 1048576: true; the input reads as it did. -/
def blanksMatchUptoRow : OpenClaim := { program := "ytpnlkjeedfmhfaadoor", sum := "9e50cd4db6c922305ac93d127be07ad8e3f226ea129eb47a209f03316574691e", func := "flatbed/bedlaw1.BlanksMatch", spec := "blanksMatch", inPlace := ["internal/bytealg.IndexByteString", "internal/bytealg.IndexString"], unfollowed := true, recurses := true, named := ["unicode/utf8.first", "unicode/utf8.acceptRanges", "internal/bytealg.MaxLen"], apart := false, laid := [("unicode/utf8.acceptRanges", laid_unicode_utf8_acceptRanges), ("unicode/utf8.first", laid_unicode_utf8_first)], narrowed := true }
def BlanksMatchUptoSaid : Prop := blanksMatchUptoRow.holds Tryd.pinned (OpenSpec.upto blanksMatchSpec)

/-- 'bedlaw1.CopiesMatch', WHERE WHAT IT READS IS OF BULK AT MOST 1048576: true; the input reads as it did. -/
def copiesMatchUptoRow : OpenClaim := { program := "ytpnlkjeedfmhfaadoor", sum := "9e50cd4db6c922305ac93d127be07ad8e3f226ea129eb47a209f03316574691e", func := "flatbed/bedlaw1.CopiesMatch", spec := "copiesMatch", inPlace := ["internal/bytealg.IndexByteString", "internal/bytealg.IndexString", "internal/bytealg.CountString"], unfollowed := true, recurses := true, named := ["unicode/utf8.first", "unicode/utf8.acceptRanges", "internal/bytealg.MaxLen"], apart := false, laid := [("unicode/utf8.acceptRanges", laid_unicode_utf8_acceptRanges), ("unicode/utf8.first", laid_unicode_utf8_first)], narrowed := true }
def CopiesMatchUptoSaid : Prop := copiesMatchUptoRow.holds Tryd.pinned (OpenSpec.upto copiesMatchSpec)

/-- 'bedlaw1.DocumentsChange', WHERE WHAT IT READS IS OF BULK AT MOST 1048576: true; the input reads as it did. -/
def documentsChangeUptoRow : OpenClaim := { program := "ytpnlkjeedfmhfaadoor", sum := "9e50cd4db6c922305ac93d127be07ad8e3f226ea129eb47a209f03316574691e", func := "flatbed/bedlaw1.DocumentsChange", spec := "documentsChange", inPlace := ["internal/bytealg.IndexByteString", "internal/bytealg.IndexString", "slices.overlaps[int]"], unfollowed := true, recurses := true, named := ["unicode/utf8.first", "unicode/utf8.acceptRanges", "internal/bytealg.MaxLen"], apart := false, laid := [("unicode/utf8.acceptRanges", laid_unicode_utf8_acceptRanges), ("unicode/utf8.first", laid_unicode_utf8_first)], narrowed := true }
def DocumentsChangeUptoSaid : Prop := documentsChangeUptoRow.holds Tryd.pinned (OpenSpec.upto documentsChangeSpec)

/-- 'bedlaw1.KindsMatch', WHERE WHAT IT READS IS OF BULK AT MOST 1048576: true; the input reads as it did. -/
def kindsMatchUptoRow : OpenClaim := { program := "ytpnlkjeedfmhfaadoor", sum := "9e50cd4db6c922305ac93d127be07ad8e3f226ea129eb47a209f03316574691e", func := "flatbed/bedlaw1.KindsMatch", spec := "kindsMatch", inPlace := ["internal/bytealg.IndexByteString", "internal/bytealg.IndexString"], unfollowed := true, recurses := true, named := ["unicode/utf8.first", "unicode/utf8.acceptRanges", "internal/bytealg.MaxLen"], apart := false, laid := [("unicode/utf8.acceptRanges", laid_unicode_utf8_acceptRanges), ("unicode/utf8.first", laid_unicode_utf8_first)], narrowed := true }
def KindsMatchUptoSaid : Prop := kindsMatchUptoRow.holds Tryd.pinned (OpenSpec.upto kindsMatchSpec)

/-- 'bedlaw1.TitlesMatch', WHERE WHAT IT READS IS OF BULK AT MOST 1048576: true; the input reads as it did. -/
def titlesMatchUptoRow : OpenClaim := { program := "ytpnlkjeedfmhfaadoor", sum := "9e50cd4db6c922305ac93d127be07ad8e3f226ea129eb47a209f03316574691e", func := "flatbed/bedlaw1.TitlesMatch", spec := "titlesMatch", inPlace := ["internal/bytealg.IndexByteString", "internal/bytealg.IndexString"], unfollowed := true, recurses := true, named := ["unicode/utf8.first", "unicode/utf8.acceptRanges", "internal/strconv.uint64pow10", "math/bits.deBruijn32tab", "math/bits.deBruijn64tab", "internal/bytealg.MaxLen"], apart := false, laid := [("math/bits.deBruijn32tab", laid_math_bits_deBruijn32tab), ("math/bits.deBruijn64tab", laid_math_bits_deBruijn64tab), ("internal/strconv.uint64pow10", laid_internal_strconv_uint64pow10), ("unicode/utf8.acceptRanges", laid_unicode_utf8_acceptRanges), ("unicode/utf8.first", laid_unicode_utf8_first)], narrowed := true }
def TitlesMatchUptoSaid : Prop := titlesMatchUptoRow.holds Tryd.pinned (OpenSpec.upto titlesMatchSpec)

/-- 'bedlaw1.RulesPrint', WHERE WHAT IT READS IS OF BULK AT MOST 1048576: true; the input reads as it did. -/
def rulesPrintUptoRow : OpenClaim := { program := "ytpnlkjeedfmhfaadoor", sum := "9e50cd4db6c922305ac93d127be07ad8e3f226ea129eb47a209f03316574691e", func := "flatbed/bedlaw1.RulesPrint", spec := "rulesPrint", inPlace := ["internal/bytealg.IndexByteString", "internal/bytealg.IndexString", "internal/abi.NoEscape", "internal/bytealg.MakeNoZero", "internal/bytealg.CountString"], unfollowed := true, recurses := true, named := ["unicode/utf8.first", "unicode/utf8.acceptRanges", "internal/bytealg.MaxLen"], apart := false, laid := [("unicode/utf8.acceptRanges", laid_unicode_utf8_acceptRanges), ("unicode/utf8.first", laid_unicode_utf8_first)], narrowed := true }
def RulesPrintUptoSaid : Prop := rulesPrintUptoRow.holds Tryd.pinned (OpenSpec.upto rulesPrintSpec)

/-- 'bedlaw1.FactsMatch', WHERE WHAT IT READS IS OF BULK AT MOST 1048576: true; the input reads as it did. -/
def factsMatchUptoRow : OpenClaim := { program := "ytpnlkjeedfmhfaadoor", sum := "9e50cd4db6c922305ac93d127be07ad8e3f226ea129eb47a209f03316574691e", func := "flatbed/bedlaw1.FactsMatch", spec := "factsMatch", inPlace := ["internal/bytealg.IndexByteString", "internal/bytealg.IndexString"], unfollowed := true, recurses := true, named := ["unicode/utf8.first", "unicode/utf8.acceptRanges", "internal/strconv.uint64pow10", "math/bits.deBruijn32tab", "math/bits.deBruijn64tab", "internal/bytealg.MaxLen"], apart := false, laid := [("math/bits.deBruijn32tab", laid_math_bits_deBruijn32tab), ("math/bits.deBruijn64tab", laid_math_bits_deBruijn64tab), ("internal/strconv.uint64pow10", laid_internal_strconv_uint64pow10), ("unicode/utf8.acceptRanges", laid_unicode_utf8_acceptRanges), ("unicode/utf8.first", laid_unicode_utf8_first)], narrowed := true }
def FactsMatchUptoSaid : Prop := factsMatchUptoRow.holds Tryd.pinned (OpenSpec.upto factsMatchSpec)

end Rows
end Go.Proofs.YtpnlkjeedfmhfaaDoor
