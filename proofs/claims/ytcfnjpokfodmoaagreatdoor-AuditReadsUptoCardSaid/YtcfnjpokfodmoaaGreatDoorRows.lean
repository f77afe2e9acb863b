/-
  NARROWER THAN 'FOR EVERY INPUT', by the rows' own cells (each row's printed sentence says how): BoxBuilds: laid · BoxBack: laid · BoxTurned: laid · BoxParts: laid · AuditReads: laid · AuditAll: laid · AuditBack: laid · AuditBest: laid.
  DERIVED. THE GIVEN ROWS OF THIS SEAT. 8 by the template 'for every input the law returns true; each argument reads behind the call as it read before'; 0 by the template 'total and deterministic' (their statements: YtcfnjpokfodmoaaGreatDoorTotals.lean).
  GIVEN WITH THE SEED: the statements are not yours to turn. If you find one false, say at which input.
  Laid BY PROGRAM, IN A SANDBOX (cutbox-rows.mjs): the forced cells as the released guide's own fill.sh prints them over the translation f66ee9dcfec9c2bf… (all of the seat's roots in one cut). By AI agents, Wed Nov 11 2026. No macro, syntax, notation, axiom, sorry.
-/
import Derived.Test.YtcfnjpokfodmoaaGreatDoorChecked
import GoSem.PinnedTables
import GoSem.Claim
import GoSem.ClaimJoined
import GoSem.ClaimMapViews
import Derived.JoinedTies
import Derived.KernelRfl
namespace Go.Proofs.YtcfnjpokfodmoaaGreatDoor
/- THE CELL 'sum', in the pinned program and in every row, IS THE sha256 OF THE DUMP (.gsa) THAT YtcfnjpokfodmoaaGreatDoorProg.lean LOADS. Nothing in Lean hashes anything: it is a label: what it is worth is what the hold of that sum in a sandbox is worth. -/
noncomputable def Tryz.pinned : Pinned := { name := "ytcfnjpokfodmoaagreatdoor", sum := "f66ee9dcfec9c2bfd8d126cabfa91e4e30d9ea61f16a8a98ddbfb2cf7a6c72e1", checked := Tryz.checked }
namespace Rows
def none {H : Type} : Left H := { results := [], args := [] }

/- WHAT THE LISTED PACKAGE-LEVEL VARIABLES READ AS WHEN THE CALL BEGINS. Each datum BY PROGRAM (the guide's laid-datum.mjs) off the statement by which the dump's own 'gosem.cut.vars' lays the variable. In a bare row this is a premise. The card (YtcfnjpokfodmoaaGreatDoorCards.lean) ties it to the program's text. -/
def laid_errors_errorType {H : Type} : DataW H := .iface "internal/reflectlite.rtype" (.agg [.ptr (.lit (.string [101, 114, 114, 111, 114]))])
def laid_wringer_table_errShort {H : Type} : DataW H := .iface "*errors.errorString" (.ptr (.agg [.lit (.string [116, 104, 101, 32, 98, 105, 116, 115, 32, 101, 110, 100])]))
def laid_wringer_table_errCode {H : Type} : DataW H := .iface "*errors.errorString" (.ptr (.agg [.lit (.string [110, 111, 32, 116, 97, 98, 108, 101])]))
def laid_math_bits_deBruijn32tab {H : Type} : DataW H := .agg [.lit (.int .u8 0), .lit (.int .u8 1), .lit (.int .u8 28), .lit (.int .u8 2), .lit (.int .u8 29), .lit (.int .u8 14), .lit (.int .u8 24), .lit (.int .u8 3), .lit (.int .u8 30), .lit (.int .u8 22), .lit (.int .u8 20), .lit (.int .u8 15), .lit (.int .u8 25), .lit (.int .u8 17), .lit (.int .u8 4), .lit (.int .u8 8), .lit (.int .u8 31), .lit (.int .u8 27), .lit (.int .u8 13), .lit (.int .u8 23), .lit (.int .u8 21), .lit (.int .u8 19), .lit (.int .u8 16), .lit (.int .u8 7), .lit (.int .u8 26), .lit (.int .u8 12), .lit (.int .u8 18), .lit (.int .u8 6), .lit (.int .u8 11), .lit (.int .u8 5), .lit (.int .u8 10), .lit (.int .u8 9)]
def laid_math_bits_deBruijn64tab {H : Type} : DataW H := .agg [.lit (.int .u8 0), .lit (.int .u8 1), .lit (.int .u8 56), .lit (.int .u8 2), .lit (.int .u8 57), .lit (.int .u8 49), .lit (.int .u8 28), .lit (.int .u8 3), .lit (.int .u8 61), .lit (.int .u8 58), .lit (.int .u8 42), .lit (.int .u8 50), .lit (.int .u8 38), .lit (.int .u8 29), .lit (.int .u8 17), .lit (.int .u8 4), .lit (.int .u8 62), .lit (.int .u8 47), .lit (.int .u8 59), .lit (.int .u8 36), .lit (.int .u8 45), .lit (.int .u8 43), .lit (.int .u8 51), .lit (.int .u8 22), .lit (.int .u8 53), .lit (.int .u8 39), .lit (.int .u8 33), .lit (.int .u8 30), .lit (.int .u8 24), .lit (.int .u8 18), .lit (.int .u8 12), .lit (.int .u8 5), .lit (.int .u8 63), .lit (.int .u8 55), .lit (.int .u8 48), .lit (.int .u8 27), .lit (.int .u8 60), .lit (.int .u8 41), .lit (.int .u8 37), .lit (.int .u8 16), .lit (.int .u8 46), .lit (.int .u8 35), .lit (.int .u8 44), .lit (.int .u8 21), .lit (.int .u8 52), .lit (.int .u8 32), .lit (.int .u8 23), .lit (.int .u8 11), .lit (.int .u8 54), .lit (.int .u8 26), .lit (.int .u8 40), .lit (.int .u8 15), .lit (.int .u8 34), .lit (.int .u8 20), .lit (.int .u8 31), .lit (.int .u8 10), .lit (.int .u8 25), .lit (.int .u8 14), .lit (.int .u8 19), .lit (.int .u8 9), .lit (.int .u8 13), .lit (.int .u8 8), .lit (.int .u8 7), .lit (.int .u8 6)]
def laid_internal_strconv_uint64pow10 {H : Type} : DataW H := .agg [.lit (.int .u64 1), .lit (.int .u64 10), .lit (.int .u64 100), .lit (.int .u64 1000), .lit (.int .u64 10000), .lit (.int .u64 100000), .lit (.int .u64 1000000), .lit (.int .u64 10000000), .lit (.int .u64 100000000), .lit (.int .u64 1000000000), .lit (.int .u64 10000000000), .lit (.int .u64 100000000000), .lit (.int .u64 1000000000000), .lit (.int .u64 10000000000000), .lit (.int .u64 100000000000000), .lit (.int .u64 1000000000000000), .lit (.int .u64 10000000000000000), .lit (.int .u64 100000000000000000), .lit (.int .u64 1000000000000000000), .lit (.int .u64 10000000000000000000)]
def laid_unicode_utf8_acceptRanges {H : Type} : DataW H := .agg [.agg [.lit (.int .u8 128), .lit (.int .u8 191)], .agg [.lit (.int .u8 160), .lit (.int .u8 191)], .agg [.lit (.int .u8 128), .lit (.int .u8 159)], .agg [.lit (.int .u8 144), .lit (.int .u8 191)], .agg [.lit (.int .u8 128), .lit (.int .u8 143)], .agg [.lit (.int .u8 0), .lit (.int .u8 0)], .agg [.lit (.int .u8 0), .lit (.int .u8 0)], .agg [.lit (.int .u8 0), .lit (.int .u8 0)], .agg [.lit (.int .u8 0), .lit (.int .u8 0)], .agg [.lit (.int .u8 0), .lit (.int .u8 0)], .agg [.lit (.int .u8 0), .lit (.int .u8 0)], .agg [.lit (.int .u8 0), .lit (.int .u8 0)], .agg [.lit (.int .u8 0), .lit (.int .u8 0)], .agg [.lit (.int .u8 0), .lit (.int .u8 0)], .agg [.lit (.int .u8 0), .lit (.int .u8 0)], .agg [.lit (.int .u8 0), .lit (.int .u8 0)]]
def laid_strconv_ErrRange {H : Type} : DataW H := .iface "*errors.errorString" (.ptr (.agg [.lit (.string [118, 97, 108, 117, 101, 32, 111, 117, 116, 32, 111, 102, 32, 114, 97, 110, 103, 101])]))
def laid_strconv_ErrSyntax {H : Type} : DataW H := .iface "*errors.errorString" (.ptr (.agg [.lit (.string [105, 110, 118, 97, 108, 105, 100, 32, 115, 121, 110, 116, 97, 120])]))
/-- One of Go's own tables, pinned by name: the form's constant. -/
def laid_unicode_utf8_first : DataW Unit := Go.Pinned.utf8First

/-- 'wringerlaw24.BoxBuilds': WHATEVER THE INPUT: true; the input reads as it did. -/
def boxBuildsSpec : ChangeSpec := { name := "boxBuilds", fn := fun _ => fun
  | [d1, d2, d3] => { results := [.lit (.bool true)], args := [d1, d2, d3] }
  | _ => none }
def boxBuildsRow : OpenClaim := { program := "ytcfnjpokfodmoaagreatdoor", sum := "f66ee9dcfec9c2bfd8d126cabfa91e4e30d9ea61f16a8a98ddbfb2cf7a6c72e1", func := "wringer/wringerlaw24.BoxBuilds", spec := "boxBuilds", inPlace := ["internal/bytealg.IndexByte", "internal/abi.NoEscape", "internal/reflectlite.TypeOf", "internal/reflectlite.ValueOf", "(internal/reflectlite.Value).Type", "(internal/reflectlite.Value).IsNil", "(internal/reflectlite.Value).Elem", "(internal/reflectlite.Value).Set"], unfollowed := true, recurses := true, named := ["wringer/table.errShort", "wringer/table.errCode", "errors.errorType"], apart := false, laid := [("errors.errorType", laid_errors_errorType), ("wringer/table.errShort", laid_wringer_table_errShort), ("wringer/table.errCode", laid_wringer_table_errCode)] }
def BoxBuildsSaid : Prop := boxBuildsRow.holds Tryz.pinned (OpenSpec.ofChange boxBuildsSpec)

/-- ITS FALSE NEIGHBOUR: 'it returns false'. Refute it at one input. -/
def boxBuildsWrong : ChangeSpec := { name := "boxBuilds", fn := fun _ => fun
  | [d1, d2, d3] => { results := [.lit (.bool false)], args := [d1, d2, d3] }
  | _ => none }
def BoxBuildsWrongFalsely : Prop := boxBuildsRow.holds Tryz.pinned (OpenSpec.ofChange boxBuildsWrong)

/-- 'wringerlaw24.BoxBack': WHATEVER THE INPUT: true; the input reads as it did. -/
def boxBackSpec : ChangeSpec := { name := "boxBack", fn := fun _ => fun
  | [d1, d2] => { results := [.lit (.bool true)], args := [d1, d2] }
  | _ => none }
def boxBackRow : OpenClaim := { program := "ytcfnjpokfodmoaagreatdoor", sum := "f66ee9dcfec9c2bfd8d126cabfa91e4e30d9ea61f16a8a98ddbfb2cf7a6c72e1", func := "wringer/wringerlaw24.BoxBack", spec := "boxBack", inPlace := ["internal/bytealg.IndexByte", "internal/abi.NoEscape", "internal/reflectlite.TypeOf", "internal/reflectlite.ValueOf", "(internal/reflectlite.Value).Type", "(internal/reflectlite.Value).IsNil", "(internal/reflectlite.Value).Elem", "(internal/reflectlite.Value).Set"], unfollowed := true, recurses := true, named := ["wringer/table.errShort", "wringer/table.errCode", "errors.errorType"], apart := false, laid := [("errors.errorType", laid_errors_errorType), ("wringer/table.errShort", laid_wringer_table_errShort), ("wringer/table.errCode", laid_wringer_table_errCode)] }
def BoxBackSaid : Prop := boxBackRow.holds Tryz.pinned (OpenSpec.ofChange boxBackSpec)

/-- ITS FALSE NEIGHBOUR: 'it returns false'. Refute it at one input. -/
def boxBackWrong : ChangeSpec := { name := "boxBack", fn := fun _ => fun
  | [d1, d2] => { results := [.lit (.bool false)], args := [d1, d2] }
  | _ => none }
def BoxBackWrongFalsely : Prop := boxBackRow.holds Tryz.pinned (OpenSpec.ofChange boxBackWrong)

/-- 'wringerlaw24.BoxTurned': WHATEVER THE INPUT: true; the input reads as it did. -/
def boxTurnedSpec : ChangeSpec := { name := "boxTurned", fn := fun _ => fun
  | [d1, d2, d3] => { results := [.lit (.bool true)], args := [d1, d2, d3] }
  | _ => none }
def boxTurnedRow : OpenClaim := { program := "ytcfnjpokfodmoaagreatdoor", sum := "f66ee9dcfec9c2bfd8d126cabfa91e4e30d9ea61f16a8a98ddbfb2cf7a6c72e1", func := "wringer/wringerlaw24.BoxTurned", spec := "boxTurned", inPlace := ["internal/bytealg.IndexByte", "internal/abi.NoEscape", "internal/reflectlite.TypeOf", "internal/reflectlite.ValueOf", "(internal/reflectlite.Value).Type", "(internal/reflectlite.Value).IsNil", "(internal/reflectlite.Value).Elem", "(internal/reflectlite.Value).Set"], unfollowed := true, recurses := true, named := ["wringer/table.errShort", "wringer/table.errCode", "errors.errorType"], apart := false, laid := [("errors.errorType", laid_errors_errorType), ("wringer/table.errShort", laid_wringer_table_errShort), ("wringer/table.errCode", laid_wringer_table_errCode)] }
def BoxTurnedSaid : Prop := boxTurnedRow.holds Tryz.pinned (OpenSpec.ofChange boxTurnedSpec)

/-- ITS FALSE NEIGHBOUR: 'it returns false'. Refute it at one input. -/
def boxTurnedWrong : ChangeSpec := { name := "boxTurned", fn := fun _ => fun
  | [d1, d2, d3] => { results := [.lit (.bool false)], args := [d1, d2, d3] }
  | _ => none }
def BoxTurnedWrongFalsely : Prop := boxTurnedRow.holds Tryz.pinned (OpenSpec.ofChange boxTurnedWrong)

/-- 'wringerlaw24.BoxParts': WHATEVER THE INPUT: true; the input reads as it did. -/
def boxPartsSpec : ChangeSpec := { name := "boxParts", fn := fun _ => fun
  | [d] => { results := [.lit (.bool true)], args := [d] }
  | _ => none }
def boxPartsRow : OpenClaim := { program := "ytcfnjpokfodmoaagreatdoor", sum := "f66ee9dcfec9c2bfd8d126cabfa91e4e30d9ea61f16a8a98ddbfb2cf7a6c72e1", func := "wringer/wringerlaw24.BoxParts", spec := "boxParts", inPlace := ["internal/bytealg.IndexByte", "internal/abi.NoEscape", "internal/reflectlite.TypeOf", "internal/reflectlite.ValueOf", "(internal/reflectlite.Value).Type", "(internal/reflectlite.Value).IsNil", "(internal/reflectlite.Value).Elem", "(internal/reflectlite.Value).Set"], unfollowed := true, recurses := true, named := ["wringer/table.errShort", "wringer/table.errCode", "errors.errorType"], apart := false, laid := [("errors.errorType", laid_errors_errorType), ("wringer/table.errShort", laid_wringer_table_errShort), ("wringer/table.errCode", laid_wringer_table_errCode)] }
def BoxPartsSaid : Prop := boxPartsRow.holds Tryz.pinned (OpenSpec.ofChange boxPartsSpec)

/-- ITS FALSE NEIGHBOUR: 'it returns false'. Refute it at one input. -/
def boxPartsWrong : ChangeSpec := { name := "boxParts", fn := fun _ => fun
  | [d] => { results := [.lit (.bool false)], args := [d] }
  | _ => none }
def BoxPartsWrongFalsely : Prop := boxPartsRow.holds Tryz.pinned (OpenSpec.ofChange boxPartsWrong)

/-- 'wringerlaw31.AuditReads': WHATEVER THE INPUT: true; the input reads as it did. -/
def auditReadsSpec : ChangeSpec := { name := "auditReads", fn := fun _ => fun
  | [d] => { results := [.lit (.bool true)], args := [d] }
  | _ => none }
def auditReadsRow : OpenClaim := { program := "ytcfnjpokfodmoaagreatdoor", sum := "f66ee9dcfec9c2bfd8d126cabfa91e4e30d9ea61f16a8a98ddbfb2cf7a6c72e1", func := "wringer/wringerlaw31.AuditReads", spec := "auditReads", inPlace := ["internal/bytealg.IndexByteString", "internal/bytealg.IndexString", "internal/bytealg.IndexByte", "internal/abi.NoEscape", "internal/reflectlite.TypeOf", "internal/reflectlite.ValueOf", "(internal/reflectlite.Value).Type", "(internal/reflectlite.Value).IsNil", "(internal/reflectlite.Value).Elem", "(internal/reflectlite.Value).Set"], unfollowed := true, recurses := true, named := ["internal/bytealg.MaxLen", "unicode/utf8.first", "unicode/utf8.acceptRanges", "strconv.ErrSyntax", "strconv.ErrRange", "internal/strconv.uint64pow10", "math/bits.deBruijn32tab", "math/bits.deBruijn64tab", "wringer/table.errShort", "wringer/table.errCode", "errors.errorType"], apart := false, laid := [("math/bits.deBruijn32tab", laid_math_bits_deBruijn32tab), ("math/bits.deBruijn64tab", laid_math_bits_deBruijn64tab), ("internal/strconv.uint64pow10", laid_internal_strconv_uint64pow10), ("unicode/utf8.acceptRanges", laid_unicode_utf8_acceptRanges), ("errors.errorType", laid_errors_errorType), ("strconv.ErrRange", laid_strconv_ErrRange), ("strconv.ErrSyntax", laid_strconv_ErrSyntax), ("wringer/table.errShort", laid_wringer_table_errShort), ("wringer/table.errCode", laid_wringer_table_errCode), ("unicode/utf8.first", laid_unicode_utf8_first)] }
def AuditReadsSaid : Prop := auditReadsRow.holds Tryz.pinned (OpenSpec.ofChange auditReadsSpec)

/-- ITS FALSE NEIGHBOUR: 'it returns false'. Refute it at one input. -/
def auditReadsWrong : ChangeSpec := { name := "auditReads", fn := fun _ => fun
  | [d] => { results := [.lit (.bool false)], args := [d] }
  | _ => none }
def AuditReadsWrongFalsely : Prop := auditReadsRow.holds Tryz.pinned (OpenSpec.ofChange auditReadsWrong)

/-- 'wringerlaw31.AuditAll': WHATEVER THE INPUT: true; the input reads as it did. -/
def auditAllSpec : ChangeSpec := { name := "auditAll", fn := fun _ => fun
  | [d] => { results := [.lit (.bool true)], args := [d] }
  | _ => none }
def auditAllRow : OpenClaim := { program := "ytcfnjpokfodmoaagreatdoor", sum := "f66ee9dcfec9c2bfd8d126cabfa91e4e30d9ea61f16a8a98ddbfb2cf7a6c72e1", func := "wringer/wringerlaw31.AuditAll", spec := "auditAll", inPlace := ["internal/bytealg.IndexByte", "internal/abi.NoEscape", "internal/reflectlite.TypeOf", "internal/reflectlite.ValueOf", "(internal/reflectlite.Value).Type", "(internal/reflectlite.Value).IsNil", "(internal/reflectlite.Value).Elem", "(internal/reflectlite.Value).Set", "internal/bytealg.IndexByteString", "internal/bytealg.IndexString"], unfollowed := true, recurses := true, named := ["wringer/table.errShort", "wringer/table.errCode", "errors.errorType", "internal/strconv.uint64pow10", "math/bits.deBruijn32tab", "math/bits.deBruijn64tab", "internal/bytealg.MaxLen", "unicode/utf8.first", "unicode/utf8.acceptRanges", "strconv.ErrSyntax", "strconv.ErrRange"], apart := false, laid := [("math/bits.deBruijn32tab", laid_math_bits_deBruijn32tab), ("math/bits.deBruijn64tab", laid_math_bits_deBruijn64tab), ("internal/strconv.uint64pow10", laid_internal_strconv_uint64pow10), ("unicode/utf8.acceptRanges", laid_unicode_utf8_acceptRanges), ("errors.errorType", laid_errors_errorType), ("strconv.ErrRange", laid_strconv_ErrRange), ("strconv.ErrSyntax", laid_strconv_ErrSyntax), ("wringer/table.errShort", laid_wringer_table_errShort), ("wringer/table.errCode", laid_wringer_table_errCode), ("unicode/utf8.first", laid_unicode_utf8_first)] }
def AuditAllSaid : Prop := auditAllRow.holds Tryz.pinned (OpenSpec.ofChange auditAllSpec)

/-- ITS FALSE NEIGHBOUR: 'it returns false'. Refute it at one input. -/
def auditAllWrong : ChangeSpec := { name := "auditAll", fn := fun _ => fun
  | [d] => { results := [.lit (.bool false)], args := [d] }
  | _ => none }
def AuditAllWrongFalsely : Prop := auditAllRow.holds Tryz.pinned (OpenSpec.ofChange auditAllWrong)

/-- 'wringerlaw31.AuditBack': WHATEVER THE INPUT: true; the input reads as it did. -/
def auditBackSpec : ChangeSpec := { name := "auditBack", fn := fun _ => fun
  | [d] => { results := [.lit (.bool true)], args := [d] }
  | _ => none }
def auditBackRow : OpenClaim := { program := "ytcfnjpokfodmoaagreatdoor", sum := "f66ee9dcfec9c2bfd8d126cabfa91e4e30d9ea61f16a8a98ddbfb2cf7a6c72e1", func := "wringer/wringerlaw31.AuditBack", spec := "auditBack", inPlace := ["internal/bytealg.IndexByte", "internal/abi.NoEscape", "internal/reflectlite.TypeOf", "internal/reflectlite.ValueOf", "(internal/reflectlite.Value).Type", "(internal/reflectlite.Value).IsNil", "(internal/reflectlite.Value).Elem", "(internal/reflectlite.Value).Set", "internal/bytealg.IndexByteString", "internal/bytealg.IndexString"], unfollowed := true, recurses := true, named := ["wringer/table.errShort", "wringer/table.errCode", "errors.errorType", "internal/strconv.uint64pow10", "math/bits.deBruijn32tab", "math/bits.deBruijn64tab", "internal/bytealg.MaxLen", "unicode/utf8.first", "unicode/utf8.acceptRanges", "strconv.ErrSyntax", "strconv.ErrRange"], apart := false, laid := [("math/bits.deBruijn32tab", laid_math_bits_deBruijn32tab), ("math/bits.deBruijn64tab", laid_math_bits_deBruijn64tab), ("internal/strconv.uint64pow10", laid_internal_strconv_uint64pow10), ("unicode/utf8.acceptRanges", laid_unicode_utf8_acceptRanges), ("errors.errorType", laid_errors_errorType), ("strconv.ErrRange", laid_strconv_ErrRange), ("strconv.ErrSyntax", laid_strconv_ErrSyntax), ("wringer/table.errShort", laid_wringer_table_errShort), ("wringer/table.errCode", laid_wringer_table_errCode), ("unicode/utf8.first", laid_unicode_utf8_first)] }
def AuditBackSaid : Prop := auditBackRow.holds Tryz.pinned (OpenSpec.ofChange auditBackSpec)

/-- ITS FALSE NEIGHBOUR: 'it returns false'. Refute it at one input. -/
def auditBackWrong : ChangeSpec := { name := "auditBack", fn := fun _ => fun
  | [d] => { results := [.lit (.bool false)], args := [d] }
  | _ => none }
def AuditBackWrongFalsely : Prop := auditBackRow.holds Tryz.pinned (OpenSpec.ofChange auditBackWrong)

/-- 'wringerlaw31.AuditBest': WHATEVER THE INPUT: true; the input reads as it did. -/
def auditBestSpec : ChangeSpec := { name := "auditBest", fn := fun _ => fun
  | [d1, d2] => { results := [.lit (.bool true)], args := [d1, d2] }
  | _ => none }
def auditBestRow : OpenClaim := { program := "ytcfnjpokfodmoaagreatdoor", sum := "f66ee9dcfec9c2bfd8d126cabfa91e4e30d9ea61f16a8a98ddbfb2cf7a6c72e1", func := "wringer/wringerlaw31.AuditBest", spec := "auditBest", inPlace := ["internal/bytealg.IndexByte", "internal/abi.NoEscape", "internal/reflectlite.TypeOf", "internal/reflectlite.ValueOf", "(internal/reflectlite.Value).Type", "(internal/reflectlite.Value).IsNil", "(internal/reflectlite.Value).Elem", "(internal/reflectlite.Value).Set", "internal/bytealg.IndexByteString", "internal/bytealg.IndexString"], unfollowed := true, recurses := true, named := ["wringer/table.errShort", "wringer/table.errCode", "errors.errorType", "internal/strconv.uint64pow10", "math/bits.deBruijn32tab", "math/bits.deBruijn64tab", "internal/bytealg.MaxLen", "unicode/utf8.first", "unicode/utf8.acceptRanges", "strconv.ErrSyntax", "strconv.ErrRange"], apart := false, laid := [("math/bits.deBruijn32tab", laid_math_bits_deBruijn32tab), ("math/bits.deBruijn64tab", laid_math_bits_deBruijn64tab), ("internal/strconv.uint64pow10", laid_internal_strconv_uint64pow10), ("unicode/utf8.acceptRanges", laid_unicode_utf8_acceptRanges), ("errors.errorType", laid_errors_errorType), ("strconv.ErrRange", laid_strconv_ErrRange), ("strconv.ErrSyntax", laid_strconv_ErrSyntax), ("wringer/table.errShort", laid_wringer_table_errShort), ("wringer/table.errCode", laid_wringer_table_errCode), ("unicode/utf8.first", laid_unicode_utf8_first)] }
def AuditBestSaid : Prop := auditBestRow.holds Tryz.pinned (OpenSpec.ofChange auditBestSpec)

/-- ITS FALSE NEIGHBOUR: 'it returns false'. Refute it at one input. -/
def auditBestWrong : ChangeSpec := { name := "auditBest", fn := fun _ => fun
  | [d1, d2] => { results := [.lit (.bool false)], args := [d1, d2] }
  | _ => none }
def AuditBestWrongFalsely : Prop := auditBestRow.holds Tryz.pinned (OpenSpec.ofChange auditBestWrong)

/- THE SECOND FORM. 'bulk': how many values and letters a reading holds, each counted each time it is reached (what is shared counts as often as it is met; a slice's spare places count too). A statement '..UptoSaid' is the law's where the arguments, and the package variables that the reading takes, are together of bulk at most 1048576: NARROWER than '..Said'. Prove '..Said' where nothing that the law and all that it calls make is longer than what came in: it says more and counts as full. Else prove '..UptoSaid'. A law counts once. -/
mutual
def uptoBulk {H : Type} : DataW H → Nat
  | .lit (.string bytes) => bytes.length + 1
  | .lit _ => 1
  | .nil => 1
  | .ptr d => uptoBulk d + 1
  | .slice elems spare => uptoBulkAll elems + uptoBulkAll spare + 1
  | .agg parts => uptoBulkAll parts + 1
  | .iface _ d => uptoBulk d + 1
  | .map entries => uptoBulkEntries entries + 1
  | .held _ => 1
def uptoBulkAll {H : Type} : List (DataW H) → Nat
  | [] => 0
  | d :: r => uptoBulk d + uptoBulkAll r
def uptoBulkEntries {H : Type} : List (Lit × DataW H) → Nat
  | [] => 0
  | x :: r => uptoBulkEntry x + uptoBulkEntries r
def uptoBulkEntry {H : Type} : Lit × DataW H → Nat
  | (.string bytes, d) => bytes.length + uptoBulk d + 1
  | (_, d) => uptoBulk d + 1
 end
def uptoSmall : (H : Type) → List (DataW H) → Bool := fun _ ds => decide (uptoBulkAll ds ≤ 1048576)
def OpenSpec.upto (s : _root_.Go.ChangeSpec) : _root_.Go.OpenSpec := { _root_.Go.OpenSpec.ofChange s with cond := some uptoSmall }

/-- 'wringerlaw24.BoxBuilds', WHERE WHAT IT READS IS OF BULK AT MOST 1048576: true; the input reads as it did. -/
def boxBuildsUptoRow : OpenClaim := { program := "ytcfnjpokfodmoaagreatdoor", sum := "f66ee9dcfec9c2bfd8d126cabfa91e4e30d9ea61f16a8a98ddbfb2cf7a6c72e1", func := "wringer/wringerlaw24.BoxBuilds", spec := "boxBuilds", inPlace := ["internal/bytealg.IndexByte", "internal/abi.NoEscape", "internal/reflectlite.TypeOf", "internal/reflectlite.ValueOf", "(internal/reflectlite.Value).Type", "(internal/reflectlite.Value).IsNil", "(internal/reflectlite.Value).Elem", "(internal/reflectlite.Value).Set"], unfollowed := true, recurses := true, named := ["wringer/table.errShort", "wringer/table.errCode", "errors.errorType"], apart := false, laid := [("errors.errorType", laid_errors_errorType), ("wringer/table.errShort", laid_wringer_table_errShort), ("wringer/table.errCode", laid_wringer_table_errCode)], narrowed := true }
def BoxBuildsUptoSaid : Prop := boxBuildsUptoRow.holds Tryz.pinned (OpenSpec.upto boxBuildsSpec)

/-- 'wringerlaw24.BoxBack', WHERE WHAT IT READS IS OF BULK AT MOST 1048576: true; the input reads as it did. -/
def boxBackUptoRow : OpenClaim := { program := "ytcfnjpokfodmoaagreatdoor", sum := "f66ee9dcfec9c2bfd8d126cabfa91e4e30d9ea61f16a8a98ddbfb2cf7a6c72e1", func := "wringer/wringerlaw24.BoxBack", spec := "boxBack", inPlace := ["internal/bytealg.IndexByte", "internal/abi.NoEscape", "internal/reflectlite.TypeOf", "internal/reflectlite.ValueOf", "(internal/reflectlite.Value).Type", "(internal/reflectlite.Value).IsNil", "(internal/reflectlite.Value).Elem", "(internal/reflectlite.Value).Set"], unfollowed := true, recurses := true, named := ["wringer/table.errShort", "wringer/table.errCode", "errors.errorType"], apart := false, laid := [("errors.errorType", laid_errors_errorType), ("wringer/table.errShort", laid_wringer_table_errShort), ("wringer/table.errCode", laid_wringer_table_errCode)], narrowed := true }
def BoxBackUptoSaid : Prop := boxBackUptoRow.holds Tryz.pinned (OpenSpec.upto boxBackSpec)

/-- 'wringerlaw24.BoxTurned', WHERE WHAT IT READS IS OF BULK AT MOST 1048576: true; the input reads as it did. -/
def boxTurnedUptoRow : OpenClaim := { program := "ytcfnjpokfodmoaagreatdoor", sum := "f66ee9dcfec9c2bfd8d126cabfa91e4e30d9ea61f16a8a98ddbfb2cf7a6c72e1", func := "wringer/wringerlaw24.BoxTurned", spec := "boxTurned", inPlace := ["internal/bytealg.IndexByte", "internal/abi.NoEscape", "internal/reflectlite.TypeOf", "internal/reflectlite.ValueOf", "(internal/reflectlite.Value).Type", "(internal/reflectlite.Value).IsNil", "(internal/reflectlite.Value).Elem", "(internal/reflectlite.Value).Set"], unfollowed := true, recurses := true, named := ["wringer/table.errShort", "wringer/table.errCode", "errors.errorType"], apart := false, laid := [("errors.errorType", laid_errors_errorType), ("wringer/table.errShort", laid_wringer_table_errShort), ("wringer/table.errCode", laid_wringer_table_errCode)], narrowed := true }
def BoxTurnedUptoSaid : Prop := boxTurnedUptoRow.holds Tryz.pinned (OpenSpec.upto boxTurnedSpec)

/-- 'wringerlaw24.BoxParts', WHERE WHAT IT READS IS OF BULK AT MOST 1048576: true; the input reads as it did. -/
def boxPartsUptoRow : OpenClaim := { program := "ytcfnjpokfodmoaagreatdoor", sum := "f66ee9dcfec9c2bfd8d126cabfa91e4e30d9ea61f16a8a98ddbfb2cf7a6c72e1", func := "wringer/wringerlaw24.BoxParts", spec := "boxParts", inPlace := ["internal/bytealg.IndexByte", "internal/abi.NoEscape", "internal/reflectlite.TypeOf", "internal/reflectlite.ValueOf", "(internal/reflectlite.Value).Type", "(internal/reflectlite.Value).IsNil", "(internal/reflectlite.Value).Elem", "(internal/reflectlite.Value).Set"], unfollowed := true, recurses := true, named := ["wringer/table.errShort", "wringer/table.errCode", "errors.errorType"], apart := false, laid := [("errors.errorType", laid_errors_errorType), ("wringer/table.errShort", laid_wringer_table_errShort), ("wringer/table.errCode", laid_wringer_table_errCode)], narrowed := true }
def BoxPartsUptoSaid : Prop := boxPartsUptoRow.holds Tryz.pinned (OpenSpec.upto boxPartsSpec)

/-- 'wringerlaw31.AuditReads', WHERE WHAT IT READS IS OF BULK AT MOST 1048576: true; the input reads as it did. -/
def auditReadsUptoRow : OpenClaim := { program := "ytcfnjpokfodmoaagreatdoor", sum := "f66ee9dcfec9c2bfd8d126cabfa91e4e30d9ea61f16a8a98ddbfb2cf7a6c72e1", func := "wringer/wringerlaw31.AuditReads", spec := "auditReads", inPlace := ["internal/bytealg.IndexByteString", "internal/bytealg.IndexString", "internal/bytealg.IndexByte", "internal/abi.NoEscape", "internal/reflectlite.TypeOf", "internal/reflectlite.ValueOf", "(internal/reflectlite.Value).Type", "(internal/reflectlite.Value).IsNil", "(internal/reflectlite.Value).Elem", "(internal/reflectlite.Value).Set"], unfollowed := true, recurses := true, named := ["internal/bytealg.MaxLen", "unicode/utf8.first", "unicode/utf8.acceptRanges", "strconv.ErrSyntax", "strconv.ErrRange", "internal/strconv.uint64pow10", "math/bits.deBruijn32tab", "math/bits.deBruijn64tab", "wringer/table.errShort", "wringer/table.errCode", "errors.errorType"], apart := false, laid := [("math/bits.deBruijn32tab", laid_math_bits_deBruijn32tab), ("math/bits.deBruijn64tab", laid_math_bits_deBruijn64tab), ("internal/strconv.uint64pow10", laid_internal_strconv_uint64pow10), ("unicode/utf8.acceptRanges", laid_unicode_utf8_acceptRanges), ("errors.errorType", laid_errors_errorType), ("strconv.ErrRange", laid_strconv_ErrRange), ("strconv.ErrSyntax", laid_strconv_ErrSyntax), ("wringer/table.errShort", laid_wringer_table_errShort), ("wringer/table.errCode", laid_wringer_table_errCode), ("unicode/utf8.first", laid_unicode_utf8_first)], narrowed := true }
def AuditReadsUptoSaid : Prop := auditReadsUptoRow.holds Tryz.pinned (OpenSpec.upto auditReadsSpec)

/-- 'wringerlaw31.AuditAll', WHERE WHAT IT READS IS OF BULK AT MOST 1048576: true; the input reads as it did. -/
def auditAllUptoRow : OpenClaim := { program := "ytcfnjpokfodmoaagreatdoor", sum := "f66ee9dcfec9c2bfd8d126cabfa91e4e30d9ea61f16a8a98ddbfb2cf7a6c72e1", func := "wringer/wringerlaw31.AuditAll", spec := "auditAll", inPlace := ["internal/bytealg.IndexByte", "internal/abi.NoEscape", "internal/reflectlite.TypeOf", "internal/reflectlite.ValueOf", "(internal/reflectlite.Value).Type", "(internal/reflectlite.Value).IsNil", "(internal/reflectlite.Value).Elem", "(internal/reflectlite.Value).Set", "internal/bytealg.IndexByteString", "internal/bytealg.IndexString"], unfollowed := true, recurses := true, named := ["wringer/table.errShort", "wringer/table.errCode", "errors.errorType", "internal/strconv.uint64pow10", "math/bits.deBruijn32tab", "math/bits.deBruijn64tab", "internal/bytealg.MaxLen", "unicode/utf8.first", "unicode/utf8.acceptRanges", "strconv.ErrSyntax", "strconv.ErrRange"], apart := false, laid := [("math/bits.deBruijn32tab", laid_math_bits_deBruijn32tab), ("math/bits.deBruijn64tab", laid_math_bits_deBruijn64tab), ("internal/strconv.uint64pow10", laid_internal_strconv_uint64pow10), ("unicode/utf8.acceptRanges", laid_unicode_utf8_acceptRanges), ("errors.errorType", laid_errors_errorType), ("strconv.ErrRange", laid_strconv_ErrRange), ("strconv.ErrSyntax", laid_strconv_ErrSyntax), ("wringer/table.errShort", laid_wringer_table_errShort), ("wringer/table.errCode", laid_wringer_table_errCode), ("unicode/utf8.first", laid_unicode_utf8_first)], narrowed := true }
def AuditAllUptoSaid : Prop := auditAllUptoRow.holds Tryz.pinned (OpenSpec.upto auditAllSpec)

/-- 'wringerlaw31.AuditBack', WHERE WHAT IT READS IS OF BULK AT MOST 1048576: true; the input reads as it did. -/
def auditBackUptoRow : OpenClaim := { program := "ytcfnjpokfodmoaagreatdoor", sum := "f66ee9dcfec9c2bfd8d126cabfa91e4e30d9ea61f16a8a98ddbfb2cf7a6c72e1", func := "wringer/wringerlaw31.AuditBack", spec := "auditBack", inPlace := ["internal/bytealg.IndexByte", "internal/abi.NoEscape", "internal/reflectlite.TypeOf", "internal/reflectlite.ValueOf", "(internal/reflectlite.Value).Type", "(internal/reflectlite.Value).IsNil", "(internal/reflectlite.Value).Elem", "(internal/reflectlite.Value).Set", "internal/bytealg.IndexByteString", "internal/bytealg.IndexString"], unfollowed := true, recurses := true, named := ["wringer/table.errShort", "wringer/table.errCode", "errors.errorType", "internal/strconv.uint64pow10", "math/bits.deBruijn32tab", "math/bits.deBruijn64tab", "internal/bytealg.MaxLen", "unicode/utf8.first", "unicode/utf8.acceptRanges", "strconv.ErrSyntax", "strconv.ErrRange"], apart := false, laid := [("math/bits.deBruijn32tab", laid_math_bits_deBruijn32tab), ("math/bits.deBruijn64tab", laid_math_bits_deBruijn64tab), ("internal/strconv.uint64pow10", laid_internal_strconv_uint64pow10), ("unicode/utf8.acceptRanges", laid_unicode_utf8_acceptRanges), ("errors.errorType", laid_errors_errorType), ("strconv.ErrRange", laid_strconv_ErrRange), ("strconv.ErrSyntax", laid_strconv_ErrSyntax), ("wringer/table.errShort", laid_wringer_table_errShort), ("wringer/table.errCode", laid_wringer_table_errCode), ("unicode/utf8.first", laid_unicode_utf8_first)], narrowed := true }
def AuditBackUptoSaid : Prop := auditBackUptoRow.holds Tryz.pinned (OpenSpec.upto auditBackSpec)

/-- 'wringerlaw31.AuditBest', WHERE WHAT IT READS IS OF BULK AT MOST 1048576: true; the input reads as it did. -/
def auditBestUptoRow : OpenClaim := { program := "ytcfnjpokfodmoaagreatdoor", sum := "f66ee9dcfec9c2bfd8d126cabfa91e4e30d9ea61f16a8a98ddbfb2cf7a6c72e1", func := "wringer/wringerlaw31.AuditBest", spec := "auditBest", inPlace := ["internal/bytealg.IndexByte", "internal/abi.NoEscape", "internal/reflectlite.TypeOf", "internal/reflectlite.ValueOf", "(internal/reflectlite.Value).Type", "(internal/reflectlite.Value).IsNil", "(internal/reflectlite.Value).Elem", "(internal/reflectlite.Value).Set", "internal/bytealg.IndexByteString", "internal/bytealg.IndexString"], unfollowed := true, recurses := true, named := ["wringer/table.errShort", "wringer/table.errCode", "errors.errorType", "internal/strconv.uint64pow10", "math/bits.deBruijn32tab", "math/bits.deBruijn64tab", "internal/bytealg.MaxLen", "unicode/utf8.first", "unicode/utf8.acceptRanges", "strconv.ErrSyntax", "strconv.ErrRange"], apart := false, laid := [("math/bits.deBruijn32tab", laid_math_bits_deBruijn32tab), ("math/bits.deBruijn64tab", laid_math_bits_deBruijn64tab), ("internal/strconv.uint64pow10", laid_internal_strconv_uint64pow10), ("unicode/utf8.acceptRanges", laid_unicode_utf8_acceptRanges), ("errors.errorType", laid_errors_errorType), ("strconv.ErrRange", laid_strconv_ErrRange), ("strconv.ErrSyntax", laid_strconv_ErrSyntax), ("wringer/table.errShort", laid_wringer_table_errShort), ("wringer/table.errCode", laid_wringer_table_errCode), ("unicode/utf8.first", laid_unicode_utf8_first)], narrowed := true }
def AuditBestUptoSaid : Prop := auditBestUptoRow.holds Tryz.pinned (OpenSpec.upto auditBestSpec)

end Rows
end Go.Proofs.YtcfnjpokfodmoaaGreatDoor
