/-
  NARROWER THAN 'FOR EVERY INPUT', by the rows' own cells (each row's printed sentence says how): VersionsBack: laid · MappingParses: laid · MappingBack: laid · MappingMakes: laid · PropertyMakes: laid · PropertySets: laid · PropertyTexts: laid · PropertyParses: laid · PropertyDivides: laid · PropertyOrder: laid.
  DERIVED. THE GIVEN ROWS OF THIS SEAT. 10 by the template 'for every input the law returns true; each argument reads behind the call as it read before'; 0 by the template 'total and deterministic' (their statements: YtnegdnbodccgkaaGreatDoorTotals.lean).
  GIVEN WITH THE SEED: the statements are not yours to turn. If you find one false, say at which input.
  Laid BY PROGRAM, IN A SANDBOX (cutbox-rows.mjs): the forced cells as the released guide's own fill.sh prints them over the translation 72802e96af5043d8… (all of the seat's roots in one cut). By AI agents, Wed Nov 11 2026. No macro, syntax, notation, axiom, sorry.
-/
import Derived.Test.YtnegdnbodccgkaaGreatDoorChecked
import GoSem.PinnedTables
import GoSem.Claim
import GoSem.ClaimJoined
import GoSem.ClaimMapViews
import Derived.JoinedTies
import Derived.KernelRfl
namespace Go.Proofs.YtnegdnbodccgkaaGreatDoor
/- THE CELL 'sum', in the pinned program and in every row, IS THE sha256 OF THE DUMP (.gsa) THAT YtnegdnbodccgkaaGreatDoorProg.lean LOADS. Nothing in Lean hashes anything: it is a label: what it is worth is what the hold of that sum in a sandbox is worth. -/
noncomputable def Tryz.pinned : Pinned := { name := "ytnegdnbodccgkaagreatdoor", sum := "72802e96af5043d82306da4918b2bb1e7ec4b09121ac6053bcc13b014bfe2bc4", checked := Tryz.checked }
namespace Rows
def none {H : Type} : Left H := { results := [], args := [] }

/- WHAT THE LISTED PACKAGE-LEVEL VARIABLES READ AS WHEN THE CALL BEGINS. Each datum BY PROGRAM (the guide's laid-datum.mjs) off the statement by which the dump's own 'gosem.cut.vars' lays the variable. In a bare row this is a premise. The card (YtnegdnbodccgkaaGreatDoorCards.lean) ties it to the program's text. -/
def laid_math_bits_deBruijn32tab {H : Type} : DataW H := .agg [.lit (.int .u8 0), .lit (.int .u8 1), .lit (.int .u8 28), .lit (.int .u8 2), .lit (.int .u8 29), .lit (.int .u8 14), .lit (.int .u8 24), .lit (.int .u8 3), .lit (.int .u8 30), .lit (.int .u8 22), .lit (.int .u8 20), .lit (.int .u8 15), .lit (.int .u8 25), .lit (.int .u8 17), .lit (.int .u8 4), .lit (.int .u8 8), .lit (.int .u8 31), .lit (.int .u8 27), .lit (.int .u8 13), .lit (.int .u8 23), .lit (.int .u8 21), .lit (.int .u8 19), .lit (.int .u8 16), .lit (.int .u8 7), .lit (.int .u8 26), .lit (.int .u8 12), .lit (.int .u8 18), .lit (.int .u8 6), .lit (.int .u8 11), .lit (.int .u8 5), .lit (.int .u8 10), .lit (.int .u8 9)]
def laid_math_bits_deBruijn64tab {H : Type} : DataW H := .agg [.lit (.int .u8 0), .lit (.int .u8 1), .lit (.int .u8 56), .lit (.int .u8 2), .lit (.int .u8 57), .lit (.int .u8 49), .lit (.int .u8 28), .lit (.int .u8 3), .lit (.int .u8 61), .lit (.int .u8 58), .lit (.int .u8 42), .lit (.int .u8 50), .lit (.int .u8 38), .lit (.int .u8 29), .lit (.int .u8 17), .lit (.int .u8 4), .lit (.int .u8 62), .lit (.int .u8 47), .lit (.int .u8 59), .lit (.int .u8 36), .lit (.int .u8 45), .lit (.int .u8 43), .lit (.int .u8 51), .lit (.int .u8 22), .lit (.int .u8 53), .lit (.int .u8 39), .lit (.int .u8 33), .lit (.int .u8 30), .lit (.int .u8 24), .lit (.int .u8 18), .lit (.int .u8 12), .lit (.int .u8 5), .lit (.int .u8 63), .lit (.int .u8 55), .lit (.int .u8 48), .lit (.int .u8 27), .lit (.int .u8 60), .lit (.int .u8 41), .lit (.int .u8 37), .lit (.int .u8 16), .lit (.int .u8 46), .lit (.int .u8 35), .lit (.int .u8 44), .lit (.int .u8 21), .lit (.int .u8 52), .lit (.int .u8 32), .lit (.int .u8 23), .lit (.int .u8 11), .lit (.int .u8 54), .lit (.int .u8 26), .lit (.int .u8 40), .lit (.int .u8 15), .lit (.int .u8 34), .lit (.int .u8 20), .lit (.int .u8 31), .lit (.int .u8 10), .lit (.int .u8 25), .lit (.int .u8 14), .lit (.int .u8 19), .lit (.int .u8 9), .lit (.int .u8 13), .lit (.int .u8 8), .lit (.int .u8 7), .lit (.int .u8 6)]
def laid_internal_strconv_uint64pow10 {H : Type} : DataW H := .agg [.lit (.int .u64 1), .lit (.int .u64 10), .lit (.int .u64 100), .lit (.int .u64 1000), .lit (.int .u64 10000), .lit (.int .u64 100000), .lit (.int .u64 1000000), .lit (.int .u64 10000000), .lit (.int .u64 100000000), .lit (.int .u64 1000000000), .lit (.int .u64 10000000000), .lit (.int .u64 100000000000), .lit (.int .u64 1000000000000), .lit (.int .u64 10000000000000), .lit (.int .u64 100000000000000), .lit (.int .u64 1000000000000000), .lit (.int .u64 10000000000000000), .lit (.int .u64 100000000000000000), .lit (.int .u64 1000000000000000000), .lit (.int .u64 10000000000000000000)]
def laid_unicodetext_codepoint_digits {H : Type} : DataW H := .agg [.lit (.int .u8 48), .lit (.int .u8 49), .lit (.int .u8 50), .lit (.int .u8 51), .lit (.int .u8 52), .lit (.int .u8 53), .lit (.int .u8 54), .lit (.int .u8 55), .lit (.int .u8 56), .lit (.int .u8 57), .lit (.int .u8 65), .lit (.int .u8 66), .lit (.int .u8 67), .lit (.int .u8 68), .lit (.int .u8 69), .lit (.int .u8 70)]
def laid_unicode_utf8_acceptRanges {H : Type} : DataW H := .agg [.agg [.lit (.int .u8 128), .lit (.int .u8 191)], .agg [.lit (.int .u8 160), .lit (.int .u8 191)], .agg [.lit (.int .u8 128), .lit (.int .u8 159)], .agg [.lit (.int .u8 144), .lit (.int .u8 191)], .agg [.lit (.int .u8 128), .lit (.int .u8 143)], .agg [.lit (.int .u8 0), .lit (.int .u8 0)], .agg [.lit (.int .u8 0), .lit (.int .u8 0)], .agg [.lit (.int .u8 0), .lit (.int .u8 0)], .agg [.lit (.int .u8 0), .lit (.int .u8 0)], .agg [.lit (.int .u8 0), .lit (.int .u8 0)], .agg [.lit (.int .u8 0), .lit (.int .u8 0)], .agg [.lit (.int .u8 0), .lit (.int .u8 0)], .agg [.lit (.int .u8 0), .lit (.int .u8 0)], .agg [.lit (.int .u8 0), .lit (.int .u8 0)], .agg [.lit (.int .u8 0), .lit (.int .u8 0)], .agg [.lit (.int .u8 0), .lit (.int .u8 0)]]
/-- One of Go's own tables, pinned by name: the form's constant. -/
def laid_unicode_utf8_first : DataW Unit := Go.Pinned.utf8First

/-- 'unicodetextlaw17.VersionsBack': WHATEVER THE INPUT: true; the input reads as it did. -/
def versionsBackSpec : ChangeSpec := { name := "versionsBack", fn := fun _ => fun
  | [d1, d2] => { results := [.lit (.bool true)], args := [d1, d2] }
  | _ => none }
def versionsBackRow : OpenClaim := { program := "ytnegdnbodccgkaagreatdoor", sum := "72802e96af5043d82306da4918b2bb1e7ec4b09121ac6053bcc13b014bfe2bc4", func := "unicodetext/unicodetextlaw17.VersionsBack", spec := "versionsBack", inPlace := ["internal/abi.NoEscape", "internal/bytealg.MakeNoZero"], unfollowed := true, recurses := true, named := ["internal/strconv.uint64pow10", "math/bits.deBruijn32tab", "math/bits.deBruijn64tab", "unicodetext/codepoint.digits"], plainKeys := false, apart := false, laid := [("math/bits.deBruijn32tab", laid_math_bits_deBruijn32tab), ("math/bits.deBruijn64tab", laid_math_bits_deBruijn64tab), ("internal/strconv.uint64pow10", laid_internal_strconv_uint64pow10), ("unicodetext/codepoint.digits", laid_unicodetext_codepoint_digits)] }
def VersionsBackSaid : Prop := versionsBackRow.holds Tryz.pinned (OpenSpec.ofChange versionsBackSpec)

/-- ITS FALSE NEIGHBOUR: 'it returns false'. Refute it at one input. -/
def versionsBackWrong : ChangeSpec := { name := "versionsBack", fn := fun _ => fun
  | [d1, d2] => { results := [.lit (.bool false)], args := [d1, d2] }
  | _ => none }
def VersionsBackWrongFalsely : Prop := versionsBackRow.holds Tryz.pinned (OpenSpec.ofChange versionsBackWrong)

/-- 'unicodetextlaw11.MappingParses': WHATEVER THE INPUT: true; the input reads as it did. -/
def mappingParsesSpec : ChangeSpec := { name := "mappingParses", fn := fun _ => fun
  | [d] => { results := [.lit (.bool true)], args := [d] }
  | _ => none }
def mappingParsesRow : OpenClaim := { program := "ytnegdnbodccgkaagreatdoor", sum := "72802e96af5043d82306da4918b2bb1e7ec4b09121ac6053bcc13b014bfe2bc4", func := "unicodetext/unicodetextlaw11.MappingParses", spec := "mappingParses", inPlace := ["internal/bytealg.IndexByteString", "internal/bytealg.IndexString", "internal/bytealg.CountString", "internal/abi.NoEscape", "internal/bytealg.MakeNoZero"], unfollowed := true, recurses := true, named := ["internal/bytealg.MaxLen", "unicode/utf8.first", "unicode/utf8.acceptRanges", "unicodetext/codepoint.digits"], plainKeys := false, apart := false, laid := [("unicode/utf8.acceptRanges", laid_unicode_utf8_acceptRanges), ("unicodetext/codepoint.digits", laid_unicodetext_codepoint_digits), ("unicode/utf8.first", laid_unicode_utf8_first)] }
def MappingParsesSaid : Prop := mappingParsesRow.holds Tryz.pinned (OpenSpec.ofChange mappingParsesSpec)

/-- ITS FALSE NEIGHBOUR: 'it returns false'. Refute it at one input. -/
def mappingParsesWrong : ChangeSpec := { name := "mappingParses", fn := fun _ => fun
  | [d] => { results := [.lit (.bool false)], args := [d] }
  | _ => none }
def MappingParsesWrongFalsely : Prop := mappingParsesRow.holds Tryz.pinned (OpenSpec.ofChange mappingParsesWrong)

/-- 'unicodetextlaw11.MappingBack': WHATEVER THE INPUT: true; the input reads as it did. -/
def mappingBackSpec : ChangeSpec := { name := "mappingBack", fn := fun _ => fun
  | [d1, d2] => { results := [.lit (.bool true)], args := [d1, d2] }
  | _ => none }
def mappingBackRow : OpenClaim := { program := "ytnegdnbodccgkaagreatdoor", sum := "72802e96af5043d82306da4918b2bb1e7ec4b09121ac6053bcc13b014bfe2bc4", func := "unicodetext/unicodetextlaw11.MappingBack", spec := "mappingBack", inPlace := ["internal/bytealg.IndexByteString", "internal/bytealg.IndexString", "internal/bytealg.CountString", "internal/abi.NoEscape", "internal/bytealg.MakeNoZero"], unfollowed := true, recurses := true, named := ["internal/bytealg.MaxLen", "unicode/utf8.first", "unicode/utf8.acceptRanges", "unicodetext/codepoint.digits"], plainKeys := false, apart := false, laid := [("unicode/utf8.acceptRanges", laid_unicode_utf8_acceptRanges), ("unicodetext/codepoint.digits", laid_unicodetext_codepoint_digits), ("unicode/utf8.first", laid_unicode_utf8_first)] }
def MappingBackSaid : Prop := mappingBackRow.holds Tryz.pinned (OpenSpec.ofChange mappingBackSpec)

/-- ITS FALSE NEIGHBOUR: 'it returns false'. Refute it at one input. -/
def mappingBackWrong : ChangeSpec := { name := "mappingBack", fn := fun _ => fun
  | [d1, d2] => { results := [.lit (.bool false)], args := [d1, d2] }
  | _ => none }
def MappingBackWrongFalsely : Prop := mappingBackRow.holds Tryz.pinned (OpenSpec.ofChange mappingBackWrong)

/-- 'unicodetextlaw11.MappingMakes': WHATEVER THE INPUT: true; the input reads as it did. -/
def mappingMakesSpec : ChangeSpec := { name := "mappingMakes", fn := fun _ => fun
  | [d] => { results := [.lit (.bool true)], args := [d] }
  | _ => none }
def mappingMakesRow : OpenClaim := { program := "ytnegdnbodccgkaagreatdoor", sum := "72802e96af5043d82306da4918b2bb1e7ec4b09121ac6053bcc13b014bfe2bc4", func := "unicodetext/unicodetextlaw11.MappingMakes", spec := "mappingMakes", inPlace := ["internal/bytealg.IndexByteString", "internal/bytealg.IndexString", "internal/bytealg.CountString", "internal/abi.NoEscape", "internal/bytealg.MakeNoZero"], unfollowed := true, recurses := true, named := ["internal/bytealg.MaxLen", "unicode/utf8.first", "unicode/utf8.acceptRanges", "unicodetext/codepoint.digits"], plainKeys := false, apart := false, laid := [("unicode/utf8.acceptRanges", laid_unicode_utf8_acceptRanges), ("unicodetext/codepoint.digits", laid_unicodetext_codepoint_digits), ("unicode/utf8.first", laid_unicode_utf8_first)] }
def MappingMakesSaid : Prop := mappingMakesRow.holds Tryz.pinned (OpenSpec.ofChange mappingMakesSpec)

/-- ITS FALSE NEIGHBOUR: 'it returns false'. Refute it at one input. -/
def mappingMakesWrong : ChangeSpec := { name := "mappingMakes", fn := fun _ => fun
  | [d] => { results := [.lit (.bool false)], args := [d] }
  | _ => none }
def MappingMakesWrongFalsely : Prop := mappingMakesRow.holds Tryz.pinned (OpenSpec.ofChange mappingMakesWrong)

/-- 'unicodetextlaw10.PropertyMakes': WHATEVER THE INPUT: true; the input reads as it did. -/
def propertyMakesSpec : ChangeSpec := { name := "propertyMakes", fn := fun _ => fun
  | [d1, d2] => { results := [.lit (.bool true)], args := [d1, d2] }
  | _ => none }
def propertyMakesRow : OpenClaim := { program := "ytnegdnbodccgkaagreatdoor", sum := "72802e96af5043d82306da4918b2bb1e7ec4b09121ac6053bcc13b014bfe2bc4", func := "unicodetext/unicodetextlaw10.PropertyMakes", spec := "propertyMakes", inPlace := ["internal/bytealg.IndexByteString", "internal/bytealg.IndexString", "internal/bytealg.CountString", "slices.overlaps[unicodetext/api.Span]", "internal/abi.NoEscape", "internal/bytealg.MakeNoZero"], unfollowed := true, recurses := true, named := ["internal/bytealg.MaxLen", "unicode/utf8.first", "unicode/utf8.acceptRanges", "unicodetext/codepoint.digits"], plainKeys := false, apart := false, laid := [("unicode/utf8.acceptRanges", laid_unicode_utf8_acceptRanges), ("unicodetext/codepoint.digits", laid_unicodetext_codepoint_digits), ("unicode/utf8.first", laid_unicode_utf8_first)] }
def PropertyMakesSaid : Prop := propertyMakesRow.holds Tryz.pinned (OpenSpec.ofChange propertyMakesSpec)

/-- ITS FALSE NEIGHBOUR: 'it returns false'. Refute it at one input. -/
def propertyMakesWrong : ChangeSpec := { name := "propertyMakes", fn := fun _ => fun
  | [d1, d2] => { results := [.lit (.bool false)], args := [d1, d2] }
  | _ => none }
def PropertyMakesWrongFalsely : Prop := propertyMakesRow.holds Tryz.pinned (OpenSpec.ofChange propertyMakesWrong)

/-- 'unicodetextlaw10.PropertySets': WHATEVER THE INPUT: true; the input reads as it did. -/
def propertySetsSpec : ChangeSpec := { name := "propertySets", fn := fun _ => fun
  | [d1, d2, d3] => { results := [.lit (.bool true)], args := [d1, d2, d3] }
  | _ => none }
def propertySetsRow : OpenClaim := { program := "ytnegdnbodccgkaagreatdoor", sum := "72802e96af5043d82306da4918b2bb1e7ec4b09121ac6053bcc13b014bfe2bc4", func := "unicodetext/unicodetextlaw10.PropertySets", spec := "propertySets", inPlace := ["internal/bytealg.IndexByteString", "internal/bytealg.IndexString", "internal/bytealg.CountString", "slices.overlaps[unicodetext/api.Span]", "internal/abi.NoEscape", "internal/bytealg.MakeNoZero"], unfollowed := true, recurses := true, named := ["internal/bytealg.MaxLen", "unicode/utf8.first", "unicode/utf8.acceptRanges", "unicodetext/codepoint.digits"], plainKeys := false, apart := false, laid := [("unicode/utf8.acceptRanges", laid_unicode_utf8_acceptRanges), ("unicodetext/codepoint.digits", laid_unicodetext_codepoint_digits), ("unicode/utf8.first", laid_unicode_utf8_first)] }
def PropertySetsSaid : Prop := propertySetsRow.holds Tryz.pinned (OpenSpec.ofChange propertySetsSpec)

/-- ITS FALSE NEIGHBOUR: 'it returns false'. Refute it at one input. -/
def propertySetsWrong : ChangeSpec := { name := "propertySets", fn := fun _ => fun
  | [d1, d2, d3] => { results := [.lit (.bool false)], args := [d1, d2, d3] }
  | _ => none }
def PropertySetsWrongFalsely : Prop := propertySetsRow.holds Tryz.pinned (OpenSpec.ofChange propertySetsWrong)

/-- 'unicodetextlaw10.PropertyTexts': WHATEVER THE INPUT: true; the input reads as it did. -/
def propertyTextsSpec : ChangeSpec := { name := "propertyTexts", fn := fun _ => fun
  | [d] => { results := [.lit (.bool true)], args := [d] }
  | _ => none }
def propertyTextsRow : OpenClaim := { program := "ytnegdnbodccgkaagreatdoor", sum := "72802e96af5043d82306da4918b2bb1e7ec4b09121ac6053bcc13b014bfe2bc4", func := "unicodetext/unicodetextlaw10.PropertyTexts", spec := "propertyTexts", inPlace := ["internal/bytealg.IndexByteString", "internal/bytealg.IndexString", "internal/bytealg.CountString", "slices.overlaps[unicodetext/api.Span]", "internal/abi.NoEscape", "internal/bytealg.MakeNoZero"], unfollowed := true, recurses := true, named := ["internal/bytealg.MaxLen", "unicode/utf8.first", "unicode/utf8.acceptRanges", "unicodetext/codepoint.digits"], plainKeys := false, apart := false, laid := [("unicode/utf8.acceptRanges", laid_unicode_utf8_acceptRanges), ("unicodetext/codepoint.digits", laid_unicodetext_codepoint_digits), ("unicode/utf8.first", laid_unicode_utf8_first)] }
def PropertyTextsSaid : Prop := propertyTextsRow.holds Tryz.pinned (OpenSpec.ofChange propertyTextsSpec)

/-- ITS FALSE NEIGHBOUR: 'it returns false'. Refute it at one input. -/
def propertyTextsWrong : ChangeSpec := { name := "propertyTexts", fn := fun _ => fun
  | [d] => { results := [.lit (.bool false)], args := [d] }
  | _ => none }
def PropertyTextsWrongFalsely : Prop := propertyTextsRow.holds Tryz.pinned (OpenSpec.ofChange propertyTextsWrong)

/-- 'unicodetextlaw10.PropertyParses': WHATEVER THE INPUT: true; the input reads as it did. -/
def propertyParsesSpec : ChangeSpec := { name := "propertyParses", fn := fun _ => fun
  | [d] => { results := [.lit (.bool true)], args := [d] }
  | _ => none }
def propertyParsesRow : OpenClaim := { program := "ytnegdnbodccgkaagreatdoor", sum := "72802e96af5043d82306da4918b2bb1e7ec4b09121ac6053bcc13b014bfe2bc4", func := "unicodetext/unicodetextlaw10.PropertyParses", spec := "propertyParses", inPlace := ["internal/bytealg.IndexByteString", "internal/bytealg.IndexString", "internal/bytealg.CountString", "slices.overlaps[unicodetext/api.Span]", "internal/abi.NoEscape", "internal/bytealg.MakeNoZero"], unfollowed := true, recurses := true, named := ["internal/bytealg.MaxLen", "unicode/utf8.first", "unicode/utf8.acceptRanges", "unicodetext/codepoint.digits"], plainKeys := false, apart := false, laid := [("unicode/utf8.acceptRanges", laid_unicode_utf8_acceptRanges), ("unicodetext/codepoint.digits", laid_unicodetext_codepoint_digits), ("unicode/utf8.first", laid_unicode_utf8_first)] }
def PropertyParsesSaid : Prop := propertyParsesRow.holds Tryz.pinned (OpenSpec.ofChange propertyParsesSpec)

/-- ITS FALSE NEIGHBOUR: 'it returns false'. Refute it at one input. -/
def propertyParsesWrong : ChangeSpec := { name := "propertyParses", fn := fun _ => fun
  | [d] => { results := [.lit (.bool false)], args := [d] }
  | _ => none }
def PropertyParsesWrongFalsely : Prop := propertyParsesRow.holds Tryz.pinned (OpenSpec.ofChange propertyParsesWrong)

/-- 'unicodetextlaw10.PropertyDivides': WHATEVER THE INPUT: true; the input reads as it did. -/
def propertyDividesSpec : ChangeSpec := { name := "propertyDivides", fn := fun _ => fun
  | [d1, d2] => { results := [.lit (.bool true)], args := [d1, d2] }
  | _ => none }
def propertyDividesRow : OpenClaim := { program := "ytnegdnbodccgkaagreatdoor", sum := "72802e96af5043d82306da4918b2bb1e7ec4b09121ac6053bcc13b014bfe2bc4", func := "unicodetext/unicodetextlaw10.PropertyDivides", spec := "propertyDivides", inPlace := ["internal/bytealg.IndexByteString", "internal/bytealg.IndexString", "internal/bytealg.CountString", "slices.overlaps[unicodetext/api.Span]", "internal/abi.NoEscape", "internal/bytealg.MakeNoZero"], unfollowed := true, recurses := true, named := ["internal/bytealg.MaxLen", "unicode/utf8.first", "unicode/utf8.acceptRanges", "unicodetext/codepoint.digits"], plainKeys := false, apart := false, laid := [("unicode/utf8.acceptRanges", laid_unicode_utf8_acceptRanges), ("unicodetext/codepoint.digits", laid_unicodetext_codepoint_digits), ("unicode/utf8.first", laid_unicode_utf8_first)] }
def PropertyDividesSaid : Prop := propertyDividesRow.holds Tryz.pinned (OpenSpec.ofChange propertyDividesSpec)

/-- ITS FALSE NEIGHBOUR: 'it returns false'. Refute it at one input. -/
def propertyDividesWrong : ChangeSpec := { name := "propertyDivides", fn := fun _ => fun
  | [d1, d2] => { results := [.lit (.bool false)], args := [d1, d2] }
  | _ => none }
def PropertyDividesWrongFalsely : Prop := propertyDividesRow.holds Tryz.pinned (OpenSpec.ofChange propertyDividesWrong)

/-- 'unicodetextlaw10.PropertyOrder': WHATEVER THE INPUT: true; the input reads as it did. -/
def propertyOrderSpec : ChangeSpec := { name := "propertyOrder", fn := fun _ => fun
  | [d1, d2, d3] => { results := [.lit (.bool true)], args := [d1, d2, d3] }
  | _ => none }
def propertyOrderRow : OpenClaim := { program := "ytnegdnbodccgkaagreatdoor", sum := "72802e96af5043d82306da4918b2bb1e7ec4b09121ac6053bcc13b014bfe2bc4", func := "unicodetext/unicodetextlaw10.PropertyOrder", spec := "propertyOrder", inPlace := ["internal/bytealg.IndexByteString", "internal/bytealg.IndexString", "internal/bytealg.CountString", "slices.overlaps[unicodetext/api.Span]", "internal/abi.NoEscape", "internal/bytealg.MakeNoZero"], unfollowed := true, recurses := true, named := ["internal/bytealg.MaxLen", "unicode/utf8.first", "unicode/utf8.acceptRanges", "unicodetext/codepoint.digits"], plainKeys := false, apart := false, laid := [("unicode/utf8.acceptRanges", laid_unicode_utf8_acceptRanges), ("unicodetext/codepoint.digits", laid_unicodetext_codepoint_digits), ("unicode/utf8.first", laid_unicode_utf8_first)] }
def PropertyOrderSaid : Prop := propertyOrderRow.holds Tryz.pinned (OpenSpec.ofChange propertyOrderSpec)

/-- ITS FALSE NEIGHBOUR: 'it returns false'. Refute it at one input. -/
def propertyOrderWrong : ChangeSpec := { name := "propertyOrder", fn := fun _ => fun
  | [d1, d2, d3] => { results := [.lit (.bool false)], args := [d1, d2, d3] }
  | _ => none }
def PropertyOrderWrongFalsely : Prop := propertyOrderRow.holds Tryz.pinned (OpenSpec.ofChange propertyOrderWrong)

/- THE SECOND FORM. 'bulk': how many values and letters a reading holds, each counted each time it is reached (what is shared counts as often as it is met; a slice's spare places count too). A statement '..UptoSaid' is the law's where the arguments, and the package variables that the reading takes, are together of bulk at most 1048576: NARROWER than '..Said'. Prove '..Said' where nothing that the law and all that it calls make is longer than what came in: it says more and counts as full. Else prove '..UptoSaid'. A law counts once. -/
mutual
def uptoBulk {H : Type} : DataW H → Nat
  | .lit (.string bytes) => bytes.length + 1
  | .lit _ => 1
  | .nil => 1
  | .ptr d => uptoBulk d + 1
  | .slice elems spare => uptoBulkAll elems + uptoBulkAll spare + 1
  | .agg parts => uptoBulkAll parts + 1
  | .iface _ d => uptoBulk d + 1
  | .map entries => uptoBulkEntries entries + 1
  | .held _ => 1
def uptoBulkAll {H : Type} : List (DataW H) → Nat
  | [] => 0
  | d :: r => uptoBulk d + uptoBulkAll r
def uptoBulkEntries {H : Type} : List (Lit × DataW H) → Nat
  | [] => 0
  | x :: r => uptoBulkEntry x + uptoBulkEntries r
def uptoBulkEntry {H : Type} : Lit × DataW H → Nat
  | (.string bytes, d) => bytes.length + uptoBulk d + 1
  | (_, d) => uptoBulk d + 1
 end
def uptoSmall : (H : Type) → List (DataW H) → Bool := fun _ ds => decide (uptoBulkAll ds ≤ 1048576)
def OpenSpec.upto (s : _root_.Go.ChangeSpec) : _root_.Go.OpenSpec := { _root_.Go.OpenSpec.ofChange s with cond := some uptoSmall }

/-- 'unicodetextlaw17.VersionsBack', WHERE WHAT IT READS IS OF BULK AT MOST 1048576: true; the input reads as it did. -/
def versionsBackUptoRow : OpenClaim := { program := "ytnegdnbodccgkaagreatdoor", sum := "72802e96af5043d82306da4918b2bb1e7ec4b09121ac6053bcc13b014bfe2bc4", func := "unicodetext/unicodetextlaw17.VersionsBack", spec := "versionsBack", inPlace := ["internal/abi.NoEscape", "internal/bytealg.MakeNoZero"], unfollowed := true, recurses := true, named := ["internal/strconv.uint64pow10", "math/bits.deBruijn32tab", "math/bits.deBruijn64tab", "unicodetext/codepoint.digits"], plainKeys := false, apart := false, laid := [("math/bits.deBruijn32tab", laid_math_bits_deBruijn32tab), ("math/bits.deBruijn64tab", laid_math_bits_deBruijn64tab), ("internal/strconv.uint64pow10", laid_internal_strconv_uint64pow10), ("unicodetext/codepoint.digits", laid_unicodetext_codepoint_digits)], narrowed := true }
def VersionsBackUptoSaid : Prop := versionsBackUptoRow.holds Tryz.pinned (OpenSpec.upto versionsBackSpec)

/-- 'unicodetextlaw11.MappingParses', WHERE WHAT IT READS IS OF BULK AT MOST 1048576: true; the input reads as it did. -/
def mappingParsesUptoRow : OpenClaim := { program := "ytnegdnbodccgkaagreatdoor", sum := "72802e96af5043d82306da4918b2bb1e7ec4b09121ac6053bcc13b014bfe2bc4", func := "unicodetext/unicodetextlaw11.MappingParses", spec := "mappingParses", inPlace := ["internal/bytealg.IndexByteString", "internal/bytealg.IndexString", "internal/bytealg.CountString", "internal/abi.NoEscape", "internal/bytealg.MakeNoZero"], unfollowed := true, recurses := true, named := ["internal/bytealg.MaxLen", "unicode/utf8.first", "unicode/utf8.acceptRanges", "unicodetext/codepoint.digits"], plainKeys := false, apart := false, laid := [("unicode/utf8.acceptRanges", laid_unicode_utf8_acceptRanges), ("unicodetext/codepoint.digits", laid_unicodetext_codepoint_digits), ("unicode/utf8.first", laid_unicode_utf8_first)], narrowed := true }
def MappingParsesUptoSaid : Prop := mappingParsesUptoRow.holds Tryz.pinned (OpenSpec.upto mappingParsesSpec)

/-- 'unicodetextlaw11.MappingBack', WHERE WHAT IT READS IS OF BULK AT MOST 1048576: true; the input reads as it did. -/
def mappingBackUptoRow : OpenClaim := { program := "ytnegdnbodccgkaagreatdoor", sum := "72802e96af5043d82306da4918b2bb1e7ec4b09121ac6053bcc13b014bfe2bc4", func := "unicodetext/unicodetextlaw11.MappingBack", spec := "mappingBack", inPlace := ["internal/bytealg.IndexByteString", "internal/bytealg.IndexString", "internal/bytealg.CountString", "internal/abi.NoEscape", "internal/bytealg.MakeNoZero"], unfollowed := true, recurses := true, named := ["internal/bytealg.MaxLen", "unicode/utf8.first", "unicode/utf8.acceptRanges", "unicodetext/codepoint.digits"], plainKeys := false, apart := false, laid := [("unicode/utf8.acceptRanges", laid_unicode_utf8_acceptRanges), ("unicodetext/codepoint.digits", laid_unicodetext_codepoint_digits), ("unicode/utf8.first", laid_unicode_utf8_first)], narrowed := true }
def MappingBackUptoSaid : Prop := mappingBackUptoRow.holds Tryz.pinned (OpenSpec.upto mappingBackSpec)

/-- 'unicodetextlaw11.MappingMakes', WHERE WHAT IT READS IS OF BULK AT MOST 1048576: true; the input reads as it did. -/
def mappingMakesUptoRow : OpenClaim := { program := "ytnegdnbodccgkaagreatdoor", sum := "72802e96af5043d82306da4918b2bb1e7ec4b09121ac6053bcc13b014bfe2bc4", func := "unicodetext/unicodetextlaw11.MappingMakes", spec := "mappingMakes", inPlace := ["internal/bytealg.IndexByteString", "internal/bytealg.IndexString", "internal/bytealg.CountString", "internal/abi.NoEscape", "internal/bytealg.MakeNoZero"], unfollowed := true, recurses := true, named := ["internal/bytealg.MaxLen", "unicode/utf8.first", "unicode/utf8.acceptRanges", "unicodetext/codepoint.digits"], plainKeys := false, apart := false, laid := [("unicode/utf8.acceptRanges", laid_unicode_utf8_acceptRanges), ("unicodetext/codepoint.digits", laid_unicodetext_codepoint_digits), ("unicode/utf8.first", laid_unicode_utf8_first)], narrowed := true }
def MappingMakesUptoSaid : Prop := mappingMakesUptoRow.holds Tryz.pinned (OpenSpec.upto mappingMakesSpec)

/-- 'unicodetextlaw10.PropertyMakes', WHERE WHAT IT READS IS OF BULK AT MOST 1048576: true; the input reads as it did. -/
def propertyMakesUptoRow : OpenClaim := { program := "ytnegdnbodccgkaagreatdoor", sum := "72802e96af5043d82306da4918b2bb1e7ec4b09121ac6053bcc13b014bfe2bc4", func := "unicodetext/unicodetextlaw10.PropertyMakes", spec := "propertyMakes", inPlace := ["internal/bytealg.IndexByteString", "internal/bytealg.IndexString", "internal/bytealg.CountString", "slices.overlaps[unicodetext/api.Span]", "internal/abi.NoEscape", "internal/bytealg.MakeNoZero"], unfollowed := true, recurses := true, named := ["internal/bytealg.MaxLen", "unicode/utf8.first", "unicode/utf8.acceptRanges", "unicodetext/codepoint.digits"], plainKeys := false, apart := false, laid := [("unicode/utf8.acceptRanges", laid_unicode_utf8_acceptRanges), ("unicodetext/codepoint.digits", laid_unicodetext_codepoint_digits), ("unicode/utf8.first", laid_unicode_utf8_first)], narrowed := true }
def PropertyMakesUptoSaid : Prop := propertyMakesUptoRow.holds Tryz.pinned (OpenSpec.upto propertyMakesSpec)

/-- 'unicodetextlaw10.PropertySets', WHERE WHAT IT READS IS OF BULK AT MOST 1048576: true; the input reads as it did. -/
def propertySetsUptoRow : OpenClaim := { program := "ytnegdnbodccgkaagreatdoor", sum := "72802e96af5043d82306da4918b2bb1e7ec4b09121ac6053bcc13b014bfe2bc4", func := "unicodetext/unicodetextlaw10.PropertySets", spec := "propertySets", inPlace := ["internal/bytealg.IndexByteString", "internal/bytealg.IndexString", "internal/bytealg.CountString", "slices.overlaps[unicodetext/api.Span]", "internal/abi.NoEscape", "internal/bytealg.MakeNoZero"], unfollowed := true, recurses := true, named := ["internal/bytealg.MaxLen", "unicode/utf8.first", "unicode/utf8.acceptRanges", "unicodetext/codepoint.digits"], plainKeys := false, apart := false, laid := [("unicode/utf8.acceptRanges", laid_unicode_utf8_acceptRanges), ("unicodetext/codepoint.digits", laid_unicodetext_codepoint_digits), ("unicode/utf8.first", laid_unicode_utf8_first)], narrowed := true }
def PropertySetsUptoSaid : Prop := propertySetsUptoRow.holds Tryz.pinned (OpenSpec.upto propertySetsSpec)

/-- 'unicodetextlaw10.PropertyTexts', WHERE WHAT IT READS IS OF BULK AT MOST 1048576: true; the input reads as it did. -/
def propertyTextsUptoRow : OpenClaim := { program := "ytnegdnbodccgkaagreatdoor", sum := "72802e96af5043d82306da4918b2bb1e7ec4b09121ac6053bcc13b014bfe2bc4", func := "unicodetext/unicodetextlaw10.PropertyTexts", spec := "propertyTexts", inPlace := ["internal/bytealg.IndexByteString", "internal/bytealg.IndexString", "internal/bytealg.CountString", "slices.overlaps[unicodetext/api.Span]", "internal/abi.NoEscape", "internal/bytealg.MakeNoZero"], unfollowed := true, recurses := true, named := ["internal/bytealg.MaxLen", "unicode/utf8.first", "unicode/utf8.acceptRanges", "unicodetext/codepoint.digits"], plainKeys := false, apart := false, laid := [("unicode/utf8.acceptRanges", laid_unicode_utf8_acceptRanges), ("unicodetext/codepoint.digits", laid_unicodetext_codepoint_digits), ("unicode/utf8.first", laid_unicode_utf8_first)], narrowed := true }
def PropertyTextsUptoSaid : Prop := propertyTextsUptoRow.holds Tryz.pinned (OpenSpec.upto propertyTextsSpec)

/-- 'unicodetextlaw10.PropertyParses', WHERE WHAT IT READS IS OF BULK AT MOST 1048576: true; the input reads as it did. -/
def propertyParsesUptoRow : OpenClaim := { program := "ytnegdnbodccgkaagreatdoor", sum := "72802e96af5043d82306da4918b2bb1e7ec4b09121ac6053bcc13b014bfe2bc4", func := "unicodetext/unicodetextlaw10.PropertyParses", spec := "propertyParses", inPlace := ["internal/bytealg.IndexByteString", "internal/bytealg.IndexString", "internal/bytealg.CountString", "slices.overlaps[unicodetext/api.Span]", "internal/abi.NoEscape", "internal/bytealg.MakeNoZero"], unfollowed := true, recurses := true, named := ["internal/bytealg.MaxLen", "unicode/utf8.first", "unicode/utf8.acceptRanges", "unicodetext/codepoint.digits"], plainKeys := false, apart := false, laid := [("unicode/utf8.acceptRanges", laid_unicode_utf8_acceptRanges), ("unicodetext/codepoint.digits", laid_unicodetext_codepoint_digits), ("unicode/utf8.first", laid_unicode_utf8_first)], narrowed := true }
def PropertyParsesUptoSaid : Prop := propertyParsesUptoRow.holds Tryz.pinned (OpenSpec.upto propertyParsesSpec)

/-- 'unicodetextlaw10.PropertyDivides', WHERE WHAT IT READS IS OF BULK AT MOST 1048576: true; the input reads as it did. -/
def propertyDividesUptoRow : OpenClaim := { program := "ytnegdnbodccgkaagreatdoor", sum := "72802e96af5043d82306da4918b2bb1e7ec4b09121ac6053bcc13b014bfe2bc4", func := "unicodetext/unicodetextlaw10.PropertyDivides", spec := "propertyDivides", inPlace := ["internal/bytealg.IndexByteString", "internal/bytealg.IndexString", "internal/bytealg.CountString", "slices.overlaps[unicodetext/api.Span]", "internal/abi.NoEscape", "internal/bytealg.MakeNoZero"], unfollowed := true, recurses := true, named := ["internal/bytealg.MaxLen", "unicode/utf8.first", "unicode/utf8.acceptRanges", "unicodetext/codepoint.digits"], plainKeys := false, apart := false, laid := [("unicode/utf8.acceptRanges", laid_unicode_utf8_acceptRanges), ("unicodetext/codepoint.digits", laid_unicodetext_codepoint_digits), ("unicode/utf8.first", laid_unicode_utf8_first)], narrowed := true }
def PropertyDividesUptoSaid : Prop := propertyDividesUptoRow.holds Tryz.pinned (OpenSpec.upto propertyDividesSpec)

/-- 'unicodetextlaw10.PropertyOrder', WHERE WHAT IT READS IS OF BULK AT MOST 1048576: true; the input reads as it did. -/
def propertyOrderUptoRow : OpenClaim := { program := "ytnegdnbodccgkaagreatdoor", sum := "72802e96af5043d82306da4918b2bb1e7ec4b09121ac6053bcc13b014bfe2bc4", func := "unicodetext/unicodetextlaw10.PropertyOrder", spec := "propertyOrder", inPlace := ["internal/bytealg.IndexByteString", "internal/bytealg.IndexString", "internal/bytealg.CountString", "slices.overlaps[unicodetext/api.Span]", "internal/abi.NoEscape", "internal/bytealg.MakeNoZero"], unfollowed := true, recurses := true, named := ["internal/bytealg.MaxLen", "unicode/utf8.first", "unicode/utf8.acceptRanges", "unicodetext/codepoint.digits"], plainKeys := false, apart := false, laid := [("unicode/utf8.acceptRanges", laid_unicode_utf8_acceptRanges), ("unicodetext/codepoint.digits", laid_unicodetext_codepoint_digits), ("unicode/utf8.first", laid_unicode_utf8_first)], narrowed := true }
def PropertyOrderUptoSaid : Prop := propertyOrderUptoRow.holds Tryz.pinned (OpenSpec.upto propertyOrderSpec)

end Rows
end Go.Proofs.YtnegdnbodccgkaaGreatDoor
