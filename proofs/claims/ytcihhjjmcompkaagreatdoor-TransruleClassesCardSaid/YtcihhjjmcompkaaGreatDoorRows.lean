/-
  NARROWER THAN 'FOR EVERY INPUT', by the rows' own cells (each row's printed sentence says how): SetexprTexts: laid · SetexprComplements: laid · SetexprOperates: laid · SetexprBegins: laid · SetexprClasses: laid · SetexprLong: laid · TransruleParses: laid · TransruleBack: laid · TransruleLines: laid · TransruleClasses: laid · TransruleAlike: laid · TransruleDivides: laid.
  DERIVED. THE GIVEN ROWS OF THIS SEAT. 12 by the template 'for every input the law returns true; each argument reads behind the call as it read before'; 0 by the template 'total and deterministic' (their statements: YtcihhjjmcompkaaGreatDoorTotals.lean).
  GIVEN WITH THE SEED: the statements are not yours to turn. If you find one false, say at which input.
  Laid BY PROGRAM, IN A SANDBOX (cutbox-rows.mjs): the forced cells as the released guide's own fill.sh prints them over the translation 2da87b18fd479f21… (all of the seat's roots in one cut). By AI agents, Wed Nov 11 2026. No macro, syntax, notation, axiom, sorry.
-/
import Derived.Test.YtcihhjjmcompkaaGreatDoorChecked
import GoSem.PinnedTables
import GoSem.Claim
import GoSem.ClaimJoined
import GoSem.ClaimMapViews
import Derived.JoinedTies
import Derived.KernelRfl
namespace Go.Proofs.YtcihhjjmcompkaaGreatDoor
/- THE CELL 'sum', in the pinned program and in every row, IS THE sha256 OF THE DUMP (.gsa) THAT YtcihhjjmcompkaaGreatDoorProg.lean LOADS. Nothing in Lean hashes anything: it is a label: what it is worth is what the hold of that sum in a sandbox is worth. -/
noncomputable def Tryz.pinned : Pinned := { name := "ytcihhjjmcompkaagreatdoor", sum := "2da87b18fd479f21400da2dfa56298f6c1bf37916077fb6b94ffa6b36b100040", checked := Tryz.checked }
namespace Rows
def none {H : Type} : Left H := { results := [], args := [] }

/- WHAT THE LISTED PACKAGE-LEVEL VARIABLES READ AS WHEN THE CALL BEGINS. Each datum BY PROGRAM (the guide's laid-datum.mjs) off the statement by which the dump's own 'gosem.cut.vars' lays the variable. In a bare row this is a premise. The card (YtcihhjjmcompkaaGreatDoorCards.lean) ties it to the program's text. -/
def laid_unicode_utf8_acceptRanges {H : Type} : DataW H := .agg [.agg [.lit (.int .u8 128), .lit (.int .u8 191)], .agg [.lit (.int .u8 160), .lit (.int .u8 191)], .agg [.lit (.int .u8 128), .lit (.int .u8 159)], .agg [.lit (.int .u8 144), .lit (.int .u8 191)], .agg [.lit (.int .u8 128), .lit (.int .u8 143)], .agg [.lit (.int .u8 0), .lit (.int .u8 0)], .agg [.lit (.int .u8 0), .lit (.int .u8 0)], .agg [.lit (.int .u8 0), .lit (.int .u8 0)], .agg [.lit (.int .u8 0), .lit (.int .u8 0)], .agg [.lit (.int .u8 0), .lit (.int .u8 0)], .agg [.lit (.int .u8 0), .lit (.int .u8 0)], .agg [.lit (.int .u8 0), .lit (.int .u8 0)], .agg [.lit (.int .u8 0), .lit (.int .u8 0)], .agg [.lit (.int .u8 0), .lit (.int .u8 0)], .agg [.lit (.int .u8 0), .lit (.int .u8 0)], .agg [.lit (.int .u8 0), .lit (.int .u8 0)]]
def laid_unicodetext_codepoint_digits {H : Type} : DataW H := .agg [.lit (.int .u8 48), .lit (.int .u8 49), .lit (.int .u8 50), .lit (.int .u8 51), .lit (.int .u8 52), .lit (.int .u8 53), .lit (.int .u8 54), .lit (.int .u8 55), .lit (.int .u8 56), .lit (.int .u8 57), .lit (.int .u8 65), .lit (.int .u8 66), .lit (.int .u8 67), .lit (.int .u8 68), .lit (.int .u8 69), .lit (.int .u8 70)]
/-- One of Go's own tables, pinned by name: the form's constant. -/
def laid_unicode_utf8_first : DataW Unit := Go.Pinned.utf8First
def laid_math_bits_deBruijn32tab {H : Type} : DataW H := .agg [.lit (.int .u8 0), .lit (.int .u8 1), .lit (.int .u8 28), .lit (.int .u8 2), .lit (.int .u8 29), .lit (.int .u8 14), .lit (.int .u8 24), .lit (.int .u8 3), .lit (.int .u8 30), .lit (.int .u8 22), .lit (.int .u8 20), .lit (.int .u8 15), .lit (.int .u8 25), .lit (.int .u8 17), .lit (.int .u8 4), .lit (.int .u8 8), .lit (.int .u8 31), .lit (.int .u8 27), .lit (.int .u8 13), .lit (.int .u8 23), .lit (.int .u8 21), .lit (.int .u8 19), .lit (.int .u8 16), .lit (.int .u8 7), .lit (.int .u8 26), .lit (.int .u8 12), .lit (.int .u8 18), .lit (.int .u8 6), .lit (.int .u8 11), .lit (.int .u8 5), .lit (.int .u8 10), .lit (.int .u8 9)]
def laid_math_bits_deBruijn64tab {H : Type} : DataW H := .agg [.lit (.int .u8 0), .lit (.int .u8 1), .lit (.int .u8 56), .lit (.int .u8 2), .lit (.int .u8 57), .lit (.int .u8 49), .lit (.int .u8 28), .lit (.int .u8 3), .lit (.int .u8 61), .lit (.int .u8 58), .lit (.int .u8 42), .lit (.int .u8 50), .lit (.int .u8 38), .lit (.int .u8 29), .lit (.int .u8 17), .lit (.int .u8 4), .lit (.int .u8 62), .lit (.int .u8 47), .lit (.int .u8 59), .lit (.int .u8 36), .lit (.int .u8 45), .lit (.int .u8 43), .lit (.int .u8 51), .lit (.int .u8 22), .lit (.int .u8 53), .lit (.int .u8 39), .lit (.int .u8 33), .lit (.int .u8 30), .lit (.int .u8 24), .lit (.int .u8 18), .lit (.int .u8 12), .lit (.int .u8 5), .lit (.int .u8 63), .lit (.int .u8 55), .lit (.int .u8 48), .lit (.int .u8 27), .lit (.int .u8 60), .lit (.int .u8 41), .lit (.int .u8 37), .lit (.int .u8 16), .lit (.int .u8 46), .lit (.int .u8 35), .lit (.int .u8 44), .lit (.int .u8 21), .lit (.int .u8 52), .lit (.int .u8 32), .lit (.int .u8 23), .lit (.int .u8 11), .lit (.int .u8 54), .lit (.int .u8 26), .lit (.int .u8 40), .lit (.int .u8 15), .lit (.int .u8 34), .lit (.int .u8 20), .lit (.int .u8 31), .lit (.int .u8 10), .lit (.int .u8 25), .lit (.int .u8 14), .lit (.int .u8 19), .lit (.int .u8 9), .lit (.int .u8 13), .lit (.int .u8 8), .lit (.int .u8 7), .lit (.int .u8 6)]
def laid_internal_strconv_uint64pow10 {H : Type} : DataW H := .agg [.lit (.int .u64 1), .lit (.int .u64 10), .lit (.int .u64 100), .lit (.int .u64 1000), .lit (.int .u64 10000), .lit (.int .u64 100000), .lit (.int .u64 1000000), .lit (.int .u64 10000000), .lit (.int .u64 100000000), .lit (.int .u64 1000000000), .lit (.int .u64 10000000000), .lit (.int .u64 100000000000), .lit (.int .u64 1000000000000), .lit (.int .u64 10000000000000), .lit (.int .u64 100000000000000), .lit (.int .u64 1000000000000000), .lit (.int .u64 10000000000000000), .lit (.int .u64 100000000000000000), .lit (.int .u64 1000000000000000000), .lit (.int .u64 10000000000000000000)]
/-- One of Go's own tables, pinned by name: the form's constant. -/
def laid_unicode_CaseRanges : DataW Unit := Go.Pinned.caseRanges

/-- 'unicodetextlaw18.SetexprTexts': WHATEVER THE INPUT: true; the input reads as it did. -/
def setexprTextsSpec : ChangeSpec := { name := "setexprTexts", fn := fun _ => fun
  | [d] => { results := [.lit (.bool true)], args := [d] }
  | _ => none }
def setexprTextsRow : OpenClaim := { program := "ytcihhjjmcompkaagreatdoor", sum := "2da87b18fd479f21400da2dfa56298f6c1bf37916077fb6b94ffa6b36b100040", func := "unicodetext/unicodetextlaw18.SetexprTexts", spec := "setexprTexts", inPlace := ["internal/bytealg.IndexByteString", "internal/abi.NoEscape", "internal/bytealg.IndexString"], unfollowed := true, recurses := true, named := ["unicodetext/codepoint.digits", "unicode/utf8.first", "unicode/utf8.acceptRanges", "internal/bytealg.MaxLen"], plainKeys := false, apart := false, laid := [("unicode/utf8.acceptRanges", laid_unicode_utf8_acceptRanges), ("unicodetext/codepoint.digits", laid_unicodetext_codepoint_digits), ("unicode/utf8.first", laid_unicode_utf8_first)] }
def SetexprTextsSaid : Prop := setexprTextsRow.holds Tryz.pinned (OpenSpec.ofChange setexprTextsSpec)

/-- ITS FALSE NEIGHBOUR: 'it returns false'. Refute it at one input. -/
def setexprTextsWrong : ChangeSpec := { name := "setexprTexts", fn := fun _ => fun
  | [d] => { results := [.lit (.bool false)], args := [d] }
  | _ => none }
def SetexprTextsWrongFalsely : Prop := setexprTextsRow.holds Tryz.pinned (OpenSpec.ofChange setexprTextsWrong)

/-- 'unicodetextlaw18.SetexprComplements': WHATEVER THE INPUT: true; the input reads as it did. -/
def setexprComplementsSpec : ChangeSpec := { name := "setexprComplements", fn := fun _ => fun
  | [d] => { results := [.lit (.bool true)], args := [d] }
  | _ => none }
def setexprComplementsRow : OpenClaim := { program := "ytcihhjjmcompkaagreatdoor", sum := "2da87b18fd479f21400da2dfa56298f6c1bf37916077fb6b94ffa6b36b100040", func := "unicodetext/unicodetextlaw18.SetexprComplements", spec := "setexprComplements", inPlace := ["internal/bytealg.IndexByteString", "internal/abi.NoEscape", "internal/bytealg.IndexString"], unfollowed := true, recurses := true, named := ["unicodetext/codepoint.digits", "unicode/utf8.first", "unicode/utf8.acceptRanges", "internal/bytealg.MaxLen"], plainKeys := false, apart := false, laid := [("unicode/utf8.acceptRanges", laid_unicode_utf8_acceptRanges), ("unicodetext/codepoint.digits", laid_unicodetext_codepoint_digits), ("unicode/utf8.first", laid_unicode_utf8_first)] }
def SetexprComplementsSaid : Prop := setexprComplementsRow.holds Tryz.pinned (OpenSpec.ofChange setexprComplementsSpec)

/-- ITS FALSE NEIGHBOUR: 'it returns false'. Refute it at one input. -/
def setexprComplementsWrong : ChangeSpec := { name := "setexprComplements", fn := fun _ => fun
  | [d] => { results := [.lit (.bool false)], args := [d] }
  | _ => none }
def SetexprComplementsWrongFalsely : Prop := setexprComplementsRow.holds Tryz.pinned (OpenSpec.ofChange setexprComplementsWrong)

/-- 'unicodetextlaw18.SetexprOperates': WHATEVER THE INPUT: true; the input reads as it did. -/
def setexprOperatesSpec : ChangeSpec := { name := "setexprOperates", fn := fun _ => fun
  | [d1, d2] => { results := [.lit (.bool true)], args := [d1, d2] }
  | _ => none }
def setexprOperatesRow : OpenClaim := { program := "ytcihhjjmcompkaagreatdoor", sum := "2da87b18fd479f21400da2dfa56298f6c1bf37916077fb6b94ffa6b36b100040", func := "unicodetext/unicodetextlaw18.SetexprOperates", spec := "setexprOperates", inPlace := ["internal/bytealg.IndexByteString", "internal/abi.NoEscape", "internal/bytealg.IndexString"], unfollowed := true, recurses := true, named := ["unicodetext/codepoint.digits", "unicode/utf8.first", "unicode/utf8.acceptRanges", "internal/bytealg.MaxLen"], plainKeys := false, apart := false, laid := [("unicode/utf8.acceptRanges", laid_unicode_utf8_acceptRanges), ("unicodetext/codepoint.digits", laid_unicodetext_codepoint_digits), ("unicode/utf8.first", laid_unicode_utf8_first)] }
def SetexprOperatesSaid : Prop := setexprOperatesRow.holds Tryz.pinned (OpenSpec.ofChange setexprOperatesSpec)

/-- ITS FALSE NEIGHBOUR: 'it returns false'. Refute it at one input. -/
def setexprOperatesWrong : ChangeSpec := { name := "setexprOperates", fn := fun _ => fun
  | [d1, d2] => { results := [.lit (.bool false)], args := [d1, d2] }
  | _ => none }
def SetexprOperatesWrongFalsely : Prop := setexprOperatesRow.holds Tryz.pinned (OpenSpec.ofChange setexprOperatesWrong)

/-- 'unicodetextlaw18.SetexprBegins': WHATEVER THE INPUT: true; the input reads as it did. -/
def setexprBeginsSpec : ChangeSpec := { name := "setexprBegins", fn := fun _ => fun
  | [d1, d2] => { results := [.lit (.bool true)], args := [d1, d2] }
  | _ => none }
def setexprBeginsRow : OpenClaim := { program := "ytcihhjjmcompkaagreatdoor", sum := "2da87b18fd479f21400da2dfa56298f6c1bf37916077fb6b94ffa6b36b100040", func := "unicodetext/unicodetextlaw18.SetexprBegins", spec := "setexprBegins", inPlace := ["internal/bytealg.IndexByteString", "internal/abi.NoEscape", "internal/bytealg.IndexString"], unfollowed := true, recurses := true, named := ["unicodetext/codepoint.digits", "unicode/utf8.first", "unicode/utf8.acceptRanges", "internal/bytealg.MaxLen"], plainKeys := false, apart := false, laid := [("unicode/utf8.acceptRanges", laid_unicode_utf8_acceptRanges), ("unicodetext/codepoint.digits", laid_unicodetext_codepoint_digits), ("unicode/utf8.first", laid_unicode_utf8_first)] }
def SetexprBeginsSaid : Prop := setexprBeginsRow.holds Tryz.pinned (OpenSpec.ofChange setexprBeginsSpec)

/-- ITS FALSE NEIGHBOUR: 'it returns false'. Refute it at one input. -/
def setexprBeginsWrong : ChangeSpec := { name := "setexprBegins", fn := fun _ => fun
  | [d1, d2] => { results := [.lit (.bool false)], args := [d1, d2] }
  | _ => none }
def SetexprBeginsWrongFalsely : Prop := setexprBeginsRow.holds Tryz.pinned (OpenSpec.ofChange setexprBeginsWrong)

/-- 'unicodetextlaw18.SetexprClasses': WHATEVER THE INPUT: true; the input reads as it did. -/
def setexprClassesSpec : ChangeSpec := { name := "setexprClasses", fn := fun _ => fun
  | [d1, d2, d3] => { results := [.lit (.bool true)], args := [d1, d2, d3] }
  | _ => none }
def setexprClassesRow : OpenClaim := { program := "ytcihhjjmcompkaagreatdoor", sum := "2da87b18fd479f21400da2dfa56298f6c1bf37916077fb6b94ffa6b36b100040", func := "unicodetext/unicodetextlaw18.SetexprClasses", spec := "setexprClasses", inPlace := ["internal/bytealg.IndexByteString", "internal/abi.NoEscape", "internal/bytealg.IndexString"], unfollowed := true, recurses := true, named := ["unicodetext/codepoint.digits", "unicode/utf8.first", "unicode/utf8.acceptRanges", "internal/bytealg.MaxLen"], plainKeys := false, apart := false, laid := [("unicode/utf8.acceptRanges", laid_unicode_utf8_acceptRanges), ("unicodetext/codepoint.digits", laid_unicodetext_codepoint_digits), ("unicode/utf8.first", laid_unicode_utf8_first)] }
def SetexprClassesSaid : Prop := setexprClassesRow.holds Tryz.pinned (OpenSpec.ofChange setexprClassesSpec)

/-- ITS FALSE NEIGHBOUR: 'it returns false'. Refute it at one input. -/
def setexprClassesWrong : ChangeSpec := { name := "setexprClasses", fn := fun _ => fun
  | [d1, d2, d3] => { results := [.lit (.bool false)], args := [d1, d2, d3] }
  | _ => none }
def SetexprClassesWrongFalsely : Prop := setexprClassesRow.holds Tryz.pinned (OpenSpec.ofChange setexprClassesWrong)

/-- 'unicodetextlaw18.SetexprLong': WHATEVER THE INPUT: true; the input reads as it did. -/
def setexprLongSpec : ChangeSpec := { name := "setexprLong", fn := fun _ => fun
  | [d] => { results := [.lit (.bool true)], args := [d] }
  | _ => none }
def setexprLongRow : OpenClaim := { program := "ytcihhjjmcompkaagreatdoor", sum := "2da87b18fd479f21400da2dfa56298f6c1bf37916077fb6b94ffa6b36b100040", func := "unicodetext/unicodetextlaw18.SetexprLong", spec := "setexprLong", inPlace := ["internal/bytealg.IndexByteString", "internal/abi.NoEscape", "internal/bytealg.IndexString"], unfollowed := true, recurses := true, named := ["unicodetext/codepoint.digits", "unicode/utf8.first", "unicode/utf8.acceptRanges", "internal/bytealg.MaxLen"], plainKeys := false, apart := false, laid := [("unicode/utf8.acceptRanges", laid_unicode_utf8_acceptRanges), ("unicodetext/codepoint.digits", laid_unicodetext_codepoint_digits), ("unicode/utf8.first", laid_unicode_utf8_first)] }
def SetexprLongSaid : Prop := setexprLongRow.holds Tryz.pinned (OpenSpec.ofChange setexprLongSpec)

/-- ITS FALSE NEIGHBOUR: 'it returns false'. Refute it at one input. -/
def setexprLongWrong : ChangeSpec := { name := "setexprLong", fn := fun _ => fun
  | [d] => { results := [.lit (.bool false)], args := [d] }
  | _ => none }
def SetexprLongWrongFalsely : Prop := setexprLongRow.holds Tryz.pinned (OpenSpec.ofChange setexprLongWrong)

/-- 'unicodetextlaw50.TransruleParses': WHATEVER THE INPUT: true; the input reads as it did. -/
def transruleParsesSpec : ChangeSpec := { name := "transruleParses", fn := fun _ => fun
  | [d1, d2] => { results := [.lit (.bool true)], args := [d1, d2] }
  | _ => none }
def transruleParsesRow : OpenClaim := { program := "ytcihhjjmcompkaagreatdoor", sum := "2da87b18fd479f21400da2dfa56298f6c1bf37916077fb6b94ffa6b36b100040", func := "unicodetext/unicodetextlaw50.TransruleParses", spec := "transruleParses", inPlace := ["internal/bytealg.CountString", "internal/bytealg.IndexByteString", "internal/bytealg.IndexString", "internal/abi.NoEscape", "internal/bytealg.MakeNoZero"], unfollowed := true, recurses := true, named := ["unicode/utf8.first", "unicode/utf8.acceptRanges", "internal/bytealg.MaxLen", "unicodetext/codepoint.digits", "internal/strconv.uint64pow10", "math/bits.deBruijn32tab", "math/bits.deBruijn64tab", "unicode.CaseRanges"], plainKeys := false, apart := false, laid := [("math/bits.deBruijn32tab", laid_math_bits_deBruijn32tab), ("math/bits.deBruijn64tab", laid_math_bits_deBruijn64tab), ("internal/strconv.uint64pow10", laid_internal_strconv_uint64pow10), ("unicode/utf8.acceptRanges", laid_unicode_utf8_acceptRanges), ("unicodetext/codepoint.digits", laid_unicodetext_codepoint_digits), ("unicode.CaseRanges", laid_unicode_CaseRanges), ("unicode/utf8.first", laid_unicode_utf8_first)] }
def TransruleParsesSaid : Prop := transruleParsesRow.holds Tryz.pinned (OpenSpec.ofChange transruleParsesSpec)

/-- ITS FALSE NEIGHBOUR: 'it returns false'. Refute it at one input. -/
def transruleParsesWrong : ChangeSpec := { name := "transruleParses", fn := fun _ => fun
  | [d1, d2] => { results := [.lit (.bool false)], args := [d1, d2] }
  | _ => none }
def TransruleParsesWrongFalsely : Prop := transruleParsesRow.holds Tryz.pinned (OpenSpec.ofChange transruleParsesWrong)

/-- 'unicodetextlaw50.TransruleBack': WHATEVER THE INPUT: true; the input reads as it did. -/
def transruleBackSpec : ChangeSpec := { name := "transruleBack", fn := fun _ => fun
  | [d1, d2, d3] => { results := [.lit (.bool true)], args := [d1, d2, d3] }
  | _ => none }
def transruleBackRow : OpenClaim := { program := "ytcihhjjmcompkaagreatdoor", sum := "2da87b18fd479f21400da2dfa56298f6c1bf37916077fb6b94ffa6b36b100040", func := "unicodetext/unicodetextlaw50.TransruleBack", spec := "transruleBack", inPlace := ["internal/bytealg.CountString", "internal/bytealg.IndexByteString", "internal/bytealg.IndexString", "internal/abi.NoEscape", "internal/bytealg.MakeNoZero"], unfollowed := true, recurses := true, named := ["unicode/utf8.first", "unicode/utf8.acceptRanges", "internal/bytealg.MaxLen", "unicodetext/codepoint.digits", "internal/strconv.uint64pow10", "math/bits.deBruijn32tab", "math/bits.deBruijn64tab", "unicode.CaseRanges"], plainKeys := false, apart := false, laid := [("math/bits.deBruijn32tab", laid_math_bits_deBruijn32tab), ("math/bits.deBruijn64tab", laid_math_bits_deBruijn64tab), ("internal/strconv.uint64pow10", laid_internal_strconv_uint64pow10), ("unicode/utf8.acceptRanges", laid_unicode_utf8_acceptRanges), ("unicodetext/codepoint.digits", laid_unicodetext_codepoint_digits), ("unicode.CaseRanges", laid_unicode_CaseRanges), ("unicode/utf8.first", laid_unicode_utf8_first)] }
def TransruleBackSaid : Prop := transruleBackRow.holds Tryz.pinned (OpenSpec.ofChange transruleBackSpec)

/-- ITS FALSE NEIGHBOUR: 'it returns false'. Refute it at one input. -/
def transruleBackWrong : ChangeSpec := { name := "transruleBack", fn := fun _ => fun
  | [d1, d2, d3] => { results := [.lit (.bool false)], args := [d1, d2, d3] }
  | _ => none }
def TransruleBackWrongFalsely : Prop := transruleBackRow.holds Tryz.pinned (OpenSpec.ofChange transruleBackWrong)

/-- 'unicodetextlaw50.TransruleLines': WHATEVER THE INPUT: true; the input reads as it did. -/
def transruleLinesSpec : ChangeSpec := { name := "transruleLines", fn := fun _ => fun
  | [d1, d2, d3] => { results := [.lit (.bool true)], args := [d1, d2, d3] }
  | _ => none }
def transruleLinesRow : OpenClaim := { program := "ytcihhjjmcompkaagreatdoor", sum := "2da87b18fd479f21400da2dfa56298f6c1bf37916077fb6b94ffa6b36b100040", func := "unicodetext/unicodetextlaw50.TransruleLines", spec := "transruleLines", inPlace := ["internal/bytealg.CountString", "internal/bytealg.IndexByteString", "internal/bytealg.IndexString", "internal/abi.NoEscape", "internal/bytealg.MakeNoZero"], unfollowed := true, recurses := true, named := ["unicode/utf8.first", "unicode/utf8.acceptRanges", "internal/bytealg.MaxLen", "unicodetext/codepoint.digits", "internal/strconv.uint64pow10", "math/bits.deBruijn32tab", "math/bits.deBruijn64tab", "unicode.CaseRanges"], plainKeys := false, apart := false, laid := [("math/bits.deBruijn32tab", laid_math_bits_deBruijn32tab), ("math/bits.deBruijn64tab", laid_math_bits_deBruijn64tab), ("internal/strconv.uint64pow10", laid_internal_strconv_uint64pow10), ("unicode/utf8.acceptRanges", laid_unicode_utf8_acceptRanges), ("unicodetext/codepoint.digits", laid_unicodetext_codepoint_digits), ("unicode.CaseRanges", laid_unicode_CaseRanges), ("unicode/utf8.first", laid_unicode_utf8_first)] }
def TransruleLinesSaid : Prop := transruleLinesRow.holds Tryz.pinned (OpenSpec.ofChange transruleLinesSpec)

/-- ITS FALSE NEIGHBOUR: 'it returns false'. Refute it at one input. -/
def transruleLinesWrong : ChangeSpec := { name := "transruleLines", fn := fun _ => fun
  | [d1, d2, d3] => { results := [.lit (.bool false)], args := [d1, d2, d3] }
  | _ => none }
def TransruleLinesWrongFalsely : Prop := transruleLinesRow.holds Tryz.pinned (OpenSpec.ofChange transruleLinesWrong)

/-- 'unicodetextlaw50.TransruleClasses': WHATEVER THE INPUT: true; the input reads as it did. -/
def transruleClassesSpec : ChangeSpec := { name := "transruleClasses", fn := fun _ => fun
  | [d] => { results := [.lit (.bool true)], args := [d] }
  | _ => none }
def transruleClassesRow : OpenClaim := { program := "ytcihhjjmcompkaagreatdoor", sum := "2da87b18fd479f21400da2dfa56298f6c1bf37916077fb6b94ffa6b36b100040", func := "unicodetext/unicodetextlaw50.TransruleClasses", spec := "transruleClasses", inPlace := ["internal/bytealg.CountString", "internal/bytealg.IndexByteString", "internal/bytealg.IndexString", "internal/abi.NoEscape", "internal/bytealg.MakeNoZero"], unfollowed := true, recurses := true, named := ["unicode/utf8.first", "unicode/utf8.acceptRanges", "internal/bytealg.MaxLen", "unicodetext/codepoint.digits", "internal/strconv.uint64pow10", "math/bits.deBruijn32tab", "math/bits.deBruijn64tab", "unicode.CaseRanges"], plainKeys := false, apart := false, laid := [("math/bits.deBruijn32tab", laid_math_bits_deBruijn32tab), ("math/bits.deBruijn64tab", laid_math_bits_deBruijn64tab), ("internal/strconv.uint64pow10", laid_internal_strconv_uint64pow10), ("unicode/utf8.acceptRanges", laid_unicode_utf8_acceptRanges), ("unicodetext/codepoint.digits", laid_unicodetext_codepoint_digits), ("unicode.CaseRanges", laid_unicode_CaseRanges), ("unicode/utf8.first", laid_unicode_utf8_first)] }
def TransruleClassesSaid : Prop := transruleClassesRow.holds Tryz.pinned (OpenSpec.ofChange transruleClassesSpec)

/-- ITS FALSE NEIGHBOUR: 'it returns false'. Refute it at one input. -/
def transruleClassesWrong : ChangeSpec := { name := "transruleClasses", fn := fun _ => fun
  | [d] => { results := [.lit (.bool false)], args := [d] }
  | _ => none }
def TransruleClassesWrongFalsely : Prop := transruleClassesRow.holds Tryz.pinned (OpenSpec.ofChange transruleClassesWrong)

/-- 'unicodetextlaw50.TransruleAlike': WHATEVER THE INPUT: true; the input reads as it did. -/
def transruleAlikeSpec : ChangeSpec := { name := "transruleAlike", fn := fun _ => fun
  | [d1, d2, d3] => { results := [.lit (.bool true)], args := [d1, d2, d3] }
  | _ => none }
def transruleAlikeRow : OpenClaim := { program := "ytcihhjjmcompkaagreatdoor", sum := "2da87b18fd479f21400da2dfa56298f6c1bf37916077fb6b94ffa6b36b100040", func := "unicodetext/unicodetextlaw50.TransruleAlike", spec := "transruleAlike", inPlace := ["internal/bytealg.CountString", "internal/bytealg.IndexByteString", "internal/bytealg.IndexString", "internal/abi.NoEscape", "internal/bytealg.MakeNoZero"], unfollowed := true, recurses := true, named := ["unicode/utf8.first", "unicode/utf8.acceptRanges", "internal/bytealg.MaxLen", "unicodetext/codepoint.digits", "internal/strconv.uint64pow10", "math/bits.deBruijn32tab", "math/bits.deBruijn64tab", "unicode.CaseRanges"], plainKeys := false, apart := false, laid := [("math/bits.deBruijn32tab", laid_math_bits_deBruijn32tab), ("math/bits.deBruijn64tab", laid_math_bits_deBruijn64tab), ("internal/strconv.uint64pow10", laid_internal_strconv_uint64pow10), ("unicode/utf8.acceptRanges", laid_unicode_utf8_acceptRanges), ("unicodetext/codepoint.digits", laid_unicodetext_codepoint_digits), ("unicode.CaseRanges", laid_unicode_CaseRanges), ("unicode/utf8.first", laid_unicode_utf8_first)] }
def TransruleAlikeSaid : Prop := transruleAlikeRow.holds Tryz.pinned (OpenSpec.ofChange transruleAlikeSpec)

/-- ITS FALSE NEIGHBOUR: 'it returns false'. Refute it at one input. -/
def transruleAlikeWrong : ChangeSpec := { name := "transruleAlike", fn := fun _ => fun
  | [d1, d2, d3] => { results := [.lit (.bool false)], args := [d1, d2, d3] }
  | _ => none }
def TransruleAlikeWrongFalsely : Prop := transruleAlikeRow.holds Tryz.pinned (OpenSpec.ofChange transruleAlikeWrong)

/-- 'unicodetextlaw50.TransruleDivides': WHATEVER THE INPUT: true; the input reads as it did. -/
def transruleDividesSpec : ChangeSpec := { name := "transruleDivides", fn := fun _ => fun
  | [d1, d2] => { results := [.lit (.bool true)], args := [d1, d2] }
  | _ => none }
def transruleDividesRow : OpenClaim := { program := "ytcihhjjmcompkaagreatdoor", sum := "2da87b18fd479f21400da2dfa56298f6c1bf37916077fb6b94ffa6b36b100040", func := "unicodetext/unicodetextlaw50.TransruleDivides", spec := "transruleDivides", inPlace := ["internal/bytealg.CountString", "internal/bytealg.IndexByteString", "internal/bytealg.IndexString", "internal/abi.NoEscape", "internal/bytealg.MakeNoZero"], unfollowed := true, recurses := true, named := ["unicode/utf8.first", "unicode/utf8.acceptRanges", "internal/bytealg.MaxLen", "unicodetext/codepoint.digits", "internal/strconv.uint64pow10", "math/bits.deBruijn32tab", "math/bits.deBruijn64tab", "unicode.CaseRanges"], plainKeys := false, apart := false, laid := [("math/bits.deBruijn32tab", laid_math_bits_deBruijn32tab), ("math/bits.deBruijn64tab", laid_math_bits_deBruijn64tab), ("internal/strconv.uint64pow10", laid_internal_strconv_uint64pow10), ("unicode/utf8.acceptRanges", laid_unicode_utf8_acceptRanges), ("unicodetext/codepoint.digits", laid_unicodetext_codepoint_digits), ("unicode.CaseRanges", laid_unicode_CaseRanges), ("unicode/utf8.first", laid_unicode_utf8_first)] }
def TransruleDividesSaid : Prop := transruleDividesRow.holds Tryz.pinned (OpenSpec.ofChange transruleDividesSpec)

/-- ITS FALSE NEIGHBOUR: 'it returns false'. Refute it at one input. -/
def transruleDividesWrong : ChangeSpec := { name := "transruleDivides", fn := fun _ => fun
  | [d1, d2] => { results := [.lit (.bool false)], args := [d1, d2] }
  | _ => none }
def TransruleDividesWrongFalsely : Prop := transruleDividesRow.holds Tryz.pinned (OpenSpec.ofChange transruleDividesWrong)

/- THE SECOND FORM. 'bulk': how many values and letters a reading holds, each counted each time it is reached (what is shared counts as often as it is met; a slice's spare places count too). A statement '..UptoSaid' is the law's where the arguments, and the package variables that the reading takes, are together of bulk at most 1048576: NARROWER than '..Said'. Prove '..Said' where nothing that the law and all that it calls make is longer than what came in: it says more and counts as full. Else prove '..UptoSaid'. A law counts once. -/
mutual
def uptoBulk {H : Type} : DataW H → Nat
  | .lit (.string bytes) => bytes.length + 1
  | .lit _ => 1
  | .nil => 1
  | .ptr d => uptoBulk d + 1
  | .slice elems spare => uptoBulkAll elems + uptoBulkAll spare + 1
  | .agg parts => uptoBulkAll parts + 1
  | .iface _ d => uptoBulk d + 1
  | .map entries => uptoBulkEntries entries + 1
  | .held _ => 1
def uptoBulkAll {H : Type} : List (DataW H) → Nat
  | [] => 0
  | d :: r => uptoBulk d + uptoBulkAll r
def uptoBulkEntries {H : Type} : List (Lit × DataW H) → Nat
  | [] => 0
  | x :: r => uptoBulkEntry x + uptoBulkEntries r
def uptoBulkEntry {H : Type} : Lit × DataW H → Nat
  | (.string bytes, d) => bytes.length + uptoBulk d + 1
  | (_, d) => uptoBulk d + 1
 end
def uptoSmall : (H : Type) → List (DataW H) → Bool := fun _ ds => decide (uptoBulkAll ds ≤ 1048576)
def OpenSpec.upto (s : _root_.Go.ChangeSpec) : _root_.Go.OpenSpec := { _root_.Go.OpenSpec.ofChange s with cond := some uptoSmall }

/-- 'unicodetextlaw18.SetexprTexts', WHERE WHAT IT READS IS OF BULK AT MOST 1048576: true; the input reads as it did. -/
def setexprTextsUptoRow : OpenClaim := { program := "ytcihhjjmcompkaagreatdoor", sum := "2da87b18fd479f21400da2dfa56298f6c1bf37916077fb6b94ffa6b36b100040", func := "unicodetext/unicodetextlaw18.SetexprTexts", spec := "setexprTexts", inPlace := ["internal/bytealg.IndexByteString", "internal/abi.NoEscape", "internal/bytealg.IndexString"], unfollowed := true, recurses := true, named := ["unicodetext/codepoint.digits", "unicode/utf8.first", "unicode/utf8.acceptRanges", "internal/bytealg.MaxLen"], plainKeys := false, apart := false, laid := [("unicode/utf8.acceptRanges", laid_unicode_utf8_acceptRanges), ("unicodetext/codepoint.digits", laid_unicodetext_codepoint_digits), ("unicode/utf8.first", laid_unicode_utf8_first)], narrowed := true }
def SetexprTextsUptoSaid : Prop := setexprTextsUptoRow.holds Tryz.pinned (OpenSpec.upto setexprTextsSpec)

/-- 'unicodetextlaw18.SetexprComplements', WHERE WHAT IT READS IS OF BULK AT MOST 1048576: true; the input reads as it did. -/
def setexprComplementsUptoRow : OpenClaim := { program := "ytcihhjjmcompkaagreatdoor", sum := "2da87b18fd479f21400da2dfa56298f6c1bf37916077fb6b94ffa6b36b100040", func := "unicodetext/unicodetextlaw18.SetexprComplements", spec := "setexprComplements", inPlace := ["internal/bytealg.IndexByteString", "internal/abi.NoEscape", "internal/bytealg.IndexString"], unfollowed := true, recurses := true, named := ["unicodetext/codepoint.digits", "unicode/utf8.first", "unicode/utf8.acceptRanges", "internal/bytealg.MaxLen"], plainKeys := false, apart := false, laid := [("unicode/utf8.acceptRanges", laid_unicode_utf8_acceptRanges), ("unicodetext/codepoint.digits", laid_unicodetext_codepoint_digits), ("unicode/utf8.first", laid_unicode_utf8_first)], narrowed := true }
def SetexprComplementsUptoSaid : Prop := setexprComplementsUptoRow.holds Tryz.pinned (OpenSpec.upto setexprComplementsSpec)

/-- 'unicodetextlaw18.SetexprOperates', WHERE WHAT IT READS IS OF BULK AT MOST 1048576: true; the input reads as it did. -/
def setexprOperatesUptoRow : OpenClaim := { program := "ytcihhjjmcompkaagreatdoor", sum := "2da87b18fd479f21400da2dfa56298f6c1bf37916077fb6b94ffa6b36b100040", func := "unicodetext/unicodetextlaw18.SetexprOperates", spec := "setexprOperates", inPlace := ["internal/bytealg.IndexByteString", "internal/abi.NoEscape", "internal/bytealg.IndexString"], unfollowed := true, recurses := true, named := ["unicodetext/codepoint.digits", "unicode/utf8.first", "unicode/utf8.acceptRanges", "internal/bytealg.MaxLen"], plainKeys := false, apart := false, laid := [("unicode/utf8.acceptRanges", laid_unicode_utf8_acceptRanges), ("unicodetext/codepoint.digits", laid_unicodetext_codepoint_digits), ("unicode/utf8.first", laid_unicode_utf8_first)], narrowed := true }
def SetexprOperatesUptoSaid : Prop := setexprOperatesUptoRow.holds Tryz.pinned (OpenSpec.upto setexprOperatesSpec)

/-- 'unicodetextlaw18.SetexprBegins', WHERE WHAT IT READS IS OF BULK AT MOST 1048576: true; the input reads as it did. -/
def setexprBeginsUptoRow : OpenClaim := { program := "ytcihhjjmcompkaagreatdoor", sum := "2da87b18fd479f21400da2dfa56298f6c1bf37916077fb6b94ffa6b36b100040", func := "unicodetext/unicodetextlaw18.SetexprBegins", spec := "setexprBegins", inPlace := ["internal/bytealg.IndexByteString", "internal/abi.NoEscape", "internal/bytealg.IndexString"], unfollowed := true, recurses := true, named := ["unicodetext/codepoint.digits", "unicode/utf8.first", "unicode/utf8.acceptRanges", "internal/bytealg.MaxLen"], plainKeys := false, apart := false, laid := [("unicode/utf8.acceptRanges", laid_unicode_utf8_acceptRanges), ("unicodetext/codepoint.digits", laid_unicodetext_codepoint_digits), ("unicode/utf8.first", laid_unicode_utf8_first)], narrowed := true }
def SetexprBeginsUptoSaid : Prop := setexprBeginsUptoRow.holds Tryz.pinned (OpenSpec.upto setexprBeginsSpec)

/-- 'unicodetextlaw18.SetexprClasses', WHERE WHAT IT READS IS OF BULK AT MOST 1048576: true; the input reads as it did. -/
def setexprClassesUptoRow : OpenClaim := { program := "ytcihhjjmcompkaagreatdoor", sum := "2da87b18fd479f21400da2dfa56298f6c1bf37916077fb6b94ffa6b36b100040", func := "unicodetext/unicodetextlaw18.SetexprClasses", spec := "setexprClasses", inPlace := ["internal/bytealg.IndexByteString", "internal/abi.NoEscape", "internal/bytealg.IndexString"], unfollowed := true, recurses := true, named := ["unicodetext/codepoint.digits", "unicode/utf8.first", "unicode/utf8.acceptRanges", "internal/bytealg.MaxLen"], plainKeys := false, apart := false, laid := [("unicode/utf8.acceptRanges", laid_unicode_utf8_acceptRanges), ("unicodetext/codepoint.digits", laid_unicodetext_codepoint_digits), ("unicode/utf8.first", laid_unicode_utf8_first)], narrowed := true }
def SetexprClassesUptoSaid : Prop := setexprClassesUptoRow.holds Tryz.pinned (OpenSpec.upto setexprClassesSpec)

/-- 'unicodetextlaw18.SetexprLong', WHERE WHAT IT READS IS OF BULK AT MOST 1048576: true; the input reads as it did. -/
def setexprLongUptoRow : OpenClaim := { program := "ytcihhjjmcompkaagreatdoor", sum := "2da87b18fd479f21400da2dfa56298f6c1bf37916077fb6b94ffa6b36b100040", func := "unicodetext/unicodetextlaw18.SetexprLong", spec := "setexprLong", inPlace := ["internal/bytealg.IndexByteString", "internal/abi.NoEscape", "internal/bytealg.IndexString"], unfollowed := true, recurses := true, named := ["unicodetext/codepoint.digits", "unicode/utf8.first", "unicode/utf8.acceptRanges", "internal/bytealg.MaxLen"], plainKeys := false, apart := false, laid := [("unicode/utf8.acceptRanges", laid_unicode_utf8_acceptRanges), ("unicodetext/codepoint.digits", laid_unicodetext_codepoint_digits), ("unicode/utf8.first", laid_unicode_utf8_first)], narrowed := true }
def SetexprLongUptoSaid : Prop := setexprLongUptoRow.holds Tryz.pinned (OpenSpec.upto setexprLongSpec)

/-- 'unicodetextlaw50.TransruleParses', WHERE WHAT IT READS IS OF BULK AT MOST 1048576: true; the input reads as it did. -/
def transruleParsesUptoRow : OpenClaim := { program := "ytcihhjjmcompkaagreatdoor", sum := "2da87b18fd479f21400da2dfa56298f6c1bf37916077fb6b94ffa6b36b100040", func := "unicodetext/unicodetextlaw50.TransruleParses", spec := "transruleParses", inPlace := ["internal/bytealg.CountString", "internal/bytealg.IndexByteString", "internal/bytealg.IndexString", "internal/abi.NoEscape", "internal/bytealg.MakeNoZero"], unfollowed := true, recurses := true, named := ["unicode/utf8.first", "unicode/utf8.acceptRanges", "internal/bytealg.MaxLen", "unicodetext/codepoint.digits", "internal/strconv.uint64pow10", "math/bits.deBruijn32tab", "math/bits.deBruijn64tab", "unicode.CaseRanges"], plainKeys := false, apart := false, laid := [("math/bits.deBruijn32tab", laid_math_bits_deBruijn32tab), ("math/bits.deBruijn64tab", laid_math_bits_deBruijn64tab), ("internal/strconv.uint64pow10", laid_internal_strconv_uint64pow10), ("unicode/utf8.acceptRanges", laid_unicode_utf8_acceptRanges), ("unicodetext/codepoint.digits", laid_unicodetext_codepoint_digits), ("unicode.CaseRanges", laid_unicode_CaseRanges), ("unicode/utf8.first", laid_unicode_utf8_first)], narrowed := true }
def TransruleParsesUptoSaid : Prop := transruleParsesUptoRow.holds Tryz.pinned (OpenSpec.upto transruleParsesSpec)

/-- 'unicodetextlaw50.TransruleBack', WHERE WHAT IT READS IS OF BULK AT MOST 1048576: true; the input reads as it did. -/
def transruleBackUptoRow : OpenClaim := { program := "ytcihhjjmcompkaagreatdoor", sum := "2da87b18fd479f21400da2dfa56298f6c1bf37916077fb6b94ffa6b36b100040", func := "unicodetext/unicodetextlaw50.TransruleBack", spec := "transruleBack", inPlace := ["internal/bytealg.CountString", "internal/bytealg.IndexByteString", "internal/bytealg.IndexString", "internal/abi.NoEscape", "internal/bytealg.MakeNoZero"], unfollowed := true, recurses := true, named := ["unicode/utf8.first", "unicode/utf8.acceptRanges", "internal/bytealg.MaxLen", "unicodetext/codepoint.digits", "internal/strconv.uint64pow10", "math/bits.deBruijn32tab", "math/bits.deBruijn64tab", "unicode.CaseRanges"], plainKeys := false, apart := false, laid := [("math/bits.deBruijn32tab", laid_math_bits_deBruijn32tab), ("math/bits.deBruijn64tab", laid_math_bits_deBruijn64tab), ("internal/strconv.uint64pow10", laid_internal_strconv_uint64pow10), ("unicode/utf8.acceptRanges", laid_unicode_utf8_acceptRanges), ("unicodetext/codepoint.digits", laid_unicodetext_codepoint_digits), ("unicode.CaseRanges", laid_unicode_CaseRanges), ("unicode/utf8.first", laid_unicode_utf8_first)], narrowed := true }
def TransruleBackUptoSaid : Prop := transruleBackUptoRow.holds Tryz.pinned (OpenSpec.upto transruleBackSpec)

/-- 'unicodetextlaw50.TransruleLines', WHERE WHAT IT READS IS OF BULK AT MOST 1048576: true; the input reads as it did. -/
def transruleLinesUptoRow : OpenClaim := { program := "ytcihhjjmcompkaagreatdoor", sum := "2da87b18fd479f21400da2dfa56298f6c1bf37916077fb6b94ffa6b36b100040", func := "unicodetext/unicodetextlaw50.TransruleLines", spec := "transruleLines", inPlace := ["internal/bytealg.CountString", "internal/bytealg.IndexByteString", "internal/bytealg.IndexString", "internal/abi.NoEscape", "internal/bytealg.MakeNoZero"], unfollowed := true, recurses := true, named := ["unicode/utf8.first", "unicode/utf8.acceptRanges", "internal/bytealg.MaxLen", "unicodetext/codepoint.digits", "internal/strconv.uint64pow10", "math/bits.deBruijn32tab", "math/bits.deBruijn64tab", "unicode.CaseRanges"], plainKeys := false, apart := false, laid := [("math/bits.deBruijn32tab", laid_math_bits_deBruijn32tab), ("math/bits.deBruijn64tab", laid_math_bits_deBruijn64tab), ("internal/strconv.uint64pow10", laid_internal_strconv_uint64pow10), ("unicode/utf8.acceptRanges", laid_unicode_utf8_acceptRanges), ("unicodetext/codepoint.digits", laid_unicodetext_codepoint_digits), ("unicode.CaseRanges", laid_unicode_CaseRanges), ("unicode/utf8.first", laid_unicode_utf8_first)], narrowed := true }
def TransruleLinesUptoSaid : Prop := transruleLinesUptoRow.holds Tryz.pinned (OpenSpec.upto transruleLinesSpec)

/-- 'unicodetextlaw50.TransruleClasses', WHERE WHAT IT READS IS OF BULK AT MOST 1048576: true; the input reads as it did. -/
def transruleClassesUptoRow : OpenClaim := { program := "ytcihhjjmcompkaagreatdoor", sum := "2da87b18fd479f21400da2dfa56298f6c1bf37916077fb6b94ffa6b36b100040", func := "unicodetext/unicodetextlaw50.TransruleClasses", spec := "transruleClasses", inPlace := ["internal/bytealg.CountString", "internal/bytealg.IndexByteString", "internal/bytealg.IndexString", "internal/abi.NoEscape", "internal/bytealg.MakeNoZero"], unfollowed := true, recurses := true, named := ["unicode/utf8.first", "unicode/utf8.acceptRanges", "internal/bytealg.MaxLen", "unicodetext/codepoint.digits", "internal/strconv.uint64pow10", "math/bits.deBruijn32tab", "math/bits.deBruijn64tab", "unicode.CaseRanges"], plainKeys := false, apart := false, laid := [("math/bits.deBruijn32tab", laid_math_bits_deBruijn32tab), ("math/bits.deBruijn64tab", laid_math_bits_deBruijn64tab), ("internal/strconv.uint64pow10", laid_internal_strconv_uint64pow10), ("unicode/utf8.acceptRanges", laid_unicode_utf8_acceptRanges), ("unicodetext/codepoint.digits", laid_unicodetext_codepoint_digits), ("unicode.CaseRanges", laid_unicode_CaseRanges), ("unicode/utf8.first", laid_unicode_utf8_first)], narrowed := true }
def TransruleClassesUptoSaid : Prop := transruleClassesUptoRow.holds Tryz.pinned (OpenSpec.upto transruleClassesSpec)

/-- 'unicodetextlaw50.TransruleAlike', WHERE WHAT IT READS IS OF BULK AT MOST 1048576: true; the input reads as it did. -/
def transruleAlikeUptoRow : OpenClaim := { program := "ytcihhjjmcompkaagreatdoor", sum := "2da87b18fd479f21400da2dfa56298f6c1bf37916077fb6b94ffa6b36b100040", func := "unicodetext/unicodetextlaw50.TransruleAlike", spec := "transruleAlike", inPlace := ["internal/bytealg.CountString", "internal/bytealg.IndexByteString", "internal/bytealg.IndexString", "internal/abi.NoEscape", "internal/bytealg.MakeNoZero"], unfollowed := true, recurses := true, named := ["unicode/utf8.first", "unicode/utf8.acceptRanges", "internal/bytealg.MaxLen", "unicodetext/codepoint.digits", "internal/strconv.uint64pow10", "math/bits.deBruijn32tab", "math/bits.deBruijn64tab", "unicode.CaseRanges"], plainKeys := false, apart := false, laid := [("math/bits.deBruijn32tab", laid_math_bits_deBruijn32tab), ("math/bits.deBruijn64tab", laid_math_bits_deBruijn64tab), ("internal/strconv.uint64pow10", laid_internal_strconv_uint64pow10), ("unicode/utf8.acceptRanges", laid_unicode_utf8_acceptRanges), ("unicodetext/codepoint.digits", laid_unicodetext_codepoint_digits), ("unicode.CaseRanges", laid_unicode_CaseRanges), ("unicode/utf8.first", laid_unicode_utf8_first)], narrowed := true }
def TransruleAlikeUptoSaid : Prop := transruleAlikeUptoRow.holds Tryz.pinned (OpenSpec.upto transruleAlikeSpec)

/-- 'unicodetextlaw50.TransruleDivides', WHERE WHAT IT READS IS OF BULK AT MOST 1048576: true; the input reads as it did. -/
def transruleDividesUptoRow : OpenClaim := { program := "ytcihhjjmcompkaagreatdoor", sum := "2da87b18fd479f21400da2dfa56298f6c1bf37916077fb6b94ffa6b36b100040", func := "unicodetext/unicodetextlaw50.TransruleDivides", spec := "transruleDivides", inPlace := ["internal/bytealg.CountString", "internal/bytealg.IndexByteString", "internal/bytealg.IndexString", "internal/abi.NoEscape", "internal/bytealg.MakeNoZero"], unfollowed := true, recurses := true, named := ["unicode/utf8.first", "unicode/utf8.acceptRanges", "internal/bytealg.MaxLen", "unicodetext/codepoint.digits", "internal/strconv.uint64pow10", "math/bits.deBruijn32tab", "math/bits.deBruijn64tab", "unicode.CaseRanges"], plainKeys := false, apart := false, laid := [("math/bits.deBruijn32tab", laid_math_bits_deBruijn32tab), ("math/bits.deBruijn64tab", laid_math_bits_deBruijn64tab), ("internal/strconv.uint64pow10", laid_internal_strconv_uint64pow10), ("unicode/utf8.acceptRanges", laid_unicode_utf8_acceptRanges), ("unicodetext/codepoint.digits", laid_unicodetext_codepoint_digits), ("unicode.CaseRanges", laid_unicode_CaseRanges), ("unicode/utf8.first", laid_unicode_utf8_first)], narrowed := true }
def TransruleDividesUptoSaid : Prop := transruleDividesUptoRow.holds Tryz.pinned (OpenSpec.upto transruleDividesSpec)

end Rows
end Go.Proofs.YtcihhjjmcompkaaGreatDoor
