/-
  NARROWER THAN 'FOR EVERY INPUT', by the rows' own cells (each row's printed sentence says how): JourneymanWheels: laid · JourneymanRates: laid · JourneymanPaid: laid · JourneymanDays: laid · JourneymanStrikes: laid · JourneymanConsoles: laid · JourneymanLines: laid · JourneymanParses: laid · JourneymanNil: laid · JourneymanRefuses: laid · JourneymanCopies: laid · JourneymanEnters: laid · JourneymanReplays: laid · JourneymanAgain: laid.
  DERIVED. THE GIVEN ROWS OF THIS SEAT. 14 by the template 'for every input the law returns true; each argument reads behind the call as it read before'; 0 by the template 'total and deterministic' (their statements: YtbefoehadfnkbaaGreatDoorTotals.lean).
  GIVEN WITH THE SEED: the statements are not yours to turn. If you find one false, say at which input.
  Laid BY PROGRAM, IN A SANDBOX (cutbox-rows.mjs): the forced cells as the released guide's own fill.sh prints them over the translation 2ef523c63d057323… (all of the seat's roots in one cut). By AI agents, Wed Nov 11 2026. No macro, syntax, notation, axiom, sorry.
-/
import Derived.Test.YtbefoehadfnkbaaGreatDoorChecked
import GoSem.PinnedTables
import GoSem.Claim
import GoSem.ClaimJoined
import GoSem.ClaimMapViews
import Derived.JoinedTies
import Derived.KernelRfl
namespace Go.Proofs.YtbefoehadfnkbaaGreatDoor
/- THE CELL 'sum', in the pinned program and in every row, IS THE sha256 OF THE DUMP (.gsa) THAT YtbefoehadfnkbaaGreatDoorProg.lean LOADS. Nothing in Lean hashes anything: it is a label: what it is worth is what the hold of that sum in a sandbox is worth. -/
noncomputable def Tryz.pinned : Pinned := { name := "ytbefoehadfnkbaagreatdoor", sum := "2ef523c63d0573239d7c5a9b623f92a09fc3d40726ac2d94eb3e3ff8c00a6211", checked := Tryz.checked }
namespace Rows
def none {H : Type} : Left H := { results := [], args := [] }

/- WHAT THE LISTED PACKAGE-LEVEL VARIABLES READ AS WHEN THE CALL BEGINS. Each datum BY PROGRAM (the guide's laid-datum.mjs) off the statement by which the dump's own 'gosem.cut.vars' lays the variable. In a bare row this is a premise. The card (YtbefoehadfnkbaaGreatDoorCards.lean) ties it to the program's text. -/
def laid_math_bits_deBruijn32tab {H : Type} : DataW H := .agg [.lit (.int .u8 0), .lit (.int .u8 1), .lit (.int .u8 28), .lit (.int .u8 2), .lit (.int .u8 29), .lit (.int .u8 14), .lit (.int .u8 24), .lit (.int .u8 3), .lit (.int .u8 30), .lit (.int .u8 22), .lit (.int .u8 20), .lit (.int .u8 15), .lit (.int .u8 25), .lit (.int .u8 17), .lit (.int .u8 4), .lit (.int .u8 8), .lit (.int .u8 31), .lit (.int .u8 27), .lit (.int .u8 13), .lit (.int .u8 23), .lit (.int .u8 21), .lit (.int .u8 19), .lit (.int .u8 16), .lit (.int .u8 7), .lit (.int .u8 26), .lit (.int .u8 12), .lit (.int .u8 18), .lit (.int .u8 6), .lit (.int .u8 11), .lit (.int .u8 5), .lit (.int .u8 10), .lit (.int .u8 9)]
def laid_math_bits_deBruijn64tab {H : Type} : DataW H := .agg [.lit (.int .u8 0), .lit (.int .u8 1), .lit (.int .u8 56), .lit (.int .u8 2), .lit (.int .u8 57), .lit (.int .u8 49), .lit (.int .u8 28), .lit (.int .u8 3), .lit (.int .u8 61), .lit (.int .u8 58), .lit (.int .u8 42), .lit (.int .u8 50), .lit (.int .u8 38), .lit (.int .u8 29), .lit (.int .u8 17), .lit (.int .u8 4), .lit (.int .u8 62), .lit (.int .u8 47), .lit (.int .u8 59), .lit (.int .u8 36), .lit (.int .u8 45), .lit (.int .u8 43), .lit (.int .u8 51), .lit (.int .u8 22), .lit (.int .u8 53), .lit (.int .u8 39), .lit (.int .u8 33), .lit (.int .u8 30), .lit (.int .u8 24), .lit (.int .u8 18), .lit (.int .u8 12), .lit (.int .u8 5), .lit (.int .u8 63), .lit (.int .u8 55), .lit (.int .u8 48), .lit (.int .u8 27), .lit (.int .u8 60), .lit (.int .u8 41), .lit (.int .u8 37), .lit (.int .u8 16), .lit (.int .u8 46), .lit (.int .u8 35), .lit (.int .u8 44), .lit (.int .u8 21), .lit (.int .u8 52), .lit (.int .u8 32), .lit (.int .u8 23), .lit (.int .u8 11), .lit (.int .u8 54), .lit (.int .u8 26), .lit (.int .u8 40), .lit (.int .u8 15), .lit (.int .u8 34), .lit (.int .u8 20), .lit (.int .u8 31), .lit (.int .u8 10), .lit (.int .u8 25), .lit (.int .u8 14), .lit (.int .u8 19), .lit (.int .u8 9), .lit (.int .u8 13), .lit (.int .u8 8), .lit (.int .u8 7), .lit (.int .u8 6)]
def laid_internal_strconv_uint64pow10 {H : Type} : DataW H := .agg [.lit (.int .u64 1), .lit (.int .u64 10), .lit (.int .u64 100), .lit (.int .u64 1000), .lit (.int .u64 10000), .lit (.int .u64 100000), .lit (.int .u64 1000000), .lit (.int .u64 10000000), .lit (.int .u64 100000000), .lit (.int .u64 1000000000), .lit (.int .u64 10000000000), .lit (.int .u64 100000000000), .lit (.int .u64 1000000000000), .lit (.int .u64 10000000000000), .lit (.int .u64 100000000000000), .lit (.int .u64 1000000000000000), .lit (.int .u64 10000000000000000), .lit (.int .u64 100000000000000000), .lit (.int .u64 1000000000000000000), .lit (.int .u64 10000000000000000000)]
def laid_unicode_utf8_acceptRanges {H : Type} : DataW H := .agg [.agg [.lit (.int .u8 128), .lit (.int .u8 191)], .agg [.lit (.int .u8 160), .lit (.int .u8 191)], .agg [.lit (.int .u8 128), .lit (.int .u8 159)], .agg [.lit (.int .u8 144), .lit (.int .u8 191)], .agg [.lit (.int .u8 128), .lit (.int .u8 143)], .agg [.lit (.int .u8 0), .lit (.int .u8 0)], .agg [.lit (.int .u8 0), .lit (.int .u8 0)], .agg [.lit (.int .u8 0), .lit (.int .u8 0)], .agg [.lit (.int .u8 0), .lit (.int .u8 0)], .agg [.lit (.int .u8 0), .lit (.int .u8 0)], .agg [.lit (.int .u8 0), .lit (.int .u8 0)], .agg [.lit (.int .u8 0), .lit (.int .u8 0)], .agg [.lit (.int .u8 0), .lit (.int .u8 0)], .agg [.lit (.int .u8 0), .lit (.int .u8 0)], .agg [.lit (.int .u8 0), .lit (.int .u8 0)], .agg [.lit (.int .u8 0), .lit (.int .u8 0)]]
/-- One of Go's own tables, pinned by name: the form's constant. -/
def laid_unicode_utf8_first : DataW Unit := Go.Pinned.utf8First

/-- 'tellurionlaw10.JourneymanWheels': WHATEVER THE INPUT: true; the input reads as it did. -/
def journeymanWheelsSpec : ChangeSpec := { name := "journeymanWheels", fn := fun _ => fun
  | [d1, d2] => { results := [.lit (.bool true)], args := [d1, d2] }
  | _ => none }
def journeymanWheelsRow : OpenClaim := { program := "ytbefoehadfnkbaagreatdoor", sum := "2ef523c63d0573239d7c5a9b623f92a09fc3d40726ac2d94eb3e3ff8c00a6211", func := "tellurion/tellurionlaw10.JourneymanWheels", spec := "journeymanWheels", inPlace := ["internal/bytealg.IndexByteString", "internal/bytealg.CountString", "internal/bytealg.IndexString", "internal/abi.NoEscape", "internal/bytealg.MakeNoZero"], unfollowed := true, recurses := true, named := ["unicode/utf8.first", "unicode/utf8.acceptRanges", "internal/bytealg.MaxLen", "internal/strconv.uint64pow10", "math/bits.deBruijn32tab", "math/bits.deBruijn64tab"], plainKeys := false, apart := false, laid := [("math/bits.deBruijn32tab", laid_math_bits_deBruijn32tab), ("math/bits.deBruijn64tab", laid_math_bits_deBruijn64tab), ("internal/strconv.uint64pow10", laid_internal_strconv_uint64pow10), ("unicode/utf8.acceptRanges", laid_unicode_utf8_acceptRanges), ("unicode/utf8.first", laid_unicode_utf8_first)] }
def JourneymanWheelsSaid : Prop := journeymanWheelsRow.holds Tryz.pinned (OpenSpec.ofChange journeymanWheelsSpec)

/-- ITS FALSE NEIGHBOUR: 'it returns false'. Refute it at one input. -/
def journeymanWheelsWrong : ChangeSpec := { name := "journeymanWheels", fn := fun _ => fun
  | [d1, d2] => { results := [.lit (.bool false)], args := [d1, d2] }
  | _ => none }
def JourneymanWheelsWrongFalsely : Prop := journeymanWheelsRow.holds Tryz.pinned (OpenSpec.ofChange journeymanWheelsWrong)

/-- 'tellurionlaw10.JourneymanRates': WHATEVER THE INPUT: true; the input reads as it did. -/
def journeymanRatesSpec : ChangeSpec := { name := "journeymanRates", fn := fun _ => fun
  | [d1, d2] => { results := [.lit (.bool true)], args := [d1, d2] }
  | _ => none }
def journeymanRatesRow : OpenClaim := { program := "ytbefoehadfnkbaagreatdoor", sum := "2ef523c63d0573239d7c5a9b623f92a09fc3d40726ac2d94eb3e3ff8c00a6211", func := "tellurion/tellurionlaw10.JourneymanRates", spec := "journeymanRates", inPlace := ["internal/bytealg.IndexByteString", "internal/bytealg.CountString", "internal/bytealg.IndexString", "internal/abi.NoEscape", "internal/bytealg.MakeNoZero"], unfollowed := true, recurses := true, named := ["unicode/utf8.first", "unicode/utf8.acceptRanges", "internal/bytealg.MaxLen", "internal/strconv.uint64pow10", "math/bits.deBruijn32tab", "math/bits.deBruijn64tab"], plainKeys := false, apart := false, laid := [("math/bits.deBruijn32tab", laid_math_bits_deBruijn32tab), ("math/bits.deBruijn64tab", laid_math_bits_deBruijn64tab), ("internal/strconv.uint64pow10", laid_internal_strconv_uint64pow10), ("unicode/utf8.acceptRanges", laid_unicode_utf8_acceptRanges), ("unicode/utf8.first", laid_unicode_utf8_first)] }
def JourneymanRatesSaid : Prop := journeymanRatesRow.holds Tryz.pinned (OpenSpec.ofChange journeymanRatesSpec)

/-- ITS FALSE NEIGHBOUR: 'it returns false'. Refute it at one input. -/
def journeymanRatesWrong : ChangeSpec := { name := "journeymanRates", fn := fun _ => fun
  | [d1, d2] => { results := [.lit (.bool false)], args := [d1, d2] }
  | _ => none }
def JourneymanRatesWrongFalsely : Prop := journeymanRatesRow.holds Tryz.pinned (OpenSpec.ofChange journeymanRatesWrong)

/-- 'tellurionlaw10.JourneymanPaid': WHATEVER THE INPUT: true; the input reads as it did. -/
def journeymanPaidSpec : ChangeSpec := { name := "journeymanPaid", fn := fun _ => fun
  | [d1, d2] => { results := [.lit (.bool true)], args := [d1, d2] }
  | _ => none }
def journeymanPaidRow : OpenClaim := { program := "ytbefoehadfnkbaagreatdoor", sum := "2ef523c63d0573239d7c5a9b623f92a09fc3d40726ac2d94eb3e3ff8c00a6211", func := "tellurion/tellurionlaw10.JourneymanPaid", spec := "journeymanPaid", inPlace := ["internal/bytealg.IndexByteString", "internal/bytealg.CountString", "internal/bytealg.IndexString", "internal/abi.NoEscape", "internal/bytealg.MakeNoZero"], unfollowed := true, recurses := true, named := ["unicode/utf8.first", "unicode/utf8.acceptRanges", "internal/bytealg.MaxLen", "internal/strconv.uint64pow10", "math/bits.deBruijn32tab", "math/bits.deBruijn64tab"], plainKeys := false, apart := false, laid := [("math/bits.deBruijn32tab", laid_math_bits_deBruijn32tab), ("math/bits.deBruijn64tab", laid_math_bits_deBruijn64tab), ("internal/strconv.uint64pow10", laid_internal_strconv_uint64pow10), ("unicode/utf8.acceptRanges", laid_unicode_utf8_acceptRanges), ("unicode/utf8.first", laid_unicode_utf8_first)] }
def JourneymanPaidSaid : Prop := journeymanPaidRow.holds Tryz.pinned (OpenSpec.ofChange journeymanPaidSpec)

/-- ITS FALSE NEIGHBOUR: 'it returns false'. Refute it at one input. -/
def journeymanPaidWrong : ChangeSpec := { name := "journeymanPaid", fn := fun _ => fun
  | [d1, d2] => { results := [.lit (.bool false)], args := [d1, d2] }
  | _ => none }
def JourneymanPaidWrongFalsely : Prop := journeymanPaidRow.holds Tryz.pinned (OpenSpec.ofChange journeymanPaidWrong)

/-- 'tellurionlaw10.JourneymanDays': WHATEVER THE INPUT: true; the input reads as it did. -/
def journeymanDaysSpec : ChangeSpec := { name := "journeymanDays", fn := fun _ => fun
  | [d1, d2] => { results := [.lit (.bool true)], args := [d1, d2] }
  | _ => none }
def journeymanDaysRow : OpenClaim := { program := "ytbefoehadfnkbaagreatdoor", sum := "2ef523c63d0573239d7c5a9b623f92a09fc3d40726ac2d94eb3e3ff8c00a6211", func := "tellurion/tellurionlaw10.JourneymanDays", spec := "journeymanDays", inPlace := ["internal/bytealg.IndexByteString", "internal/bytealg.CountString", "internal/bytealg.IndexString", "internal/abi.NoEscape", "internal/bytealg.MakeNoZero"], unfollowed := true, recurses := true, named := ["unicode/utf8.first", "unicode/utf8.acceptRanges", "internal/bytealg.MaxLen", "internal/strconv.uint64pow10", "math/bits.deBruijn32tab", "math/bits.deBruijn64tab"], plainKeys := false, apart := false, laid := [("math/bits.deBruijn32tab", laid_math_bits_deBruijn32tab), ("math/bits.deBruijn64tab", laid_math_bits_deBruijn64tab), ("internal/strconv.uint64pow10", laid_internal_strconv_uint64pow10), ("unicode/utf8.acceptRanges", laid_unicode_utf8_acceptRanges), ("unicode/utf8.first", laid_unicode_utf8_first)] }
def JourneymanDaysSaid : Prop := journeymanDaysRow.holds Tryz.pinned (OpenSpec.ofChange journeymanDaysSpec)

/-- ITS FALSE NEIGHBOUR: 'it returns false'. Refute it at one input. -/
def journeymanDaysWrong : ChangeSpec := { name := "journeymanDays", fn := fun _ => fun
  | [d1, d2] => { results := [.lit (.bool false)], args := [d1, d2] }
  | _ => none }
def JourneymanDaysWrongFalsely : Prop := journeymanDaysRow.holds Tryz.pinned (OpenSpec.ofChange journeymanDaysWrong)

/-- 'tellurionlaw10.JourneymanStrikes': WHATEVER THE INPUT: true; the input reads as it did. -/
def journeymanStrikesSpec : ChangeSpec := { name := "journeymanStrikes", fn := fun _ => fun
  | [d1, d2, d3] => { results := [.lit (.bool true)], args := [d1, d2, d3] }
  | _ => none }
def journeymanStrikesRow : OpenClaim := { program := "ytbefoehadfnkbaagreatdoor", sum := "2ef523c63d0573239d7c5a9b623f92a09fc3d40726ac2d94eb3e3ff8c00a6211", func := "tellurion/tellurionlaw10.JourneymanStrikes", spec := "journeymanStrikes", inPlace := ["internal/bytealg.IndexByteString", "internal/bytealg.CountString", "internal/bytealg.IndexString", "internal/abi.NoEscape", "internal/bytealg.MakeNoZero"], unfollowed := true, recurses := true, named := ["unicode/utf8.first", "unicode/utf8.acceptRanges", "internal/bytealg.MaxLen", "internal/strconv.uint64pow10", "math/bits.deBruijn32tab", "math/bits.deBruijn64tab"], plainKeys := false, apart := false, laid := [("math/bits.deBruijn32tab", laid_math_bits_deBruijn32tab), ("math/bits.deBruijn64tab", laid_math_bits_deBruijn64tab), ("internal/strconv.uint64pow10", laid_internal_strconv_uint64pow10), ("unicode/utf8.acceptRanges", laid_unicode_utf8_acceptRanges), ("unicode/utf8.first", laid_unicode_utf8_first)] }
def JourneymanStrikesSaid : Prop := journeymanStrikesRow.holds Tryz.pinned (OpenSpec.ofChange journeymanStrikesSpec)

/-- ITS FALSE NEIGHBOUR: 'it returns false'. Refute it at one input. -/
def journeymanStrikesWrong : ChangeSpec := { name := "journeymanStrikes", fn := fun _ => fun
  | [d1, d2, d3] => { results := [.lit (.bool false)], args := [d1, d2, d3] }
  | _ => none }
def JourneymanStrikesWrongFalsely : Prop := journeymanStrikesRow.holds Tryz.pinned (OpenSpec.ofChange journeymanStrikesWrong)

/-- 'tellurionlaw10.JourneymanConsoles': WHATEVER THE INPUT: true; the input reads as it did. -/
def journeymanConsolesSpec : ChangeSpec := { name := "journeymanConsoles", fn := fun _ => fun
  | [d1, d2] => { results := [.lit (.bool true)], args := [d1, d2] }
  | _ => none }
def journeymanConsolesRow : OpenClaim := { program := "ytbefoehadfnkbaagreatdoor", sum := "2ef523c63d0573239d7c5a9b623f92a09fc3d40726ac2d94eb3e3ff8c00a6211", func := "tellurion/tellurionlaw10.JourneymanConsoles", spec := "journeymanConsoles", inPlace := ["internal/bytealg.IndexByteString", "internal/bytealg.CountString", "internal/bytealg.IndexString", "internal/abi.NoEscape", "internal/bytealg.MakeNoZero"], unfollowed := true, recurses := true, named := ["unicode/utf8.first", "unicode/utf8.acceptRanges", "internal/bytealg.MaxLen", "internal/strconv.uint64pow10", "math/bits.deBruijn32tab", "math/bits.deBruijn64tab"], plainKeys := false, apart := false, laid := [("math/bits.deBruijn32tab", laid_math_bits_deBruijn32tab), ("math/bits.deBruijn64tab", laid_math_bits_deBruijn64tab), ("internal/strconv.uint64pow10", laid_internal_strconv_uint64pow10), ("unicode/utf8.acceptRanges", laid_unicode_utf8_acceptRanges), ("unicode/utf8.first", laid_unicode_utf8_first)] }
def JourneymanConsolesSaid : Prop := journeymanConsolesRow.holds Tryz.pinned (OpenSpec.ofChange journeymanConsolesSpec)

/-- ITS FALSE NEIGHBOUR: 'it returns false'. Refute it at one input. -/
def journeymanConsolesWrong : ChangeSpec := { name := "journeymanConsoles", fn := fun _ => fun
  | [d1, d2] => { results := [.lit (.bool false)], args := [d1, d2] }
  | _ => none }
def JourneymanConsolesWrongFalsely : Prop := journeymanConsolesRow.holds Tryz.pinned (OpenSpec.ofChange journeymanConsolesWrong)

/-- 'tellurionlaw10.JourneymanLines': WHATEVER THE INPUT: true; the input reads as it did. -/
def journeymanLinesSpec : ChangeSpec := { name := "journeymanLines", fn := fun _ => fun
  | [d] => { results := [.lit (.bool true)], args := [d] }
  | _ => none }
def journeymanLinesRow : OpenClaim := { program := "ytbefoehadfnkbaagreatdoor", sum := "2ef523c63d0573239d7c5a9b623f92a09fc3d40726ac2d94eb3e3ff8c00a6211", func := "tellurion/tellurionlaw10.JourneymanLines", spec := "journeymanLines", inPlace := ["internal/bytealg.IndexByteString", "internal/bytealg.CountString", "internal/bytealg.IndexString", "internal/abi.NoEscape", "internal/bytealg.MakeNoZero"], unfollowed := true, recurses := true, named := ["unicode/utf8.first", "unicode/utf8.acceptRanges", "internal/bytealg.MaxLen", "internal/strconv.uint64pow10", "math/bits.deBruijn32tab", "math/bits.deBruijn64tab"], plainKeys := false, apart := false, laid := [("math/bits.deBruijn32tab", laid_math_bits_deBruijn32tab), ("math/bits.deBruijn64tab", laid_math_bits_deBruijn64tab), ("internal/strconv.uint64pow10", laid_internal_strconv_uint64pow10), ("unicode/utf8.acceptRanges", laid_unicode_utf8_acceptRanges), ("unicode/utf8.first", laid_unicode_utf8_first)] }
def JourneymanLinesSaid : Prop := journeymanLinesRow.holds Tryz.pinned (OpenSpec.ofChange journeymanLinesSpec)

/-- ITS FALSE NEIGHBOUR: 'it returns false'. Refute it at one input. -/
def journeymanLinesWrong : ChangeSpec := { name := "journeymanLines", fn := fun _ => fun
  | [d] => { results := [.lit (.bool false)], args := [d] }
  | _ => none }
def JourneymanLinesWrongFalsely : Prop := journeymanLinesRow.holds Tryz.pinned (OpenSpec.ofChange journeymanLinesWrong)

/-- 'tellurionlaw10.JourneymanParses': WHATEVER THE INPUT: true; the input reads as it did. -/
def journeymanParsesSpec : ChangeSpec := { name := "journeymanParses", fn := fun _ => fun
  | [d] => { results := [.lit (.bool true)], args := [d] }
  | _ => none }
def journeymanParsesRow : OpenClaim := { program := "ytbefoehadfnkbaagreatdoor", sum := "2ef523c63d0573239d7c5a9b623f92a09fc3d40726ac2d94eb3e3ff8c00a6211", func := "tellurion/tellurionlaw10.JourneymanParses", spec := "journeymanParses", inPlace := ["internal/bytealg.IndexByteString", "internal/bytealg.CountString", "internal/bytealg.IndexString", "internal/abi.NoEscape", "internal/bytealg.MakeNoZero"], unfollowed := true, recurses := true, named := ["unicode/utf8.first", "unicode/utf8.acceptRanges", "internal/bytealg.MaxLen", "internal/strconv.uint64pow10", "math/bits.deBruijn32tab", "math/bits.deBruijn64tab"], plainKeys := false, apart := false, laid := [("math/bits.deBruijn32tab", laid_math_bits_deBruijn32tab), ("math/bits.deBruijn64tab", laid_math_bits_deBruijn64tab), ("internal/strconv.uint64pow10", laid_internal_strconv_uint64pow10), ("unicode/utf8.acceptRanges", laid_unicode_utf8_acceptRanges), ("unicode/utf8.first", laid_unicode_utf8_first)] }
def JourneymanParsesSaid : Prop := journeymanParsesRow.holds Tryz.pinned (OpenSpec.ofChange journeymanParsesSpec)

/-- ITS FALSE NEIGHBOUR: 'it returns false'. Refute it at one input. -/
def journeymanParsesWrong : ChangeSpec := { name := "journeymanParses", fn := fun _ => fun
  | [d] => { results := [.lit (.bool false)], args := [d] }
  | _ => none }
def JourneymanParsesWrongFalsely : Prop := journeymanParsesRow.holds Tryz.pinned (OpenSpec.ofChange journeymanParsesWrong)

/-- 'tellurionlaw10.JourneymanNil': WHATEVER THE INPUT: true; the input reads as it did. -/
def journeymanNilSpec : ChangeSpec := { name := "journeymanNil", fn := fun _ => fun
  | [d1, d2] => { results := [.lit (.bool true)], args := [d1, d2] }
  | _ => none }
def journeymanNilRow : OpenClaim := { program := "ytbefoehadfnkbaagreatdoor", sum := "2ef523c63d0573239d7c5a9b623f92a09fc3d40726ac2d94eb3e3ff8c00a6211", func := "tellurion/tellurionlaw10.JourneymanNil", spec := "journeymanNil", inPlace := ["internal/bytealg.IndexByteString", "internal/bytealg.CountString", "internal/bytealg.IndexString", "internal/abi.NoEscape", "internal/bytealg.MakeNoZero"], unfollowed := true, recurses := true, named := ["unicode/utf8.first", "unicode/utf8.acceptRanges", "internal/bytealg.MaxLen", "internal/strconv.uint64pow10", "math/bits.deBruijn32tab", "math/bits.deBruijn64tab"], plainKeys := false, apart := false, laid := [("math/bits.deBruijn32tab", laid_math_bits_deBruijn32tab), ("math/bits.deBruijn64tab", laid_math_bits_deBruijn64tab), ("internal/strconv.uint64pow10", laid_internal_strconv_uint64pow10), ("unicode/utf8.acceptRanges", laid_unicode_utf8_acceptRanges), ("unicode/utf8.first", laid_unicode_utf8_first)] }
def JourneymanNilSaid : Prop := journeymanNilRow.holds Tryz.pinned (OpenSpec.ofChange journeymanNilSpec)

/-- ITS FALSE NEIGHBOUR: 'it returns false'. Refute it at one input. -/
def journeymanNilWrong : ChangeSpec := { name := "journeymanNil", fn := fun _ => fun
  | [d1, d2] => { results := [.lit (.bool false)], args := [d1, d2] }
  | _ => none }
def JourneymanNilWrongFalsely : Prop := journeymanNilRow.holds Tryz.pinned (OpenSpec.ofChange journeymanNilWrong)

/-- 'tellurionlaw10.JourneymanRefuses': WHATEVER THE INPUT: true; the input reads as it did. -/
def journeymanRefusesSpec : ChangeSpec := { name := "journeymanRefuses", fn := fun _ => fun
  | [d1, d2, d3, d4] => { results := [.lit (.bool true)], args := [d1, d2, d3, d4] }
  | _ => none }
def journeymanRefusesRow : OpenClaim := { program := "ytbefoehadfnkbaagreatdoor", sum := "2ef523c63d0573239d7c5a9b623f92a09fc3d40726ac2d94eb3e3ff8c00a6211", func := "tellurion/tellurionlaw10.JourneymanRefuses", spec := "journeymanRefuses", inPlace := ["internal/bytealg.IndexByteString", "internal/bytealg.CountString", "internal/bytealg.IndexString", "internal/abi.NoEscape", "internal/bytealg.MakeNoZero"], unfollowed := true, recurses := true, named := ["unicode/utf8.first", "unicode/utf8.acceptRanges", "internal/bytealg.MaxLen", "internal/strconv.uint64pow10", "math/bits.deBruijn32tab", "math/bits.deBruijn64tab"], plainKeys := false, apart := false, laid := [("math/bits.deBruijn32tab", laid_math_bits_deBruijn32tab), ("math/bits.deBruijn64tab", laid_math_bits_deBruijn64tab), ("internal/strconv.uint64pow10", laid_internal_strconv_uint64pow10), ("unicode/utf8.acceptRanges", laid_unicode_utf8_acceptRanges), ("unicode/utf8.first", laid_unicode_utf8_first)] }
def JourneymanRefusesSaid : Prop := journeymanRefusesRow.holds Tryz.pinned (OpenSpec.ofChange journeymanRefusesSpec)

/-- ITS FALSE NEIGHBOUR: 'it returns false'. Refute it at one input. -/
def journeymanRefusesWrong : ChangeSpec := { name := "journeymanRefuses", fn := fun _ => fun
  | [d1, d2, d3, d4] => { results := [.lit (.bool false)], args := [d1, d2, d3, d4] }
  | _ => none }
def JourneymanRefusesWrongFalsely : Prop := journeymanRefusesRow.holds Tryz.pinned (OpenSpec.ofChange journeymanRefusesWrong)

/-- 'tellurionlaw10.JourneymanCopies': WHATEVER THE INPUT: true; the input reads as it did. -/
def journeymanCopiesSpec : ChangeSpec := { name := "journeymanCopies", fn := fun _ => fun
  | [d1, d2, d3] => { results := [.lit (.bool true)], args := [d1, d2, d3] }
  | _ => none }
def journeymanCopiesRow : OpenClaim := { program := "ytbefoehadfnkbaagreatdoor", sum := "2ef523c63d0573239d7c5a9b623f92a09fc3d40726ac2d94eb3e3ff8c00a6211", func := "tellurion/tellurionlaw10.JourneymanCopies", spec := "journeymanCopies", inPlace := ["internal/bytealg.IndexByteString", "internal/bytealg.CountString", "internal/bytealg.IndexString", "internal/abi.NoEscape", "internal/bytealg.MakeNoZero"], unfollowed := true, recurses := true, named := ["unicode/utf8.first", "unicode/utf8.acceptRanges", "internal/bytealg.MaxLen", "internal/strconv.uint64pow10", "math/bits.deBruijn32tab", "math/bits.deBruijn64tab"], plainKeys := false, apart := false, laid := [("math/bits.deBruijn32tab", laid_math_bits_deBruijn32tab), ("math/bits.deBruijn64tab", laid_math_bits_deBruijn64tab), ("internal/strconv.uint64pow10", laid_internal_strconv_uint64pow10), ("unicode/utf8.acceptRanges", laid_unicode_utf8_acceptRanges), ("unicode/utf8.first", laid_unicode_utf8_first)] }
def JourneymanCopiesSaid : Prop := journeymanCopiesRow.holds Tryz.pinned (OpenSpec.ofChange journeymanCopiesSpec)

/-- ITS FALSE NEIGHBOUR: 'it returns false'. Refute it at one input. -/
def journeymanCopiesWrong : ChangeSpec := { name := "journeymanCopies", fn := fun _ => fun
  | [d1, d2, d3] => { results := [.lit (.bool false)], args := [d1, d2, d3] }
  | _ => none }
def JourneymanCopiesWrongFalsely : Prop := journeymanCopiesRow.holds Tryz.pinned (OpenSpec.ofChange journeymanCopiesWrong)

/-- 'tellurionlaw10.JourneymanEnters': WHATEVER THE INPUT: true; the input reads as it did. -/
def journeymanEntersSpec : ChangeSpec := { name := "journeymanEnters", fn := fun _ => fun
  | [d1, d2, d3] => { results := [.lit (.bool true)], args := [d1, d2, d3] }
  | _ => none }
def journeymanEntersRow : OpenClaim := { program := "ytbefoehadfnkbaagreatdoor", sum := "2ef523c63d0573239d7c5a9b623f92a09fc3d40726ac2d94eb3e3ff8c00a6211", func := "tellurion/tellurionlaw10.JourneymanEnters", spec := "journeymanEnters", inPlace := ["internal/bytealg.IndexByteString", "internal/bytealg.CountString", "internal/bytealg.IndexString", "internal/abi.NoEscape", "internal/bytealg.MakeNoZero"], unfollowed := true, recurses := true, named := ["unicode/utf8.first", "unicode/utf8.acceptRanges", "internal/bytealg.MaxLen", "internal/strconv.uint64pow10", "math/bits.deBruijn32tab", "math/bits.deBruijn64tab"], plainKeys := false, apart := false, laid := [("math/bits.deBruijn32tab", laid_math_bits_deBruijn32tab), ("math/bits.deBruijn64tab", laid_math_bits_deBruijn64tab), ("internal/strconv.uint64pow10", laid_internal_strconv_uint64pow10), ("unicode/utf8.acceptRanges", laid_unicode_utf8_acceptRanges), ("unicode/utf8.first", laid_unicode_utf8_first)] }
def JourneymanEntersSaid : Prop := journeymanEntersRow.holds Tryz.pinned (OpenSpec.ofChange journeymanEntersSpec)

/-- ITS FALSE NEIGHBOUR: 'it returns false'. Refute it at one input. -/
def journeymanEntersWrong : ChangeSpec := { name := "journeymanEnters", fn := fun _ => fun
  | [d1, d2, d3] => { results := [.lit (.bool false)], args := [d1, d2, d3] }
  | _ => none }
def JourneymanEntersWrongFalsely : Prop := journeymanEntersRow.holds Tryz.pinned (OpenSpec.ofChange journeymanEntersWrong)

/-- 'tellurionlaw10.JourneymanReplays': WHATEVER THE INPUT: true; the input reads as it did. -/
def journeymanReplaysSpec : ChangeSpec := { name := "journeymanReplays", fn := fun _ => fun
  | [d1, d2, d3] => { results := [.lit (.bool true)], args := [d1, d2, d3] }
  | _ => none }
def journeymanReplaysRow : OpenClaim := { program := "ytbefoehadfnkbaagreatdoor", sum := "2ef523c63d0573239d7c5a9b623f92a09fc3d40726ac2d94eb3e3ff8c00a6211", func := "tellurion/tellurionlaw10.JourneymanReplays", spec := "journeymanReplays", inPlace := ["internal/bytealg.IndexByteString", "internal/bytealg.CountString", "internal/bytealg.IndexString", "internal/abi.NoEscape", "internal/bytealg.MakeNoZero"], unfollowed := true, recurses := true, named := ["unicode/utf8.first", "unicode/utf8.acceptRanges", "internal/bytealg.MaxLen", "internal/strconv.uint64pow10", "math/bits.deBruijn32tab", "math/bits.deBruijn64tab"], plainKeys := false, apart := false, laid := [("math/bits.deBruijn32tab", laid_math_bits_deBruijn32tab), ("math/bits.deBruijn64tab", laid_math_bits_deBruijn64tab), ("internal/strconv.uint64pow10", laid_internal_strconv_uint64pow10), ("unicode/utf8.acceptRanges", laid_unicode_utf8_acceptRanges), ("unicode/utf8.first", laid_unicode_utf8_first)] }
def JourneymanReplaysSaid : Prop := journeymanReplaysRow.holds Tryz.pinned (OpenSpec.ofChange journeymanReplaysSpec)

/-- ITS FALSE NEIGHBOUR: 'it returns false'. Refute it at one input. -/
def journeymanReplaysWrong : ChangeSpec := { name := "journeymanReplays", fn := fun _ => fun
  | [d1, d2, d3] => { results := [.lit (.bool false)], args := [d1, d2, d3] }
  | _ => none }
def JourneymanReplaysWrongFalsely : Prop := journeymanReplaysRow.holds Tryz.pinned (OpenSpec.ofChange journeymanReplaysWrong)

/-- 'tellurionlaw10.JourneymanAgain': WHATEVER THE INPUT: true; the input reads as it did. -/
def journeymanAgainSpec : ChangeSpec := { name := "journeymanAgain", fn := fun _ => fun
  | [d1, d2, d3, d4] => { results := [.lit (.bool true)], args := [d1, d2, d3, d4] }
  | _ => none }
def journeymanAgainRow : OpenClaim := { program := "ytbefoehadfnkbaagreatdoor", sum := "2ef523c63d0573239d7c5a9b623f92a09fc3d40726ac2d94eb3e3ff8c00a6211", func := "tellurion/tellurionlaw10.JourneymanAgain", spec := "journeymanAgain", inPlace := ["internal/bytealg.IndexByteString", "internal/bytealg.CountString", "internal/bytealg.IndexString", "internal/abi.NoEscape", "internal/bytealg.MakeNoZero"], unfollowed := true, recurses := true, named := ["unicode/utf8.first", "unicode/utf8.acceptRanges", "internal/bytealg.MaxLen", "internal/strconv.uint64pow10", "math/bits.deBruijn32tab", "math/bits.deBruijn64tab"], plainKeys := false, apart := false, laid := [("math/bits.deBruijn32tab", laid_math_bits_deBruijn32tab), ("math/bits.deBruijn64tab", laid_math_bits_deBruijn64tab), ("internal/strconv.uint64pow10", laid_internal_strconv_uint64pow10), ("unicode/utf8.acceptRanges", laid_unicode_utf8_acceptRanges), ("unicode/utf8.first", laid_unicode_utf8_first)] }
def JourneymanAgainSaid : Prop := journeymanAgainRow.holds Tryz.pinned (OpenSpec.ofChange journeymanAgainSpec)

/-- ITS FALSE NEIGHBOUR: 'it returns false'. Refute it at one input. -/
def journeymanAgainWrong : ChangeSpec := { name := "journeymanAgain", fn := fun _ => fun
  | [d1, d2, d3, d4] => { results := [.lit (.bool false)], args := [d1, d2, d3, d4] }
  | _ => none }
def JourneymanAgainWrongFalsely : Prop := journeymanAgainRow.holds Tryz.pinned (OpenSpec.ofChange journeymanAgainWrong)

/- THE SECOND FORM. 'bulk': how many values and letters a reading holds, each counted each time it is reached (what is shared counts as often as it is met; a slice's spare places count too). A statement '..UptoSaid' is the law's where the arguments, and the package variables that the reading takes, are together of bulk at most 1048576: NARROWER than '..Said'. Prove '..Said' where nothing that the law and all that it calls make is longer than what came in: it says more and counts as full. Else prove '..UptoSaid'. A law counts once. -/
mutual
def uptoBulk {H : Type} : DataW H → Nat
  | .lit (.string bytes) => bytes.length + 1
  | .lit _ => 1
  | .nil => 1
  | .ptr d => uptoBulk d + 1
  | .slice elems spare => uptoBulkAll elems + uptoBulkAll spare + 1
  | .agg parts => uptoBulkAll parts + 1
  | .iface _ d => uptoBulk d + 1
  | .map entries => uptoBulkEntries entries + 1
  | .held _ => 1
def uptoBulkAll {H : Type} : List (DataW H) → Nat
  | [] => 0
  | d :: r => uptoBulk d + uptoBulkAll r
def uptoBulkEntries {H : Type} : List (Lit × DataW H) → Nat
  | [] => 0
  | x :: r => uptoBulkEntry x + uptoBulkEntries r
def uptoBulkEntry {H : Type} : Lit × DataW H → Nat
  | (.string bytes, d) => bytes.length + uptoBulk d + 1
  | (_, d) => uptoBulk d + 1
 end
def uptoSmall : (H : Type) → List (DataW H) → Bool := fun _ ds => decide (uptoBulkAll ds ≤ 1048576)
def OpenSpec.upto (s : _root_.Go.ChangeSpec) : _root_.Go.OpenSpec := { _root_.Go.OpenSpec.ofChange s with cond := some uptoSmall }

/-- 'tellurionlaw10.JourneymanWheels', WHERE WHAT IT READS IS OF BULK AT MOST 1048576: true; the input reads as it did. -/
def journeymanWheelsUptoRow : OpenClaim := { program := "ytbefoehadfnkbaagreatdoor", sum := "2ef523c63d0573239d7c5a9b623f92a09fc3d40726ac2d94eb3e3ff8c00a6211", func := "tellurion/tellurionlaw10.JourneymanWheels", spec := "journeymanWheels", inPlace := ["internal/bytealg.IndexByteString", "internal/bytealg.CountString", "internal/bytealg.IndexString", "internal/abi.NoEscape", "internal/bytealg.MakeNoZero"], unfollowed := true, recurses := true, named := ["unicode/utf8.first", "unicode/utf8.acceptRanges", "internal/bytealg.MaxLen", "internal/strconv.uint64pow10", "math/bits.deBruijn32tab", "math/bits.deBruijn64tab"], plainKeys := false, apart := false, laid := [("math/bits.deBruijn32tab", laid_math_bits_deBruijn32tab), ("math/bits.deBruijn64tab", laid_math_bits_deBruijn64tab), ("internal/strconv.uint64pow10", laid_internal_strconv_uint64pow10), ("unicode/utf8.acceptRanges", laid_unicode_utf8_acceptRanges), ("unicode/utf8.first", laid_unicode_utf8_first)], narrowed := true }
def JourneymanWheelsUptoSaid : Prop := journeymanWheelsUptoRow.holds Tryz.pinned (OpenSpec.upto journeymanWheelsSpec)

/-- 'tellurionlaw10.JourneymanRates', WHERE WHAT IT READS IS OF BULK AT MOST 1048576: true; the input reads as it did. -/
def journeymanRatesUptoRow : OpenClaim := { program := "ytbefoehadfnkbaagreatdoor", sum := "2ef523c63d0573239d7c5a9b623f92a09fc3d40726ac2d94eb3e3ff8c00a6211", func := "tellurion/tellurionlaw10.JourneymanRates", spec := "journeymanRates", inPlace := ["internal/bytealg.IndexByteString", "internal/bytealg.CountString", "internal/bytealg.IndexString", "internal/abi.NoEscape", "internal/bytealg.MakeNoZero"], unfollowed := true, recurses := true, named := ["unicode/utf8.first", "unicode/utf8.acceptRanges", "internal/bytealg.MaxLen", "internal/strconv.uint64pow10", "math/bits.deBruijn32tab", "math/bits.deBruijn64tab"], plainKeys := false, apart := false, laid := [("math/bits.deBruijn32tab", laid_math_bits_deBruijn32tab), ("math/bits.deBruijn64tab", laid_math_bits_deBruijn64tab), ("internal/strconv.uint64pow10", laid_internal_strconv_uint64pow10), ("unicode/utf8.acceptRanges", laid_unicode_utf8_acceptRanges), ("unicode/utf8.first", laid_unicode_utf8_first)], narrowed := true }
def JourneymanRatesUptoSaid : Prop := journeymanRatesUptoRow.holds Tryz.pinned (OpenSpec.upto journeymanRatesSpec)

/-- 'tellurionlaw10.JourneymanPaid', WHERE WHAT IT READS IS OF BULK AT MOST 1048576: true; the input reads as it did. -/
def journeymanPaidUptoRow : OpenClaim := { program := "ytbefoehadfnkbaagreatdoor", sum := "2ef523c63d0573239d7c5a9b623f92a09fc3d40726ac2d94eb3e3ff8c00a6211", func := "tellurion/tellurionlaw10.JourneymanPaid", spec := "journeymanPaid", inPlace := ["internal/bytealg.IndexByteString", "internal/bytealg.CountString", "internal/bytealg.IndexString", "internal/abi.NoEscape", "internal/bytealg.MakeNoZero"], unfollowed := true, recurses := true, named := ["unicode/utf8.first", "unicode/utf8.acceptRanges", "internal/bytealg.MaxLen", "internal/strconv.uint64pow10", "math/bits.deBruijn32tab", "math/bits.deBruijn64tab"], plainKeys := false, apart := false, laid := [("math/bits.deBruijn32tab", laid_math_bits_deBruijn32tab), ("math/bits.deBruijn64tab", laid_math_bits_deBruijn64tab), ("internal/strconv.uint64pow10", laid_internal_strconv_uint64pow10), ("unicode/utf8.acceptRanges", laid_unicode_utf8_acceptRanges), ("unicode/utf8.first", laid_unicode_utf8_first)], narrowed := true }
def JourneymanPaidUptoSaid : Prop := journeymanPaidUptoRow.holds Tryz.pinned (OpenSpec.upto journeymanPaidSpec)

/-- 'tellurionlaw10.JourneymanDays', WHERE WHAT IT READS IS OF BULK AT MOST 1048576: true; the input reads as it did. -/
def journeymanDaysUptoRow : OpenClaim := { program := "ytbefoehadfnkbaagreatdoor", sum := "2ef523c63d0573239d7c5a9b623f92a09fc3d40726ac2d94eb3e3ff8c00a6211", func := "tellurion/tellurionlaw10.JourneymanDays", spec := "journeymanDays", inPlace := ["internal/bytealg.IndexByteString", "internal/bytealg.CountString", "internal/bytealg.IndexString", "internal/abi.NoEscape", "internal/bytealg.MakeNoZero"], unfollowed := true, recurses := true, named := ["unicode/utf8.first", "unicode/utf8.acceptRanges", "internal/bytealg.MaxLen", "internal/strconv.uint64pow10", "math/bits.deBruijn32tab", "math/bits.deBruijn64tab"], plainKeys := false, apart := false, laid := [("math/bits.deBruijn32tab", laid_math_bits_deBruijn32tab), ("math/bits.deBruijn64tab", laid_math_bits_deBruijn64tab), ("internal/strconv.uint64pow10", laid_internal_strconv_uint64pow10), ("unicode/utf8.acceptRanges", laid_unicode_utf8_acceptRanges), ("unicode/utf8.first", laid_unicode_utf8_first)], narrowed := true }
def JourneymanDaysUptoSaid : Prop := journeymanDaysUptoRow.holds Tryz.pinned (OpenSpec.upto journeymanDaysSpec)

/-- 'tellurionlaw10.JourneymanStrikes', WHERE WHAT IT READS IS OF BULK AT MOST 1048576: true; the input reads as it did. -/
def journeymanStrikesUptoRow : OpenClaim := { program := "ytbefoehadfnkbaagreatdoor", sum := "2ef523c63d0573239d7c5a9b623f92a09fc3d40726ac2d94eb3e3ff8c00a6211", func := "tellurion/tellurionlaw10.JourneymanStrikes", spec := "journeymanStrikes", inPlace := ["internal/bytealg.IndexByteString", "internal/bytealg.CountString", "internal/bytealg.IndexString", "internal/abi.NoEscape", "internal/bytealg.MakeNoZero"], unfollowed := true, recurses := true, named := ["unicode/utf8.first", "unicode/utf8.acceptRanges", "internal/bytealg.MaxLen", "internal/strconv.uint64pow10", "math/bits.deBruijn32tab", "math/bits.deBruijn64tab"], plainKeys := false, apart := false, laid := [("math/bits.deBruijn32tab", laid_math_bits_deBruijn32tab), ("math/bits.deBruijn64tab", laid_math_bits_deBruijn64tab), ("internal/strconv.uint64pow10", laid_internal_strconv_uint64pow10), ("unicode/utf8.acceptRanges", laid_unicode_utf8_acceptRanges), ("unicode/utf8.first", laid_unicode_utf8_first)], narrowed := true }
def JourneymanStrikesUptoSaid : Prop := journeymanStrikesUptoRow.holds Tryz.pinned (OpenSpec.upto journeymanStrikesSpec)

/-- 'tellurionlaw10.JourneymanConsoles', WHERE WHAT IT READS IS OF BULK AT MOST 1048576: true; the input reads as it did. -/
def journeymanConsolesUptoRow : OpenClaim := { program := "ytbefoehadfnkbaagreatdoor", sum := "2ef523c63d0573239d7c5a9b623f92a09fc3d40726ac2d94eb3e3ff8c00a6211", func := "tellurion/tellurionlaw10.JourneymanConsoles", spec := "journeymanConsoles", inPlace := ["internal/bytealg.IndexByteString", "internal/bytealg.CountString", "internal/bytealg.IndexString", "internal/abi.NoEscape", "internal/bytealg.MakeNoZero"], unfollowed := true, recurses := true, named := ["unicode/utf8.first", "unicode/utf8.acceptRanges", "internal/bytealg.MaxLen", "internal/strconv.uint64pow10", "math/bits.deBruijn32tab", "math/bits.deBruijn64tab"], plainKeys := false, apart := false, laid := [("math/bits.deBruijn32tab", laid_math_bits_deBruijn32tab), ("math/bits.deBruijn64tab", laid_math_bits_deBruijn64tab), ("internal/strconv.uint64pow10", laid_internal_strconv_uint64pow10), ("unicode/utf8.acceptRanges", laid_unicode_utf8_acceptRanges), ("unicode/utf8.first", laid_unicode_utf8_first)], narrowed := true }
def JourneymanConsolesUptoSaid : Prop := journeymanConsolesUptoRow.holds Tryz.pinned (OpenSpec.upto journeymanConsolesSpec)

/-- 'tellurionlaw10.JourneymanLines', WHERE WHAT IT READS IS OF BULK AT MOST 1048576: true; the input reads as it did. -/
def journeymanLinesUptoRow : OpenClaim := { program := "ytbefoehadfnkbaagreatdoor", sum := "2ef523c63d0573239d7c5a9b623f92a09fc3d40726ac2d94eb3e3ff8c00a6211", func := "tellurion/tellurionlaw10.JourneymanLines", spec := "journeymanLines", inPlace := ["internal/bytealg.IndexByteString", "internal/bytealg.CountString", "internal/bytealg.IndexString", "internal/abi.NoEscape", "internal/bytealg.MakeNoZero"], unfollowed := true, recurses := true, named := ["unicode/utf8.first", "unicode/utf8.acceptRanges", "internal/bytealg.MaxLen", "internal/strconv.uint64pow10", "math/bits.deBruijn32tab", "math/bits.deBruijn64tab"], plainKeys := false, apart := false, laid := [("math/bits.deBruijn32tab", laid_math_bits_deBruijn32tab), ("math/bits.deBruijn64tab", laid_math_bits_deBruijn64tab), ("internal/strconv.uint64pow10", laid_internal_strconv_uint64pow10), ("unicode/utf8.acceptRanges", laid_unicode_utf8_acceptRanges), ("unicode/utf8.first", laid_unicode_utf8_first)], narrowed := true }
def JourneymanLinesUptoSaid : Prop := journeymanLinesUptoRow.holds Tryz.pinned (OpenSpec.upto journeymanLinesSpec)

/-- 'tellurionlaw10.JourneymanParses', WHERE WHAT IT READS IS OF BULK AT MOST 1048576: true; the input reads as it did. -/
def journeymanParsesUptoRow : OpenClaim := { program := "ytbefoehadfnkbaagreatdoor", sum := "2ef523c63d0573239d7c5a9b623f92a09fc3d40726ac2d94eb3e3ff8c00a6211", func := "tellurion/tellurionlaw10.JourneymanParses", spec := "journeymanParses", inPlace := ["internal/bytealg.IndexByteString", "internal/bytealg.CountString", "internal/bytealg.IndexString", "internal/abi.NoEscape", "internal/bytealg.MakeNoZero"], unfollowed := true, recurses := true, named := ["unicode/utf8.first", "unicode/utf8.acceptRanges", "internal/bytealg.MaxLen", "internal/strconv.uint64pow10", "math/bits.deBruijn32tab", "math/bits.deBruijn64tab"], plainKeys := false, apart := false, laid := [("math/bits.deBruijn32tab", laid_math_bits_deBruijn32tab), ("math/bits.deBruijn64tab", laid_math_bits_deBruijn64tab), ("internal/strconv.uint64pow10", laid_internal_strconv_uint64pow10), ("unicode/utf8.acceptRanges", laid_unicode_utf8_acceptRanges), ("unicode/utf8.first", laid_unicode_utf8_first)], narrowed := true }
def JourneymanParsesUptoSaid : Prop := journeymanParsesUptoRow.holds Tryz.pinned (OpenSpec.upto journeymanParsesSpec)

/-- 'tellurionlaw10.JourneymanNil', WHERE WHAT IT READS IS OF BULK AT MOST 1048576: true; the input reads as it did. -/
def journeymanNilUptoRow : OpenClaim := { program := "ytbefoehadfnkbaagreatdoor", sum := "2ef523c63d0573239d7c5a9b623f92a09fc3d40726ac2d94eb3e3ff8c00a6211", func := "tellurion/tellurionlaw10.JourneymanNil", spec := "journeymanNil", inPlace := ["internal/bytealg.IndexByteString", "internal/bytealg.CountString", "internal/bytealg.IndexString", "internal/abi.NoEscape", "internal/bytealg.MakeNoZero"], unfollowed := true, recurses := true, named := ["unicode/utf8.first", "unicode/utf8.acceptRanges", "internal/bytealg.MaxLen", "internal/strconv.uint64pow10", "math/bits.deBruijn32tab", "math/bits.deBruijn64tab"], plainKeys := false, apart := false, laid := [("math/bits.deBruijn32tab", laid_math_bits_deBruijn32tab), ("math/bits.deBruijn64tab", laid_math_bits_deBruijn64tab), ("internal/strconv.uint64pow10", laid_internal_strconv_uint64pow10), ("unicode/utf8.acceptRanges", laid_unicode_utf8_acceptRanges), ("unicode/utf8.first", laid_unicode_utf8_first)], narrowed := true }
def JourneymanNilUptoSaid : Prop := journeymanNilUptoRow.holds Tryz.pinned (OpenSpec.upto journeymanNilSpec)

/-- 'tellurionlaw10.JourneymanRefuses', WHERE WHAT IT READS IS OF BULK AT MOST 1048576: true; the input reads as it did. -/
def journeymanRefusesUptoRow : OpenClaim := { program := "ytbefoehadfnkbaagreatdoor", sum := "2ef523c63d0573239d7c5a9b623f92a09fc3d40726ac2d94eb3e3ff8c00a6211", func := "tellurion/tellurionlaw10.JourneymanRefuses", spec := "journeymanRefuses", inPlace := ["internal/bytealg.IndexByteString", "internal/bytealg.CountString", "internal/bytealg.IndexString", "internal/abi.NoEscape", "internal/bytealg.MakeNoZero"], unfollowed := true, recurses := true, named := ["unicode/utf8.first", "unicode/utf8.acceptRanges", "internal/bytealg.MaxLen", "internal/strconv.uint64pow10", "math/bits.deBruijn32tab", "math/bits.deBruijn64tab"], plainKeys := false, apart := false, laid := [("math/bits.deBruijn32tab", laid_math_bits_deBruijn32tab), ("math/bits.deBruijn64tab", laid_math_bits_deBruijn64tab), ("internal/strconv.uint64pow10", laid_internal_strconv_uint64pow10), ("unicode/utf8.acceptRanges", laid_unicode_utf8_acceptRanges), ("unicode/utf8.first", laid_unicode_utf8_first)], narrowed := true }
def JourneymanRefusesUptoSaid : Prop := journeymanRefusesUptoRow.holds Tryz.pinned (OpenSpec.upto journeymanRefusesSpec)

/-- 'tellurionlaw10.JourneymanCopies', WHERE WHAT IT READS IS OF BULK AT MOST 1048576: true; the input reads as it did. -/
def journeymanCopiesUptoRow : OpenClaim := { program := "ytbefoehadfnkbaagreatdoor", sum := "2ef523c63d0573239d7c5a9b623f92a09fc3d40726ac2d94eb3e3ff8c00a6211", func := "tellurion/tellurionlaw10.JourneymanCopies", spec := "journeymanCopies", inPlace := ["internal/bytealg.IndexByteString", "internal/bytealg.CountString", "internal/bytealg.IndexString", "internal/abi.NoEscape", "internal/bytealg.MakeNoZero"], unfollowed := true, recurses := true, named := ["unicode/utf8.first", "unicode/utf8.acceptRanges", "internal/bytealg.MaxLen", "internal/strconv.uint64pow10", "math/bits.deBruijn32tab", "math/bits.deBruijn64tab"], plainKeys := false, apart := false, laid := [("math/bits.deBruijn32tab", laid_math_bits_deBruijn32tab), ("math/bits.deBruijn64tab", laid_math_bits_deBruijn64tab), ("internal/strconv.uint64pow10", laid_internal_strconv_uint64pow10), ("unicode/utf8.acceptRanges", laid_unicode_utf8_acceptRanges), ("unicode/utf8.first", laid_unicode_utf8_first)], narrowed := true }
def JourneymanCopiesUptoSaid : Prop := journeymanCopiesUptoRow.holds Tryz.pinned (OpenSpec.upto journeymanCopiesSpec)

/-- 'tellurionlaw10.JourneymanEnters', WHERE WHAT IT READS IS OF BULK AT MOST 1048576: true; the input reads as it did. -/
def journeymanEntersUptoRow : OpenClaim := { program := "ytbefoehadfnkbaagreatdoor", sum := "2ef523c63d0573239d7c5a9b623f92a09fc3d40726ac2d94eb3e3ff8c00a6211", func := "tellurion/tellurionlaw10.JourneymanEnters", spec := "journeymanEnters", inPlace := ["internal/bytealg.IndexByteString", "internal/bytealg.CountString", "internal/bytealg.IndexString", "internal/abi.NoEscape", "internal/bytealg.MakeNoZero"], unfollowed := true, recurses := true, named := ["unicode/utf8.first", "unicode/utf8.acceptRanges", "internal/bytealg.MaxLen", "internal/strconv.uint64pow10", "math/bits.deBruijn32tab", "math/bits.deBruijn64tab"], plainKeys := false, apart := false, laid := [("math/bits.deBruijn32tab", laid_math_bits_deBruijn32tab), ("math/bits.deBruijn64tab", laid_math_bits_deBruijn64tab), ("internal/strconv.uint64pow10", laid_internal_strconv_uint64pow10), ("unicode/utf8.acceptRanges", laid_unicode_utf8_acceptRanges), ("unicode/utf8.first", laid_unicode_utf8_first)], narrowed := true }
def JourneymanEntersUptoSaid : Prop := journeymanEntersUptoRow.holds Tryz.pinned (OpenSpec.upto journeymanEntersSpec)

/-- 'tellurionlaw10.JourneymanReplays', WHERE WHAT IT READS IS OF BULK AT MOST 1048576: true; the input reads as it did. -/
def journeymanReplaysUptoRow : OpenClaim := { program := "ytbefoehadfnkbaagreatdoor", sum := "2ef523c63d0573239d7c5a9b623f92a09fc3d40726ac2d94eb3e3ff8c00a6211", func := "tellurion/tellurionlaw10.JourneymanReplays", spec := "journeymanReplays", inPlace := ["internal/bytealg.IndexByteString", "internal/bytealg.CountString", "internal/bytealg.IndexString", "internal/abi.NoEscape", "internal/bytealg.MakeNoZero"], unfollowed := true, recurses := true, named := ["unicode/utf8.first", "unicode/utf8.acceptRanges", "internal/bytealg.MaxLen", "internal/strconv.uint64pow10", "math/bits.deBruijn32tab", "math/bits.deBruijn64tab"], plainKeys := false, apart := false, laid := [("math/bits.deBruijn32tab", laid_math_bits_deBruijn32tab), ("math/bits.deBruijn64tab", laid_math_bits_deBruijn64tab), ("internal/strconv.uint64pow10", laid_internal_strconv_uint64pow10), ("unicode/utf8.acceptRanges", laid_unicode_utf8_acceptRanges), ("unicode/utf8.first", laid_unicode_utf8_first)], narrowed := true }
def JourneymanReplaysUptoSaid : Prop := journeymanReplaysUptoRow.holds Tryz.pinned (OpenSpec.upto journeymanReplaysSpec)

/-- 'tellurionlaw10.JourneymanAgain', WHERE WHAT IT READS IS OF BULK AT MOST 1048576: true; the input reads as it did. -/
def journeymanAgainUptoRow : OpenClaim := { program := "ytbefoehadfnkbaagreatdoor", sum := "2ef523c63d0573239d7c5a9b623f92a09fc3d40726ac2d94eb3e3ff8c00a6211", func := "tellurion/tellurionlaw10.JourneymanAgain", spec := "journeymanAgain", inPlace := ["internal/bytealg.IndexByteString", "internal/bytealg.CountString", "internal/bytealg.IndexString", "internal/abi.NoEscape", "internal/bytealg.MakeNoZero"], unfollowed := true, recurses := true, named := ["unicode/utf8.first", "unicode/utf8.acceptRanges", "internal/bytealg.MaxLen", "internal/strconv.uint64pow10", "math/bits.deBruijn32tab", "math/bits.deBruijn64tab"], plainKeys := false, apart := false, laid := [("math/bits.deBruijn32tab", laid_math_bits_deBruijn32tab), ("math/bits.deBruijn64tab", laid_math_bits_deBruijn64tab), ("internal/strconv.uint64pow10", laid_internal_strconv_uint64pow10), ("unicode/utf8.acceptRanges", laid_unicode_utf8_acceptRanges), ("unicode/utf8.first", laid_unicode_utf8_first)], narrowed := true }
def JourneymanAgainUptoSaid : Prop := journeymanAgainUptoRow.holds Tryz.pinned (OpenSpec.upto journeymanAgainSpec)

end Rows
end Go.Proofs.YtbefoehadfnkbaaGreatDoor
