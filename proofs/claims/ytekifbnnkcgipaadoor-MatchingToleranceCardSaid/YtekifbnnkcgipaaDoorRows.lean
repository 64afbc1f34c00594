/-
  NARROWER THAN 'FOR EVERY INPUT', by the rows' own cells (each row's printed sentence says how): IdentCheck: laid · IdentLEICheckDigits: laid · IdentLEIUnique: laid · IdentISINSubstitution: laid · IdentLEISubstitution: laid · IdentPrefix: laid · IdentISINCheckDigit: laid · IdentISINUnique: laid · MatchingCompare: laid · MatchingTrades: laid · MatchingSymmetry: laid · MatchingTolerance: laid · MatchingFields: laid · MatchingBest: laid · MatchingRoundTrip: laid · MatchingTradeCheck: laid · MatchpoolSymmetry: laid.
  DERIVED. THE GIVEN ROWS OF THIS SEAT. 17 by the template 'for every input the law returns true; each argument reads behind the call as it read before'; 0 by the template 'total and deterministic' (their statements: YtekifbnnkcgipaaDoorTotals.lean).
  GIVEN WITH THE SEED: the statements are not yours to turn. If you find one false, say at which input.
  Laid BY PROGRAM, IN A SANDBOX (cutbox-rows.mjs): the forced cells as the released guide's own fill.sh prints them over the translation 554a7f109f4e4177… (all of the seat's roots in one cut). By AI agents, Wed Nov 11 2026. No macro, syntax, notation, axiom, sorry.
-/
import Derived.Test.YtekifbnnkcgipaaDoorChecked
import GoSem.Claim
import GoSem.ClaimJoined
import GoSem.ClaimMapViews
import Derived.JoinedTies
import Derived.KernelRfl
namespace Go.Proofs.YtekifbnnkcgipaaDoor
/- THE CELL 'sum', in the pinned program and in every row, IS THE sha256 OF THE DUMP (.gsa) THAT YtekifbnnkcgipaaDoorProg.lean LOADS. Nothing in Lean hashes anything: it is a label: what it is worth is what the hold of that sum in a sandbox is worth. -/
noncomputable def Tryd.pinned : Pinned := { name := "ytekifbnnkcgipaadoor", sum := "554a7f109f4e41778da7f3379755390bac9edb886135835b13ba6326b7372a07", checked := Tryd.checked }
namespace Rows
def none {H : Type} : Left H := { results := [], args := [] }

/- WHAT THE LISTED PACKAGE-LEVEL VARIABLES READ AS WHEN THE CALL BEGINS. Each datum BY PROGRAM (the guide's laid-datum.mjs) off the statement by which the dump's own 'gosem.cut.vars' lays the variable. In a bare row this is a premise. The card (YtekifbnnkcgipaaDoorCards.lean) ties it to the program's text. -/
def laid_math_bits_deBruijn32tab {H : Type} : DataW H := .agg [.lit (.int .u8 0), .lit (.int .u8 1), .lit (.int .u8 28), .lit (.int .u8 2), .lit (.int .u8 29), .lit (.int .u8 14), .lit (.int .u8 24), .lit (.int .u8 3), .lit (.int .u8 30), .lit (.int .u8 22), .lit (.int .u8 20), .lit (.int .u8 15), .lit (.int .u8 25), .lit (.int .u8 17), .lit (.int .u8 4), .lit (.int .u8 8), .lit (.int .u8 31), .lit (.int .u8 27), .lit (.int .u8 13), .lit (.int .u8 23), .lit (.int .u8 21), .lit (.int .u8 19), .lit (.int .u8 16), .lit (.int .u8 7), .lit (.int .u8 26), .lit (.int .u8 12), .lit (.int .u8 18), .lit (.int .u8 6), .lit (.int .u8 11), .lit (.int .u8 5), .lit (.int .u8 10), .lit (.int .u8 9)]
def laid_math_bits_deBruijn64tab {H : Type} : DataW H := .agg [.lit (.int .u8 0), .lit (.int .u8 1), .lit (.int .u8 56), .lit (.int .u8 2), .lit (.int .u8 57), .lit (.int .u8 49), .lit (.int .u8 28), .lit (.int .u8 3), .lit (.int .u8 61), .lit (.int .u8 58), .lit (.int .u8 42), .lit (.int .u8 50), .lit (.int .u8 38), .lit (.int .u8 29), .lit (.int .u8 17), .lit (.int .u8 4), .lit (.int .u8 62), .lit (.int .u8 47), .lit (.int .u8 59), .lit (.int .u8 36), .lit (.int .u8 45), .lit (.int .u8 43), .lit (.int .u8 51), .lit (.int .u8 22), .lit (.int .u8 53), .lit (.int .u8 39), .lit (.int .u8 33), .lit (.int .u8 30), .lit (.int .u8 24), .lit (.int .u8 18), .lit (.int .u8 12), .lit (.int .u8 5), .lit (.int .u8 63), .lit (.int .u8 55), .lit (.int .u8 48), .lit (.int .u8 27), .lit (.int .u8 60), .lit (.int .u8 41), .lit (.int .u8 37), .lit (.int .u8 16), .lit (.int .u8 46), .lit (.int .u8 35), .lit (.int .u8 44), .lit (.int .u8 21), .lit (.int .u8 52), .lit (.int .u8 32), .lit (.int .u8 23), .lit (.int .u8 11), .lit (.int .u8 54), .lit (.int .u8 26), .lit (.int .u8 40), .lit (.int .u8 15), .lit (.int .u8 34), .lit (.int .u8 20), .lit (.int .u8 31), .lit (.int .u8 10), .lit (.int .u8 25), .lit (.int .u8 14), .lit (.int .u8 19), .lit (.int .u8 9), .lit (.int .u8 13), .lit (.int .u8 8), .lit (.int .u8 7), .lit (.int .u8 6)]
def laid_internal_strconv_uint64pow10 {H : Type} : DataW H := .agg [.lit (.int .u64 1), .lit (.int .u64 10), .lit (.int .u64 100), .lit (.int .u64 1000), .lit (.int .u64 10000), .lit (.int .u64 100000), .lit (.int .u64 1000000), .lit (.int .u64 10000000), .lit (.int .u64 100000000), .lit (.int .u64 1000000000), .lit (.int .u64 10000000000), .lit (.int .u64 100000000000), .lit (.int .u64 1000000000000), .lit (.int .u64 10000000000000), .lit (.int .u64 100000000000000), .lit (.int .u64 1000000000000000), .lit (.int .u64 10000000000000000), .lit (.int .u64 100000000000000000), .lit (.int .u64 1000000000000000000), .lit (.int .u64 10000000000000000000)]

/-- 'girolaw05.IdentCheck': WHATEVER THE INPUT: true; the input reads as it did. -/
def identCheckSpec : ChangeSpec := { name := "identCheck", fn := fun _ => fun
  | [d1, d2] => { results := [.lit (.bool true)], args := [d1, d2] }
  | _ => none }
def identCheckRow : OpenClaim := { program := "ytekifbnnkcgipaadoor", sum := "554a7f109f4e41778da7f3379755390bac9edb886135835b13ba6326b7372a07", func := "giro/girolaw05.IdentCheck", spec := "identCheck", inPlace := ["internal/abi.NoEscape"], unfollowed := true, recurses := true, named := ["internal/strconv.uint64pow10", "math/bits.deBruijn32tab", "math/bits.deBruijn64tab"], apart := false, laid := [("math/bits.deBruijn32tab", laid_math_bits_deBruijn32tab), ("math/bits.deBruijn64tab", laid_math_bits_deBruijn64tab), ("internal/strconv.uint64pow10", laid_internal_strconv_uint64pow10)] }
def IdentCheckSaid : Prop := identCheckRow.holds Tryd.pinned (OpenSpec.ofChange identCheckSpec)

/-- ITS FALSE NEIGHBOUR: 'it returns false'. Refute it at one input. -/
def identCheckWrong : ChangeSpec := { name := "identCheck", fn := fun _ => fun
  | [d1, d2] => { results := [.lit (.bool false)], args := [d1, d2] }
  | _ => none }
def IdentCheckWrongFalsely : Prop := identCheckRow.holds Tryd.pinned (OpenSpec.ofChange identCheckWrong)

/-- 'girolaw05.IdentLEICheckDigits': WHATEVER THE INPUT: true; the input reads as it did. -/
def identLEICheckDigitsSpec : ChangeSpec := { name := "identLEICheckDigits", fn := fun _ => fun
  | [d] => { results := [.lit (.bool true)], args := [d] }
  | _ => none }
def identLEICheckDigitsRow : OpenClaim := { program := "ytekifbnnkcgipaadoor", sum := "554a7f109f4e41778da7f3379755390bac9edb886135835b13ba6326b7372a07", func := "giro/girolaw05.IdentLEICheckDigits", spec := "identLEICheckDigits", inPlace := ["internal/abi.NoEscape"], unfollowed := true, recurses := true, named := ["internal/strconv.uint64pow10", "math/bits.deBruijn32tab", "math/bits.deBruijn64tab"], apart := false, laid := [("math/bits.deBruijn32tab", laid_math_bits_deBruijn32tab), ("math/bits.deBruijn64tab", laid_math_bits_deBruijn64tab), ("internal/strconv.uint64pow10", laid_internal_strconv_uint64pow10)] }
def IdentLEICheckDigitsSaid : Prop := identLEICheckDigitsRow.holds Tryd.pinned (OpenSpec.ofChange identLEICheckDigitsSpec)

/-- ITS FALSE NEIGHBOUR: 'it returns false'. Refute it at one input. -/
def identLEICheckDigitsWrong : ChangeSpec := { name := "identLEICheckDigits", fn := fun _ => fun
  | [d] => { results := [.lit (.bool false)], args := [d] }
  | _ => none }
def IdentLEICheckDigitsWrongFalsely : Prop := identLEICheckDigitsRow.holds Tryd.pinned (OpenSpec.ofChange identLEICheckDigitsWrong)

/-- 'girolaw05.IdentLEIUnique': WHATEVER THE INPUT: true; the input reads as it did. -/
def identLEIUniqueSpec : ChangeSpec := { name := "identLEIUnique", fn := fun _ => fun
  | [d] => { results := [.lit (.bool true)], args := [d] }
  | _ => none }
def identLEIUniqueRow : OpenClaim := { program := "ytekifbnnkcgipaadoor", sum := "554a7f109f4e41778da7f3379755390bac9edb886135835b13ba6326b7372a07", func := "giro/girolaw05.IdentLEIUnique", spec := "identLEIUnique", inPlace := ["internal/abi.NoEscape"], unfollowed := true, recurses := true, named := ["internal/strconv.uint64pow10", "math/bits.deBruijn32tab", "math/bits.deBruijn64tab"], apart := false, laid := [("math/bits.deBruijn32tab", laid_math_bits_deBruijn32tab), ("math/bits.deBruijn64tab", laid_math_bits_deBruijn64tab), ("internal/strconv.uint64pow10", laid_internal_strconv_uint64pow10)] }
def IdentLEIUniqueSaid : Prop := identLEIUniqueRow.holds Tryd.pinned (OpenSpec.ofChange identLEIUniqueSpec)

/-- ITS FALSE NEIGHBOUR: 'it returns false'. Refute it at one input. -/
def identLEIUniqueWrong : ChangeSpec := { name := "identLEIUnique", fn := fun _ => fun
  | [d] => { results := [.lit (.bool false)], args := [d] }
  | _ => none }
def IdentLEIUniqueWrongFalsely : Prop := identLEIUniqueRow.holds Tryd.pinned (OpenSpec.ofChange identLEIUniqueWrong)

/-- 'girolaw05.IdentISINSubstitution': WHATEVER THE INPUT: true; the input reads as it did. -/
def identISINSubstitutionSpec : ChangeSpec := { name := "identISINSubstitution", fn := fun _ => fun
  | [d1, d2, d3] => { results := [.lit (.bool true)], args := [d1, d2, d3] }
  | _ => none }
def identISINSubstitutionRow : OpenClaim := { program := "ytekifbnnkcgipaadoor", sum := "554a7f109f4e41778da7f3379755390bac9edb886135835b13ba6326b7372a07", func := "giro/girolaw05.IdentISINSubstitution", spec := "identISINSubstitution", inPlace := ["internal/abi.NoEscape"], unfollowed := true, recurses := true, named := ["internal/strconv.uint64pow10", "math/bits.deBruijn32tab", "math/bits.deBruijn64tab"], apart := false, laid := [("math/bits.deBruijn32tab", laid_math_bits_deBruijn32tab), ("math/bits.deBruijn64tab", laid_math_bits_deBruijn64tab), ("internal/strconv.uint64pow10", laid_internal_strconv_uint64pow10)] }
def IdentISINSubstitutionSaid : Prop := identISINSubstitutionRow.holds Tryd.pinned (OpenSpec.ofChange identISINSubstitutionSpec)

/-- ITS FALSE NEIGHBOUR: 'it returns false'. Refute it at one input. -/
def identISINSubstitutionWrong : ChangeSpec := { name := "identISINSubstitution", fn := fun _ => fun
  | [d1, d2, d3] => { results := [.lit (.bool false)], args := [d1, d2, d3] }
  | _ => none }
def IdentISINSubstitutionWrongFalsely : Prop := identISINSubstitutionRow.holds Tryd.pinned (OpenSpec.ofChange identISINSubstitutionWrong)

/-- 'girolaw05.IdentLEISubstitution': WHATEVER THE INPUT: true; the input reads as it did. -/
def identLEISubstitutionSpec : ChangeSpec := { name := "identLEISubstitution", fn := fun _ => fun
  | [d1, d2, d3] => { results := [.lit (.bool true)], args := [d1, d2, d3] }
  | _ => none }
def identLEISubstitutionRow : OpenClaim := { program := "ytekifbnnkcgipaadoor", sum := "554a7f109f4e41778da7f3379755390bac9edb886135835b13ba6326b7372a07", func := "giro/girolaw05.IdentLEISubstitution", spec := "identLEISubstitution", inPlace := ["internal/abi.NoEscape"], unfollowed := true, recurses := true, named := ["internal/strconv.uint64pow10", "math/bits.deBruijn32tab", "math/bits.deBruijn64tab"], apart := false, laid := [("math/bits.deBruijn32tab", laid_math_bits_deBruijn32tab), ("math/bits.deBruijn64tab", laid_math_bits_deBruijn64tab), ("internal/strconv.uint64pow10", laid_internal_strconv_uint64pow10)] }
def IdentLEISubstitutionSaid : Prop := identLEISubstitutionRow.holds Tryd.pinned (OpenSpec.ofChange identLEISubstitutionSpec)

/-- ITS FALSE NEIGHBOUR: 'it returns false'. Refute it at one input. -/
def identLEISubstitutionWrong : ChangeSpec := { name := "identLEISubstitution", fn := fun _ => fun
  | [d1, d2, d3] => { results := [.lit (.bool false)], args := [d1, d2, d3] }
  | _ => none }
def IdentLEISubstitutionWrongFalsely : Prop := identLEISubstitutionRow.holds Tryd.pinned (OpenSpec.ofChange identLEISubstitutionWrong)

/-- 'girolaw05.IdentPrefix': WHATEVER THE INPUT: true; the input reads as it did. -/
def identPrefixSpec : ChangeSpec := { name := "identPrefix", fn := fun _ => fun
  | [d1, d2, d3] => { results := [.lit (.bool true)], args := [d1, d2, d3] }
  | _ => none }
def identPrefixRow : OpenClaim := { program := "ytekifbnnkcgipaadoor", sum := "554a7f109f4e41778da7f3379755390bac9edb886135835b13ba6326b7372a07", func := "giro/girolaw05.IdentPrefix", spec := "identPrefix", inPlace := ["internal/abi.NoEscape"], unfollowed := true, recurses := true, named := ["internal/strconv.uint64pow10", "math/bits.deBruijn32tab", "math/bits.deBruijn64tab"], apart := false, laid := [("math/bits.deBruijn32tab", laid_math_bits_deBruijn32tab), ("math/bits.deBruijn64tab", laid_math_bits_deBruijn64tab), ("internal/strconv.uint64pow10", laid_internal_strconv_uint64pow10)] }
def IdentPrefixSaid : Prop := identPrefixRow.holds Tryd.pinned (OpenSpec.ofChange identPrefixSpec)

/-- ITS FALSE NEIGHBOUR: 'it returns false'. Refute it at one input. -/
def identPrefixWrong : ChangeSpec := { name := "identPrefix", fn := fun _ => fun
  | [d1, d2, d3] => { results := [.lit (.bool false)], args := [d1, d2, d3] }
  | _ => none }
def IdentPrefixWrongFalsely : Prop := identPrefixRow.holds Tryd.pinned (OpenSpec.ofChange identPrefixWrong)

/-- 'girolaw05.IdentISINCheckDigit': WHATEVER THE INPUT: true; the input reads as it did. -/
def identISINCheckDigitSpec : ChangeSpec := { name := "identISINCheckDigit", fn := fun _ => fun
  | [d] => { results := [.lit (.bool true)], args := [d] }
  | _ => none }
def identISINCheckDigitRow : OpenClaim := { program := "ytekifbnnkcgipaadoor", sum := "554a7f109f4e41778da7f3379755390bac9edb886135835b13ba6326b7372a07", func := "giro/girolaw05.IdentISINCheckDigit", spec := "identISINCheckDigit", inPlace := ["internal/abi.NoEscape"], unfollowed := true, recurses := true, named := ["internal/strconv.uint64pow10", "math/bits.deBruijn32tab", "math/bits.deBruijn64tab"], apart := false, laid := [("math/bits.deBruijn32tab", laid_math_bits_deBruijn32tab), ("math/bits.deBruijn64tab", laid_math_bits_deBruijn64tab), ("internal/strconv.uint64pow10", laid_internal_strconv_uint64pow10)] }
def IdentISINCheckDigitSaid : Prop := identISINCheckDigitRow.holds Tryd.pinned (OpenSpec.ofChange identISINCheckDigitSpec)

/-- ITS FALSE NEIGHBOUR: 'it returns false'. Refute it at one input. -/
def identISINCheckDigitWrong : ChangeSpec := { name := "identISINCheckDigit", fn := fun _ => fun
  | [d] => { results := [.lit (.bool false)], args := [d] }
  | _ => none }
def IdentISINCheckDigitWrongFalsely : Prop := identISINCheckDigitRow.holds Tryd.pinned (OpenSpec.ofChange identISINCheckDigitWrong)

/-- 'girolaw05.IdentISINUnique': WHATEVER THE INPUT: true; the input reads as it did. -/
def identISINUniqueSpec : ChangeSpec := { name := "identISINUnique", fn := fun _ => fun
  | [d] => { results := [.lit (.bool true)], args := [d] }
  | _ => none }
def identISINUniqueRow : OpenClaim := { program := "ytekifbnnkcgipaadoor", sum := "554a7f109f4e41778da7f3379755390bac9edb886135835b13ba6326b7372a07", func := "giro/girolaw05.IdentISINUnique", spec := "identISINUnique", inPlace := ["internal/abi.NoEscape"], unfollowed := true, recurses := true, named := ["internal/strconv.uint64pow10", "math/bits.deBruijn32tab", "math/bits.deBruijn64tab"], apart := false, laid := [("math/bits.deBruijn32tab", laid_math_bits_deBruijn32tab), ("math/bits.deBruijn64tab", laid_math_bits_deBruijn64tab), ("internal/strconv.uint64pow10", laid_internal_strconv_uint64pow10)] }
def IdentISINUniqueSaid : Prop := identISINUniqueRow.holds Tryd.pinned (OpenSpec.ofChange identISINUniqueSpec)

/-- ITS FALSE NEIGHBOUR: 'it returns false'. Refute it at one input. -/
def identISINUniqueWrong : ChangeSpec := { name := "identISINUnique", fn := fun _ => fun
  | [d] => { results := [.lit (.bool false)], args := [d] }
  | _ => none }
def IdentISINUniqueWrongFalsely : Prop := identISINUniqueRow.holds Tryd.pinned (OpenSpec.ofChange identISINUniqueWrong)

/-- 'girolaw23.MatchingCompare': WHATEVER THE INPUT: true; the input reads as it did. -/
def matchingCompareSpec : ChangeSpec := { name := "matchingCompare", fn := fun _ => fun
  | [d1, d2, d3] => { results := [.lit (.bool true)], args := [d1, d2, d3] }
  | _ => none }
def matchingCompareRow : OpenClaim := { program := "ytekifbnnkcgipaadoor", sum := "554a7f109f4e41778da7f3379755390bac9edb886135835b13ba6326b7372a07", func := "giro/girolaw23.MatchingCompare", spec := "matchingCompare", inPlace := ["internal/abi.NoEscape"], unfollowed := true, recurses := true, named := ["internal/strconv.uint64pow10", "math/bits.deBruijn32tab", "math/bits.deBruijn64tab"], apart := false, laid := [("math/bits.deBruijn32tab", laid_math_bits_deBruijn32tab), ("math/bits.deBruijn64tab", laid_math_bits_deBruijn64tab), ("internal/strconv.uint64pow10", laid_internal_strconv_uint64pow10)] }
def MatchingCompareSaid : Prop := matchingCompareRow.holds Tryd.pinned (OpenSpec.ofChange matchingCompareSpec)

/-- ITS FALSE NEIGHBOUR: 'it returns false'. Refute it at one input. -/
def matchingCompareWrong : ChangeSpec := { name := "matchingCompare", fn := fun _ => fun
  | [d1, d2, d3] => { results := [.lit (.bool false)], args := [d1, d2, d3] }
  | _ => none }
def MatchingCompareWrongFalsely : Prop := matchingCompareRow.holds Tryd.pinned (OpenSpec.ofChange matchingCompareWrong)

/-- 'girolaw23.MatchingTrades': WHATEVER THE INPUT: true; the input reads as it did. -/
def matchingTradesSpec : ChangeSpec := { name := "matchingTrades", fn := fun _ => fun
  | [d1, d2, d3] => { results := [.lit (.bool true)], args := [d1, d2, d3] }
  | _ => none }
def matchingTradesRow : OpenClaim := { program := "ytekifbnnkcgipaadoor", sum := "554a7f109f4e41778da7f3379755390bac9edb886135835b13ba6326b7372a07", func := "giro/girolaw23.MatchingTrades", spec := "matchingTrades", inPlace := ["internal/abi.NoEscape"], unfollowed := true, recurses := true, named := ["internal/strconv.uint64pow10", "math/bits.deBruijn32tab", "math/bits.deBruijn64tab"], apart := false, laid := [("math/bits.deBruijn32tab", laid_math_bits_deBruijn32tab), ("math/bits.deBruijn64tab", laid_math_bits_deBruijn64tab), ("internal/strconv.uint64pow10", laid_internal_strconv_uint64pow10)] }
def MatchingTradesSaid : Prop := matchingTradesRow.holds Tryd.pinned (OpenSpec.ofChange matchingTradesSpec)

/-- ITS FALSE NEIGHBOUR: 'it returns false'. Refute it at one input. -/
def matchingTradesWrong : ChangeSpec := { name := "matchingTrades", fn := fun _ => fun
  | [d1, d2, d3] => { results := [.lit (.bool false)], args := [d1, d2, d3] }
  | _ => none }
def MatchingTradesWrongFalsely : Prop := matchingTradesRow.holds Tryd.pinned (OpenSpec.ofChange matchingTradesWrong)

/-- 'girolaw23.MatchingSymmetry': WHATEVER THE INPUT: true; the input reads as it did. -/
def matchingSymmetrySpec : ChangeSpec := { name := "matchingSymmetry", fn := fun _ => fun
  | [d1, d2, d3] => { results := [.lit (.bool true)], args := [d1, d2, d3] }
  | _ => none }
def matchingSymmetryRow : OpenClaim := { program := "ytekifbnnkcgipaadoor", sum := "554a7f109f4e41778da7f3379755390bac9edb886135835b13ba6326b7372a07", func := "giro/girolaw23.MatchingSymmetry", spec := "matchingSymmetry", inPlace := ["internal/abi.NoEscape"], unfollowed := true, recurses := true, named := ["internal/strconv.uint64pow10", "math/bits.deBruijn32tab", "math/bits.deBruijn64tab"], apart := false, laid := [("math/bits.deBruijn32tab", laid_math_bits_deBruijn32tab), ("math/bits.deBruijn64tab", laid_math_bits_deBruijn64tab), ("internal/strconv.uint64pow10", laid_internal_strconv_uint64pow10)] }
def MatchingSymmetrySaid : Prop := matchingSymmetryRow.holds Tryd.pinned (OpenSpec.ofChange matchingSymmetrySpec)

/-- ITS FALSE NEIGHBOUR: 'it returns false'. Refute it at one input. -/
def matchingSymmetryWrong : ChangeSpec := { name := "matchingSymmetry", fn := fun _ => fun
  | [d1, d2, d3] => { results := [.lit (.bool false)], args := [d1, d2, d3] }
  | _ => none }
def MatchingSymmetryWrongFalsely : Prop := matchingSymmetryRow.holds Tryd.pinned (OpenSpec.ofChange matchingSymmetryWrong)

/-- 'girolaw23.MatchingTolerance': WHATEVER THE INPUT: true; the input reads as it did. -/
def matchingToleranceSpec : ChangeSpec := { name := "matchingTolerance", fn := fun _ => fun
  | [d1, d2, d3] => { results := [.lit (.bool true)], args := [d1, d2, d3] }
  | _ => none }
def matchingToleranceRow : OpenClaim := { program := "ytekifbnnkcgipaadoor", sum := "554a7f109f4e41778da7f3379755390bac9edb886135835b13ba6326b7372a07", func := "giro/girolaw23.MatchingTolerance", spec := "matchingTolerance", inPlace := ["internal/abi.NoEscape"], unfollowed := true, recurses := true, named := ["internal/strconv.uint64pow10", "math/bits.deBruijn32tab", "math/bits.deBruijn64tab"], apart := false, laid := [("math/bits.deBruijn32tab", laid_math_bits_deBruijn32tab), ("math/bits.deBruijn64tab", laid_math_bits_deBruijn64tab), ("internal/strconv.uint64pow10", laid_internal_strconv_uint64pow10)] }
def MatchingToleranceSaid : Prop := matchingToleranceRow.holds Tryd.pinned (OpenSpec.ofChange matchingToleranceSpec)

/-- ITS FALSE NEIGHBOUR: 'it returns false'. Refute it at one input. -/
def matchingToleranceWrong : ChangeSpec := { name := "matchingTolerance", fn := fun _ => fun
  | [d1, d2, d3] => { results := [.lit (.bool false)], args := [d1, d2, d3] }
  | _ => none }
def MatchingToleranceWrongFalsely : Prop := matchingToleranceRow.holds Tryd.pinned (OpenSpec.ofChange matchingToleranceWrong)

/-- 'girolaw23.MatchingFields': WHATEVER THE INPUT: true; the input reads as it did. -/
def matchingFieldsSpec : ChangeSpec := { name := "matchingFields", fn := fun _ => fun
  | [d] => { results := [.lit (.bool true)], args := [d] }
  | _ => none }
def matchingFieldsRow : OpenClaim := { program := "ytekifbnnkcgipaadoor", sum := "554a7f109f4e41778da7f3379755390bac9edb886135835b13ba6326b7372a07", func := "giro/girolaw23.MatchingFields", spec := "matchingFields", inPlace := ["internal/abi.NoEscape"], unfollowed := true, recurses := true, named := ["internal/strconv.uint64pow10", "math/bits.deBruijn32tab", "math/bits.deBruijn64tab"], apart := false, laid := [("math/bits.deBruijn32tab", laid_math_bits_deBruijn32tab), ("math/bits.deBruijn64tab", laid_math_bits_deBruijn64tab), ("internal/strconv.uint64pow10", laid_internal_strconv_uint64pow10)] }
def MatchingFieldsSaid : Prop := matchingFieldsRow.holds Tryd.pinned (OpenSpec.ofChange matchingFieldsSpec)

/-- ITS FALSE NEIGHBOUR: 'it returns false'. Refute it at one input. -/
def matchingFieldsWrong : ChangeSpec := { name := "matchingFields", fn := fun _ => fun
  | [d] => { results := [.lit (.bool false)], args := [d] }
  | _ => none }
def MatchingFieldsWrongFalsely : Prop := matchingFieldsRow.holds Tryd.pinned (OpenSpec.ofChange matchingFieldsWrong)

/-- 'girolaw23.MatchingBest': WHATEVER THE INPUT: true; the input reads as it did. -/
def matchingBestSpec : ChangeSpec := { name := "matchingBest", fn := fun _ => fun
  | [d1, d2, d3] => { results := [.lit (.bool true)], args := [d1, d2, d3] }
  | _ => none }
def matchingBestRow : OpenClaim := { program := "ytekifbnnkcgipaadoor", sum := "554a7f109f4e41778da7f3379755390bac9edb886135835b13ba6326b7372a07", func := "giro/girolaw23.MatchingBest", spec := "matchingBest", inPlace := ["internal/abi.NoEscape"], unfollowed := true, recurses := true, named := ["internal/strconv.uint64pow10", "math/bits.deBruijn32tab", "math/bits.deBruijn64tab"], apart := false, laid := [("math/bits.deBruijn32tab", laid_math_bits_deBruijn32tab), ("math/bits.deBruijn64tab", laid_math_bits_deBruijn64tab), ("internal/strconv.uint64pow10", laid_internal_strconv_uint64pow10)] }
def MatchingBestSaid : Prop := matchingBestRow.holds Tryd.pinned (OpenSpec.ofChange matchingBestSpec)

/-- ITS FALSE NEIGHBOUR: 'it returns false'. Refute it at one input. -/
def matchingBestWrong : ChangeSpec := { name := "matchingBest", fn := fun _ => fun
  | [d1, d2, d3] => { results := [.lit (.bool false)], args := [d1, d2, d3] }
  | _ => none }
def MatchingBestWrongFalsely : Prop := matchingBestRow.holds Tryd.pinned (OpenSpec.ofChange matchingBestWrong)

/-- 'girolaw23.MatchingRoundTrip': WHATEVER THE INPUT: true; the input reads as it did. -/
def matchingRoundTripSpec : ChangeSpec := { name := "matchingRoundTrip", fn := fun _ => fun
  | [d1, d2, d3] => { results := [.lit (.bool true)], args := [d1, d2, d3] }
  | _ => none }
def matchingRoundTripRow : OpenClaim := { program := "ytekifbnnkcgipaadoor", sum := "554a7f109f4e41778da7f3379755390bac9edb886135835b13ba6326b7372a07", func := "giro/girolaw23.MatchingRoundTrip", spec := "matchingRoundTrip", inPlace := ["internal/abi.NoEscape"], unfollowed := true, recurses := true, named := ["internal/strconv.uint64pow10", "math/bits.deBruijn32tab", "math/bits.deBruijn64tab"], apart := false, laid := [("math/bits.deBruijn32tab", laid_math_bits_deBruijn32tab), ("math/bits.deBruijn64tab", laid_math_bits_deBruijn64tab), ("internal/strconv.uint64pow10", laid_internal_strconv_uint64pow10)] }
def MatchingRoundTripSaid : Prop := matchingRoundTripRow.holds Tryd.pinned (OpenSpec.ofChange matchingRoundTripSpec)

/-- ITS FALSE NEIGHBOUR: 'it returns false'. Refute it at one input. -/
def matchingRoundTripWrong : ChangeSpec := { name := "matchingRoundTrip", fn := fun _ => fun
  | [d1, d2, d3] => { results := [.lit (.bool false)], args := [d1, d2, d3] }
  | _ => none }
def MatchingRoundTripWrongFalsely : Prop := matchingRoundTripRow.holds Tryd.pinned (OpenSpec.ofChange matchingRoundTripWrong)

/-- 'girolaw23.MatchingTradeCheck': WHATEVER THE INPUT: true; the input reads as it did. -/
def matchingTradeCheckSpec : ChangeSpec := { name := "matchingTradeCheck", fn := fun _ => fun
  | [d] => { results := [.lit (.bool true)], args := [d] }
  | _ => none }
def matchingTradeCheckRow : OpenClaim := { program := "ytekifbnnkcgipaadoor", sum := "554a7f109f4e41778da7f3379755390bac9edb886135835b13ba6326b7372a07", func := "giro/girolaw23.MatchingTradeCheck", spec := "matchingTradeCheck", inPlace := ["internal/abi.NoEscape"], unfollowed := true, recurses := true, named := ["internal/strconv.uint64pow10", "math/bits.deBruijn32tab", "math/bits.deBruijn64tab"], apart := false, laid := [("math/bits.deBruijn32tab", laid_math_bits_deBruijn32tab), ("math/bits.deBruijn64tab", laid_math_bits_deBruijn64tab), ("internal/strconv.uint64pow10", laid_internal_strconv_uint64pow10)] }
def MatchingTradeCheckSaid : Prop := matchingTradeCheckRow.holds Tryd.pinned (OpenSpec.ofChange matchingTradeCheckSpec)

/-- ITS FALSE NEIGHBOUR: 'it returns false'. Refute it at one input. -/
def matchingTradeCheckWrong : ChangeSpec := { name := "matchingTradeCheck", fn := fun _ => fun
  | [d] => { results := [.lit (.bool false)], args := [d] }
  | _ => none }
def MatchingTradeCheckWrongFalsely : Prop := matchingTradeCheckRow.holds Tryd.pinned (OpenSpec.ofChange matchingTradeCheckWrong)

/-- 'girolaw24.MatchpoolSymmetry': WHATEVER THE INPUT: true; the input reads as it did. -/
def matchpoolSymmetrySpec : ChangeSpec := { name := "matchpoolSymmetry", fn := fun _ => fun
  | [d1, d2, d3] => { results := [.lit (.bool true)], args := [d1, d2, d3] }
  | _ => none }
def matchpoolSymmetryRow : OpenClaim := { program := "ytekifbnnkcgipaadoor", sum := "554a7f109f4e41778da7f3379755390bac9edb886135835b13ba6326b7372a07", func := "giro/girolaw24.MatchpoolSymmetry", spec := "matchpoolSymmetry", inPlace := ["internal/abi.NoEscape"], unfollowed := true, recurses := true, named := ["internal/strconv.uint64pow10", "math/bits.deBruijn32tab", "math/bits.deBruijn64tab"], apart := false, laid := [("math/bits.deBruijn32tab", laid_math_bits_deBruijn32tab), ("math/bits.deBruijn64tab", laid_math_bits_deBruijn64tab), ("internal/strconv.uint64pow10", laid_internal_strconv_uint64pow10)] }
def MatchpoolSymmetrySaid : Prop := matchpoolSymmetryRow.holds Tryd.pinned (OpenSpec.ofChange matchpoolSymmetrySpec)

/-- ITS FALSE NEIGHBOUR: 'it returns false'. Refute it at one input. -/
def matchpoolSymmetryWrong : ChangeSpec := { name := "matchpoolSymmetry", fn := fun _ => fun
  | [d1, d2, d3] => { results := [.lit (.bool false)], args := [d1, d2, d3] }
  | _ => none }
def MatchpoolSymmetryWrongFalsely : Prop := matchpoolSymmetryRow.holds Tryd.pinned (OpenSpec.ofChange matchpoolSymmetryWrong)

/- THE SECOND FORM. 'bulk': how many values and letters a reading holds, each counted each time it is reached (what is shared counts as often as it is met; a slice's spare places count too). A statement '..UptoSaid' is the law's where the arguments, and the package variables that the reading takes, are together of bulk at most 1048576: NARROWER than '..Said'. Prove '..Said' where nothing that the law and all that it calls make is longer than what came in: it says more and counts as full. Else prove '..UptoSaid'. A law counts once. -/
mutual
def uptoBulk {H : Type} : DataW H → Nat
  | .lit (.string bytes) => bytes.length + 1
  | .lit _ => 1
  | .nil => 1
  | .ptr d => uptoBulk d + 1
  | .slice elems spare => uptoBulkAll elems + uptoBulkAll spare + 1
  | .agg parts => uptoBulkAll parts + 1
  | .iface _ d => uptoBulk d + 1
  | .map entries => uptoBulkEntries entries + 1
  | .held _ => 1
def uptoBulkAll {H : Type} : List (DataW H) → Nat
  | [] => 0
  | d :: r => uptoBulk d + uptoBulkAll r
def uptoBulkEntries {H : Type} : List (Lit × DataW H) → Nat
  | [] => 0
  | x :: r => uptoBulkEntry x + uptoBulkEntries r
def uptoBulkEntry {H : Type} : Lit × DataW H → Nat
  | (.string bytes, d) => bytes.length + uptoBulk d + 1
  | (_, d) => uptoBulk d + 1
 end
def uptoSmall : (H : Type) → List (DataW H) → Bool := fun _ ds => decide (uptoBulkAll ds ≤ 1048576)
def OpenSpec.upto (s : _root_.Go.ChangeSpec) : _root_.Go.OpenSpec := { _root_.Go.OpenSpec.ofChange s with cond := some uptoSmall }

/-- 'girolaw05.IdentCheck', WHERE WHAT IT READS IS OF BULK AT MOST 1048576: true; the input reads as it did. -/
def identCheckUptoRow : OpenClaim := { program := "ytekifbnnkcgipaadoor", sum := "554a7f109f4e41778da7f3379755390bac9edb886135835b13ba6326b7372a07", func := "giro/girolaw05.IdentCheck", spec := "identCheck", inPlace := ["internal/abi.NoEscape"], unfollowed := true, recurses := true, named := ["internal/strconv.uint64pow10", "math/bits.deBruijn32tab", "math/bits.deBruijn64tab"], apart := false, laid := [("math/bits.deBruijn32tab", laid_math_bits_deBruijn32tab), ("math/bits.deBruijn64tab", laid_math_bits_deBruijn64tab), ("internal/strconv.uint64pow10", laid_internal_strconv_uint64pow10)], narrowed := true }
def IdentCheckUptoSaid : Prop := identCheckUptoRow.holds Tryd.pinned (OpenSpec.upto identCheckSpec)

/-- 'girolaw05.IdentLEICheckDigits', WHERE WHAT IT READS IS OF BULK AT MOST 1048576: true; the input reads as it did. -/
def identLEICheckDigitsUptoRow : OpenClaim := { program := "ytekifbnnkcgipaadoor", sum := "554a7f109f4e41778da7f3379755390bac9edb886135835b13ba6326b7372a07", func := "giro/girolaw05.IdentLEICheckDigits", spec := "identLEICheckDigits", inPlace := ["internal/abi.NoEscape"], unfollowed := true, recurses := true, named := ["internal/strconv.uint64pow10", "math/bits.deBruijn32tab", "math/bits.deBruijn64tab"], apart := false, laid := [("math/bits.deBruijn32tab", laid_math_bits_deBruijn32tab), ("math/bits.deBruijn64tab", laid_math_bits_deBruijn64tab), ("internal/strconv.uint64pow10", laid_internal_strconv_uint64pow10)], narrowed := true }
def IdentLEICheckDigitsUptoSaid : Prop := identLEICheckDigitsUptoRow.holds Tryd.pinned (OpenSpec.upto identLEICheckDigitsSpec)

/-- 'girolaw05.IdentLEIUnique', WHERE WHAT IT READS IS OF BULK AT MOST 1048576: true; the input reads as it did. -/
def identLEIUniqueUptoRow : OpenClaim := { program := "ytekifbnnkcgipaadoor", sum := "554a7f109f4e41778da7f3379755390bac9edb886135835b13ba6326b7372a07", func := "giro/girolaw05.IdentLEIUnique", spec := "identLEIUnique", inPlace := ["internal/abi.NoEscape"], unfollowed := true, recurses := true, named := ["internal/strconv.uint64pow10", "math/bits.deBruijn32tab", "math/bits.deBruijn64tab"], apart := false, laid := [("math/bits.deBruijn32tab", laid_math_bits_deBruijn32tab), ("math/bits.deBruijn64tab", laid_math_bits_deBruijn64tab), ("internal/strconv.uint64pow10", laid_internal_strconv_uint64pow10)], narrowed := true }
def IdentLEIUniqueUptoSaid : Prop := identLEIUniqueUptoRow.holds Tryd.pinned (OpenSpec.upto identLEIUniqueSpec)

/-- 'girolaw05.IdentISINSubstitution', WHERE WHAT IT READS IS OF BULK AT MOST 1048576: true; the input reads as it did. -/
def identISINSubstitutionUptoRow : OpenClaim := { program := "ytekifbnnkcgipaadoor", sum := "554a7f109f4e41778da7f3379755390bac9edb886135835b13ba6326b7372a07", func := "giro/girolaw05.IdentISINSubstitution", spec := "identISINSubstitution", inPlace := ["internal/abi.NoEscape"], unfollowed := true, recurses := true, named := ["internal/strconv.uint64pow10", "math/bits.deBruijn32tab", "math/bits.deBruijn64tab"], apart := false, laid := [("math/bits.deBruijn32tab", laid_math_bits_deBruijn32tab), ("math/bits.deBruijn64tab", laid_math_bits_deBruijn64tab), ("internal/strconv.uint64pow10", laid_internal_strconv_uint64pow10)], narrowed := true }
def IdentISINSubstitutionUptoSaid : Prop := identISINSubstitutionUptoRow.holds Tryd.pinned (OpenSpec.upto identISINSubstitutionSpec)

/-- 'girolaw05.IdentLEISubstitution', WHERE WHAT IT READS IS OF BULK AT MOST 1048576: true; the input reads as it did. -/
def identLEISubstitutionUptoRow : OpenClaim := { program := "ytekifbnnkcgipaadoor", sum := "554a7f109f4e41778da7f3379755390bac9edb886135835b13ba6326b7372a07", func := "giro/girolaw05.IdentLEISubstitution", spec := "identLEISubstitution", inPlace := ["internal/abi.NoEscape"], unfollowed := true, recurses := true, named := ["internal/strconv.uint64pow10", "math/bits.deBruijn32tab", "math/bits.deBruijn64tab"], apart := false, laid := [("math/bits.deBruijn32tab", laid_math_bits_deBruijn32tab), ("math/bits.deBruijn64tab", laid_math_bits_deBruijn64tab), ("internal/strconv.uint64pow10", laid_internal_strconv_uint64pow10)], narrowed := true }
def IdentLEISubstitutionUptoSaid : Prop := identLEISubstitutionUptoRow.holds Tryd.pinned (OpenSpec.upto identLEISubstitutionSpec)

/-- 'girolaw05.IdentPrefix', WHERE WHAT IT READS IS OF BULK AT MOST 1048576: true; the input reads as it did. -/
def identPrefixUptoRow : OpenClaim := { program := "ytekifbnnkcgipaadoor", sum := "554a7f109f4e41778da7f3379755390bac9edb886135835b13ba6326b7372a07", func := "giro/girolaw05.IdentPrefix", spec := "identPrefix", inPlace := ["internal/abi.NoEscape"], unfollowed := true, recurses := true, named := ["internal/strconv.uint64pow10", "math/bits.deBruijn32tab", "math/bits.deBruijn64tab"], apart := false, laid := [("math/bits.deBruijn32tab", laid_math_bits_deBruijn32tab), ("math/bits.deBruijn64tab", laid_math_bits_deBruijn64tab), ("internal/strconv.uint64pow10", laid_internal_strconv_uint64pow10)], narrowed := true }
def IdentPrefixUptoSaid : Prop := identPrefixUptoRow.holds Tryd.pinned (OpenSpec.upto identPrefixSpec)

/-- 'girolaw05.IdentISINCheckDigit', WHERE WHAT IT READS IS OF BULK AT MOST 1048576: true; the input reads as it did. -/
def identISINCheckDigitUptoRow : OpenClaim := { program := "ytekifbnnkcgipaadoor", sum := "554a7f109f4e41778da7f3379755390bac9edb886135835b13ba6326b7372a07", func := "giro/girolaw05.IdentISINCheckDigit", spec := "identISINCheckDigit", inPlace := ["internal/abi.NoEscape"], unfollowed := true, recurses := true, named := ["internal/strconv.uint64pow10", "math/bits.deBruijn32tab", "math/bits.deBruijn64tab"], apart := false, laid := [("math/bits.deBruijn32tab", laid_math_bits_deBruijn32tab), ("math/bits.deBruijn64tab", laid_math_bits_deBruijn64tab), ("internal/strconv.uint64pow10", laid_internal_strconv_uint64pow10)], narrowed := true }
def IdentISINCheckDigitUptoSaid : Prop := identISINCheckDigitUptoRow.holds Tryd.pinned (OpenSpec.upto identISINCheckDigitSpec)

/-- 'girolaw05.IdentISINUnique', WHERE WHAT IT READS IS OF BULK AT MOST 1048576: true; the input reads as it did. -/
def identISINUniqueUptoRow : OpenClaim := { program := "ytekifbnnkcgipaadoor", sum := "554a7f109f4e41778da7f3379755390bac9edb886135835b13ba6326b7372a07", func := "giro/girolaw05.IdentISINUnique", spec := "identISINUnique", inPlace := ["internal/abi.NoEscape"], unfollowed := true, recurses := true, named := ["internal/strconv.uint64pow10", "math/bits.deBruijn32tab", "math/bits.deBruijn64tab"], apart := false, laid := [("math/bits.deBruijn32tab", laid_math_bits_deBruijn32tab), ("math/bits.deBruijn64tab", laid_math_bits_deBruijn64tab), ("internal/strconv.uint64pow10", laid_internal_strconv_uint64pow10)], narrowed := true }
def IdentISINUniqueUptoSaid : Prop := identISINUniqueUptoRow.holds Tryd.pinned (OpenSpec.upto identISINUniqueSpec)

/-- 'girolaw23.MatchingCompare', WHERE WHAT IT READS IS OF BULK AT MOST 1048576: true; the input reads as it did. -/
def matchingCompareUptoRow : OpenClaim := { program := "ytekifbnnkcgipaadoor", sum := "554a7f109f4e41778da7f3379755390bac9edb886135835b13ba6326b7372a07", func := "giro/girolaw23.MatchingCompare", spec := "matchingCompare", inPlace := ["internal/abi.NoEscape"], unfollowed := true, recurses := true, named := ["internal/strconv.uint64pow10", "math/bits.deBruijn32tab", "math/bits.deBruijn64tab"], apart := false, laid := [("math/bits.deBruijn32tab", laid_math_bits_deBruijn32tab), ("math/bits.deBruijn64tab", laid_math_bits_deBruijn64tab), ("internal/strconv.uint64pow10", laid_internal_strconv_uint64pow10)], narrowed := true }
def MatchingCompareUptoSaid : Prop := matchingCompareUptoRow.holds Tryd.pinned (OpenSpec.upto matchingCompareSpec)

/-- 'girolaw23.MatchingTrades', WHERE WHAT IT READS IS OF BULK AT MOST 1048576: true; the input reads as it did. -/
def matchingTradesUptoRow : OpenClaim := { program := "ytekifbnnkcgipaadoor", sum := "554a7f109f4e41778da7f3379755390bac9edb886135835b13ba6326b7372a07", func := "giro/girolaw23.MatchingTrades", spec := "matchingTrades", inPlace := ["internal/abi.NoEscape"], unfollowed := true, recurses := true, named := ["internal/strconv.uint64pow10", "math/bits.deBruijn32tab", "math/bits.deBruijn64tab"], apart := false, laid := [("math/bits.deBruijn32tab", laid_math_bits_deBruijn32tab), ("math/bits.deBruijn64tab", laid_math_bits_deBruijn64tab), ("internal/strconv.uint64pow10", laid_internal_strconv_uint64pow10)], narrowed := true }
def MatchingTradesUptoSaid : Prop := matchingTradesUptoRow.holds Tryd.pinned (OpenSpec.upto matchingTradesSpec)

/-- 'girolaw23.MatchingSymmetry', WHERE WHAT IT READS IS OF BULK AT MOST 1048576: true; the input reads as it did. -/
def matchingSymmetryUptoRow : OpenClaim := { program := "ytekifbnnkcgipaadoor", sum := "554a7f109f4e41778da7f3379755390bac9edb886135835b13ba6326b7372a07", func := "giro/girolaw23.MatchingSymmetry", spec := "matchingSymmetry", inPlace := ["internal/abi.NoEscape"], unfollowed := true, recurses := true, named := ["internal/strconv.uint64pow10", "math/bits.deBruijn32tab", "math/bits.deBruijn64tab"], apart := false, laid := [("math/bits.deBruijn32tab", laid_math_bits_deBruijn32tab), ("math/bits.deBruijn64tab", laid_math_bits_deBruijn64tab), ("internal/strconv.uint64pow10", laid_internal_strconv_uint64pow10)], narrowed := true }
def MatchingSymmetryUptoSaid : Prop := matchingSymmetryUptoRow.holds Tryd.pinned (OpenSpec.upto matchingSymmetrySpec)

/-- 'girolaw23.MatchingTolerance', WHERE WHAT IT READS IS OF BULK AT MOST 1048576: true; the input reads as it did. -/
def matchingToleranceUptoRow : OpenClaim := { program := "ytekifbnnkcgipaadoor", sum := "554a7f109f4e41778da7f3379755390bac9edb886135835b13ba6326b7372a07", func := "giro/girolaw23.MatchingTolerance", spec := "matchingTolerance", inPlace := ["internal/abi.NoEscape"], unfollowed := true, recurses := true, named := ["internal/strconv.uint64pow10", "math/bits.deBruijn32tab", "math/bits.deBruijn64tab"], apart := false, laid := [("math/bits.deBruijn32tab", laid_math_bits_deBruijn32tab), ("math/bits.deBruijn64tab", laid_math_bits_deBruijn64tab), ("internal/strconv.uint64pow10", laid_internal_strconv_uint64pow10)], narrowed := true }
def MatchingToleranceUptoSaid : Prop := matchingToleranceUptoRow.holds Tryd.pinned (OpenSpec.upto matchingToleranceSpec)

/-- 'girolaw23.MatchingFields', WHERE WHAT IT READS IS OF BULK AT MOST 1048576: true; the input reads as it did. -/
def matchingFieldsUptoRow : OpenClaim := { program := "ytekifbnnkcgipaadoor", sum := "554a7f109f4e41778da7f3379755390bac9edb886135835b13ba6326b7372a07", func := "giro/girolaw23.MatchingFields", spec := "matchingFields", inPlace := ["internal/abi.NoEscape"], unfollowed := true, recurses := true, named := ["internal/strconv.uint64pow10", "math/bits.deBruijn32tab", "math/bits.deBruijn64tab"], apart := false, laid := [("math/bits.deBruijn32tab", laid_math_bits_deBruijn32tab), ("math/bits.deBruijn64tab", laid_math_bits_deBruijn64tab), ("internal/strconv.uint64pow10", laid_internal_strconv_uint64pow10)], narrowed := true }
def MatchingFieldsUptoSaid : Prop := matchingFieldsUptoRow.holds Tryd.pinned (OpenSpec.upto matchingFieldsSpec)

/-- 'girolaw23.MatchingBest', WHERE WHAT IT READS IS OF BULK AT MOST 1048576: true; the input reads as it did. -/
def matchingBestUptoRow : OpenClaim := { program := "ytekifbnnkcgipaadoor", sum := "554a7f109f4e41778da7f3379755390bac9edb886135835b13ba6326b7372a07", func := "giro/girolaw23.MatchingBest", spec := "matchingBest", inPlace := ["internal/abi.NoEscape"], unfollowed := true, recurses := true, named := ["internal/strconv.uint64pow10", "math/bits.deBruijn32tab", "math/bits.deBruijn64tab"], apart := false, laid := [("math/bits.deBruijn32tab", laid_math_bits_deBruijn32tab), ("math/bits.deBruijn64tab", laid_math_bits_deBruijn64tab), ("internal/strconv.uint64pow10", laid_internal_strconv_uint64pow10)], narrowed := true }
def MatchingBestUptoSaid : Prop := matchingBestUptoRow.holds Tryd.pinned (OpenSpec.upto matchingBestSpec)

/-- 'girolaw23.MatchingRoundTrip', WHERE WHAT IT READS IS OF BULK AT MOST 1048576: true; the input reads as it did. -/
def matchingRoundTripUptoRow : OpenClaim := { program := "ytekifbnnkcgipaadoor", sum := "554a7f109f4e41778da7f3379755390bac9edb886135835b13ba6326b7372a07", func := "giro/girolaw23.MatchingRoundTrip", spec := "matchingRoundTrip", inPlace := ["internal/abi.NoEscape"], unfollowed := true, recurses := true, named := ["internal/strconv.uint64pow10", "math/bits.deBruijn32tab", "math/bits.deBruijn64tab"], apart := false, laid := [("math/bits.deBruijn32tab", laid_math_bits_deBruijn32tab), ("math/bits.deBruijn64tab", laid_math_bits_deBruijn64tab), ("internal/strconv.uint64pow10", laid_internal_strconv_uint64pow10)], narrowed := true }
def MatchingRoundTripUptoSaid : Prop := matchingRoundTripUptoRow.holds Tryd.pinned (OpenSpec.upto matchingRoundTripSpec)

/-- 'girolaw23.MatchingTradeCheck', WHERE WHAT IT READS IS OF BULK AT MOST 1048576: true; the input reads as it did. -/
def matchingTradeCheckUptoRow : OpenClaim := { program := "ytekifbnnkcgipaadoor", sum := "554a7f109f4e41778da7f3379755390bac9edb886135835b13ba6326b7372a07", func := "giro/girolaw23.MatchingTradeCheck", spec := "matchingTradeCheck", inPlace := ["internal/abi.NoEscape"], unfollowed := true, recurses := true, named := ["internal/strconv.uint64pow10", "math/bits.deBruijn32tab", "math/bits.deBruijn64tab"], apart := false, laid := [("math/bits.deBruijn32tab", laid_math_bits_deBruijn32tab), ("math/bits.deBruijn64tab", laid_math_bits_deBruijn64tab), ("internal/strconv.uint64pow10", laid_internal_strconv_uint64pow10)], narrowed := true }
def MatchingTradeCheckUptoSaid : Prop := matchingTradeCheckUptoRow.holds Tryd.pinned (OpenSpec.upto matchingTradeCheckSpec)

/-- 'girolaw24.MatchpoolSymmetry', WHERE WHAT IT READS IS OF BULK AT MOST 1048576: true; the input reads as it did. -/
def matchpoolSymmetryUptoRow : OpenClaim := { program := "ytekifbnnkcgipaadoor", sum := "554a7f109f4e41778da7f3379755390bac9edb886135835b13ba6326b7372a07", func := "giro/girolaw24.MatchpoolSymmetry", spec := "matchpoolSymmetry", inPlace := ["internal/abi.NoEscape"], unfollowed := true, recurses := true, named := ["internal/strconv.uint64pow10", "math/bits.deBruijn32tab", "math/bits.deBruijn64tab"], apart := false, laid := [("math/bits.deBruijn32tab", laid_math_bits_deBruijn32tab), ("math/bits.deBruijn64tab", laid_math_bits_deBruijn64tab), ("internal/strconv.uint64pow10", laid_internal_strconv_uint64pow10)], narrowed := true }
def MatchpoolSymmetryUptoSaid : Prop := matchpoolSymmetryUptoRow.holds Tryd.pinned (OpenSpec.upto matchpoolSymmetrySpec)

end Rows
end Go.Proofs.YtekifbnnkcgipaaDoor
