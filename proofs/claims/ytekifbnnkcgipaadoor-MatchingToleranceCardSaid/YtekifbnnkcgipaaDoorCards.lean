/-
  DERIVED. GIVEN WITH THE SEED: THE CARDS: each row of YtekifbnnkcgipaaDoorRows.lean that lists a variable, with what it lists TIED to the program's text (the seventh form; the later family's looks); each row that meets fmt, with fmt's text TOLD by the authors' own Lean function (tested against real Go, not proved from fmt's source: count such statements apart). THE CARD IS WHAT COUNTS. Prove the row's statement (the work); the ties are given (YtekifbnnkcgipaaDoorTie.lean); close each card by the builder's one call (the guide's Derived/Test/ToyasCard.lean, 'card_holds'). Laid BY PROGRAM, IN A SANDBOX (cutbox-door.mjs). By AI agents, Wed Nov 11 2026. No macro, syntax, notation, axiom, sorry.
-/
import Derived.Test.YtekifbnnkcgipaaDoorRows
import GoSem.ClaimSeven
namespace Go.Proofs.YtekifbnnkcgipaaDoor
namespace Rows

/-- THE TIED CARD OF 'girolaw05.IdentCheck'. -/
def identCheckCard : Claim7 := { stood := { row := identCheckRow, standIns := [], harness := (true, "a464f23411399a26528153c837ce6acef89fea682d830ccc562ad021fa78ef41"), looks := false }, kinds := [], alts := [], laidByText := true, laidKinds := [.data, .data, .data], laidTests := true, laidLooks := .later }
def IdentCheckCardSaid : Prop := Claim7.holds Tryd.pinned (.plain (OpenSpec.ofChange identCheckSpec)) identCheckCard

/-- THE TIED CARD OF 'girolaw05.IdentLEICheckDigits'. -/
def identLEICheckDigitsCard : Claim7 := { stood := { row := identLEICheckDigitsRow, standIns := [], harness := (true, "a464f23411399a26528153c837ce6acef89fea682d830ccc562ad021fa78ef41"), looks := false }, kinds := [], alts := [], laidByText := true, laidKinds := [.data, .data, .data], laidTests := true, laidLooks := .later }
def IdentLEICheckDigitsCardSaid : Prop := Claim7.holds Tryd.pinned (.plain (OpenSpec.ofChange identLEICheckDigitsSpec)) identLEICheckDigitsCard

/-- THE TIED CARD OF 'girolaw05.IdentLEIUnique'. -/
def identLEIUniqueCard : Claim7 := { stood := { row := identLEIUniqueRow, standIns := [], harness := (true, "a464f23411399a26528153c837ce6acef89fea682d830ccc562ad021fa78ef41"), looks := false }, kinds := [], alts := [], laidByText := true, laidKinds := [.data, .data, .data], laidTests := true, laidLooks := .later }
def IdentLEIUniqueCardSaid : Prop := Claim7.holds Tryd.pinned (.plain (OpenSpec.ofChange identLEIUniqueSpec)) identLEIUniqueCard

/-- THE TIED CARD OF 'girolaw05.IdentISINSubstitution'. -/
def identISINSubstitutionCard : Claim7 := { stood := { row := identISINSubstitutionRow, standIns := [], harness := (true, "a464f23411399a26528153c837ce6acef89fea682d830ccc562ad021fa78ef41"), looks := false }, kinds := [], alts := [], laidByText := true, laidKinds := [.data, .data, .data], laidTests := true, laidLooks := .later }
def IdentISINSubstitutionCardSaid : Prop := Claim7.holds Tryd.pinned (.plain (OpenSpec.ofChange identISINSubstitutionSpec)) identISINSubstitutionCard

/-- THE TIED CARD OF 'girolaw05.IdentLEISubstitution'. -/
def identLEISubstitutionCard : Claim7 := { stood := { row := identLEISubstitutionRow, standIns := [], harness := (true, "a464f23411399a26528153c837ce6acef89fea682d830ccc562ad021fa78ef41"), looks := false }, kinds := [], alts := [], laidByText := true, laidKinds := [.data, .data, .data], laidTests := true, laidLooks := .later }
def IdentLEISubstitutionCardSaid : Prop := Claim7.holds Tryd.pinned (.plain (OpenSpec.ofChange identLEISubstitutionSpec)) identLEISubstitutionCard

/-- THE TIED CARD OF 'girolaw05.IdentPrefix'. -/
def identPrefixCard : Claim7 := { stood := { row := identPrefixRow, standIns := [], harness := (true, "a464f23411399a26528153c837ce6acef89fea682d830ccc562ad021fa78ef41"), looks := false }, kinds := [], alts := [], laidByText := true, laidKinds := [.data, .data, .data], laidTests := true, laidLooks := .later }
def IdentPrefixCardSaid : Prop := Claim7.holds Tryd.pinned (.plain (OpenSpec.ofChange identPrefixSpec)) identPrefixCard

/-- THE TIED CARD OF 'girolaw05.IdentISINCheckDigit'. -/
def identISINCheckDigitCard : Claim7 := { stood := { row := identISINCheckDigitRow, standIns := [], harness := (true, "a464f23411399a26528153c837ce6acef89fea682d830ccc562ad021fa78ef41"), looks := false }, kinds := [], alts := [], laidByText := true, laidKinds := [.data, .data, .data], laidTests := true, laidLooks := .later }
def IdentISINCheckDigitCardSaid : Prop := Claim7.holds Tryd.pinned (.plain (OpenSpec.ofChange identISINCheckDigitSpec)) identISINCheckDigitCard

/-- THE TIED CARD OF 'girolaw05.IdentISINUnique'. -/
def identISINUniqueCard : Claim7 := { stood := { row := identISINUniqueRow, standIns := [], harness := (true, "a464f23411399a26528153c837ce6acef89fea682d830ccc562ad021fa78ef41"), looks := false }, kinds := [], alts := [], laidByText := true, laidKinds := [.data, .data, .data], laidTests := true, laidLooks := .later }
def IdentISINUniqueCardSaid : Prop := Claim7.holds Tryd.pinned (.plain (OpenSpec.ofChange identISINUniqueSpec)) identISINUniqueCard

/-- THE TIED CARD OF 'girolaw23.MatchingCompare'. -/
def matchingCompareCard : Claim7 := { stood := { row := matchingCompareRow, standIns := [], harness := (true, "a464f23411399a26528153c837ce6acef89fea682d830ccc562ad021fa78ef41"), looks := false }, kinds := [], alts := [], laidByText := true, laidKinds := [.data, .data, .data], laidTests := true, laidLooks := .later }
def MatchingCompareCardSaid : Prop := Claim7.holds Tryd.pinned (.plain (OpenSpec.ofChange matchingCompareSpec)) matchingCompareCard

/-- THE TIED CARD OF 'girolaw23.MatchingTrades'. -/
def matchingTradesCard : Claim7 := { stood := { row := matchingTradesRow, standIns := [], harness := (true, "a464f23411399a26528153c837ce6acef89fea682d830ccc562ad021fa78ef41"), looks := false }, kinds := [], alts := [], laidByText := true, laidKinds := [.data, .data, .data], laidTests := true, laidLooks := .later }
def MatchingTradesCardSaid : Prop := Claim7.holds Tryd.pinned (.plain (OpenSpec.ofChange matchingTradesSpec)) matchingTradesCard

/-- THE TIED CARD OF 'girolaw23.MatchingSymmetry'. -/
def matchingSymmetryCard : Claim7 := { stood := { row := matchingSymmetryRow, standIns := [], harness := (true, "a464f23411399a26528153c837ce6acef89fea682d830ccc562ad021fa78ef41"), looks := false }, kinds := [], alts := [], laidByText := true, laidKinds := [.data, .data, .data], laidTests := true, laidLooks := .later }
def MatchingSymmetryCardSaid : Prop := Claim7.holds Tryd.pinned (.plain (OpenSpec.ofChange matchingSymmetrySpec)) matchingSymmetryCard

/-- THE TIED CARD OF 'girolaw23.MatchingTolerance'. -/
def matchingToleranceCard : Claim7 := { stood := { row := matchingToleranceRow, standIns := [], harness := (true, "a464f23411399a26528153c837ce6acef89fea682d830ccc562ad021fa78ef41"), looks := false }, kinds := [], alts := [], laidByText := true, laidKinds := [.data, .data, .data], laidTests := true, laidLooks := .later }
def MatchingToleranceCardSaid : Prop := Claim7.holds Tryd.pinned (.plain (OpenSpec.ofChange matchingToleranceSpec)) matchingToleranceCard

/-- THE TIED CARD OF 'girolaw23.MatchingFields'. -/
def matchingFieldsCard : Claim7 := { stood := { row := matchingFieldsRow, standIns := [], harness := (true, "a464f23411399a26528153c837ce6acef89fea682d830ccc562ad021fa78ef41"), looks := false }, kinds := [], alts := [], laidByText := true, laidKinds := [.data, .data, .data], laidTests := true, laidLooks := .later }
def MatchingFieldsCardSaid : Prop := Claim7.holds Tryd.pinned (.plain (OpenSpec.ofChange matchingFieldsSpec)) matchingFieldsCard

/-- THE TIED CARD OF 'girolaw23.MatchingBest'. -/
def matchingBestCard : Claim7 := { stood := { row := matchingBestRow, standIns := [], harness := (true, "a464f23411399a26528153c837ce6acef89fea682d830ccc562ad021fa78ef41"), looks := false }, kinds := [], alts := [], laidByText := true, laidKinds := [.data, .data, .data], laidTests := true, laidLooks := .later }
def MatchingBestCardSaid : Prop := Claim7.holds Tryd.pinned (.plain (OpenSpec.ofChange matchingBestSpec)) matchingBestCard

/-- THE TIED CARD OF 'girolaw23.MatchingRoundTrip'. -/
def matchingRoundTripCard : Claim7 := { stood := { row := matchingRoundTripRow, standIns := [], harness := (true, "a464f23411399a26528153c837ce6acef89fea682d830ccc562ad021fa78ef41"), looks := false }, kinds := [], alts := [], laidByText := true, laidKinds := [.data, .data, .data], laidTests := true, laidLooks := .later }
def MatchingRoundTripCardSaid : Prop := Claim7.holds Tryd.pinned (.plain (OpenSpec.ofChange matchingRoundTripSpec)) matchingRoundTripCard

/-- THE TIED CARD OF 'girolaw23.MatchingTradeCheck'. -/
def matchingTradeCheckCard : Claim7 := { stood := { row := matchingTradeCheckRow, standIns := [], harness := (true, "a464f23411399a26528153c837ce6acef89fea682d830ccc562ad021fa78ef41"), looks := false }, kinds := [], alts := [], laidByText := true, laidKinds := [.data, .data, .data], laidTests := true, laidLooks := .later }
def MatchingTradeCheckCardSaid : Prop := Claim7.holds Tryd.pinned (.plain (OpenSpec.ofChange matchingTradeCheckSpec)) matchingTradeCheckCard

/-- THE TIED CARD OF 'girolaw24.MatchpoolSymmetry'. -/
def matchpoolSymmetryCard : Claim7 := { stood := { row := matchpoolSymmetryRow, standIns := [], harness := (true, "a464f23411399a26528153c837ce6acef89fea682d830ccc562ad021fa78ef41"), looks := false }, kinds := [], alts := [], laidByText := true, laidKinds := [.data, .data, .data], laidTests := true, laidLooks := .later }
def MatchpoolSymmetryCardSaid : Prop := Claim7.holds Tryd.pinned (.plain (OpenSpec.ofChange matchpoolSymmetrySpec)) matchpoolSymmetryCard

/-- THE SECOND FORM's CARD OF 'girolaw05.IdentCheck'. -/
def identCheckUptoCard : Claim7 := { stood := { row := identCheckUptoRow, standIns := [], harness := (true, "a464f23411399a26528153c837ce6acef89fea682d830ccc562ad021fa78ef41"), looks := false }, kinds := [], alts := [], laidByText := true, laidKinds := [.data, .data, .data], laidTests := true, laidLooks := .later }
def IdentCheckUptoCardSaid : Prop := Claim7.holds Tryd.pinned (.plain (OpenSpec.upto identCheckSpec)) identCheckUptoCard

/-- THE SECOND FORM's CARD OF 'girolaw05.IdentLEICheckDigits'. -/
def identLEICheckDigitsUptoCard : Claim7 := { stood := { row := identLEICheckDigitsUptoRow, standIns := [], harness := (true, "a464f23411399a26528153c837ce6acef89fea682d830ccc562ad021fa78ef41"), looks := false }, kinds := [], alts := [], laidByText := true, laidKinds := [.data, .data, .data], laidTests := true, laidLooks := .later }
def IdentLEICheckDigitsUptoCardSaid : Prop := Claim7.holds Tryd.pinned (.plain (OpenSpec.upto identLEICheckDigitsSpec)) identLEICheckDigitsUptoCard

/-- THE SECOND FORM's CARD OF 'girolaw05.IdentLEIUnique'. -/
def identLEIUniqueUptoCard : Claim7 := { stood := { row := identLEIUniqueUptoRow, standIns := [], harness := (true, "a464f23411399a26528153c837ce6acef89fea682d830ccc562ad021fa78ef41"), looks := false }, kinds := [], alts := [], laidByText := true, laidKinds := [.data, .data, .data], laidTests := true, laidLooks := .later }
def IdentLEIUniqueUptoCardSaid : Prop := Claim7.holds Tryd.pinned (.plain (OpenSpec.upto identLEIUniqueSpec)) identLEIUniqueUptoCard

/-- THE SECOND FORM's CARD OF 'girolaw05.IdentISINSubstitution'. -/
def identISINSubstitutionUptoCard : Claim7 := { stood := { row := identISINSubstitutionUptoRow, standIns := [], harness := (true, "a464f23411399a26528153c837ce6acef89fea682d830ccc562ad021fa78ef41"), looks := false }, kinds := [], alts := [], laidByText := true, laidKinds := [.data, .data, .data], laidTests := true, laidLooks := .later }
def IdentISINSubstitutionUptoCardSaid : Prop := Claim7.holds Tryd.pinned (.plain (OpenSpec.upto identISINSubstitutionSpec)) identISINSubstitutionUptoCard

/-- THE SECOND FORM's CARD OF 'girolaw05.IdentLEISubstitution'. -/
def identLEISubstitutionUptoCard : Claim7 := { stood := { row := identLEISubstitutionUptoRow, standIns := [], harness := (true, "a464f23411399a26528153c837ce6acef89fea682d830ccc562ad021fa78ef41"), looks := false }, kinds := [], alts := [], laidByText := true, laidKinds := [.data, .data, .data], laidTests := true, laidLooks := .later }
def IdentLEISubstitutionUptoCardSaid : Prop := Claim7.holds Tryd.pinned (.plain (OpenSpec.upto identLEISubstitutionSpec)) identLEISubstitutionUptoCard

/-- THE SECOND FORM's CARD OF 'girolaw05.IdentPrefix'. -/
def identPrefixUptoCard : Claim7 := { stood := { row := identPrefixUptoRow, standIns := [], harness := (true, "a464f23411399a26528153c837ce6acef89fea682d830ccc562ad021fa78ef41"), looks := false }, kinds := [], alts := [], laidByText := true, laidKinds := [.data, .data, .data], laidTests := true, laidLooks := .later }
def IdentPrefixUptoCardSaid : Prop := Claim7.holds Tryd.pinned (.plain (OpenSpec.upto identPrefixSpec)) identPrefixUptoCard

/-- THE SECOND FORM's CARD OF 'girolaw05.IdentISINCheckDigit'. -/
def identISINCheckDigitUptoCard : Claim7 := { stood := { row := identISINCheckDigitUptoRow, standIns := [], harness := (true, "a464f23411399a26528153c837ce6acef89fea682d830ccc562ad021fa78ef41"), looks := false }, kinds := [], alts := [], laidByText := true, laidKinds := [.data, .data, .data], laidTests := true, laidLooks := .later }
def IdentISINCheckDigitUptoCardSaid : Prop := Claim7.holds Tryd.pinned (.plain (OpenSpec.upto identISINCheckDigitSpec)) identISINCheckDigitUptoCard

/-- THE SECOND FORM's CARD OF 'girolaw05.IdentISINUnique'. -/
def identISINUniqueUptoCard : Claim7 := { stood := { row := identISINUniqueUptoRow, standIns := [], harness := (true, "a464f23411399a26528153c837ce6acef89fea682d830ccc562ad021fa78ef41"), looks := false }, kinds := [], alts := [], laidByText := true, laidKinds := [.data, .data, .data], laidTests := true, laidLooks := .later }
def IdentISINUniqueUptoCardSaid : Prop := Claim7.holds Tryd.pinned (.plain (OpenSpec.upto identISINUniqueSpec)) identISINUniqueUptoCard

/-- THE SECOND FORM's CARD OF 'girolaw23.MatchingCompare'. -/
def matchingCompareUptoCard : Claim7 := { stood := { row := matchingCompareUptoRow, standIns := [], harness := (true, "a464f23411399a26528153c837ce6acef89fea682d830ccc562ad021fa78ef41"), looks := false }, kinds := [], alts := [], laidByText := true, laidKinds := [.data, .data, .data], laidTests := true, laidLooks := .later }
def MatchingCompareUptoCardSaid : Prop := Claim7.holds Tryd.pinned (.plain (OpenSpec.upto matchingCompareSpec)) matchingCompareUptoCard

/-- THE SECOND FORM's CARD OF 'girolaw23.MatchingTrades'. -/
def matchingTradesUptoCard : Claim7 := { stood := { row := matchingTradesUptoRow, standIns := [], harness := (true, "a464f23411399a26528153c837ce6acef89fea682d830ccc562ad021fa78ef41"), looks := false }, kinds := [], alts := [], laidByText := true, laidKinds := [.data, .data, .data], laidTests := true, laidLooks := .later }
def MatchingTradesUptoCardSaid : Prop := Claim7.holds Tryd.pinned (.plain (OpenSpec.upto matchingTradesSpec)) matchingTradesUptoCard

/-- THE SECOND FORM's CARD OF 'girolaw23.MatchingSymmetry'. -/
def matchingSymmetryUptoCard : Claim7 := { stood := { row := matchingSymmetryUptoRow, standIns := [], harness := (true, "a464f23411399a26528153c837ce6acef89fea682d830ccc562ad021fa78ef41"), looks := false }, kinds := [], alts := [], laidByText := true, laidKinds := [.data, .data, .data], laidTests := true, laidLooks := .later }
def MatchingSymmetryUptoCardSaid : Prop := Claim7.holds Tryd.pinned (.plain (OpenSpec.upto matchingSymmetrySpec)) matchingSymmetryUptoCard

/-- THE SECOND FORM's CARD OF 'girolaw23.MatchingTolerance'. -/
def matchingToleranceUptoCard : Claim7 := { stood := { row := matchingToleranceUptoRow, standIns := [], harness := (true, "a464f23411399a26528153c837ce6acef89fea682d830ccc562ad021fa78ef41"), looks := false }, kinds := [], alts := [], laidByText := true, laidKinds := [.data, .data, .data], laidTests := true, laidLooks := .later }
def MatchingToleranceUptoCardSaid : Prop := Claim7.holds Tryd.pinned (.plain (OpenSpec.upto matchingToleranceSpec)) matchingToleranceUptoCard

/-- THE SECOND FORM's CARD OF 'girolaw23.MatchingFields'. -/
def matchingFieldsUptoCard : Claim7 := { stood := { row := matchingFieldsUptoRow, standIns := [], harness := (true, "a464f23411399a26528153c837ce6acef89fea682d830ccc562ad021fa78ef41"), looks := false }, kinds := [], alts := [], laidByText := true, laidKinds := [.data, .data, .data], laidTests := true, laidLooks := .later }
def MatchingFieldsUptoCardSaid : Prop := Claim7.holds Tryd.pinned (.plain (OpenSpec.upto matchingFieldsSpec)) matchingFieldsUptoCard

/-- THE SECOND FORM's CARD OF 'girolaw23.MatchingBest'. -/
def matchingBestUptoCard : Claim7 := { stood := { row := matchingBestUptoRow, standIns := [], harness := (true, "a464f23411399a26528153c837ce6acef89fea682d830ccc562ad021fa78ef41"), looks := false }, kinds := [], alts := [], laidByText := true, laidKinds := [.data, .data, .data], laidTests := true, laidLooks := .later }
def MatchingBestUptoCardSaid : Prop := Claim7.holds Tryd.pinned (.plain (OpenSpec.upto matchingBestSpec)) matchingBestUptoCard

/-- THE SECOND FORM's CARD OF 'girolaw23.MatchingRoundTrip'. -/
def matchingRoundTripUptoCard : Claim7 := { stood := { row := matchingRoundTripUptoRow, standIns := [], harness := (true, "a464f23411399a26528153c837ce6acef89fea682d830ccc562ad021fa78ef41"), looks := false }, kinds := [], alts := [], laidByText := true, laidKinds := [.data, .data, .data], laidTests := true, laidLooks := .later }
def MatchingRoundTripUptoCardSaid : Prop := Claim7.holds Tryd.pinned (.plain (OpenSpec.upto matchingRoundTripSpec)) matchingRoundTripUptoCard

/-- THE SECOND FORM's CARD OF 'girolaw23.MatchingTradeCheck'. -/
def matchingTradeCheckUptoCard : Claim7 := { stood := { row := matchingTradeCheckUptoRow, standIns := [], harness := (true, "a464f23411399a26528153c837ce6acef89fea682d830ccc562ad021fa78ef41"), looks := false }, kinds := [], alts := [], laidByText := true, laidKinds := [.data, .data, .data], laidTests := true, laidLooks := .later }
def MatchingTradeCheckUptoCardSaid : Prop := Claim7.holds Tryd.pinned (.plain (OpenSpec.upto matchingTradeCheckSpec)) matchingTradeCheckUptoCard

/-- THE SECOND FORM's CARD OF 'girolaw24.MatchpoolSymmetry'. -/
def matchpoolSymmetryUptoCard : Claim7 := { stood := { row := matchpoolSymmetryUptoRow, standIns := [], harness := (true, "a464f23411399a26528153c837ce6acef89fea682d830ccc562ad021fa78ef41"), looks := false }, kinds := [], alts := [], laidByText := true, laidKinds := [.data, .data, .data], laidTests := true, laidLooks := .later }
def MatchpoolSymmetryUptoCardSaid : Prop := Claim7.holds Tryd.pinned (.plain (OpenSpec.upto matchpoolSymmetrySpec)) matchpoolSymmetryUptoCard
end Rows
end Go.Proofs.YtekifbnnkcgipaaDoor
