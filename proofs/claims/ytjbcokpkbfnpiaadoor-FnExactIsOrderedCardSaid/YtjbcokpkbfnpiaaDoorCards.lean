/-
  DERIVED. GIVEN WITH THE SEED: THE CARDS: each row of YtjbcokpkbfnpiaaDoorRows.lean that lists a variable, with what it lists TIED to the program's text (the seventh form; the later family's looks); each row that meets fmt, with fmt's text TOLD by the authors' own Lean function (tested against real Go, not proved from fmt's source: count such statements apart). THE CARD IS WHAT COUNTS. Prove the row's statement (the work); the ties are given (YtjbcokpkbfnpiaaDoorTie.lean); close each card by the builder's one call (the guide's Derived/Test/ToyasCard.lean, 'card_holds'). Laid BY PROGRAM, IN A SANDBOX (cutbox-door.mjs). By AI agents, Wed Nov 11 2026. No macro, syntax, notation, axiom, sorry.
-/
import Derived.Test.YtjbcokpkbfnpiaaDoorRows
import GoSem.ClaimSeven
namespace Go.Proofs.YtjbcokpkbfnpiaaDoor
namespace Rows

/-- THE TIED CARD OF 'laws.FnExactToText'. -/
def fnExactToTextCard : Claim7 := { stood := { row := fnExactToTextRow, standIns := [], harness := (true, "f0fa76292d9e9a5442125b11ff9c37f88b9b692358dc1d8ec0b9c0b27306e882"), looks := true }, kinds := [], alts := [], laidByText := true, laidKinds := [.data, .data, .data], laidTests := true, laidLooks := .later }
def FnExactToTextCardSaid : Prop := Claim7.holds Tryd.pinned (.plain (OpenSpec.ofChange fnExactToTextSpec)) fnExactToTextCard

/-- THE TIED CARD OF 'laws.FnExactCompareValues'. -/
def fnExactCompareValuesCard : Claim7 := { stood := { row := fnExactCompareValuesRow, standIns := [], harness := (true, "f0fa76292d9e9a5442125b11ff9c37f88b9b692358dc1d8ec0b9c0b27306e882"), looks := true }, kinds := [], alts := [], laidByText := true, laidKinds := [.data, .data, .data], laidTests := true, laidLooks := .later }
def FnExactCompareValuesCardSaid : Prop := Claim7.holds Tryd.pinned (.plain (OpenSpec.ofChange fnExactCompareValuesSpec)) fnExactCompareValuesCard

/-- THE TIED CARD OF 'laws.FnExactLooseEqual'. -/
def fnExactLooseEqualCard : Claim7 := { stood := { row := fnExactLooseEqualRow, standIns := [], harness := (true, "f0fa76292d9e9a5442125b11ff9c37f88b9b692358dc1d8ec0b9c0b27306e882"), looks := true }, kinds := [], alts := [], laidByText := true, laidKinds := [.data, .data, .data], laidTests := true, laidLooks := .later }
def FnExactLooseEqualCardSaid : Prop := Claim7.holds Tryd.pinned (.plain (OpenSpec.ofChange fnExactLooseEqualSpec)) fnExactLooseEqualCard

/-- THE TIED CARD OF 'laws.FnExactIsOrdered'. -/
def fnExactIsOrderedCard : Claim7 := { stood := { row := fnExactIsOrderedRow, standIns := [], harness := (true, "f0fa76292d9e9a5442125b11ff9c37f88b9b692358dc1d8ec0b9c0b27306e882"), looks := true }, kinds := [], alts := [], laidByText := true, laidKinds := [.data, .data, .data], laidTests := true, laidLooks := .later }
def FnExactIsOrderedCardSaid : Prop := Claim7.holds Tryd.pinned (.plain (OpenSpec.ofChange fnExactIsOrderedSpec)) fnExactIsOrderedCard

/-- THE TIED CARD OF 'laws.FnExactSortValues'. -/
def fnExactSortValuesCard : Claim7 := { stood := { row := fnExactSortValuesRow, standIns := [], harness := (true, "f0fa76292d9e9a5442125b11ff9c37f88b9b692358dc1d8ec0b9c0b27306e882"), looks := true }, kinds := [], alts := [], laidByText := true, laidKinds := [.data, .data, .data], laidTests := true, laidLooks := .later }
def FnExactSortValuesCardSaid : Prop := Claim7.holds Tryd.pinned (.plain (OpenSpec.ofChange fnExactSortValuesSpec)) fnExactSortValuesCard

/-- THE TIED CARD OF 'laws.FnExactUnion'. -/
def fnExactUnionCard : Claim7 := { stood := { row := fnExactUnionRow, standIns := [], harness := (true, "f0fa76292d9e9a5442125b11ff9c37f88b9b692358dc1d8ec0b9c0b27306e882"), looks := true }, kinds := [], alts := [], laidByText := true, laidKinds := [.data, .data, .data, .sentinel, .sentinel], laidTests := true, laidLooks := .later }
def FnExactUnionCardSaid : Prop := Claim7.holds Tryd.pinned (.plain (OpenSpec.ofChange fnExactUnionSpec)) fnExactUnionCard

/-- THE TIED CARD OF 'laws.FnExactSetPath'. -/
def fnExactSetPathCard : Claim7 := { stood := { row := fnExactSetPathRow, standIns := [], harness := (true, "f0fa76292d9e9a5442125b11ff9c37f88b9b692358dc1d8ec0b9c0b27306e882"), looks := true }, kinds := [], alts := [], laidByText := true, laidKinds := [.data, .data, .data, .sentinel, .sentinel], laidTests := true, laidLooks := .later }
def FnExactSetPathCardSaid : Prop := Claim7.holds Tryd.pinned (.plain (OpenSpec.ofChange fnExactSetPathSpec)) fnExactSetPathCard

/-- THE SECOND FORM's CARD OF 'laws.FnExactToText'. -/
def fnExactToTextUptoCard : Claim7 := { stood := { row := fnExactToTextUptoRow, standIns := [], harness := (true, "f0fa76292d9e9a5442125b11ff9c37f88b9b692358dc1d8ec0b9c0b27306e882"), looks := true }, kinds := [], alts := [], laidByText := true, laidKinds := [.data, .data, .data], laidTests := true, laidLooks := .later }
def FnExactToTextUptoCardSaid : Prop := Claim7.holds Tryd.pinned (.plain (OpenSpec.upto fnExactToTextSpec)) fnExactToTextUptoCard

/-- THE SECOND FORM's CARD OF 'laws.FnExactCompareValues'. -/
def fnExactCompareValuesUptoCard : Claim7 := { stood := { row := fnExactCompareValuesUptoRow, standIns := [], harness := (true, "f0fa76292d9e9a5442125b11ff9c37f88b9b692358dc1d8ec0b9c0b27306e882"), looks := true }, kinds := [], alts := [], laidByText := true, laidKinds := [.data, .data, .data], laidTests := true, laidLooks := .later }
def FnExactCompareValuesUptoCardSaid : Prop := Claim7.holds Tryd.pinned (.plain (OpenSpec.upto fnExactCompareValuesSpec)) fnExactCompareValuesUptoCard

/-- THE SECOND FORM's CARD OF 'laws.FnExactLooseEqual'. -/
def fnExactLooseEqualUptoCard : Claim7 := { stood := { row := fnExactLooseEqualUptoRow, standIns := [], harness := (true, "f0fa76292d9e9a5442125b11ff9c37f88b9b692358dc1d8ec0b9c0b27306e882"), looks := true }, kinds := [], alts := [], laidByText := true, laidKinds := [.data, .data, .data], laidTests := true, laidLooks := .later }
def FnExactLooseEqualUptoCardSaid : Prop := Claim7.holds Tryd.pinned (.plain (OpenSpec.upto fnExactLooseEqualSpec)) fnExactLooseEqualUptoCard

/-- THE SECOND FORM's CARD OF 'laws.FnExactIsOrdered'. -/
def fnExactIsOrderedUptoCard : Claim7 := { stood := { row := fnExactIsOrderedUptoRow, standIns := [], harness := (true, "f0fa76292d9e9a5442125b11ff9c37f88b9b692358dc1d8ec0b9c0b27306e882"), looks := true }, kinds := [], alts := [], laidByText := true, laidKinds := [.data, .data, .data], laidTests := true, laidLooks := .later }
def FnExactIsOrderedUptoCardSaid : Prop := Claim7.holds Tryd.pinned (.plain (OpenSpec.upto fnExactIsOrderedSpec)) fnExactIsOrderedUptoCard

/-- THE SECOND FORM's CARD OF 'laws.FnExactSortValues'. -/
def fnExactSortValuesUptoCard : Claim7 := { stood := { row := fnExactSortValuesUptoRow, standIns := [], harness := (true, "f0fa76292d9e9a5442125b11ff9c37f88b9b692358dc1d8ec0b9c0b27306e882"), looks := true }, kinds := [], alts := [], laidByText := true, laidKinds := [.data, .data, .data], laidTests := true, laidLooks := .later }
def FnExactSortValuesUptoCardSaid : Prop := Claim7.holds Tryd.pinned (.plain (OpenSpec.upto fnExactSortValuesSpec)) fnExactSortValuesUptoCard

/-- THE SECOND FORM's CARD OF 'laws.FnExactUnion'. -/
def fnExactUnionUptoCard : Claim7 := { stood := { row := fnExactUnionUptoRow, standIns := [], harness := (true, "f0fa76292d9e9a5442125b11ff9c37f88b9b692358dc1d8ec0b9c0b27306e882"), looks := true }, kinds := [], alts := [], laidByText := true, laidKinds := [.data, .data, .data, .sentinel, .sentinel], laidTests := true, laidLooks := .later }
def FnExactUnionUptoCardSaid : Prop := Claim7.holds Tryd.pinned (.plain (OpenSpec.upto fnExactUnionSpec)) fnExactUnionUptoCard

/-- THE SECOND FORM's CARD OF 'laws.FnExactSetPath'. -/
def fnExactSetPathUptoCard : Claim7 := { stood := { row := fnExactSetPathUptoRow, standIns := [], harness := (true, "f0fa76292d9e9a5442125b11ff9c37f88b9b692358dc1d8ec0b9c0b27306e882"), looks := true }, kinds := [], alts := [], laidByText := true, laidKinds := [.data, .data, .data, .sentinel, .sentinel], laidTests := true, laidLooks := .later }
def FnExactSetPathUptoCardSaid : Prop := Claim7.holds Tryd.pinned (.plain (OpenSpec.upto fnExactSetPathSpec)) fnExactSetPathUptoCard
end Rows
end Go.Proofs.YtjbcokpkbfnpiaaDoor
