/-
  DERIVED. GIVEN WITH THE SEED: THE CARDS: each row of YtconhonjkfpfmaaDoorRows.lean that lists a variable, with what it lists TIED to the program's text (the seventh form; the later family's looks); each row that meets fmt, with fmt's text TOLD by the authors' own Lean function (tested against real Go, not proved from fmt's source: count such statements apart). THE CARD IS WHAT COUNTS. Prove the row's statement (the work); the ties are given (YtconhonjkfpfmaaDoorTie.lean); close each card by the builder's one call (the guide's Derived/Test/ToyasCard.lean, 'card_holds'). Laid BY PROGRAM, IN A SANDBOX (cutbox-door.mjs). By AI agents, Wed Nov 11 2026. No macro, syntax, notation, axiom, sorry.
-/
import Derived.Test.YtconhonjkfpfmaaDoorRows
import GoSem.ClaimSeven
namespace Go.Proofs.YtconhonjkfpfmaaDoor
namespace Rows

/-- THE TIED CARD OF 'laws.FnCompare'. -/
def fnCompareCard : Claim7 := { stood := { row := fnCompareRow, standIns := [], harness := (true, "4d7153f40e77bdd2b568d28509361e8bf5eef0d86985f148cdffd2eb9a3e1472"), looks := true }, kinds := [], alts := [], laidByText := true, laidKinds := [.data, .data, .data], laidTests := true, laidLooks := .later }
def FnCompareCardSaid : Prop := Claim7.holds Tryd.pinned (.plain (OpenSpec.ofChange fnCompareSpec)) fnCompareCard

/-- THE TIED CARD OF 'laws.FnConversions'. -/
def fnConversionsCard : Claim7 := { stood := { row := fnConversionsRow, standIns := [], harness := (true, "4d7153f40e77bdd2b568d28509361e8bf5eef0d86985f148cdffd2eb9a3e1472"), looks := true }, kinds := [], alts := [], laidByText := true, laidKinds := [.data, .data, .data, .sentinel, .sentinel], laidTests := true, laidLooks := .later }
def FnConversionsCardSaid : Prop := Claim7.holds Tryd.pinned (.plain (OpenSpec.ofChange fnConversionsSpec)) fnConversionsCard

/-- THE TIED CARD OF 'laws.FnOperators'. -/
def fnOperatorsCard : Claim7 := { stood := { row := fnOperatorsRow, standIns := [], harness := (true, "4d7153f40e77bdd2b568d28509361e8bf5eef0d86985f148cdffd2eb9a3e1472"), looks := true }, kinds := [], alts := [], laidByText := true, laidKinds := [.data, .data, .data, .sentinel, .sentinel], laidTests := true, laidLooks := .later }
def FnOperatorsCardSaid : Prop := Claim7.holds Tryd.pinned (.plain (OpenSpec.ofChange fnOperatorsSpec)) fnOperatorsCard

/-- THE TIED CARD OF 'laws.FnExactSortValues'. -/
def fnExactSortValuesCard : Claim7 := { stood := { row := fnExactSortValuesRow, standIns := [], harness := (true, "4d7153f40e77bdd2b568d28509361e8bf5eef0d86985f148cdffd2eb9a3e1472"), looks := true }, kinds := [], alts := [], laidByText := true, laidKinds := [.data, .data, .data], laidTests := true, laidLooks := .later }
def FnExactSortValuesCardSaid : Prop := Claim7.holds Tryd.pinned (.plain (OpenSpec.ofChange fnExactSortValuesSpec)) fnExactSortValuesCard

/-- THE SECOND FORM's CARD OF 'laws.FnCompare'. -/
def fnCompareUptoCard : Claim7 := { stood := { row := fnCompareUptoRow, standIns := [], harness := (true, "4d7153f40e77bdd2b568d28509361e8bf5eef0d86985f148cdffd2eb9a3e1472"), looks := true }, kinds := [], alts := [], laidByText := true, laidKinds := [.data, .data, .data], laidTests := true, laidLooks := .later }
def FnCompareUptoCardSaid : Prop := Claim7.holds Tryd.pinned (.plain (OpenSpec.upto fnCompareSpec)) fnCompareUptoCard

/-- THE SECOND FORM's CARD OF 'laws.FnConversions'. -/
def fnConversionsUptoCard : Claim7 := { stood := { row := fnConversionsUptoRow, standIns := [], harness := (true, "4d7153f40e77bdd2b568d28509361e8bf5eef0d86985f148cdffd2eb9a3e1472"), looks := true }, kinds := [], alts := [], laidByText := true, laidKinds := [.data, .data, .data, .sentinel, .sentinel], laidTests := true, laidLooks := .later }
def FnConversionsUptoCardSaid : Prop := Claim7.holds Tryd.pinned (.plain (OpenSpec.upto fnConversionsSpec)) fnConversionsUptoCard

/-- THE SECOND FORM's CARD OF 'laws.FnOperators'. -/
def fnOperatorsUptoCard : Claim7 := { stood := { row := fnOperatorsUptoRow, standIns := [], harness := (true, "4d7153f40e77bdd2b568d28509361e8bf5eef0d86985f148cdffd2eb9a3e1472"), looks := true }, kinds := [], alts := [], laidByText := true, laidKinds := [.data, .data, .data, .sentinel, .sentinel], laidTests := true, laidLooks := .later }
def FnOperatorsUptoCardSaid : Prop := Claim7.holds Tryd.pinned (.plain (OpenSpec.upto fnOperatorsSpec)) fnOperatorsUptoCard

/-- THE SECOND FORM's CARD OF 'laws.FnExactSortValues'. -/
def fnExactSortValuesUptoCard : Claim7 := { stood := { row := fnExactSortValuesUptoRow, standIns := [], harness := (true, "4d7153f40e77bdd2b568d28509361e8bf5eef0d86985f148cdffd2eb9a3e1472"), looks := true }, kinds := [], alts := [], laidByText := true, laidKinds := [.data, .data, .data], laidTests := true, laidLooks := .later }
def FnExactSortValuesUptoCardSaid : Prop := Claim7.holds Tryd.pinned (.plain (OpenSpec.upto fnExactSortValuesSpec)) fnExactSortValuesUptoCard
end Rows
end Go.Proofs.YtconhonjkfpfmaaDoor
