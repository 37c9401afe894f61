/-
  DERIVED. GIVEN WITH THE SEED: THE CARDS: each row of YtedfplodobpgfaaGreatDoorRows.lean that lists a variable, with what it lists TIED to the program's text (the seventh form; the later family's looks); each row that meets fmt, with fmt's text TOLD by the authors' own Lean function (tested against real Go, not proved from fmt's source: count such statements apart). THE CARD IS WHAT COUNTS. Prove the row's statement (the work); the ties are given (YtedfplodobpgfaaGreatDoorTie.lean); close each card by the builder's one call (the guide's Derived/Test/ToyasCard.lean, 'card_holds'). Laid BY PROGRAM, IN A SANDBOX (cutbox-door.mjs). By AI agents, Wed Nov 11 2026. No macro, syntax, notation, axiom, sorry.
-/
import Derived.Test.YtedfplodobpgfaaGreatDoorRows
import GoSem.ClaimSeven
namespace Go.Proofs.YtedfplodobpgfaaGreatDoor
namespace Rows

/-- THE TIED CARD OF 'laws.FnExactTableSet'. -/
def fnExactTableSetCard : Claim7 := { stood := { row := fnExactTableSetRow, standIns := [], harness := (true, "d535e40b66175996caefd094d8026c18041a2d601fad468a31b48c2ed7cdbbea"), looks := true }, kinds := [], alts := [], laidByText := true, laidKinds := [.data, .data, .data, .sentinel, .sentinel], laidTests := true, laidLooks := .later }
def FnExactTableSetCardSaid : Prop := Claim7.holds Tryz.pinned (.plain (OpenSpec.ofChange fnExactTableSetSpec)) fnExactTableSetCard

/-- THE TIED CARD OF 'laws.FnExactIsCounted'. -/
def fnExactIsCountedCard : Claim7 := { stood := { row := fnExactIsCountedRow, standIns := [], harness := (true, "d535e40b66175996caefd094d8026c18041a2d601fad468a31b48c2ed7cdbbea"), looks := true }, kinds := [], alts := [], laidByText := true, laidKinds := [.data, .data, .data, .sentinel, .sentinel], laidTests := true, laidLooks := .later }
def FnExactIsCountedCardSaid : Prop := Claim7.holds Tryz.pinned (.plain (OpenSpec.ofChange fnExactIsCountedSpec)) fnExactIsCountedCard

/-- THE TIED CARD OF 'laws.FnExactLoadValue'. -/
def fnExactLoadValueCard : Claim7 := { stood := { row := fnExactLoadValueRow, standIns := [], harness := (true, "d535e40b66175996caefd094d8026c18041a2d601fad468a31b48c2ed7cdbbea"), looks := true }, kinds := [], alts := [], laidByText := true, laidKinds := [.data, .data, .data, .sentinel, .sentinel], laidTests := true, laidLooks := .later }
def FnExactLoadValueCardSaid : Prop := Claim7.holds Tryz.pinned (.plain (OpenSpec.ofChange fnExactLoadValueSpec)) fnExactLoadValueCard

/-- THE TIED CARD OF 'laws.FnExactShareValue'. -/
def fnExactShareValueCard : Claim7 := { stood := { row := fnExactShareValueRow, standIns := [], harness := (true, "d535e40b66175996caefd094d8026c18041a2d601fad468a31b48c2ed7cdbbea"), looks := true }, kinds := [], alts := [], laidByText := true, laidKinds := [.data, .data, .data, .sentinel, .sentinel], laidTests := true, laidLooks := .later }
def FnExactShareValueCardSaid : Prop := Claim7.holds Tryz.pinned (.plain (OpenSpec.ofChange fnExactShareValueSpec)) fnExactShareValueCard

/-- THE TIED CARD OF 'laws.FnExactDropValue'. -/
def fnExactDropValueCard : Claim7 := { stood := { row := fnExactDropValueRow, standIns := [], harness := (true, "d535e40b66175996caefd094d8026c18041a2d601fad468a31b48c2ed7cdbbea"), looks := true }, kinds := [], alts := [], laidByText := true, laidKinds := [.data, .data, .data, .sentinel, .sentinel], laidTests := true, laidLooks := .later }
def FnExactDropValueCardSaid : Prop := Claim7.holds Tryz.pinned (.plain (OpenSpec.ofChange fnExactDropValueSpec)) fnExactDropValueCard

/-- THE TIED CARD OF 'laws.FnExactStoreValue'. -/
def fnExactStoreValueCard : Claim7 := { stood := { row := fnExactStoreValueRow, standIns := [], harness := (true, "d535e40b66175996caefd094d8026c18041a2d601fad468a31b48c2ed7cdbbea"), looks := true }, kinds := [], alts := [], laidByText := true, laidKinds := [.data, .data, .data, .sentinel, .sentinel], laidTests := true, laidLooks := .later }
def FnExactStoreValueCardSaid : Prop := Claim7.holds Tryz.pinned (.plain (OpenSpec.ofChange fnExactStoreValueSpec)) fnExactStoreValueCard

/-- THE TIED CARD OF 'laws.FnExactSetShared'. -/
def fnExactSetSharedCard : Claim7 := { stood := { row := fnExactSetSharedRow, standIns := [], harness := (true, "d535e40b66175996caefd094d8026c18041a2d601fad468a31b48c2ed7cdbbea"), looks := true }, kinds := [], alts := [], laidByText := true, laidKinds := [.data, .data, .data, .sentinel, .sentinel], laidTests := true, laidLooks := .later }
def FnExactSetSharedCardSaid : Prop := Claim7.holds Tryz.pinned (.plain (OpenSpec.ofChange fnExactSetSharedSpec)) fnExactSetSharedCard

/-- THE SECOND FORM's CARD OF 'laws.FnExactTableSet'. -/
def fnExactTableSetUptoCard : Claim7 := { stood := { row := fnExactTableSetUptoRow, standIns := [], harness := (true, "d535e40b66175996caefd094d8026c18041a2d601fad468a31b48c2ed7cdbbea"), looks := true }, kinds := [], alts := [], laidByText := true, laidKinds := [.data, .data, .data, .sentinel, .sentinel], laidTests := true, laidLooks := .later }
def FnExactTableSetUptoCardSaid : Prop := Claim7.holds Tryz.pinned (.plain (OpenSpec.upto fnExactTableSetSpec)) fnExactTableSetUptoCard

/-- THE SECOND FORM's CARD OF 'laws.FnExactIsCounted'. -/
def fnExactIsCountedUptoCard : Claim7 := { stood := { row := fnExactIsCountedUptoRow, standIns := [], harness := (true, "d535e40b66175996caefd094d8026c18041a2d601fad468a31b48c2ed7cdbbea"), looks := true }, kinds := [], alts := [], laidByText := true, laidKinds := [.data, .data, .data, .sentinel, .sentinel], laidTests := true, laidLooks := .later }
def FnExactIsCountedUptoCardSaid : Prop := Claim7.holds Tryz.pinned (.plain (OpenSpec.upto fnExactIsCountedSpec)) fnExactIsCountedUptoCard

/-- THE SECOND FORM's CARD OF 'laws.FnExactLoadValue'. -/
def fnExactLoadValueUptoCard : Claim7 := { stood := { row := fnExactLoadValueUptoRow, standIns := [], harness := (true, "d535e40b66175996caefd094d8026c18041a2d601fad468a31b48c2ed7cdbbea"), looks := true }, kinds := [], alts := [], laidByText := true, laidKinds := [.data, .data, .data, .sentinel, .sentinel], laidTests := true, laidLooks := .later }
def FnExactLoadValueUptoCardSaid : Prop := Claim7.holds Tryz.pinned (.plain (OpenSpec.upto fnExactLoadValueSpec)) fnExactLoadValueUptoCard

/-- THE SECOND FORM's CARD OF 'laws.FnExactShareValue'. -/
def fnExactShareValueUptoCard : Claim7 := { stood := { row := fnExactShareValueUptoRow, standIns := [], harness := (true, "d535e40b66175996caefd094d8026c18041a2d601fad468a31b48c2ed7cdbbea"), looks := true }, kinds := [], alts := [], laidByText := true, laidKinds := [.data, .data, .data, .sentinel, .sentinel], laidTests := true, laidLooks := .later }
def FnExactShareValueUptoCardSaid : Prop := Claim7.holds Tryz.pinned (.plain (OpenSpec.upto fnExactShareValueSpec)) fnExactShareValueUptoCard

/-- THE SECOND FORM's CARD OF 'laws.FnExactDropValue'. -/
def fnExactDropValueUptoCard : Claim7 := { stood := { row := fnExactDropValueUptoRow, standIns := [], harness := (true, "d535e40b66175996caefd094d8026c18041a2d601fad468a31b48c2ed7cdbbea"), looks := true }, kinds := [], alts := [], laidByText := true, laidKinds := [.data, .data, .data, .sentinel, .sentinel], laidTests := true, laidLooks := .later }
def FnExactDropValueUptoCardSaid : Prop := Claim7.holds Tryz.pinned (.plain (OpenSpec.upto fnExactDropValueSpec)) fnExactDropValueUptoCard

/-- THE SECOND FORM's CARD OF 'laws.FnExactStoreValue'. -/
def fnExactStoreValueUptoCard : Claim7 := { stood := { row := fnExactStoreValueUptoRow, standIns := [], harness := (true, "d535e40b66175996caefd094d8026c18041a2d601fad468a31b48c2ed7cdbbea"), looks := true }, kinds := [], alts := [], laidByText := true, laidKinds := [.data, .data, .data, .sentinel, .sentinel], laidTests := true, laidLooks := .later }
def FnExactStoreValueUptoCardSaid : Prop := Claim7.holds Tryz.pinned (.plain (OpenSpec.upto fnExactStoreValueSpec)) fnExactStoreValueUptoCard

/-- THE SECOND FORM's CARD OF 'laws.FnExactSetShared'. -/
def fnExactSetSharedUptoCard : Claim7 := { stood := { row := fnExactSetSharedUptoRow, standIns := [], harness := (true, "d535e40b66175996caefd094d8026c18041a2d601fad468a31b48c2ed7cdbbea"), looks := true }, kinds := [], alts := [], laidByText := true, laidKinds := [.data, .data, .data, .sentinel, .sentinel], laidTests := true, laidLooks := .later }
def FnExactSetSharedUptoCardSaid : Prop := Claim7.holds Tryz.pinned (.plain (OpenSpec.upto fnExactSetSharedSpec)) fnExactSetSharedUptoCard
end Rows
end Go.Proofs.YtedfplodobpgfaaGreatDoor
