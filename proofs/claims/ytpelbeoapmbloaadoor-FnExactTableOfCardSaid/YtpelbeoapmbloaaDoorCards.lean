/-
  DERIVED. GIVEN WITH THE SEED: THE CARDS: each row of YtpelbeoapmbloaaDoorRows.lean that lists a variable, with what it lists TIED to the program's text (the seventh form; the later family's looks); each row that meets fmt, with fmt's text TOLD by the authors' own Lean function (tested against real Go, not proved from fmt's source: count such statements apart). THE CARD IS WHAT COUNTS. Prove the row's statement (the work); the ties are given (YtpelbeoapmbloaaDoorTie.lean); close each card by the builder's one call (the guide's Derived/Test/ToyasCard.lean, 'card_holds'). Laid BY PROGRAM, IN A SANDBOX (cutbox-door.mjs). By AI agents, Wed Nov 11 2026. No macro, syntax, notation, axiom, sorry.
-/
import Derived.Test.YtpelbeoapmbloaaDoorRows
import GoSem.ClaimSeven
namespace Go.Proofs.YtpelbeoapmbloaaDoor
namespace Rows

/-- THE TIED CARD OF 'laws.FnExactIsTable'. -/
def fnExactIsTableCard : Claim7 := { stood := { row := fnExactIsTableRow, standIns := [], harness := (true, "fe7510d5f0bb896ec3515c7aeab63bf90bef180c99fd686f52465349ec72262f"), looks := true }, kinds := [], alts := [], laidByText := true, laidKinds := [.data, .data, .data, .sentinel, .sentinel], laidTests := true, laidLooks := .later }
def FnExactIsTableCardSaid : Prop := Claim7.holds Tryd.pinned (.plain (OpenSpec.ofChange fnExactIsTableSpec)) fnExactIsTableCard

/-- THE TIED CARD OF 'laws.FnExactIsHeld'. -/
def fnExactIsHeldCard : Claim7 := { stood := { row := fnExactIsHeldRow, standIns := [], harness := (true, "fe7510d5f0bb896ec3515c7aeab63bf90bef180c99fd686f52465349ec72262f"), looks := true }, kinds := [], alts := [], laidByText := true, laidKinds := [.data, .data, .data, .sentinel, .sentinel], laidTests := true, laidLooks := .later }
def FnExactIsHeldCardSaid : Prop := Claim7.holds Tryd.pinned (.plain (OpenSpec.ofChange fnExactIsHeldSpec)) fnExactIsHeldCard

/-- THE TIED CARD OF 'laws.FnExactFindSlot'. -/
def fnExactFindSlotCard : Claim7 := { stood := { row := fnExactFindSlotRow, standIns := [], harness := (true, "fe7510d5f0bb896ec3515c7aeab63bf90bef180c99fd686f52465349ec72262f"), looks := true }, kinds := [], alts := [], laidByText := true, laidKinds := [.data, .data, .data, .sentinel, .sentinel], laidTests := true, laidLooks := .later }
def FnExactFindSlotCardSaid : Prop := Claim7.holds Tryd.pinned (.plain (OpenSpec.ofChange fnExactFindSlotSpec)) fnExactFindSlotCard

/-- THE TIED CARD OF 'laws.FnExactTableOf'. -/
def fnExactTableOfCard : Claim7 := { stood := { row := fnExactTableOfRow, standIns := [], harness := (true, "fe7510d5f0bb896ec3515c7aeab63bf90bef180c99fd686f52465349ec72262f"), looks := true }, kinds := [], alts := [], laidByText := true, laidKinds := [.data, .data, .data, .sentinel, .sentinel], laidTests := true, laidLooks := .later }
def FnExactTableOfCardSaid : Prop := Claim7.holds Tryd.pinned (.plain (OpenSpec.ofChange fnExactTableOfSpec)) fnExactTableOfCard

/-- THE TIED CARD OF 'laws.FnExactTableDelete'. -/
def fnExactTableDeleteCard : Claim7 := { stood := { row := fnExactTableDeleteRow, standIns := [], harness := (true, "fe7510d5f0bb896ec3515c7aeab63bf90bef180c99fd686f52465349ec72262f"), looks := true }, kinds := [], alts := [], laidByText := true, laidKinds := [.data, .data, .data, .sentinel, .sentinel], laidTests := true, laidLooks := .later }
def FnExactTableDeleteCardSaid : Prop := Claim7.holds Tryd.pinned (.plain (OpenSpec.ofChange fnExactTableDeleteSpec)) fnExactTableDeleteCard

/-- THE TIED CARD OF 'laws.FnExactIsHeap'. -/
def fnExactIsHeapCard : Claim7 := { stood := { row := fnExactIsHeapRow, standIns := [], harness := (true, "fe7510d5f0bb896ec3515c7aeab63bf90bef180c99fd686f52465349ec72262f"), looks := true }, kinds := [], alts := [], laidByText := true, laidKinds := [.data, .data, .data, .sentinel, .sentinel], laidTests := true, laidLooks := .later }
def FnExactIsHeapCardSaid : Prop := Claim7.holds Tryd.pinned (.plain (OpenSpec.ofChange fnExactIsHeapSpec)) fnExactIsHeapCard

/-- THE TIED CARD OF 'laws.FnExactRebuild'. -/
def fnExactRebuildCard : Claim7 := { stood := { row := fnExactRebuildRow, standIns := [], harness := (true, "fe7510d5f0bb896ec3515c7aeab63bf90bef180c99fd686f52465349ec72262f"), looks := true }, kinds := [], alts := [], laidByText := true, laidKinds := [.data, .data, .data, .sentinel, .sentinel], laidTests := true, laidLooks := .later }
def FnExactRebuildCardSaid : Prop := Claim7.holds Tryd.pinned (.plain (OpenSpec.ofChange fnExactRebuildSpec)) fnExactRebuildCard

/-- THE SECOND FORM's CARD OF 'laws.FnExactIsTable'. -/
def fnExactIsTableUptoCard : Claim7 := { stood := { row := fnExactIsTableUptoRow, standIns := [], harness := (true, "fe7510d5f0bb896ec3515c7aeab63bf90bef180c99fd686f52465349ec72262f"), looks := true }, kinds := [], alts := [], laidByText := true, laidKinds := [.data, .data, .data, .sentinel, .sentinel], laidTests := true, laidLooks := .later }
def FnExactIsTableUptoCardSaid : Prop := Claim7.holds Tryd.pinned (.plain (OpenSpec.upto fnExactIsTableSpec)) fnExactIsTableUptoCard

/-- THE SECOND FORM's CARD OF 'laws.FnExactIsHeld'. -/
def fnExactIsHeldUptoCard : Claim7 := { stood := { row := fnExactIsHeldUptoRow, standIns := [], harness := (true, "fe7510d5f0bb896ec3515c7aeab63bf90bef180c99fd686f52465349ec72262f"), looks := true }, kinds := [], alts := [], laidByText := true, laidKinds := [.data, .data, .data, .sentinel, .sentinel], laidTests := true, laidLooks := .later }
def FnExactIsHeldUptoCardSaid : Prop := Claim7.holds Tryd.pinned (.plain (OpenSpec.upto fnExactIsHeldSpec)) fnExactIsHeldUptoCard

/-- THE SECOND FORM's CARD OF 'laws.FnExactFindSlot'. -/
def fnExactFindSlotUptoCard : Claim7 := { stood := { row := fnExactFindSlotUptoRow, standIns := [], harness := (true, "fe7510d5f0bb896ec3515c7aeab63bf90bef180c99fd686f52465349ec72262f"), looks := true }, kinds := [], alts := [], laidByText := true, laidKinds := [.data, .data, .data, .sentinel, .sentinel], laidTests := true, laidLooks := .later }
def FnExactFindSlotUptoCardSaid : Prop := Claim7.holds Tryd.pinned (.plain (OpenSpec.upto fnExactFindSlotSpec)) fnExactFindSlotUptoCard

/-- THE SECOND FORM's CARD OF 'laws.FnExactTableOf'. -/
def fnExactTableOfUptoCard : Claim7 := { stood := { row := fnExactTableOfUptoRow, standIns := [], harness := (true, "fe7510d5f0bb896ec3515c7aeab63bf90bef180c99fd686f52465349ec72262f"), looks := true }, kinds := [], alts := [], laidByText := true, laidKinds := [.data, .data, .data, .sentinel, .sentinel], laidTests := true, laidLooks := .later }
def FnExactTableOfUptoCardSaid : Prop := Claim7.holds Tryd.pinned (.plain (OpenSpec.upto fnExactTableOfSpec)) fnExactTableOfUptoCard

/-- THE SECOND FORM's CARD OF 'laws.FnExactTableDelete'. -/
def fnExactTableDeleteUptoCard : Claim7 := { stood := { row := fnExactTableDeleteUptoRow, standIns := [], harness := (true, "fe7510d5f0bb896ec3515c7aeab63bf90bef180c99fd686f52465349ec72262f"), looks := true }, kinds := [], alts := [], laidByText := true, laidKinds := [.data, .data, .data, .sentinel, .sentinel], laidTests := true, laidLooks := .later }
def FnExactTableDeleteUptoCardSaid : Prop := Claim7.holds Tryd.pinned (.plain (OpenSpec.upto fnExactTableDeleteSpec)) fnExactTableDeleteUptoCard

/-- THE SECOND FORM's CARD OF 'laws.FnExactIsHeap'. -/
def fnExactIsHeapUptoCard : Claim7 := { stood := { row := fnExactIsHeapUptoRow, standIns := [], harness := (true, "fe7510d5f0bb896ec3515c7aeab63bf90bef180c99fd686f52465349ec72262f"), looks := true }, kinds := [], alts := [], laidByText := true, laidKinds := [.data, .data, .data, .sentinel, .sentinel], laidTests := true, laidLooks := .later }
def FnExactIsHeapUptoCardSaid : Prop := Claim7.holds Tryd.pinned (.plain (OpenSpec.upto fnExactIsHeapSpec)) fnExactIsHeapUptoCard

/-- THE SECOND FORM's CARD OF 'laws.FnExactRebuild'. -/
def fnExactRebuildUptoCard : Claim7 := { stood := { row := fnExactRebuildUptoRow, standIns := [], harness := (true, "fe7510d5f0bb896ec3515c7aeab63bf90bef180c99fd686f52465349ec72262f"), looks := true }, kinds := [], alts := [], laidByText := true, laidKinds := [.data, .data, .data, .sentinel, .sentinel], laidTests := true, laidLooks := .later }
def FnExactRebuildUptoCardSaid : Prop := Claim7.holds Tryd.pinned (.plain (OpenSpec.upto fnExactRebuildSpec)) fnExactRebuildUptoCard
end Rows
end Go.Proofs.YtpelbeoapmbloaaDoor
