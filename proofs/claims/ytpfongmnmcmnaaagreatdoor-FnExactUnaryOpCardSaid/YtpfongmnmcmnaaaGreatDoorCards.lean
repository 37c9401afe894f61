/-
  DERIVED. GIVEN WITH THE SEED: THE CARDS: each row of YtpfongmnmcmnaaaGreatDoorRows.lean that lists a variable, with what it lists TIED to the program's text (the seventh form; the later family's looks); each row that meets fmt, with fmt's text TOLD by the authors' own Lean function (tested against real Go, not proved from fmt's source: count such statements apart). THE CARD IS WHAT COUNTS. Prove the row's statement (the work); the ties are given (YtpfongmnmcmnaaaGreatDoorTie.lean); close each card by the builder's one call (the guide's Derived/Test/ToyasCard.lean, 'card_holds'). Laid BY PROGRAM, IN A SANDBOX (cutbox-door.mjs). By AI agents, Wed Nov 11 2026. No macro, syntax, notation, axiom, sorry.
-/
import Derived.Test.YtpfongmnmcmnaaaGreatDoorRows
import GoSem.ClaimSeven
namespace Go.Proofs.YtpfongmnmcmnaaaGreatDoor
namespace Rows

/-- THE TIED CARD OF 'laws.FnExactBinaryOp'. -/
def fnExactBinaryOpCard : Claim7 := { stood := { row := fnExactBinaryOpRow, standIns := [], harness := (true, "0ea34a7b6d87ab9fed88092a3d3eb1c15e553004679bf67879a101513562183f"), looks := true }, kinds := [], alts := [], laidByText := true, laidKinds := [.data, .data, .data, .sentinel, .sentinel], laidTests := true, laidLooks := .later }
def FnExactBinaryOpCardSaid : Prop := Claim7.holds Tryz.pinned (.plain (OpenSpec.ofChange fnExactBinaryOpSpec)) fnExactBinaryOpCard

/-- THE TIED CARD OF 'laws.FnExactUnaryOp'. -/
def fnExactUnaryOpCard : Claim7 := { stood := { row := fnExactUnaryOpRow, standIns := [], harness := (true, "0ea34a7b6d87ab9fed88092a3d3eb1c15e553004679bf67879a101513562183f"), looks := true }, kinds := [], alts := [], laidByText := true, laidKinds := [.data, .data, .data, .sentinel, .sentinel], laidTests := true, laidLooks := .later }
def FnExactUnaryOpCardSaid : Prop := Claim7.holds Tryz.pinned (.plain (OpenSpec.ofChange fnExactUnaryOpSpec)) fnExactUnaryOpCard

/-- THE SECOND FORM's CARD OF 'laws.FnExactBinaryOp'. -/
def fnExactBinaryOpUptoCard : Claim7 := { stood := { row := fnExactBinaryOpUptoRow, standIns := [], harness := (true, "0ea34a7b6d87ab9fed88092a3d3eb1c15e553004679bf67879a101513562183f"), looks := true }, kinds := [], alts := [], laidByText := true, laidKinds := [.data, .data, .data, .sentinel, .sentinel], laidTests := true, laidLooks := .later }
def FnExactBinaryOpUptoCardSaid : Prop := Claim7.holds Tryz.pinned (.plain (OpenSpec.upto fnExactBinaryOpSpec)) fnExactBinaryOpUptoCard

/-- THE SECOND FORM's CARD OF 'laws.FnExactUnaryOp'. -/
def fnExactUnaryOpUptoCard : Claim7 := { stood := { row := fnExactUnaryOpUptoRow, standIns := [], harness := (true, "0ea34a7b6d87ab9fed88092a3d3eb1c15e553004679bf67879a101513562183f"), looks := true }, kinds := [], alts := [], laidByText := true, laidKinds := [.data, .data, .data, .sentinel, .sentinel], laidTests := true, laidLooks := .later }
def FnExactUnaryOpUptoCardSaid : Prop := Claim7.holds Tryz.pinned (.plain (OpenSpec.upto fnExactUnaryOpSpec)) fnExactUnaryOpUptoCard
end Rows
end Go.Proofs.YtpfongmnmcmnaaaGreatDoor
