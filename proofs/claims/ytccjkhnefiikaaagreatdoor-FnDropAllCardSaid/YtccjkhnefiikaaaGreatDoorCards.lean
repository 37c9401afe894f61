/-
  DERIVED. GIVEN WITH THE SEED: THE CARDS: each row of YtccjkhnefiikaaaGreatDoorRows.lean that lists a variable, with what it lists TIED to the program's text (the seventh form; the later family's looks); each row that meets fmt, with fmt's text TOLD by the authors' own Lean function (tested against real Go, not proved from fmt's source: count such statements apart). THE CARD IS WHAT COUNTS. Prove the row's statement (the work); the ties are given (YtccjkhnefiikaaaGreatDoorTie.lean); close each card by the builder's one call (the guide's Derived/Test/ToyasCard.lean, 'card_holds'). Laid BY PROGRAM, IN A SANDBOX (cutbox-door.mjs). By AI agents, Wed Nov 11 2026. No macro, syntax, notation, axiom, sorry.
-/
import Derived.Test.YtccjkhnefiikaaaGreatDoorRows
import GoSem.ClaimSeven
namespace Go.Proofs.YtccjkhnefiikaaaGreatDoor
namespace Rows

/-- THE TIED CARD OF 'laws.FnDropAll'. -/
def fnDropAllCard : Claim7 := { stood := { row := fnDropAllRow, standIns := [], harness := (true, "f806fc4e91d87c301f4f89e3a0124ec54d43327b27a9c8b850aa047fd5d4f8a7"), looks := true }, kinds := [], alts := [], laidByText := true, laidKinds := [.data, .data, .data, .sentinel, .sentinel], laidTests := true, laidLooks := .later }
def FnDropAllCardSaid : Prop := Claim7.holds Tryz.pinned (.plain (OpenSpec.ofChange fnDropAllSpec)) fnDropAllCard

/-- THE SECOND FORM's CARD OF 'laws.FnDropAll'. -/
def fnDropAllUptoCard : Claim7 := { stood := { row := fnDropAllUptoRow, standIns := [], harness := (true, "f806fc4e91d87c301f4f89e3a0124ec54d43327b27a9c8b850aa047fd5d4f8a7"), looks := true }, kinds := [], alts := [], laidByText := true, laidKinds := [.data, .data, .data, .sentinel, .sentinel], laidTests := true, laidLooks := .later }
def FnDropAllUptoCardSaid : Prop := Claim7.holds Tryz.pinned (.plain (OpenSpec.upto fnDropAllSpec)) fnDropAllUptoCard
end Rows
end Go.Proofs.YtccjkhnefiikaaaGreatDoor
