/-
  No cell of these rows narrows 'for every input' (looked for: loops, veiled, ifaces, maps, wideKeys, modest, calm, conditions, laid).
  DERIVED. THE GIVEN ROWS OF THIS SEAT. 6 by the template 'for every input the law returns true; each argument reads behind the call as it read before'; 0 by the template 'total and deterministic' (their statements: YtnlkjbpbkbhpnaaTotals.lean).
  GIVEN WITH THE SEED: the statements are not yours to turn. If you find one false, say at which input.
  Laid BY PROGRAM, IN A SANDBOX (cutbox-rows.mjs): the forced cells as the released guide's own fill.sh prints them over the translation aead48e2986a1a7d… (all of the seat's roots in one cut). By AI agents, Wed Nov 11 2026. No macro, syntax, notation, axiom, sorry.
-/
import Derived.Test.YtnlkjbpbkbhpnaaChecked
import GoSem.Claim
import GoSem.ClaimJoined
import GoSem.ClaimMapViews
import Derived.JoinedTies
import Derived.KernelRfl
namespace Go.Proofs.Ytnlkjbpbkbhpnaa
/- THE CELL 'sum', in the pinned program and in every row, IS THE sha256 OF THE DUMP (.gsa) THAT YtnlkjbpbkbhpnaaProg.lean LOADS. Nothing in Lean hashes anything: it is a label: what it is worth is what the hold of that sum in a sandbox is worth. -/
noncomputable def Try.pinned : Pinned := { name := "ytnlkjbpbkbhpnaa", sum := "aead48e2986a1a7ddd9b37e6742f2cffd59cfc9258b31001efc50c5f5106ee87", checked := Try.checked }
namespace Rows
def none {H : Type} : Left H := { results := [], args := [] }

/-- 'laws.FnExactOpSymbol': WHATEVER THE INPUT: true; the input reads as it did. -/
def fnExactOpSymbolSpec : ChangeSpec := { name := "fnExactOpSymbol", fn := fun _ => fun
  | [d] => { results := [.lit (.bool true)], args := [d] }
  | _ => none }
def fnExactOpSymbolRow : OpenClaim := { program := "ytnlkjbpbkbhpnaa", sum := "aead48e2986a1a7ddd9b37e6742f2cffd59cfc9258b31001efc50c5f5106ee87", func := "loop.example/g03011/laws.FnExactOpSymbol", spec := "fnExactOpSymbol", apart := false }
def FnExactOpSymbolSaid : Prop := fnExactOpSymbolRow.holds Try.pinned (OpenSpec.ofChange fnExactOpSymbolSpec)

/-- ITS FALSE NEIGHBOUR: 'it returns false'. Refute it at one input. -/
def fnExactOpSymbolWrong : ChangeSpec := { name := "fnExactOpSymbol", fn := fun _ => fun
  | [d] => { results := [.lit (.bool false)], args := [d] }
  | _ => none }
def FnExactOpSymbolWrongFalsely : Prop := fnExactOpSymbolRow.holds Try.pinned (OpenSpec.ofChange fnExactOpSymbolWrong)

/-- 'laws.FnExactIsReserved': WHATEVER THE INPUT: true; the input reads as it did. -/
def fnExactIsReservedSpec : ChangeSpec := { name := "fnExactIsReserved", fn := fun _ => fun
  | [d] => { results := [.lit (.bool true)], args := [d] }
  | _ => none }
def fnExactIsReservedRow : OpenClaim := { program := "ytnlkjbpbkbhpnaa", sum := "aead48e2986a1a7ddd9b37e6742f2cffd59cfc9258b31001efc50c5f5106ee87", func := "loop.example/g03011/laws.FnExactIsReserved", spec := "fnExactIsReserved", apart := false }
def FnExactIsReservedSaid : Prop := fnExactIsReservedRow.holds Try.pinned (OpenSpec.ofChange fnExactIsReservedSpec)

/-- ITS FALSE NEIGHBOUR: 'it returns false'. Refute it at one input. -/
def fnExactIsReservedWrong : ChangeSpec := { name := "fnExactIsReserved", fn := fun _ => fun
  | [d] => { results := [.lit (.bool false)], args := [d] }
  | _ => none }
def FnExactIsReservedWrongFalsely : Prop := fnExactIsReservedRow.holds Try.pinned (OpenSpec.ofChange fnExactIsReservedWrong)

/-- 'laws.FnExactQuoteText': WHATEVER THE INPUT: true; the input reads as it did. -/
def fnExactQuoteTextSpec : ChangeSpec := { name := "fnExactQuoteText", fn := fun _ => fun
  | [d] => { results := [.lit (.bool true)], args := [d] }
  | _ => none }
def fnExactQuoteTextRow : OpenClaim := { program := "ytnlkjbpbkbhpnaa", sum := "aead48e2986a1a7ddd9b37e6742f2cffd59cfc9258b31001efc50c5f5106ee87", func := "loop.example/g03011/laws.FnExactQuoteText", spec := "fnExactQuoteText", apart := false }
def FnExactQuoteTextSaid : Prop := fnExactQuoteTextRow.holds Try.pinned (OpenSpec.ofChange fnExactQuoteTextSpec)

/-- ITS FALSE NEIGHBOUR: 'it returns false'. Refute it at one input. -/
def fnExactQuoteTextWrong : ChangeSpec := { name := "fnExactQuoteText", fn := fun _ => fun
  | [d] => { results := [.lit (.bool false)], args := [d] }
  | _ => none }
def FnExactQuoteTextWrongFalsely : Prop := fnExactQuoteTextRow.holds Try.pinned (OpenSpec.ofChange fnExactQuoteTextWrong)

/-- 'laws.FnExactIsName': WHATEVER THE INPUT: true; the input reads as it did. -/
def fnExactIsNameSpec : ChangeSpec := { name := "fnExactIsName", fn := fun _ => fun
  | [d] => { results := [.lit (.bool true)], args := [d] }
  | _ => none }
def fnExactIsNameRow : OpenClaim := { program := "ytnlkjbpbkbhpnaa", sum := "aead48e2986a1a7ddd9b37e6742f2cffd59cfc9258b31001efc50c5f5106ee87", func := "loop.example/g03011/laws.FnExactIsName", spec := "fnExactIsName", apart := false }
def FnExactIsNameSaid : Prop := fnExactIsNameRow.holds Try.pinned (OpenSpec.ofChange fnExactIsNameSpec)

/-- ITS FALSE NEIGHBOUR: 'it returns false'. Refute it at one input. -/
def fnExactIsNameWrong : ChangeSpec := { name := "fnExactIsName", fn := fun _ => fun
  | [d] => { results := [.lit (.bool false)], args := [d] }
  | _ => none }
def FnExactIsNameWrongFalsely : Prop := fnExactIsNameRow.holds Try.pinned (OpenSpec.ofChange fnExactIsNameWrong)

/-- 'laws.FnExactOpOf': WHATEVER THE INPUT: true; the input reads as it did. -/
def fnExactOpOfSpec : ChangeSpec := { name := "fnExactOpOf", fn := fun _ => fun
  | [d] => { results := [.lit (.bool true)], args := [d] }
  | _ => none }
def fnExactOpOfRow : OpenClaim := { program := "ytnlkjbpbkbhpnaa", sum := "aead48e2986a1a7ddd9b37e6742f2cffd59cfc9258b31001efc50c5f5106ee87", func := "loop.example/g03011/laws.FnExactOpOf", spec := "fnExactOpOf", apart := false }
def FnExactOpOfSaid : Prop := fnExactOpOfRow.holds Try.pinned (OpenSpec.ofChange fnExactOpOfSpec)

/-- ITS FALSE NEIGHBOUR: 'it returns false'. Refute it at one input. -/
def fnExactOpOfWrong : ChangeSpec := { name := "fnExactOpOf", fn := fun _ => fun
  | [d] => { results := [.lit (.bool false)], args := [d] }
  | _ => none }
def FnExactOpOfWrongFalsely : Prop := fnExactOpOfRow.holds Try.pinned (OpenSpec.ofChange fnExactOpOfWrong)

/-- 'laws.FnExactErrorName': WHATEVER THE INPUT: true; the input reads as it did. -/
def fnExactErrorNameSpec : ChangeSpec := { name := "fnExactErrorName", fn := fun _ => fun
  | [d] => { results := [.lit (.bool true)], args := [d] }
  | _ => none }
def fnExactErrorNameRow : OpenClaim := { program := "ytnlkjbpbkbhpnaa", sum := "aead48e2986a1a7ddd9b37e6742f2cffd59cfc9258b31001efc50c5f5106ee87", func := "loop.example/g03011/laws.FnExactErrorName", spec := "fnExactErrorName", apart := false }
def FnExactErrorNameSaid : Prop := fnExactErrorNameRow.holds Try.pinned (OpenSpec.ofChange fnExactErrorNameSpec)

/-- ITS FALSE NEIGHBOUR: 'it returns false'. Refute it at one input. -/
def fnExactErrorNameWrong : ChangeSpec := { name := "fnExactErrorName", fn := fun _ => fun
  | [d] => { results := [.lit (.bool false)], args := [d] }
  | _ => none }
def FnExactErrorNameWrongFalsely : Prop := fnExactErrorNameRow.holds Try.pinned (OpenSpec.ofChange fnExactErrorNameWrong)

/- THE SECOND FORM. 'bulk': how many values and letters a reading holds, each counted each time it is reached (what is shared counts as often as it is met; a slice's spare places count too). A statement '..UptoSaid' is the law's where the arguments, and the package variables that the reading takes, are together of bulk at most 1048576: NARROWER than '..Said'. Prove '..Said' where nothing that the law and all that it calls make is longer than what came in: it says more and counts as full. Else prove '..UptoSaid'. A law counts once. -/
mutual
def uptoBulk {H : Type} : DataW H → Nat
  | .lit (.string bytes) => bytes.length + 1
  | .lit _ => 1
  | .nil => 1
  | .ptr d => uptoBulk d + 1
  | .slice elems spare => uptoBulkAll elems + uptoBulkAll spare + 1
  | .agg parts => uptoBulkAll parts + 1
  | .iface _ d => uptoBulk d + 1
  | .map entries => uptoBulkEntries entries + 1
  | .held _ => 1
def uptoBulkAll {H : Type} : List (DataW H) → Nat
  | [] => 0
  | d :: r => uptoBulk d + uptoBulkAll r
def uptoBulkEntries {H : Type} : List (Lit × DataW H) → Nat
  | [] => 0
  | x :: r => uptoBulkEntry x + uptoBulkEntries r
def uptoBulkEntry {H : Type} : Lit × DataW H → Nat
  | (.string bytes, d) => bytes.length + uptoBulk d + 1
  | (_, d) => uptoBulk d + 1
 end
def uptoSmall : (H : Type) → List (DataW H) → Bool := fun _ ds => decide (uptoBulkAll ds ≤ 1048576)
def OpenSpec.upto (s : _root_.Go.ChangeSpec) : _root_.Go.OpenSpec := { _root_.Go.OpenSpec.ofChange s with cond := some uptoSmall }

/-- 'laws.FnExactOpSymbol', WHERE WHAT IT READS IS OF BULK AT MOST 1048576: true; the input reads as it did. -/
def fnExactOpSymbolUptoRow : OpenClaim := { program := "ytnlkjbpbkbhpnaa", sum := "aead48e2986a1a7ddd9b37e6742f2cffd59cfc9258b31001efc50c5f5106ee87", func := "loop.example/g03011/laws.FnExactOpSymbol", spec := "fnExactOpSymbol", apart := false, narrowed := true }
def FnExactOpSymbolUptoSaid : Prop := fnExactOpSymbolUptoRow.holds Try.pinned (OpenSpec.upto fnExactOpSymbolSpec)

/-- 'laws.FnExactIsReserved', WHERE WHAT IT READS IS OF BULK AT MOST 1048576: true; the input reads as it did. -/
def fnExactIsReservedUptoRow : OpenClaim := { program := "ytnlkjbpbkbhpnaa", sum := "aead48e2986a1a7ddd9b37e6742f2cffd59cfc9258b31001efc50c5f5106ee87", func := "loop.example/g03011/laws.FnExactIsReserved", spec := "fnExactIsReserved", apart := false, narrowed := true }
def FnExactIsReservedUptoSaid : Prop := fnExactIsReservedUptoRow.holds Try.pinned (OpenSpec.upto fnExactIsReservedSpec)

/-- 'laws.FnExactQuoteText', WHERE WHAT IT READS IS OF BULK AT MOST 1048576: true; the input reads as it did. -/
def fnExactQuoteTextUptoRow : OpenClaim := { program := "ytnlkjbpbkbhpnaa", sum := "aead48e2986a1a7ddd9b37e6742f2cffd59cfc9258b31001efc50c5f5106ee87", func := "loop.example/g03011/laws.FnExactQuoteText", spec := "fnExactQuoteText", apart := false, narrowed := true }
def FnExactQuoteTextUptoSaid : Prop := fnExactQuoteTextUptoRow.holds Try.pinned (OpenSpec.upto fnExactQuoteTextSpec)

/-- 'laws.FnExactIsName', WHERE WHAT IT READS IS OF BULK AT MOST 1048576: true; the input reads as it did. -/
def fnExactIsNameUptoRow : OpenClaim := { program := "ytnlkjbpbkbhpnaa", sum := "aead48e2986a1a7ddd9b37e6742f2cffd59cfc9258b31001efc50c5f5106ee87", func := "loop.example/g03011/laws.FnExactIsName", spec := "fnExactIsName", apart := false, narrowed := true }
def FnExactIsNameUptoSaid : Prop := fnExactIsNameUptoRow.holds Try.pinned (OpenSpec.upto fnExactIsNameSpec)

/-- 'laws.FnExactOpOf', WHERE WHAT IT READS IS OF BULK AT MOST 1048576: true; the input reads as it did. -/
def fnExactOpOfUptoRow : OpenClaim := { program := "ytnlkjbpbkbhpnaa", sum := "aead48e2986a1a7ddd9b37e6742f2cffd59cfc9258b31001efc50c5f5106ee87", func := "loop.example/g03011/laws.FnExactOpOf", spec := "fnExactOpOf", apart := false, narrowed := true }
def FnExactOpOfUptoSaid : Prop := fnExactOpOfUptoRow.holds Try.pinned (OpenSpec.upto fnExactOpOfSpec)

/-- 'laws.FnExactErrorName', WHERE WHAT IT READS IS OF BULK AT MOST 1048576: true; the input reads as it did. -/
def fnExactErrorNameUptoRow : OpenClaim := { program := "ytnlkjbpbkbhpnaa", sum := "aead48e2986a1a7ddd9b37e6742f2cffd59cfc9258b31001efc50c5f5106ee87", func := "loop.example/g03011/laws.FnExactErrorName", spec := "fnExactErrorName", apart := false, narrowed := true }
def FnExactErrorNameUptoSaid : Prop := fnExactErrorNameUptoRow.holds Try.pinned (OpenSpec.upto fnExactErrorNameSpec)

end Rows
end Go.Proofs.Ytnlkjbpbkbhpnaa
