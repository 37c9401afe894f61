/-
  NARROWER THAN 'FOR EVERY INPUT', by the rows' own cells (each row's printed sentence says how): FnExactNodeSize: loops · FnExactHasYield: loops · FnExactSameNode: loops · FnExactNodeDepth: loops · FnExactIsBlock: loops · FnExactIsExpr: loops · FnExactIsScript: loops.
  DERIVED. THE GIVEN ROWS OF THIS SEAT. 11 by the template 'for every input the law returns true; each argument reads behind the call as it read before'; 0 by the template 'total and deterministic' (their statements: YtcaljbefchapoaaTotals.lean).
  GIVEN WITH THE SEED: the statements are not yours to turn. If you find one false, say at which input.
  Laid BY PROGRAM, IN A SANDBOX (cutbox-rows.mjs): the forced cells as the released guide's own fill.sh prints them over the translation 454d0d5709beb0de… (all of the seat's roots in one cut). By AI agents, Wed Nov 11 2026. No macro, syntax, notation, axiom, sorry.
-/
import Derived.Test.YtcaljbefchapoaaChecked
import GoSem.Claim
import GoSem.ClaimJoined
import GoSem.ClaimMapViews
import Derived.JoinedTies
import Derived.KernelRfl
namespace Go.Proofs.Ytcaljbefchapoaa
/- THE CELL 'sum', in the pinned program and in every row, IS THE sha256 OF THE DUMP (.gsa) THAT YtcaljbefchapoaaProg.lean LOADS. Nothing in Lean hashes anything: it is a label: what it is worth is what the hold of that sum in a sandbox is worth. -/
noncomputable def Try.pinned : Pinned := { name := "ytcaljbefchapoaa", sum := "454d0d5709beb0deeb3a49e01bf1da2f83c27ea63b9ffd9c892413a1f1f675bf", checked := Try.checked }
namespace Rows
def none {H : Type} : Left H := { results := [], args := [] }

/-- 'laws.FnExactRelation': WHATEVER THE INPUT: true; the input reads as it did. -/
def fnExactRelationSpec : ChangeSpec := { name := "fnExactRelation", fn := fun _ => fun
  | [d1, d2] => { results := [.lit (.bool true)], args := [d1, d2] }
  | _ => none }
def fnExactRelationRow : OpenClaim := { program := "ytcaljbefchapoaa", sum := "454d0d5709beb0deeb3a49e01bf1da2f83c27ea63b9ffd9c892413a1f1f675bf", func := "loop.example/g03011/laws.FnExactRelation", spec := "fnExactRelation", apart := false }
def FnExactRelationSaid : Prop := fnExactRelationRow.holds Try.pinned (OpenSpec.ofChange fnExactRelationSpec)

/-- ITS FALSE NEIGHBOUR: 'it returns false'. Refute it at one input. -/
def fnExactRelationWrong : ChangeSpec := { name := "fnExactRelation", fn := fun _ => fun
  | [d1, d2] => { results := [.lit (.bool false)], args := [d1, d2] }
  | _ => none }
def FnExactRelationWrongFalsely : Prop := fnExactRelationRow.holds Try.pinned (OpenSpec.ofChange fnExactRelationWrong)

/-- 'laws.FnExactIsNumeric': WHATEVER THE INPUT: true; the input reads as it did. -/
def fnExactIsNumericSpec : ChangeSpec := { name := "fnExactIsNumeric", fn := fun _ => fun
  | [d] => { results := [.lit (.bool true)], args := [d] }
  | _ => none }
def fnExactIsNumericRow : OpenClaim := { program := "ytcaljbefchapoaa", sum := "454d0d5709beb0deeb3a49e01bf1da2f83c27ea63b9ffd9c892413a1f1f675bf", func := "loop.example/g03011/laws.FnExactIsNumeric", spec := "fnExactIsNumeric", apart := false }
def FnExactIsNumericSaid : Prop := fnExactIsNumericRow.holds Try.pinned (OpenSpec.ofChange fnExactIsNumericSpec)

/-- ITS FALSE NEIGHBOUR: 'it returns false'. Refute it at one input. -/
def fnExactIsNumericWrong : ChangeSpec := { name := "fnExactIsNumeric", fn := fun _ => fun
  | [d] => { results := [.lit (.bool false)], args := [d] }
  | _ => none }
def FnExactIsNumericWrongFalsely : Prop := fnExactIsNumericRow.holds Try.pinned (OpenSpec.ofChange fnExactIsNumericWrong)

/-- 'laws.FnExactArith': WHATEVER THE INPUT: true; the input reads as it did. -/
def fnExactArithSpec : ChangeSpec := { name := "fnExactArith", fn := fun _ => fun
  | [d1, d2, d3] => { results := [.lit (.bool true)], args := [d1, d2, d3] }
  | _ => none }
def fnExactArithRow : OpenClaim := { program := "ytcaljbefchapoaa", sum := "454d0d5709beb0deeb3a49e01bf1da2f83c27ea63b9ffd9c892413a1f1f675bf", func := "loop.example/g03011/laws.FnExactArith", spec := "fnExactArith", apart := false }
def FnExactArithSaid : Prop := fnExactArithRow.holds Try.pinned (OpenSpec.ofChange fnExactArithSpec)

/-- ITS FALSE NEIGHBOUR: 'it returns false'. Refute it at one input. -/
def fnExactArithWrong : ChangeSpec := { name := "fnExactArith", fn := fun _ => fun
  | [d1, d2, d3] => { results := [.lit (.bool false)], args := [d1, d2, d3] }
  | _ => none }
def FnExactArithWrongFalsely : Prop := fnExactArithRow.holds Try.pinned (OpenSpec.ofChange fnExactArithWrong)

/-- 'laws.FnExactLeadingInt': WHATEVER THE INPUT: true; the input reads as it did. -/
def fnExactLeadingIntSpec : ChangeSpec := { name := "fnExactLeadingInt", fn := fun _ => fun
  | [d] => { results := [.lit (.bool true)], args := [d] }
  | _ => none }
def fnExactLeadingIntRow : OpenClaim := { program := "ytcaljbefchapoaa", sum := "454d0d5709beb0deeb3a49e01bf1da2f83c27ea63b9ffd9c892413a1f1f675bf", func := "loop.example/g03011/laws.FnExactLeadingInt", spec := "fnExactLeadingInt", apart := false }
def FnExactLeadingIntSaid : Prop := fnExactLeadingIntRow.holds Try.pinned (OpenSpec.ofChange fnExactLeadingIntSpec)

/-- ITS FALSE NEIGHBOUR: 'it returns false'. Refute it at one input. -/
def fnExactLeadingIntWrong : ChangeSpec := { name := "fnExactLeadingInt", fn := fun _ => fun
  | [d] => { results := [.lit (.bool false)], args := [d] }
  | _ => none }
def FnExactLeadingIntWrongFalsely : Prop := fnExactLeadingIntRow.holds Try.pinned (OpenSpec.ofChange fnExactLeadingIntWrong)

/-- 'laws.FnExactNodeSize': WHATEVER THE INPUT: true; the input reads as it did. -/
def fnExactNodeSizeSpec : ChangeSpec := { name := "fnExactNodeSize", fn := fun _ => fun
  | [d] => { results := [.lit (.bool true)], args := [d] }
  | _ => none }
def fnExactNodeSizeRow : OpenClaim := { program := "ytcaljbefchapoaa", sum := "454d0d5709beb0deeb3a49e01bf1da2f83c27ea63b9ffd9c892413a1f1f675bf", func := "loop.example/g03011/laws.FnExactNodeSize", spec := "fnExactNodeSize", recurses := true, loops := true, apart := false }
def FnExactNodeSizeSaid : Prop := fnExactNodeSizeRow.holds Try.pinned (OpenSpec.ofChange fnExactNodeSizeSpec)

/-- ITS FALSE NEIGHBOUR: 'it returns false'. Refute it at one input. -/
def fnExactNodeSizeWrong : ChangeSpec := { name := "fnExactNodeSize", fn := fun _ => fun
  | [d] => { results := [.lit (.bool false)], args := [d] }
  | _ => none }
def FnExactNodeSizeWrongFalsely : Prop := fnExactNodeSizeRow.holds Try.pinned (OpenSpec.ofChange fnExactNodeSizeWrong)

/-- 'laws.FnExactHasYield': WHATEVER THE INPUT: true; the input reads as it did. -/
def fnExactHasYieldSpec : ChangeSpec := { name := "fnExactHasYield", fn := fun _ => fun
  | [d] => { results := [.lit (.bool true)], args := [d] }
  | _ => none }
def fnExactHasYieldRow : OpenClaim := { program := "ytcaljbefchapoaa", sum := "454d0d5709beb0deeb3a49e01bf1da2f83c27ea63b9ffd9c892413a1f1f675bf", func := "loop.example/g03011/laws.FnExactHasYield", spec := "fnExactHasYield", recurses := true, loops := true, apart := false }
def FnExactHasYieldSaid : Prop := fnExactHasYieldRow.holds Try.pinned (OpenSpec.ofChange fnExactHasYieldSpec)

/-- ITS FALSE NEIGHBOUR: 'it returns false'. Refute it at one input. -/
def fnExactHasYieldWrong : ChangeSpec := { name := "fnExactHasYield", fn := fun _ => fun
  | [d] => { results := [.lit (.bool false)], args := [d] }
  | _ => none }
def FnExactHasYieldWrongFalsely : Prop := fnExactHasYieldRow.holds Try.pinned (OpenSpec.ofChange fnExactHasYieldWrong)

/-- 'laws.FnExactSameNode': WHATEVER THE INPUT: true; the input reads as it did. -/
def fnExactSameNodeSpec : ChangeSpec := { name := "fnExactSameNode", fn := fun _ => fun
  | [d1, d2] => { results := [.lit (.bool true)], args := [d1, d2] }
  | _ => none }
def fnExactSameNodeRow : OpenClaim := { program := "ytcaljbefchapoaa", sum := "454d0d5709beb0deeb3a49e01bf1da2f83c27ea63b9ffd9c892413a1f1f675bf", func := "loop.example/g03011/laws.FnExactSameNode", spec := "fnExactSameNode", recurses := true, loops := true, apart := false }
def FnExactSameNodeSaid : Prop := fnExactSameNodeRow.holds Try.pinned (OpenSpec.ofChange fnExactSameNodeSpec)

/-- ITS FALSE NEIGHBOUR: 'it returns false'. Refute it at one input. -/
def fnExactSameNodeWrong : ChangeSpec := { name := "fnExactSameNode", fn := fun _ => fun
  | [d1, d2] => { results := [.lit (.bool false)], args := [d1, d2] }
  | _ => none }
def FnExactSameNodeWrongFalsely : Prop := fnExactSameNodeRow.holds Try.pinned (OpenSpec.ofChange fnExactSameNodeWrong)

/-- 'laws.FnExactNodeDepth': WHATEVER THE INPUT: true; the input reads as it did. -/
def fnExactNodeDepthSpec : ChangeSpec := { name := "fnExactNodeDepth", fn := fun _ => fun
  | [d] => { results := [.lit (.bool true)], args := [d] }
  | _ => none }
def fnExactNodeDepthRow : OpenClaim := { program := "ytcaljbefchapoaa", sum := "454d0d5709beb0deeb3a49e01bf1da2f83c27ea63b9ffd9c892413a1f1f675bf", func := "loop.example/g03011/laws.FnExactNodeDepth", spec := "fnExactNodeDepth", recurses := true, loops := true, apart := false }
def FnExactNodeDepthSaid : Prop := fnExactNodeDepthRow.holds Try.pinned (OpenSpec.ofChange fnExactNodeDepthSpec)

/-- ITS FALSE NEIGHBOUR: 'it returns false'. Refute it at one input. -/
def fnExactNodeDepthWrong : ChangeSpec := { name := "fnExactNodeDepth", fn := fun _ => fun
  | [d] => { results := [.lit (.bool false)], args := [d] }
  | _ => none }
def FnExactNodeDepthWrongFalsely : Prop := fnExactNodeDepthRow.holds Try.pinned (OpenSpec.ofChange fnExactNodeDepthWrong)

/-- 'laws.FnExactIsBlock': WHATEVER THE INPUT: true; the input reads as it did. -/
def fnExactIsBlockSpec : ChangeSpec := { name := "fnExactIsBlock", fn := fun _ => fun
  | [d] => { results := [.lit (.bool true)], args := [d] }
  | _ => none }
def fnExactIsBlockRow : OpenClaim := { program := "ytcaljbefchapoaa", sum := "454d0d5709beb0deeb3a49e01bf1da2f83c27ea63b9ffd9c892413a1f1f675bf", func := "loop.example/g03011/laws.FnExactIsBlock", spec := "fnExactIsBlock", inPlace := ["internal/bytealg.IndexByteString", "internal/bytealg.IndexString"], recurses := true, named := ["internal/bytealg.MaxLen"], loops := true, apart := false }
def FnExactIsBlockSaid : Prop := fnExactIsBlockRow.holds Try.pinned (OpenSpec.ofChange fnExactIsBlockSpec)

/-- ITS FALSE NEIGHBOUR: 'it returns false'. Refute it at one input. -/
def fnExactIsBlockWrong : ChangeSpec := { name := "fnExactIsBlock", fn := fun _ => fun
  | [d] => { results := [.lit (.bool false)], args := [d] }
  | _ => none }
def FnExactIsBlockWrongFalsely : Prop := fnExactIsBlockRow.holds Try.pinned (OpenSpec.ofChange fnExactIsBlockWrong)

/-- 'laws.FnExactIsExpr': WHATEVER THE INPUT: true; the input reads as it did. -/
def fnExactIsExprSpec : ChangeSpec := { name := "fnExactIsExpr", fn := fun _ => fun
  | [d] => { results := [.lit (.bool true)], args := [d] }
  | _ => none }
def fnExactIsExprRow : OpenClaim := { program := "ytcaljbefchapoaa", sum := "454d0d5709beb0deeb3a49e01bf1da2f83c27ea63b9ffd9c892413a1f1f675bf", func := "loop.example/g03011/laws.FnExactIsExpr", spec := "fnExactIsExpr", inPlace := ["internal/bytealg.IndexByteString", "internal/bytealg.IndexString"], recurses := true, named := ["internal/bytealg.MaxLen"], loops := true, apart := false }
def FnExactIsExprSaid : Prop := fnExactIsExprRow.holds Try.pinned (OpenSpec.ofChange fnExactIsExprSpec)

/-- ITS FALSE NEIGHBOUR: 'it returns false'. Refute it at one input. -/
def fnExactIsExprWrong : ChangeSpec := { name := "fnExactIsExpr", fn := fun _ => fun
  | [d] => { results := [.lit (.bool false)], args := [d] }
  | _ => none }
def FnExactIsExprWrongFalsely : Prop := fnExactIsExprRow.holds Try.pinned (OpenSpec.ofChange fnExactIsExprWrong)

/-- 'laws.FnExactIsScript': WHATEVER THE INPUT: true; the input reads as it did. -/
def fnExactIsScriptSpec : ChangeSpec := { name := "fnExactIsScript", fn := fun _ => fun
  | [d] => { results := [.lit (.bool true)], args := [d] }
  | _ => none }
def fnExactIsScriptRow : OpenClaim := { program := "ytcaljbefchapoaa", sum := "454d0d5709beb0deeb3a49e01bf1da2f83c27ea63b9ffd9c892413a1f1f675bf", func := "loop.example/g03011/laws.FnExactIsScript", spec := "fnExactIsScript", inPlace := ["internal/bytealg.IndexByteString", "internal/bytealg.IndexString"], recurses := true, named := ["internal/bytealg.MaxLen"], loops := true, apart := false }
def FnExactIsScriptSaid : Prop := fnExactIsScriptRow.holds Try.pinned (OpenSpec.ofChange fnExactIsScriptSpec)

/-- ITS FALSE NEIGHBOUR: 'it returns false'. Refute it at one input. -/
def fnExactIsScriptWrong : ChangeSpec := { name := "fnExactIsScript", fn := fun _ => fun
  | [d] => { results := [.lit (.bool false)], args := [d] }
  | _ => none }
def FnExactIsScriptWrongFalsely : Prop := fnExactIsScriptRow.holds Try.pinned (OpenSpec.ofChange fnExactIsScriptWrong)

/- THE SECOND FORM. 'bulk': how many values and letters a reading holds, each counted each time it is reached (what is shared counts as often as it is met; a slice's spare places count too). A statement '..UptoSaid' is the law's where the arguments, and the package variables that the reading takes, are together of bulk at most 1048576: NARROWER than '..Said'. Prove '..Said' where nothing that the law and all that it calls make is longer than what came in: it says more and counts as full. Else prove '..UptoSaid'. A law counts once. -/
mutual
def uptoBulk {H : Type} : DataW H → Nat
  | .lit (.string bytes) => bytes.length + 1
  | .lit _ => 1
  | .nil => 1
  | .ptr d => uptoBulk d + 1
  | .slice elems spare => uptoBulkAll elems + uptoBulkAll spare + 1
  | .agg parts => uptoBulkAll parts + 1
  | .iface _ d => uptoBulk d + 1
  | .map entries => uptoBulkEntries entries + 1
  | .held _ => 1
def uptoBulkAll {H : Type} : List (DataW H) → Nat
  | [] => 0
  | d :: r => uptoBulk d + uptoBulkAll r
def uptoBulkEntries {H : Type} : List (Lit × DataW H) → Nat
  | [] => 0
  | x :: r => uptoBulkEntry x + uptoBulkEntries r
def uptoBulkEntry {H : Type} : Lit × DataW H → Nat
  | (.string bytes, d) => bytes.length + uptoBulk d + 1
  | (_, d) => uptoBulk d + 1
 end
def uptoSmall : (H : Type) → List (DataW H) → Bool := fun _ ds => decide (uptoBulkAll ds ≤ 1048576)
def OpenSpec.upto (s : _root_.Go.ChangeSpec) : _root_.Go.OpenSpec := { _root_.Go.OpenSpec.ofChange s with cond := some uptoSmall }

/-- 'laws.FnExactRelation', WHERE WHAT IT READS IS OF BULK AT MOST 1048576: true; the input reads as it did. -/
def fnExactRelationUptoRow : OpenClaim := { program := "ytcaljbefchapoaa", sum := "454d0d5709beb0deeb3a49e01bf1da2f83c27ea63b9ffd9c892413a1f1f675bf", func := "loop.example/g03011/laws.FnExactRelation", spec := "fnExactRelation", apart := false, narrowed := true }
def FnExactRelationUptoSaid : Prop := fnExactRelationUptoRow.holds Try.pinned (OpenSpec.upto fnExactRelationSpec)

/-- 'laws.FnExactIsNumeric', WHERE WHAT IT READS IS OF BULK AT MOST 1048576: true; the input reads as it did. -/
def fnExactIsNumericUptoRow : OpenClaim := { program := "ytcaljbefchapoaa", sum := "454d0d5709beb0deeb3a49e01bf1da2f83c27ea63b9ffd9c892413a1f1f675bf", func := "loop.example/g03011/laws.FnExactIsNumeric", spec := "fnExactIsNumeric", apart := false, narrowed := true }
def FnExactIsNumericUptoSaid : Prop := fnExactIsNumericUptoRow.holds Try.pinned (OpenSpec.upto fnExactIsNumericSpec)

/-- 'laws.FnExactArith', WHERE WHAT IT READS IS OF BULK AT MOST 1048576: true; the input reads as it did. -/
def fnExactArithUptoRow : OpenClaim := { program := "ytcaljbefchapoaa", sum := "454d0d5709beb0deeb3a49e01bf1da2f83c27ea63b9ffd9c892413a1f1f675bf", func := "loop.example/g03011/laws.FnExactArith", spec := "fnExactArith", apart := false, narrowed := true }
def FnExactArithUptoSaid : Prop := fnExactArithUptoRow.holds Try.pinned (OpenSpec.upto fnExactArithSpec)

/-- 'laws.FnExactLeadingInt', WHERE WHAT IT READS IS OF BULK AT MOST 1048576: true; the input reads as it did. -/
def fnExactLeadingIntUptoRow : OpenClaim := { program := "ytcaljbefchapoaa", sum := "454d0d5709beb0deeb3a49e01bf1da2f83c27ea63b9ffd9c892413a1f1f675bf", func := "loop.example/g03011/laws.FnExactLeadingInt", spec := "fnExactLeadingInt", apart := false, narrowed := true }
def FnExactLeadingIntUptoSaid : Prop := fnExactLeadingIntUptoRow.holds Try.pinned (OpenSpec.upto fnExactLeadingIntSpec)

/-- 'laws.FnExactNodeSize', WHERE WHAT IT READS IS OF BULK AT MOST 1048576: true; the input reads as it did. -/
def fnExactNodeSizeUptoRow : OpenClaim := { program := "ytcaljbefchapoaa", sum := "454d0d5709beb0deeb3a49e01bf1da2f83c27ea63b9ffd9c892413a1f1f675bf", func := "loop.example/g03011/laws.FnExactNodeSize", spec := "fnExactNodeSize", recurses := true, loops := true, apart := false, narrowed := true }
def FnExactNodeSizeUptoSaid : Prop := fnExactNodeSizeUptoRow.holds Try.pinned (OpenSpec.upto fnExactNodeSizeSpec)

/-- 'laws.FnExactHasYield', WHERE WHAT IT READS IS OF BULK AT MOST 1048576: true; the input reads as it did. -/
def fnExactHasYieldUptoRow : OpenClaim := { program := "ytcaljbefchapoaa", sum := "454d0d5709beb0deeb3a49e01bf1da2f83c27ea63b9ffd9c892413a1f1f675bf", func := "loop.example/g03011/laws.FnExactHasYield", spec := "fnExactHasYield", recurses := true, loops := true, apart := false, narrowed := true }
def FnExactHasYieldUptoSaid : Prop := fnExactHasYieldUptoRow.holds Try.pinned (OpenSpec.upto fnExactHasYieldSpec)

/-- 'laws.FnExactSameNode', WHERE WHAT IT READS IS OF BULK AT MOST 1048576: true; the input reads as it did. -/
def fnExactSameNodeUptoRow : OpenClaim := { program := "ytcaljbefchapoaa", sum := "454d0d5709beb0deeb3a49e01bf1da2f83c27ea63b9ffd9c892413a1f1f675bf", func := "loop.example/g03011/laws.FnExactSameNode", spec := "fnExactSameNode", recurses := true, loops := true, apart := false, narrowed := true }
def FnExactSameNodeUptoSaid : Prop := fnExactSameNodeUptoRow.holds Try.pinned (OpenSpec.upto fnExactSameNodeSpec)

/-- 'laws.FnExactNodeDepth', WHERE WHAT IT READS IS OF BULK AT MOST 1048576: true; the input reads as it did. -/
def fnExactNodeDepthUptoRow : OpenClaim := { program := "ytcaljbefchapoaa", sum := "454d0d5709beb0deeb3a49e01bf1da2f83c27ea63b9ffd9c892413a1f1f675bf", func := "loop.example/g03011/laws.FnExactNodeDepth", spec := "fnExactNodeDepth", recurses := true, loops := true, apart := false, narrowed := true }
def FnExactNodeDepthUptoSaid : Prop := fnExactNodeDepthUptoRow.holds Try.pinned (OpenSpec.upto fnExactNodeDepthSpec)

/-- 'laws.FnExactIsBlock', WHERE WHAT IT READS IS OF BULK AT MOST 1048576: true; the input reads as it did. -/
def fnExactIsBlockUptoRow : OpenClaim := { program := "ytcaljbefchapoaa", sum := "454d0d5709beb0deeb3a49e01bf1da2f83c27ea63b9ffd9c892413a1f1f675bf", func := "loop.example/g03011/laws.FnExactIsBlock", spec := "fnExactIsBlock", inPlace := ["internal/bytealg.IndexByteString", "internal/bytealg.IndexString"], recurses := true, named := ["internal/bytealg.MaxLen"], loops := true, apart := false, narrowed := true }
def FnExactIsBlockUptoSaid : Prop := fnExactIsBlockUptoRow.holds Try.pinned (OpenSpec.upto fnExactIsBlockSpec)

/-- 'laws.FnExactIsExpr', WHERE WHAT IT READS IS OF BULK AT MOST 1048576: true; the input reads as it did. -/
def fnExactIsExprUptoRow : OpenClaim := { program := "ytcaljbefchapoaa", sum := "454d0d5709beb0deeb3a49e01bf1da2f83c27ea63b9ffd9c892413a1f1f675bf", func := "loop.example/g03011/laws.FnExactIsExpr", spec := "fnExactIsExpr", inPlace := ["internal/bytealg.IndexByteString", "internal/bytealg.IndexString"], recurses := true, named := ["internal/bytealg.MaxLen"], loops := true, apart := false, narrowed := true }
def FnExactIsExprUptoSaid : Prop := fnExactIsExprUptoRow.holds Try.pinned (OpenSpec.upto fnExactIsExprSpec)

/-- 'laws.FnExactIsScript', WHERE WHAT IT READS IS OF BULK AT MOST 1048576: true; the input reads as it did. -/
def fnExactIsScriptUptoRow : OpenClaim := { program := "ytcaljbefchapoaa", sum := "454d0d5709beb0deeb3a49e01bf1da2f83c27ea63b9ffd9c892413a1f1f675bf", func := "loop.example/g03011/laws.FnExactIsScript", spec := "fnExactIsScript", inPlace := ["internal/bytealg.IndexByteString", "internal/bytealg.IndexString"], recurses := true, named := ["internal/bytealg.MaxLen"], loops := true, apart := false, narrowed := true }
def FnExactIsScriptUptoSaid : Prop := fnExactIsScriptUptoRow.holds Try.pinned (OpenSpec.upto fnExactIsScriptSpec)

end Rows
end Go.Proofs.Ytcaljbefchapoaa
