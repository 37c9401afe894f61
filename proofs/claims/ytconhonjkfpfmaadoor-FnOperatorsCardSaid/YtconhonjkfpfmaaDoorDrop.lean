/-
  What l6Drop does: the array without an entry; its cells are shared with the argument's.
-/
import Derived.Test.YtconhonjkfpfmaaDoorFind
import Derived.Test.YtconhonjkfpfmaaDoorSxSub
import Derived.Test.YtconhonjkfpfmaaDoorSxMathW
namespace Go.Proofs.YtconhonjkfpfmaaDoor
set_option maxRecDepth 8000
open Go Go.Sx
/-- a value that can be read; nothing visible has turned -/
def RdV (h : Hp) (o : V) (u : Value) (h' : Hp) : Prop := ∃ a c, u = .agg #[.int .i64 o.kind, .int .i64 o.num, .string o.str, .int .i64 o.next, .slice a o.items.length c] ∧ Ext h h' ∧ RdE h' o.items (.slice a o.items.length c)
end Go.Proofs.YtconhonjkfpfmaaDoor
