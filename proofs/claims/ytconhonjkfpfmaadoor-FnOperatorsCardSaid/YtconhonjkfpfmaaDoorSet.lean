/-
  What l6Set does: the array with an entry set or added; its cells are shared with the arguments'.
-/
import Derived.Test.YtconhonjkfpfmaaDoorDrop
namespace Go.Proofs.YtconhonjkfpfmaaDoor
set_option maxRecDepth 8000
open Go Go.Sx
end Go.Proofs.YtconhonjkfpfmaaDoor
