/-
  What the small functions over numbers and bytes return; nothing is assumed but that numbers fit.
-/
import Derived.Test.YtcaljbefchapoaaDoorFacts
import Derived.Test.YtcaljbefchapoaaDoorSxLaw
import Derived.Test.YtcaljbefchapoaaDoorSxDataT
namespace Go.Proofs.YtcaljbefchapoaaDoor
set_option maxRecDepth 8000
open Go Go.Sx
def isDig (c : UInt8) : Bool := decide (48 ≤ c.toNat ∧ c.toNat ≤ 57)
end Go.Proofs.YtcaljbefchapoaaDoor
