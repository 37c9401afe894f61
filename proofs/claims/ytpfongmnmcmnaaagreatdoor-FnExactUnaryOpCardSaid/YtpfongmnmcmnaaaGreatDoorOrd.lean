/-
  What LooseEqual and IsOrdered of the program and of the reference return.
-/
import Derived.Test.YtpfongmnmcmnaaaGreatDoorCmp
namespace Go.Proofs.YtpfongmnmcmnaaaGreatDoor
set_option maxRecDepth 8000
open Go Go.Sx
def ordd : List V → Bool
  | a :: b :: r => !decide (V.cmp a b = 1) && ordd (b :: r)
  | _ => true
theorem ordd_one (a : V) : ordd [a] = true := rfl
theorem ordd_two (a b : V) (r : List V) : ordd (a :: b :: r) = (!decide (V.cmp a b = 1) && ordd (b :: r)) := rfl
theorem vbulk_mem {l : List V} {e : V} (h : e ∈ l) : e.bulk ≤ szG V.bulk l := by have := gsum_mem (w := V.bulk) h; unfold szG; omega
theorem wrap_pred {n : Nat} (h0 : 0 < n) (hn : n < 9223372036854775807) : IntKind.i64.wrap ((n : Int) - 1) = ((n - 1 : Nat) : Int) := by rw [IntWalk.i64_in _ (by omega)]; omega
end Go.Proofs.YtpfongmnmcmnaaaGreatDoor
