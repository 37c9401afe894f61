/-
  strings.Compare by the shelf's contract.
-/
import Derived.Test.YtconhonjkfpfmaaDoorDoor
namespace Go.Proofs.YtconhonjkfpfmaaDoor
set_option maxRecDepth 8000
open Go Go.Sx
def cmpB (a b : ByteArray) : Int := Lib.compareBytes a.data.toList b.data.toList
theorem str_cmp (a b : ByteArray) (h : Hp) : ACalls Tryd.prog 39 #[.string a, .string b] h (Pu (.int .i64 (cmpB a b)) h) :=
  acalls_below (by kernel_rfl) fun w s => (Tryd.strings_Compare a b w).mono fun e w' ⟨he, hw⟩ => ⟨he, by subst hw; exact RowKit.Below.refl _ _⟩
end Go.Proofs.YtconhonjkfpfmaaDoor
