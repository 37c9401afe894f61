/-
  strconv.Itoa by the shelf's contract, and the table that it reads.
-/
import Derived.Test.YtconhonjkfpfmaaDoorFacts
import Derived.Test.YtconhonjkfpfmaaDoorSxLib
import Derived.Test.YtconhonjkfpfmaaDoorShelf
import Derived.LaidSub
import Derived.MakeChecks
namespace Go.Proofs.YtconhonjkfpfmaaDoor
set_option maxRecDepth 8000
open Go Go.Sx
def Pow (h : Hp) : Prop := TabH Tryd.prog h "internal/strconv.uint64pow10" .u64 Lib.pow10Tab
theorem Pow.ext {h h' : Hp} (e : Ext h h') (t : Pow h) : Pow h' := TabH.ext e t
theorem itoa_c (n : Int) (hn : IntKind.i64.min ≤ n ∧ n ≤ IntKind.i64.max) (h : Hp) (hT : Pow h) : ACalls Tryd.prog 85 #[.int .i64 n] h (Pu (.string ⟨(Lib.itoa n).toArray⟩) h) :=
  acalls_below (by kernel_rfl) fun w s => (Tryd.strconv_Itoa n hn.1 hn.2 w (hT.is s)).mono fun e w' ⟨he, k, os, hw⟩ => ⟨he, by subst hw; exact below_grow w k os⟩
theorem pow_of {W : World} {laid : List (String × DataW Unit)} (hf : (laid.filter fun x => x.1 == "internal/strconv.uint64pow10") = [("internal/strconv.uint64pow10", Lib.tabData .u64 Lib.pow10Tab)]) (h : laidMet Tryd.prog laid W) : Pow (vis W) := by
  have h2 := h.filter fun x => x.1 == "internal/strconv.uint64pow10"
  rw [hf] at h2
  exact TabH.of (Lib.tabIs_of_head (g := 1) (t := 139) (e := 132) (n := 20) (by kernel_rfl) (by kernel_rfl) Tryd.underlying139 Tryd.underlying132 (by kernel_rfl) (by kernel_rfl) h2)
end Go.Proofs.YtconhonjkfpfmaaDoor
