/-
  What LooseEqual and IsOrdered of the program and of the reference return.
-/
import Derived.Test.YtconhonjkfpfmaaDoorCmp
namespace Go.Proofs.YtconhonjkfpfmaaDoor
set_option maxRecDepth 8000
open Go Go.Sx
theorem iLoose (a b : V) (oka : a.ok) (okb : b.ok) (ha : a.bulk ≤ 1099511627776) (hb : b.bulk ≤ 1099511627776) (sa sb : Value) (h : Hp) (ra : RdE h a.items sa) (rb : RdE h b.items sb) (hT : Pow h) :
    ACalls Tryd.prog 11 #[.agg #[.int .i64 a.kind, .int .i64 a.num, .string a.str, .int .i64 a.next, sa], .agg #[.int .i64 b.kind, .int .i64 b.num, .string b.str, .int .i64 b.next, sb]] h (Is (.bool (decide (V.cmp a b = 0))) h) := by
  (refine enter Tryd.func11 rfl rfl (by kernel_rfl) [] ?_; simp only [go_sem, Nat.reduceBEq, Nat.reduceAdd, Nat.reduceLeDiff])
  refine (iCompare a b oka okb ha hb _ _ _ ra rb hT).mono ?_
  rintro _ h1 ⟨rfl, e1⟩
  simp only [go_sem, Nat.reduceBEq]
  exact ⟨rfl, e1⟩
def ordd : List V → Bool
  | a :: b :: r => !decide (V.cmp a b = 1) && ordd (b :: r)
  | _ => true
theorem ordd_one (a : V) : ordd [a] = true := rfl
theorem ordd_two (a b : V) (r : List V) : ordd (a :: b :: r) = (!decide (V.cmp a b = 1) && ordd (b :: r)) := rfl
theorem vbulk_mem {l : List V} {e : V} (h : e ∈ l) : e.bulk ≤ szG V.bulk l := by have := gsum_mem (w := V.bulk) h; unfold szG; omega
theorem wrap_pred {n : Nat} (h0 : 0 < n) (hn : n < 9223372036854775807) : IntKind.i64.wrap ((n : Int) - 1) = ((n - 1 : Nat) : Int) := by rw [IntWalk.i64_in _ (by omega)]; omega
end Go.Proofs.YtconhonjkfpfmaaDoor
