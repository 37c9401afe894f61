/-
  What the small functions over numbers and bytes return; nothing is assumed but that numbers fit.
-/
import Derived.Test.YtpelbeoapmbloaaFacts
import Derived.Test.YtpelbeoapmbloaaSxLaw
import Derived.Test.YtpelbeoapmbloaaSxDataT
namespace Go.Proofs.Ytpelbeoapmbloaa
set_option maxRecDepth 8000
open Go Go.Sx
def isDig (c : UInt8) : Bool := decide (48 ≤ c.toNat ∧ c.toNat ≤ 57)
theorem l1In_c (x lo hi : Int) (h : Hp) : ACalls Try.prog 56 #[.int .i64 x, .int .i64 lo, .int .i64 hi] h (Pu (.bool (decide (lo ≤ x ∧ x ≤ hi))) h) := by
  (refine enter Try.func56 rfl rfl (by kernel_rfl) [] ?_; simp only [go_sem, Nat.reduceBEq])
  refine Br.intro (fun hb => ?_) (fun hb => ?_) <;> (try simp only [hb, go_sem, Nat.reduceBEq])
  · simp at hb; exact ⟨by simp [hb], rfl⟩
  · simp at hb; exact ⟨by simp; omega, rfl⟩
theorem iInRange (x lo hi : Int) (h : Hp) : ACalls Try.prog 46 #[.int .i64 x, .int .i64 lo, .int .i64 hi] h (Pu (.bool (decide (lo ≤ x ∧ x ≤ hi))) h) := by
  (refine enter Try.func46 rfl rfl (by kernel_rfl) [] ?_; simp only [go_sem, Nat.reduceBEq])
  refine Br.intro (fun hb => ?_) (fun hb => ?_) <;> (try simp only [hb, go_sem, Nat.reduceBEq])
  · simp at hb; exact ⟨by simp [hb], rfl⟩
  · simp at hb; exact ⟨by simp; omega, rfl⟩
end Go.Proofs.Ytpelbeoapmbloaa
