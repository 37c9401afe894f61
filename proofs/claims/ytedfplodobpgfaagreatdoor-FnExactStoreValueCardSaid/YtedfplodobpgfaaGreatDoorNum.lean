/-
  What the small functions over numbers and bytes return; nothing is assumed but that numbers fit.
-/
import Derived.Test.YtedfplodobpgfaaGreatDoorFacts
import Derived.Test.YtedfplodobpgfaaGreatDoorSxLaw
import Derived.Test.YtedfplodobpgfaaGreatDoorSxDataT
namespace Go.Proofs.YtedfplodobpgfaaGreatDoor
set_option maxRecDepth 8000
open Go Go.Sx
def isDig (c : UInt8) : Bool := decide (48 ≤ c.toNat ∧ c.toNat ≤ 57)
theorem l1In_c (x lo hi : Int) (h : Hp) : ACalls Tryz.prog 93 #[.int .i64 x, .int .i64 lo, .int .i64 hi] h (Pu (.bool (decide (lo ≤ x ∧ x ≤ hi))) h) := by
  (refine enter Tryz.func93 rfl rfl (by kernel_rfl) [] ?_; simp only [go_sem, Nat.reduceBEq])
  refine Br.intro (fun hb => ?_) (fun hb => ?_) <;> (try simp only [hb, go_sem, Nat.reduceBEq])
  · simp at hb; exact ⟨by simp [hb], rfl⟩
  · simp at hb; exact ⟨by simp; omega, rfl⟩
theorem iInRange (x lo hi : Int) (h : Hp) : ACalls Tryz.prog 95 #[.int .i64 x, .int .i64 lo, .int .i64 hi] h (Pu (.bool (decide (lo ≤ x ∧ x ≤ hi))) h) := by
  (refine enter Tryz.func95 rfl rfl (by kernel_rfl) [] ?_; simp only [go_sem, Nat.reduceBEq])
  refine Br.intro (fun hb => ?_) (fun hb => ?_) <;> (try simp only [hb, go_sem, Nat.reduceBEq])
  · simp at hb; exact ⟨by simp [hb], rfl⟩
  · simp at hb; exact ⟨by simp; omega, rfl⟩
theorem iMin (a b : Int) (h : Hp) : ACalls Tryz.prog 121 #[.int .i64 a, .int .i64 b] h (Pu (.int .i64 (min a b)) h) := by
  (refine enter Tryz.func121 rfl rfl (by kernel_rfl) [] ?_; simp only [go_sem, Nat.reduceBEq])
  refine Br.intro (fun h1 => ?_) (fun h1 => ?_) <;> (try simp only [h1, go_sem, Nat.reduceBEq])
  · have := of_decide_eq_true h1; exact ⟨by rw [Int.min_eq_right (by omega)], rfl⟩
  · have := of_decide_eq_false h1; exact ⟨by rw [Int.min_eq_left (by omega)], rfl⟩
theorem iMax (a b : Int) (h : Hp) : ACalls Tryz.prog 130 #[.int .i64 a, .int .i64 b] h (Pu (.int .i64 (max a b)) h) := by
  (refine enter Tryz.func130 rfl rfl (by kernel_rfl) [] ?_; simp only [go_sem, Nat.reduceBEq])
  refine Br.intro (fun h1 => ?_) (fun h1 => ?_) <;> (try simp only [h1, go_sem, Nat.reduceBEq])
  · have := of_decide_eq_true h1; exact ⟨by rw [Int.max_eq_right (by omega)], rfl⟩
  · have := of_decide_eq_false h1; exact ⟨by rw [Int.max_eq_left (by omega)], rfl⟩
theorem sMax (a b : Int) (h : Hp) : ACalls Tryz.prog 157 #[.int .i64 a, .int .i64 b] h (Pu (.int .i64 (max a b)) h) := by
  (refine enter Tryz.func157 rfl rfl (by kernel_rfl) [] ?_; simp only [go_sem, Nat.reduceBEq])
  refine Br.intro (fun h1 => ?_) (fun h1 => ?_) <;> (try simp only [h1, go_sem, Nat.reduceBEq])
  · have := of_decide_eq_true h1; exact ⟨by rw [Int.max_eq_right (by omega)], rfl⟩
  · have := of_decide_eq_false h1; exact ⟨by rw [Int.max_eq_left (by omega)], rfl⟩
end Go.Proofs.YtedfplodobpgfaaGreatDoor
