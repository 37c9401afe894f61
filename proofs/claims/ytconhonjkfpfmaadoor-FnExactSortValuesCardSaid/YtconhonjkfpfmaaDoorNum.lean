/-
  What the small functions over numbers and bytes return; nothing is assumed but that numbers fit.
-/
import Derived.Test.YtconhonjkfpfmaaDoorFacts
import Derived.Test.YtconhonjkfpfmaaDoorSxLaw
import Derived.Test.YtconhonjkfpfmaaDoorSxDataT
namespace Go.Proofs.YtconhonjkfpfmaaDoor
set_option maxRecDepth 8000
open Go Go.Sx
def isDig (c : UInt8) : Bool := decide (48 ≤ c.toNat ∧ c.toNat ≤ 57)
theorem l1In_c (x lo hi : Int) (h : Hp) : ACalls Tryd.prog 78 #[.int .i64 x, .int .i64 lo, .int .i64 hi] h (Pu (.bool (decide (lo ≤ x ∧ x ≤ hi))) h) := by
  (refine enter Tryd.func78 rfl rfl (by kernel_rfl) [] ?_; simp only [go_sem, Nat.reduceBEq])
  refine Br.intro (fun hb => ?_) (fun hb => ?_) <;> (try simp only [hb, go_sem, Nat.reduceBEq])
  · simp at hb; exact ⟨by simp [hb], rfl⟩
  · simp at hb; exact ⟨by simp; omega, rfl⟩
theorem iInRange (x lo hi : Int) (h : Hp) : ACalls Tryd.prog 55 #[.int .i64 x, .int .i64 lo, .int .i64 hi] h (Pu (.bool (decide (lo ≤ x ∧ x ≤ hi))) h) := by
  (refine enter Tryd.func55 rfl rfl (by kernel_rfl) [] ?_; simp only [go_sem, Nat.reduceBEq])
  refine Br.intro (fun hb => ?_) (fun hb => ?_) <;> (try simp only [hb, go_sem, Nat.reduceBEq])
  · simp at hb; exact ⟨by simp [hb], rfl⟩
  · simp at hb; exact ⟨by simp; omega, rfl⟩
theorem iIsDigit (c : UInt8) (h : Hp) : ACalls Tryd.prog 47 #[.int .u8 c.toNat] h (Pu (.bool (isDig c)) h) := by
  (refine enter Tryd.func47 rfl rfl (by kernel_rfl) [] ?_; simp only [go_sem, Nat.reduceBEq])
  refine Br.intro (fun h1 => ?_) (fun h1 => ?_) <;> (try simp only [h1, go_sem, Nat.reduceBEq])
  · simp at h1; exact ⟨by rw [show isDig c = decide ((c.toNat : Int) ≤ 57) by unfold isDig; apply decide_eq_decide.2; omega], rfl⟩
  · simp at h1; exact ⟨by simp [isDig]; omega, rfl⟩
theorem iMin (a b : Int) (h : Hp) : ACalls Tryd.prog 48 #[.int .i64 a, .int .i64 b] h (Pu (.int .i64 (min a b)) h) := by
  (refine enter Tryd.func48 rfl rfl (by kernel_rfl) [] ?_; simp only [go_sem, Nat.reduceBEq])
  refine Br.intro (fun h1 => ?_) (fun h1 => ?_) <;> (try simp only [h1, go_sem, Nat.reduceBEq])
  · have := of_decide_eq_true h1; exact ⟨by rw [Int.min_eq_right (by omega)], rfl⟩
  · have := of_decide_eq_false h1; exact ⟨by rw [Int.min_eq_left (by omega)], rfl⟩
theorem sMin (a b : Int) (h : Hp) : ACalls Tryd.prog 17 #[.int .i64 a, .int .i64 b] h (Pu (.int .i64 (min a b)) h) := by
  (refine enter Tryd.func17 rfl rfl (by kernel_rfl) [] ?_; simp only [go_sem, Nat.reduceBEq])
  refine Br.intro (fun h1 => ?_) (fun h1 => ?_) <;> (try simp only [h1, go_sem, Nat.reduceBEq])
  · have := of_decide_eq_true h1; exact ⟨by rw [Int.min_eq_right (by omega)], rfl⟩
  · have := of_decide_eq_false h1; exact ⟨by rw [Int.min_eq_left (by omega)], rfl⟩
theorem iMax (a b : Int) (h : Hp) : ACalls Tryd.prog 91 #[.int .i64 a, .int .i64 b] h (Pu (.int .i64 (max a b)) h) := by
  (refine enter Tryd.func91 rfl rfl (by kernel_rfl) [] ?_; simp only [go_sem, Nat.reduceBEq])
  refine Br.intro (fun h1 => ?_) (fun h1 => ?_) <;> (try simp only [h1, go_sem, Nat.reduceBEq])
  · have := of_decide_eq_true h1; exact ⟨by rw [Int.max_eq_right (by omega)], rfl⟩
  · have := of_decide_eq_false h1; exact ⟨by rw [Int.max_eq_left (by omega)], rfl⟩
theorem sMax (a b : Int) (h : Hp) : ACalls Tryd.prog 16 #[.int .i64 a, .int .i64 b] h (Pu (.int .i64 (max a b)) h) := by
  (refine enter Tryd.func16 rfl rfl (by kernel_rfl) [] ?_; simp only [go_sem, Nat.reduceBEq])
  refine Br.intro (fun h1 => ?_) (fun h1 => ?_) <;> (try simp only [h1, go_sem, Nat.reduceBEq])
  · have := of_decide_eq_true h1; exact ⟨by rw [Int.max_eq_right (by omega)], rfl⟩
  · have := of_decide_eq_false h1; exact ⟨by rw [Int.max_eq_left (by omega)], rfl⟩
end Go.Proofs.YtconhonjkfpfmaaDoor
