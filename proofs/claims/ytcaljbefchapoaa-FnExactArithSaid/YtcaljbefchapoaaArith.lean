/-
  What spec.Arith and impl.Arith return; nothing is assumed.
-/
import Derived.Test.YtcaljbefchapoaaNum
namespace Go.Proofs.Ytcaljbefchapoaa
open Go Go.Sx
def inR (n : Int) : Prop := -1000000000 ≤ n ∧ n ≤ 1000000000
instance (n : Int) : Decidable (inR n) := inferInstanceAs (Decidable (_ ∧ _))
def clamp (n : Int) : Int × Int := if inR n then (n, 0) else (0, 3)
/-- The arithmetic: a number and an error's number. -/
def arith (op a b : Int) : Int × Int :=
  if ¬ (1 ≤ op ∧ op ≤ 5) then (0, 2) else if ¬ inR a ∨ ¬ inR b then (0, 3) else if b = 0 ∧ (op = 4 ∨ op = 5) then (0, 4) else
    if op = 1 then clamp (a + b) else if op = 2 then clamp (a - b) else if op = 3 then clamp (a * b) else if op = 4 then clamp (a.tdiv b) else clamp (a.tmod b)
theorem mul_in {a b : Int} (ha : inR a) (hb : inR b) : IntKind.i64.wrap (a * b) = a * b := by
  refine IntWalk.i64_in _ ?_
  obtain ⟨a1, a2⟩ := ha
  obtain ⟨b1, b2⟩ := hb
  have h1 : a * b ≤ 1000000000000000000 := by
    have := Int.mul_le_mul_of_natAbs_le (x := a) (y := b) (s := 1000000000) (t := 1000000000) (by omega) (by omega)
    omega
  have h2 : -1000000000000000000 ≤ a * b := by
    have := Int.mul_le_mul_of_natAbs_le (x := -a) (y := b) (s := 1000000000) (t := 1000000000) (by omega) (by omega)
    rw [Int.neg_mul] at this
    omega
  omega
theorem div_in {a b : Int} (ha : inR a) : IntKind.i64.wrap (a.tdiv b) = a.tdiv b := by
  refine IntWalk.i64_in _ ?_
  obtain ⟨a1, a2⟩ := ha
  have h1 := Int.natAbs_tdiv_le_natAbs a b
  omega
theorem iArith (op a b : Int) (h : Hp) : ACalls Try.prog 19 #[.int .i64 op, .int .i64 a, .int .i64 b] h (Is (.tuple #[.int .i64 (arith op a b).1, .int .i64 (arith op a b).2]) h) := by
  (refine enter Try.func19 rfl rfl (by kernel_rfl) [] ?_; simp only [go_sem, Nat.reduceBEq])
  by_cases ho : 1 ≤ op ∧ op ≤ 5
  case neg =>
    have e : arith op a b = (0, 2) := by unfold arith; rw [if_pos ho]
    by_cases h1 : op < 1
    · simp only [decide_eq_true h1, go_sem, Nat.reduceBEq]
      exact ⟨by rw [e], Ext.refl _⟩
    · simp only [decide_eq_false h1, decide_eq_true (show 5 < op by omega), go_sem, Nat.reduceBEq]
      exact ⟨by rw [e], Ext.refl _⟩
  obtain rfl | rfl | rfl | rfl | rfl : op = 1 ∨ op = 2 ∨ op = 3 ∨ op = 4 ∨ op = 5 := by omega
  · try simp only [Int.reduceLT, Int.reduceNeg, go_sem, Nat.reduceBEq]
    (refine (iInRange a _ _ _).mono ?_; rintro _ _ ⟨rfl, rfl⟩; simp only [go_sem, Nat.reduceBEq])
    by_cases ha : inR a
    case neg =>
      have e : arith 1 a b = (0, 3) := by simp [arith, ha]
      simp only [show decide (-1000000000 ≤ a ∧ a ≤ 1000000000) = false from decide_eq_false ha, Bool.not_false, go_sem, Nat.reduceBEq]
      exact ⟨by rw [e], Ext.refl _⟩
    simp only [show decide (-1000000000 ≤ a ∧ a ≤ 1000000000) = true from decide_eq_true ha, Bool.not_true, go_sem, Nat.reduceBEq]
    (refine (iInRange b _ _ _).mono ?_; rintro _ _ ⟨rfl, rfl⟩; simp only [go_sem, Nat.reduceBEq])
    by_cases hb : inR b
    case neg =>
      have e : arith 1 a b = (0, 3) := by simp [arith, hb]
      simp only [show decide (-1000000000 ≤ b ∧ b ≤ 1000000000) = false from decide_eq_false hb, Bool.not_false, go_sem, Nat.reduceBEq]
      exact ⟨by rw [e], Ext.refl _⟩
    simp only [show decide (-1000000000 ≤ b ∧ b ≤ 1000000000) = true from decide_eq_true hb, Bool.not_true, go_sem, Nat.reduceBEq]
    have hw : IntKind.i64.wrap (a + b) = a + b := IntWalk.i64_in _ (by have := ha.1; have := ha.2; have := hb.1; have := hb.2; omega)
    by_cases hz : b = 0
    · simp only [decide_eq_true hz, hw, Int.reduceNeg, go_sem, Nat.reduceBEq, Int.reduceEq]
      (refine (iInRange (a + b) _ _ _).mono ?_; rintro _ _ ⟨rfl, rfl⟩; simp only [go_sem, Nat.reduceBEq])
      by_cases hn : inR (a + b)
      case neg =>
        have e : arith 1 a b = (0, 3) := by simp [arith, clamp, ha, hb, hn]
        simp only [show decide (-1000000000 ≤ a + b ∧ a + b ≤ 1000000000) = false from decide_eq_false hn, Bool.not_false, go_sem, Nat.reduceBEq]
        exact ⟨by rw [e], Ext.refl _⟩
      have e : arith 1 a b = (a + b, 0) := by simp [arith, clamp, ha, hb, hn]
      simp only [show decide (-1000000000 ≤ a + b ∧ a + b ≤ 1000000000) = true from decide_eq_true hn, Bool.not_true, go_sem, Nat.reduceBEq]
      exact ⟨by rw [e], Ext.refl _⟩
    · simp only [decide_eq_false hz, hw, Int.reduceNeg, go_sem, Nat.reduceBEq]
      (refine (iInRange (a + b) _ _ _).mono ?_; rintro _ _ ⟨rfl, rfl⟩; simp only [go_sem, Nat.reduceBEq])
      by_cases hn : inR (a + b)
      case neg =>
        have e : arith 1 a b = (0, 3) := by simp [arith, clamp, ha, hb, hn]
        simp only [show decide (-1000000000 ≤ a + b ∧ a + b ≤ 1000000000) = false from decide_eq_false hn, Bool.not_false, go_sem, Nat.reduceBEq]
        exact ⟨by rw [e], Ext.refl _⟩
      have e : arith 1 a b = (a + b, 0) := by simp [arith, clamp, ha, hb, hn]
      simp only [show decide (-1000000000 ≤ a + b ∧ a + b ≤ 1000000000) = true from decide_eq_true hn, Bool.not_true, go_sem, Nat.reduceBEq]
      exact ⟨by rw [e], Ext.refl _⟩
  · try simp only [Int.reduceLT, Int.reduceNeg, go_sem, Nat.reduceBEq]
    (refine (iInRange a _ _ _).mono ?_; rintro _ _ ⟨rfl, rfl⟩; simp only [go_sem, Nat.reduceBEq])
    by_cases ha : inR a
    case neg =>
      have e : arith 2 a b = (0, 3) := by simp [arith, ha]
      simp only [show decide (-1000000000 ≤ a ∧ a ≤ 1000000000) = false from decide_eq_false ha, Bool.not_false, go_sem, Nat.reduceBEq]
      exact ⟨by rw [e], Ext.refl _⟩
    simp only [show decide (-1000000000 ≤ a ∧ a ≤ 1000000000) = true from decide_eq_true ha, Bool.not_true, go_sem, Nat.reduceBEq]
    (refine (iInRange b _ _ _).mono ?_; rintro _ _ ⟨rfl, rfl⟩; simp only [go_sem, Nat.reduceBEq])
    by_cases hb : inR b
    case neg =>
      have e : arith 2 a b = (0, 3) := by simp [arith, hb]
      simp only [show decide (-1000000000 ≤ b ∧ b ≤ 1000000000) = false from decide_eq_false hb, Bool.not_false, go_sem, Nat.reduceBEq]
      exact ⟨by rw [e], Ext.refl _⟩
    simp only [show decide (-1000000000 ≤ b ∧ b ≤ 1000000000) = true from decide_eq_true hb, Bool.not_true, go_sem, Nat.reduceBEq]
    have hw : IntKind.i64.wrap (a - b) = a - b := IntWalk.i64_in _ (by have := ha.1; have := ha.2; have := hb.1; have := hb.2; omega)
    by_cases hz : b = 0
    · simp only [decide_eq_true hz, hw, Int.reduceNeg, go_sem, Nat.reduceBEq, Int.reduceEq]
      (refine (iInRange (a - b) _ _ _).mono ?_; rintro _ _ ⟨rfl, rfl⟩; simp only [go_sem, Nat.reduceBEq])
      by_cases hn : inR (a - b)
      case neg =>
        have e : arith 2 a b = (0, 3) := by simp [arith, clamp, ha, hb, hn]
        simp only [show decide (-1000000000 ≤ a - b ∧ a - b ≤ 1000000000) = false from decide_eq_false hn, Bool.not_false, go_sem, Nat.reduceBEq]
        exact ⟨by rw [e], Ext.refl _⟩
      have e : arith 2 a b = (a - b, 0) := by simp [arith, clamp, ha, hb, hn]
      simp only [show decide (-1000000000 ≤ a - b ∧ a - b ≤ 1000000000) = true from decide_eq_true hn, Bool.not_true, go_sem, Nat.reduceBEq]
      exact ⟨by rw [e], Ext.refl _⟩
    · simp only [decide_eq_false hz, hw, Int.reduceNeg, go_sem, Nat.reduceBEq, Int.reduceEq]
      (refine (iInRange (a - b) _ _ _).mono ?_; rintro _ _ ⟨rfl, rfl⟩; simp only [go_sem, Nat.reduceBEq])
      by_cases hn : inR (a - b)
      case neg =>
        have e : arith 2 a b = (0, 3) := by simp [arith, clamp, ha, hb, hn]
        simp only [show decide (-1000000000 ≤ a - b ∧ a - b ≤ 1000000000) = false from decide_eq_false hn, Bool.not_false, go_sem, Nat.reduceBEq]
        exact ⟨by rw [e], Ext.refl _⟩
      have e : arith 2 a b = (a - b, 0) := by simp [arith, clamp, ha, hb, hn]
      simp only [show decide (-1000000000 ≤ a - b ∧ a - b ≤ 1000000000) = true from decide_eq_true hn, Bool.not_true, go_sem, Nat.reduceBEq]
      exact ⟨by rw [e], Ext.refl _⟩
  · try simp only [Int.reduceLT, Int.reduceNeg, go_sem, Nat.reduceBEq]
    (refine (iInRange a _ _ _).mono ?_; rintro _ _ ⟨rfl, rfl⟩; simp only [go_sem, Nat.reduceBEq])
    by_cases ha : inR a
    case neg =>
      have e : arith 3 a b = (0, 3) := by simp [arith, ha]
      simp only [show decide (-1000000000 ≤ a ∧ a ≤ 1000000000) = false from decide_eq_false ha, Bool.not_false, go_sem, Nat.reduceBEq]
      exact ⟨by rw [e], Ext.refl _⟩
    simp only [show decide (-1000000000 ≤ a ∧ a ≤ 1000000000) = true from decide_eq_true ha, Bool.not_true, go_sem, Nat.reduceBEq]
    (refine (iInRange b _ _ _).mono ?_; rintro _ _ ⟨rfl, rfl⟩; simp only [go_sem, Nat.reduceBEq])
    by_cases hb : inR b
    case neg =>
      have e : arith 3 a b = (0, 3) := by simp [arith, hb]
      simp only [show decide (-1000000000 ≤ b ∧ b ≤ 1000000000) = false from decide_eq_false hb, Bool.not_false, go_sem, Nat.reduceBEq]
      exact ⟨by rw [e], Ext.refl _⟩
    simp only [show decide (-1000000000 ≤ b ∧ b ≤ 1000000000) = true from decide_eq_true hb, Bool.not_true, go_sem, Nat.reduceBEq]
    have hw : IntKind.i64.wrap (a * b) = a * b := mul_in ha hb
    by_cases hz : b = 0
    · simp only [decide_eq_true hz, hw, Int.reduceNeg, go_sem, Nat.reduceBEq, Int.reduceEq]
      (refine (iInRange (a * b) _ _ _).mono ?_; rintro _ _ ⟨rfl, rfl⟩; simp only [go_sem, Nat.reduceBEq])
      by_cases hn : inR (a * b)
      case neg =>
        have e : arith 3 a b = (0, 3) := by simp [arith, clamp, ha, hb, hn]
        simp only [show decide (-1000000000 ≤ a * b ∧ a * b ≤ 1000000000) = false from decide_eq_false hn, Bool.not_false, go_sem, Nat.reduceBEq]
        exact ⟨by rw [e], Ext.refl _⟩
      have e : arith 3 a b = (a * b, 0) := by simp [arith, clamp, ha, hb, hn]
      simp only [show decide (-1000000000 ≤ a * b ∧ a * b ≤ 1000000000) = true from decide_eq_true hn, Bool.not_true, go_sem, Nat.reduceBEq]
      exact ⟨by rw [e], Ext.refl _⟩
    · simp only [decide_eq_false hz, hw, Int.reduceNeg, go_sem, Nat.reduceBEq, Int.reduceEq]
      (refine (iInRange (a * b) _ _ _).mono ?_; rintro _ _ ⟨rfl, rfl⟩; simp only [go_sem, Nat.reduceBEq])
      by_cases hn : inR (a * b)
      case neg =>
        have e : arith 3 a b = (0, 3) := by simp [arith, clamp, ha, hb, hn]
        simp only [show decide (-1000000000 ≤ a * b ∧ a * b ≤ 1000000000) = false from decide_eq_false hn, Bool.not_false, go_sem, Nat.reduceBEq]
        exact ⟨by rw [e], Ext.refl _⟩
      have e : arith 3 a b = (a * b, 0) := by simp [arith, clamp, ha, hb, hn]
      simp only [show decide (-1000000000 ≤ a * b ∧ a * b ≤ 1000000000) = true from decide_eq_true hn, Bool.not_true, go_sem, Nat.reduceBEq]
      exact ⟨by rw [e], Ext.refl _⟩
  · try simp only [Int.reduceLT, Int.reduceNeg, go_sem, Nat.reduceBEq]
    (refine (iInRange a _ _ _).mono ?_; rintro _ _ ⟨rfl, rfl⟩; simp only [go_sem, Nat.reduceBEq])
    by_cases ha : inR a
    case neg =>
      have e : arith 4 a b = (0, 3) := by simp [arith, ha]
      simp only [show decide (-1000000000 ≤ a ∧ a ≤ 1000000000) = false from decide_eq_false ha, Bool.not_false, go_sem, Nat.reduceBEq]
      exact ⟨by rw [e], Ext.refl _⟩
    simp only [show decide (-1000000000 ≤ a ∧ a ≤ 1000000000) = true from decide_eq_true ha, Bool.not_true, go_sem, Nat.reduceBEq]
    (refine (iInRange b _ _ _).mono ?_; rintro _ _ ⟨rfl, rfl⟩; simp only [go_sem, Nat.reduceBEq])
    by_cases hb : inR b
    case neg =>
      have e : arith 4 a b = (0, 3) := by simp [arith, hb]
      simp only [show decide (-1000000000 ≤ b ∧ b ≤ 1000000000) = false from decide_eq_false hb, Bool.not_false, go_sem, Nat.reduceBEq]
      exact ⟨by rw [e], Ext.refl _⟩
    simp only [show decide (-1000000000 ≤ b ∧ b ≤ 1000000000) = true from decide_eq_true hb, Bool.not_true, go_sem, Nat.reduceBEq]
    have hw : IntKind.i64.wrap (a.tdiv b) = a.tdiv b := div_in ha
    by_cases hz : b = 0
    case pos =>
      have e : arith 4 a b = (0, 4) := by subst hz; simp [arith, ha, hb]
      try simp only [decide_eq_true hz, Int.reduceNeg, go_sem, Nat.reduceBEq]
      exact ⟨by rw [e], Ext.refl _⟩
    try simp only [decide_eq_false hz, hw, Int.reduceNeg, go_sem, Nat.reduceBEq, Int.reduceEq]
    try refine ⟨hz, ?_⟩
    try simp only [decide_eq_false hz, hw, Int.reduceLT, Int.reduceLE, Int.reduceNeg, go_sem, Nat.reduceBEq, Nat.reduceAdd, Nat.reduceLeDiff, Nat.reduceEqDiff, Int.reduceEq, not_false_eq_true, Int.reduceToNat]
    (refine (iInRange (a.tdiv b) _ _ _).mono ?_; rintro _ _ ⟨rfl, rfl⟩; simp only [go_sem, Nat.reduceBEq])
    by_cases hn : inR (a.tdiv b)
    case neg =>
      have e : arith 4 a b = (0, 3) := by simp [arith, clamp, ha, hb, hn, hz]
      simp only [show decide (-1000000000 ≤ a.tdiv b ∧ a.tdiv b ≤ 1000000000) = false from decide_eq_false hn, Bool.not_false, go_sem, Nat.reduceBEq]
      exact ⟨by rw [e], Ext.refl _⟩
    have e : arith 4 a b = (a.tdiv b, 0) := by simp [arith, clamp, ha, hb, hn, hz]
    simp only [show decide (-1000000000 ≤ a.tdiv b ∧ a.tdiv b ≤ 1000000000) = true from decide_eq_true hn, Bool.not_true, go_sem, Nat.reduceBEq]
    exact ⟨by rw [e], Ext.refl _⟩
  · try simp only [Int.reduceLT, Int.reduceNeg, go_sem, Nat.reduceBEq]
    (refine (iInRange a _ _ _).mono ?_; rintro _ _ ⟨rfl, rfl⟩; simp only [go_sem, Nat.reduceBEq])
    by_cases ha : inR a
    case neg =>
      have e : arith 5 a b = (0, 3) := by simp [arith, ha]
      simp only [show decide (-1000000000 ≤ a ∧ a ≤ 1000000000) = false from decide_eq_false ha, Bool.not_false, go_sem, Nat.reduceBEq]
      exact ⟨by rw [e], Ext.refl _⟩
    simp only [show decide (-1000000000 ≤ a ∧ a ≤ 1000000000) = true from decide_eq_true ha, Bool.not_true, go_sem, Nat.reduceBEq]
    (refine (iInRange b _ _ _).mono ?_; rintro _ _ ⟨rfl, rfl⟩; simp only [go_sem, Nat.reduceBEq])
    by_cases hb : inR b
    case neg =>
      have e : arith 5 a b = (0, 3) := by simp [arith, hb]
      simp only [show decide (-1000000000 ≤ b ∧ b ≤ 1000000000) = false from decide_eq_false hb, Bool.not_false, go_sem, Nat.reduceBEq]
      exact ⟨by rw [e], Ext.refl _⟩
    simp only [show decide (-1000000000 ≤ b ∧ b ≤ 1000000000) = true from decide_eq_true hb, Bool.not_true, go_sem, Nat.reduceBEq]
    by_cases hz : b = 0
    case pos =>
      have e : arith 5 a b = (0, 4) := by subst hz; simp [arith, ha, hb]
      try simp only [decide_eq_true hz, Int.reduceNeg, go_sem, Nat.reduceBEq, Int.reduceEq]
      exact ⟨by rw [e], Ext.refl _⟩
    try simp only [decide_eq_false hz, Int.reduceNeg, go_sem, Nat.reduceBEq, Int.reduceEq]
    try refine ⟨hz, ?_⟩
    try simp only [decide_eq_false hz, Int.reduceLT, Int.reduceLE, Int.reduceNeg, go_sem, Nat.reduceBEq, Nat.reduceAdd, Nat.reduceLeDiff, Nat.reduceEqDiff, Int.reduceEq, not_false_eq_true, Int.reduceToNat]
    (refine (iInRange (a.tmod b) _ _ _).mono ?_; rintro _ _ ⟨rfl, rfl⟩; simp only [go_sem, Nat.reduceBEq])
    by_cases hn : inR (a.tmod b)
    case neg =>
      have e : arith 5 a b = (0, 3) := by simp [arith, clamp, ha, hb, hn, hz]
      simp only [show decide (-1000000000 ≤ a.tmod b ∧ a.tmod b ≤ 1000000000) = false from decide_eq_false hn, Bool.not_false, go_sem, Nat.reduceBEq]
      exact ⟨by rw [e], Ext.refl _⟩
    have e : arith 5 a b = (a.tmod b, 0) := by simp [arith, clamp, ha, hb, hn, hz]
    simp only [show decide (-1000000000 ≤ a.tmod b ∧ a.tmod b ≤ 1000000000) = true from decide_eq_true hn, Bool.not_true, go_sem, Nat.reduceBEq]
    exact ⟨by rw [e], Ext.refl _⟩
theorem sArith (op a b : Int) (h : Hp) : ACalls Try.prog 18 #[.int .i64 op, .int .i64 a, .int .i64 b] h (Is (.tuple #[.int .i64 (arith op a b).1, .int .i64 (arith op a b).2]) h) := by
  (refine enter Try.func18 rfl rfl (by kernel_rfl) [] ?_; simp only [go_sem, Nat.reduceBEq])
  by_cases ho : 1 ≤ op ∧ op ≤ 5
  case neg =>
    have e : arith op a b = (0, 2) := by unfold arith; rw [if_pos ho]
    (refine (l1In_c op _ _ _).mono ?_; rintro _ _ ⟨rfl, rfl⟩; simp only [go_sem, Nat.reduceBEq])
    simp only [decide_eq_false ho, Bool.not_false, go_sem, Nat.reduceBEq]
    exact ⟨by rw [e], Ext.refl _⟩
  obtain rfl | rfl | rfl | rfl | rfl : op = 1 ∨ op = 2 ∨ op = 3 ∨ op = 4 ∨ op = 5 := by omega
  · try simp only [Int.reduceLT, Int.reduceLE, Int.reduceNeg, go_sem, Nat.reduceBEq, Nat.reduceAdd, Nat.reduceLeDiff, Nat.reduceEqDiff, Int.reduceEq, not_false_eq_true, Int.reduceToNat]
    (refine (l1In_c 1 _ _ _).mono ?_; rintro _ _ ⟨rfl, rfl⟩; simp only [go_sem, Nat.reduceBEq])
    try simp only [decide_eq_true (show (1 : Int) ≤ 1 ∧ (1 : Int) ≤ 5 by decide), Bool.not_true, go_sem, Nat.reduceBEq]
    (refine (l1In_c a _ _ _).mono ?_; rintro _ _ ⟨rfl, rfl⟩; simp only [go_sem, Nat.reduceBEq])
    by_cases ha : inR a
    case neg =>
      have e : arith 1 a b = (0, 3) := by simp [arith, ha]
      simp only [show decide (-1000000000 ≤ a ∧ a ≤ 1000000000) = false from decide_eq_false ha, Bool.not_false, go_sem, Nat.reduceBEq]
      exact ⟨by rw [e], Ext.refl _⟩
    simp only [show decide (-1000000000 ≤ a ∧ a ≤ 1000000000) = true from decide_eq_true ha, Bool.not_true, go_sem, Nat.reduceBEq]
    (refine (l1In_c b _ _ _).mono ?_; rintro _ _ ⟨rfl, rfl⟩; simp only [go_sem, Nat.reduceBEq])
    by_cases hb : inR b
    case neg =>
      have e : arith 1 a b = (0, 3) := by simp [arith, hb]
      simp only [show decide (-1000000000 ≤ b ∧ b ≤ 1000000000) = false from decide_eq_false hb, Bool.not_false, go_sem, Nat.reduceBEq]
      exact ⟨by rw [e], Ext.refl _⟩
    simp only [show decide (-1000000000 ≤ b ∧ b ≤ 1000000000) = true from decide_eq_true hb, Bool.not_true, go_sem, Nat.reduceBEq]
    have hw : IntKind.i64.wrap (a + b) = a + b := IntWalk.i64_in _ (by have := ha.1; have := ha.2; have := hb.1; have := hb.2; omega)
    by_cases hz : b = 0
    · simp only [hw, Int.reduceLE, Int.reduceNeg, go_sem, Nat.reduceBEq]
      (refine (l1In_c (a + b) _ _ _).mono ?_; rintro _ _ ⟨rfl, rfl⟩; simp only [go_sem, Nat.reduceBEq])
      by_cases hn : inR (a + b)
      case neg =>
        have e : arith 1 a b = (0, 3) := by simp [arith, clamp, ha, hb, hn]
        simp only [show decide (-1000000000 ≤ a + b ∧ a + b ≤ 1000000000) = false from decide_eq_false hn, Bool.not_false, go_sem, Nat.reduceBEq]
        exact ⟨by rw [e], Ext.refl _⟩
      have e : arith 1 a b = (a + b, 0) := by simp [arith, clamp, ha, hb, hn]
      simp only [show decide (-1000000000 ≤ a + b ∧ a + b ≤ 1000000000) = true from decide_eq_true hn, Bool.not_true, go_sem, Nat.reduceBEq]
      exact ⟨by rw [e], Ext.refl _⟩
    · simp only [hw, Int.reduceLE, Int.reduceNeg, go_sem, Nat.reduceBEq]
      (refine (l1In_c (a + b) _ _ _).mono ?_; rintro _ _ ⟨rfl, rfl⟩; simp only [go_sem, Nat.reduceBEq])
      by_cases hn : inR (a + b)
      case neg =>
        have e : arith 1 a b = (0, 3) := by simp [arith, clamp, ha, hb, hn]
        simp only [show decide (-1000000000 ≤ a + b ∧ a + b ≤ 1000000000) = false from decide_eq_false hn, Bool.not_false, go_sem, Nat.reduceBEq]
        exact ⟨by rw [e], Ext.refl _⟩
      have e : arith 1 a b = (a + b, 0) := by simp [arith, clamp, ha, hb, hn]
      simp only [show decide (-1000000000 ≤ a + b ∧ a + b ≤ 1000000000) = true from decide_eq_true hn, Bool.not_true, go_sem, Nat.reduceBEq]
      exact ⟨by rw [e], Ext.refl _⟩
  · try simp only [Int.reduceLT, Int.reduceLE, Int.reduceNeg, go_sem, Nat.reduceBEq, Nat.reduceAdd, Nat.reduceLeDiff, Nat.reduceEqDiff, Int.reduceEq, not_false_eq_true, Int.reduceToNat]
    (refine (l1In_c 2 _ _ _).mono ?_; rintro _ _ ⟨rfl, rfl⟩; simp only [go_sem, Nat.reduceBEq])
    try simp only [decide_eq_true (show (1 : Int) ≤ 2 ∧ (2 : Int) ≤ 5 by decide), Bool.not_true, go_sem, Nat.reduceBEq]
    (refine (l1In_c a _ _ _).mono ?_; rintro _ _ ⟨rfl, rfl⟩; simp only [go_sem, Nat.reduceBEq])
    by_cases ha : inR a
    case neg =>
      have e : arith 2 a b = (0, 3) := by simp [arith, ha]
      simp only [show decide (-1000000000 ≤ a ∧ a ≤ 1000000000) = false from decide_eq_false ha, Bool.not_false, go_sem, Nat.reduceBEq]
      exact ⟨by rw [e], Ext.refl _⟩
    simp only [show decide (-1000000000 ≤ a ∧ a ≤ 1000000000) = true from decide_eq_true ha, Bool.not_true, go_sem, Nat.reduceBEq]
    (refine (l1In_c b _ _ _).mono ?_; rintro _ _ ⟨rfl, rfl⟩; simp only [go_sem, Nat.reduceBEq])
    by_cases hb : inR b
    case neg =>
      have e : arith 2 a b = (0, 3) := by simp [arith, hb]
      simp only [show decide (-1000000000 ≤ b ∧ b ≤ 1000000000) = false from decide_eq_false hb, Bool.not_false, go_sem, Nat.reduceBEq]
      exact ⟨by rw [e], Ext.refl _⟩
    simp only [show decide (-1000000000 ≤ b ∧ b ≤ 1000000000) = true from decide_eq_true hb, Bool.not_true, go_sem, Nat.reduceBEq]
    have hw : IntKind.i64.wrap (a - b) = a - b := IntWalk.i64_in _ (by have := ha.1; have := ha.2; have := hb.1; have := hb.2; omega)
    by_cases hz : b = 0
    · simp only [hw, Int.reduceLE, Int.reduceNeg, go_sem, Nat.reduceBEq, Int.reduceEq]
      (refine (l1In_c (a - b) _ _ _).mono ?_; rintro _ _ ⟨rfl, rfl⟩; simp only [go_sem, Nat.reduceBEq])
      by_cases hn : inR (a - b)
      case neg =>
        have e : arith 2 a b = (0, 3) := by simp [arith, clamp, ha, hb, hn]
        simp only [show decide (-1000000000 ≤ a - b ∧ a - b ≤ 1000000000) = false from decide_eq_false hn, Bool.not_false, go_sem, Nat.reduceBEq]
        exact ⟨by rw [e], Ext.refl _⟩
      have e : arith 2 a b = (a - b, 0) := by simp [arith, clamp, ha, hb, hn]
      simp only [show decide (-1000000000 ≤ a - b ∧ a - b ≤ 1000000000) = true from decide_eq_true hn, Bool.not_true, go_sem, Nat.reduceBEq]
      exact ⟨by rw [e], Ext.refl _⟩
    · simp only [hw, Int.reduceLE, Int.reduceNeg, go_sem, Nat.reduceBEq, Int.reduceEq]
      (refine (l1In_c (a - b) _ _ _).mono ?_; rintro _ _ ⟨rfl, rfl⟩; simp only [go_sem, Nat.reduceBEq])
      by_cases hn : inR (a - b)
      case neg =>
        have e : arith 2 a b = (0, 3) := by simp [arith, clamp, ha, hb, hn]
        simp only [show decide (-1000000000 ≤ a - b ∧ a - b ≤ 1000000000) = false from decide_eq_false hn, Bool.not_false, go_sem, Nat.reduceBEq]
        exact ⟨by rw [e], Ext.refl _⟩
      have e : arith 2 a b = (a - b, 0) := by simp [arith, clamp, ha, hb, hn]
      simp only [show decide (-1000000000 ≤ a - b ∧ a - b ≤ 1000000000) = true from decide_eq_true hn, Bool.not_true, go_sem, Nat.reduceBEq]
      exact ⟨by rw [e], Ext.refl _⟩
  · try simp only [Int.reduceLT, Int.reduceLE, Int.reduceNeg, go_sem, Nat.reduceBEq, Nat.reduceAdd, Nat.reduceLeDiff, Nat.reduceEqDiff, Int.reduceEq, not_false_eq_true, Int.reduceToNat]
    (refine (l1In_c 3 _ _ _).mono ?_; rintro _ _ ⟨rfl, rfl⟩; simp only [go_sem, Nat.reduceBEq])
    try simp only [decide_eq_true (show (1 : Int) ≤ 3 ∧ (3 : Int) ≤ 5 by decide), Bool.not_true, go_sem, Nat.reduceBEq]
    (refine (l1In_c a _ _ _).mono ?_; rintro _ _ ⟨rfl, rfl⟩; simp only [go_sem, Nat.reduceBEq])
    by_cases ha : inR a
    case neg =>
      have e : arith 3 a b = (0, 3) := by simp [arith, ha]
      simp only [show decide (-1000000000 ≤ a ∧ a ≤ 1000000000) = false from decide_eq_false ha, Bool.not_false, go_sem, Nat.reduceBEq]
      exact ⟨by rw [e], Ext.refl _⟩
    simp only [show decide (-1000000000 ≤ a ∧ a ≤ 1000000000) = true from decide_eq_true ha, Bool.not_true, go_sem, Nat.reduceBEq]
    (refine (l1In_c b _ _ _).mono ?_; rintro _ _ ⟨rfl, rfl⟩; simp only [go_sem, Nat.reduceBEq])
    by_cases hb : inR b
    case neg =>
      have e : arith 3 a b = (0, 3) := by simp [arith, hb]
      simp only [show decide (-1000000000 ≤ b ∧ b ≤ 1000000000) = false from decide_eq_false hb, Bool.not_false, go_sem, Nat.reduceBEq]
      exact ⟨by rw [e], Ext.refl _⟩
    simp only [show decide (-1000000000 ≤ b ∧ b ≤ 1000000000) = true from decide_eq_true hb, Bool.not_true, go_sem, Nat.reduceBEq]
    have hw : IntKind.i64.wrap (a * b) = a * b := mul_in ha hb
    by_cases hz : b = 0
    · simp only [hw, Int.reduceLE, Int.reduceNeg, go_sem, Nat.reduceBEq, Int.reduceEq]
      (refine (l1In_c (a * b) _ _ _).mono ?_; rintro _ _ ⟨rfl, rfl⟩; simp only [go_sem, Nat.reduceBEq])
      by_cases hn : inR (a * b)
      case neg =>
        have e : arith 3 a b = (0, 3) := by simp [arith, clamp, ha, hb, hn]
        simp only [show decide (-1000000000 ≤ a * b ∧ a * b ≤ 1000000000) = false from decide_eq_false hn, Bool.not_false, go_sem, Nat.reduceBEq]
        exact ⟨by rw [e], Ext.refl _⟩
      have e : arith 3 a b = (a * b, 0) := by simp [arith, clamp, ha, hb, hn]
      simp only [show decide (-1000000000 ≤ a * b ∧ a * b ≤ 1000000000) = true from decide_eq_true hn, Bool.not_true, go_sem, Nat.reduceBEq]
      exact ⟨by rw [e], Ext.refl _⟩
    · simp only [hw, Int.reduceLE, Int.reduceNeg, go_sem, Nat.reduceBEq, Int.reduceEq]
      (refine (l1In_c (a * b) _ _ _).mono ?_; rintro _ _ ⟨rfl, rfl⟩; simp only [go_sem, Nat.reduceBEq])
      by_cases hn : inR (a * b)
      case neg =>
        have e : arith 3 a b = (0, 3) := by simp [arith, clamp, ha, hb, hn]
        simp only [show decide (-1000000000 ≤ a * b ∧ a * b ≤ 1000000000) = false from decide_eq_false hn, Bool.not_false, go_sem, Nat.reduceBEq]
        exact ⟨by rw [e], Ext.refl _⟩
      have e : arith 3 a b = (a * b, 0) := by simp [arith, clamp, ha, hb, hn]
      simp only [show decide (-1000000000 ≤ a * b ∧ a * b ≤ 1000000000) = true from decide_eq_true hn, Bool.not_true, go_sem, Nat.reduceBEq]
      exact ⟨by rw [e], Ext.refl _⟩
  · try simp only [Int.reduceLT, Int.reduceLE, Int.reduceNeg, go_sem, Nat.reduceBEq, Nat.reduceAdd, Nat.reduceLeDiff, Nat.reduceEqDiff, Int.reduceEq, not_false_eq_true, Int.reduceToNat]
    (refine (l1In_c 4 _ _ _).mono ?_; rintro _ _ ⟨rfl, rfl⟩; simp only [go_sem, Nat.reduceBEq])
    try simp only [decide_eq_true (show (1 : Int) ≤ 4 ∧ (4 : Int) ≤ 5 by decide), Bool.not_true, go_sem, Nat.reduceBEq]
    (refine (l1In_c a _ _ _).mono ?_; rintro _ _ ⟨rfl, rfl⟩; simp only [go_sem, Nat.reduceBEq])
    by_cases ha : inR a
    case neg =>
      have e : arith 4 a b = (0, 3) := by simp [arith, ha]
      simp only [show decide (-1000000000 ≤ a ∧ a ≤ 1000000000) = false from decide_eq_false ha, Bool.not_false, go_sem, Nat.reduceBEq]
      exact ⟨by rw [e], Ext.refl _⟩
    simp only [show decide (-1000000000 ≤ a ∧ a ≤ 1000000000) = true from decide_eq_true ha, Bool.not_true, go_sem, Nat.reduceBEq]
    (refine (l1In_c b _ _ _).mono ?_; rintro _ _ ⟨rfl, rfl⟩; simp only [go_sem, Nat.reduceBEq])
    by_cases hb : inR b
    case neg =>
      have e : arith 4 a b = (0, 3) := by simp [arith, hb]
      simp only [show decide (-1000000000 ≤ b ∧ b ≤ 1000000000) = false from decide_eq_false hb, Bool.not_false, go_sem, Nat.reduceBEq]
      exact ⟨by rw [e], Ext.refl _⟩
    simp only [show decide (-1000000000 ≤ b ∧ b ≤ 1000000000) = true from decide_eq_true hb, Bool.not_true, go_sem, Nat.reduceBEq]
    have hw : IntKind.i64.wrap (a.tdiv b) = a.tdiv b := div_in ha
    by_cases hz : b = 0
    case pos =>
      have e : arith 4 a b = (0, 4) := by subst hz; simp [arith, ha, hb]
      try simp only [decide_eq_true hz, Int.reduceLE, Int.reduceNeg, go_sem, Nat.reduceBEq]
      exact ⟨by rw [e], Ext.refl _⟩
    try simp only [decide_eq_false hz, hw, Int.reduceLE, Int.reduceNeg, go_sem, Nat.reduceBEq, Int.reduceEq]
    try refine ⟨hz, ?_⟩
    try simp only [decide_eq_false hz, hw, Int.reduceLT, Int.reduceLE, Int.reduceNeg, go_sem, Nat.reduceBEq, Nat.reduceAdd, Nat.reduceLeDiff, Nat.reduceEqDiff, Int.reduceEq, not_false_eq_true, Int.reduceToNat]
    (refine (l1In_c (a.tdiv b) _ _ _).mono ?_; rintro _ _ ⟨rfl, rfl⟩; simp only [go_sem, Nat.reduceBEq])
    by_cases hn : inR (a.tdiv b)
    case neg =>
      have e : arith 4 a b = (0, 3) := by simp [arith, clamp, ha, hb, hn, hz]
      simp only [show decide (-1000000000 ≤ a.tdiv b ∧ a.tdiv b ≤ 1000000000) = false from decide_eq_false hn, Bool.not_false, go_sem, Nat.reduceBEq]
      exact ⟨by rw [e], Ext.refl _⟩
    have e : arith 4 a b = (a.tdiv b, 0) := by simp [arith, clamp, ha, hb, hn, hz]
    simp only [show decide (-1000000000 ≤ a.tdiv b ∧ a.tdiv b ≤ 1000000000) = true from decide_eq_true hn, Bool.not_true, go_sem, Nat.reduceBEq]
    exact ⟨by rw [e], Ext.refl _⟩
  · try simp only [Int.reduceLT, Int.reduceLE, Int.reduceNeg, go_sem, Nat.reduceBEq, Nat.reduceAdd, Nat.reduceLeDiff, Nat.reduceEqDiff, Int.reduceEq, not_false_eq_true, Int.reduceToNat]
    (refine (l1In_c 5 _ _ _).mono ?_; rintro _ _ ⟨rfl, rfl⟩; simp only [go_sem, Nat.reduceBEq])
    try simp only [decide_eq_true (show (1 : Int) ≤ 5 ∧ (5 : Int) ≤ 5 by decide), Bool.not_true, go_sem, Nat.reduceBEq]
    (refine (l1In_c a _ _ _).mono ?_; rintro _ _ ⟨rfl, rfl⟩; simp only [go_sem, Nat.reduceBEq])
    by_cases ha : inR a
    case neg =>
      have e : arith 5 a b = (0, 3) := by simp [arith, ha]
      simp only [show decide (-1000000000 ≤ a ∧ a ≤ 1000000000) = false from decide_eq_false ha, Bool.not_false, go_sem, Nat.reduceBEq]
      exact ⟨by rw [e], Ext.refl _⟩
    simp only [show decide (-1000000000 ≤ a ∧ a ≤ 1000000000) = true from decide_eq_true ha, Bool.not_true, go_sem, Nat.reduceBEq]
    (refine (l1In_c b _ _ _).mono ?_; rintro _ _ ⟨rfl, rfl⟩; simp only [go_sem, Nat.reduceBEq])
    by_cases hb : inR b
    case neg =>
      have e : arith 5 a b = (0, 3) := by simp [arith, hb]
      simp only [show decide (-1000000000 ≤ b ∧ b ≤ 1000000000) = false from decide_eq_false hb, Bool.not_false, go_sem, Nat.reduceBEq]
      exact ⟨by rw [e], Ext.refl _⟩
    simp only [show decide (-1000000000 ≤ b ∧ b ≤ 1000000000) = true from decide_eq_true hb, Bool.not_true, go_sem, Nat.reduceBEq]
    by_cases hz : b = 0
    case pos =>
      have e : arith 5 a b = (0, 4) := by subst hz; simp [arith, ha, hb]
      try simp only [decide_eq_true hz, Int.reduceLE, Int.reduceNeg, go_sem, Nat.reduceBEq]
      exact ⟨by rw [e], Ext.refl _⟩
    try simp only [decide_eq_false hz, Int.reduceLE, Int.reduceNeg, go_sem, Nat.reduceBEq, Int.reduceEq]
    try refine ⟨hz, ?_⟩
    try simp only [decide_eq_false hz, Int.reduceLT, Int.reduceLE, Int.reduceNeg, go_sem, Nat.reduceBEq, Nat.reduceAdd, Nat.reduceLeDiff, Nat.reduceEqDiff, Int.reduceEq, not_false_eq_true, Int.reduceToNat]
    (refine (l1In_c (a.tmod b) _ _ _).mono ?_; rintro _ _ ⟨rfl, rfl⟩; simp only [go_sem, Nat.reduceBEq])
    by_cases hn : inR (a.tmod b)
    case neg =>
      have e : arith 5 a b = (0, 3) := by simp [arith, clamp, ha, hb, hn, hz]
      simp only [show decide (-1000000000 ≤ a.tmod b ∧ a.tmod b ≤ 1000000000) = false from decide_eq_false hn, Bool.not_false, go_sem, Nat.reduceBEq]
      exact ⟨by rw [e], Ext.refl _⟩
    have e : arith 5 a b = (a.tmod b, 0) := by simp [arith, clamp, ha, hb, hn, hz]
    simp only [show decide (-1000000000 ≤ a.tmod b ∧ a.tmod b ≤ 1000000000) = true from decide_eq_true hn, Bool.not_true, go_sem, Nat.reduceBEq]
    exact ⟨by rw [e], Ext.refl _⟩
end Go.Proofs.Ytcaljbefchapoaa
