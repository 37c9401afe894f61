/-
  What IsHeld of the program and of the reference returns.
-/
import Derived.Test.YtedfplodobpgfaaGreatDoorIsVal
import Derived.Test.YtedfplodobpgfaaGreatDoorSxHeld
namespace Go.Proofs.YtedfplodobpgfaaGreatDoor
set_option maxRecDepth 8000
open Go Go.Sx
theorem iIsHeld (l : List Bk) (v : V) (hl : l.length ≤ 1099511627776) (hb : v.bulk ≤ 1099511627776) (s sl : Value) (h : Hp) (r1 : RdB h l s) (r2 : RdE h v.items sl) (hE : Env h) : ACalls Tryz.prog 80 #[.agg #[s], .agg #[.int .i64 v.kind, .int .i64 v.num, .string v.str, .int .i64 v.next, sl]] h (Is (.bool (isHeld l v)) h) := by
  obtain ⟨a1, c1, xs1, rfl, hc1, hr1, hat1⟩ := r1.rows (by decide) l.length (fm_len Bk.dt_len _)
  obtain ⟨a2, c2, _, rfl, _⟩ := r2.rows (by decide) v.items.length (fm_len edt_len _)
  have hw : IntKind.i64.wrap ((l.length : Int) - 1) = (l.length : Int) - 1 := IntWalk.i64_in _ (by omega)
  (refine enter Tryz.func80 rfl rfl (by kernel_rfl) [] ?_; simp only [go_sem, Nat.reduceBEq])
  by_cases hk : v.kind = 5
  case neg =>
    simp only [decide_eq_false hk, Bool.not_false, go_sem, Nat.reduceBEq]
    by_cases h4 : v.kind = 4
    · simp only [decide_eq_true h4, Bool.not_true, go_sem, Nat.reduceBEq]
      exact ⟨by unfold isHeld; rw [if_neg hk, decide_eq_true h4]; rfl, Ext.refl _⟩
    · simp only [decide_eq_false h4, Bool.not_false, go_sem, Nat.reduceBEq, Nat.reduceAdd, Nat.reduceLeDiff]
      refine (iIsValue v hb _ _ r2 hE).mono ?_
      rintro _ h1 ⟨rfl, e1⟩
      simp only [go_sem, Nat.reduceBEq]
      exact ⟨by unfold isHeld; rw [if_neg hk, decide_eq_false h4, V.valid_wf h4]; rfl, e1⟩
  have hH : isHeld l v = hHeld l v := if_pos hk
  rw [hH]
  unfold hHeld
  simp only [decide_eq_true hk, Bool.not_true, go_sem, Nat.reduceBEq]
  by_cases h1 : v.str = ⟨#[]⟩
  case neg =>
    simp only [decide_eq_false h1, Bool.false_and, go_sem, Nat.reduceBEq]
    exact ⟨rfl, Ext.refl _⟩
  by_cases h2 : v.next = 0
  case neg =>
    simp only [decide_eq_true h1, decide_eq_false h2, Bool.true_and, Bool.false_and, go_sem, Nat.reduceBEq]
    exact ⟨rfl, Ext.refl _⟩
  by_cases h3 : v.items.length = 0
  case neg =>
    simp only [decide_eq_true h1, decide_eq_true h2, decide_eq_false h3, decide_eq_false (show ¬ ((v.items.length : Nat) : Int) = 0 by omega), Bool.true_and, Bool.false_and, go_sem, Nat.reduceBEq]
    exact ⟨rfl, Ext.refl _⟩
  simp only [decide_eq_true h1, decide_eq_true h2, decide_eq_true h3, decide_eq_true (show ((v.items.length : Nat) : Int) = 0 by omega), Bool.true_and, hw, go_sem, Nat.reduceBEq]
  (refine (iInRange _ _ _ _).mono ?_; rintro _ _ ⟨rfl, rfl⟩; simp only [go_sem, Nat.reduceBEq])
  by_cases h5 : 0 ≤ v.num ∧ v.num ≤ (l.length : Int) - 1
  case neg =>
    simp only [decide_eq_false h5, Bool.false_and, go_sem, Nat.reduceBEq]
    exact ⟨rfl, Ext.refl _⟩
  have hlt : v.num.toNat < l.length := by omega
  obtain ⟨b, off, rfl, hat'⟩ := hat1 (by omega)
  simp only [decide_eq_true h5, Bool.true_and, ix_int h5.1 hlt, go_sem, Nat.reduceBEq]
  refine hsem_bcnt tyS3 hat' hr1 (blk_at hlt) rfl ?_
  simp only [go_sem, Nat.reduceBEq]
  exact ⟨rfl, Ext.refl _⟩
theorem sHandle (v : V) (sl : Value) (h : Hp) (r2 : RdE h v.items sl) : ACalls Tryz.prog 134 #[.agg #[.int .i64 v.kind, .int .i64 v.num, .string v.str, .int .i64 v.next, sl]] h (Pu (.bool (decide (v.kind = 5) && (decide (v.str = ⟨#[]⟩) && (decide (v.next = 0) && decide (v.items.length = 0))))) h) := by
  obtain ⟨a2, c2, _, rfl, _⟩ := r2.rows (by decide) v.items.length (fm_len edt_len _)
  (refine enter Tryz.func134 rfl rfl (by kernel_rfl) [] ?_; simp only [go_sem, Nat.reduceBEq])
  by_cases hk : v.kind = 5
  case neg =>
    simp only [decide_eq_false hk, Bool.false_and, go_sem, Nat.reduceBEq]
    exact ⟨rfl, rfl⟩
  by_cases h1 : v.str = ⟨#[]⟩
  case neg =>
    simp only [decide_eq_true hk, decide_eq_false h1, Bool.true_and, Bool.false_and, go_sem, Nat.reduceBEq]
    exact ⟨rfl, rfl⟩
  by_cases h2 : v.next = 0
  case neg =>
    simp only [decide_eq_true hk, decide_eq_true h1, decide_eq_false h2, Bool.true_and, Bool.false_and, go_sem, Nat.reduceBEq]
    exact ⟨rfl, rfl⟩
  simp only [decide_eq_true hk, decide_eq_true h1, decide_eq_true h2, Bool.true_and, go_sem, Nat.reduceBEq]
  exact ⟨by rw [show decide (((v.items.length : Nat) : Int) = 0) = decide (v.items.length = 0) from decide_eq_decide.2 (by omega)], rfl⟩
theorem sIsHeld (l : List Bk) (v : V) (hl : l.length ≤ 1099511627776) (hb : v.bulk ≤ 1099511627776) (s sl : Value) (h : Hp) (r1 : RdB h l s) (r2 : RdE h v.items sl) : ACalls Tryz.prog 76 #[.agg #[s], .agg #[.int .i64 v.kind, .int .i64 v.num, .string v.str, .int .i64 v.next, sl]] h (Is (.bool (isHeld l v)) h) := by
  obtain ⟨a1, c1, xs1, rfl, hc1, hr1, hat1⟩ := r1.rows (by decide) l.length (fm_len Bk.dt_len _)
  obtain ⟨a2, c2, _, rfl, _⟩ := r2.rows (by decide) v.items.length (fm_len edt_len _)
  have hw : IntKind.i64.wrap ((l.length : Int) - 1) = (l.length : Int) - 1 := IntWalk.i64_in _ (by omega)
  (refine enter Tryz.func76 rfl rfl (by kernel_rfl) [] ?_; simp only [go_sem, Nat.reduceBEq])
  by_cases hk : v.kind = 5
  case neg =>
    simp only [decide_eq_false hk, go_sem, Nat.reduceBEq]
    by_cases h4 : v.kind = 4
    · simp only [decide_eq_true h4, Bool.not_true, go_sem, Nat.reduceBEq]
      exact ⟨by unfold isHeld; rw [if_neg hk, decide_eq_true h4]; rfl, Ext.refl _⟩
    · simp only [decide_eq_false h4, Bool.not_false, go_sem, Nat.reduceBEq, Nat.reduceAdd, Nat.reduceLeDiff]
      refine (sWell v hb _ _ r2).mono ?_
      rintro _ h1 ⟨rfl, e1⟩
      simp only [go_sem, Nat.reduceBEq]
      exact ⟨by unfold isHeld; rw [if_neg hk, decide_eq_false h4]; rfl, e1⟩
  have hH : isHeld l v = hHeld l v := if_pos hk
  rw [hH]
  unfold hHeld
  simp only [decide_eq_true hk, go_sem, Nat.reduceBEq, Nat.reduceAdd, Nat.reduceLeDiff]
  (refine (sHandle v _ _ r2).mono ?_; rintro _ _ ⟨rfl, rfl⟩; simp only [go_sem, Nat.reduceBEq])
  simp only [decide_eq_true hk, Bool.true_and, go_sem]
  by_cases h1 : v.str = ⟨#[]⟩
  case neg =>
    simp only [decide_eq_false h1, Bool.false_and, go_sem, Nat.reduceBEq]
    exact ⟨rfl, Ext.refl _⟩
  by_cases h2 : v.next = 0
  case neg =>
    simp only [decide_eq_true h1, decide_eq_false h2, Bool.true_and, Bool.false_and, go_sem, Nat.reduceBEq]
    exact ⟨rfl, Ext.refl _⟩
  by_cases h3 : v.items.length = 0
  case neg =>
    simp only [decide_eq_true h1, decide_eq_true h2, decide_eq_false h3, Bool.true_and, Bool.false_and, go_sem, Nat.reduceBEq]
    exact ⟨rfl, Ext.refl _⟩
  simp only [decide_eq_true h1, decide_eq_true h2, decide_eq_true h3, Bool.true_and, hw, go_sem, Nat.reduceBEq]
  (refine (l1In_c _ _ _ _).mono ?_; rintro _ _ ⟨rfl, rfl⟩; simp only [go_sem, Nat.reduceBEq])
  by_cases h5 : 0 ≤ v.num ∧ v.num ≤ (l.length : Int) - 1
  case neg =>
    simp only [decide_eq_false h5, Bool.false_and, go_sem, Nat.reduceBEq]
    exact ⟨rfl, Ext.refl _⟩
  have hlt : v.num.toNat < l.length := by omega
  obtain ⟨b, off, rfl, hat'⟩ := hat1 (by omega)
  simp only [decide_eq_true h5, Bool.true_and, ix_int h5.1 hlt, go_sem, Nat.reduceBEq]
  refine hsem_bcnt tyS3 hat' hr1 (blk_at hlt) rfl ?_
  simp only [go_sem, Nat.reduceBEq]
  exact ⟨rfl, Ext.refl _⟩
end Go.Proofs.YtedfplodobpgfaaGreatDoor
