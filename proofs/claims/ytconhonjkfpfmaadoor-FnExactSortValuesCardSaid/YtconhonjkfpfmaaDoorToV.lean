/-
  What ToBool, ToInt, ToNumber of the program and of the reference return; each text has at most 2^60 bytes.
-/
import Derived.Test.YtconhonjkfpfmaaDoorConv
namespace Go.Proofs.YtconhonjkfpfmaaDoor
set_option maxRecDepth 8000
open Go Go.Sx
def toBool (v : V) : Bool :=
  if v.kind = 0 then false else if v.kind = 1 then decide (v.num ≠ 0) else if v.kind = 2 then decide (v.num ≠ 0) else if v.kind = 3 then (decide (v.str ≠ ⟨#[]⟩) && decide (v.str ≠ ⟨#[48]⟩))
  else if v.kind = 4 then decide (0 < v.items.length) else true
def toInt (v : V) : Int := if v.kind = 2 then v.num else if v.kind = 3 then lead v.str else if toBool v then 1 else 0
def toNum (v : V) : Int × Int := if 0 ≤ v.kind ∧ v.kind ≤ 2 then (toInt v, 0) else if v.kind = 3 ∧ isNumer v.str then (lead v.str, 0) else (0, 2)
theorem gt_nat (n : Nat) : decide ((0 : Int) < (n : Int)) = decide (0 < n) := decide_eq_decide.2 (by omega)
theorem iToBool (v : V) (sl : Value) (h : Hp) (rd : RdE h v.items sl) : ACalls Tryd.prog 24 #[.agg #[.int .i64 v.kind, .int .i64 v.num, .string v.str, .int .i64 v.next, sl]] h (Pu (.bool (toBool v)) h) := by
  obtain ⟨a, c, xs, rfl, hc, hr, hat⟩ := rd.rows (by decide) v.items.length (fm_len edt_len _)
  (refine enter Tryd.func24 rfl rfl (by kernel_rfl) [] ?_; simp only [go_sem, Nat.reduceBEq])
  refine Br.intro (fun h0 => ?_) (fun h0 => ?_) <;> (try simp only [h0, go_sem, Nat.reduceBEq])
  · exact ⟨by rw [toBool, if_pos (of_decide_eq_true h0)], rfl⟩
  have h0 := of_decide_eq_false h0
  refine Br.intro (fun h1 => ?_) (fun h1 => ?_) <;> (try simp only [h1, go_sem, Nat.reduceBEq])
  · have h1 := of_decide_eq_true h1
    exact ⟨by rw [toBool, if_neg h0, if_pos h1]; simp, rfl⟩
  have h1 := of_decide_eq_false h1
  refine Br.intro (fun h2 => ?_) (fun h2 => ?_) <;> (try simp only [h2, go_sem, Nat.reduceBEq])
  · have h2 := of_decide_eq_true h2
    exact ⟨by rw [toBool, if_neg h0, if_neg h1, if_pos h2]; simp, rfl⟩
  have h2 := of_decide_eq_false h2
  refine Br.intro (fun h3 => ?_) (fun h3 => ?_) <;> (try simp only [h3, go_sem, Nat.reduceBEq])
  · have h3 := of_decide_eq_true h3
    have e : toBool v = (decide (v.str ≠ ⟨#[]⟩) && decide (v.str ≠ ⟨#[48]⟩)) := by rw [toBool, if_neg h0, if_neg h1, if_neg h2, if_pos h3]
    rw [e]
    refine Br.intro (fun h4 => ?_) (fun h4 => ?_) <;> (try simp only [h4, go_sem, Nat.reduceBEq])
    · exact ⟨by simp only [Bool.not_eq_true', decide_eq_false_iff_not] at h4; simp [h4], rfl⟩
    · exact ⟨by simp only [Bool.not_eq_false', decide_eq_true_eq] at h4; simp [h4], rfl⟩
  have h3 := of_decide_eq_false h3
  refine Br.intro (fun h4 => ?_) (fun h4 => ?_) <;> (try simp only [h4, go_sem, Nat.reduceBEq])
  · have h4 := of_decide_eq_true h4
    exact ⟨by rw [toBool, if_neg h0, if_neg h1, if_neg h2, if_neg h3, if_pos h4, gt_nat], rfl⟩
  have h4 := of_decide_eq_false h4
  exact ⟨by rw [toBool, if_neg h0, if_neg h1, if_neg h2, if_neg h3, if_neg h4], rfl⟩
theorem iToInt (v : V) (hs : v.str.size ≤ 1152921504606846976) (sl : Value) (h : Hp) (rd : RdE h v.items sl) : ACalls Tryd.prog 52 #[.agg #[.int .i64 v.kind, .int .i64 v.num, .string v.str, .int .i64 v.next, sl]] h (Pu (.int .i64 (toInt v)) h) := by
  (refine enter Tryd.func52 rfl rfl (by kernel_rfl) [] ?_; simp only [go_sem, Nat.reduceBEq])
  refine Br.intro (fun h2 => ?_) (fun h2 => ?_) <;> (try simp only [h2, go_sem, Nat.reduceBEq])
  · exact ⟨by rw [toInt, if_pos (of_decide_eq_true h2)], rfl⟩
  have h2 := of_decide_eq_false h2
  refine Br.intro (fun h3 => ?_) (fun h3 => ?_) <;> (try simp only [h3, go_sem, Nat.reduceBEq, Nat.reduceAdd, Nat.reduceLeDiff])
  · have h3 := of_decide_eq_true h3
    (refine (iLeadingInt v.str hs _).mono ?_; rintro _ _ ⟨rfl, rfl⟩; simp only [go_sem, Nat.reduceBEq])
    exact ⟨by rw [toInt, if_neg h2, if_pos h3], rfl⟩
  have h3 := of_decide_eq_false h3
  (refine (iToBool v sl _ rd).mono ?_; rintro _ _ ⟨rfl, rfl⟩; simp only [go_sem, Nat.reduceBEq])
  refine Br.intro (fun hb => ?_) (fun hb => ?_) <;> (try simp only [hb, go_sem, Nat.reduceBEq])
  · exact ⟨by rw [toInt, if_neg h2, if_neg h3, if_pos hb], rfl⟩
  · exact ⟨by rw [toInt, if_neg h2, if_neg h3, if_neg (by simp [hb])], rfl⟩
theorem sToBool (v : V) (sl : Value) (h : Hp) (rd : RdE h v.items sl) : ACalls Tryd.prog 117 #[.agg #[.int .i64 v.kind, .int .i64 v.num, .string v.str, .int .i64 v.next, sl]] h (Pu (.bool (toBool v)) h) := by
  obtain ⟨a, c, xs, rfl, hc, hr, hat⟩ := rd.rows (by decide) v.items.length (fm_len edt_len _)
  (refine enter Tryd.func117 rfl rfl (by kernel_rfl) [] ?_; simp only [go_sem, Nat.reduceBEq])
  refine Br.intro (fun h0 => ?_) (fun h0 => ?_) <;> (try simp only [h0, go_sem, Nat.reduceBEq])
  · exact ⟨by rw [toBool, if_pos (of_decide_eq_true h0)], rfl⟩
  have h0 := of_decide_eq_false h0
  refine Br.intro (fun h1 => ?_) (fun h1 => ?_) <;> (try simp only [h1, go_sem, Nat.reduceBEq])
  · have h1 := of_decide_eq_true h1
    exact ⟨by rw [toBool, if_neg h0, if_pos h1]; simp, rfl⟩
  have h1 := of_decide_eq_false h1
  refine Br.intro (fun h2 => ?_) (fun h2 => ?_) <;> (try simp only [h2, go_sem, Nat.reduceBEq])
  · have h2 := of_decide_eq_true h2
    exact ⟨by rw [toBool, if_neg h0, if_neg h1, if_pos h2]; simp, rfl⟩
  have h2 := of_decide_eq_false h2
  refine Br.intro (fun h3 => ?_) (fun h3 => ?_) <;> (try simp only [h3, go_sem, Nat.reduceBEq])
  · have h3 := of_decide_eq_true h3
    have e : toBool v = (decide (v.str ≠ ⟨#[]⟩) && decide (v.str ≠ ⟨#[48]⟩)) := by rw [toBool, if_neg h0, if_neg h1, if_neg h2, if_pos h3]
    rw [e]
    refine Br.intro (fun h4 => ?_) (fun h4 => ?_) <;> (try simp only [h4, go_sem, Nat.reduceBEq])
    · exact ⟨by simp only [Bool.not_eq_true', decide_eq_false_iff_not] at h4; simp [h4], rfl⟩
    · exact ⟨by simp only [Bool.not_eq_false', decide_eq_true_eq] at h4; simp [h4], rfl⟩
  have h3 := of_decide_eq_false h3
  refine Br.intro (fun h4 => ?_) (fun h4 => ?_) <;> (try simp only [h4, go_sem, Nat.reduceBEq])
  · have h4 := of_decide_eq_true h4
    exact ⟨by rw [toBool, if_neg h0, if_neg h1, if_neg h2, if_neg h3, if_pos h4, gt_nat], rfl⟩
  have h4 := of_decide_eq_false h4
  exact ⟨by rw [toBool, if_neg h0, if_neg h1, if_neg h2, if_neg h3, if_neg h4], rfl⟩
theorem sToInt (v : V) (hs : v.str.size ≤ 1152921504606846976) (sl : Value) (h : Hp) (rd : RdE h v.items sl) : ACalls Tryd.prog 114 #[.agg #[.int .i64 v.kind, .int .i64 v.num, .string v.str, .int .i64 v.next, sl]] h (Pu (.int .i64 (toInt v)) h) := by
  (refine enter Tryd.func114 rfl rfl (by kernel_rfl) [] ?_; simp only [go_sem, Nat.reduceBEq])
  refine Br.intro (fun h2 => ?_) (fun h2 => ?_) <;> (try simp only [h2, go_sem, Nat.reduceBEq])
  · exact ⟨by rw [toInt, if_pos (of_decide_eq_true h2)], rfl⟩
  have h2 := of_decide_eq_false h2
  refine Br.intro (fun h3 => ?_) (fun h3 => ?_) <;> (try simp only [h3, go_sem, Nat.reduceBEq, Nat.reduceAdd, Nat.reduceLeDiff])
  · have h3 := of_decide_eq_true h3
    (refine (sLeadingInt v.str hs _).mono ?_; rintro _ _ ⟨rfl, rfl⟩; simp only [go_sem, Nat.reduceBEq])
    exact ⟨by rw [toInt, if_neg h2, if_pos h3], rfl⟩
  have h3 := of_decide_eq_false h3
  (refine (sToBool v sl _ rd).mono ?_; rintro _ _ ⟨rfl, rfl⟩; simp only [go_sem, Nat.reduceBEq])
  refine Br.intro (fun hb => ?_) (fun hb => ?_) <;> (try simp only [hb, go_sem, Nat.reduceBEq])
  · exact ⟨by rw [toInt, if_neg h2, if_neg h3, if_pos hb], rfl⟩
  · exact ⟨by rw [toInt, if_neg h2, if_neg h3, if_neg (by simp [hb])], rfl⟩
theorem iToNumber (v : V) (hs : v.str.size ≤ 1152921504606846976) (sl : Value) (h : Hp) (rd : RdE h v.items sl) : ACalls Tryd.prog 22 #[.agg #[.int .i64 v.kind, .int .i64 v.num, .string v.str, .int .i64 v.next, sl]] h (Pu (.tuple #[.int .i64 (toNum v).1, .int .i64 (toNum v).2]) h) := by
  (refine enter Tryd.func22 rfl rfl (by kernel_rfl) [] ?_; simp only [go_sem, Nat.reduceBEq])
  refine Br.intro (fun h0 => ?_) (fun h0 => ?_) <;> (try simp only [h0, go_sem, Nat.reduceBEq, Nat.reduceAdd, Nat.reduceLeDiff])
  · have h0 := of_decide_eq_true h0
    (refine (iToInt v hs sl _ rd).mono ?_; rintro _ _ ⟨rfl, rfl⟩; simp only [go_sem, Nat.reduceBEq])
    exact ⟨by rw [toNum, if_pos (by omega)], rfl⟩
  have h0 := of_decide_eq_false h0
  refine Br.intro (fun h1 => ?_) (fun h1 => ?_) <;> (try simp only [h1, go_sem, Nat.reduceBEq, Nat.reduceAdd, Nat.reduceLeDiff])
  · have h1 := of_decide_eq_true h1
    (refine (iToInt v hs sl _ rd).mono ?_; rintro _ _ ⟨rfl, rfl⟩; simp only [go_sem, Nat.reduceBEq])
    exact ⟨by rw [toNum, if_pos (by omega)], rfl⟩
  have h1 := of_decide_eq_false h1
  refine Br.intro (fun h2 => ?_) (fun h2 => ?_) <;> (try simp only [h2, go_sem, Nat.reduceBEq, Nat.reduceAdd, Nat.reduceLeDiff])
  · have h2 := of_decide_eq_true h2
    (refine (iToInt v hs sl _ rd).mono ?_; rintro _ _ ⟨rfl, rfl⟩; simp only [go_sem, Nat.reduceBEq])
    exact ⟨by rw [toNum, if_pos (by omega)], rfl⟩
  have h2 := of_decide_eq_false h2
  have hn : ¬ (0 ≤ v.kind ∧ v.kind ≤ 2) := by omega
  refine Br.intro (fun h3 => ?_) (fun h3 => ?_) <;> (try simp only [h3, go_sem, Nat.reduceBEq])
  · have h3 := of_decide_eq_true h3
    (refine (iIsNumeric v.str hs _).mono ?_; rintro _ _ ⟨rfl, rfl⟩; simp only [go_sem, Nat.reduceBEq])
    refine Br.intro (fun hb => ?_) (fun hb => ?_) <;> (try simp only [hb, go_sem, Nat.reduceBEq])
    · (refine (iLeadingInt v.str hs _).mono ?_; rintro _ _ ⟨rfl, rfl⟩; simp only [go_sem, Nat.reduceBEq])
      exact ⟨by rw [toNum, if_neg hn, if_pos ⟨h3, hb⟩], rfl⟩
    · exact ⟨by rw [toNum, if_neg hn, if_neg (by simp [hb])], rfl⟩
  · have h3 := of_decide_eq_false h3
    exact ⟨by rw [toNum, if_neg hn, if_neg (fun e => h3 e.1)], rfl⟩
theorem sToNumber (v : V) (hs : v.str.size ≤ 1152921504606846976) (sl : Value) (h : Hp) (rd : RdE h v.items sl) : ACalls Tryd.prog 94 #[.agg #[.int .i64 v.kind, .int .i64 v.num, .string v.str, .int .i64 v.next, sl]] h (Pu (.tuple #[.int .i64 (toNum v).1, .int .i64 (toNum v).2]) h) := by
  (refine enter Tryd.func94 rfl rfl (by kernel_rfl) [] ?_; simp only [go_sem, Nat.reduceBEq])
  (refine (l1In_c _ _ _ _).mono ?_; rintro _ _ ⟨rfl, rfl⟩; simp only [go_sem, Nat.reduceBEq])
  refine Br.intro (fun h0 => ?_) (fun h0 => ?_) <;> (try simp only [h0, go_sem, Nat.reduceBEq, Nat.reduceAdd, Nat.reduceLeDiff])
  · have h0 := of_decide_eq_true h0
    (refine (sToInt v hs sl _ rd).mono ?_; rintro _ _ ⟨rfl, rfl⟩; simp only [go_sem, Nat.reduceBEq])
    exact ⟨by rw [toNum, if_pos h0], rfl⟩
  have hn := of_decide_eq_false h0
  refine Br.intro (fun h3 => ?_) (fun h3 => ?_) <;> (try simp only [h3, go_sem, Nat.reduceBEq])
  · have h3 := of_decide_eq_true h3
    (refine (sIsNumeric v.str hs _).mono ?_; rintro _ _ ⟨rfl, rfl⟩; simp only [go_sem, Nat.reduceBEq])
    refine Br.intro (fun hb => ?_) (fun hb => ?_) <;> (try simp only [hb, go_sem, Nat.reduceBEq])
    · (refine (sLeadingInt v.str hs _).mono ?_; rintro _ _ ⟨rfl, rfl⟩; simp only [go_sem, Nat.reduceBEq])
      exact ⟨by rw [toNum, if_neg hn, if_pos ⟨h3, hb⟩], rfl⟩
    · exact ⟨by rw [toNum, if_neg hn, if_neg (by simp [hb])], rfl⟩
  · have h3 := of_decide_eq_false h3
    exact ⟨by rw [toNum, if_neg hn, if_neg (fun e => h3 e.1)], rfl⟩
end Go.Proofs.YtconhonjkfpfmaaDoor
