/-
  What IsExpr and IsBlock of the program and of the reference return.
-/
import Derived.Test.YtamjpcmcpcdggaaTreeV
namespace Go.Proofs.Ytamjpcmcpcdggaa
set_option maxRecDepth 8000
open Go Go.Sx
def isSmall (v : Nd) : Bool := decide (v.size ≤ 600) && decide (v.depth ≤ 30)
theorem iSmall (v : Nd) (hbk : v.bulk ≤ 1048576) (sl : Value) (h : Hp) (rd : RdN h v.kids sl) : ACalls Try.prog 28 #[.agg #[.int .i64 v.kind, .int .i64 v.num, .string v.text, sl]] h (Pu (.bool (isSmall v)) h) := by
  have hB := Nd.bulk_eq v
  have hL := Nd.bulks_len v.kids
  obtain ⟨a, c, xs, rfl, hc, hr, hat⟩ := rd.rows (by decide) v.kids.length (fm_len Nd.dt_len _)
  have hs6 : decide (((v.size : Nat) : Int) ≤ 600) = decide (v.size ≤ 600) := decide_eq_decide.2 (by omega)
  have hd3 : decide (((v.depth : Nat) : Int) ≤ 30) = decide (v.depth ≤ 30) := decide_eq_decide.2 (by omega)
  unfold isSmall
  (refine enter Try.func28 rfl rfl (by kernel_rfl) [] ?_; simp only [go_sem, Nat.reduceBEq, Nat.reduceAdd, Nat.reduceLeDiff])
  (refine (iNodeSize v hbk _ _ rd).mono ?_; rintro _ _ ⟨rfl, rfl⟩; simp only [go_sem, Nat.reduceBEq])
  simp only [hs6, go_sem]
  by_cases c1 : v.size ≤ 600
  case neg =>
    simp only [decide_eq_false c1, Bool.false_and, go_sem, Nat.reduceBEq]
    exact ⟨rfl, rfl⟩
  simp only [decide_eq_true c1, Bool.true_and, go_sem, Nat.reduceBEq, Nat.reduceAdd, Nat.reduceLeDiff]
  try simp only [go_sem, Nat.reduceBEq, Nat.reduceAdd, Nat.reduceLeDiff, Nat.reduceEqDiff, Int.reduceEq, not_false_eq_true, Int.reduceToNat]
  (refine (iNodeDepth v hbk _ _ rd).mono ?_; rintro _ _ ⟨rfl, rfl⟩; simp only [go_sem, Nat.reduceBEq])
  try simp only [hd3, go_sem]
  exact ⟨rfl, rfl⟩
def lf (n : Nat) (left r : Int) : Prop := ((n : Int) ≤ left → r = left - n) ∧ (¬ (n : Int) ≤ left → r < 0 ∧ -1 ≤ r)
def LeftS (v : Nd) : Prop := v.bulk ≤ 1048576 → ∀ (left : Int), 0 ≤ left → left ≤ 600 → ∀ (sl : Value) (h : Hp), RdN h v.kids sl → ACalls Try.prog 44 #[.agg #[.int .i64 v.kind, .int .i64 v.num, .string v.text, sl], .int .i64 left] h (fun u h' => h = h' ∧ ∃ r : Int, u = .int .i64 r ∧ lf v.size left r)
theorem sLeft : ∀ v, LeftS v := Nd.ind fun v ih hbk left hl0 hl6 sl h rd => by
  have hB := Nd.bulk_eq v
  have hL := Nd.bulks_len v.kids
  obtain ⟨a, c, xs, rfl, hc, hr, hat⟩ := rd.rows (by decide) v.kids.length (fm_len Nd.dt_len _)
  have hw : IntKind.i64.wrap (left - 1) = left - 1 := IntWalk.i64_in _ (by omega)
  (refine enter Try.func44 rfl rfl (by kernel_rfl) [] ?_; simp only [go_sem, Nat.reduceBEq])
  try simp only [hw, go_sem]
  refine aloop (ι := Nat × Int) (fun x => [(5, .val (.int .i64 (x.1 : Nat))), (2, .box 2 0), (1, .val (.int .i64 x.2))]) (fun _ => [(2, [.int .i64 v.kind, .int .i64 v.num, .string v.text, .slice a v.kids.length c])])
    (fun x h' => x.1 ≤ v.kids.length ∧ h' = h ∧ x.2 ≤ 600 ∧ lf (1 + gsum Nd.size (v.kids.take x.1)) left x.2) (fun x => v.kids.length - x.1) (0, left - 1) ⟨Nat.zero_le _, rfl, by show left - 1 ≤ 600; omega, by
      show lf (1 + 0) left (left - 1)
      unfold lf
      omega⟩ (by repeat (first | exact wkF_e | refine wkF_c rfl ?_)) (wkB_c rfl wkB_e) rfl ?_
  rintro ⟨i, r⟩ _ ⟨hi, rfl, hr6, hq⟩
  have hi : i ≤ v.kids.length := hi
  have hr6 : r ≤ 600 := hr6
  have hq : lf (1 + gsum Nd.size (v.kids.take i)) left r := hq
  have hsz : v.size = 1 + gsum Nd.size v.kids := by rw [Nd.size_eq, Nd.sizes_eq]
  have hsp := gsum_split Nd.size v.kids i
  have wsu := wrap_succ (i := i) (by omega)
  simp only [go_sem, Nat.reduceBEq]
  by_cases hbl : i < v.kids.length
  case neg =>
    have d1 : decide (((i : Nat) : Int) < ((v.kids.length : Nat) : Int)) = false := decide_eq_false (by omega)
    simp only [d1, go_sem, Nat.reduceBEq]
    have hbi : i = v.kids.length := by omega
    rw [hbi, List.take_length, ← hsz] at hq
    first
      | exact ⟨rfl, r, rfl, hq⟩
      | exact ⟨r, rfl, hq⟩
  have d1 : decide (((i : Nat) : Int) < ((v.kids.length : Nat) : Int)) = true := decide_eq_true (by omega)
  simp only [d1, go_sem, Nat.reduceBEq]
  by_cases hr0 : 0 ≤ r
  case neg =>
    have d2 : decide ((0 : Int) ≤ r) = false := decide_eq_false hr0
    simp only [d2, go_sem, Nat.reduceBEq]
    first
      | refine ⟨rfl, r, rfl, ?_⟩
      | refine ⟨r, rfl, ?_⟩
    unfold lf at hq ⊢
    omega
  have d2 : decide ((0 : Int) ≤ r) = true := decide_eq_true hr0
  obtain ⟨b, off, rfl, hat'⟩ := hat (by omega)
  obtain ⟨e, he, hm⟩ := get_lt hbl
  simp only [d2, ix_nat hbl, go_sem, Nat.reduceBEq]
  refine hsem_node tyS29 hat' hr he (by omega) fun s5 rd5 => ?_
  obtain ⟨a5, c5, _, rfl, _⟩ := rd5.rows (by decide) e.kids.length (fm_len Nd.dt_len _)
  try simp only [go_sem, Nat.reduceBEq]
  refine (ih e hm (kid_bulk hm (by omega)) r hr0 hr6 _ _ rd5).mono ?_
  rintro _ _ ⟨rfl, r2, rfl, hq2⟩
  try simp only [wsu, go_sem, Nat.reduceBEq]
  have hsn := gsum_snoc (w := Nd.size) he
  have hep := Nd.size_pos e
  refine Again.intro (i + 1, r2) (by first | omega | (simp only; omega)) ⟨hbl, rfl, ?_, ?_⟩ (by repeat (first | exact wkF_e | refine wkF_c rfl ?_)) (wkB_c rfl wkB_e) rfl
  · unfold lf at hq2
    show r2 ≤ 600
    omega
  · show lf (1 + gsum Nd.size (v.kids.take (i + 1))) left r2
    rw [hsn]
    unfold lf at hq hq2 ⊢
    omega
theorem sSmall (v : Nd) (hbk : v.bulk ≤ 1048576) (sl : Value) (h : Hp) (rd : RdN h v.kids sl) : ACalls Try.prog 25 #[.agg #[.int .i64 v.kind, .int .i64 v.num, .string v.text, sl]] h (Pu (.bool (isSmall v)) h) := by
  have hB := Nd.bulk_eq v
  have hL := Nd.bulks_len v.kids
  obtain ⟨a, c, xs, rfl, hc, hr, hat⟩ := rd.rows (by decide) v.kids.length (fm_len Nd.dt_len _)
  have hs6 : decide (((v.size : Nat) : Int) ≤ 600) = decide (v.size ≤ 600) := decide_eq_decide.2 (by omega)
  have hd3 : decide (((v.depth : Nat) : Int) ≤ 30) = decide (v.depth ≤ 30) := decide_eq_decide.2 (by omega)
  unfold isSmall
  (refine enter Try.func25 rfl rfl (by kernel_rfl) [] ?_; simp only [go_sem, Nat.reduceBEq, Nat.reduceAdd, Nat.reduceLeDiff])
  refine (sLeft v hbk 600 (by decide) (by decide) _ _ rd).mono ?_
  rintro _ _ ⟨rfl, r, rfl, hq⟩
  have hr0 : decide ((0 : Int) ≤ r) = decide (v.size ≤ 600) := decide_eq_decide.2 (by unfold lf at hq; omega)
  try simp only [go_sem, Nat.reduceBEq]
  try simp only [hr0, go_sem]
  by_cases c1 : v.size ≤ 600
  case neg =>
    simp only [decide_eq_false c1, Bool.false_and, go_sem, Nat.reduceBEq]
    exact ⟨rfl, rfl⟩
  simp only [decide_eq_true c1, Bool.true_and, go_sem, Nat.reduceBEq, Nat.reduceAdd, Nat.reduceLeDiff]
  try simp only [go_sem, Nat.reduceBEq, Nat.reduceAdd, Nat.reduceLeDiff, Nat.reduceEqDiff, Int.reduceEq, not_false_eq_true, Int.reduceToNat]
  (refine (sNodeDepth v hbk _ _ rd).mono ?_; rintro _ _ ⟨rfl, rfl⟩; simp only [go_sem, Nat.reduceBEq])
  try simp only [hd3, go_sem]
  exact ⟨rfl, rfl⟩
theorem iIsExpr (v : Nd) (hbk : v.bulk ≤ 1048576) (sl : Value) (h : Hp) (rd : RdN h v.kids sl) (hM : Mx h) : ACalls Try.prog 13 #[.agg #[.int .i64 v.kind, .int .i64 v.num, .string v.text, sl]] h (Is (.bool (isSmall v && xp v)) h) := by
  have hB := Nd.bulk_eq v
  have hL := Nd.bulks_len v.kids
  obtain ⟨a, c, xs, rfl, hc, hr, hat⟩ := rd.rows (by decide) v.kids.length (fm_len Nd.dt_len _)
  (refine enter Try.func13 rfl rfl (by kernel_rfl) [] ?_; simp only [go_sem, Nat.reduceBEq, Nat.reduceAdd, Nat.reduceLeDiff])
  (refine (iSmall v hbk _ _ rd).mono ?_; rintro _ _ ⟨rfl, rfl⟩; simp only [go_sem, Nat.reduceBEq])
  cases hs : isSmall v with
  | false =>
    simp only [Bool.false_and, go_sem, Nat.reduceBEq]
    exact ⟨rfl, Ext.refl _⟩
  | true =>
  simp only [Bool.true_and, go_sem, Nat.reduceBEq, Nat.reduceAdd, Nat.reduceLeDiff]
  try simp only [go_sem, Nat.reduceBEq, Nat.reduceAdd, Nat.reduceLeDiff, Nat.reduceEqDiff, Int.reduceEq, not_false_eq_true, Int.reduceToNat]
  refine ((iES v).1 hbk _ _ rd hM).mono ?_
  rintro _ h1 ⟨rfl, e1⟩
  try simp only [go_sem, Nat.reduceBEq]
  exact ⟨rfl, e1⟩
theorem sIsExpr (v : Nd) (hbk : v.bulk ≤ 1048576) (sl : Value) (h : Hp) (rd : RdN h v.kids sl) : ACalls Try.prog 12 #[.agg #[.int .i64 v.kind, .int .i64 v.num, .string v.text, sl]] h (Is (.bool (isSmall v && xp v)) h) := by
  have hB := Nd.bulk_eq v
  have hL := Nd.bulks_len v.kids
  obtain ⟨a, c, xs, rfl, hc, hr, hat⟩ := rd.rows (by decide) v.kids.length (fm_len Nd.dt_len _)
  (refine enter Try.func12 rfl rfl (by kernel_rfl) [] ?_; simp only [go_sem, Nat.reduceBEq, Nat.reduceAdd, Nat.reduceLeDiff])
  (refine (sSmall v hbk _ _ rd).mono ?_; rintro _ _ ⟨rfl, rfl⟩; simp only [go_sem, Nat.reduceBEq])
  cases hs : isSmall v with
  | false =>
    simp only [Bool.false_and, go_sem, Nat.reduceBEq]
    exact ⟨rfl, Ext.refl _⟩
  | true =>
  simp only [Bool.true_and, go_sem, Nat.reduceBEq, Nat.reduceAdd, Nat.reduceLeDiff]
  try simp only [go_sem, Nat.reduceBEq, Nat.reduceAdd, Nat.reduceLeDiff, Nat.reduceEqDiff, Int.reduceEq, not_false_eq_true, Int.reduceToNat]
  refine ((sES v).1 hbk _ _ rd).mono ?_
  rintro _ h1 ⟨rfl, e1⟩
  try simp only [go_sem, Nat.reduceBEq]
  exact ⟨rfl, e1⟩
theorem iIsBlock (v : Nd) (hbk : v.bulk ≤ 1048576) (sl : Value) (h : Hp) (rd : RdN h v.kids sl) (hM : Mx h) : ACalls Try.prog 10 #[.agg #[.int .i64 v.kind, .int .i64 v.num, .string v.text, sl]] h (Is (.bool (isSmall v && nBlk sm v)) h) := by
  have hB := Nd.bulk_eq v
  have hL := Nd.bulks_len v.kids
  obtain ⟨a, c, xs, rfl, hc, hr, hat⟩ := rd.rows (by decide) v.kids.length (fm_len Nd.dt_len _)
  (refine enter Try.func10 rfl rfl (by kernel_rfl) [] ?_; simp only [go_sem, Nat.reduceBEq, Nat.reduceAdd, Nat.reduceLeDiff])
  (refine (iSmall v hbk _ _ rd).mono ?_; rintro _ _ ⟨rfl, rfl⟩; simp only [go_sem, Nat.reduceBEq])
  cases hs : isSmall v with
  | false =>
    simp only [Bool.false_and, go_sem, Nat.reduceBEq]
    exact ⟨rfl, Ext.refl _⟩
  | true =>
  simp only [Bool.true_and, go_sem, Nat.reduceBEq]
  try simp only [go_sem, Nat.reduceBEq, Nat.reduceAdd, Nat.reduceLeDiff, Nat.reduceEqDiff, Int.reduceEq, not_false_eq_true, Int.reduceToNat]
  unfold nBlk
  by_cases k48 : v.kind = 48
  case neg =>
    simp only [decide_eq_false k48, Bool.false_and, go_sem, Nat.reduceBEq]
    exact ⟨rfl, Ext.refl _⟩
  simp only [decide_eq_true k48, Bool.true_and, go_sem, Nat.reduceBEq, Nat.reduceAdd, Nat.reduceLeDiff]
  try simp only [go_sem, Nat.reduceBEq, Nat.reduceAdd, Nat.reduceLeDiff, Nat.reduceEqDiff, Int.reduceEq, not_false_eq_true, Int.reduceToNat]
  refine ((iES v).2 hbk _ _ rd hM).mono ?_
  rintro _ h1 ⟨rfl, e1⟩
  try simp only [go_sem, Nat.reduceBEq]
  exact ⟨rfl, e1⟩
theorem sIsBlock (v : Nd) (hbk : v.bulk ≤ 1048576) (sl : Value) (h : Hp) (rd : RdN h v.kids sl) : ACalls Try.prog 8 #[.agg #[.int .i64 v.kind, .int .i64 v.num, .string v.text, sl]] h (Is (.bool (isSmall v && nBlk sm v)) h) := by
  have hB := Nd.bulk_eq v
  have hL := Nd.bulks_len v.kids
  obtain ⟨a, c, xs, rfl, hc, hr, hat⟩ := rd.rows (by decide) v.kids.length (fm_len Nd.dt_len _)
  (refine enter Try.func8 rfl rfl (by kernel_rfl) [] ?_; simp only [go_sem, Nat.reduceBEq, Nat.reduceAdd, Nat.reduceLeDiff])
  (refine (sSmall v hbk _ _ rd).mono ?_; rintro _ _ ⟨rfl, rfl⟩; simp only [go_sem, Nat.reduceBEq])
  cases hs : isSmall v with
  | false =>
    simp only [Bool.false_and, go_sem, Nat.reduceBEq]
    exact ⟨rfl, Ext.refl _⟩
  | true =>
  simp only [Bool.true_and, go_sem, Nat.reduceBEq, Nat.reduceAdd, Nat.reduceLeDiff]
  try simp only [go_sem, Nat.reduceBEq, Nat.reduceAdd, Nat.reduceLeDiff, Nat.reduceEqDiff, Int.reduceEq, not_false_eq_true, Int.reduceToNat]
  refine (sBlk v hbk (fun e _ => (sES e).2) _ _ rd).mono ?_
  rintro _ h1 ⟨rfl, e1⟩
  try simp only [go_sem, Nat.reduceBEq]
  exact ⟨rfl, e1⟩
end Go.Proofs.Ytamjpcmcpcdggaa
