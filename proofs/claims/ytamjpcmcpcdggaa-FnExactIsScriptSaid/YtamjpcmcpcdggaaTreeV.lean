/-
  What statements are, by the reference.
-/
import Derived.Test.YtamjpcmcpcdggaaTreeU
namespace Go.Proofs.Ytamjpcmcpcdggaa
set_option maxRecDepth 8000
open Go Go.Sx
set_option maxHeartbeats 1600000 in
theorem sSt_31 (v : Nd) (hbk : v.bulk ≤ 1048576) (ih : ∀ e : Nd, e.size < v.size → SE e ∧ SS e) (hk : v.kind = 31) (sl : Value) (h : Hp) (rd : RdN h v.kids sl) : ACalls Try.prog 34 #[.agg #[.int .i64 v.kind, .int .i64 v.num, .string v.text, sl]] h (Is (.bool (sm v)) h) := by
  have hB := Nd.bulk_eq v
  have hL := Nd.bulks_len v.kids
  obtain ⟨a, c, xs, rfl, hc, hr, hat⟩ := rd.rows (by decide) v.kids.length (fm_len Nd.dt_len _)
  have dl0 : decide (((v.kids.length : Nat) : Int) = 0) = decide (v.kids.length = 0) := decide_eq_decide.2 (by omega)
  have dl1 : decide (((v.kids.length : Nat) : Int) = 1) = decide (v.kids.length = 1) := decide_eq_decide.2 (by omega)
  have dl2 : decide (((v.kids.length : Nat) : Int) = 2) = decide (v.kids.length = 2) := decide_eq_decide.2 (by omega)
  have dl3 : decide (((v.kids.length : Nat) : Int) = 3) = decide (v.kids.length = 3) := decide_eq_decide.2 (by omega)
  have dp : decide ((1 : Int) ≤ ((v.kids.length : Nat) : Int)) = decide (1 ≤ v.kids.length) := decide_eq_decide.2 (by omega)
  have dm : decide (((v.kids.length : Nat) : Int) ≤ 1) = decide (v.kids.length ≤ 1) := decide_eq_decide.2 (by omega)
  have ds : decide (((v.text.size : Nat) : Int) ≤ 400) = decide (v.text.size ≤ 400) := decide_eq_decide.2 (by omega)
  have d23 : decide ((2 : Int) ≤ ((v.kids.length : Nat) : Int) ∧ ((v.kids.length : Nat) : Int) ≤ 3) = decide (2 ≤ v.kids.length ∧ v.kids.length ≤ 3) := decide_eq_decide.2 (by omega)
  have d34 : decide ((3 : Int) ≤ ((v.kids.length : Nat) : Int) ∧ ((v.kids.length : Nat) : Int) ≤ 4) = decide (3 ≤ v.kids.length ∧ v.kids.length ≤ 4) := decide_eq_decide.2 (by omega)
  have d12 : decide ((1 : Int) ≤ ((v.kids.length : Nat) : Int) ∧ ((v.kids.length : Nat) : Int) ≤ 2) = decide (1 ≤ v.kids.length ∧ v.kids.length ≤ 2) := decide_eq_decide.2 (by omega)
  have dk : ∀ n : Int, decide (v.kind = n) = decide ((31 : Int) = n) := fun n => by rw [hk]
  have ex : sm v = (fN v && (fT v && (decide (v.kids.length = 0)))) := by
    rw [sm_S]
    unfold stT
    rw [if_pos (by omega)]
  rw [ex]
  (refine enter Try.func34 rfl rfl (by kernel_rfl) [] ?_; simp only [go_sem, Nat.reduceBEq, Nat.reduceAdd, Nat.reduceLeDiff])
  refine (sFields v hbk _ _ rd).mono ?_
  rintro _ h1 ⟨rfl, x0⟩
  try simp only [go_sem, Nat.reduceBEq]
  cases hN : fN v with
  | false =>
    simp only [Bool.false_and, Bool.not_false, go_sem, Nat.reduceBEq]
    exact ⟨rfl, x0⟩
  | true =>
  simp only [Bool.true_and, Bool.not_true, go_sem, Nat.reduceBEq]
  cases hT : fT v with
  | false =>
    simp only [Bool.false_and, Bool.not_false, go_sem, Nat.reduceBEq]
    exact ⟨rfl, x0⟩
  | true =>
  simp only [dk, dl0, decide_true, Bool.true_and, Bool.not_true, go_sem, Nat.reduceBEq]
  exact ⟨rfl, x0⟩
set_option maxHeartbeats 1600000 in
theorem sSt_37 (v : Nd) (hbk : v.bulk ≤ 1048576) (ih : ∀ e : Nd, e.size < v.size → SE e ∧ SS e) (hk : v.kind = 37) (sl : Value) (h : Hp) (rd : RdN h v.kids sl) : ACalls Try.prog 34 #[.agg #[.int .i64 v.kind, .int .i64 v.num, .string v.text, sl]] h (Is (.bool (sm v)) h) := by
  have hB := Nd.bulk_eq v
  have hL := Nd.bulks_len v.kids
  obtain ⟨a, c, xs, rfl, hc, hr, hat⟩ := rd.rows (by decide) v.kids.length (fm_len Nd.dt_len _)
  have dl0 : decide (((v.kids.length : Nat) : Int) = 0) = decide (v.kids.length = 0) := decide_eq_decide.2 (by omega)
  have dl1 : decide (((v.kids.length : Nat) : Int) = 1) = decide (v.kids.length = 1) := decide_eq_decide.2 (by omega)
  have dl2 : decide (((v.kids.length : Nat) : Int) = 2) = decide (v.kids.length = 2) := decide_eq_decide.2 (by omega)
  have dl3 : decide (((v.kids.length : Nat) : Int) = 3) = decide (v.kids.length = 3) := decide_eq_decide.2 (by omega)
  have dp : decide ((1 : Int) ≤ ((v.kids.length : Nat) : Int)) = decide (1 ≤ v.kids.length) := decide_eq_decide.2 (by omega)
  have dm : decide (((v.kids.length : Nat) : Int) ≤ 1) = decide (v.kids.length ≤ 1) := decide_eq_decide.2 (by omega)
  have ds : decide (((v.text.size : Nat) : Int) ≤ 400) = decide (v.text.size ≤ 400) := decide_eq_decide.2 (by omega)
  have d23 : decide ((2 : Int) ≤ ((v.kids.length : Nat) : Int) ∧ ((v.kids.length : Nat) : Int) ≤ 3) = decide (2 ≤ v.kids.length ∧ v.kids.length ≤ 3) := decide_eq_decide.2 (by omega)
  have d34 : decide ((3 : Int) ≤ ((v.kids.length : Nat) : Int) ∧ ((v.kids.length : Nat) : Int) ≤ 4) = decide (3 ≤ v.kids.length ∧ v.kids.length ≤ 4) := decide_eq_decide.2 (by omega)
  have d12 : decide ((1 : Int) ≤ ((v.kids.length : Nat) : Int) ∧ ((v.kids.length : Nat) : Int) ≤ 2) = decide (1 ≤ v.kids.length ∧ v.kids.length ≤ 2) := decide_eq_decide.2 (by omega)
  have dk : ∀ n : Int, decide (v.kind = n) = decide ((37 : Int) = n) := fun n => by rw [hk]
  have ex : sm v = (fN v && (fT v && (decide (v.kids.length = 0)))) := by
    rw [sm_S]
    unfold stT
    rw [if_pos (by omega)]
  rw [ex]
  (refine enter Try.func34 rfl rfl (by kernel_rfl) [] ?_; simp only [go_sem, Nat.reduceBEq, Nat.reduceAdd, Nat.reduceLeDiff])
  refine (sFields v hbk _ _ rd).mono ?_
  rintro _ h1 ⟨rfl, x0⟩
  try simp only [go_sem, Nat.reduceBEq]
  cases hN : fN v with
  | false =>
    simp only [Bool.false_and, Bool.not_false, go_sem, Nat.reduceBEq]
    exact ⟨rfl, x0⟩
  | true =>
  simp only [Bool.true_and, Bool.not_true, go_sem, Nat.reduceBEq]
  cases hT : fT v with
  | false =>
    simp only [Bool.false_and, Bool.not_false, go_sem, Nat.reduceBEq]
    exact ⟨rfl, x0⟩
  | true =>
  simp only [dk, dl0, decide_true, decide_false, Bool.true_and, Bool.not_true, go_sem, Nat.reduceBEq, Int.reduceEq]
  exact ⟨rfl, x0⟩
set_option maxHeartbeats 1600000 in
theorem sSt_38 (v : Nd) (hbk : v.bulk ≤ 1048576) (ih : ∀ e : Nd, e.size < v.size → SE e ∧ SS e) (hk : v.kind = 38) (sl : Value) (h : Hp) (rd : RdN h v.kids sl) : ACalls Try.prog 34 #[.agg #[.int .i64 v.kind, .int .i64 v.num, .string v.text, sl]] h (Is (.bool (sm v)) h) := by
  have hB := Nd.bulk_eq v
  have hL := Nd.bulks_len v.kids
  obtain ⟨a, c, xs, rfl, hc, hr, hat⟩ := rd.rows (by decide) v.kids.length (fm_len Nd.dt_len _)
  have dl0 : decide (((v.kids.length : Nat) : Int) = 0) = decide (v.kids.length = 0) := decide_eq_decide.2 (by omega)
  have dl1 : decide (((v.kids.length : Nat) : Int) = 1) = decide (v.kids.length = 1) := decide_eq_decide.2 (by omega)
  have dl2 : decide (((v.kids.length : Nat) : Int) = 2) = decide (v.kids.length = 2) := decide_eq_decide.2 (by omega)
  have dl3 : decide (((v.kids.length : Nat) : Int) = 3) = decide (v.kids.length = 3) := decide_eq_decide.2 (by omega)
  have dp : decide ((1 : Int) ≤ ((v.kids.length : Nat) : Int)) = decide (1 ≤ v.kids.length) := decide_eq_decide.2 (by omega)
  have dm : decide (((v.kids.length : Nat) : Int) ≤ 1) = decide (v.kids.length ≤ 1) := decide_eq_decide.2 (by omega)
  have ds : decide (((v.text.size : Nat) : Int) ≤ 400) = decide (v.text.size ≤ 400) := decide_eq_decide.2 (by omega)
  have d23 : decide ((2 : Int) ≤ ((v.kids.length : Nat) : Int) ∧ ((v.kids.length : Nat) : Int) ≤ 3) = decide (2 ≤ v.kids.length ∧ v.kids.length ≤ 3) := decide_eq_decide.2 (by omega)
  have d34 : decide ((3 : Int) ≤ ((v.kids.length : Nat) : Int) ∧ ((v.kids.length : Nat) : Int) ≤ 4) = decide (3 ≤ v.kids.length ∧ v.kids.length ≤ 4) := decide_eq_decide.2 (by omega)
  have d12 : decide ((1 : Int) ≤ ((v.kids.length : Nat) : Int) ∧ ((v.kids.length : Nat) : Int) ≤ 2) = decide (1 ≤ v.kids.length ∧ v.kids.length ≤ 2) := decide_eq_decide.2 (by omega)
  have dk : ∀ n : Int, decide (v.kind = n) = decide ((38 : Int) = n) := fun n => by rw [hk]
  have ex : sm v = (fN v && (fT v && (decide (v.kids.length = 0)))) := by
    rw [sm_S]
    unfold stT
    rw [if_pos (by omega)]
  rw [ex]
  (refine enter Try.func34 rfl rfl (by kernel_rfl) [] ?_; simp only [go_sem, Nat.reduceBEq, Nat.reduceAdd, Nat.reduceLeDiff])
  refine (sFields v hbk _ _ rd).mono ?_
  rintro _ h1 ⟨rfl, x0⟩
  try simp only [go_sem, Nat.reduceBEq]
  cases hN : fN v with
  | false =>
    simp only [Bool.false_and, Bool.not_false, go_sem, Nat.reduceBEq]
    exact ⟨rfl, x0⟩
  | true =>
  simp only [Bool.true_and, Bool.not_true, go_sem, Nat.reduceBEq]
  cases hT : fT v with
  | false =>
    simp only [Bool.false_and, Bool.not_false, go_sem, Nat.reduceBEq]
    exact ⟨rfl, x0⟩
  | true =>
  simp only [dk, dl0, decide_true, decide_false, Bool.true_and, Bool.not_true, go_sem, Nat.reduceBEq, Int.reduceEq]
  exact ⟨rfl, x0⟩
set_option maxHeartbeats 1600000 in
theorem sSt_40 (v : Nd) (hbk : v.bulk ≤ 1048576) (ih : ∀ e : Nd, e.size < v.size → SE e ∧ SS e) (hk : v.kind = 40) (sl : Value) (h : Hp) (rd : RdN h v.kids sl) : ACalls Try.prog 34 #[.agg #[.int .i64 v.kind, .int .i64 v.num, .string v.text, sl]] h (Is (.bool (sm v)) h) := by
  have hB := Nd.bulk_eq v
  have hL := Nd.bulks_len v.kids
  obtain ⟨a, c, xs, rfl, hc, hr, hat⟩ := rd.rows (by decide) v.kids.length (fm_len Nd.dt_len _)
  have dl0 : decide (((v.kids.length : Nat) : Int) = 0) = decide (v.kids.length = 0) := decide_eq_decide.2 (by omega)
  have dl1 : decide (((v.kids.length : Nat) : Int) = 1) = decide (v.kids.length = 1) := decide_eq_decide.2 (by omega)
  have dl2 : decide (((v.kids.length : Nat) : Int) = 2) = decide (v.kids.length = 2) := decide_eq_decide.2 (by omega)
  have dl3 : decide (((v.kids.length : Nat) : Int) = 3) = decide (v.kids.length = 3) := decide_eq_decide.2 (by omega)
  have dp : decide ((1 : Int) ≤ ((v.kids.length : Nat) : Int)) = decide (1 ≤ v.kids.length) := decide_eq_decide.2 (by omega)
  have dm : decide (((v.kids.length : Nat) : Int) ≤ 1) = decide (v.kids.length ≤ 1) := decide_eq_decide.2 (by omega)
  have ds : decide (((v.text.size : Nat) : Int) ≤ 400) = decide (v.text.size ≤ 400) := decide_eq_decide.2 (by omega)
  have d23 : decide ((2 : Int) ≤ ((v.kids.length : Nat) : Int) ∧ ((v.kids.length : Nat) : Int) ≤ 3) = decide (2 ≤ v.kids.length ∧ v.kids.length ≤ 3) := decide_eq_decide.2 (by omega)
  have d34 : decide ((3 : Int) ≤ ((v.kids.length : Nat) : Int) ∧ ((v.kids.length : Nat) : Int) ≤ 4) = decide (3 ≤ v.kids.length ∧ v.kids.length ≤ 4) := decide_eq_decide.2 (by omega)
  have d12 : decide ((1 : Int) ≤ ((v.kids.length : Nat) : Int) ∧ ((v.kids.length : Nat) : Int) ≤ 2) = decide (1 ≤ v.kids.length ∧ v.kids.length ≤ 2) := decide_eq_decide.2 (by omega)
  have dk : ∀ n : Int, decide (v.kind = n) = decide ((40 : Int) = n) := fun n => by rw [hk]
  have ex : sm v = (fN v && (fT v && (decide (v.kids.length = 0)))) := by
    rw [sm_S]
    unfold stT
    rw [if_pos (by omega)]
  rw [ex]
  (refine enter Try.func34 rfl rfl (by kernel_rfl) [] ?_; simp only [go_sem, Nat.reduceBEq, Nat.reduceAdd, Nat.reduceLeDiff])
  refine (sFields v hbk _ _ rd).mono ?_
  rintro _ h1 ⟨rfl, x0⟩
  try simp only [go_sem, Nat.reduceBEq]
  cases hN : fN v with
  | false =>
    simp only [Bool.false_and, Bool.not_false, go_sem, Nat.reduceBEq]
    exact ⟨rfl, x0⟩
  | true =>
  simp only [Bool.true_and, Bool.not_true, go_sem, Nat.reduceBEq]
  cases hT : fT v with
  | false =>
    simp only [Bool.false_and, Bool.not_false, go_sem, Nat.reduceBEq]
    exact ⟨rfl, x0⟩
  | true =>
  simp only [dk, dl0, decide_true, decide_false, Bool.true_and, Bool.not_true, go_sem, Nat.reduceBEq, Int.reduceEq]
  exact ⟨rfl, x0⟩
set_option maxHeartbeats 1600000 in
theorem sSt_47 (v : Nd) (hbk : v.bulk ≤ 1048576) (ih : ∀ e : Nd, e.size < v.size → SE e ∧ SS e) (hk : v.kind = 47) (sl : Value) (h : Hp) (rd : RdN h v.kids sl) : ACalls Try.prog 34 #[.agg #[.int .i64 v.kind, .int .i64 v.num, .string v.text, sl]] h (Is (.bool (sm v)) h) := by
  have hB := Nd.bulk_eq v
  have hL := Nd.bulks_len v.kids
  obtain ⟨a, c, xs, rfl, hc, hr, hat⟩ := rd.rows (by decide) v.kids.length (fm_len Nd.dt_len _)
  have dl0 : decide (((v.kids.length : Nat) : Int) = 0) = decide (v.kids.length = 0) := decide_eq_decide.2 (by omega)
  have dl1 : decide (((v.kids.length : Nat) : Int) = 1) = decide (v.kids.length = 1) := decide_eq_decide.2 (by omega)
  have dl2 : decide (((v.kids.length : Nat) : Int) = 2) = decide (v.kids.length = 2) := decide_eq_decide.2 (by omega)
  have dl3 : decide (((v.kids.length : Nat) : Int) = 3) = decide (v.kids.length = 3) := decide_eq_decide.2 (by omega)
  have dp : decide ((1 : Int) ≤ ((v.kids.length : Nat) : Int)) = decide (1 ≤ v.kids.length) := decide_eq_decide.2 (by omega)
  have dm : decide (((v.kids.length : Nat) : Int) ≤ 1) = decide (v.kids.length ≤ 1) := decide_eq_decide.2 (by omega)
  have ds : decide (((v.text.size : Nat) : Int) ≤ 400) = decide (v.text.size ≤ 400) := decide_eq_decide.2 (by omega)
  have d23 : decide ((2 : Int) ≤ ((v.kids.length : Nat) : Int) ∧ ((v.kids.length : Nat) : Int) ≤ 3) = decide (2 ≤ v.kids.length ∧ v.kids.length ≤ 3) := decide_eq_decide.2 (by omega)
  have d34 : decide ((3 : Int) ≤ ((v.kids.length : Nat) : Int) ∧ ((v.kids.length : Nat) : Int) ≤ 4) = decide (3 ≤ v.kids.length ∧ v.kids.length ≤ 4) := decide_eq_decide.2 (by omega)
  have d12 : decide ((1 : Int) ≤ ((v.kids.length : Nat) : Int) ∧ ((v.kids.length : Nat) : Int) ≤ 2) = decide (1 ≤ v.kids.length ∧ v.kids.length ≤ 2) := decide_eq_decide.2 (by omega)
  have dk : ∀ n : Int, decide (v.kind = n) = decide ((47 : Int) = n) := fun n => by rw [hk]
  have ex : sm v = (fN v && (fT v && (decide (v.kids.length = 0)))) := by
    rw [sm_S]
    unfold stT
    rw [if_pos (by omega)]
  rw [ex]
  (refine enter Try.func34 rfl rfl (by kernel_rfl) [] ?_; simp only [go_sem, Nat.reduceBEq, Nat.reduceAdd, Nat.reduceLeDiff])
  refine (sFields v hbk _ _ rd).mono ?_
  rintro _ h1 ⟨rfl, x0⟩
  try simp only [go_sem, Nat.reduceBEq]
  cases hN : fN v with
  | false =>
    simp only [Bool.false_and, Bool.not_false, go_sem, Nat.reduceBEq]
    exact ⟨rfl, x0⟩
  | true =>
  simp only [Bool.true_and, Bool.not_true, go_sem, Nat.reduceBEq]
  cases hT : fT v with
  | false =>
    simp only [Bool.false_and, Bool.not_false, go_sem, Nat.reduceBEq]
    exact ⟨rfl, x0⟩
  | true =>
  simp only [dk, dl0, decide_true, decide_false, Bool.true_and, Bool.not_true, go_sem, Nat.reduceBEq, Int.reduceEq]
  exact ⟨rfl, x0⟩
set_option maxHeartbeats 1600000 in
theorem sSt_32 (v : Nd) (hbk : v.bulk ≤ 1048576) (ih : ∀ e : Nd, e.size < v.size → SE e ∧ SS e) (hk : v.kind = 32) (sl : Value) (h : Hp) (rd : RdN h v.kids sl) : ACalls Try.prog 34 #[.agg #[.int .i64 v.kind, .int .i64 v.num, .string v.text, sl]] h (Is (.bool (sm v)) h) := by
  have hB := Nd.bulk_eq v
  have hL := Nd.bulks_len v.kids
  obtain ⟨a, c, xs, rfl, hc, hr, hat⟩ := rd.rows (by decide) v.kids.length (fm_len Nd.dt_len _)
  have dl0 : decide (((v.kids.length : Nat) : Int) = 0) = decide (v.kids.length = 0) := decide_eq_decide.2 (by omega)
  have dl1 : decide (((v.kids.length : Nat) : Int) = 1) = decide (v.kids.length = 1) := decide_eq_decide.2 (by omega)
  have dl2 : decide (((v.kids.length : Nat) : Int) = 2) = decide (v.kids.length = 2) := decide_eq_decide.2 (by omega)
  have dl3 : decide (((v.kids.length : Nat) : Int) = 3) = decide (v.kids.length = 3) := decide_eq_decide.2 (by omega)
  have dp : decide ((1 : Int) ≤ ((v.kids.length : Nat) : Int)) = decide (1 ≤ v.kids.length) := decide_eq_decide.2 (by omega)
  have dm : decide (((v.kids.length : Nat) : Int) ≤ 1) = decide (v.kids.length ≤ 1) := decide_eq_decide.2 (by omega)
  have ds : decide (((v.text.size : Nat) : Int) ≤ 400) = decide (v.text.size ≤ 400) := decide_eq_decide.2 (by omega)
  have d23 : decide ((2 : Int) ≤ ((v.kids.length : Nat) : Int) ∧ ((v.kids.length : Nat) : Int) ≤ 3) = decide (2 ≤ v.kids.length ∧ v.kids.length ≤ 3) := decide_eq_decide.2 (by omega)
  have d34 : decide ((3 : Int) ≤ ((v.kids.length : Nat) : Int) ∧ ((v.kids.length : Nat) : Int) ≤ 4) = decide (3 ≤ v.kids.length ∧ v.kids.length ≤ 4) := decide_eq_decide.2 (by omega)
  have d12 : decide ((1 : Int) ≤ ((v.kids.length : Nat) : Int) ∧ ((v.kids.length : Nat) : Int) ≤ 2) = decide (1 ≤ v.kids.length ∧ v.kids.length ≤ 2) := decide_eq_decide.2 (by omega)
  have dk : ∀ n : Int, decide (v.kind = n) = decide ((32 : Int) = n) := fun n => by rw [hk]
  have ex : sm v = (fN v && (fT v && (decide (v.kids.length = 1) && (xp (kid v.kids 0))))) := by
    rw [sm_S]
    unfold stT
    rw [if_neg (by omega), if_pos (by omega)]
  rw [ex]
  (refine enter Try.func34 rfl rfl (by kernel_rfl) [] ?_; simp only [go_sem, Nat.reduceBEq, Nat.reduceAdd, Nat.reduceLeDiff])
  refine (sFields v hbk _ _ rd).mono ?_
  rintro _ h1 ⟨rfl, x0⟩
  try simp only [go_sem, Nat.reduceBEq]
  cases hN : fN v with
  | false =>
    simp only [Bool.false_and, Bool.not_false, go_sem, Nat.reduceBEq]
    exact ⟨rfl, x0⟩
  | true =>
  simp only [Bool.true_and, Bool.not_true, go_sem, Nat.reduceBEq]
  cases hT : fT v with
  | false =>
    simp only [Bool.false_and, Bool.not_false, go_sem, Nat.reduceBEq]
    exact ⟨rfl, x0⟩
  | true =>
  simp only [dk, dl1, decide_true, decide_false, Bool.true_and, Bool.not_true, go_sem, Nat.reduceBEq, Int.reduceEq]
  by_cases c1 : v.kids.length = 1
  case neg =>
    simp only [decide_eq_false c1, Bool.false_and, go_sem, Nat.reduceBEq]
    exact ⟨rfl, x0⟩
  simp only [decide_eq_true c1, Bool.true_and, go_sem, Nat.reduceBEq]
  try simp only [dk, dl0, dl1, dl2, dl3, dp, dm, ds, d23, d34, d12, decide_true, decide_false, Bool.true_and, Bool.false_and, Bool.and_true, Bool.and_false, Bool.or_true, Bool.or_false, Bool.true_or, Bool.false_or, Bool.not_true, Bool.not_false, go_sem, Nat.reduceBEq, Nat.reduceAdd, Nat.reduceLeDiff, Nat.reduceEqDiff, Int.reduceEq, not_false_eq_true, Int.reduceToNat]
  have kl1 : 0 < v.kids.length := by omega
  obtain ⟨bk1, ok1, ek1, hatk1⟩ := hat (by omega)
  cases ek1
  have ixk1 : ixA (some 4) (some ⟨bk1, ok1, none⟩) v.kids.length (0 : Int) = some (.pointer (some ⟨bk1, ok1 + 0 * 4, none⟩)) := ix_nat (i := 0) kl1
  try simp only [ixk1, go_sem, Nat.reduceBEq]
  refine hsem_node tyS29 (hatk1.mono x0) (hr.mono x0) (kid_get kl1) (by omega) fun sk1 rk1 => ?_
  obtain ⟨ak1, ck1, _, rfl, _⟩ := rk1.rows (by decide) (kid v.kids (0)).kids.length (fm_len Nd.dt_len _)
  try simp only [go_sem, Nat.reduceBEq]
  refine ((ih (kid v.kids (0)) (Nd.size_lt (kid_mem kl1))).1 (kid_bulk (kid_mem kl1) (by omega)) _ _ rk1).mono ?_
  rintro _ g2 ⟨rfl, e2⟩
  try simp only [go_sem, Nat.reduceBEq]
  have x2 : Ext h g2 := (x0.trans e2)
  exact ⟨rfl, x2⟩
set_option maxHeartbeats 1600000 in
theorem sSt_33 (v : Nd) (hbk : v.bulk ≤ 1048576) (ih : ∀ e : Nd, e.size < v.size → SE e ∧ SS e) (hk : v.kind = 33) (sl : Value) (h : Hp) (rd : RdN h v.kids sl) : ACalls Try.prog 34 #[.agg #[.int .i64 v.kind, .int .i64 v.num, .string v.text, sl]] h (Is (.bool (sm v)) h) := by
  have hB := Nd.bulk_eq v
  have hL := Nd.bulks_len v.kids
  obtain ⟨a, c, xs, rfl, hc, hr, hat⟩ := rd.rows (by decide) v.kids.length (fm_len Nd.dt_len _)
  have dl0 : decide (((v.kids.length : Nat) : Int) = 0) = decide (v.kids.length = 0) := decide_eq_decide.2 (by omega)
  have dl1 : decide (((v.kids.length : Nat) : Int) = 1) = decide (v.kids.length = 1) := decide_eq_decide.2 (by omega)
  have dl2 : decide (((v.kids.length : Nat) : Int) = 2) = decide (v.kids.length = 2) := decide_eq_decide.2 (by omega)
  have dl3 : decide (((v.kids.length : Nat) : Int) = 3) = decide (v.kids.length = 3) := decide_eq_decide.2 (by omega)
  have dp : decide ((1 : Int) ≤ ((v.kids.length : Nat) : Int)) = decide (1 ≤ v.kids.length) := decide_eq_decide.2 (by omega)
  have dm : decide (((v.kids.length : Nat) : Int) ≤ 1) = decide (v.kids.length ≤ 1) := decide_eq_decide.2 (by omega)
  have ds : decide (((v.text.size : Nat) : Int) ≤ 400) = decide (v.text.size ≤ 400) := decide_eq_decide.2 (by omega)
  have d23 : decide ((2 : Int) ≤ ((v.kids.length : Nat) : Int) ∧ ((v.kids.length : Nat) : Int) ≤ 3) = decide (2 ≤ v.kids.length ∧ v.kids.length ≤ 3) := decide_eq_decide.2 (by omega)
  have d34 : decide ((3 : Int) ≤ ((v.kids.length : Nat) : Int) ∧ ((v.kids.length : Nat) : Int) ≤ 4) = decide (3 ≤ v.kids.length ∧ v.kids.length ≤ 4) := decide_eq_decide.2 (by omega)
  have d12 : decide ((1 : Int) ≤ ((v.kids.length : Nat) : Int) ∧ ((v.kids.length : Nat) : Int) ≤ 2) = decide (1 ≤ v.kids.length ∧ v.kids.length ≤ 2) := decide_eq_decide.2 (by omega)
  have dk : ∀ n : Int, decide (v.kind = n) = decide ((33 : Int) = n) := fun n => by rw [hk]
  have ex : sm v = (fN v && (fT v && (decide (v.kids.length = 1) && (xp (kid v.kids 0))))) := by
    rw [sm_S]
    unfold stT
    rw [if_neg (by omega), if_pos (by omega)]
  rw [ex]
  (refine enter Try.func34 rfl rfl (by kernel_rfl) [] ?_; simp only [go_sem, Nat.reduceBEq, Nat.reduceAdd, Nat.reduceLeDiff])
  refine (sFields v hbk _ _ rd).mono ?_
  rintro _ h1 ⟨rfl, x0⟩
  try simp only [go_sem, Nat.reduceBEq]
  cases hN : fN v with
  | false =>
    simp only [Bool.false_and, Bool.not_false, go_sem, Nat.reduceBEq]
    exact ⟨rfl, x0⟩
  | true =>
  simp only [Bool.true_and, Bool.not_true, go_sem, Nat.reduceBEq]
  cases hT : fT v with
  | false =>
    simp only [Bool.false_and, Bool.not_false, go_sem, Nat.reduceBEq]
    exact ⟨rfl, x0⟩
  | true =>
  simp only [dk, dl1, decide_true, decide_false, Bool.true_and, Bool.not_true, go_sem, Nat.reduceBEq, Int.reduceEq]
  by_cases c1 : v.kids.length = 1
  case neg =>
    simp only [decide_eq_false c1, Bool.false_and, go_sem, Nat.reduceBEq]
    exact ⟨rfl, x0⟩
  simp only [decide_eq_true c1, Bool.true_and, go_sem, Nat.reduceBEq]
  try simp only [dk, dl0, dl1, dl2, dl3, dp, dm, ds, d23, d34, d12, decide_true, decide_false, Bool.true_and, Bool.false_and, Bool.and_true, Bool.and_false, Bool.or_true, Bool.or_false, Bool.true_or, Bool.false_or, Bool.not_true, Bool.not_false, go_sem, Nat.reduceBEq, Nat.reduceAdd, Nat.reduceLeDiff, Nat.reduceEqDiff, Int.reduceEq, not_false_eq_true, Int.reduceToNat]
  have kl1 : 0 < v.kids.length := by omega
  obtain ⟨bk1, ok1, ek1, hatk1⟩ := hat (by omega)
  cases ek1
  have ixk1 : ixA (some 4) (some ⟨bk1, ok1, none⟩) v.kids.length (0 : Int) = some (.pointer (some ⟨bk1, ok1 + 0 * 4, none⟩)) := ix_nat (i := 0) kl1
  try simp only [ixk1, go_sem, Nat.reduceBEq]
  refine hsem_node tyS29 (hatk1.mono x0) (hr.mono x0) (kid_get kl1) (by omega) fun sk1 rk1 => ?_
  obtain ⟨ak1, ck1, _, rfl, _⟩ := rk1.rows (by decide) (kid v.kids (0)).kids.length (fm_len Nd.dt_len _)
  try simp only [go_sem, Nat.reduceBEq]
  refine ((ih (kid v.kids (0)) (Nd.size_lt (kid_mem kl1))).1 (kid_bulk (kid_mem kl1) (by omega)) _ _ rk1).mono ?_
  rintro _ g2 ⟨rfl, e2⟩
  try simp only [go_sem, Nat.reduceBEq]
  have x2 : Ext h g2 := (x0.trans e2)
  exact ⟨rfl, x2⟩
set_option maxHeartbeats 1600000 in
theorem sSt_42 (v : Nd) (hbk : v.bulk ≤ 1048576) (ih : ∀ e : Nd, e.size < v.size → SE e ∧ SS e) (hk : v.kind = 42) (sl : Value) (h : Hp) (rd : RdN h v.kids sl) : ACalls Try.prog 34 #[.agg #[.int .i64 v.kind, .int .i64 v.num, .string v.text, sl]] h (Is (.bool (sm v)) h) := by
  have hB := Nd.bulk_eq v
  have hL := Nd.bulks_len v.kids
  obtain ⟨a, c, xs, rfl, hc, hr, hat⟩ := rd.rows (by decide) v.kids.length (fm_len Nd.dt_len _)
  have dl0 : decide (((v.kids.length : Nat) : Int) = 0) = decide (v.kids.length = 0) := decide_eq_decide.2 (by omega)
  have dl1 : decide (((v.kids.length : Nat) : Int) = 1) = decide (v.kids.length = 1) := decide_eq_decide.2 (by omega)
  have dl2 : decide (((v.kids.length : Nat) : Int) = 2) = decide (v.kids.length = 2) := decide_eq_decide.2 (by omega)
  have dl3 : decide (((v.kids.length : Nat) : Int) = 3) = decide (v.kids.length = 3) := decide_eq_decide.2 (by omega)
  have dp : decide ((1 : Int) ≤ ((v.kids.length : Nat) : Int)) = decide (1 ≤ v.kids.length) := decide_eq_decide.2 (by omega)
  have dm : decide (((v.kids.length : Nat) : Int) ≤ 1) = decide (v.kids.length ≤ 1) := decide_eq_decide.2 (by omega)
  have ds : decide (((v.text.size : Nat) : Int) ≤ 400) = decide (v.text.size ≤ 400) := decide_eq_decide.2 (by omega)
  have d23 : decide ((2 : Int) ≤ ((v.kids.length : Nat) : Int) ∧ ((v.kids.length : Nat) : Int) ≤ 3) = decide (2 ≤ v.kids.length ∧ v.kids.length ≤ 3) := decide_eq_decide.2 (by omega)
  have d34 : decide ((3 : Int) ≤ ((v.kids.length : Nat) : Int) ∧ ((v.kids.length : Nat) : Int) ≤ 4) = decide (3 ≤ v.kids.length ∧ v.kids.length ≤ 4) := decide_eq_decide.2 (by omega)
  have d12 : decide ((1 : Int) ≤ ((v.kids.length : Nat) : Int) ∧ ((v.kids.length : Nat) : Int) ≤ 2) = decide (1 ≤ v.kids.length ∧ v.kids.length ≤ 2) := decide_eq_decide.2 (by omega)
  have dk : ∀ n : Int, decide (v.kind = n) = decide ((42 : Int) = n) := fun n => by rw [hk]
  have ex : sm v = (fN v && (fT v && (decide (v.kids.length = 1) && (xp (kid v.kids 0))))) := by
    rw [sm_S]
    unfold stT
    rw [if_neg (by omega), if_pos (by omega)]
  rw [ex]
  (refine enter Try.func34 rfl rfl (by kernel_rfl) [] ?_; simp only [go_sem, Nat.reduceBEq, Nat.reduceAdd, Nat.reduceLeDiff])
  refine (sFields v hbk _ _ rd).mono ?_
  rintro _ h1 ⟨rfl, x0⟩
  try simp only [go_sem, Nat.reduceBEq]
  cases hN : fN v with
  | false =>
    simp only [Bool.false_and, Bool.not_false, go_sem, Nat.reduceBEq]
    exact ⟨rfl, x0⟩
  | true =>
  simp only [Bool.true_and, Bool.not_true, go_sem, Nat.reduceBEq]
  cases hT : fT v with
  | false =>
    simp only [Bool.false_and, Bool.not_false, go_sem, Nat.reduceBEq]
    exact ⟨rfl, x0⟩
  | true =>
  simp only [dk, dl1, decide_true, decide_false, Bool.true_and, Bool.not_true, go_sem, Nat.reduceBEq, Int.reduceEq]
  by_cases c1 : v.kids.length = 1
  case neg =>
    simp only [decide_eq_false c1, Bool.false_and, go_sem, Nat.reduceBEq]
    exact ⟨rfl, x0⟩
  simp only [decide_eq_true c1, Bool.true_and, go_sem, Nat.reduceBEq]
  try simp only [dk, dl0, dl1, dl2, dl3, dp, dm, ds, d23, d34, d12, decide_true, decide_false, Bool.true_and, Bool.false_and, Bool.and_true, Bool.and_false, Bool.or_true, Bool.or_false, Bool.true_or, Bool.false_or, Bool.not_true, Bool.not_false, go_sem, Nat.reduceBEq, Nat.reduceAdd, Nat.reduceLeDiff, Nat.reduceEqDiff, Int.reduceEq, not_false_eq_true, Int.reduceToNat]
  have kl1 : 0 < v.kids.length := by omega
  obtain ⟨bk1, ok1, ek1, hatk1⟩ := hat (by omega)
  cases ek1
  have ixk1 : ixA (some 4) (some ⟨bk1, ok1, none⟩) v.kids.length (0 : Int) = some (.pointer (some ⟨bk1, ok1 + 0 * 4, none⟩)) := ix_nat (i := 0) kl1
  try simp only [ixk1, go_sem, Nat.reduceBEq]
  refine hsem_node tyS29 (hatk1.mono x0) (hr.mono x0) (kid_get kl1) (by omega) fun sk1 rk1 => ?_
  obtain ⟨ak1, ck1, _, rfl, _⟩ := rk1.rows (by decide) (kid v.kids (0)).kids.length (fm_len Nd.dt_len _)
  try simp only [go_sem, Nat.reduceBEq]
  refine ((ih (kid v.kids (0)) (Nd.size_lt (kid_mem kl1))).1 (kid_bulk (kid_mem kl1) (by omega)) _ _ rk1).mono ?_
  rintro _ g2 ⟨rfl, e2⟩
  try simp only [go_sem, Nat.reduceBEq]
  have x2 : Ext h g2 := (x0.trans e2)
  exact ⟨rfl, x2⟩
set_option maxHeartbeats 1600000 in
theorem sSt_39 (v : Nd) (hbk : v.bulk ≤ 1048576) (ih : ∀ e : Nd, e.size < v.size → SE e ∧ SS e) (hk : v.kind = 39) (sl : Value) (h : Hp) (rd : RdN h v.kids sl) : ACalls Try.prog 34 #[.agg #[.int .i64 v.kind, .int .i64 v.num, .string v.text, sl]] h (Is (.bool (sm v)) h) := by
  have hB := Nd.bulk_eq v
  have hL := Nd.bulks_len v.kids
  obtain ⟨a, c, xs, rfl, hc, hr, hat⟩ := rd.rows (by decide) v.kids.length (fm_len Nd.dt_len _)
  have dl0 : decide (((v.kids.length : Nat) : Int) = 0) = decide (v.kids.length = 0) := decide_eq_decide.2 (by omega)
  have dl1 : decide (((v.kids.length : Nat) : Int) = 1) = decide (v.kids.length = 1) := decide_eq_decide.2 (by omega)
  have dl2 : decide (((v.kids.length : Nat) : Int) = 2) = decide (v.kids.length = 2) := decide_eq_decide.2 (by omega)
  have dl3 : decide (((v.kids.length : Nat) : Int) = 3) = decide (v.kids.length = 3) := decide_eq_decide.2 (by omega)
  have dp : decide ((1 : Int) ≤ ((v.kids.length : Nat) : Int)) = decide (1 ≤ v.kids.length) := decide_eq_decide.2 (by omega)
  have dm : decide (((v.kids.length : Nat) : Int) ≤ 1) = decide (v.kids.length ≤ 1) := decide_eq_decide.2 (by omega)
  have ds : decide (((v.text.size : Nat) : Int) ≤ 400) = decide (v.text.size ≤ 400) := decide_eq_decide.2 (by omega)
  have d23 : decide ((2 : Int) ≤ ((v.kids.length : Nat) : Int) ∧ ((v.kids.length : Nat) : Int) ≤ 3) = decide (2 ≤ v.kids.length ∧ v.kids.length ≤ 3) := decide_eq_decide.2 (by omega)
  have d34 : decide ((3 : Int) ≤ ((v.kids.length : Nat) : Int) ∧ ((v.kids.length : Nat) : Int) ≤ 4) = decide (3 ≤ v.kids.length ∧ v.kids.length ≤ 4) := decide_eq_decide.2 (by omega)
  have d12 : decide ((1 : Int) ≤ ((v.kids.length : Nat) : Int) ∧ ((v.kids.length : Nat) : Int) ≤ 2) = decide (1 ≤ v.kids.length ∧ v.kids.length ≤ 2) := decide_eq_decide.2 (by omega)
  have dk : ∀ n : Int, decide (v.kind = n) = decide ((39 : Int) = n) := fun n => by rw [hk]
  have ex : sm v = (fN v && (fT v && (decide (v.kids.length ≤ 1) && (v.kids.all xp)))) := by
    rw [sm_S]
    unfold stT
    rw [if_neg (by omega), if_neg (by omega), if_pos (by omega)]
  rw [ex]
  (refine enter Try.func34 rfl rfl (by kernel_rfl) [] ?_; simp only [go_sem, Nat.reduceBEq, Nat.reduceAdd, Nat.reduceLeDiff])
  refine (sFields v hbk _ _ rd).mono ?_
  rintro _ h1 ⟨rfl, x0⟩
  try simp only [go_sem, Nat.reduceBEq]
  cases hN : fN v with
  | false =>
    simp only [Bool.false_and, Bool.not_false, go_sem, Nat.reduceBEq]
    exact ⟨rfl, x0⟩
  | true =>
  simp only [Bool.true_and, Bool.not_true, go_sem, Nat.reduceBEq]
  cases hT : fT v with
  | false =>
    simp only [Bool.false_and, Bool.not_false, go_sem, Nat.reduceBEq]
    exact ⟨rfl, x0⟩
  | true =>
  simp only [dk, dm, decide_true, decide_false, Bool.true_and, Bool.not_true, go_sem, Nat.reduceBEq, Int.reduceEq]
  by_cases c1 : v.kids.length ≤ 1
  case neg =>
    simp only [decide_eq_false c1, Bool.false_and, go_sem, Nat.reduceBEq]
    exact ⟨rfl, x0⟩
  simp only [decide_eq_true c1, Bool.true_and, go_sem, Nat.reduceBEq]
  try simp only [dk, dl0, dl1, dl2, dl3, dp, dm, ds, d23, d34, d12, decide_true, decide_false, Bool.true_and, Bool.false_and, Bool.and_true, Bool.and_false, Bool.or_true, Bool.or_false, Bool.true_or, Bool.false_or, Bool.not_true, Bool.not_false, go_sem, Nat.reduceBEq, Nat.reduceAdd, Nat.reduceLeDiff, Nat.reduceEqDiff, Int.reduceEq, not_false_eq_true, Int.reduceToNat]
  refine (sAll v.kids (fun e he => (ih e (Nd.size_lt he)).1) (by omega) _ _ (rd.mono x0)).mono ?_
  rintro _ g2 ⟨rfl, e2⟩
  try simp only [go_sem, Nat.reduceBEq]
  have x2 : Ext h g2 := (x0.trans e2)
  exact ⟨rfl, x2⟩
set_option maxHeartbeats 1600000 in
theorem sSt_41 (v : Nd) (hbk : v.bulk ≤ 1048576) (ih : ∀ e : Nd, e.size < v.size → SE e ∧ SS e) (hk : v.kind = 41) (sl : Value) (h : Hp) (rd : RdN h v.kids sl) : ACalls Try.prog 34 #[.agg #[.int .i64 v.kind, .int .i64 v.num, .string v.text, sl]] h (Is (.bool (sm v)) h) := by
  have hB := Nd.bulk_eq v
  have hL := Nd.bulks_len v.kids
  obtain ⟨a, c, xs, rfl, hc, hr, hat⟩ := rd.rows (by decide) v.kids.length (fm_len Nd.dt_len _)
  have dl0 : decide (((v.kids.length : Nat) : Int) = 0) = decide (v.kids.length = 0) := decide_eq_decide.2 (by omega)
  have dl1 : decide (((v.kids.length : Nat) : Int) = 1) = decide (v.kids.length = 1) := decide_eq_decide.2 (by omega)
  have dl2 : decide (((v.kids.length : Nat) : Int) = 2) = decide (v.kids.length = 2) := decide_eq_decide.2 (by omega)
  have dl3 : decide (((v.kids.length : Nat) : Int) = 3) = decide (v.kids.length = 3) := decide_eq_decide.2 (by omega)
  have dp : decide ((1 : Int) ≤ ((v.kids.length : Nat) : Int)) = decide (1 ≤ v.kids.length) := decide_eq_decide.2 (by omega)
  have dm : decide (((v.kids.length : Nat) : Int) ≤ 1) = decide (v.kids.length ≤ 1) := decide_eq_decide.2 (by omega)
  have ds : decide (((v.text.size : Nat) : Int) ≤ 400) = decide (v.text.size ≤ 400) := decide_eq_decide.2 (by omega)
  have d23 : decide ((2 : Int) ≤ ((v.kids.length : Nat) : Int) ∧ ((v.kids.length : Nat) : Int) ≤ 3) = decide (2 ≤ v.kids.length ∧ v.kids.length ≤ 3) := decide_eq_decide.2 (by omega)
  have d34 : decide ((3 : Int) ≤ ((v.kids.length : Nat) : Int) ∧ ((v.kids.length : Nat) : Int) ≤ 4) = decide (3 ≤ v.kids.length ∧ v.kids.length ≤ 4) := decide_eq_decide.2 (by omega)
  have d12 : decide ((1 : Int) ≤ ((v.kids.length : Nat) : Int) ∧ ((v.kids.length : Nat) : Int) ≤ 2) = decide (1 ≤ v.kids.length ∧ v.kids.length ≤ 2) := decide_eq_decide.2 (by omega)
  have dk : ∀ n : Int, decide (v.kind = n) = decide ((41 : Int) = n) := fun n => by rw [hk]
  have ex : sm v = (fN v && (fT v && (decide (v.kids.length = 1) && ((kid v.kids 0).aim2 && (xp (kid v.kids 0)))))) := by
    rw [sm_S]
    unfold stT
    rw [if_neg (by omega), if_neg (by omega), if_neg (by omega), if_pos (by omega)]
  rw [ex]
  (refine enter Try.func34 rfl rfl (by kernel_rfl) [] ?_; simp only [go_sem, Nat.reduceBEq, Nat.reduceAdd, Nat.reduceLeDiff])
  refine (sFields v hbk _ _ rd).mono ?_
  rintro _ h1 ⟨rfl, x0⟩
  try simp only [go_sem, Nat.reduceBEq]
  cases hN : fN v with
  | false =>
    simp only [Bool.false_and, Bool.not_false, go_sem, Nat.reduceBEq]
    exact ⟨rfl, x0⟩
  | true =>
  simp only [Bool.true_and, Bool.not_true, go_sem, Nat.reduceBEq]
  cases hT : fT v with
  | false =>
    simp only [Bool.false_and, Bool.not_false, go_sem, Nat.reduceBEq]
    exact ⟨rfl, x0⟩
  | true =>
  simp only [dk, dl1, decide_true, decide_false, Bool.true_and, Bool.not_true, go_sem, Nat.reduceBEq, Int.reduceEq]
  by_cases c1 : v.kids.length = 1
  case neg =>
    simp only [decide_eq_false c1, Bool.false_and, go_sem, Nat.reduceBEq]
    exact ⟨rfl, x0⟩
  simp only [decide_eq_true c1, Bool.true_and, go_sem, Nat.reduceBEq]
  try simp only [dk, dl0, dl1, dl2, dl3, dp, dm, ds, d23, d34, d12, decide_true, decide_false, Bool.true_and, Bool.false_and, Bool.and_true, Bool.and_false, Bool.or_true, Bool.or_false, Bool.true_or, Bool.false_or, Bool.not_true, Bool.not_false, go_sem, Nat.reduceBEq, Nat.reduceAdd, Nat.reduceLeDiff, Nat.reduceEqDiff, Int.reduceEq, not_false_eq_true, Int.reduceToNat]
  have kl1 : 0 < v.kids.length := by omega
  obtain ⟨bk1, ok1, ek1, hatk1⟩ := hat (by omega)
  cases ek1
  have ixk1 : ixA (some 4) (some ⟨bk1, ok1, none⟩) v.kids.length (0 : Int) = some (.pointer (some ⟨bk1, ok1 + 0 * 4, none⟩)) := ix_nat (i := 0) kl1
  try simp only [ixk1, go_sem, Nat.reduceBEq]
  refine hsem_node tyS29 (hatk1.mono x0) (hr.mono x0) (kid_get kl1) (by omega) fun sk1 rk1 => ?_
  obtain ⟨ak1, ck1, _, rfl, _⟩ := rk1.rows (by decide) (kid v.kids (0)).kids.length (fm_len Nd.dt_len _)
  try simp only [go_sem, Nat.reduceBEq]
  (refine (sTarget (kid v.kids 0) (kid_bulk (kid_mem kl1) (by omega)) _ _ rk1).mono ?_; rintro _ _ ⟨rfl, rfl⟩; simp only [go_sem, Nat.reduceBEq])
  cases c2 : (kid v.kids 0).aim2 with
  | false =>
    simp only [Bool.false_and, go_sem, Nat.reduceBEq]
    exact ⟨rfl, x0⟩
  | true =>
  simp only [Bool.true_and, go_sem, Nat.reduceBEq]
  try simp only [dk, dl0, dl1, dl2, dl3, dp, dm, ds, d23, d34, d12, decide_true, decide_false, Bool.true_and, Bool.false_and, Bool.and_true, Bool.and_false, Bool.or_true, Bool.or_false, Bool.true_or, Bool.false_or, Bool.not_true, Bool.not_false, go_sem, Nat.reduceBEq, Nat.reduceAdd, Nat.reduceLeDiff, Nat.reduceEqDiff, Int.reduceEq, not_false_eq_true, Int.reduceToNat]
  have kl2 : 0 < v.kids.length := by omega
  obtain ⟨bk2, ok2, ek2, hatk2⟩ := hat (by omega)
  cases ek2
  have ixk2 : ixA (some 4) (some ⟨bk1, ok1, none⟩) v.kids.length (0 : Int) = some (.pointer (some ⟨bk1, ok1 + 0 * 4, none⟩)) := ix_nat (i := 0) kl2
  try simp only [ixk2, go_sem, Nat.reduceBEq]
  refine hsem_node tyS29 (hatk2.mono x0) (hr.mono x0) (kid_get kl2) (by omega) fun sk2 rk2 => ?_
  obtain ⟨ak2, ck2, _, rfl, _⟩ := rk2.rows (by decide) (kid v.kids (0)).kids.length (fm_len Nd.dt_len _)
  try simp only [go_sem, Nat.reduceBEq]
  refine ((ih (kid v.kids (0)) (Nd.size_lt (kid_mem kl2))).1 (kid_bulk (kid_mem kl2) (by omega)) _ _ rk2).mono ?_
  rintro _ g3 ⟨rfl, e3⟩
  try simp only [go_sem, Nat.reduceBEq]
  have x3 : Ext h g3 := (x0.trans e3)
  exact ⟨rfl, x3⟩
set_option maxHeartbeats 1600000 in
theorem sSt_34 (v : Nd) (hbk : v.bulk ≤ 1048576) (ih : ∀ e : Nd, e.size < v.size → SE e ∧ SS e) (hk : v.kind = 34) (sl : Value) (h : Hp) (rd : RdN h v.kids sl) : ACalls Try.prog 34 #[.agg #[.int .i64 v.kind, .int .i64 v.num, .string v.text, sl]] h (Is (.bool (sm v)) h) := by
  have hB := Nd.bulk_eq v
  have hL := Nd.bulks_len v.kids
  obtain ⟨a, c, xs, rfl, hc, hr, hat⟩ := rd.rows (by decide) v.kids.length (fm_len Nd.dt_len _)
  have dl0 : decide (((v.kids.length : Nat) : Int) = 0) = decide (v.kids.length = 0) := decide_eq_decide.2 (by omega)
  have dl1 : decide (((v.kids.length : Nat) : Int) = 1) = decide (v.kids.length = 1) := decide_eq_decide.2 (by omega)
  have dl2 : decide (((v.kids.length : Nat) : Int) = 2) = decide (v.kids.length = 2) := decide_eq_decide.2 (by omega)
  have dl3 : decide (((v.kids.length : Nat) : Int) = 3) = decide (v.kids.length = 3) := decide_eq_decide.2 (by omega)
  have dp : decide ((1 : Int) ≤ ((v.kids.length : Nat) : Int)) = decide (1 ≤ v.kids.length) := decide_eq_decide.2 (by omega)
  have dm : decide (((v.kids.length : Nat) : Int) ≤ 1) = decide (v.kids.length ≤ 1) := decide_eq_decide.2 (by omega)
  have ds : decide (((v.text.size : Nat) : Int) ≤ 400) = decide (v.text.size ≤ 400) := decide_eq_decide.2 (by omega)
  have d23 : decide ((2 : Int) ≤ ((v.kids.length : Nat) : Int) ∧ ((v.kids.length : Nat) : Int) ≤ 3) = decide (2 ≤ v.kids.length ∧ v.kids.length ≤ 3) := decide_eq_decide.2 (by omega)
  have d34 : decide ((3 : Int) ≤ ((v.kids.length : Nat) : Int) ∧ ((v.kids.length : Nat) : Int) ≤ 4) = decide (3 ≤ v.kids.length ∧ v.kids.length ≤ 4) := decide_eq_decide.2 (by omega)
  have d12 : decide ((1 : Int) ≤ ((v.kids.length : Nat) : Int) ∧ ((v.kids.length : Nat) : Int) ≤ 2) = decide (1 ≤ v.kids.length ∧ v.kids.length ≤ 2) := decide_eq_decide.2 (by omega)
  have dk : ∀ n : Int, decide (v.kind = n) = decide ((34 : Int) = n) := fun n => by rw [hk]
  have ex : sm v = (fN v && (fT v && (decide (2 ≤ v.kids.length ∧ v.kids.length ≤ 3) && (xp (kid v.kids 0) && (nBlk sm (kid v.kids 1) && (nBlk sm (kid v.kids (v.kids.length - 1)))))))) := by
    rw [sm_S]
    unfold stT
    rw [if_neg (by omega), if_neg (by omega), if_neg (by omega), if_neg (by omega), if_pos (by omega)]
  rw [ex]
  (refine enter Try.func34 rfl rfl (by kernel_rfl) [] ?_; simp only [go_sem, Nat.reduceBEq, Nat.reduceAdd, Nat.reduceLeDiff])
  refine (sFields v hbk _ _ rd).mono ?_
  rintro _ h1 ⟨rfl, x0⟩
  try simp only [go_sem, Nat.reduceBEq]
  cases hN : fN v with
  | false =>
    simp only [Bool.false_and, Bool.not_false, go_sem, Nat.reduceBEq]
    exact ⟨rfl, x0⟩
  | true =>
  simp only [Bool.true_and, Bool.not_true, go_sem, Nat.reduceBEq]
  cases hT : fT v with
  | false =>
    simp only [Bool.false_and, Bool.not_false, go_sem, Nat.reduceBEq]
    exact ⟨rfl, x0⟩
  | true =>
  simp only [dk, decide_true, decide_false, Bool.true_and, Bool.not_true, go_sem, Nat.reduceBEq, Int.reduceEq]
  (refine (l1In_c _ _ _ _).mono ?_; rintro _ _ ⟨rfl, rfl⟩; simp only [go_sem, Nat.reduceBEq])
  try simp only [d23, go_sem]
  by_cases c1 : 2 ≤ v.kids.length ∧ v.kids.length ≤ 3
  case neg =>
    simp only [decide_eq_false c1, Bool.false_and, go_sem, Nat.reduceBEq]
    exact ⟨rfl, x0⟩
  simp only [decide_eq_true c1, Bool.true_and, go_sem, Nat.reduceBEq]
  try simp only [dk, dl0, dl1, dl2, dl3, dp, dm, ds, d23, d34, d12, decide_true, decide_false, Bool.true_and, Bool.false_and, Bool.and_true, Bool.and_false, Bool.or_true, Bool.or_false, Bool.true_or, Bool.false_or, Bool.not_true, Bool.not_false, go_sem, Nat.reduceBEq, Nat.reduceAdd, Nat.reduceLeDiff, Nat.reduceEqDiff, Int.reduceEq, not_false_eq_true, Int.reduceToNat]
  have hw : IntKind.i64.wrap (((v.kids.length : Nat) : Int) - 1) = ((v.kids.length - 1 : Nat) : Int) := by rw [IntWalk.i64_in _ (by omega)]; omega
  have kl1 : 0 < v.kids.length := by omega
  obtain ⟨bk1, ok1, ek1, hatk1⟩ := hat (by omega)
  cases ek1
  have ixk1 : ixA (some 4) (some ⟨bk1, ok1, none⟩) v.kids.length (0 : Int) = some (.pointer (some ⟨bk1, ok1 + 0 * 4, none⟩)) := ix_nat (i := 0) kl1
  try simp only [ixk1, go_sem, Nat.reduceBEq]
  refine hsem_node tyS29 (hatk1.mono x0) (hr.mono x0) (kid_get kl1) (by omega) fun sk1 rk1 => ?_
  obtain ⟨ak1, ck1, _, rfl, _⟩ := rk1.rows (by decide) (kid v.kids (0)).kids.length (fm_len Nd.dt_len _)
  try simp only [go_sem, Nat.reduceBEq]
  refine ((ih (kid v.kids (0)) (Nd.size_lt (kid_mem kl1))).1 (kid_bulk (kid_mem kl1) (by omega)) _ _ rk1).mono ?_
  rintro _ g2 ⟨rfl, e2⟩
  try simp only [go_sem, Nat.reduceBEq]
  have x2 : Ext h g2 := (x0.trans e2)
  cases c2 : xp (kid v.kids 0) with
  | false =>
    simp only [Bool.false_and, go_sem, Nat.reduceBEq]
    exact ⟨rfl, x2⟩
  | true =>
  simp only [Bool.true_and, go_sem, Nat.reduceBEq]
  try simp only [dk, dl0, dl1, dl2, dl3, dp, dm, ds, d23, d34, d12, hw, decide_true, decide_false, Bool.true_and, Bool.false_and, Bool.and_true, Bool.and_false, Bool.or_true, Bool.or_false, Bool.true_or, Bool.false_or, Bool.not_true, Bool.not_false, go_sem, Nat.reduceBEq, Nat.reduceAdd, Nat.reduceLeDiff, Nat.reduceEqDiff, Int.reduceEq, not_false_eq_true, Int.reduceToNat]
  have kl2 : 1 < v.kids.length := by omega
  obtain ⟨bk2, ok2, ek2, hatk2⟩ := hat (by omega)
  cases ek2
  have ixk2 : ixA (some 4) (some ⟨bk1, ok1, none⟩) v.kids.length (1 : Int) = some (.pointer (some ⟨bk1, ok1 + 1 * 4, none⟩)) := ix_nat (i := 1) kl2
  try simp only [ixk2, go_sem, Nat.reduceBEq]
  refine hsem_node tyS29 (hatk2.mono x2) (hr.mono x2) (kid_get kl2) (by omega) fun sk2 rk2 => ?_
  obtain ⟨ak2, ck2, _, rfl, _⟩ := rk2.rows (by decide) (kid v.kids (1)).kids.length (fm_len Nd.dt_len _)
  try simp only [go_sem, Nat.reduceBEq]
  refine (sBlk (kid v.kids (1)) (kid_bulk (kid_mem kl2) (by omega)) (fun u hu => (ih u (by have h1 := Nd.size_lt (kid_mem kl2); have h2 := Nd.size_lt hu; omega)).2) _ _ rk2).mono ?_
  rintro _ g3 ⟨rfl, e3⟩
  try simp only [go_sem, Nat.reduceBEq]
  have x3 : Ext h g3 := (x2.trans e3)
  cases c3 : nBlk sm (kid v.kids 1) with
  | false =>
    simp only [Bool.false_and, go_sem, Nat.reduceBEq]
    exact ⟨rfl, x3⟩
  | true =>
  simp only [Bool.true_and, hw, go_sem, Nat.reduceBEq]
  try simp only [dk, dl0, dl1, dl2, dl3, dp, dm, ds, d23, d34, d12, hw, decide_true, decide_false, Bool.true_and, Bool.false_and, Bool.and_true, Bool.and_false, Bool.or_true, Bool.or_false, Bool.true_or, Bool.false_or, Bool.not_true, Bool.not_false, go_sem, Nat.reduceBEq, Nat.reduceAdd, Nat.reduceLeDiff, Nat.reduceEqDiff, Int.reduceEq, not_false_eq_true, Int.reduceToNat]
  have kl3 : v.kids.length - 1 < v.kids.length := by omega
  obtain ⟨bk3, ok3, ek3, hatk3⟩ := hat (by omega)
  cases ek3
  try simp only [ix_nat kl3, go_sem, Nat.reduceBEq]
  refine hsem_node tyS29 (hatk3.mono x3) (hr.mono x3) (kid_get kl3) (by omega) fun sk3 rk3 => ?_
  obtain ⟨ak3, ck3, _, rfl, _⟩ := rk3.rows (by decide) (kid v.kids (v.kids.length - 1)).kids.length (fm_len Nd.dt_len _)
  try simp only [go_sem, Nat.reduceBEq]
  refine (sBlk (kid v.kids (v.kids.length - 1)) (kid_bulk (kid_mem kl3) (by omega)) (fun u hu => (ih u (by have h1 := Nd.size_lt (kid_mem kl3); have h2 := Nd.size_lt hu; omega)).2) _ _ rk3).mono ?_
  rintro _ g4 ⟨rfl, e4⟩
  try simp only [go_sem, Nat.reduceBEq]
  have x4 : Ext h g4 := (x3.trans e4)
  exact ⟨rfl, x4⟩
set_option maxHeartbeats 1600000 in
theorem sSt_35 (v : Nd) (hbk : v.bulk ≤ 1048576) (ih : ∀ e : Nd, e.size < v.size → SE e ∧ SS e) (hk : v.kind = 35) (sl : Value) (h : Hp) (rd : RdN h v.kids sl) : ACalls Try.prog 34 #[.agg #[.int .i64 v.kind, .int .i64 v.num, .string v.text, sl]] h (Is (.bool (sm v)) h) := by
  have hB := Nd.bulk_eq v
  have hL := Nd.bulks_len v.kids
  obtain ⟨a, c, xs, rfl, hc, hr, hat⟩ := rd.rows (by decide) v.kids.length (fm_len Nd.dt_len _)
  have dl0 : decide (((v.kids.length : Nat) : Int) = 0) = decide (v.kids.length = 0) := decide_eq_decide.2 (by omega)
  have dl1 : decide (((v.kids.length : Nat) : Int) = 1) = decide (v.kids.length = 1) := decide_eq_decide.2 (by omega)
  have dl2 : decide (((v.kids.length : Nat) : Int) = 2) = decide (v.kids.length = 2) := decide_eq_decide.2 (by omega)
  have dl3 : decide (((v.kids.length : Nat) : Int) = 3) = decide (v.kids.length = 3) := decide_eq_decide.2 (by omega)
  have dp : decide ((1 : Int) ≤ ((v.kids.length : Nat) : Int)) = decide (1 ≤ v.kids.length) := decide_eq_decide.2 (by omega)
  have dm : decide (((v.kids.length : Nat) : Int) ≤ 1) = decide (v.kids.length ≤ 1) := decide_eq_decide.2 (by omega)
  have ds : decide (((v.text.size : Nat) : Int) ≤ 400) = decide (v.text.size ≤ 400) := decide_eq_decide.2 (by omega)
  have d23 : decide ((2 : Int) ≤ ((v.kids.length : Nat) : Int) ∧ ((v.kids.length : Nat) : Int) ≤ 3) = decide (2 ≤ v.kids.length ∧ v.kids.length ≤ 3) := decide_eq_decide.2 (by omega)
  have d34 : decide ((3 : Int) ≤ ((v.kids.length : Nat) : Int) ∧ ((v.kids.length : Nat) : Int) ≤ 4) = decide (3 ≤ v.kids.length ∧ v.kids.length ≤ 4) := decide_eq_decide.2 (by omega)
  have d12 : decide ((1 : Int) ≤ ((v.kids.length : Nat) : Int) ∧ ((v.kids.length : Nat) : Int) ≤ 2) = decide (1 ≤ v.kids.length ∧ v.kids.length ≤ 2) := decide_eq_decide.2 (by omega)
  have dk : ∀ n : Int, decide (v.kind = n) = decide ((35 : Int) = n) := fun n => by rw [hk]
  have ex : sm v = (fN v && (fT v && (decide (v.kids.length = 2) && (xp (kid v.kids 0) && (nBlk sm (kid v.kids 1)))))) := by
    rw [sm_S]
    unfold stT
    rw [if_neg (by omega), if_neg (by omega), if_neg (by omega), if_neg (by omega), if_neg (by omega), if_pos (by omega)]
  rw [ex]
  (refine enter Try.func34 rfl rfl (by kernel_rfl) [] ?_; simp only [go_sem, Nat.reduceBEq, Nat.reduceAdd, Nat.reduceLeDiff])
  refine (sFields v hbk _ _ rd).mono ?_
  rintro _ h1 ⟨rfl, x0⟩
  try simp only [go_sem, Nat.reduceBEq]
  cases hN : fN v with
  | false =>
    simp only [Bool.false_and, Bool.not_false, go_sem, Nat.reduceBEq]
    exact ⟨rfl, x0⟩
  | true =>
  simp only [Bool.true_and, Bool.not_true, go_sem, Nat.reduceBEq]
  cases hT : fT v with
  | false =>
    simp only [Bool.false_and, Bool.not_false, go_sem, Nat.reduceBEq]
    exact ⟨rfl, x0⟩
  | true =>
  simp only [dk, dl2, decide_true, decide_false, Bool.true_and, Bool.not_true, go_sem, Nat.reduceBEq, Int.reduceEq]
  by_cases c1 : v.kids.length = 2
  case neg =>
    simp only [decide_eq_false c1, Bool.false_and, go_sem, Nat.reduceBEq]
    exact ⟨rfl, x0⟩
  simp only [decide_eq_true c1, Bool.true_and, go_sem, Nat.reduceBEq]
  try simp only [dk, dl0, dl1, dl2, dl3, dp, dm, ds, d23, d34, d12, decide_true, decide_false, Bool.true_and, Bool.false_and, Bool.and_true, Bool.and_false, Bool.or_true, Bool.or_false, Bool.true_or, Bool.false_or, Bool.not_true, Bool.not_false, go_sem, Nat.reduceBEq, Nat.reduceAdd, Nat.reduceLeDiff, Nat.reduceEqDiff, Int.reduceEq, not_false_eq_true, Int.reduceToNat]
  have kl1 : 0 < v.kids.length := by omega
  obtain ⟨bk1, ok1, ek1, hatk1⟩ := hat (by omega)
  cases ek1
  have ixk1 : ixA (some 4) (some ⟨bk1, ok1, none⟩) v.kids.length (0 : Int) = some (.pointer (some ⟨bk1, ok1 + 0 * 4, none⟩)) := ix_nat (i := 0) kl1
  try simp only [ixk1, go_sem, Nat.reduceBEq]
  refine hsem_node tyS29 (hatk1.mono x0) (hr.mono x0) (kid_get kl1) (by omega) fun sk1 rk1 => ?_
  obtain ⟨ak1, ck1, _, rfl, _⟩ := rk1.rows (by decide) (kid v.kids (0)).kids.length (fm_len Nd.dt_len _)
  try simp only [go_sem, Nat.reduceBEq]
  refine ((ih (kid v.kids (0)) (Nd.size_lt (kid_mem kl1))).1 (kid_bulk (kid_mem kl1) (by omega)) _ _ rk1).mono ?_
  rintro _ g2 ⟨rfl, e2⟩
  try simp only [go_sem, Nat.reduceBEq]
  have x2 : Ext h g2 := (x0.trans e2)
  cases c2 : xp (kid v.kids 0) with
  | false =>
    simp only [Bool.false_and, go_sem, Nat.reduceBEq]
    exact ⟨rfl, x2⟩
  | true =>
  simp only [Bool.true_and, go_sem, Nat.reduceBEq]
  try simp only [dk, dl0, dl1, dl2, dl3, dp, dm, ds, d23, d34, d12, decide_true, decide_false, Bool.true_and, Bool.false_and, Bool.and_true, Bool.and_false, Bool.or_true, Bool.or_false, Bool.true_or, Bool.false_or, Bool.not_true, Bool.not_false, go_sem, Nat.reduceBEq, Nat.reduceAdd, Nat.reduceLeDiff, Nat.reduceEqDiff, Int.reduceEq, not_false_eq_true, Int.reduceToNat]
  have kl2 : 1 < v.kids.length := by omega
  obtain ⟨bk2, ok2, ek2, hatk2⟩ := hat (by omega)
  cases ek2
  have ixk2 : ixA (some 4) (some ⟨bk1, ok1, none⟩) v.kids.length (1 : Int) = some (.pointer (some ⟨bk1, ok1 + 1 * 4, none⟩)) := ix_nat (i := 1) kl2
  try simp only [ixk2, go_sem, Nat.reduceBEq]
  refine hsem_node tyS29 (hatk2.mono x2) (hr.mono x2) (kid_get kl2) (by omega) fun sk2 rk2 => ?_
  obtain ⟨ak2, ck2, _, rfl, _⟩ := rk2.rows (by decide) (kid v.kids (1)).kids.length (fm_len Nd.dt_len _)
  try simp only [go_sem, Nat.reduceBEq]
  refine (sBlk (kid v.kids (1)) (kid_bulk (kid_mem kl2) (by omega)) (fun u hu => (ih u (by have h1 := Nd.size_lt (kid_mem kl2); have h2 := Nd.size_lt hu; omega)).2) _ _ rk2).mono ?_
  rintro _ g3 ⟨rfl, e3⟩
  try simp only [go_sem, Nat.reduceBEq]
  have x3 : Ext h g3 := (x2.trans e3)
  exact ⟨rfl, x3⟩
set_option maxHeartbeats 1600000 in
theorem sSt_36 (v : Nd) (hbk : v.bulk ≤ 1048576) (ih : ∀ e : Nd, e.size < v.size → SE e ∧ SS e) (hk : v.kind = 36) (sl : Value) (h : Hp) (rd : RdN h v.kids sl) : ACalls Try.prog 34 #[.agg #[.int .i64 v.kind, .int .i64 v.num, .string v.text, sl]] h (Is (.bool (sm v)) h) := by
  have hB := Nd.bulk_eq v
  have hL := Nd.bulks_len v.kids
  obtain ⟨a, c, xs, rfl, hc, hr, hat⟩ := rd.rows (by decide) v.kids.length (fm_len Nd.dt_len _)
  have dl0 : decide (((v.kids.length : Nat) : Int) = 0) = decide (v.kids.length = 0) := decide_eq_decide.2 (by omega)
  have dl1 : decide (((v.kids.length : Nat) : Int) = 1) = decide (v.kids.length = 1) := decide_eq_decide.2 (by omega)
  have dl2 : decide (((v.kids.length : Nat) : Int) = 2) = decide (v.kids.length = 2) := decide_eq_decide.2 (by omega)
  have dl3 : decide (((v.kids.length : Nat) : Int) = 3) = decide (v.kids.length = 3) := decide_eq_decide.2 (by omega)
  have dp : decide ((1 : Int) ≤ ((v.kids.length : Nat) : Int)) = decide (1 ≤ v.kids.length) := decide_eq_decide.2 (by omega)
  have dm : decide (((v.kids.length : Nat) : Int) ≤ 1) = decide (v.kids.length ≤ 1) := decide_eq_decide.2 (by omega)
  have ds : decide (((v.text.size : Nat) : Int) ≤ 400) = decide (v.text.size ≤ 400) := decide_eq_decide.2 (by omega)
  have d23 : decide ((2 : Int) ≤ ((v.kids.length : Nat) : Int) ∧ ((v.kids.length : Nat) : Int) ≤ 3) = decide (2 ≤ v.kids.length ∧ v.kids.length ≤ 3) := decide_eq_decide.2 (by omega)
  have d34 : decide ((3 : Int) ≤ ((v.kids.length : Nat) : Int) ∧ ((v.kids.length : Nat) : Int) ≤ 4) = decide (3 ≤ v.kids.length ∧ v.kids.length ≤ 4) := decide_eq_decide.2 (by omega)
  have d12 : decide ((1 : Int) ≤ ((v.kids.length : Nat) : Int) ∧ ((v.kids.length : Nat) : Int) ≤ 2) = decide (1 ≤ v.kids.length ∧ v.kids.length ≤ 2) := decide_eq_decide.2 (by omega)
  have dk : ∀ n : Int, decide (v.kind = n) = decide ((36 : Int) = n) := fun n => by rw [hk]
  have ex : sm v = (fN v && (fT v && (decide (3 ≤ v.kids.length ∧ v.kids.length ≤ 4) && ((v.kids.take (v.kids.length - 1)).all xp && (decide ((kid v.kids 1).kind = 4) && (decide ((kid v.kids (v.kids.length - 2)).kind = 4) && (nBlk sm (kid v.kids (v.kids.length - 1))))))))) := by
    rw [sm_S]
    unfold stT
    rw [if_neg (by omega), if_neg (by omega), if_neg (by omega), if_neg (by omega), if_neg (by omega), if_neg (by omega), if_pos (by omega)]
  rw [ex]
  (refine enter Try.func34 rfl rfl (by kernel_rfl) [] ?_; simp only [go_sem, Nat.reduceBEq, Nat.reduceAdd, Nat.reduceLeDiff])
  refine (sFields v hbk _ _ rd).mono ?_
  rintro _ h1 ⟨rfl, x0⟩
  try simp only [go_sem, Nat.reduceBEq]
  cases hN : fN v with
  | false =>
    simp only [Bool.false_and, Bool.not_false, go_sem, Nat.reduceBEq]
    exact ⟨rfl, x0⟩
  | true =>
  simp only [Bool.true_and, Bool.not_true, go_sem, Nat.reduceBEq]
  cases hT : fT v with
  | false =>
    simp only [Bool.false_and, Bool.not_false, go_sem, Nat.reduceBEq]
    exact ⟨rfl, x0⟩
  | true =>
  simp only [dk, decide_true, decide_false, Bool.true_and, Bool.not_true, go_sem, Nat.reduceBEq, Int.reduceEq]
  have hw1 : 3 ≤ v.kids.length → IntKind.i64.wrap (((v.kids.length : Nat) : Int) - 1) = ((v.kids.length - 1 : Nat) : Int) := fun q => by rw [IntWalk.i64_in _ (by omega)]; omega
  have hw1b : 3 ≤ v.kids.length → IntKind.i64.wrap (((v.kids.length : Nat) : Int) - 2) = ((v.kids.length - 2 : Nat) : Int) := fun q => by rw [IntWalk.i64_in _ (by omega)]; omega
  have e36 : 3 ≤ v.kids.length → ∃ a3, slA (some 4) a v.kids.length c (0 : Int) ((v.kids.length - 1 : Nat) : Int) = some (.slice a3 (v.kids.length - 1) c) ∧ RdN h (v.kids.take (v.kids.length - 1)) (.slice a3 (v.kids.length - 1) c) := fun q => by
    obtain ⟨a3, ys3, e3, rs3, rl3⟩ := Rd.sub Nd.dt_len rd 0 (v.kids.length - 1) (by omega) (by omega)
    have e3 : slA (some 4) a v.kids.length c (0 : Int) ((v.kids.length - 1 : Nat) : Int) = some (.slice a3 (v.kids.length - 1 - 0) (c - 0)) := e3
    simp only [Nat.sub_zero] at e3 rs3
    refine ⟨a3, e3, ?_⟩
    simp only [Rd]
    exact ⟨_, rs3, by simpa using rl3⟩
  (refine (l1In_c _ _ _ _).mono ?_; rintro _ _ ⟨rfl, rfl⟩; simp only [go_sem, Nat.reduceBEq])
  try simp only [d34, go_sem]
  by_cases c1 : 3 ≤ v.kids.length ∧ v.kids.length ≤ 4
  case neg =>
    simp only [decide_eq_false c1, Bool.false_and, go_sem, Nat.reduceBEq]
    exact ⟨rfl, x0⟩
  have hw2 := hw1b c1.1
  obtain ⟨a3, e3, rp3⟩ := e36 c1.1
  have hw := hw1 c1.1
  simp only [e3, hw, decide_eq_true c1, Bool.true_and, go_sem, Nat.reduceBEq]
  try simp only [dk, dl0, dl1, dl2, dl3, dp, dm, ds, d23, d34, d12, decide_true, decide_false, Bool.true_and, Bool.false_and, Bool.and_true, Bool.and_false, Bool.or_true, Bool.or_false, Bool.true_or, Bool.false_or, Bool.not_true, Bool.not_false, go_sem, Nat.reduceBEq, Nat.reduceAdd, Nat.reduceLeDiff, Nat.reduceEqDiff, Int.reduceEq, not_false_eq_true, Int.reduceToNat]
  refine (sAll (v.kids.take (v.kids.length - 1)) (fun e he => (ih e (Nd.size_lt (List.mem_of_mem_take he))).1) (by have := take_bulks v.kids (v.kids.length - 1); omega) _ _ (rp3.mono x0)).mono ?_
  rintro _ g2 ⟨rfl, e2⟩
  try simp only [go_sem, Nat.reduceBEq]
  have x2 : Ext h g2 := (x0.trans e2)
  cases c2 : (v.kids.take (v.kids.length - 1)).all xp with
  | false =>
    simp only [Bool.false_and, go_sem, Nat.reduceBEq]
    exact ⟨rfl, x2⟩
  | true =>
  simp only [Bool.true_and, go_sem, Nat.reduceBEq]
  try simp only [dk, dl0, dl1, dl2, dl3, dp, dm, ds, d23, d34, d12, e3, hw, hw2, decide_true, decide_false, Bool.true_and, Bool.false_and, Bool.and_true, Bool.and_false, Bool.or_true, Bool.or_false, Bool.true_or, Bool.false_or, Bool.not_true, Bool.not_false, go_sem, Nat.reduceBEq, Nat.reduceAdd, Nat.reduceLeDiff, Nat.reduceEqDiff, Int.reduceEq, not_false_eq_true, Int.reduceToNat]
  have kl1 : 1 < v.kids.length := by omega
  obtain ⟨bk1, ok1, ek1, hatk1⟩ := hat (by omega)
  cases ek1
  have ixk1 : ixA (some 4) (some ⟨bk1, ok1, none⟩) v.kids.length (1 : Int) = some (.pointer (some ⟨bk1, ok1 + 1 * 4, none⟩)) := ix_nat (i := 1) kl1
  try simp only [ixk1, go_sem, Nat.reduceBEq]
  refine hsem_kind tyS3 (hatk1.mono x2) (hr.mono x2) (kid_get kl1) (by omega) ?_
  try simp only [go_sem, Nat.reduceBEq]
  by_cases c3 : (kid v.kids 1).kind = 4
  case neg =>
    simp only [decide_eq_false c3, Bool.false_and, go_sem, Nat.reduceBEq]
    exact ⟨rfl, x2⟩
  simp only [decide_eq_true c3, Bool.true_and, hw2, go_sem, Nat.reduceBEq]
  try simp only [dk, dl0, dl1, dl2, dl3, dp, dm, ds, d23, d34, d12, e3, hw, hw2, decide_true, decide_false, Bool.true_and, Bool.false_and, Bool.and_true, Bool.and_false, Bool.or_true, Bool.or_false, Bool.true_or, Bool.false_or, Bool.not_true, Bool.not_false, go_sem, Nat.reduceBEq, Nat.reduceAdd, Nat.reduceLeDiff, Nat.reduceEqDiff, Int.reduceEq, not_false_eq_true, Int.reduceToNat]
  have kl2 : v.kids.length - 2 < v.kids.length := by omega
  obtain ⟨bk2, ok2, ek2, hatk2⟩ := hat (by omega)
  cases ek2
  try simp only [ix_nat kl2, go_sem, Nat.reduceBEq]
  refine hsem_kind tyS3 (hatk2.mono x2) (hr.mono x2) (kid_get kl2) (by omega) ?_
  try simp only [go_sem, Nat.reduceBEq]
  by_cases c4 : (kid v.kids (v.kids.length - 2)).kind = 4
  case neg =>
    simp only [decide_eq_false c4, Bool.false_and, go_sem, Nat.reduceBEq]
    exact ⟨rfl, x2⟩
  simp only [decide_eq_true c4, Bool.true_and, hw, go_sem, Nat.reduceBEq]
  try simp only [dk, dl0, dl1, dl2, dl3, dp, dm, ds, d23, d34, d12, e3, hw, hw2, decide_true, decide_false, Bool.true_and, Bool.false_and, Bool.and_true, Bool.and_false, Bool.or_true, Bool.or_false, Bool.true_or, Bool.false_or, Bool.not_true, Bool.not_false, go_sem, Nat.reduceBEq, Nat.reduceAdd, Nat.reduceLeDiff, Nat.reduceEqDiff, Int.reduceEq, not_false_eq_true, Int.reduceToNat]
  have kl3 : v.kids.length - 1 < v.kids.length := by omega
  obtain ⟨bk3, ok3, ek3, hatk3⟩ := hat (by omega)
  cases ek3
  try simp only [ix_nat kl3, go_sem, Nat.reduceBEq]
  refine hsem_node tyS29 (hatk3.mono x2) (hr.mono x2) (kid_get kl3) (by omega) fun sk3 rk3 => ?_
  obtain ⟨ak3, ck3, _, rfl, _⟩ := rk3.rows (by decide) (kid v.kids (v.kids.length - 1)).kids.length (fm_len Nd.dt_len _)
  try simp only [go_sem, Nat.reduceBEq]
  refine (sBlk (kid v.kids (v.kids.length - 1)) (kid_bulk (kid_mem kl3) (by omega)) (fun u hu => (ih u (by have h1 := Nd.size_lt (kid_mem kl3); have h2 := Nd.size_lt hu; omega)).2) _ _ rk3).mono ?_
  rintro _ g5 ⟨rfl, e5⟩
  try simp only [go_sem, Nat.reduceBEq]
  have x5 : Ext h g5 := (x2.trans e5)
  exact ⟨rfl, x5⟩
set_option maxHeartbeats 1600000 in
theorem sSt_46 (v : Nd) (hbk : v.bulk ≤ 1048576) (ih : ∀ e : Nd, e.size < v.size → SE e ∧ SS e) (hk : v.kind = 46) (sl : Value) (h : Hp) (rd : RdN h v.kids sl) : ACalls Try.prog 34 #[.agg #[.int .i64 v.kind, .int .i64 v.num, .string v.text, sl]] h (Is (.bool (sm v)) h) := by
  have hB := Nd.bulk_eq v
  have hL := Nd.bulks_len v.kids
  obtain ⟨a, c, xs, rfl, hc, hr, hat⟩ := rd.rows (by decide) v.kids.length (fm_len Nd.dt_len _)
  have dl0 : decide (((v.kids.length : Nat) : Int) = 0) = decide (v.kids.length = 0) := decide_eq_decide.2 (by omega)
  have dl1 : decide (((v.kids.length : Nat) : Int) = 1) = decide (v.kids.length = 1) := decide_eq_decide.2 (by omega)
  have dl2 : decide (((v.kids.length : Nat) : Int) = 2) = decide (v.kids.length = 2) := decide_eq_decide.2 (by omega)
  have dl3 : decide (((v.kids.length : Nat) : Int) = 3) = decide (v.kids.length = 3) := decide_eq_decide.2 (by omega)
  have dp : decide ((1 : Int) ≤ ((v.kids.length : Nat) : Int)) = decide (1 ≤ v.kids.length) := decide_eq_decide.2 (by omega)
  have dm : decide (((v.kids.length : Nat) : Int) ≤ 1) = decide (v.kids.length ≤ 1) := decide_eq_decide.2 (by omega)
  have ds : decide (((v.text.size : Nat) : Int) ≤ 400) = decide (v.text.size ≤ 400) := decide_eq_decide.2 (by omega)
  have d23 : decide ((2 : Int) ≤ ((v.kids.length : Nat) : Int) ∧ ((v.kids.length : Nat) : Int) ≤ 3) = decide (2 ≤ v.kids.length ∧ v.kids.length ≤ 3) := decide_eq_decide.2 (by omega)
  have d34 : decide ((3 : Int) ≤ ((v.kids.length : Nat) : Int) ∧ ((v.kids.length : Nat) : Int) ≤ 4) = decide (3 ≤ v.kids.length ∧ v.kids.length ≤ 4) := decide_eq_decide.2 (by omega)
  have d12 : decide ((1 : Int) ≤ ((v.kids.length : Nat) : Int) ∧ ((v.kids.length : Nat) : Int) ≤ 2) = decide (1 ≤ v.kids.length ∧ v.kids.length ≤ 2) := decide_eq_decide.2 (by omega)
  have dk : ∀ n : Int, decide (v.kind = n) = decide ((46 : Int) = n) := fun n => by rw [hk]
  have ex : sm v = (fN v && (fT v && (decide (1 ≤ v.kids.length ∧ v.kids.length ≤ 2) && (v.kids.all xp && (decide (v.kids.length = 1) || decide ((kid v.kids 0).kind = 4)))))) := by
    rw [sm_S]
    unfold stT
    rw [if_neg (by omega), if_neg (by omega), if_neg (by omega), if_neg (by omega), if_neg (by omega), if_neg (by omega), if_neg (by omega), if_pos (by omega)]
  rw [ex]
  (refine enter Try.func34 rfl rfl (by kernel_rfl) [] ?_; simp only [go_sem, Nat.reduceBEq, Nat.reduceAdd, Nat.reduceLeDiff])
  refine (sFields v hbk _ _ rd).mono ?_
  rintro _ h1 ⟨rfl, x0⟩
  try simp only [go_sem, Nat.reduceBEq]
  cases hN : fN v with
  | false =>
    simp only [Bool.false_and, Bool.not_false, go_sem, Nat.reduceBEq]
    exact ⟨rfl, x0⟩
  | true =>
  simp only [Bool.true_and, Bool.not_true, go_sem, Nat.reduceBEq]
  cases hT : fT v with
  | false =>
    simp only [Bool.false_and, Bool.not_false, go_sem, Nat.reduceBEq]
    exact ⟨rfl, x0⟩
  | true =>
  simp only [dk, decide_true, decide_false, Bool.true_and, Bool.not_true, go_sem, Nat.reduceBEq, Int.reduceEq]
  (refine (l1In_c _ _ _ _).mono ?_; rintro _ _ ⟨rfl, rfl⟩; simp only [go_sem, Nat.reduceBEq])
  try simp only [d12, go_sem]
  by_cases c1 : 1 ≤ v.kids.length ∧ v.kids.length ≤ 2
  case neg =>
    simp only [decide_eq_false c1, Bool.false_and, go_sem, Nat.reduceBEq]
    exact ⟨rfl, x0⟩
  simp only [decide_eq_true c1, Bool.true_and, go_sem, Nat.reduceBEq]
  try simp only [dk, dl0, dl1, dl2, dl3, dp, dm, ds, d23, d34, d12, decide_true, decide_false, Bool.true_and, Bool.false_and, Bool.and_true, Bool.and_false, Bool.or_true, Bool.or_false, Bool.true_or, Bool.false_or, Bool.not_true, Bool.not_false, go_sem, Nat.reduceBEq, Nat.reduceAdd, Nat.reduceLeDiff, Nat.reduceEqDiff, Int.reduceEq, not_false_eq_true, Int.reduceToNat]
  refine (sAll v.kids (fun e he => (ih e (Nd.size_lt he)).1) (by omega) _ _ (rd.mono x0)).mono ?_
  rintro _ g2 ⟨rfl, e2⟩
  try simp only [go_sem, Nat.reduceBEq]
  have x2 : Ext h g2 := (x0.trans e2)
  cases c2 : v.kids.all xp with
  | false =>
    simp only [Bool.false_and, go_sem, Nat.reduceBEq]
    exact ⟨rfl, x2⟩
  | true =>
  simp only [Bool.true_and, dl1, go_sem, Nat.reduceBEq]
  try simp only [dk, dl0, dl1, dl2, dl3, dp, dm, ds, d23, d34, d12, decide_true, decide_false, Bool.true_and, Bool.false_and, Bool.and_true, Bool.and_false, Bool.or_true, Bool.or_false, Bool.true_or, Bool.false_or, Bool.not_true, Bool.not_false, go_sem, Nat.reduceBEq, Nat.reduceAdd, Nat.reduceLeDiff, Nat.reduceEqDiff, Int.reduceEq, not_false_eq_true, Int.reduceToNat]
  by_cases l1 : v.kids.length = 1
  · simp only [decide_eq_true l1, Bool.true_or, go_sem, Nat.reduceBEq]
    exact ⟨rfl, x2⟩
  simp only [decide_eq_false l1, Bool.false_or, go_sem, Nat.reduceBEq]
  have kl1 : 0 < v.kids.length := by omega
  obtain ⟨bk1, ok1, ek1, hatk1⟩ := hat (by omega)
  cases ek1
  have ixk1 : ixA (some 4) (some ⟨bk1, ok1, none⟩) v.kids.length (0 : Int) = some (.pointer (some ⟨bk1, ok1 + 0 * 4, none⟩)) := ix_nat (i := 0) kl1
  try simp only [ixk1, go_sem, Nat.reduceBEq]
  refine hsem_kind tyS3 (hatk1.mono x2) (hr.mono x2) (kid_get kl1) (by omega) ?_
  try simp only [go_sem, Nat.reduceBEq]
  exact ⟨rfl, x2⟩
set_option maxHeartbeats 1600000 in
theorem sSt_48 (v : Nd) (hbk : v.bulk ≤ 1048576) (ih : ∀ e : Nd, e.size < v.size → SE e ∧ SS e) (hk : v.kind = 48) (sl : Value) (h : Hp) (rd : RdN h v.kids sl) : ACalls Try.prog 34 #[.agg #[.int .i64 v.kind, .int .i64 v.num, .string v.text, sl]] h (Is (.bool (sm v)) h) := by
  have hB := Nd.bulk_eq v
  have hL := Nd.bulks_len v.kids
  obtain ⟨a, c, xs, rfl, hc, hr, hat⟩ := rd.rows (by decide) v.kids.length (fm_len Nd.dt_len _)
  have dl0 : decide (((v.kids.length : Nat) : Int) = 0) = decide (v.kids.length = 0) := decide_eq_decide.2 (by omega)
  have dl1 : decide (((v.kids.length : Nat) : Int) = 1) = decide (v.kids.length = 1) := decide_eq_decide.2 (by omega)
  have dl2 : decide (((v.kids.length : Nat) : Int) = 2) = decide (v.kids.length = 2) := decide_eq_decide.2 (by omega)
  have dl3 : decide (((v.kids.length : Nat) : Int) = 3) = decide (v.kids.length = 3) := decide_eq_decide.2 (by omega)
  have dp : decide ((1 : Int) ≤ ((v.kids.length : Nat) : Int)) = decide (1 ≤ v.kids.length) := decide_eq_decide.2 (by omega)
  have dm : decide (((v.kids.length : Nat) : Int) ≤ 1) = decide (v.kids.length ≤ 1) := decide_eq_decide.2 (by omega)
  have ds : decide (((v.text.size : Nat) : Int) ≤ 400) = decide (v.text.size ≤ 400) := decide_eq_decide.2 (by omega)
  have d23 : decide ((2 : Int) ≤ ((v.kids.length : Nat) : Int) ∧ ((v.kids.length : Nat) : Int) ≤ 3) = decide (2 ≤ v.kids.length ∧ v.kids.length ≤ 3) := decide_eq_decide.2 (by omega)
  have d34 : decide ((3 : Int) ≤ ((v.kids.length : Nat) : Int) ∧ ((v.kids.length : Nat) : Int) ≤ 4) = decide (3 ≤ v.kids.length ∧ v.kids.length ≤ 4) := decide_eq_decide.2 (by omega)
  have d12 : decide ((1 : Int) ≤ ((v.kids.length : Nat) : Int) ∧ ((v.kids.length : Nat) : Int) ≤ 2) = decide (1 ≤ v.kids.length ∧ v.kids.length ≤ 2) := decide_eq_decide.2 (by omega)
  have dk : ∀ n : Int, decide (v.kind = n) = decide ((48 : Int) = n) := fun n => by rw [hk]
  have ex : sm v = (fN v && (fT v && (nBlk sm v))) := by
    rw [sm_S]
    unfold stT
    rw [if_neg (by omega), if_neg (by omega), if_neg (by omega), if_neg (by omega), if_neg (by omega), if_neg (by omega), if_neg (by omega), if_neg (by omega), if_pos (by omega)]
  rw [ex]
  (refine enter Try.func34 rfl rfl (by kernel_rfl) [] ?_; simp only [go_sem, Nat.reduceBEq, Nat.reduceAdd, Nat.reduceLeDiff])
  refine (sFields v hbk _ _ rd).mono ?_
  rintro _ h1 ⟨rfl, x0⟩
  try simp only [go_sem, Nat.reduceBEq]
  cases hN : fN v with
  | false =>
    simp only [Bool.false_and, Bool.not_false, go_sem, Nat.reduceBEq]
    exact ⟨rfl, x0⟩
  | true =>
  simp only [Bool.true_and, Bool.not_true, go_sem, Nat.reduceBEq]
  cases hT : fT v with
  | false =>
    simp only [Bool.false_and, Bool.not_false, go_sem, Nat.reduceBEq]
    exact ⟨rfl, x0⟩
  | true =>
  simp only [dk, decide_true, decide_false, Bool.true_and, Bool.not_true, go_sem, Nat.reduceBEq, Nat.reduceAdd, Nat.reduceLeDiff, Int.reduceEq]
  refine (sBlk v hbk (fun e he => (ih e (Nd.size_lt he)).2) _ _ (rd.mono x0)).mono ?_
  rintro _ g1 ⟨rfl, e1⟩
  try simp only [go_sem, Nat.reduceBEq]
  have x1 : Ext h g1 := (x0.trans e1)
  exact ⟨rfl, x1⟩
set_option maxHeartbeats 1600000 in
theorem sSt_43 (v : Nd) (hbk : v.bulk ≤ 1048576) (ih : ∀ e : Nd, e.size < v.size → SE e ∧ SS e) (hk : v.kind = 43) (sl : Value) (h : Hp) (rd : RdN h v.kids sl) : ACalls Try.prog 34 #[.agg #[.int .i64 v.kind, .int .i64 v.num, .string v.text, sl]] h (Is (.bool (sm v)) h) := by
  have hB := Nd.bulk_eq v
  have hL := Nd.bulks_len v.kids
  obtain ⟨a, c, xs, rfl, hc, hr, hat⟩ := rd.rows (by decide) v.kids.length (fm_len Nd.dt_len _)
  have dl0 : decide (((v.kids.length : Nat) : Int) = 0) = decide (v.kids.length = 0) := decide_eq_decide.2 (by omega)
  have dl1 : decide (((v.kids.length : Nat) : Int) = 1) = decide (v.kids.length = 1) := decide_eq_decide.2 (by omega)
  have dl2 : decide (((v.kids.length : Nat) : Int) = 2) = decide (v.kids.length = 2) := decide_eq_decide.2 (by omega)
  have dl3 : decide (((v.kids.length : Nat) : Int) = 3) = decide (v.kids.length = 3) := decide_eq_decide.2 (by omega)
  have dp : decide ((1 : Int) ≤ ((v.kids.length : Nat) : Int)) = decide (1 ≤ v.kids.length) := decide_eq_decide.2 (by omega)
  have dm : decide (((v.kids.length : Nat) : Int) ≤ 1) = decide (v.kids.length ≤ 1) := decide_eq_decide.2 (by omega)
  have ds : decide (((v.text.size : Nat) : Int) ≤ 400) = decide (v.text.size ≤ 400) := decide_eq_decide.2 (by omega)
  have d23 : decide ((2 : Int) ≤ ((v.kids.length : Nat) : Int) ∧ ((v.kids.length : Nat) : Int) ≤ 3) = decide (2 ≤ v.kids.length ∧ v.kids.length ≤ 3) := decide_eq_decide.2 (by omega)
  have d34 : decide ((3 : Int) ≤ ((v.kids.length : Nat) : Int) ∧ ((v.kids.length : Nat) : Int) ≤ 4) = decide (3 ≤ v.kids.length ∧ v.kids.length ≤ 4) := decide_eq_decide.2 (by omega)
  have d12 : decide ((1 : Int) ≤ ((v.kids.length : Nat) : Int) ∧ ((v.kids.length : Nat) : Int) ≤ 2) = decide (1 ≤ v.kids.length ∧ v.kids.length ≤ 2) := decide_eq_decide.2 (by omega)
  have dk : ∀ n : Int, decide (v.kind = n) = decide ((43 : Int) = n) := fun n => by rw [hk]
  have ex : sm v = (fN v && (fT v && (decide (2 ≤ v.kids.length ∧ v.kids.length ≤ 3) && (nBlk sm (kid v.kids 0) && (sParts nmB (stcB nmB) inlB xp (nBlk sm) v.kids.length 1 (v.kids.drop 1)))))) := by
    rw [sm_S]
    unfold stT
    rw [if_neg (by omega), if_neg (by omega), if_neg (by omega), if_neg (by omega), if_neg (by omega), if_neg (by omega), if_neg (by omega), if_neg (by omega), if_neg (by omega), if_pos (by omega)]
  rw [ex]
  (refine enter Try.func34 rfl rfl (by kernel_rfl) [] ?_; simp only [go_sem, Nat.reduceBEq, Nat.reduceAdd, Nat.reduceLeDiff])
  refine (sFields v hbk _ _ rd).mono ?_
  rintro _ h1 ⟨rfl, x0⟩
  try simp only [go_sem, Nat.reduceBEq]
  cases hN : fN v with
  | false =>
    simp only [Bool.false_and, Bool.not_false, go_sem, Nat.reduceBEq]
    exact ⟨rfl, x0⟩
  | true =>
  simp only [Bool.true_and, Bool.not_true, go_sem, Nat.reduceBEq]
  cases hT : fT v with
  | false =>
    simp only [Bool.false_and, Bool.not_false, go_sem, Nat.reduceBEq]
    exact ⟨rfl, x0⟩
  | true =>
  simp only [dk, decide_true, decide_false, Bool.true_and, Bool.not_true, go_sem, Nat.reduceBEq, Int.reduceEq]
  (refine (l1In_c _ _ _ _).mono ?_; rintro _ _ ⟨rfl, rfl⟩; simp only [go_sem, Nat.reduceBEq])
  try simp only [d23, go_sem]
  by_cases c1 : 2 ≤ v.kids.length ∧ v.kids.length ≤ 3
  case neg =>
    simp only [decide_eq_false c1, Bool.false_and, Bool.not_false, go_sem, Nat.reduceBEq]
    exact ⟨rfl, x0⟩
  simp only [decide_eq_true c1, Bool.true_and, Bool.not_true, go_sem, Nat.reduceBEq]
  try simp only [dk, dl0, dl1, dl2, dl3, dp, dm, ds, d23, d34, d12, decide_true, decide_false, Bool.true_and, Bool.false_and, Bool.and_true, Bool.and_false, Bool.or_true, Bool.or_false, Bool.true_or, Bool.false_or, Bool.not_true, Bool.not_false, go_sem, Nat.reduceBEq, Nat.reduceAdd, Nat.reduceLeDiff, Nat.reduceEqDiff, Int.reduceEq, not_false_eq_true, Int.reduceToNat]
  have kl1 : 0 < v.kids.length := by omega
  obtain ⟨bk1, ok1, ek1, hatk1⟩ := hat (by omega)
  cases ek1
  have ixk1 : ixA (some 4) (some ⟨bk1, ok1, none⟩) v.kids.length (0 : Int) = some (.pointer (some ⟨bk1, ok1 + 0 * 4, none⟩)) := ix_nat (i := 0) kl1
  try simp only [ixk1, go_sem, Nat.reduceBEq]
  refine hsem_node tyS29 (hatk1.mono x0) (hr.mono x0) (kid_get kl1) (by omega) fun sk1 rk1 => ?_
  obtain ⟨ak1, ck1, _, rfl, _⟩ := rk1.rows (by decide) (kid v.kids (0)).kids.length (fm_len Nd.dt_len _)
  try simp only [go_sem, Nat.reduceBEq]
  refine (sBlk (kid v.kids (0)) (kid_bulk (kid_mem kl1) (by omega)) (fun u hu => (ih u (by have h1 := Nd.size_lt (kid_mem kl1); have h2 := Nd.size_lt hu; omega)).2) _ _ rk1).mono ?_
  rintro _ g2 ⟨rfl, e2⟩
  try simp only [go_sem, Nat.reduceBEq]
  have x2 : Ext h g2 := (x0.trans e2)
  cases c2 : nBlk sm (kid v.kids 0) with
  | false =>
    simp only [Bool.false_and, Bool.not_false, go_sem, Nat.reduceBEq]
    exact ⟨rfl, x2⟩
  | true =>
  simp only [Bool.true_and, Bool.not_true, go_sem]
  try simp only [dk, dl0, dl1, dl2, dl3, dp, dm, ds, d23, d34, d12, decide_true, decide_false, Bool.true_and, Bool.false_and, Bool.and_true, Bool.and_false, Bool.or_true, Bool.or_false, Bool.true_or, Bool.false_or, Bool.not_true, Bool.not_false, go_sem, Nat.reduceBEq, Nat.reduceAdd, Nat.reduceLeDiff, Nat.reduceEqDiff, Int.reduceEq, not_false_eq_true, Int.reduceToNat]
  refine aloop (ι := Nat) (fun i => [(6, .val (.int .i64 (i : Nat))), (5, .val (.int .i64 (v.kids.length : Nat))), (1, .box 1 0)]) (fun _ => [(1, [.int .i64 v.kind, .int .i64 v.num, .string v.text, .slice (some ⟨bk1, ok1, none⟩) v.kids.length c])])
    (fun i h' => i ≤ v.kids.length ∧ 1 ≤ i ∧ Ext h h' ∧ sParts nmB (stcB nmB) inlB xp (nBlk sm) v.kids.length i (v.kids.drop i) = sParts nmB (stcB nmB) inlB xp (nBlk sm) v.kids.length 1 (v.kids.drop 1)) (fun i => v.kids.length - i) 1 ⟨by omega, Nat.le_refl _, x2, rfl⟩ (by repeat (first | exact wkF_e | refine wkF_c rfl ?_)) (wkB_c rfl wkB_e) rfl ?_
  rintro i g1 ⟨hi, hi0, x1, hq⟩
  have hi : i ≤ v.kids.length := hi
  have hi0 : 1 ≤ i := hi0
  simp only [go_sem, Nat.reduceBEq]
  refine Br.intro (fun hb => ?_) (fun hb => ?_) <;> (try simp only [hb, go_sem, Nat.reduceBEq, Nat.reduceEqDiff])
  · have hbl : i < v.kids.length := by simpa using hb
    obtain ⟨b5, o5, e5, hat5'⟩ := hat (by omega)
    cases e5
    obtain ⟨e, he, hm⟩ := get_lt hbl
    have wsu := wrap_succ (i := i) (by omega)
    have hbe := kid_bulk hm (by omega)
    have hBe := Nd.bulk_eq e
    have hse := Nd.size_lt hm
    rw [drop_cons he, sParts, show sPart nmB (stcB nmB) inlB xp (nBlk sm) v.kids.length i e = (fN e && (fT e && ((decide (e.kind = 44) && (decide (i = 1) && (decide (e.kids.length = 2) && (decide ((kid e.kids 0).kind = 4) && (xp (kid e.kids 0) && nBlk sm (kid e.kids 1)))))) || (decide (e.kind = 45) && (decide (i = v.kids.length - 1) && (decide (e.kids.length = 1) && nBlk sm (kid e.kids 0))))))) from rfl] at hq
    have hi1 : decide (((i : Nat) : Int) = 1) = decide (i = 1) := decide_eq_decide.2 (by omega)
    have hik : decide (((i : Nat) : Int) = IntKind.i64.wrap (((v.kids.length : Nat) : Int) - 1)) = decide (i = v.kids.length - 1) := decide_eq_decide.2 (by rw [IntWalk.i64_in _ (by omega)]; omega)
    have he1 : decide (((e.kids.length : Nat) : Int) = 1) = decide (e.kids.length = 1) := decide_eq_decide.2 (by omega)
    have he2 : decide (((e.kids.length : Nat) : Int) = 2) = decide (e.kids.length = 2) := decide_eq_decide.2 (by omega)
    simp only [ix_nat hbl, go_sem, Nat.reduceBEq]
    refine hsem_node tyS29 (hat5'.mono x1) (hr.mono x1) he (by omega) fun s5 rd5 => ?_
    obtain ⟨a5, c5, xs5, rfl, _, hr5, hat5⟩ := rd5.rows (by decide) e.kids.length (fm_len Nd.dt_len _)
    try simp only [go_sem, Nat.reduceBEq, Nat.reduceAdd, Nat.reduceLeDiff]
    refine (sFields e hbe _ _ rd5).mono ?_
    rintro _ g3 ⟨rfl, y3⟩
    have x3 := x1.trans y3
    have hr5 := hr5.mono y3
    have hat5 : 0 < e.kids.length → ∃ b off, a5 = some ⟨b, off, none⟩ ∧ At g3 ⟨b, off, none⟩ xs5 := fun q => by
      obtain ⟨b, off, q1, q2⟩ := hat5 q
      exact ⟨b, off, q1, q2.mono y3⟩
    try simp only [go_sem, Nat.reduceBEq]
    by_cases k44 : e.kind = 44
    · have k45 : decide (e.kind = 45) = false := decide_eq_false (by omega)
      simp only [decide_eq_true k44, hi1, go_sem, Nat.reduceBEq]
      by_cases j1 : i = 1
      case neg =>
        have hcf : ((decide (e.kind = 44) && (decide (i = 1) && (decide (e.kids.length = 2) && (decide ((kid e.kids 0).kind = 4) && (xp (kid e.kids 0) && nBlk sm (kid e.kids 1)))))) || (decide (e.kind = 45) && (decide (i = v.kids.length - 1) && (decide (e.kids.length = 1) && nBlk sm (kid e.kids 0))))) = false := by simp [k44, j1]
        simp only [decide_eq_false j1, k45, go_sem, Nat.reduceBEq]
        rw [hcf, Bool.and_false, Bool.and_false, Bool.false_and] at hq
        cases hN2 : fN e <;> cases hT2 : fT e <;> (simp only [Bool.not_true, Bool.not_false, go_sem, Nat.reduceBEq]; exact ⟨by rw [← hq] <;> rfl, x3⟩)
      simp only [decide_eq_true j1, he2, go_sem, Nat.reduceBEq]
      by_cases j2 : e.kids.length = 2
      case neg =>
        have hcf : ((decide (e.kind = 44) && (decide (i = 1) && (decide (e.kids.length = 2) && (decide ((kid e.kids 0).kind = 4) && (xp (kid e.kids 0) && nBlk sm (kid e.kids 1)))))) || (decide (e.kind = 45) && (decide (i = v.kids.length - 1) && (decide (e.kids.length = 1) && nBlk sm (kid e.kids 0))))) = false := by simp [k44, j2]
        simp only [decide_eq_false j2, k45, go_sem, Nat.reduceBEq]
        rw [hcf, Bool.and_false, Bool.and_false, Bool.false_and] at hq
        cases hN2 : fN e <;> cases hT2 : fT e <;> (simp only [Bool.not_true, Bool.not_false, go_sem, Nat.reduceBEq]; exact ⟨by rw [← hq] <;> rfl, x3⟩)
      have hc0 : 0 < e.kids.length := by omega
      have hc1 : 1 < e.kids.length := by omega
      obtain ⟨be, oe, rfl, hate⟩ := hat5 hc0
      have ie0 : ixA (some 4) (some ⟨be, oe, none⟩) e.kids.length (0 : Int) = some (.pointer (some ⟨be, oe + 0 * 4, none⟩)) := ix_nat (i := 0) hc0
      have ie1 : ixA (some 4) (some ⟨be, oe, none⟩) e.kids.length (1 : Int) = some (.pointer (some ⟨be, oe + 1 * 4, none⟩)) := ix_nat (i := 1) hc1
      simp only [decide_eq_true j2, ie0, go_sem, Nat.reduceBEq]
      refine hsem_kind tyS3 hate hr5 (kid_get hc0) (by omega) ?_
      try simp only [go_sem, Nat.reduceBEq]
      by_cases j3 : (kid e.kids 0).kind = 4
      case neg =>
        have hcf : ((decide (e.kind = 44) && (decide (i = 1) && (decide (e.kids.length = 2) && (decide ((kid e.kids 0).kind = 4) && (xp (kid e.kids 0) && nBlk sm (kid e.kids 1)))))) || (decide (e.kind = 45) && (decide (i = v.kids.length - 1) && (decide (e.kids.length = 1) && nBlk sm (kid e.kids 0))))) = false := by simp [k44, j3]
        simp only [decide_eq_false j3, k45, go_sem, Nat.reduceBEq]
        rw [hcf, Bool.and_false, Bool.and_false, Bool.false_and] at hq
        cases hN2 : fN e <;> cases hT2 : fT e <;> (simp only [Bool.not_true, Bool.not_false, go_sem, Nat.reduceBEq]; exact ⟨by rw [← hq] <;> rfl, x3⟩)
      simp only [decide_eq_true j3, ie0, go_sem, Nat.reduceBEq]
      refine hsem_node tyS29 hate hr5 (kid_get hc0) (by omega) fun s7 rd7 => ?_
      obtain ⟨a7, c7, _, rfl, _⟩ := rd7.rows (by decide) (kid e.kids 0).kids.length (fm_len Nd.dt_len _)
      try simp only [go_sem, Nat.reduceBEq]
      refine ((ih (kid e.kids 0) (by have := Nd.size_lt (kid_mem hc0); omega)).1 (kid_bulk (kid_mem hc0) (by omega)) _ _ rd7).mono ?_
      rintro _ h7 ⟨rfl, y7⟩
      have x7 := x3.trans y7
      try simp only [go_sem, Nat.reduceBEq]
      cases j4 : xp (kid e.kids 0) with
      | false =>
        have hcf : ((decide (e.kind = 44) && (decide (i = 1) && (decide (e.kids.length = 2) && (decide ((kid e.kids 0).kind = 4) && (xp (kid e.kids 0) && nBlk sm (kid e.kids 1)))))) || (decide (e.kind = 45) && (decide (i = v.kids.length - 1) && (decide (e.kids.length = 1) && nBlk sm (kid e.kids 0))))) = false := by simp [k44, j4]
        try simp only [k45, go_sem, Nat.reduceBEq]
        rw [hcf, Bool.and_false, Bool.and_false, Bool.false_and] at hq
        cases hN2 : fN e <;> cases hT2 : fT e <;> (simp only [Bool.not_true, Bool.not_false, go_sem, Nat.reduceBEq]; exact ⟨by rw [← hq] <;> rfl, x7⟩)
      | true =>
      simp only [ie1, go_sem, Nat.reduceBEq]
      refine hsem_node tyS29 (hate.mono y7) (hr5.mono y7) (kid_get hc1) (by omega) fun s8 rd8 => ?_
      obtain ⟨a8, c8, _, rfl, _⟩ := rd8.rows (by decide) (kid e.kids 1).kids.length (fm_len Nd.dt_len _)
      try simp only [go_sem, Nat.reduceBEq]
      refine (sBlk (kid e.kids 1) (kid_bulk (kid_mem hc1) (by omega)) (fun u hu => (ih u (by have h1 := Nd.size_lt (kid_mem hc1); have h2 := Nd.size_lt hu; omega)).2) _ _ rd8).mono ?_
      rintro _ h8 ⟨rfl, y8⟩
      have x8 := x7.trans y8
      try simp only [go_sem, Nat.reduceBEq]
      cases j5 : nBlk sm (kid e.kids 1) with
      | false =>
        have hcf : ((decide (e.kind = 44) && (decide (i = 1) && (decide (e.kids.length = 2) && (decide ((kid e.kids 0).kind = 4) && (xp (kid e.kids 0) && nBlk sm (kid e.kids 1)))))) || (decide (e.kind = 45) && (decide (i = v.kids.length - 1) && (decide (e.kids.length = 1) && nBlk sm (kid e.kids 0))))) = false := by simp [k44, j5]
        try simp only [k45, go_sem, Nat.reduceBEq]
        rw [hcf, Bool.and_false, Bool.and_false, Bool.false_and] at hq
        cases hN2 : fN e <;> cases hT2 : fT e <;> (simp only [Bool.not_true, Bool.not_false, go_sem, Nat.reduceBEq]; exact ⟨by rw [← hq] <;> rfl, x8⟩)
      | true =>
        have hcf : ((decide (e.kind = 44) && (decide (i = 1) && (decide (e.kids.length = 2) && (decide ((kid e.kids 0).kind = 4) && (xp (kid e.kids 0) && nBlk sm (kid e.kids 1)))))) || (decide (e.kind = 45) && (decide (i = v.kids.length - 1) && (decide (e.kids.length = 1) && nBlk sm (kid e.kids 0))))) = true := by simp [k44, j1, j2, j3, j4, j5]
        try simp only [k45, go_sem, Nat.reduceBEq]
        rw [hcf, Bool.and_assoc] at hq
        cases hN2 : fN e with
        | false =>
          simp only [Bool.not_false, go_sem, Nat.reduceBEq]
          rw [hN2, Bool.false_and] at hq
          exact ⟨by rw [← hq] <;> rfl, x8⟩
        | true =>
        cases hT2 : fT e with
        | false =>
          simp only [Bool.not_true, Bool.not_false, go_sem, Nat.reduceBEq]
          rw [hN2, hT2, Bool.true_and, Bool.false_and] at hq
          exact ⟨by rw [← hq] <;> rfl, x8⟩
        | true =>
          simp only [wsu, Bool.not_true, go_sem, Nat.reduceBEq]
          rw [hN2, hT2] at hq
          exact Again.intro (i + 1) (by first | omega | (simp only; omega)) ⟨hbl, by omega, x8, by simpa using hq⟩ (by repeat (first | exact wkF_e | refine wkF_c rfl ?_)) (wkB_c rfl wkB_e) rfl
    by_cases k45 : e.kind = 45
    · have k44f := decide_eq_false k44
      simp only [k44f, decide_eq_true k45, hik, go_sem, Nat.reduceBEq]
      by_cases j1 : i = v.kids.length - 1
      case neg =>
        have hcf : ((decide (e.kind = 44) && (decide (i = 1) && (decide (e.kids.length = 2) && (decide ((kid e.kids 0).kind = 4) && (xp (kid e.kids 0) && nBlk sm (kid e.kids 1)))))) || (decide (e.kind = 45) && (decide (i = v.kids.length - 1) && (decide (e.kids.length = 1) && nBlk sm (kid e.kids 0))))) = false := by simp [k45, j1]
        simp only [decide_eq_false j1, go_sem, Nat.reduceBEq]
        rw [hcf, Bool.and_false, Bool.and_false, Bool.false_and] at hq
        cases hN2 : fN e <;> cases hT2 : fT e <;> (simp only [Bool.not_true, Bool.not_false, go_sem, Nat.reduceBEq]; exact ⟨by rw [← hq] <;> rfl, x3⟩)
      simp only [decide_eq_true j1, he1, go_sem, Nat.reduceBEq]
      by_cases j2 : e.kids.length = 1
      case neg =>
        have hcf : ((decide (e.kind = 44) && (decide (i = 1) && (decide (e.kids.length = 2) && (decide ((kid e.kids 0).kind = 4) && (xp (kid e.kids 0) && nBlk sm (kid e.kids 1)))))) || (decide (e.kind = 45) && (decide (i = v.kids.length - 1) && (decide (e.kids.length = 1) && nBlk sm (kid e.kids 0))))) = false := by simp [k45, j2]
        simp only [decide_eq_false j2, go_sem, Nat.reduceBEq]
        rw [hcf, Bool.and_false, Bool.and_false, Bool.false_and] at hq
        cases hN2 : fN e <;> cases hT2 : fT e <;> (simp only [Bool.not_true, Bool.not_false, go_sem, Nat.reduceBEq]; exact ⟨by rw [← hq] <;> rfl, x3⟩)
      have hc0 : 0 < e.kids.length := by omega
      obtain ⟨be, oe, rfl, hate⟩ := hat5 hc0
      have ie0 : ixA (some 4) (some ⟨be, oe, none⟩) e.kids.length (0 : Int) = some (.pointer (some ⟨be, oe + 0 * 4, none⟩)) := ix_nat (i := 0) hc0
      simp only [decide_eq_true j2, ie0, go_sem, Nat.reduceBEq]
      refine hsem_node tyS29 hate hr5 (kid_get hc0) (by omega) fun s8 rd8 => ?_
      obtain ⟨a8, c8, _, rfl, _⟩ := rd8.rows (by decide) (kid e.kids 0).kids.length (fm_len Nd.dt_len _)
      try simp only [go_sem, Nat.reduceBEq]
      refine (sBlk (kid e.kids 0) (kid_bulk (kid_mem hc0) (by omega)) (fun u hu => (ih u (by have h1 := Nd.size_lt (kid_mem hc0); have h2 := Nd.size_lt hu; omega)).2) _ _ rd8).mono ?_
      rintro _ h8 ⟨rfl, y8⟩
      have x8 := x3.trans y8
      try simp only [go_sem, Nat.reduceBEq]
      cases j5 : nBlk sm (kid e.kids 0) with
      | false =>
        have hcf : ((decide (e.kind = 44) && (decide (i = 1) && (decide (e.kids.length = 2) && (decide ((kid e.kids 0).kind = 4) && (xp (kid e.kids 0) && nBlk sm (kid e.kids 1)))))) || (decide (e.kind = 45) && (decide (i = v.kids.length - 1) && (decide (e.kids.length = 1) && nBlk sm (kid e.kids 0))))) = false := by simp [k45, j5]
        try simp only [k44f, hi1, hik, he1, he2, decide_true, decide_false, Bool.true_and, Bool.false_and, Bool.and_true, Bool.and_false, Bool.or_true, Bool.or_false, Bool.true_or, Bool.false_or, Bool.not_true, Bool.not_false, go_sem, Nat.reduceBEq, Nat.reduceAdd, Nat.reduceLeDiff, Nat.reduceEqDiff, Int.reduceEq, not_false_eq_true, Int.reduceToNat]
        rw [hcf, Bool.and_false, Bool.and_false, Bool.false_and] at hq
        cases hN2 : fN e <;> cases hT2 : fT e <;> (simp only [Bool.not_true, Bool.not_false, go_sem, Nat.reduceBEq]; exact ⟨by rw [← hq] <;> rfl, x8⟩)
      | true =>
        have hcf : ((decide (e.kind = 44) && (decide (i = 1) && (decide (e.kids.length = 2) && (decide ((kid e.kids 0).kind = 4) && (xp (kid e.kids 0) && nBlk sm (kid e.kids 1)))))) || (decide (e.kind = 45) && (decide (i = v.kids.length - 1) && (decide (e.kids.length = 1) && nBlk sm (kid e.kids 0))))) = true := by simp [k45, j1, j2, j5]
        try simp only [k44f, hi1, hik, he1, he2, decide_true, decide_false, Bool.true_and, Bool.false_and, Bool.and_true, Bool.and_false, Bool.or_true, Bool.or_false, Bool.true_or, Bool.false_or, Bool.not_true, Bool.not_false, go_sem, Nat.reduceBEq, Nat.reduceAdd, Nat.reduceLeDiff, Nat.reduceEqDiff, Int.reduceEq, not_false_eq_true, Int.reduceToNat]
        rw [hcf, Bool.and_assoc] at hq
        cases hN2 : fN e with
        | false =>
          simp only [Bool.not_false, go_sem, Nat.reduceBEq]
          rw [hN2, Bool.false_and] at hq
          exact ⟨by rw [← hq] <;> rfl, x8⟩
        | true =>
        cases hT2 : fT e with
        | false =>
          simp only [Bool.not_true, Bool.not_false, go_sem, Nat.reduceBEq]
          rw [hN2, hT2, Bool.true_and, Bool.false_and] at hq
          exact ⟨by rw [← hq] <;> rfl, x8⟩
        | true =>
          simp only [wsu, Bool.not_true, Bool.not_false, go_sem, Nat.reduceBEq]
          rw [hN2, hT2] at hq
          exact Again.intro (i + 1) (by first | omega | (simp only; omega)) ⟨hbl, by omega, x8, by simpa using hq⟩ (by repeat (first | exact wkF_e | refine wkF_c rfl ?_)) (wkB_c rfl wkB_e) rfl
    · have k44f := decide_eq_false k44
      have k45f := decide_eq_false k45
      have hcf : ((decide (e.kind = 44) && (decide (i = 1) && (decide (e.kids.length = 2) && (decide ((kid e.kids 0).kind = 4) && (xp (kid e.kids 0) && nBlk sm (kid e.kids 1)))))) || (decide (e.kind = 45) && (decide (i = v.kids.length - 1) && (decide (e.kids.length = 1) && nBlk sm (kid e.kids 0))))) = false := by simp [k44, k45]
      simp only [k44f, k45f, go_sem, Nat.reduceBEq]
      rw [hcf, Bool.and_false, Bool.and_false, Bool.false_and] at hq
      cases hN2 : fN e <;> cases hT2 : fT e <;> (simp only [Bool.not_true, Bool.not_false, go_sem, Nat.reduceBEq]; exact ⟨by rw [← hq] <;> rfl, x3⟩)
  · have hbl : i = v.kids.length := by simp at hb; omega
    rw [List.drop_eq_nil_of_le (by omega), sParts] at hq
    exact ⟨by rw [← hq], x1⟩
theorem sSt_o (v : Nd) (hbk : v.bulk ≤ 1048576) (hk : ¬ v.kind = 31 ∧ ¬ v.kind = 32 ∧ ¬ v.kind = 33 ∧ ¬ v.kind = 34 ∧ ¬ v.kind = 35 ∧ ¬ v.kind = 36 ∧ ¬ v.kind = 37 ∧ ¬ v.kind = 38 ∧ ¬ v.kind = 39 ∧ ¬ v.kind = 40 ∧ ¬ v.kind = 41 ∧ ¬ v.kind = 42 ∧ ¬ v.kind = 43 ∧ ¬ v.kind = 46 ∧ ¬ v.kind = 47 ∧ ¬ v.kind = 48) (sl : Value) (h : Hp) (rd : RdN h v.kids sl) : ACalls Try.prog 34 #[.agg #[.int .i64 v.kind, .int .i64 v.num, .string v.text, sl]] h (Is (.bool (sm v)) h) := by
  have hB := Nd.bulk_eq v
  have hL := Nd.bulks_len v.kids
  obtain ⟨a, c, xs, rfl, hc, hr, hat⟩ := rd.rows (by decide) v.kids.length (fm_len Nd.dt_len _)
  have d31 : decide (v.kind = 31) = false := decide_eq_false (by omega)
  have d32 : decide (v.kind = 32) = false := decide_eq_false (by omega)
  have d33 : decide (v.kind = 33) = false := decide_eq_false (by omega)
  have d34 : decide (v.kind = 34) = false := decide_eq_false (by omega)
  have d35 : decide (v.kind = 35) = false := decide_eq_false (by omega)
  have d36 : decide (v.kind = 36) = false := decide_eq_false (by omega)
  have d37 : decide (v.kind = 37) = false := decide_eq_false (by omega)
  have d38 : decide (v.kind = 38) = false := decide_eq_false (by omega)
  have d39 : decide (v.kind = 39) = false := decide_eq_false (by omega)
  have d40 : decide (v.kind = 40) = false := decide_eq_false (by omega)
  have d41 : decide (v.kind = 41) = false := decide_eq_false (by omega)
  have d42 : decide (v.kind = 42) = false := decide_eq_false (by omega)
  have d43 : decide (v.kind = 43) = false := decide_eq_false (by omega)
  have d46 : decide (v.kind = 46) = false := decide_eq_false (by omega)
  have d47 : decide (v.kind = 47) = false := decide_eq_false (by omega)
  have d48 : decide (v.kind = 48) = false := decide_eq_false (by omega)
  have ex : sm v = (fN v && (fT v && false)) := by
    rw [sm_S]
    unfold stT
    rw [if_neg (by omega), if_neg (by omega), if_neg (by omega), if_neg (by omega), if_neg (by omega), if_neg (by omega), if_neg (by omega), if_neg (by omega), if_neg (by omega), if_neg (by omega)]
  rw [ex]
  (refine enter Try.func34 rfl rfl (by kernel_rfl) [] ?_; simp only [go_sem, Nat.reduceBEq, Nat.reduceAdd, Nat.reduceLeDiff])
  refine (sFields v hbk _ _ rd).mono ?_
  rintro _ h1 ⟨rfl, x0⟩
  try simp only [go_sem, Nat.reduceBEq]
  cases hN : fN v with
  | false =>
    simp only [Bool.and_false, Bool.not_false, go_sem, Nat.reduceBEq]
    exact ⟨rfl, x0⟩
  | true =>
  simp only [Bool.and_false, Bool.not_true, go_sem, Nat.reduceBEq]
  cases hT : fT v with
  | false =>
    simp only [Bool.not_false, go_sem, Nat.reduceBEq]
    exact ⟨rfl, x0⟩
  | true =>
  simp only [d31, d32, d33, d34, d35, d36, d37, d38, d39, d40, d41, d42, d43, d46, d47, d48, Bool.not_true, go_sem, Nat.reduceBEq]
  exact ⟨rfl, x0⟩

theorem sSt (v : Nd) (ih : ∀ e : Nd, e.size < v.size → SE e ∧ SS e) : SS v := fun hbk sl h rd => by
  by_cases k31 : v.kind = 31
  · exact sSt_31 v hbk ih k31 sl h rd
  by_cases k32 : v.kind = 32
  · exact sSt_32 v hbk ih k32 sl h rd
  by_cases k33 : v.kind = 33
  · exact sSt_33 v hbk ih k33 sl h rd
  by_cases k34 : v.kind = 34
  · exact sSt_34 v hbk ih k34 sl h rd
  by_cases k35 : v.kind = 35
  · exact sSt_35 v hbk ih k35 sl h rd
  by_cases k36 : v.kind = 36
  · exact sSt_36 v hbk ih k36 sl h rd
  by_cases k37 : v.kind = 37
  · exact sSt_37 v hbk ih k37 sl h rd
  by_cases k38 : v.kind = 38
  · exact sSt_38 v hbk ih k38 sl h rd
  by_cases k39 : v.kind = 39
  · exact sSt_39 v hbk ih k39 sl h rd
  by_cases k40 : v.kind = 40
  · exact sSt_40 v hbk ih k40 sl h rd
  by_cases k41 : v.kind = 41
  · exact sSt_41 v hbk ih k41 sl h rd
  by_cases k42 : v.kind = 42
  · exact sSt_42 v hbk ih k42 sl h rd
  by_cases k43 : v.kind = 43
  · exact sSt_43 v hbk ih k43 sl h rd
  by_cases k46 : v.kind = 46
  · exact sSt_46 v hbk ih k46 sl h rd
  by_cases k47 : v.kind = 47
  · exact sSt_47 v hbk ih k47 sl h rd
  by_cases k48 : v.kind = 48
  · exact sSt_48 v hbk ih k48 sl h rd
  exact sSt_o v hbk ⟨k31, k32, k33, k34, k35, k36, k37, k38, k39, k40, k41, k42, k43, k46, k47, k48⟩ sl h rd
theorem sES (v : Nd) : SE v ∧ SS v := by
  induction hn : v.size using Nat.strongRecOn generalizing v with
  | _ n ih =>
    have ih' : ∀ e : Nd, e.size < v.size → SE e ∧ SS e := fun e he => ih e.size (by omega) e rfl
    exact ⟨sEx v ih', sSt v ih'⟩
end Go.Proofs.Ytamjpcmcpcdggaa
