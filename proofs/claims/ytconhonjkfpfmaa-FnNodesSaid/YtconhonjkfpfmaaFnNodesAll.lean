/-
  The statement FnNodes is proved: for each argument the law returns true; nothing is assumed.
-/
import Derived.Test.YtconhonjkfpfmaaFnNodesAllA
import Derived.Test.YtconhonjkfpfmaaFacts
import Derived.Test.YtconhonjkfpfmaaSxOpen
import Derived.Test.YtconhonjkfpfmaaNum
import Derived.Test.YtconhonjkfpfmaaSxOwn
import Derived.Test.YtconhonjkfpfmaaNodeI
import Derived.HandedShaped
namespace Go.Proofs.Ytconhonjkfpfmaa
set_option maxRecDepth 8000
open Go Go.Sx
def isSmall (v : Nd) : Bool := decide (v.size ≤ 600) && decide (v.depth ≤ 30)
theorem iSmall (v : Nd) (hbk : v.bulk ≤ 1048576) (sl : Value) (h : Hp) (rd : RdN h v.kids sl) : ACalls Try.prog 19 #[.agg #[.int .i64 v.kind, .int .i64 v.num, .string v.text, sl]] h (Pu (.bool (isSmall v)) h) := by
  have hB := Nd.bulk_eq v
  have hL := Nd.bulks_len v.kids
  obtain ⟨a, c, xs, rfl, hc, hr, hat⟩ := rd.rows (by decide) v.kids.length (fm_len Nd.dt_len _)
  have hs6 : decide (((v.size : Nat) : Int) ≤ 600) = decide (v.size ≤ 600) := decide_eq_decide.2 (by omega)
  have hd3 : decide (((v.depth : Nat) : Int) ≤ 30) = decide (v.depth ≤ 30) := decide_eq_decide.2 (by omega)
  unfold isSmall
  (refine enter Try.func19 rfl rfl (by kernel_rfl) [] ?_; simp only [go_sem, Nat.reduceBEq, Nat.reduceAdd, Nat.reduceLeDiff])
  (refine (iNodeSize v hbk _ _ rd).mono ?_; rintro _ _ ⟨rfl, rfl⟩; simp only [go_sem, Nat.reduceBEq])
  simp only [hs6, go_sem]
  by_cases c1 : v.size ≤ 600
  case neg =>
    simp only [decide_eq_false c1, Bool.false_and, go_sem, Nat.reduceBEq]
    exact ⟨rfl, rfl⟩
  simp only [decide_eq_true c1, Bool.true_and, go_sem, Nat.reduceBEq, Nat.reduceAdd, Nat.reduceLeDiff]
  try simp only [go_sem, Nat.reduceBEq, Nat.reduceAdd, Nat.reduceLeDiff, Nat.reduceEqDiff, Int.reduceEq, not_false_eq_true, Int.reduceToNat]
  (refine (iNodeDepth v hbk _ _ rd).mono ?_; rintro _ _ ⟨rfl, rfl⟩; simp only [go_sem, Nat.reduceBEq])
  try simp only [hd3, go_sem]
  exact ⟨rfl, rfl⟩
theorem iIsExpr (v : Nd) (hbk : v.bulk ≤ 1048576) (sl : Value) (h : Hp) (rd : RdN h v.kids sl) (hM : Mx h) : ACalls Try.prog 11 #[.agg #[.int .i64 v.kind, .int .i64 v.num, .string v.text, sl]] h (Is (.bool (isSmall v && xp v)) h) := by
  have hB := Nd.bulk_eq v
  have hL := Nd.bulks_len v.kids
  obtain ⟨a, c, xs, rfl, hc, hr, hat⟩ := rd.rows (by decide) v.kids.length (fm_len Nd.dt_len _)
  (refine enter Try.func11 rfl rfl (by kernel_rfl) [] ?_; simp only [go_sem, Nat.reduceBEq, Nat.reduceAdd, Nat.reduceLeDiff])
  (refine (iSmall v hbk _ _ rd).mono ?_; rintro _ _ ⟨rfl, rfl⟩; simp only [go_sem, Nat.reduceBEq])
  cases hs : isSmall v with
  | false =>
    simp only [Bool.false_and, go_sem, Nat.reduceBEq]
    exact ⟨rfl, Ext.refl _⟩
  | true =>
  simp only [Bool.true_and, go_sem, Nat.reduceBEq, Nat.reduceAdd, Nat.reduceLeDiff]
  try simp only [go_sem, Nat.reduceBEq, Nat.reduceAdd, Nat.reduceLeDiff, Nat.reduceEqDiff, Int.reduceEq, not_false_eq_true, Int.reduceToNat]
  refine ((iES v).1 hbk _ _ rd hM).mono ?_
  rintro _ h1 ⟨rfl, e1⟩
  try simp only [go_sem, Nat.reduceBEq]
  exact ⟨rfl, e1⟩
theorem iIsBlock (v : Nd) (hbk : v.bulk ≤ 1048576) (sl : Value) (h : Hp) (rd : RdN h v.kids sl) (hM : Mx h) : ACalls Try.prog 12 #[.agg #[.int .i64 v.kind, .int .i64 v.num, .string v.text, sl]] h (Is (.bool (isSmall v && nBlk sm v)) h) := by
  have hB := Nd.bulk_eq v
  have hL := Nd.bulks_len v.kids
  obtain ⟨a, c, xs, rfl, hc, hr, hat⟩ := rd.rows (by decide) v.kids.length (fm_len Nd.dt_len _)
  (refine enter Try.func12 rfl rfl (by kernel_rfl) [] ?_; simp only [go_sem, Nat.reduceBEq, Nat.reduceAdd, Nat.reduceLeDiff])
  (refine (iSmall v hbk _ _ rd).mono ?_; rintro _ _ ⟨rfl, rfl⟩; simp only [go_sem, Nat.reduceBEq])
  cases hs : isSmall v with
  | false =>
    simp only [Bool.false_and, go_sem, Nat.reduceBEq]
    exact ⟨rfl, Ext.refl _⟩
  | true =>
  simp only [Bool.true_and, go_sem, Nat.reduceBEq]
  try simp only [go_sem, Nat.reduceBEq, Nat.reduceAdd, Nat.reduceLeDiff, Nat.reduceEqDiff, Int.reduceEq, not_false_eq_true, Int.reduceToNat]
  unfold nBlk
  by_cases k48 : v.kind = 48
  case neg =>
    simp only [decide_eq_false k48, Bool.false_and, go_sem, Nat.reduceBEq]
    exact ⟨rfl, Ext.refl _⟩
  simp only [decide_eq_true k48, Bool.true_and, go_sem, Nat.reduceBEq, Nat.reduceAdd, Nat.reduceLeDiff]
  try simp only [go_sem, Nat.reduceBEq, Nat.reduceAdd, Nat.reduceLeDiff, Nat.reduceEqDiff, Int.reduceEq, not_false_eq_true, Int.reduceToNat]
  refine ((iES v).2 hbk _ _ rd hM).mono ?_
  rintro _ h1 ⟨rfl, e1⟩
  try simp only [go_sem, Nat.reduceBEq]
  exact ⟨rfl, e1⟩
end Go.Proofs.Ytconhonjkfpfmaa
namespace Go.Proofs.Ytconhonjkfpfmaa
set_option maxRecDepth 8000
open Go Go.Sx
def tp (v : Nd) : Bool := topF nmB xp sm v || sm v
def isScr (v : Nd) : Bool := isSmall v && (decide (v.kind = 56) && (decide (v.num = 0) && (decide (v.text = ⟨#[]⟩) && v.kids.all tp)))
def clsB (v : Nd) : Bool := sCls nmB (stcB nmB) inlB xp (nBlk sm) v 0 0 v.kids
set_option maxHeartbeats 1600000 in
theorem iTop (v : Nd) (hbk : v.bulk ≤ 1048576) (sl : Value) (h : Hp) (rd : RdN h v.kids sl) (hM : Mx h) : ACalls Try.prog 20 #[.agg #[.int .i64 v.kind, .int .i64 v.num, .string v.text, sl]] h (Is (.bool (topF nmB xp sm v)) h) := by
  have hB := Nd.bulk_eq v
  have hL := Nd.bulks_len v.kids
  obtain ⟨a, c, xs, rfl, hc, hr, hat⟩ := rd.rows (by decide) v.kids.length (fm_len Nd.dt_len _)
  unfold topF
  (refine enter Try.func20 rfl rfl (by kernel_rfl) [] ?_; simp only [go_sem, Nat.reduceBEq])
  try simp only [go_sem, Nat.reduceBEq, Nat.reduceAdd, Nat.reduceLeDiff, Nat.reduceEqDiff, Int.reduceEq, not_false_eq_true, Int.reduceToNat]
  by_cases n0 : v.num = 0
  case neg =>
    simp only [decide_eq_false n0, Bool.false_and, Bool.not_false, go_sem, Nat.reduceBEq]
    exact ⟨rfl, Ext.refl _⟩
  simp only [decide_eq_true n0, Bool.true_and, Bool.not_true, go_sem, Nat.reduceBEq]
  try simp only [go_sem, Nat.reduceBEq, Nat.reduceAdd, Nat.reduceLeDiff, Nat.reduceEqDiff, Int.reduceEq, not_false_eq_true, Int.reduceToNat]
  refine (iGood v.text (by have := text_bulk v; omega) _).mono ?_
  rintro _ h1 ⟨rfl, e1⟩
  try simp only [go_sem, Nat.reduceBEq]
  cases n1 : nmB v.text with
  | false =>
    simp only [Bool.false_and, Bool.not_false, go_sem, Nat.reduceBEq]
    exact ⟨rfl, e1⟩
  | true =>
  simp only [Bool.true_and, Bool.not_true, go_sem, Nat.reduceBEq]
  by_cases k49 : v.kind = 49
  · rw [if_pos k49]
    simp only [decide_eq_true k49, go_sem, Nat.reduceBEq]
    try simp only [go_sem, Nat.reduceBEq, Nat.reduceAdd, Nat.reduceLeDiff, Nat.reduceEqDiff, Int.reduceEq, not_false_eq_true, Int.reduceToNat]
    refine (iFun false v.kids (fun u _ => (iES u).2) (by omega) _ _ (rd.mono e1) (hM.ext e1)).mono ?_
    rintro _ h2 ⟨rfl, e2⟩
    try simp only [go_sem, Nat.reduceBEq]
    exact ⟨rfl, e1.trans e2⟩
  have k49f := decide_eq_false k49
  rw [if_neg k49]
  by_cases kc : v.kind = 50 ∨ v.kind = 51
  case neg =>
    have k50f : decide (v.kind = 50) = false := decide_eq_false (by omega)
    have k51f : decide (v.kind = 51) = false := decide_eq_false (by omega)
    rw [if_neg kc]
    simp only [k49f, k50f, k51f, go_sem, Nat.reduceBEq]
    exact ⟨rfl, e1⟩
  rw [if_pos kc]
  rcases kc with k50 | k51
  · simp only [k49f, decide_eq_true k50, go_sem, Nat.reduceBEq]
    refine aloop (ι := Nat × Int) (fun x => [(28, .val (.int .i64 (x.1 : Nat))), (27, .val (.int .i64 (v.kids.length : Nat))), (26, .val (.slice a v.kids.length c)), (3, .val (.int .i64 x.2)), (1, .box 1 0)]) (fun _ => [(1, [.int .i64 v.kind, .int .i64 v.num, .string v.text, .slice a v.kids.length c])])
      (fun x h' => x.1 ≤ v.kids.length ∧ Ext h h' ∧ nPart nmB xp sm v x.2 (v.kids.drop x.1) = nPart nmB xp sm v 0 v.kids) (fun x => v.kids.length - x.1) (0, 0) ⟨Nat.zero_le _, e1, rfl⟩ (by repeat (first | exact wkF_e | refine wkF_c rfl ?_)) (wkB_c rfl wkB_e) rfl ?_
    rintro ⟨i, part⟩ h1 ⟨hi, x1, hq⟩
    have hi : i ≤ v.kids.length := hi
    have hq : nPart nmB xp sm v part (v.kids.drop i) = nPart nmB xp sm v 0 v.kids := hq
    simp only [go_sem, Nat.reduceBEq]
    refine Br.intro (fun hb => ?_) (fun hb => ?_) <;> (try simp only [hb, go_sem, Nat.reduceBEq, Nat.reduceEqDiff])
    · have hbl : i < v.kids.length := by simpa using hb
      obtain ⟨b, off, rfl, hat'⟩ := hat (by omega)
      obtain ⟨e, he, hm⟩ := get_lt hbl
      have wsu := wrap_succ (i := i) (by omega)
      have hbe := kid_bulk hm (by omega)
      have hBe := Nd.bulk_eq e
      rw [drop_cons he, nPart] at hq
      have hn51 : decide (v.kind = 51) = false := decide_eq_false (by omega)
      have le0 : decide ((0 : Int) < ((e.kids.length : Nat) : Int)) = !decide (e.kids.length = 0) := by rw [← decide_not]; exact decide_eq_decide.2 (by omega)
      have le1 : decide (((e.kids.length : Nat) : Int) = 1) = decide (e.kids.length = 1) := decide_eq_decide.2 (by omega)
      simp only [ix_nat hbl, go_sem, Nat.reduceBEq]
      refine hsem_node tyS26 (hat'.mono x1) (hr.mono x1) he (by omega) fun s5 rd5 => ?_
      obtain ⟨a5, c5, xs5, rfl, _, hr5, hat5⟩ := rd5.rows (by decide) e.kids.length (fm_len Nd.dt_len _)
      try simp only [go_sem, Nat.reduceBEq, Nat.reduceAdd, Nat.reduceLeDiff]
      refine (iGood e.text (by have := text_bulk e; omega) _).mono ?_
      rintro _ h2 ⟨rfl, e2⟩
      have x2 := x1.trans e2
      try simp only [go_sem, Nat.reduceBEq]
      cases c0 : nmB e.text with
      | false =>
        simp only [Bool.not_false, go_sem, Nat.reduceBEq]
        have hz : nPart nmB xp sm v 0 v.kids = false := by
          rw [← hq, c0]
          rfl
        exact ⟨by rw [hz], x2⟩
      | true =>
      simp only [Bool.not_true, go_sem, Nat.reduceBEq]
      by_cases k52 : e.kind = 52
      · simp only [decide_eq_true k52, hn51, go_sem, Nat.reduceBEq]
        have q1 : ¬ v.kind = 51 := by omega
        by_cases q2 : 0 < part
        · simp only [decide_eq_true q2, go_sem, Nat.reduceBEq]
          have hz : nPart nmB xp sm v 0 v.kids = false := by
            rw [← hq]
            simp [c0, k52, q1, q2]
          exact ⟨by rw [hz], x2⟩
        simp only [decide_eq_false q2, go_sem, Nat.reduceBEq]
        by_cases q3 : e.num = 0
        case neg =>
          simp only [decide_eq_false q3, Bool.not_false, go_sem, Nat.reduceBEq]
          have hz : nPart nmB xp sm v 0 v.kids = false := by
            rw [← hq]
            simp [c0, k52, q1, q2, q3]
          exact ⟨by rw [hz], x2⟩
        simp only [decide_eq_true q3, le0, Bool.not_true, go_sem, Nat.reduceBEq]
        by_cases q4 : e.kids.length = 0
        case neg =>
          simp only [decide_eq_false q4, Bool.not_false, go_sem, Nat.reduceBEq]
          have hz : nPart nmB xp sm v 0 v.kids = false := by
            rw [← hq]
            simp [c0, k52, q1, q2, q3, q4]
          exact ⟨by rw [hz], x2⟩
        have q4t := decide_eq_true q4
        simp only [wsu, q4t, Bool.not_true, go_sem, Nat.reduceBEq]
        exact Again.intro (i + 1, 1) (by first | omega | (simp only; omega)) ⟨hbl, x2, by rw [← hq]; simp [c0, k52, q1, q2, q3, q4]⟩ (by repeat (first | exact wkF_e | refine wkF_c rfl ?_)) (wkB_c rfl wkB_e) rfl
      have k52f := decide_eq_false k52
      by_cases k53 : e.kind = 53
      · simp only [k52f, decide_eq_true k53, go_sem, Nat.reduceBEq]
        by_cases q2 : 1 < part
        · simp only [decide_eq_true q2, go_sem, Nat.reduceBEq]
          have hz : nPart nmB xp sm v 0 v.kids = false := by
            rw [← hq]
            simp [c0, k53, q2]
          exact ⟨by rw [hz], x2⟩
        simp only [decide_eq_false q2, go_sem, Nat.reduceBEq]
        by_cases q3 : e.num = 0
        case neg =>
          simp only [decide_eq_false q3, Bool.not_false, go_sem, Nat.reduceBEq]
          have hz : nPart nmB xp sm v 0 v.kids = false := by
            rw [← hq]
            simp [c0, k53, q2, q3]
          exact ⟨by rw [hz], x2⟩
        simp only [decide_eq_true q3, le0, Bool.not_true, go_sem, Nat.reduceBEq]
        by_cases q4 : e.kids.length = 0
        case neg =>
          simp only [decide_eq_false q4, Bool.not_false, go_sem, Nat.reduceBEq]
          have hz : nPart nmB xp sm v 0 v.kids = false := by
            rw [← hq]
            simp [c0, k53, q2, q3, q4]
          exact ⟨by rw [hz], x2⟩
        have q4t := decide_eq_true q4
        simp only [wsu, q4t, Bool.not_true, go_sem, Nat.reduceBEq]
        exact Again.intro (i + 1, 1) (by first | omega | (simp only; omega)) ⟨hbl, x2, by rw [← hq]; simp [c0, k53, q2, q3, q4]⟩ (by repeat (first | exact wkF_e | refine wkF_c rfl ?_)) (wkB_c rfl wkB_e) rfl
      have k53f := decide_eq_false k53
      by_cases k54 : e.kind = 54
      · simp only [k52f, k53f, decide_eq_true k54, go_sem, Nat.reduceBEq]
        by_cases n0 : e.num = 0
        · simp only [decide_eq_true n0, le1, Bool.not_true, go_sem, Nat.reduceBEq]
          by_cases q4 : e.kids.length = 1
          case neg =>
            simp only [decide_eq_false q4, Bool.not_false, go_sem, Nat.reduceBEq]
            have hz : nPart nmB xp sm v 0 v.kids = false := by
              rw [← hq]
              simp [c0, k54, n0, q4]
            exact ⟨by rw [hz], x2⟩
          have hc0 : 0 < e.kids.length := by omega
          obtain ⟨be, oe, rfl, hate⟩ := hat5 hc0
          have ie0 : ixA (some 4) (some ⟨be, oe, none⟩) e.kids.length (0 : Int) = some (.pointer (some ⟨be, oe + 0 * 4, none⟩)) := ix_nat (i := 0) hc0
          simp only [decide_eq_true q4, ie0, Bool.not_true, go_sem, Nat.reduceBEq]
          refine hsem_kind tyS3 (hate.mono e2) (hr5.mono e2) (kid_get hc0) (by omega) ?_
          try simp only [go_sem, Nat.reduceBEq]
          (refine (iInRange _ _ _ _).mono ?_; rintro _ _ ⟨rfl, rfl⟩; simp only [go_sem, Nat.reduceBEq])
          by_cases q5 : 1 ≤ (kid e.kids 0).kind ∧ (kid e.kids 0).kind ≤ 3
          case neg =>
            simp only [decide_eq_false q5, Bool.not_false, go_sem, Nat.reduceBEq]
            have hz : nPart nmB xp sm v 0 v.kids = false := by
              rw [← hq]
              rw [if_neg (by omega), if_neg (by omega), if_pos k54, decide_eq_false q5]
              simp
            exact ⟨by rw [hz], x2⟩
          simp only [decide_eq_true q5, ie0, Bool.not_true, go_sem, Nat.reduceBEq]
          refine hsem_node tyS26 (hate.mono e2) (hr5.mono e2) (kid_get hc0) (by omega) fun s7 rd7 => ?_
          obtain ⟨a7, c7, _, rfl, _⟩ := rd7.rows (by decide) (kid e.kids 0).kids.length (fm_len Nd.dt_len _)
          try simp only [go_sem, Nat.reduceBEq]
          refine ((iES (kid e.kids 0)).1 (kid_bulk (kid_mem hc0) (by omega)) _ _ rd7 (hM.ext x2)).mono ?_
          rintro _ h7 ⟨rfl, y7⟩
          have x7 := x2.trans y7
          try simp only [go_sem, Nat.reduceBEq]
          cases q6 : xp (kid e.kids 0) with
          | false =>
            simp only [Bool.not_false, go_sem, Nat.reduceBEq]
            have hz : nPart nmB xp sm v 0 v.kids = false := by
              rw [← hq]
              simp [c0, k54, n0, q4, q6]
            exact ⟨by rw [hz], x7⟩
          | true =>
            simp only [wsu, Bool.not_true, go_sem, Nat.reduceBEq]
            exact Again.intro (i + 1, 2) (by first | omega | (simp only; omega)) ⟨hbl, x7, by rw [← hq]; simp [c0, k54, n0, q4, q5, q6]⟩ (by repeat (first | exact wkF_e | refine wkF_c rfl ?_)) (wkB_c rfl wkB_e) rfl
        have n0f := decide_eq_false n0
        by_cases n1 : e.num = 1
        · simp only [n0f, decide_eq_true n1, le1, Bool.not_true, Bool.not_false, go_sem, Nat.reduceBEq]
          by_cases q4 : e.kids.length = 1
          case neg =>
            simp only [decide_eq_false q4, Bool.not_false, go_sem, Nat.reduceBEq]
            have hz : nPart nmB xp sm v 0 v.kids = false := by
              rw [← hq]
              simp [c0, k54, n1, q4]
            exact ⟨by rw [hz], x2⟩
          have hc0 : 0 < e.kids.length := by omega
          obtain ⟨be, oe, rfl, hate⟩ := hat5 hc0
          have ie0 : ixA (some 4) (some ⟨be, oe, none⟩) e.kids.length (0 : Int) = some (.pointer (some ⟨be, oe + 0 * 4, none⟩)) := ix_nat (i := 0) hc0
          simp only [decide_eq_true q4, ie0, Bool.not_true, go_sem, Nat.reduceBEq]
          refine hsem_kind tyS3 (hate.mono e2) (hr5.mono e2) (kid_get hc0) (by omega) ?_
          try simp only [go_sem, Nat.reduceBEq]
          (refine (iInRange _ _ _ _).mono ?_; rintro _ _ ⟨rfl, rfl⟩; simp only [go_sem, Nat.reduceBEq])
          by_cases q5 : 1 ≤ (kid e.kids 0).kind ∧ (kid e.kids 0).kind ≤ 3
          case neg =>
            simp only [decide_eq_false q5, Bool.not_false, go_sem, Nat.reduceBEq]
            have hz : nPart nmB xp sm v 0 v.kids = false := by
              rw [← hq]
              rw [if_neg (by omega), if_neg (by omega), if_pos k54, decide_eq_false q5]
              simp
            exact ⟨by rw [hz], x2⟩
          simp only [decide_eq_true q5, ie0, Bool.not_true, go_sem, Nat.reduceBEq]
          refine hsem_node tyS26 (hate.mono e2) (hr5.mono e2) (kid_get hc0) (by omega) fun s7 rd7 => ?_
          obtain ⟨a7, c7, _, rfl, _⟩ := rd7.rows (by decide) (kid e.kids 0).kids.length (fm_len Nd.dt_len _)
          try simp only [go_sem, Nat.reduceBEq]
          refine ((iES (kid e.kids 0)).1 (kid_bulk (kid_mem hc0) (by omega)) _ _ rd7 (hM.ext x2)).mono ?_
          rintro _ h7 ⟨rfl, y7⟩
          have x7 := x2.trans y7
          try simp only [go_sem, Nat.reduceBEq]
          cases q6 : xp (kid e.kids 0) with
          | false =>
            simp only [Bool.not_false, go_sem, Nat.reduceBEq]
            have hz : nPart nmB xp sm v 0 v.kids = false := by
              rw [← hq]
              simp [c0, k54, n1, q4, q6]
            exact ⟨by rw [hz], x7⟩
          | true =>
            simp only [wsu, Bool.not_true, go_sem, Nat.reduceBEq]
            exact Again.intro (i + 1, 2) (by first | omega | (simp only; omega)) ⟨hbl, x7, by rw [← hq]; simp [c0, k54, n1, q4, q5, q6]⟩ (by repeat (first | exact wkF_e | refine wkF_c rfl ?_)) (wkB_c rfl wkB_e) rfl
        simp only [n0f, decide_eq_false n1, Bool.not_false, go_sem, Nat.reduceBEq]
        have hz : nPart nmB xp sm v 0 v.kids = false := by
          rw [← hq]
          simp [c0, k54, n0, n1]
        exact ⟨by rw [hz], x2⟩
      have k54f := decide_eq_false k54
      by_cases k55 : e.kind = 55
      · simp only [k52f, k53f, k54f, decide_eq_true k55, go_sem, Nat.reduceBEq]
        try simp only [go_sem, Nat.reduceBEq, Nat.reduceAdd, Nat.reduceLeDiff, Nat.reduceEqDiff, Int.reduceEq, not_false_eq_true, Int.reduceToNat]
        (refine (iInRange _ _ _ _).mono ?_; rintro _ _ ⟨rfl, rfl⟩; simp only [go_sem, Nat.reduceBEq])
        by_cases q3 : 0 ≤ e.num ∧ e.num ≤ 3
        case neg =>
          simp only [decide_eq_false q3, Bool.not_false, go_sem, Nat.reduceBEq]
          have hz : nPart nmB xp sm v 0 v.kids = false := by
            rw [← hq, if_neg (by omega), if_neg (by omega), if_neg (by omega), if_pos k55, decide_eq_false q3]
            simp
          exact ⟨by rw [hz], x2⟩
        simp only [decide_eq_true q3, Bool.not_true, go_sem, Nat.reduceBEq]
        try simp only [go_sem, Nat.reduceBEq, Nat.reduceAdd, Nat.reduceLeDiff, Nat.reduceEqDiff, Int.reduceEq, not_false_eq_true, Int.reduceToNat]
        refine (iFun false e.kids (fun u _ => (iES u).2) (by omega) _ _ (rd5.mono e2) (hM.ext x2)).mono ?_
        rintro _ h7 ⟨rfl, y7⟩
        have x7 := x2.trans y7
        try simp only [go_sem, Nat.reduceBEq]
        cases q6 : nFun nmB sm false e.kids with
        | false =>
          simp only [Bool.not_false, go_sem, Nat.reduceBEq]
          have hz : nPart nmB xp sm v 0 v.kids = false := by
            rw [← hq, if_neg (by omega), if_neg (by omega), if_neg (by omega), if_pos k55, q6]
            simp
          exact ⟨by rw [hz], x7⟩
        | true =>
          simp only [wsu, Bool.not_true, go_sem, Nat.reduceBEq]
          exact Again.intro (i + 1, 2) (by first | omega | (simp only; omega)) ⟨hbl, x7, by rw [← hq, if_neg (by omega), if_neg (by omega), if_neg (by omega), if_pos k55, q6, decide_eq_true q3, c0]; simp⟩ (by repeat (first | exact wkF_e | refine wkF_c rfl ?_)) (wkB_c rfl wkB_e) rfl
      have k55f := decide_eq_false k55
      have hz : nPart nmB xp sm v 0 v.kids = false := by
        rw [← hq, if_neg k52, if_neg k53, if_neg k54, if_neg k55]
        simp
      simp only [k52f, k53f, k54f, k55f, go_sem, Nat.reduceBEq]
      exact ⟨by rw [hz], x2⟩
    · have hbl : i = v.kids.length := by simp at hb; omega
      rw [List.drop_eq_nil_of_le (by omega), nPart] at hq
      exact ⟨by rw [← hq], x1⟩
  · have k50f : decide (v.kind = 50) = false := decide_eq_false (by omega)
    simp only [k49f, k50f, decide_eq_true k51, go_sem, Nat.reduceBEq]
    refine aloop (ι := Nat × Int) (fun x => [(28, .val (.int .i64 (x.1 : Nat))), (27, .val (.int .i64 (v.kids.length : Nat))), (26, .val (.slice a v.kids.length c)), (3, .val (.int .i64 x.2)), (1, .box 1 0)]) (fun _ => [(1, [.int .i64 v.kind, .int .i64 v.num, .string v.text, .slice a v.kids.length c])])
      (fun x h' => x.1 ≤ v.kids.length ∧ Ext h h' ∧ nPart nmB xp sm v x.2 (v.kids.drop x.1) = nPart nmB xp sm v 0 v.kids) (fun x => v.kids.length - x.1) (0, 0) ⟨Nat.zero_le _, e1, rfl⟩ (by repeat (first | exact wkF_e | refine wkF_c rfl ?_)) (wkB_c rfl wkB_e) rfl ?_
    rintro ⟨i, part⟩ h1 ⟨hi, x1, hq⟩
    have hi : i ≤ v.kids.length := hi
    have hq : nPart nmB xp sm v part (v.kids.drop i) = nPart nmB xp sm v 0 v.kids := hq
    simp only [go_sem, Nat.reduceBEq]
    refine Br.intro (fun hb => ?_) (fun hb => ?_) <;> (try simp only [hb, go_sem, Nat.reduceBEq, Nat.reduceEqDiff])
    · have hbl : i < v.kids.length := by simpa using hb
      obtain ⟨b, off, rfl, hat'⟩ := hat (by omega)
      obtain ⟨e, he, hm⟩ := get_lt hbl
      have wsu := wrap_succ (i := i) (by omega)
      have hbe := kid_bulk hm (by omega)
      have hBe := Nd.bulk_eq e
      rw [drop_cons he, nPart] at hq
      have hn51 : decide (v.kind = 51) = true := decide_eq_true k51
      have le0 : decide ((0 : Int) < ((e.kids.length : Nat) : Int)) = !decide (e.kids.length = 0) := by rw [← decide_not]; exact decide_eq_decide.2 (by omega)
      have le1 : decide (((e.kids.length : Nat) : Int) = 1) = decide (e.kids.length = 1) := decide_eq_decide.2 (by omega)
      simp only [ix_nat hbl, go_sem, Nat.reduceBEq]
      refine hsem_node tyS26 (hat'.mono x1) (hr.mono x1) he (by omega) fun s5 rd5 => ?_
      obtain ⟨a5, c5, xs5, rfl, _, hr5, hat5⟩ := rd5.rows (by decide) e.kids.length (fm_len Nd.dt_len _)
      try simp only [go_sem, Nat.reduceBEq, Nat.reduceAdd, Nat.reduceLeDiff]
      refine (iGood e.text (by have := text_bulk e; omega) _).mono ?_
      rintro _ h2 ⟨rfl, e2⟩
      have x2 := x1.trans e2
      try simp only [go_sem, Nat.reduceBEq]
      cases c0 : nmB e.text with
      | false =>
        simp only [Bool.not_false, go_sem, Nat.reduceBEq]
        have hz : nPart nmB xp sm v 0 v.kids = false := by
          rw [← hq, c0]
          rfl
        exact ⟨by rw [hz], x2⟩
      | true =>
      simp only [Bool.not_true, go_sem, Nat.reduceBEq]
      by_cases k52 : e.kind = 52
      · simp only [decide_eq_true k52, hn51, go_sem, Nat.reduceBEq]
        have hz : nPart nmB xp sm v 0 v.kids = false := by
          rw [← hq]
          simp [c0, k52, k51]
        exact ⟨by rw [hz], x2⟩
      have k52f := decide_eq_false k52
      by_cases k53 : e.kind = 53
      · simp only [k52f, decide_eq_true k53, go_sem, Nat.reduceBEq]
        by_cases q2 : 1 < part
        · simp only [decide_eq_true q2, go_sem, Nat.reduceBEq]
          have hz : nPart nmB xp sm v 0 v.kids = false := by
            rw [← hq]
            simp [c0, k53, q2]
          exact ⟨by rw [hz], x2⟩
        simp only [decide_eq_false q2, go_sem, Nat.reduceBEq]
        by_cases q3 : e.num = 0
        case neg =>
          simp only [decide_eq_false q3, Bool.not_false, go_sem, Nat.reduceBEq]
          have hz : nPart nmB xp sm v 0 v.kids = false := by
            rw [← hq]
            simp [c0, k53, q2, q3]
          exact ⟨by rw [hz], x2⟩
        simp only [decide_eq_true q3, le0, Bool.not_true, go_sem, Nat.reduceBEq]
        by_cases q4 : e.kids.length = 0
        case neg =>
          simp only [decide_eq_false q4, Bool.not_false, go_sem, Nat.reduceBEq]
          have hz : nPart nmB xp sm v 0 v.kids = false := by
            rw [← hq]
            simp [c0, k53, q2, q3, q4]
          exact ⟨by rw [hz], x2⟩
        have q4t := decide_eq_true q4
        simp only [wsu, q4t, Bool.not_true, go_sem, Nat.reduceBEq]
        exact Again.intro (i + 1, 1) (by first | omega | (simp only; omega)) ⟨hbl, x2, by rw [← hq]; simp [c0, k53, q2, q3, q4]⟩ (by repeat (first | exact wkF_e | refine wkF_c rfl ?_)) (wkB_c rfl wkB_e) rfl
      have k53f := decide_eq_false k53
      by_cases k54 : e.kind = 54
      · simp only [k52f, k53f, decide_eq_true k54, go_sem, Nat.reduceBEq]
        by_cases n0 : e.num = 0
        · simp only [decide_eq_true n0, le1, Bool.not_true, go_sem, Nat.reduceBEq]
          by_cases q4 : e.kids.length = 1
          case neg =>
            simp only [decide_eq_false q4, Bool.not_false, go_sem, Nat.reduceBEq]
            have hz : nPart nmB xp sm v 0 v.kids = false := by
              rw [← hq]
              simp [c0, k54, n0, q4]
            exact ⟨by rw [hz], x2⟩
          have hc0 : 0 < e.kids.length := by omega
          obtain ⟨be, oe, rfl, hate⟩ := hat5 hc0
          have ie0 : ixA (some 4) (some ⟨be, oe, none⟩) e.kids.length (0 : Int) = some (.pointer (some ⟨be, oe + 0 * 4, none⟩)) := ix_nat (i := 0) hc0
          simp only [decide_eq_true q4, ie0, Bool.not_true, go_sem, Nat.reduceBEq]
          refine hsem_kind tyS3 (hate.mono e2) (hr5.mono e2) (kid_get hc0) (by omega) ?_
          try simp only [go_sem, Nat.reduceBEq]
          (refine (iInRange _ _ _ _).mono ?_; rintro _ _ ⟨rfl, rfl⟩; simp only [go_sem, Nat.reduceBEq])
          by_cases q5 : 1 ≤ (kid e.kids 0).kind ∧ (kid e.kids 0).kind ≤ 3
          case neg =>
            simp only [decide_eq_false q5, Bool.not_false, go_sem, Nat.reduceBEq]
            have hz : nPart nmB xp sm v 0 v.kids = false := by
              rw [← hq]
              rw [if_neg (by omega), if_neg (by omega), if_pos k54, decide_eq_false q5]
              simp
            exact ⟨by rw [hz], x2⟩
          simp only [decide_eq_true q5, ie0, Bool.not_true, go_sem, Nat.reduceBEq]
          refine hsem_node tyS26 (hate.mono e2) (hr5.mono e2) (kid_get hc0) (by omega) fun s7 rd7 => ?_
          obtain ⟨a7, c7, _, rfl, _⟩ := rd7.rows (by decide) (kid e.kids 0).kids.length (fm_len Nd.dt_len _)
          try simp only [go_sem, Nat.reduceBEq]
          refine ((iES (kid e.kids 0)).1 (kid_bulk (kid_mem hc0) (by omega)) _ _ rd7 (hM.ext x2)).mono ?_
          rintro _ h7 ⟨rfl, y7⟩
          have x7 := x2.trans y7
          try simp only [go_sem, Nat.reduceBEq]
          cases q6 : xp (kid e.kids 0) with
          | false =>
            simp only [Bool.not_false, go_sem, Nat.reduceBEq]
            have hz : nPart nmB xp sm v 0 v.kids = false := by
              rw [← hq]
              simp [c0, k54, n0, q4, q6]
            exact ⟨by rw [hz], x7⟩
          | true =>
            simp only [wsu, Bool.not_true, go_sem, Nat.reduceBEq]
            exact Again.intro (i + 1, 2) (by first | omega | (simp only; omega)) ⟨hbl, x7, by rw [← hq]; simp [c0, k54, n0, q4, q5, q6]⟩ (by repeat (first | exact wkF_e | refine wkF_c rfl ?_)) (wkB_c rfl wkB_e) rfl
        have n0f := decide_eq_false n0
        by_cases n1 : e.num = 1
        · simp only [n0f, decide_eq_true n1, le1, Bool.not_true, Bool.not_false, go_sem, Nat.reduceBEq]
          by_cases q4 : e.kids.length = 1
          case neg =>
            simp only [decide_eq_false q4, Bool.not_false, go_sem, Nat.reduceBEq]
            have hz : nPart nmB xp sm v 0 v.kids = false := by
              rw [← hq]
              simp [c0, k54, n1, q4]
            exact ⟨by rw [hz], x2⟩
          have hc0 : 0 < e.kids.length := by omega
          obtain ⟨be, oe, rfl, hate⟩ := hat5 hc0
          have ie0 : ixA (some 4) (some ⟨be, oe, none⟩) e.kids.length (0 : Int) = some (.pointer (some ⟨be, oe + 0 * 4, none⟩)) := ix_nat (i := 0) hc0
          simp only [decide_eq_true q4, ie0, Bool.not_true, go_sem, Nat.reduceBEq]
          refine hsem_kind tyS3 (hate.mono e2) (hr5.mono e2) (kid_get hc0) (by omega) ?_
          try simp only [go_sem, Nat.reduceBEq]
          (refine (iInRange _ _ _ _).mono ?_; rintro _ _ ⟨rfl, rfl⟩; simp only [go_sem, Nat.reduceBEq])
          by_cases q5 : 1 ≤ (kid e.kids 0).kind ∧ (kid e.kids 0).kind ≤ 3
          case neg =>
            simp only [decide_eq_false q5, Bool.not_false, go_sem, Nat.reduceBEq]
            have hz : nPart nmB xp sm v 0 v.kids = false := by
              rw [← hq]
              rw [if_neg (by omega), if_neg (by omega), if_pos k54, decide_eq_false q5]
              simp
            exact ⟨by rw [hz], x2⟩
          simp only [decide_eq_true q5, ie0, Bool.not_true, go_sem, Nat.reduceBEq]
          refine hsem_node tyS26 (hate.mono e2) (hr5.mono e2) (kid_get hc0) (by omega) fun s7 rd7 => ?_
          obtain ⟨a7, c7, _, rfl, _⟩ := rd7.rows (by decide) (kid e.kids 0).kids.length (fm_len Nd.dt_len _)
          try simp only [go_sem, Nat.reduceBEq]
          refine ((iES (kid e.kids 0)).1 (kid_bulk (kid_mem hc0) (by omega)) _ _ rd7 (hM.ext x2)).mono ?_
          rintro _ h7 ⟨rfl, y7⟩
          have x7 := x2.trans y7
          try simp only [go_sem, Nat.reduceBEq]
          cases q6 : xp (kid e.kids 0) with
          | false =>
            simp only [Bool.not_false, go_sem, Nat.reduceBEq]
            have hz : nPart nmB xp sm v 0 v.kids = false := by
              rw [← hq]
              simp [c0, k54, n1, q4, q6]
            exact ⟨by rw [hz], x7⟩
          | true =>
            simp only [wsu, Bool.not_true, go_sem, Nat.reduceBEq]
            exact Again.intro (i + 1, 2) (by first | omega | (simp only; omega)) ⟨hbl, x7, by rw [← hq]; simp [c0, k54, n1, q4, q5, q6]⟩ (by repeat (first | exact wkF_e | refine wkF_c rfl ?_)) (wkB_c rfl wkB_e) rfl
        simp only [n0f, decide_eq_false n1, Bool.not_false, go_sem, Nat.reduceBEq]
        have hz : nPart nmB xp sm v 0 v.kids = false := by
          rw [← hq]
          simp [c0, k54, n0, n1]
        exact ⟨by rw [hz], x2⟩
      have k54f := decide_eq_false k54
      by_cases k55 : e.kind = 55
      · simp only [k52f, k53f, k54f, decide_eq_true k55, go_sem, Nat.reduceBEq]
        try simp only [go_sem, Nat.reduceBEq, Nat.reduceAdd, Nat.reduceLeDiff, Nat.reduceEqDiff, Int.reduceEq, not_false_eq_true, Int.reduceToNat]
        (refine (iInRange _ _ _ _).mono ?_; rintro _ _ ⟨rfl, rfl⟩; simp only [go_sem, Nat.reduceBEq])
        by_cases q3 : 0 ≤ e.num ∧ e.num ≤ 3
        case neg =>
          simp only [decide_eq_false q3, Bool.not_false, go_sem, Nat.reduceBEq]
          have hz : nPart nmB xp sm v 0 v.kids = false := by
            rw [← hq, if_neg (by omega), if_neg (by omega), if_neg (by omega), if_pos k55, decide_eq_false q3]
            simp
          exact ⟨by rw [hz], x2⟩
        simp only [decide_eq_true q3, Bool.not_true, go_sem, Nat.reduceBEq]
        try simp only [go_sem, Nat.reduceBEq, Nat.reduceAdd, Nat.reduceLeDiff, Nat.reduceEqDiff, Int.reduceEq, not_false_eq_true, Int.reduceToNat]
        refine (iFun false e.kids (fun u _ => (iES u).2) (by omega) _ _ (rd5.mono e2) (hM.ext x2)).mono ?_
        rintro _ h7 ⟨rfl, y7⟩
        have x7 := x2.trans y7
        try simp only [go_sem, Nat.reduceBEq]
        cases q6 : nFun nmB sm false e.kids with
        | false =>
          simp only [Bool.not_false, go_sem, Nat.reduceBEq]
          have hz : nPart nmB xp sm v 0 v.kids = false := by
            rw [← hq, if_neg (by omega), if_neg (by omega), if_neg (by omega), if_pos k55, q6]
            simp
          exact ⟨by rw [hz], x7⟩
        | true =>
          simp only [wsu, Bool.not_true, go_sem, Nat.reduceBEq]
          exact Again.intro (i + 1, 2) (by first | omega | (simp only; omega)) ⟨hbl, x7, by rw [← hq, if_neg (by omega), if_neg (by omega), if_neg (by omega), if_pos k55, q6, decide_eq_true q3, c0]; simp⟩ (by repeat (first | exact wkF_e | refine wkF_c rfl ?_)) (wkB_c rfl wkB_e) rfl
      have k55f := decide_eq_false k55
      have hz : nPart nmB xp sm v 0 v.kids = false := by
        rw [← hq, if_neg k52, if_neg k53, if_neg k54, if_neg k55]
        simp
      simp only [k52f, k53f, k54f, k55f, go_sem, Nat.reduceBEq]
      exact ⟨by rw [hz], x2⟩
    · have hbl : i = v.kids.length := by simp at hb; omega
      rw [List.drop_eq_nil_of_le (by omega), nPart] at hq
      exact ⟨by rw [← hq], x1⟩
theorem iIsScript (v : Nd) (hbk : v.bulk ≤ 1048576) (sl : Value) (h : Hp) (rd : RdN h v.kids sl) (hM : Mx h) : ACalls Try.prog 10 #[.agg #[.int .i64 v.kind, .int .i64 v.num, .string v.text, sl]] h (Is (.bool (isScr v)) h) := by
  have hB := Nd.bulk_eq v
  have hL := Nd.bulks_len v.kids
  obtain ⟨a, c, xs, rfl, hc, hr, hat⟩ := rd.rows (by decide) v.kids.length (fm_len Nd.dt_len _)
  have ez : isScr v = (decide (v.kind = 56) && (decide (v.num = 0) && (decide (v.text = ⟨#[]⟩) && (isSmall v && v.kids.all tp)))) := by
    unfold isScr
    generalize isSmall v = s
    generalize decide (v.kind = 56) = p
    generalize decide (v.num = 0) = q
    generalize decide (v.text = ⟨#[]⟩) = r
    cases s <;> cases p <;> cases q <;> cases r <;> rfl
  rw [ez]
  (refine enter Try.func10 rfl rfl (by kernel_rfl) [] ?_; simp only [go_sem, Nat.reduceBEq])
  try simp only [go_sem, Nat.reduceBEq, Nat.reduceAdd, Nat.reduceLeDiff, Nat.reduceEqDiff, Int.reduceEq, not_false_eq_true, Int.reduceToNat]
  by_cases c1 : v.kind = 56
  case neg =>
    simp only [decide_eq_false c1, Bool.false_and, Bool.not_false, go_sem, Nat.reduceBEq]
    exact ⟨rfl, Ext.refl _⟩
  simp only [decide_eq_true c1, Bool.true_and, Bool.not_true, go_sem, Nat.reduceBEq]
  try simp only [decide_true, decide_false, Bool.true_and, Bool.false_and, Bool.and_true, Bool.and_false, Bool.or_true, Bool.or_false, Bool.true_or, Bool.false_or, Bool.not_true, Bool.not_false, go_sem, Nat.reduceBEq, Nat.reduceAdd, Nat.reduceLeDiff, Nat.reduceEqDiff, Int.reduceEq, not_false_eq_true, Int.reduceToNat]
  by_cases c2 : v.num = 0
  case neg =>
    simp only [decide_eq_false c2, Bool.false_and, Bool.not_false, go_sem, Nat.reduceBEq]
    exact ⟨rfl, Ext.refl _⟩
  simp only [decide_eq_true c2, Bool.true_and, Bool.not_true, go_sem, Nat.reduceBEq]
  try simp only [decide_true, decide_false, Bool.true_and, Bool.false_and, Bool.and_true, Bool.and_false, Bool.or_true, Bool.or_false, Bool.true_or, Bool.false_or, Bool.not_true, Bool.not_false, go_sem, Nat.reduceBEq, Nat.reduceAdd, Nat.reduceLeDiff, Nat.reduceEqDiff, Int.reduceEq, not_false_eq_true, Int.reduceToNat]
  by_cases c3 : v.text = ⟨#[]⟩
  case neg =>
    simp only [decide_eq_false c3, Bool.false_and, Bool.not_false, go_sem, Nat.reduceBEq]
    exact ⟨rfl, Ext.refl _⟩
  simp only [decide_eq_true c3, Bool.true_and, Bool.not_true, go_sem, Nat.reduceBEq, Nat.reduceAdd, Nat.reduceLeDiff]
  try simp only [decide_true, decide_false, Bool.true_and, Bool.false_and, Bool.and_true, Bool.and_false, Bool.or_true, Bool.or_false, Bool.true_or, Bool.false_or, Bool.not_true, Bool.not_false, go_sem, Nat.reduceBEq, Nat.reduceAdd, Nat.reduceLeDiff, Nat.reduceEqDiff, Int.reduceEq, not_false_eq_true, Int.reduceToNat]
  (refine (iSmall v hbk _ _ rd).mono ?_; rintro _ _ ⟨rfl, rfl⟩; simp only [go_sem, Nat.reduceBEq])
  cases hs : isSmall v with
  | false =>
    simp only [Bool.false_and, Bool.not_false, go_sem, Nat.reduceBEq]
    exact ⟨rfl, Ext.refl _⟩
  | true =>
  simp only [Bool.true_and, Bool.not_true, go_sem, Nat.reduceBEq]
  try simp only [go_sem, Nat.reduceBEq, Nat.reduceAdd, Nat.reduceLeDiff, Nat.reduceEqDiff, Int.reduceEq, not_false_eq_true, Int.reduceToNat]
  refine aloop (ι := Nat) (fun i => [(26, .val (.int .i64 (i : Nat))), (25, .val (.int .i64 (v.kids.length : Nat))), (24, .val (.slice a v.kids.length c))]) (fun _ => []) (fun i h' => i ≤ v.kids.length ∧ Ext h h' ∧ (v.kids.drop i).all (tp) = v.kids.all (tp)) (fun i => v.kids.length - i) 0 ⟨Nat.zero_le _, Ext.refl _, rfl⟩ (by repeat (first | exact wkF_e | refine wkF_c rfl ?_)) wkB_e rfl ?_
  rintro i h1 ⟨hi, x1, hq⟩
  have hi : i ≤ v.kids.length := hi
  simp only [go_sem, Nat.reduceBEq]
  refine Br.intro (fun hbq => ?_) (fun hbq => ?_) <;> (try simp only [hbq, go_sem, Nat.reduceBEq])
  · have hbl : i < v.kids.length := by simpa using hbq
    obtain ⟨b, off, rfl, hat'⟩ := hat (by omega)
    obtain ⟨e, he, hm⟩ := get_lt hbl
    have wsu := wrap_succ (i := i) (by omega)
    rw [drop_cons he, List.all_cons] at hq
    simp only [ix_nat hbl, go_sem, Nat.reduceBEq]
    refine hsem_node tyS26 (hat'.mono x1) (hr.mono x1) he (by omega) fun s2 rd2 => ?_
    obtain ⟨a2, c2, _, rfl, _⟩ := rd2.rows (by decide) e.kids.length (fm_len Nd.dt_len _)
    simp only [go_sem, Nat.reduceBEq, Nat.reduceAdd, Nat.reduceLeDiff]
    refine (iTop e (kid_bulk hm (by omega)) _ _ rd2 (hM.ext x1)).mono ?_
    rintro _ h2 ⟨rfl, e2⟩
    have x2 := x1.trans e2
    try simp only [go_sem, Nat.reduceBEq]
    cases t1 : topF nmB xp sm e with
    | true =>
      have ht : tp e = true := by unfold tp; rw [t1]; rfl
      simp only [wsu, Bool.not_true, go_sem, Nat.reduceBEq]
      rw [ht] at hq
      exact Again.intro (i + 1) (by first | omega | (simp only; omega)) ⟨hbl, x2, by simpa using hq⟩ (by repeat (first | exact wkF_e | refine wkF_c rfl ?_)) wkB_e rfl
    | false =>
    simp only [Bool.not_false, go_sem, Nat.reduceBEq, Nat.reduceAdd, Nat.reduceLeDiff]
    try simp only [go_sem, Nat.reduceBEq, Nat.reduceAdd, Nat.reduceLeDiff, Nat.reduceEqDiff, Int.reduceEq, not_false_eq_true, Int.reduceToNat]
    refine ((iES e).2 (kid_bulk hm (by omega)) _ _ (rd2.mono e2) (hM.ext x2)).mono ?_
    rintro _ h3 ⟨rfl, e3⟩
    have x3 := x2.trans e3
    try simp only [go_sem, Nat.reduceBEq]
    cases t2 : sm e with
    | true =>
      have ht : tp e = true := by unfold tp; rw [t2]; simp
      simp only [wsu, Bool.not_true, go_sem, Nat.reduceBEq]
      rw [ht] at hq
      exact Again.intro (i + 1) (by first | omega | (simp only; omega)) ⟨hbl, x3, by simpa using hq⟩ (by repeat (first | exact wkF_e | refine wkF_c rfl ?_)) wkB_e rfl
    | false =>
      have ht : tp e = false := by unfold tp; rw [t1, t2]; rfl
      simp only [Bool.not_false, go_sem, Nat.reduceBEq]
      rw [ht] at hq
      exact ⟨by rw [← hq]; rfl, x3⟩
  · have hbl : i = v.kids.length := by simp at hbq; omega
    rw [List.drop_eq_nil_of_le (by omega)] at hq
    exact ⟨by rw [← hq]; rfl, x1⟩
end Go.Proofs.Ytconhonjkfpfmaa
namespace Go.Proofs.Ytconhonjkfpfmaa
set_option maxRecDepth 8000
open Go Go.Sx Go.ChangeShapes Go.WideShapes Go.RowKit Go.ChangeMaps
section
variable {H : Type} {enc : TypeId × Value → H} {w : World} {base : Nat} {sp : Nat → Bool} {held : Bool}
def bdt (b : UInt8) : List Dt := [.raw (.int .u8 b.toNat)]
theorem openB {v0 : Value} {d : DataW H} {ps : List MemPlace} (h : DataW.Trod enc Try.prog w base sp held 22 v0 d ps) (h1 : oneCell v0 = true) :
    ∃ (l : List UInt8), RdS (vis w) 1 v0 (bcells l) := by
  obtain ⟨n, h⟩ := h
  obtain ⟨l, v, e, _, _, hrd⟩ := open_list (α := UInt8) (f := bdt) (ok := fun _ => True) (z := 1) Try.underlying22 (by kernel_rfl) (by decide) (fun n' cs' x' _ h' => by
    obtain ⟨m, e, h0, h2⟩ := trod_one Try.underlying5 h'
    have h0 : 0 ≤ m := h0
    have h2 : m ≤ 255 := h2
    refine ⟨UInt8.ofNat m.toNat, trivial, ?_⟩
    have h3 : (UInt8.ofNat m.toNat).toNat = m.toNat := by
      rw [UInt8.toNat_ofNat']
      exact Nat.mod_eq_of_lt (by show m.toNat < 256; omega)
    rw [e]
    simp only [bdt, RdL_cons, RdL_nil, Rd_raw]
    exact ⟨_, _, rfl, ⟨by rw [h3, Int.toNat_of_nonneg h0], rfl⟩, rfl⟩) h
  have : v0 = v := by cases v0 <;> first | (simp [Value.cells] at e; exact e) | (simp [oneCell] at h1)
  subst this
  refine ⟨l, ?_⟩
  simp only [Rd] at hrd
  obtain ⟨xs, r1, r2⟩ := hrd
  have r2 : RdL (vis w) ((bcells l).map .raw) xs := by
    have : ∀ l : List UInt8, l.flatMap bdt = (bcells l).map .raw := by
      intro l
      induction l with
      | nil => rfl
      | cons b r ih => simp only [List.flatMap_cons, ih, bdt, bcells, List.map_cons, List.cons_append, List.nil_append]
    rw [← this]
    exact r2
  rwa [r2.of_raws] at r1
end
end Go.Proofs.Ytconhonjkfpfmaa
namespace Go.Proofs.Ytconhonjkfpfmaa
set_option maxRecDepth 8000
open Go Go.Sx
theorem big_c (l : List UInt8) (sl : Value) (h : Hp) (rd : RdS h 1 sl (bcells l)) : ACalls Try.prog 4 #[sl] h (Pu (.bool (decide (1048576 < l.length))) h) := by
  have hbl : (bcells l).length = l.length * 1 := by simp [bcells]
  obtain ⟨a, c, rfl, _⟩ := rd.slice l.length (by decide) hbl
  (refine enter Try.func4 rfl rfl (by kernel_rfl) [] ?_; simp only [go_sem, Nat.reduceBEq])
  exact ⟨by rw [show decide ((1048576 : Int) < (l.length : Nat)) = decide (1048576 < l.length) from decide_eq_decide.2 (by omega)], rfl⟩
end Go.Proofs.Ytconhonjkfpfmaa
namespace Go.Proofs.Ytconhonjkfpfmaa
set_option maxRecDepth 8000
open Go Go.Sx Go.ChangeShapes Go.WideShapes Go.ChangeAt Go.RowKit Go.ChangeMaps
theorem own : ownKnob Try.prog.godebug = none := by kernel_rfl
theorem laidOut : laidOutB Try.prog = true := by kernel_rfl
theorem xp_56 {v : Nd} (h : v.kind = 56) : xp v = false := by
  rw [xp_fix]
  unfold exF
  simp [h]
theorem blk_56 {v : Nd} (h : v.kind = 56) : nBlk sm v = false := by
  unfold nBlk
  simp [h]
set_option maxHeartbeats 6400000 in
theorem FnNodes_law (l : List UInt8) (sl : Value) (h : Hp) (rd : RdS h 1 sl (bcells l)) (hM : Mx h) : ACalls Try.prog 3 #[sl] h (Is (.bool true) h) := by
  have hbl : (bcells l).length = l.length * 1 := by simp [bcells]
  obtain ⟨a, c, rfl, _⟩ := rd.slice l.length (by decide) hbl
  (refine enter Try.func3 rfl rfl (by kernel_rfl) [] ?_; simp only [go_sem, Nat.reduceBEq])
  (refine (big_c l _ _ rd).mono ?_; rintro _ _ ⟨rfl, rfl⟩; simp only [go_sem, Nat.reduceBEq])
  by_cases hl : 1048576 < l.length
  · simp only [decide_eq_true hl, go_sem, Nat.reduceBEq]
    exact ⟨rfl, Ext.refl _⟩
  simp only [decide_eq_false hl, go_sem, Nat.reduceBEq]
  refine (drawIsScript_c (by omega) rd (My.nil (Ext.refl h))).mono ?_
  rintro _ h1 ⟨p, H1, v, av, cv, rfl, e1, b1, r1, m1⟩
  have E1 := e1.trans m1.my.ext
  have r1 := r1.mono m1.my.ext
  clear m1
  have hB := Nd.bulk_eq v
  have hL := Nd.bulks_len v.kids
  have hS := Nd.size_eq v
  have hD := Nd.depth_eq v
  have hS2 := Nd.size_bulk v
  have hD2 := Nd.depth_size v
  rw [Nd.sizes_eq] at hS
  obtain ⟨_, _, xs, eq, hc, rl, hat⟩ := r1.rows (by decide) v.kids.length (fm_len Nd.dt_len _)
  cases eq
  try simp only [go_sem, Nat.reduceBEq, Nat.reduceAdd, Nat.reduceLeDiff]
  refine aloop (ι := Nat) (fun i => [(6, .val (.int .i64 (i : Nat))), (5, .val (.int .i64 (gmax Nd.depth (v.kids.take i) : Nat))), (4, .val (.int .i64 ((1 + gsum Nd.size (v.kids.take i) : Nat)))), (3, .box 3 0), (0, .val (.slice a l.length c))])
    (fun _ => [(3, [.int .i64 v.kind, .int .i64 v.num, .string v.text, .slice av v.kids.length cv])])
    (fun i h' => i ≤ v.kids.length ∧ h' = h1) (fun i => v.kids.length - i) 0 ⟨Nat.zero_le _, rfl⟩ (by repeat (first | exact wkF_e | refine wkF_c rfl ?_)) (wkB_c rfl wkB_e) rfl ?_
  rintro i _ ⟨hi, rfl⟩
  have hi : i ≤ v.kids.length := hi
  try simp only [go_sem, Nat.reduceBEq]
  by_cases hlt : i < v.kids.length
  case pos =>
    simp only [show decide ((i : Int) < (v.kids.length : Nat)) = true from decide_eq_true (by omega), go_sem, Nat.reduceBEq]
    obtain ⟨e, he, hm⟩ := get_lt hlt
    obtain ⟨b, off, rfl, hat'⟩ := hat (by omega)
    have hbe := Nd.bulks_mem hm
    have hse := Nd.size_bulk e
    have hix : ixA (some 4) (some ⟨b, off, none⟩) v.kids.length (i : Int) = some (.pointer (some ⟨b, off + i * 4, none⟩)) := ix_nat hlt
    have ws := wrap_succ (i := i) (by omega)
    have q1 := gsum_snoc (w := Nd.size) he
    have q2 := gsum_split Nd.size v.kids (i + 1)
    have q3 := gmax_snoc (w := Nd.depth) he
    have wz : IntKind.i64.wrap (((1 + gsum Nd.size (v.kids.take i) : Nat) : Int) + (e.size : Nat)) = ((1 + gsum Nd.size (v.kids.take (i + 1)) : Nat) : Int) := by rw [IntWalk.i64_in _ (by omega)]; omega
    have wd : max ((gmax Nd.depth (v.kids.take i) : Nat) : Int) ((e.depth : Nat) : Int) = ((gmax Nd.depth (v.kids.take (i + 1)) : Nat) : Int) := by omega
    simp only [hix, go_sem, Nat.reduceBEq]
    refine hsem_node tyS26 hat' rl he rfl fun sl2 r2 => ?_
    try simp only [go_sem, Nat.reduceBEq]
    (refine (iNodeSize e (by omega) _ _ r2).mono ?_; rintro _ _ ⟨rfl, rfl⟩; simp only [go_sem, Nat.reduceBEq])
    simp only [wz, hix, go_sem, Nat.reduceBEq]
    refine hsem_node tyS26 hat' rl he rfl fun sl3 r3 => ?_
    try simp only [go_sem, Nat.reduceBEq]
    (refine (iNodeDepth e (by omega) _ _ r3).mono ?_; rintro _ _ ⟨rfl, rfl⟩; simp only [go_sem, Nat.reduceBEq])
    (refine (iMax _ _ _).mono ?_; rintro _ _ ⟨rfl, rfl⟩; simp only [go_sem, Nat.reduceBEq])
    simp only [wd, ws, go_sem]
    exact Again.intro (i + 1) (by first | omega | (simp only; omega)) ⟨hlt, rfl⟩ (by repeat (first | exact wkF_e | refine wkF_c rfl ?_)) (wkB_c rfl wkB_e) rfl
  obtain rfl : i = v.kids.length := by omega
  simp only [show decide (((v.kids.length : Nat) : Int) < (v.kids.length : Nat)) = false from decide_eq_false (by omega), List.take_length, ← hS, go_sem]
  refine regionD_intro (lb := [36, 41, 43, 49]) (by kernel_rfl) ?_
  try simp only [go_sem, Nat.reduceBEq, Nat.reduceAdd, Nat.reduceLeDiff]
  (refine (iNodeSize v (by omega) _ _ r1).mono ?_; rintro _ _ ⟨rfl, rfl⟩; simp only [go_sem, Nat.reduceBEq, Nat.reduceAdd, Nat.reduceLeDiff])
  try simp only [decide_true, Bool.not_true, go_sem, Nat.reduceBEq, Nat.reduceAdd, Nat.reduceLeDiff, Nat.reduceEqDiff, Int.reduceEq, not_false_eq_true, Int.reduceToNat]
  (refine (iNodeDepth v (by omega) _ _ r1).mono ?_; rintro _ _ ⟨rfl, rfl⟩; simp only [go_sem, Nat.reduceBEq, Nat.reduceAdd, Nat.reduceLeDiff])
  (refine (sNodeDepth v (by omega) _ _ r1).mono ?_; rintro _ _ ⟨rfl, rfl⟩; simp only [go_sem, Nat.reduceBEq, Nat.reduceAdd, Nat.reduceLeDiff])
  try simp only [decide_true, Bool.not_true, go_sem, Nat.reduceBEq, Nat.reduceAdd, Nat.reduceLeDiff, Nat.reduceEqDiff, Int.reduceEq, not_false_eq_true, Int.reduceToNat]
  (refine (iNodeDepth v (by omega) _ _ r1).mono ?_; rintro _ _ ⟨rfl, rfl⟩; simp only [go_sem, Nat.reduceBEq])
  simp only [show decide (((v.depth : Nat) : Int) ≤ ((gmax Nd.depth v.kids : Nat) : Int)) = false from decide_eq_false (by omega), go_sem, Nat.reduceBEq, Nat.reduceAdd, Nat.reduceLeDiff]
  refine (iIsScript v (by omega) _ _ r1 (hM.ext E1)).mono ?_
  rintro _ h2 ⟨rfl, e2⟩
  have E2 := E1.trans e2
  have r2 := r1.mono e2
  cases hs : isScr v with
  | false =>
    try simp only [go_sem, Nat.reduceBEq]
    refine (drawSameNode_c (by omega) (rd.mono E2) (My.nil (Ext.refl h2))).mono ?_
    rintro _ h6 ⟨p2, H6, x, y, ax, ay, cx, cy, rfl, e6, bx, by_, rx, ry, m6⟩
    have X6 := m6.my.ext
    have E6 := E2.trans (e6.trans X6)
    have rx := rx.mono X6
    have ry := ry.mono X6
    have rv := r2.mono (e6.trans X6)
    clear m6
    try simp only [go_sem, Nat.reduceBEq, Nat.reduceAdd, Nat.reduceLeDiff]
    refine regionD_intro (lb := [77, 78, 81, 82, 84, 85, 90, 91, 95, 97, 102, 104]) (by kernel_rfl) ?_
    try simp only [go_sem, Nat.reduceBEq, Nat.reduceAdd, Nat.reduceLeDiff]
    refine (iSameNode v v (by omega) (by omega) _ _ _ rv rv).mono ?_
    rintro _ _ ⟨rfl, q, rfl, hq⟩
    obtain rfl := hq.2 rfl
    try simp only [go_sem, Nat.reduceBEq, Nat.reduceAdd, Nat.reduceLeDiff]
    refine (iSameNode x y (by omega) (by omega) _ _ _ rx ry).mono ?_
    rintro _ _ ⟨rfl, q1, rfl, hq1⟩
    try simp only [go_sem, Nat.reduceBEq, Nat.reduceAdd, Nat.reduceLeDiff]
    refine (iSameNode y x (by omega) (by omega) _ _ _ ry rx).mono ?_
    rintro _ _ ⟨rfl, q2, rfl, hq2⟩
    obtain rfl : q2 = q1 := by
      cases q1 <;> cases q2 <;> simp_all
    try simp only [decide_true, go_sem, Nat.reduceBEq, Nat.reduceAdd, Nat.reduceLeDiff]
    refine (iSameNode x y (by omega) (by omega) _ _ _ rx ry).mono ?_
    rintro _ _ ⟨rfl, q3, rfl, hq3⟩
    cases q3 with
    | false =>
      try simp only [Bool.not_false, go_sem, Nat.reduceBEq]
      exact ⟨rfl, E6⟩
    | true =>
    obtain rfl := hq3.1 rfl
    try simp only [Bool.not_true, go_sem, Nat.reduceBEq, Nat.reduceAdd, Nat.reduceLeDiff]
    (refine (iNodeSize x (by omega) _ _ rx).mono ?_; rintro _ _ ⟨rfl, rfl⟩; simp only [go_sem, Nat.reduceBEq, Nat.reduceAdd, Nat.reduceLeDiff])
    (refine (iNodeSize x (by omega) _ _ ry).mono ?_; rintro _ _ ⟨rfl, rfl⟩; simp only [go_sem, Nat.reduceBEq])
    try simp only [decide_true, go_sem, Nat.reduceBEq, Nat.reduceAdd, Nat.reduceLeDiff, Nat.reduceEqDiff, Int.reduceEq, not_false_eq_true, Int.reduceToNat]
    exact ⟨rfl, E6⟩
  | true =>
  have hk : v.kind = 56 ∧ v.size ≤ 600 ∧ v.depth ≤ 30 := by
    unfold isScr isSmall at hs
    simp only [Bool.and_eq_true, decide_eq_true_eq] at hs
    exact ⟨hs.2.1, hs.1.1, hs.1.2⟩
  try simp only [go_sem, Nat.reduceBEq]
  simp only [show decide ((600 : Int) < ((v.size : Nat) : Int)) = false from decide_eq_false (by omega), go_sem, Nat.reduceBEq, Nat.reduceAdd, Nat.reduceLeDiff]
  (refine (iNodeDepth v (by omega) _ _ r2).mono ?_; rintro _ _ ⟨rfl, rfl⟩; simp only [go_sem, Nat.reduceBEq])
  simp only [show decide ((30 : Int) < ((v.depth : Nat) : Int)) = false from decide_eq_false (by omega), go_sem, Nat.reduceBEq, Nat.reduceAdd, Nat.reduceLeDiff]
  refine (iIsExpr v (by omega) _ _ r2 (hM.ext E2)).mono ?_
  rintro _ h3 ⟨rfl, e3⟩
  have E3 := E2.trans e3
  have r3 := r2.mono e3
  rw [xp_56 hk.1, Bool.and_false]
  try simp only [go_sem, Nat.reduceBEq, Nat.reduceAdd, Nat.reduceLeDiff]
  refine (iIsBlock v (by omega) _ _ r3 (hM.ext E3)).mono ?_
  rintro _ h4 ⟨rfl, e4⟩
  have E4 := E3.trans e4
  have r4 := r3.mono e4
  rw [blk_56 hk.1, Bool.and_false]
  try simp only [go_sem, Nat.reduceBEq]
  refine (drawSameNode_c (by omega) (rd.mono E4) (My.nil (Ext.refl h4))).mono ?_
  rintro _ h6 ⟨p2, H6, x, y, ax, ay, cx, cy, rfl, e6, bx, by_, rx, ry, m6⟩
  have X6 := m6.my.ext
  have E6 := E4.trans (e6.trans X6)
  have rx := rx.mono X6
  have ry := ry.mono X6
  have rv := r4.mono (e6.trans X6)
  clear m6
  try simp only [go_sem, Nat.reduceBEq, Nat.reduceAdd, Nat.reduceLeDiff]
  refine regionD_intro (lb := [77, 78, 81, 82, 84, 85, 90, 91, 95, 97, 102, 104]) (by kernel_rfl) ?_
  try simp only [go_sem, Nat.reduceBEq, Nat.reduceAdd, Nat.reduceLeDiff]
  refine (iSameNode v v (by omega) (by omega) _ _ _ rv rv).mono ?_
  rintro _ _ ⟨rfl, q, rfl, hq⟩
  obtain rfl := hq.2 rfl
  try simp only [go_sem, Nat.reduceBEq, Nat.reduceAdd, Nat.reduceLeDiff]
  refine (iSameNode x y (by omega) (by omega) _ _ _ rx ry).mono ?_
  rintro _ _ ⟨rfl, q1, rfl, hq1⟩
  try simp only [go_sem, Nat.reduceBEq, Nat.reduceAdd, Nat.reduceLeDiff]
  refine (iSameNode y x (by omega) (by omega) _ _ _ ry rx).mono ?_
  rintro _ _ ⟨rfl, q2, rfl, hq2⟩
  obtain rfl : q2 = q1 := by
    cases q1 <;> cases q2 <;> simp_all
  try simp only [decide_true, go_sem, Nat.reduceBEq, Nat.reduceAdd, Nat.reduceLeDiff]
  refine (iSameNode x y (by omega) (by omega) _ _ _ rx ry).mono ?_
  rintro _ _ ⟨rfl, q3, rfl, hq3⟩
  cases q3 with
  | false =>
    try simp only [Bool.not_false, go_sem, Nat.reduceBEq]
    exact ⟨rfl, E6⟩
  | true =>
  obtain rfl := hq3.1 rfl
  try simp only [Bool.not_true, go_sem, Nat.reduceBEq, Nat.reduceAdd, Nat.reduceLeDiff]
  (refine (iNodeSize x (by omega) _ _ rx).mono ?_; rintro _ _ ⟨rfl, rfl⟩; simp only [go_sem, Nat.reduceBEq, Nat.reduceAdd, Nat.reduceLeDiff])
  (refine (iNodeSize x (by omega) _ _ ry).mono ?_; rintro _ _ ⟨rfl, rfl⟩; simp only [go_sem, Nat.reduceBEq])
  try simp only [decide_true, go_sem, Nat.reduceBEq, Nat.reduceAdd, Nat.reduceLeDiff, Nat.reduceEqDiff, Int.reduceEq, not_false_eq_true, Int.reduceToNat]
  exact ⟨rfl, E6⟩
theorem FnNodes_lifted (os : Os) (started : os.Started) (H : Type) (enc : TypeId × Value → H) :
    ReturnsInHanded {} Try.checked os 3 .any (Rows.fnNodesSpec.pre6 enc Try.prog Try.f3 Rows.fnNodesRow.domain false) (Rows.fnNodesSpec.post enc Try.prog Try.f3 false true false false) := by
  refine returnsInHanded_of_change_shaped (C := Try.checked) own started (by kernel_rfl) Try.func3
    (ChangeSpec.witness6 (enc := enc) (C := Try.checked) false ⟨#[], #[.slice none 0 0], []⟩ 8 (by kernel_rfl) (by kernel_rfl) (by kernel_rfl) (by kernel_rfl)) ?_
  intro W base args ds gs before hval0 hW _ _ hsh _
  have hM : Mx (vis W) := mx_of hsh
  have hval : ∀ (j : Nat) t v, Try.f3.params[j]? = some t → args[j]? = some v → Value.okWide Try.prog W .any base t v := hval0
  have hW' := hW
  obtain ⟨p, q, hA0, hV, rfl, _, _⟩ := hW
  have hA : DataW.TrodAll enc Try.prog W 0 (fun _ => true) true Try.f3.params.toList args.toList ds p := hA0
  rw [Try.params3] at hA hval
  obtain ⟨v0, vs0, d0, ds0, p0, q0, hargs, rfl, rfl, h0, r0⟩ := trodAll_cons hA
  obtain ⟨rfl, rfl, rfl⟩ := trodAll_nil r0
  obtain rfl : args = #[v0] := by cases args; simp_all
  obtain ⟨rfl, rfl⟩ := trodVars_none hV
  obtain ⟨_, _, _, rfl⟩ := okWide_slice Try.underlying22 (hval 0 22 v0 rfl rfl)
  obtain ⟨a0, e0⟩ := openB h0 rfl
  clear hA0 hval0
  simp only [List.append_nil] at hW'
  exact (to_below (FnNodes_law a0 _ _ e0 hM)).mono fun e W' ⟨he, hb⟩ => ⟨_, he, law_post laidOut (by kernel_rfl) rfl Try.underlying4 rfl hW' rfl rfl rfl hb⟩
theorem FnNodes_proved : Rows.FnNodesSaid :=
  OpenClaim.holds_of_wide 3 Try.f3 rfl rfl rfl rfl rfl rfl rfl ⟨rfl, rfl, rfl, rfl, rfl⟩ rfl rfl rfl rfl rfl (by kernel_rfl) Try.func3 (by kernel_rfl)
    (of_decide_eq_true (by kernel_rfl)) (by unfold Func.isWrapper; first | (rw [if_pos (by decide +kernel)]; kernel_rfl) | (rw [if_neg (by decide +kernel)]; exact ⟨rfl, rfl⟩))
    (fun os started H enc _ => FnNodes_lifted os started H enc)
end Go.Proofs.Ytconhonjkfpfmaa
