/-
  What IsScript of the program and of the reference returns.
-/
import Derived.Test.YtamjpcmcpcdggaaTreeW
namespace Go.Proofs.Ytamjpcmcpcdggaa
set_option maxRecDepth 8000
open Go Go.Sx
def tp (v : Nd) : Bool := topF nmB xp sm v || sm v
def isScr (v : Nd) : Bool := isSmall v && (decide (v.kind = 56) && (decide (v.num = 0) && (decide (v.text = ⟨#[]⟩) && v.kids.all tp)))
def clsB (v : Nd) : Bool := sCls nmB (stcB nmB) inlB xp (nBlk sm) v 0 0 v.kids
theorem tp_S (v : Nd) : tp v = (if v.kind = 49 then fN v && (fT v && sUses nmB (nBlk sm) false v.kids) else if v.kind = 50 ∨ v.kind = 51 then fN v && (fT v && clsB v) else sm v) := (top_eq nmB (stcB nmB) inlB v).symm
set_option maxHeartbeats 1600000 in
theorem iTop (v : Nd) (hbk : v.bulk ≤ 1048576) (sl : Value) (h : Hp) (rd : RdN h v.kids sl) (hM : Mx h) : ACalls Try.prog 37 #[.agg #[.int .i64 v.kind, .int .i64 v.num, .string v.text, sl]] h (Is (.bool (topF nmB xp sm v)) h) := by
  have hB := Nd.bulk_eq v
  have hL := Nd.bulks_len v.kids
  obtain ⟨a, c, xs, rfl, hc, hr, hat⟩ := rd.rows (by decide) v.kids.length (fm_len Nd.dt_len _)
  unfold topF
  (refine enter Try.func37 rfl rfl (by kernel_rfl) [] ?_; simp only [go_sem, Nat.reduceBEq])
  try simp only [go_sem, Nat.reduceBEq, Nat.reduceAdd, Nat.reduceLeDiff, Nat.reduceEqDiff, Int.reduceEq, not_false_eq_true, Int.reduceToNat]
  by_cases n0 : v.num = 0
  case neg =>
    simp only [decide_eq_false n0, Bool.false_and, Bool.not_false, go_sem, Nat.reduceBEq]
    exact ⟨rfl, Ext.refl _⟩
  simp only [decide_eq_true n0, Bool.true_and, Bool.not_true, go_sem, Nat.reduceBEq]
  try simp only [go_sem, Nat.reduceBEq, Nat.reduceAdd, Nat.reduceLeDiff, Nat.reduceEqDiff, Int.reduceEq, not_false_eq_true, Int.reduceToNat]
  refine (iGood v.text (by have := text_bulk v; omega) _).mono ?_
  rintro _ h1 ⟨rfl, e1⟩
  try simp only [go_sem, Nat.reduceBEq]
  cases n1 : nmB v.text with
  | false =>
    simp only [Bool.false_and, Bool.not_false, go_sem, Nat.reduceBEq]
    exact ⟨rfl, e1⟩
  | true =>
  simp only [Bool.true_and, Bool.not_true, go_sem, Nat.reduceBEq]
  by_cases k49 : v.kind = 49
  · rw [if_pos k49]
    simp only [decide_eq_true k49, go_sem, Nat.reduceBEq]
    try simp only [go_sem, Nat.reduceBEq, Nat.reduceAdd, Nat.reduceLeDiff, Nat.reduceEqDiff, Int.reduceEq, not_false_eq_true, Int.reduceToNat]
    refine (iFun false v.kids (fun u _ => (iES u).2) (by omega) _ _ (rd.mono e1) (hM.ext e1)).mono ?_
    rintro _ h2 ⟨rfl, e2⟩
    try simp only [go_sem, Nat.reduceBEq]
    exact ⟨rfl, e1.trans e2⟩
  have k49f := decide_eq_false k49
  rw [if_neg k49]
  by_cases kc : v.kind = 50 ∨ v.kind = 51
  case neg =>
    have k50f : decide (v.kind = 50) = false := decide_eq_false (by omega)
    have k51f : decide (v.kind = 51) = false := decide_eq_false (by omega)
    rw [if_neg kc]
    simp only [k49f, k50f, k51f, go_sem, Nat.reduceBEq]
    exact ⟨rfl, e1⟩
  rw [if_pos kc]
  rcases kc with k50 | k51
  · simp only [k49f, decide_eq_true k50, go_sem, Nat.reduceBEq]
    refine aloop (ι := Nat × Int) (fun x => [(28, .val (.int .i64 (x.1 : Nat))), (27, .val (.int .i64 (v.kids.length : Nat))), (26, .val (.slice a v.kids.length c)), (3, .val (.int .i64 x.2)), (1, .box 1 0)]) (fun _ => [(1, [.int .i64 v.kind, .int .i64 v.num, .string v.text, .slice a v.kids.length c])])
      (fun x h' => x.1 ≤ v.kids.length ∧ Ext h h' ∧ nPart nmB xp sm v x.2 (v.kids.drop x.1) = nPart nmB xp sm v 0 v.kids) (fun x => v.kids.length - x.1) (0, 0) ⟨Nat.zero_le _, e1, rfl⟩ (by repeat (first | exact wkF_e | refine wkF_c rfl ?_)) (wkB_c rfl wkB_e) rfl ?_
    rintro ⟨i, part⟩ h1 ⟨hi, x1, hq⟩
    have hi : i ≤ v.kids.length := hi
    have hq : nPart nmB xp sm v part (v.kids.drop i) = nPart nmB xp sm v 0 v.kids := hq
    simp only [go_sem, Nat.reduceBEq]
    refine Br.intro (fun hb => ?_) (fun hb => ?_) <;> (try simp only [hb, go_sem, Nat.reduceBEq, Nat.reduceEqDiff])
    · have hbl : i < v.kids.length := by simpa using hb
      obtain ⟨b, off, rfl, hat'⟩ := hat (by omega)
      obtain ⟨e, he, hm⟩ := get_lt hbl
      have wsu := wrap_succ (i := i) (by omega)
      have hbe := kid_bulk hm (by omega)
      have hBe := Nd.bulk_eq e
      rw [drop_cons he, nPart] at hq
      have hn51 : decide (v.kind = 51) = false := decide_eq_false (by omega)
      have le0 : decide ((0 : Int) < ((e.kids.length : Nat) : Int)) = !decide (e.kids.length = 0) := by rw [← decide_not]; exact decide_eq_decide.2 (by omega)
      have le1 : decide (((e.kids.length : Nat) : Int) = 1) = decide (e.kids.length = 1) := decide_eq_decide.2 (by omega)
      simp only [ix_nat hbl, go_sem, Nat.reduceBEq]
      refine hsem_node tyS29 (hat'.mono x1) (hr.mono x1) he (by omega) fun s5 rd5 => ?_
      obtain ⟨a5, c5, xs5, rfl, _, hr5, hat5⟩ := rd5.rows (by decide) e.kids.length (fm_len Nd.dt_len _)
      try simp only [go_sem, Nat.reduceBEq, Nat.reduceAdd, Nat.reduceLeDiff]
      refine (iGood e.text (by have := text_bulk e; omega) _).mono ?_
      rintro _ h2 ⟨rfl, e2⟩
      have x2 := x1.trans e2
      try simp only [go_sem, Nat.reduceBEq]
      cases c0 : nmB e.text with
      | false =>
        simp only [Bool.not_false, go_sem, Nat.reduceBEq]
        have hz : nPart nmB xp sm v 0 v.kids = false := by
          rw [← hq, c0]
          rfl
        exact ⟨by rw [hz], x2⟩
      | true =>
      simp only [Bool.not_true, go_sem, Nat.reduceBEq]
      by_cases k52 : e.kind = 52
      · simp only [decide_eq_true k52, hn51, go_sem, Nat.reduceBEq]
        have q1 : ¬ v.kind = 51 := by omega
        by_cases q2 : 0 < part
        · simp only [decide_eq_true q2, go_sem, Nat.reduceBEq]
          have hz : nPart nmB xp sm v 0 v.kids = false := by
            rw [← hq]
            simp [c0, k52, q1, q2]
          exact ⟨by rw [hz], x2⟩
        simp only [decide_eq_false q2, go_sem, Nat.reduceBEq]
        by_cases q3 : e.num = 0
        case neg =>
          simp only [decide_eq_false q3, Bool.not_false, go_sem, Nat.reduceBEq]
          have hz : nPart nmB xp sm v 0 v.kids = false := by
            rw [← hq]
            simp [c0, k52, q1, q2, q3]
          exact ⟨by rw [hz], x2⟩
        simp only [decide_eq_true q3, le0, Bool.not_true, go_sem, Nat.reduceBEq]
        by_cases q4 : e.kids.length = 0
        case neg =>
          simp only [decide_eq_false q4, Bool.not_false, go_sem, Nat.reduceBEq]
          have hz : nPart nmB xp sm v 0 v.kids = false := by
            rw [← hq]
            simp [c0, k52, q1, q2, q3, q4]
          exact ⟨by rw [hz], x2⟩
        have q4t := decide_eq_true q4
        simp only [wsu, q4t, Bool.not_true, go_sem, Nat.reduceBEq]
        exact Again.intro (i + 1, 1) (by first | omega | (simp only; omega)) ⟨hbl, x2, by rw [← hq]; simp [c0, k52, q1, q2, q3, q4]⟩ (by repeat (first | exact wkF_e | refine wkF_c rfl ?_)) (wkB_c rfl wkB_e) rfl
      have k52f := decide_eq_false k52
      by_cases k53 : e.kind = 53
      · simp only [k52f, decide_eq_true k53, go_sem, Nat.reduceBEq]
        by_cases q2 : 1 < part
        · simp only [decide_eq_true q2, go_sem, Nat.reduceBEq]
          have hz : nPart nmB xp sm v 0 v.kids = false := by
            rw [← hq]
            simp [c0, k53, q2]
          exact ⟨by rw [hz], x2⟩
        simp only [decide_eq_false q2, go_sem, Nat.reduceBEq]
        by_cases q3 : e.num = 0
        case neg =>
          simp only [decide_eq_false q3, Bool.not_false, go_sem, Nat.reduceBEq]
          have hz : nPart nmB xp sm v 0 v.kids = false := by
            rw [← hq]
            simp [c0, k53, q2, q3]
          exact ⟨by rw [hz], x2⟩
        simp only [decide_eq_true q3, le0, Bool.not_true, go_sem, Nat.reduceBEq]
        by_cases q4 : e.kids.length = 0
        case neg =>
          simp only [decide_eq_false q4, Bool.not_false, go_sem, Nat.reduceBEq]
          have hz : nPart nmB xp sm v 0 v.kids = false := by
            rw [← hq]
            simp [c0, k53, q2, q3, q4]
          exact ⟨by rw [hz], x2⟩
        have q4t := decide_eq_true q4
        simp only [wsu, q4t, Bool.not_true, go_sem, Nat.reduceBEq]
        exact Again.intro (i + 1, 1) (by first | omega | (simp only; omega)) ⟨hbl, x2, by rw [← hq]; simp [c0, k53, q2, q3, q4]⟩ (by repeat (first | exact wkF_e | refine wkF_c rfl ?_)) (wkB_c rfl wkB_e) rfl
      have k53f := decide_eq_false k53
      by_cases k54 : e.kind = 54
      · simp only [k52f, k53f, decide_eq_true k54, go_sem, Nat.reduceBEq]
        by_cases n0 : e.num = 0
        · simp only [decide_eq_true n0, le1, Bool.not_true, go_sem, Nat.reduceBEq]
          by_cases q4 : e.kids.length = 1
          case neg =>
            simp only [decide_eq_false q4, Bool.not_false, go_sem, Nat.reduceBEq]
            have hz : nPart nmB xp sm v 0 v.kids = false := by
              rw [← hq]
              simp [c0, k54, n0, q4]
            exact ⟨by rw [hz], x2⟩
          have hc0 : 0 < e.kids.length := by omega
          obtain ⟨be, oe, rfl, hate⟩ := hat5 hc0
          have ie0 : ixA (some 4) (some ⟨be, oe, none⟩) e.kids.length (0 : Int) = some (.pointer (some ⟨be, oe + 0 * 4, none⟩)) := ix_nat (i := 0) hc0
          simp only [decide_eq_true q4, ie0, Bool.not_true, go_sem, Nat.reduceBEq]
          refine hsem_kind tyS3 (hate.mono e2) (hr5.mono e2) (kid_get hc0) (by omega) ?_
          try simp only [go_sem, Nat.reduceBEq]
          (refine (iInRange _ _ _ _).mono ?_; rintro _ _ ⟨rfl, rfl⟩; simp only [go_sem, Nat.reduceBEq])
          by_cases q5 : 1 ≤ (kid e.kids 0).kind ∧ (kid e.kids 0).kind ≤ 3
          case neg =>
            simp only [decide_eq_false q5, Bool.not_false, go_sem, Nat.reduceBEq]
            have hz : nPart nmB xp sm v 0 v.kids = false := by
              rw [← hq]
              rw [if_neg (by omega), if_neg (by omega), if_pos k54, decide_eq_false q5]
              simp
            exact ⟨by rw [hz], x2⟩
          simp only [decide_eq_true q5, ie0, Bool.not_true, go_sem, Nat.reduceBEq]
          refine hsem_node tyS29 (hate.mono e2) (hr5.mono e2) (kid_get hc0) (by omega) fun s7 rd7 => ?_
          obtain ⟨a7, c7, _, rfl, _⟩ := rd7.rows (by decide) (kid e.kids 0).kids.length (fm_len Nd.dt_len _)
          try simp only [go_sem, Nat.reduceBEq]
          refine ((iES (kid e.kids 0)).1 (kid_bulk (kid_mem hc0) (by omega)) _ _ rd7 (hM.ext x2)).mono ?_
          rintro _ h7 ⟨rfl, y7⟩
          have x7 := x2.trans y7
          try simp only [go_sem, Nat.reduceBEq]
          cases q6 : xp (kid e.kids 0) with
          | false =>
            simp only [Bool.not_false, go_sem, Nat.reduceBEq]
            have hz : nPart nmB xp sm v 0 v.kids = false := by
              rw [← hq]
              simp [c0, k54, n0, q4, q6]
            exact ⟨by rw [hz], x7⟩
          | true =>
            simp only [wsu, Bool.not_true, go_sem, Nat.reduceBEq]
            exact Again.intro (i + 1, 2) (by first | omega | (simp only; omega)) ⟨hbl, x7, by rw [← hq]; simp [c0, k54, n0, q4, q5, q6]⟩ (by repeat (first | exact wkF_e | refine wkF_c rfl ?_)) (wkB_c rfl wkB_e) rfl
        have n0f := decide_eq_false n0
        by_cases n1 : e.num = 1
        · simp only [n0f, decide_eq_true n1, le1, Bool.not_true, Bool.not_false, go_sem, Nat.reduceBEq]
          by_cases q4 : e.kids.length = 1
          case neg =>
            simp only [decide_eq_false q4, Bool.not_false, go_sem, Nat.reduceBEq]
            have hz : nPart nmB xp sm v 0 v.kids = false := by
              rw [← hq]
              simp [c0, k54, n1, q4]
            exact ⟨by rw [hz], x2⟩
          have hc0 : 0 < e.kids.length := by omega
          obtain ⟨be, oe, rfl, hate⟩ := hat5 hc0
          have ie0 : ixA (some 4) (some ⟨be, oe, none⟩) e.kids.length (0 : Int) = some (.pointer (some ⟨be, oe + 0 * 4, none⟩)) := ix_nat (i := 0) hc0
          simp only [decide_eq_true q4, ie0, Bool.not_true, go_sem, Nat.reduceBEq]
          refine hsem_kind tyS3 (hate.mono e2) (hr5.mono e2) (kid_get hc0) (by omega) ?_
          try simp only [go_sem, Nat.reduceBEq]
          (refine (iInRange _ _ _ _).mono ?_; rintro _ _ ⟨rfl, rfl⟩; simp only [go_sem, Nat.reduceBEq])
          by_cases q5 : 1 ≤ (kid e.kids 0).kind ∧ (kid e.kids 0).kind ≤ 3
          case neg =>
            simp only [decide_eq_false q5, Bool.not_false, go_sem, Nat.reduceBEq]
            have hz : nPart nmB xp sm v 0 v.kids = false := by
              rw [← hq]
              rw [if_neg (by omega), if_neg (by omega), if_pos k54, decide_eq_false q5]
              simp
            exact ⟨by rw [hz], x2⟩
          simp only [decide_eq_true q5, ie0, Bool.not_true, go_sem, Nat.reduceBEq]
          refine hsem_node tyS29 (hate.mono e2) (hr5.mono e2) (kid_get hc0) (by omega) fun s7 rd7 => ?_
          obtain ⟨a7, c7, _, rfl, _⟩ := rd7.rows (by decide) (kid e.kids 0).kids.length (fm_len Nd.dt_len _)
          try simp only [go_sem, Nat.reduceBEq]
          refine ((iES (kid e.kids 0)).1 (kid_bulk (kid_mem hc0) (by omega)) _ _ rd7 (hM.ext x2)).mono ?_
          rintro _ h7 ⟨rfl, y7⟩
          have x7 := x2.trans y7
          try simp only [go_sem, Nat.reduceBEq]
          cases q6 : xp (kid e.kids 0) with
          | false =>
            simp only [Bool.not_false, go_sem, Nat.reduceBEq]
            have hz : nPart nmB xp sm v 0 v.kids = false := by
              rw [← hq]
              simp [c0, k54, n1, q4, q6]
            exact ⟨by rw [hz], x7⟩
          | true =>
            simp only [wsu, Bool.not_true, go_sem, Nat.reduceBEq]
            exact Again.intro (i + 1, 2) (by first | omega | (simp only; omega)) ⟨hbl, x7, by rw [← hq]; simp [c0, k54, n1, q4, q5, q6]⟩ (by repeat (first | exact wkF_e | refine wkF_c rfl ?_)) (wkB_c rfl wkB_e) rfl
        simp only [n0f, decide_eq_false n1, Bool.not_false, go_sem, Nat.reduceBEq]
        have hz : nPart nmB xp sm v 0 v.kids = false := by
          rw [← hq]
          simp [c0, k54, n0, n1]
        exact ⟨by rw [hz], x2⟩
      have k54f := decide_eq_false k54
      by_cases k55 : e.kind = 55
      · simp only [k52f, k53f, k54f, decide_eq_true k55, go_sem, Nat.reduceBEq]
        try simp only [go_sem, Nat.reduceBEq, Nat.reduceAdd, Nat.reduceLeDiff, Nat.reduceEqDiff, Int.reduceEq, not_false_eq_true, Int.reduceToNat]
        (refine (iInRange _ _ _ _).mono ?_; rintro _ _ ⟨rfl, rfl⟩; simp only [go_sem, Nat.reduceBEq])
        by_cases q3 : 0 ≤ e.num ∧ e.num ≤ 3
        case neg =>
          simp only [decide_eq_false q3, Bool.not_false, go_sem, Nat.reduceBEq]
          have hz : nPart nmB xp sm v 0 v.kids = false := by
            rw [← hq, if_neg (by omega), if_neg (by omega), if_neg (by omega), if_pos k55, decide_eq_false q3]
            simp
          exact ⟨by rw [hz], x2⟩
        simp only [decide_eq_true q3, Bool.not_true, go_sem, Nat.reduceBEq]
        try simp only [go_sem, Nat.reduceBEq, Nat.reduceAdd, Nat.reduceLeDiff, Nat.reduceEqDiff, Int.reduceEq, not_false_eq_true, Int.reduceToNat]
        refine (iFun false e.kids (fun u _ => (iES u).2) (by omega) _ _ (rd5.mono e2) (hM.ext x2)).mono ?_
        rintro _ h7 ⟨rfl, y7⟩
        have x7 := x2.trans y7
        try simp only [go_sem, Nat.reduceBEq]
        cases q6 : nFun nmB sm false e.kids with
        | false =>
          simp only [Bool.not_false, go_sem, Nat.reduceBEq]
          have hz : nPart nmB xp sm v 0 v.kids = false := by
            rw [← hq, if_neg (by omega), if_neg (by omega), if_neg (by omega), if_pos k55, q6]
            simp
          exact ⟨by rw [hz], x7⟩
        | true =>
          simp only [wsu, Bool.not_true, go_sem, Nat.reduceBEq]
          exact Again.intro (i + 1, 2) (by first | omega | (simp only; omega)) ⟨hbl, x7, by rw [← hq, if_neg (by omega), if_neg (by omega), if_neg (by omega), if_pos k55, q6, decide_eq_true q3, c0]; simp⟩ (by repeat (first | exact wkF_e | refine wkF_c rfl ?_)) (wkB_c rfl wkB_e) rfl
      have k55f := decide_eq_false k55
      have hz : nPart nmB xp sm v 0 v.kids = false := by
        rw [← hq, if_neg k52, if_neg k53, if_neg k54, if_neg k55]
        simp
      simp only [k52f, k53f, k54f, k55f, go_sem, Nat.reduceBEq]
      exact ⟨by rw [hz], x2⟩
    · have hbl : i = v.kids.length := by simp at hb; omega
      rw [List.drop_eq_nil_of_le (by omega), nPart] at hq
      exact ⟨by rw [← hq], x1⟩
  · have k50f : decide (v.kind = 50) = false := decide_eq_false (by omega)
    simp only [k49f, k50f, decide_eq_true k51, go_sem, Nat.reduceBEq]
    refine aloop (ι := Nat × Int) (fun x => [(28, .val (.int .i64 (x.1 : Nat))), (27, .val (.int .i64 (v.kids.length : Nat))), (26, .val (.slice a v.kids.length c)), (3, .val (.int .i64 x.2)), (1, .box 1 0)]) (fun _ => [(1, [.int .i64 v.kind, .int .i64 v.num, .string v.text, .slice a v.kids.length c])])
      (fun x h' => x.1 ≤ v.kids.length ∧ Ext h h' ∧ nPart nmB xp sm v x.2 (v.kids.drop x.1) = nPart nmB xp sm v 0 v.kids) (fun x => v.kids.length - x.1) (0, 0) ⟨Nat.zero_le _, e1, rfl⟩ (by repeat (first | exact wkF_e | refine wkF_c rfl ?_)) (wkB_c rfl wkB_e) rfl ?_
    rintro ⟨i, part⟩ h1 ⟨hi, x1, hq⟩
    have hi : i ≤ v.kids.length := hi
    have hq : nPart nmB xp sm v part (v.kids.drop i) = nPart nmB xp sm v 0 v.kids := hq
    simp only [go_sem, Nat.reduceBEq]
    refine Br.intro (fun hb => ?_) (fun hb => ?_) <;> (try simp only [hb, go_sem, Nat.reduceBEq, Nat.reduceEqDiff])
    · have hbl : i < v.kids.length := by simpa using hb
      obtain ⟨b, off, rfl, hat'⟩ := hat (by omega)
      obtain ⟨e, he, hm⟩ := get_lt hbl
      have wsu := wrap_succ (i := i) (by omega)
      have hbe := kid_bulk hm (by omega)
      have hBe := Nd.bulk_eq e
      rw [drop_cons he, nPart] at hq
      have hn51 : decide (v.kind = 51) = true := decide_eq_true k51
      have le0 : decide ((0 : Int) < ((e.kids.length : Nat) : Int)) = !decide (e.kids.length = 0) := by rw [← decide_not]; exact decide_eq_decide.2 (by omega)
      have le1 : decide (((e.kids.length : Nat) : Int) = 1) = decide (e.kids.length = 1) := decide_eq_decide.2 (by omega)
      simp only [ix_nat hbl, go_sem, Nat.reduceBEq]
      refine hsem_node tyS29 (hat'.mono x1) (hr.mono x1) he (by omega) fun s5 rd5 => ?_
      obtain ⟨a5, c5, xs5, rfl, _, hr5, hat5⟩ := rd5.rows (by decide) e.kids.length (fm_len Nd.dt_len _)
      try simp only [go_sem, Nat.reduceBEq, Nat.reduceAdd, Nat.reduceLeDiff]
      refine (iGood e.text (by have := text_bulk e; omega) _).mono ?_
      rintro _ h2 ⟨rfl, e2⟩
      have x2 := x1.trans e2
      try simp only [go_sem, Nat.reduceBEq]
      cases c0 : nmB e.text with
      | false =>
        simp only [Bool.not_false, go_sem, Nat.reduceBEq]
        have hz : nPart nmB xp sm v 0 v.kids = false := by
          rw [← hq, c0]
          rfl
        exact ⟨by rw [hz], x2⟩
      | true =>
      simp only [Bool.not_true, go_sem, Nat.reduceBEq]
      by_cases k52 : e.kind = 52
      · simp only [decide_eq_true k52, hn51, go_sem, Nat.reduceBEq]
        have hz : nPart nmB xp sm v 0 v.kids = false := by
          rw [← hq]
          simp [c0, k52, k51]
        exact ⟨by rw [hz], x2⟩
      have k52f := decide_eq_false k52
      by_cases k53 : e.kind = 53
      · simp only [k52f, decide_eq_true k53, go_sem, Nat.reduceBEq]
        by_cases q2 : 1 < part
        · simp only [decide_eq_true q2, go_sem, Nat.reduceBEq]
          have hz : nPart nmB xp sm v 0 v.kids = false := by
            rw [← hq]
            simp [c0, k53, q2]
          exact ⟨by rw [hz], x2⟩
        simp only [decide_eq_false q2, go_sem, Nat.reduceBEq]
        by_cases q3 : e.num = 0
        case neg =>
          simp only [decide_eq_false q3, Bool.not_false, go_sem, Nat.reduceBEq]
          have hz : nPart nmB xp sm v 0 v.kids = false := by
            rw [← hq]
            simp [c0, k53, q2, q3]
          exact ⟨by rw [hz], x2⟩
        simp only [decide_eq_true q3, le0, Bool.not_true, go_sem, Nat.reduceBEq]
        by_cases q4 : e.kids.length = 0
        case neg =>
          simp only [decide_eq_false q4, Bool.not_false, go_sem, Nat.reduceBEq]
          have hz : nPart nmB xp sm v 0 v.kids = false := by
            rw [← hq]
            simp [c0, k53, q2, q3, q4]
          exact ⟨by rw [hz], x2⟩
        have q4t := decide_eq_true q4
        simp only [wsu, q4t, Bool.not_true, go_sem, Nat.reduceBEq]
        exact Again.intro (i + 1, 1) (by first | omega | (simp only; omega)) ⟨hbl, x2, by rw [← hq]; simp [c0, k53, q2, q3, q4]⟩ (by repeat (first | exact wkF_e | refine wkF_c rfl ?_)) (wkB_c rfl wkB_e) rfl
      have k53f := decide_eq_false k53
      by_cases k54 : e.kind = 54
      · simp only [k52f, k53f, decide_eq_true k54, go_sem, Nat.reduceBEq]
        by_cases n0 : e.num = 0
        · simp only [decide_eq_true n0, le1, Bool.not_true, go_sem, Nat.reduceBEq]
          by_cases q4 : e.kids.length = 1
          case neg =>
            simp only [decide_eq_false q4, Bool.not_false, go_sem, Nat.reduceBEq]
            have hz : nPart nmB xp sm v 0 v.kids = false := by
              rw [← hq]
              simp [c0, k54, n0, q4]
            exact ⟨by rw [hz], x2⟩
          have hc0 : 0 < e.kids.length := by omega
          obtain ⟨be, oe, rfl, hate⟩ := hat5 hc0
          have ie0 : ixA (some 4) (some ⟨be, oe, none⟩) e.kids.length (0 : Int) = some (.pointer (some ⟨be, oe + 0 * 4, none⟩)) := ix_nat (i := 0) hc0
          simp only [decide_eq_true q4, ie0, Bool.not_true, go_sem, Nat.reduceBEq]
          refine hsem_kind tyS3 (hate.mono e2) (hr5.mono e2) (kid_get hc0) (by omega) ?_
          try simp only [go_sem, Nat.reduceBEq]
          (refine (iInRange _ _ _ _).mono ?_; rintro _ _ ⟨rfl, rfl⟩; simp only [go_sem, Nat.reduceBEq])
          by_cases q5 : 1 ≤ (kid e.kids 0).kind ∧ (kid e.kids 0).kind ≤ 3
          case neg =>
            simp only [decide_eq_false q5, Bool.not_false, go_sem, Nat.reduceBEq]
            have hz : nPart nmB xp sm v 0 v.kids = false := by
              rw [← hq]
              rw [if_neg (by omega), if_neg (by omega), if_pos k54, decide_eq_false q5]
              simp
            exact ⟨by rw [hz], x2⟩
          simp only [decide_eq_true q5, ie0, Bool.not_true, go_sem, Nat.reduceBEq]
          refine hsem_node tyS29 (hate.mono e2) (hr5.mono e2) (kid_get hc0) (by omega) fun s7 rd7 => ?_
          obtain ⟨a7, c7, _, rfl, _⟩ := rd7.rows (by decide) (kid e.kids 0).kids.length (fm_len Nd.dt_len _)
          try simp only [go_sem, Nat.reduceBEq]
          refine ((iES (kid e.kids 0)).1 (kid_bulk (kid_mem hc0) (by omega)) _ _ rd7 (hM.ext x2)).mono ?_
          rintro _ h7 ⟨rfl, y7⟩
          have x7 := x2.trans y7
          try simp only [go_sem, Nat.reduceBEq]
          cases q6 : xp (kid e.kids 0) with
          | false =>
            simp only [Bool.not_false, go_sem, Nat.reduceBEq]
            have hz : nPart nmB xp sm v 0 v.kids = false := by
              rw [← hq]
              simp [c0, k54, n0, q4, q6]
            exact ⟨by rw [hz], x7⟩
          | true =>
            simp only [wsu, Bool.not_true, go_sem, Nat.reduceBEq]
            exact Again.intro (i + 1, 2) (by first | omega | (simp only; omega)) ⟨hbl, x7, by rw [← hq]; simp [c0, k54, n0, q4, q5, q6]⟩ (by repeat (first | exact wkF_e | refine wkF_c rfl ?_)) (wkB_c rfl wkB_e) rfl
        have n0f := decide_eq_false n0
        by_cases n1 : e.num = 1
        · simp only [n0f, decide_eq_true n1, le1, Bool.not_true, Bool.not_false, go_sem, Nat.reduceBEq]
          by_cases q4 : e.kids.length = 1
          case neg =>
            simp only [decide_eq_false q4, Bool.not_false, go_sem, Nat.reduceBEq]
            have hz : nPart nmB xp sm v 0 v.kids = false := by
              rw [← hq]
              simp [c0, k54, n1, q4]
            exact ⟨by rw [hz], x2⟩
          have hc0 : 0 < e.kids.length := by omega
          obtain ⟨be, oe, rfl, hate⟩ := hat5 hc0
          have ie0 : ixA (some 4) (some ⟨be, oe, none⟩) e.kids.length (0 : Int) = some (.pointer (some ⟨be, oe + 0 * 4, none⟩)) := ix_nat (i := 0) hc0
          simp only [decide_eq_true q4, ie0, Bool.not_true, go_sem, Nat.reduceBEq]
          refine hsem_kind tyS3 (hate.mono e2) (hr5.mono e2) (kid_get hc0) (by omega) ?_
          try simp only [go_sem, Nat.reduceBEq]
          (refine (iInRange _ _ _ _).mono ?_; rintro _ _ ⟨rfl, rfl⟩; simp only [go_sem, Nat.reduceBEq])
          by_cases q5 : 1 ≤ (kid e.kids 0).kind ∧ (kid e.kids 0).kind ≤ 3
          case neg =>
            simp only [decide_eq_false q5, Bool.not_false, go_sem, Nat.reduceBEq]
            have hz : nPart nmB xp sm v 0 v.kids = false := by
              rw [← hq]
              rw [if_neg (by omega), if_neg (by omega), if_pos k54, decide_eq_false q5]
              simp
            exact ⟨by rw [hz], x2⟩
          simp only [decide_eq_true q5, ie0, Bool.not_true, go_sem, Nat.reduceBEq]
          refine hsem_node tyS29 (hate.mono e2) (hr5.mono e2) (kid_get hc0) (by omega) fun s7 rd7 => ?_
          obtain ⟨a7, c7, _, rfl, _⟩ := rd7.rows (by decide) (kid e.kids 0).kids.length (fm_len Nd.dt_len _)
          try simp only [go_sem, Nat.reduceBEq]
          refine ((iES (kid e.kids 0)).1 (kid_bulk (kid_mem hc0) (by omega)) _ _ rd7 (hM.ext x2)).mono ?_
          rintro _ h7 ⟨rfl, y7⟩
          have x7 := x2.trans y7
          try simp only [go_sem, Nat.reduceBEq]
          cases q6 : xp (kid e.kids 0) with
          | false =>
            simp only [Bool.not_false, go_sem, Nat.reduceBEq]
            have hz : nPart nmB xp sm v 0 v.kids = false := by
              rw [← hq]
              simp [c0, k54, n1, q4, q6]
            exact ⟨by rw [hz], x7⟩
          | true =>
            simp only [wsu, Bool.not_true, go_sem, Nat.reduceBEq]
            exact Again.intro (i + 1, 2) (by first | omega | (simp only; omega)) ⟨hbl, x7, by rw [← hq]; simp [c0, k54, n1, q4, q5, q6]⟩ (by repeat (first | exact wkF_e | refine wkF_c rfl ?_)) (wkB_c rfl wkB_e) rfl
        simp only [n0f, decide_eq_false n1, Bool.not_false, go_sem, Nat.reduceBEq]
        have hz : nPart nmB xp sm v 0 v.kids = false := by
          rw [← hq]
          simp [c0, k54, n0, n1]
        exact ⟨by rw [hz], x2⟩
      have k54f := decide_eq_false k54
      by_cases k55 : e.kind = 55
      · simp only [k52f, k53f, k54f, decide_eq_true k55, go_sem, Nat.reduceBEq]
        try simp only [go_sem, Nat.reduceBEq, Nat.reduceAdd, Nat.reduceLeDiff, Nat.reduceEqDiff, Int.reduceEq, not_false_eq_true, Int.reduceToNat]
        (refine (iInRange _ _ _ _).mono ?_; rintro _ _ ⟨rfl, rfl⟩; simp only [go_sem, Nat.reduceBEq])
        by_cases q3 : 0 ≤ e.num ∧ e.num ≤ 3
        case neg =>
          simp only [decide_eq_false q3, Bool.not_false, go_sem, Nat.reduceBEq]
          have hz : nPart nmB xp sm v 0 v.kids = false := by
            rw [← hq, if_neg (by omega), if_neg (by omega), if_neg (by omega), if_pos k55, decide_eq_false q3]
            simp
          exact ⟨by rw [hz], x2⟩
        simp only [decide_eq_true q3, Bool.not_true, go_sem, Nat.reduceBEq]
        try simp only [go_sem, Nat.reduceBEq, Nat.reduceAdd, Nat.reduceLeDiff, Nat.reduceEqDiff, Int.reduceEq, not_false_eq_true, Int.reduceToNat]
        refine (iFun false e.kids (fun u _ => (iES u).2) (by omega) _ _ (rd5.mono e2) (hM.ext x2)).mono ?_
        rintro _ h7 ⟨rfl, y7⟩
        have x7 := x2.trans y7
        try simp only [go_sem, Nat.reduceBEq]
        cases q6 : nFun nmB sm false e.kids with
        | false =>
          simp only [Bool.not_false, go_sem, Nat.reduceBEq]
          have hz : nPart nmB xp sm v 0 v.kids = false := by
            rw [← hq, if_neg (by omega), if_neg (by omega), if_neg (by omega), if_pos k55, q6]
            simp
          exact ⟨by rw [hz], x7⟩
        | true =>
          simp only [wsu, Bool.not_true, go_sem, Nat.reduceBEq]
          exact Again.intro (i + 1, 2) (by first | omega | (simp only; omega)) ⟨hbl, x7, by rw [← hq, if_neg (by omega), if_neg (by omega), if_neg (by omega), if_pos k55, q6, decide_eq_true q3, c0]; simp⟩ (by repeat (first | exact wkF_e | refine wkF_c rfl ?_)) (wkB_c rfl wkB_e) rfl
      have k55f := decide_eq_false k55
      have hz : nPart nmB xp sm v 0 v.kids = false := by
        rw [← hq, if_neg k52, if_neg k53, if_neg k54, if_neg k55]
        simp
      simp only [k52f, k53f, k54f, k55f, go_sem, Nat.reduceBEq]
      exact ⟨by rw [hz], x2⟩
    · have hbl : i = v.kids.length := by simp at hb; omega
      rw [List.drop_eq_nil_of_le (by omega), nPart] at hq
      exact ⟨by rw [← hq], x1⟩
theorem iIsScript (v : Nd) (hbk : v.bulk ≤ 1048576) (sl : Value) (h : Hp) (rd : RdN h v.kids sl) (hM : Mx h) : ACalls Try.prog 15 #[.agg #[.int .i64 v.kind, .int .i64 v.num, .string v.text, sl]] h (Is (.bool (isScr v)) h) := by
  have hB := Nd.bulk_eq v
  have hL := Nd.bulks_len v.kids
  obtain ⟨a, c, xs, rfl, hc, hr, hat⟩ := rd.rows (by decide) v.kids.length (fm_len Nd.dt_len _)
  have ez : isScr v = (decide (v.kind = 56) && (decide (v.num = 0) && (decide (v.text = ⟨#[]⟩) && (isSmall v && v.kids.all tp)))) := by
    unfold isScr
    generalize isSmall v = s
    generalize decide (v.kind = 56) = p
    generalize decide (v.num = 0) = q
    generalize decide (v.text = ⟨#[]⟩) = r
    cases s <;> cases p <;> cases q <;> cases r <;> rfl
  rw [ez]
  (refine enter Try.func15 rfl rfl (by kernel_rfl) [] ?_; simp only [go_sem, Nat.reduceBEq])
  try simp only [go_sem, Nat.reduceBEq, Nat.reduceAdd, Nat.reduceLeDiff, Nat.reduceEqDiff, Int.reduceEq, not_false_eq_true, Int.reduceToNat]
  by_cases c1 : v.kind = 56
  case neg =>
    simp only [decide_eq_false c1, Bool.false_and, Bool.not_false, go_sem, Nat.reduceBEq]
    exact ⟨rfl, Ext.refl _⟩
  simp only [decide_eq_true c1, Bool.true_and, Bool.not_true, go_sem, Nat.reduceBEq]
  try simp only [decide_true, decide_false, Bool.true_and, Bool.false_and, Bool.and_true, Bool.and_false, Bool.or_true, Bool.or_false, Bool.true_or, Bool.false_or, Bool.not_true, Bool.not_false, go_sem, Nat.reduceBEq, Nat.reduceAdd, Nat.reduceLeDiff, Nat.reduceEqDiff, Int.reduceEq, not_false_eq_true, Int.reduceToNat]
  by_cases c2 : v.num = 0
  case neg =>
    simp only [decide_eq_false c2, Bool.false_and, Bool.not_false, go_sem, Nat.reduceBEq]
    exact ⟨rfl, Ext.refl _⟩
  simp only [decide_eq_true c2, Bool.true_and, Bool.not_true, go_sem, Nat.reduceBEq]
  try simp only [decide_true, decide_false, Bool.true_and, Bool.false_and, Bool.and_true, Bool.and_false, Bool.or_true, Bool.or_false, Bool.true_or, Bool.false_or, Bool.not_true, Bool.not_false, go_sem, Nat.reduceBEq, Nat.reduceAdd, Nat.reduceLeDiff, Nat.reduceEqDiff, Int.reduceEq, not_false_eq_true, Int.reduceToNat]
  by_cases c3 : v.text = ⟨#[]⟩
  case neg =>
    simp only [decide_eq_false c3, Bool.false_and, Bool.not_false, go_sem, Nat.reduceBEq]
    exact ⟨rfl, Ext.refl _⟩
  simp only [decide_eq_true c3, Bool.true_and, Bool.not_true, go_sem, Nat.reduceBEq, Nat.reduceAdd, Nat.reduceLeDiff]
  try simp only [decide_true, decide_false, Bool.true_and, Bool.false_and, Bool.and_true, Bool.and_false, Bool.or_true, Bool.or_false, Bool.true_or, Bool.false_or, Bool.not_true, Bool.not_false, go_sem, Nat.reduceBEq, Nat.reduceAdd, Nat.reduceLeDiff, Nat.reduceEqDiff, Int.reduceEq, not_false_eq_true, Int.reduceToNat]
  (refine (iSmall v hbk _ _ rd).mono ?_; rintro _ _ ⟨rfl, rfl⟩; simp only [go_sem, Nat.reduceBEq])
  cases hs : isSmall v with
  | false =>
    simp only [Bool.false_and, Bool.not_false, go_sem, Nat.reduceBEq]
    exact ⟨rfl, Ext.refl _⟩
  | true =>
  simp only [Bool.true_and, Bool.not_true, go_sem, Nat.reduceBEq]
  try simp only [go_sem, Nat.reduceBEq, Nat.reduceAdd, Nat.reduceLeDiff, Nat.reduceEqDiff, Int.reduceEq, not_false_eq_true, Int.reduceToNat]
  refine aloop (ι := Nat) (fun i => [(26, .val (.int .i64 (i : Nat))), (25, .val (.int .i64 (v.kids.length : Nat))), (24, .val (.slice a v.kids.length c))]) (fun _ => []) (fun i h' => i ≤ v.kids.length ∧ Ext h h' ∧ (v.kids.drop i).all (tp) = v.kids.all (tp)) (fun i => v.kids.length - i) 0 ⟨Nat.zero_le _, Ext.refl _, rfl⟩ (by repeat (first | exact wkF_e | refine wkF_c rfl ?_)) wkB_e rfl ?_
  rintro i h1 ⟨hi, x1, hq⟩
  have hi : i ≤ v.kids.length := hi
  simp only [go_sem, Nat.reduceBEq]
  refine Br.intro (fun hbq => ?_) (fun hbq => ?_) <;> (try simp only [hbq, go_sem, Nat.reduceBEq])
  · have hbl : i < v.kids.length := by simpa using hbq
    obtain ⟨b, off, rfl, hat'⟩ := hat (by omega)
    obtain ⟨e, he, hm⟩ := get_lt hbl
    have wsu := wrap_succ (i := i) (by omega)
    rw [drop_cons he, List.all_cons] at hq
    simp only [ix_nat hbl, go_sem, Nat.reduceBEq]
    refine hsem_node tyS29 (hat'.mono x1) (hr.mono x1) he (by omega) fun s2 rd2 => ?_
    obtain ⟨a2, c2, _, rfl, _⟩ := rd2.rows (by decide) e.kids.length (fm_len Nd.dt_len _)
    simp only [go_sem, Nat.reduceBEq, Nat.reduceAdd, Nat.reduceLeDiff]
    refine (iTop e (kid_bulk hm (by omega)) _ _ rd2 (hM.ext x1)).mono ?_
    rintro _ h2 ⟨rfl, e2⟩
    have x2 := x1.trans e2
    try simp only [go_sem, Nat.reduceBEq]
    cases t1 : topF nmB xp sm e with
    | true =>
      have ht : tp e = true := by unfold tp; rw [t1]; rfl
      simp only [wsu, Bool.not_true, go_sem, Nat.reduceBEq]
      rw [ht] at hq
      exact Again.intro (i + 1) (by first | omega | (simp only; omega)) ⟨hbl, x2, by simpa using hq⟩ (by repeat (first | exact wkF_e | refine wkF_c rfl ?_)) wkB_e rfl
    | false =>
    simp only [Bool.not_false, go_sem, Nat.reduceBEq, Nat.reduceAdd, Nat.reduceLeDiff]
    try simp only [go_sem, Nat.reduceBEq, Nat.reduceAdd, Nat.reduceLeDiff, Nat.reduceEqDiff, Int.reduceEq, not_false_eq_true, Int.reduceToNat]
    refine ((iES e).2 (kid_bulk hm (by omega)) _ _ (rd2.mono e2) (hM.ext x2)).mono ?_
    rintro _ h3 ⟨rfl, e3⟩
    have x3 := x2.trans e3
    try simp only [go_sem, Nat.reduceBEq]
    cases t2 : sm e with
    | true =>
      have ht : tp e = true := by unfold tp; rw [t2]; simp
      simp only [wsu, Bool.not_true, go_sem, Nat.reduceBEq]
      rw [ht] at hq
      exact Again.intro (i + 1) (by first | omega | (simp only; omega)) ⟨hbl, x3, by simpa using hq⟩ (by repeat (first | exact wkF_e | refine wkF_c rfl ?_)) wkB_e rfl
    | false =>
      have ht : tp e = false := by unfold tp; rw [t1, t2]; rfl
      simp only [Bool.not_false, go_sem, Nat.reduceBEq]
      rw [ht] at hq
      exact ⟨by rw [← hq]; rfl, x3⟩
  · have hbl : i = v.kids.length := by simp at hbq; omega
    rw [List.drop_eq_nil_of_le (by omega)] at hq
    exact ⟨by rw [← hq]; rfl, x1⟩
set_option maxHeartbeats 1600000 in
theorem sClass (v : Nd) (hbk : v.bulk ≤ 1048576) (sl : Value) (h : Hp) (rd : RdN h v.kids sl) : ACalls Try.prog 36 #[.agg #[.int .i64 v.kind, .int .i64 v.num, .string v.text, sl]] h (Is (.bool (clsB v)) h) := by
  have hB := Nd.bulk_eq v
  have hL := Nd.bulks_len v.kids
  obtain ⟨a, c, xs, rfl, hc, hr, hat⟩ := rd.rows (by decide) v.kids.length (fm_len Nd.dt_len _)
  (refine enter Try.func36 rfl rfl (by kernel_rfl) [] ?_; simp only [go_sem, Nat.reduceBEq])
  refine aloop (ι := Nat × Int) (fun x => [(4, .val (.int .i64 (x.1 : Nat))), (3, .val (.int .i64 x.2)), (1, .box 1 0)]) (fun _ => [(1, [.int .i64 v.kind, .int .i64 v.num, .string v.text, .slice a v.kids.length c])])
    (fun x h' => x.1 ≤ v.kids.length ∧ Ext h h' ∧ sCls nmB (stcB nmB) inlB xp (nBlk sm) v x.1 x.2 (v.kids.drop x.1) = clsB v) (fun x => v.kids.length - x.1) (0, 0) ⟨Nat.zero_le _, Ext.refl _, rfl⟩ (by repeat (first | exact wkF_e | refine wkF_c rfl ?_)) (wkB_c rfl wkB_e) rfl ?_
  rintro ⟨i, st⟩ h1 ⟨hi, x1, hq⟩
  have hi : i ≤ v.kids.length := hi
  have hq : sCls nmB (stcB nmB) inlB xp (nBlk sm) v i st (v.kids.drop i) = clsB v := hq
  simp only [go_sem, Nat.reduceBEq]
  refine Br.intro (fun hb => ?_) (fun hb => ?_) <;> (try simp only [hb, go_sem, Nat.reduceBEq])
  · have hbl : i < v.kids.length := by simpa using hb
    obtain ⟨b, off, rfl, hat'⟩ := hat (by omega)
    obtain ⟨e, he, hm⟩ := get_lt hbl
    have wsu := wrap_succ (i := i) (by omega)
    have hbe := kid_bulk hm (by omega)
    have hBe := Nd.bulk_eq e
    rw [drop_cons he, sCls] at hq
    have hi0 : decide (((i : Nat) : Int) = 0) = decide (i = 0) := decide_eq_decide.2 (by omega)
    have le0 : decide (((e.kids.length : Nat) : Int) = 0) = decide (e.kids.length = 0) := decide_eq_decide.2 (by omega)
    have le1 : decide (((e.kids.length : Nat) : Int) = 1) = decide (e.kids.length = 1) := decide_eq_decide.2 (by omega)
    simp only [ix_nat hbl, go_sem, Nat.reduceBEq]
    refine hsem_node tyS29 (hat'.mono x1) (hr.mono x1) he (by omega) fun s5 rd5 => ?_
    obtain ⟨a5, c5, xs5, rfl, _, hr5, hat5⟩ := rd5.rows (by decide) e.kids.length (fm_len Nd.dt_len _)
    try simp only [go_sem, Nat.reduceBEq, Nat.reduceAdd, Nat.reduceLeDiff]
    refine (sFields e hbe _ _ rd5).mono ?_
    rintro _ h2 ⟨rfl, e2⟩
    have x2 := x1.trans e2
    try simp only [go_sem, Nat.reduceBEq]
    by_cases k52 : e.kind = 52
    · simp only [decide_eq_true k52, hi0, go_sem, Nat.reduceBEq]
      by_cases q1 : i = 0
      case neg =>
        simp only [decide_eq_false q1, go_sem, Nat.reduceBEq]
        have hz : clsB v = false := by
          rw [← hq]
          simp [k52, q1]
        cases hN2 : fN e <;> cases hT2 : fT e <;> (simp only [Bool.not_true, Bool.not_false, go_sem, Nat.reduceBEq]; exact ⟨by rw [hz], x2⟩)
      simp only [decide_eq_true q1, go_sem, Nat.reduceBEq]
      by_cases q2 : v.kind = 50
      case neg =>
        simp only [decide_eq_false q2, go_sem, Nat.reduceBEq]
        have hz : clsB v = false := by
          rw [← hq]
          simp [k52, q1, q2]
        cases hN2 : fN e <;> cases hT2 : fT e <;> (simp only [Bool.not_true, Bool.not_false, go_sem, Nat.reduceBEq]; exact ⟨by rw [hz], x2⟩)
      simp only [decide_eq_true q2, le0, go_sem, Nat.reduceBEq]
      by_cases q3 : e.kids.length = 0
      case neg =>
        simp only [decide_eq_false q3, go_sem]
        have hz : clsB v = false := by
          rw [← hq]
          simp [k52, q1, q2, q3]
        cases hN2 : fN e <;> cases hT2 : fT e <;> (simp only [Bool.not_true, Bool.not_false, go_sem, Nat.reduceBEq]; exact ⟨by rw [hz], x2⟩)
      simp only [decide_eq_true q3, go_sem]
      cases hN2 : fN e with
      | false =>
        have hN3 : fNum e = false := hN2
        have hz : clsB v = false := by
          rw [← hq, hN3]
          rfl
        simp only [Bool.not_false, go_sem, Nat.reduceBEq]
        exact ⟨by rw [hz], x2⟩
      | true =>
      have hN3 : fNum e = true := hN2
      cases hT2 : fT e with
      | false =>
        have hT3 : fTxt nmB (stcB nmB) inlB e = false := hT2
        have hz : clsB v = false := by
          rw [← hq, hN3, hT3]
          rfl
        simp only [Bool.not_true, Bool.not_false, go_sem, Nat.reduceBEq]
        exact ⟨by rw [hz], x2⟩
      | true =>
      have hT3 : fTxt nmB (stcB nmB) inlB e = true := hT2
      by_cases hst : 0 < st
      · have hz : clsB v = false := by
          rw [← hq]
          simp [k52, q1, q2, q3, hN3, hT3, hst]
        simp only [decide_eq_true hst, Bool.not_true, go_sem, Nat.reduceBEq]
        exact ⟨by rw [hz], x2⟩
      · simp only [decide_eq_false hst, wsu, Bool.not_true, go_sem, Nat.reduceBEq]
        exact Again.intro (i + 1, 0) (by first | omega | (simp only; omega)) ⟨hbl, x2, by rw [← hq]; simp [k52, q1, q2, q3, hN3, hT3, hst]⟩ (by repeat (first | exact wkF_e | refine wkF_c rfl ?_)) (wkB_c rfl wkB_e) rfl
    have k52f := decide_eq_false k52
    by_cases k53 : e.kind = 53
    · simp only [decide_eq_true k53, k52f, le0, go_sem, Nat.reduceBEq]
      by_cases q3 : e.kids.length = 0
      case neg =>
        simp only [decide_eq_false q3, go_sem]
        have hz : clsB v = false := by
          rw [← hq]
          simp [k53, q3]
        cases hN2 : fN e <;> cases hT2 : fT e <;> (simp only [Bool.not_true, Bool.not_false, go_sem, Nat.reduceBEq]; exact ⟨by rw [hz], x2⟩)
      simp only [decide_eq_true q3, go_sem]
      cases hN2 : fN e with
      | false =>
        have hN3 : fNum e = false := hN2
        have hz : clsB v = false := by
          rw [← hq, hN3]
          rfl
        simp only [Bool.not_false, go_sem, Nat.reduceBEq]
        exact ⟨by rw [hz], x2⟩
      | true =>
      have hN3 : fNum e = true := hN2
      cases hT2 : fT e with
      | false =>
        have hT3 : fTxt nmB (stcB nmB) inlB e = false := hT2
        have hz : clsB v = false := by
          rw [← hq, hN3, hT3]
          rfl
        simp only [Bool.not_true, Bool.not_false, go_sem, Nat.reduceBEq]
        exact ⟨by rw [hz], x2⟩
      | true =>
      have hT3 : fTxt nmB (stcB nmB) inlB e = true := hT2
      by_cases hst : 1 < st
      · have hz : clsB v = false := by
          rw [← hq]
          simp [k53, q3, hN3, hT3, hst]
        simp only [decide_eq_true hst, Bool.not_true, go_sem, Nat.reduceBEq]
        exact ⟨by rw [hz], x2⟩
      · simp only [decide_eq_false hst, wsu, Bool.not_true, go_sem, Nat.reduceBEq]
        exact Again.intro (i + 1, 1) (by first | omega | (simp only; omega)) ⟨hbl, x2, by rw [← hq]; simp [k53, q3, hN3, hT3, hst]⟩ (by repeat (first | exact wkF_e | refine wkF_c rfl ?_)) (wkB_c rfl wkB_e) rfl
    have k53f := decide_eq_false k53
    by_cases k54 : e.kind = 54
    · simp only [decide_eq_true k54, k52f, k53f, le1, go_sem, Nat.reduceBEq]
      by_cases q4 : e.kids.length = 1
      case neg =>
        simp only [decide_eq_false q4, go_sem, Nat.reduceBEq]
        have hz : clsB v = false := by
          rw [← hq]
          simp [k54, q4]
        cases hN2 : fN e <;> cases hT2 : fT e <;> (simp only [Bool.not_true, Bool.not_false, go_sem, Nat.reduceBEq]; exact ⟨by rw [hz], x2⟩)
      have hc0 : 0 < e.kids.length := by omega
      obtain ⟨be, oe, rfl, hate⟩ := hat5 hc0
      have ie0 : ixA (some 4) (some ⟨be, oe, none⟩) e.kids.length (0 : Int) = some (.pointer (some ⟨be, oe + 0 * 4, none⟩)) := ix_nat (i := 0) hc0
      simp only [decide_eq_true q4, ie0, go_sem, Nat.reduceBEq]
      refine hsem_kind tyS3 (hate.mono e2) (hr5.mono e2) (kid_get hc0) (by omega) ?_
      try simp only [go_sem, Nat.reduceBEq]
      (refine (l1In_c _ _ _ _).mono ?_; rintro _ _ ⟨rfl, rfl⟩; simp only [go_sem, Nat.reduceBEq])
      generalize hq5 : decide (1 ≤ (kid e.kids 0).kind ∧ (kid e.kids 0).kind ≤ 3) = d5 at *
      cases d5 with
      | false =>
        simp only [go_sem, Nat.reduceBEq]
        have hz : clsB v = false := by
          rw [← hq, if_neg (by omega), if_neg (by omega), if_pos k54]
          simp
        cases hN2 : fN e <;> cases hT2 : fT e <;> (simp only [Bool.not_true, Bool.not_false, go_sem, Nat.reduceBEq]; exact ⟨by rw [hz], x2⟩)
      | true =>
      simp only [ie0, go_sem, Nat.reduceBEq]
      refine hsem_node tyS29 (hate.mono e2) (hr5.mono e2) (kid_get hc0) (by omega) fun s7 rd7 => ?_
      obtain ⟨a7, c7, _, rfl, _⟩ := rd7.rows (by decide) (kid e.kids 0).kids.length (fm_len Nd.dt_len _)
      try simp only [go_sem, Nat.reduceBEq]
      refine ((sES (kid e.kids 0)).1 (kid_bulk (kid_mem hc0) (by omega)) _ _ rd7).mono ?_
      rintro _ h7 ⟨rfl, y7⟩
      have x7 := x2.trans y7
      try simp only [go_sem, Nat.reduceBEq]
      cases q6 : xp (kid e.kids 0) with
      | false =>
        try simp only [k52f, k53f, hi0, le0, le1, decide_true, decide_false, Bool.true_and, Bool.false_and, Bool.and_true, Bool.and_false, Bool.or_true, Bool.or_false, Bool.true_or, Bool.false_or, Bool.not_true, Bool.not_false, go_sem, Nat.reduceBEq, Nat.reduceAdd, Nat.reduceLeDiff, Nat.reduceEqDiff, Int.reduceEq, not_false_eq_true, Int.reduceToNat]
        have hz : clsB v = false := by
          rw [← hq]
          simp [k54, q4, q6]
        cases hN2 : fN e <;> cases hT2 : fT e <;> (simp only [Bool.not_true, Bool.not_false, go_sem, Nat.reduceBEq]; exact ⟨by rw [hz], x7⟩)
      | true =>
      try simp only [k52f, k53f, hi0, le0, le1, decide_true, decide_false, Bool.true_and, Bool.false_and, Bool.and_true, Bool.and_false, Bool.or_true, Bool.or_false, Bool.true_or, Bool.false_or, Bool.not_true, Bool.not_false, go_sem, Nat.reduceBEq, Nat.reduceAdd, Nat.reduceLeDiff, Nat.reduceEqDiff, Int.reduceEq, not_false_eq_true, Int.reduceToNat]
      cases hN2 : fN e with
      | false =>
        have hN3 : fNum e = false := hN2
        have hz : clsB v = false := by
          rw [← hq, hN3]
          rfl
        simp only [Bool.not_false, go_sem, Nat.reduceBEq]
        exact ⟨by rw [hz], x7⟩
      | true =>
      have hN3 : fNum e = true := hN2
      cases hT2 : fT e with
      | false =>
        have hT3 : fTxt nmB (stcB nmB) inlB e = false := hT2
        have hz : clsB v = false := by
          rw [← hq, hN3, hT3]
          rfl
        simp only [Bool.not_true, Bool.not_false, go_sem, Nat.reduceBEq]
        exact ⟨by rw [hz], x7⟩
      | true =>
      have hT3 : fTxt nmB (stcB nmB) inlB e = true := hT2
      by_cases hst : 2 < st
      · have hz : clsB v = false := by
          rw [← hq]
          simp [k54, q4, q6, hN3, hT3, hst]
        simp only [decide_eq_true hst, Bool.not_true, go_sem, Nat.reduceBEq]
        exact ⟨by rw [hz], x7⟩
      · simp only [decide_eq_false hst, wsu, Bool.not_true, go_sem, Nat.reduceBEq]
        exact Again.intro (i + 1, 2) (by first | omega | (simp only; omega)) ⟨hbl, x7, by rw [← hq]; simp [k54, q4, q6, hN3, hT3, hst]⟩ (by repeat (first | exact wkF_e | refine wkF_c rfl ?_)) (wkB_c rfl wkB_e) rfl
    have k54f := decide_eq_false k54
    by_cases k55 : e.kind = 55
    · simp only [decide_eq_true k55, k52f, k53f, k54f, go_sem, Nat.reduceBEq]
      try simp only [go_sem, Nat.reduceBEq, Nat.reduceAdd, Nat.reduceLeDiff, Nat.reduceEqDiff, Int.reduceEq, not_false_eq_true, Int.reduceToNat]
      refine (sUse false e.kids (fun u _ w _ => (sES w).2) (by omega) _ _ (rd5.mono e2)).mono ?_
      rintro _ h7 ⟨rfl, y7⟩
      have x7 := x2.trans y7
      try simp only [go_sem, Nat.reduceBEq]
      cases q6 : sUses nmB (nBlk sm) false e.kids with
      | false =>
        try simp only [k52f, k53f, k54f, hi0, le0, le1, decide_true, decide_false, Bool.true_and, Bool.false_and, Bool.and_true, Bool.and_false, Bool.or_true, Bool.or_false, Bool.true_or, Bool.false_or, Bool.not_true, Bool.not_false, go_sem, Nat.reduceBEq, Nat.reduceAdd, Nat.reduceLeDiff, Nat.reduceEqDiff, Int.reduceEq, not_false_eq_true, Int.reduceToNat]
        have hz : clsB v = false := by
          rw [← hq]
          simp [k55, q6]
        cases hN2 : fN e <;> cases hT2 : fT e <;> (simp only [Bool.not_true, Bool.not_false, go_sem, Nat.reduceBEq]; exact ⟨by rw [hz], x7⟩)
      | true =>
      try simp only [k52f, k53f, k54f, hi0, le0, le1, decide_true, decide_false, Bool.true_and, Bool.false_and, Bool.and_true, Bool.and_false, Bool.or_true, Bool.or_false, Bool.true_or, Bool.false_or, Bool.not_true, Bool.not_false, go_sem, Nat.reduceBEq, Nat.reduceAdd, Nat.reduceLeDiff, Nat.reduceEqDiff, Int.reduceEq, not_false_eq_true, Int.reduceToNat]
      cases hN2 : fN e with
      | false =>
        have hN3 : fNum e = false := hN2
        have hz : clsB v = false := by
          rw [← hq, hN3]
          rfl
        simp only [Bool.not_false, go_sem, Nat.reduceBEq]
        exact ⟨by rw [hz], x7⟩
      | true =>
      have hN3 : fNum e = true := hN2
      cases hT2 : fT e with
      | false =>
        have hT3 : fTxt nmB (stcB nmB) inlB e = false := hT2
        have hz : clsB v = false := by
          rw [← hq, hN3, hT3]
          rfl
        simp only [Bool.not_true, Bool.not_false, go_sem, Nat.reduceBEq]
        exact ⟨by rw [hz], x7⟩
      | true =>
      have hT3 : fTxt nmB (stcB nmB) inlB e = true := hT2
      by_cases hst : 2 < st
      · have hz : clsB v = false := by
          rw [← hq]
          simp [k55, q6, hN3, hT3, hst]
        simp only [decide_eq_true hst, Bool.not_true, go_sem, Nat.reduceBEq]
        exact ⟨by rw [hz], x7⟩
      · simp only [decide_eq_false hst, wsu, Bool.not_true, go_sem, Nat.reduceBEq]
        exact Again.intro (i + 1, 2) (by first | omega | (simp only; omega)) ⟨hbl, x7, by rw [← hq]; simp [k55, q6, hN3, hT3, hst]⟩ (by repeat (first | exact wkF_e | refine wkF_c rfl ?_)) (wkB_c rfl wkB_e) rfl
    have k55f := decide_eq_false k55
    have hz : clsB v = false := by
      rw [← hq, if_neg k52, if_neg k53, if_neg k54, if_neg k55]
      simp
    simp only [k52f, k53f, k54f, k55f, go_sem, Nat.reduceBEq]
    cases hN2 : fN e <;> cases hT2 : fT e <;> (simp only [Bool.not_true, Bool.not_false, go_sem, Nat.reduceBEq]; exact ⟨by rw [hz], x2⟩)
  · have hbl : i = v.kids.length := by simp at hb; omega
    rw [List.drop_eq_nil_of_le (by omega), sCls] at hq
    exact ⟨by rw [← hq], x1⟩
theorem sIsScript (v : Nd) (hbk : v.bulk ≤ 1048576) (sl : Value) (h : Hp) (rd : RdN h v.kids sl) : ACalls Try.prog 14 #[.agg #[.int .i64 v.kind, .int .i64 v.num, .string v.text, sl]] h (Is (.bool (isScr v)) h) := by
  have hB := Nd.bulk_eq v
  have hL := Nd.bulks_len v.kids
  obtain ⟨a, c, xs, rfl, hc, hr, hat⟩ := rd.rows (by decide) v.kids.length (fm_len Nd.dt_len _)
  unfold isScr
  (refine enter Try.func14 rfl rfl (by kernel_rfl) [] ?_; simp only [go_sem, Nat.reduceBEq, Nat.reduceAdd, Nat.reduceLeDiff])
  (refine (sSmall v hbk _ _ rd).mono ?_; rintro _ _ ⟨rfl, rfl⟩; simp only [go_sem, Nat.reduceBEq])
  cases hs : isSmall v with
  | false =>
    simp only [Bool.false_and, Bool.not_false, go_sem, Nat.reduceBEq]
    exact ⟨rfl, Ext.refl _⟩
  | true =>
  simp only [Bool.true_and, Bool.not_true, go_sem, Nat.reduceBEq]
  try simp only [go_sem, Nat.reduceBEq, Nat.reduceAdd, Nat.reduceLeDiff, Nat.reduceEqDiff, Int.reduceEq, not_false_eq_true, Int.reduceToNat]
  by_cases c1 : v.kind = 56
  case neg =>
    simp only [decide_eq_false c1, Bool.false_and, Bool.not_false, go_sem, Nat.reduceBEq]
    exact ⟨rfl, Ext.refl _⟩
  simp only [decide_eq_true c1, Bool.true_and, Bool.not_true, go_sem, Nat.reduceBEq]
  try simp only [decide_true, decide_false, Bool.true_and, Bool.false_and, Bool.and_true, Bool.and_false, Bool.or_true, Bool.or_false, Bool.true_or, Bool.false_or, Bool.not_true, Bool.not_false, go_sem, Nat.reduceBEq, Nat.reduceAdd, Nat.reduceLeDiff, Nat.reduceEqDiff, Int.reduceEq, not_false_eq_true, Int.reduceToNat]
  by_cases c2 : v.num = 0
  case neg =>
    simp only [decide_eq_false c2, Bool.false_and, Bool.not_false, go_sem, Nat.reduceBEq]
    exact ⟨rfl, Ext.refl _⟩
  simp only [decide_eq_true c2, Bool.true_and, Bool.not_true, go_sem, Nat.reduceBEq]
  try simp only [decide_true, decide_false, Bool.true_and, Bool.false_and, Bool.and_true, Bool.and_false, Bool.or_true, Bool.or_false, Bool.true_or, Bool.false_or, Bool.not_true, Bool.not_false, go_sem, Nat.reduceBEq, Nat.reduceAdd, Nat.reduceLeDiff, Nat.reduceEqDiff, Int.reduceEq, not_false_eq_true, Int.reduceToNat]
  by_cases c3 : v.text = ⟨#[]⟩
  case neg =>
    simp only [decide_eq_false c3, Bool.false_and, Bool.not_false, go_sem, Nat.reduceBEq]
    exact ⟨rfl, Ext.refl _⟩
  simp only [decide_eq_true c3, Bool.true_and, Bool.not_true, go_sem]
  try simp only [decide_true, decide_false, Bool.true_and, Bool.false_and, Bool.and_true, Bool.and_false, Bool.or_true, Bool.or_false, Bool.true_or, Bool.false_or, Bool.not_true, Bool.not_false, go_sem, Nat.reduceBEq, Nat.reduceAdd, Nat.reduceLeDiff, Nat.reduceEqDiff, Int.reduceEq, not_false_eq_true, Int.reduceToNat]
  refine aloop (ι := Nat) (fun i => [(3, .val (.int .i64 (i : Nat))), (1, .box 1 0)]) (fun _ => [(1, [.int .i64 v.kind, .int .i64 v.num, .string v.text, .slice a v.kids.length c])]) (fun i h' => i ≤ v.kids.length ∧ Ext h h' ∧ (v.kids.drop i).all (tp) = v.kids.all (tp)) (fun i => v.kids.length - i) 0 ⟨Nat.zero_le _, Ext.refl _, rfl⟩ (by repeat (first | exact wkF_e | refine wkF_c rfl ?_)) (wkB_c rfl wkB_e) rfl ?_
  rintro i h1 ⟨hi, x1, hq⟩
  have hi : i ≤ v.kids.length := hi
  simp only [go_sem, Nat.reduceBEq]
  refine Br.intro (fun hbq => ?_) (fun hbq => ?_) <;> (try simp only [hbq, go_sem, Nat.reduceBEq])
  · have hbl : i < v.kids.length := by simpa using hbq
    obtain ⟨b, off, rfl, hat'⟩ := hat (by omega)
    obtain ⟨e, he, hm⟩ := get_lt hbl
    have wsu := wrap_succ (i := i) (by omega)
    rw [drop_cons he, List.all_cons] at hq
    simp only [ix_nat hbl, go_sem, Nat.reduceBEq]
    refine hsem_node tyS29 (hat'.mono x1) (hr.mono x1) he (by omega) fun s2 rd2 => ?_
    obtain ⟨a2, c2, _, rfl, _⟩ := rd2.rows (by decide) e.kids.length (fm_len Nd.dt_len _)
    simp only [go_sem, Nat.reduceBEq, Nat.reduceAdd, Nat.reduceLeDiff]
    have hbe := kid_bulk hm (by omega)
    have hBe := Nd.bulk_eq e
    refine (sFields e hbe _ _ rd2).mono ?_
    rintro _ h2 ⟨rfl, e2⟩
    have x2 := x1.trans e2
    try simp only [go_sem, Nat.reduceBEq, Nat.reduceAdd, Nat.reduceLeDiff]
    refine ((sES e).2 hbe _ _ (rd2.mono e2)).mono ?_
    rintro _ h3 ⟨rfl, e3⟩
    have x3 := x2.trans e3
    try simp only [go_sem, Nat.reduceBEq]
    have ht := tp_S e
    by_cases k49 : e.kind = 49
    · rw [if_pos k49] at ht
      simp only [decide_eq_true k49, go_sem, Nat.reduceBEq]
      cases hN2 : fN e with
      | false =>
        rw [hN2, Bool.false_and] at ht
        rw [ht] at hq
        simp only [Bool.not_false, go_sem, Nat.reduceBEq]
        exact ⟨by rw [← hq]; rfl, x3⟩
      | true =>
      simp only [go_sem, Nat.reduceBEq]
      cases hT2 : fT e with
      | false =>
        rw [hN2, hT2, Bool.false_and, Bool.and_false] at ht
        rw [ht] at hq
        simp only [Bool.not_false, go_sem, Nat.reduceBEq]
        exact ⟨by rw [← hq]; rfl, x3⟩
      | true =>
      rw [hN2, hT2, Bool.true_and, Bool.true_and] at ht
      simp only [go_sem, Nat.reduceBEq]
      try simp only [go_sem, Nat.reduceBEq, Nat.reduceAdd, Nat.reduceLeDiff, Nat.reduceEqDiff, Int.reduceEq, not_false_eq_true, Int.reduceToNat]
      refine (sUse false e.kids (fun u _ w _ => (sES w).2) (by omega) _ _ (rd2.mono (e2.trans e3))).mono ?_
      rintro _ h4 ⟨rfl, e4⟩
      have x4 := x3.trans e4
      try simp only [go_sem, Nat.reduceBEq]
      cases q6 : sUses nmB (nBlk sm) false e.kids with
      | false =>
        rw [ht, q6] at hq
        simp only [Bool.not_false, go_sem, Nat.reduceBEq]
        exact ⟨by rw [← hq]; rfl, x4⟩
      | true =>
        rw [ht, q6] at hq
        simp only [wsu, Bool.not_true, go_sem, Nat.reduceBEq]
        exact Again.intro (i + 1) (by first | omega | (simp only; omega)) ⟨hbl, x4, by simpa using hq⟩ (by repeat (first | exact wkF_e | refine wkF_c rfl ?_)) (wkB_c rfl wkB_e) rfl
    rw [if_neg k49] at ht
    have k49f := decide_eq_false k49
    by_cases kc : e.kind = 50 ∨ e.kind = 51
    case neg =>
      rw [if_neg kc] at ht
      have k50f : decide (e.kind = 50) = false := decide_eq_false (by omega)
      have k51f : decide (e.kind = 51) = false := decide_eq_false (by omega)
      cases q6 : sm e with
      | false =>
        rw [ht, q6] at hq
        simp only [k49f, k50f, k51f, Bool.not_false, go_sem, Nat.reduceBEq]
        exact ⟨by rw [← hq]; rfl, x3⟩
      | true =>
        rw [ht, q6] at hq
        simp only [wsu, k49f, k50f, k51f, Bool.not_true, go_sem, Nat.reduceBEq]
        exact Again.intro (i + 1) (by first | omega | (simp only; omega)) ⟨hbl, x3, by simpa using hq⟩ (by repeat (first | exact wkF_e | refine wkF_c rfl ?_)) (wkB_c rfl wkB_e) rfl
    rw [if_pos kc] at ht
    have kcb : (decide (e.kind = 50) = true) ∨ (decide (e.kind = 50) = false ∧ decide (e.kind = 51) = true) := by
      by_cases k50 : e.kind = 50
      · exact .inl (decide_eq_true k50)
      · exact .inr ⟨decide_eq_false k50, decide_eq_true (by omega)⟩
    rcases kcb with k50 | ⟨k50, k51⟩
    · simp only [k49f, k50, go_sem, Nat.reduceBEq]
      cases hN2 : fN e with
      | false =>
        rw [hN2, Bool.false_and] at ht
        rw [ht] at hq
        simp only [Bool.not_false, go_sem, Nat.reduceBEq]
        exact ⟨by rw [← hq]; rfl, x3⟩
      | true =>
      simp only [go_sem, Nat.reduceBEq]
      cases hT2 : fT e with
      | false =>
        rw [hN2, hT2, Bool.false_and, Bool.and_false] at ht
        rw [ht] at hq
        simp only [Bool.not_false, go_sem, Nat.reduceBEq]
        exact ⟨by rw [← hq]; rfl, x3⟩
      | true =>
      rw [hN2, hT2, Bool.true_and, Bool.true_and] at ht
      simp only [go_sem, Nat.reduceBEq, Nat.reduceAdd, Nat.reduceLeDiff]
      try simp only [go_sem, Nat.reduceBEq, Nat.reduceAdd, Nat.reduceLeDiff, Nat.reduceEqDiff, Int.reduceEq, not_false_eq_true, Int.reduceToNat]
      refine (sClass e hbe _ _ (rd2.mono (e2.trans e3))).mono ?_
      rintro _ h4 ⟨rfl, e4⟩
      have x4 := x3.trans e4
      try simp only [go_sem, Nat.reduceBEq]
      cases q6 : clsB e with
      | false =>
        rw [ht, q6] at hq
        simp only [Bool.not_false, go_sem, Nat.reduceBEq]
        exact ⟨by rw [← hq]; rfl, x4⟩
      | true =>
        rw [ht, q6] at hq
        simp only [wsu, Bool.not_true, go_sem, Nat.reduceBEq]
        exact Again.intro (i + 1) (by first | omega | (simp only; omega)) ⟨hbl, x4, by simpa using hq⟩ (by repeat (first | exact wkF_e | refine wkF_c rfl ?_)) (wkB_c rfl wkB_e) rfl
    · simp only [k49f, k50, k51, go_sem, Nat.reduceBEq]
      cases hN2 : fN e with
      | false =>
        rw [hN2, Bool.false_and] at ht
        rw [ht] at hq
        simp only [Bool.not_false, go_sem, Nat.reduceBEq]
        exact ⟨by rw [← hq]; rfl, x3⟩
      | true =>
      simp only [go_sem, Nat.reduceBEq]
      cases hT2 : fT e with
      | false =>
        rw [hN2, hT2, Bool.false_and, Bool.and_false] at ht
        rw [ht] at hq
        simp only [Bool.not_false, go_sem, Nat.reduceBEq]
        exact ⟨by rw [← hq]; rfl, x3⟩
      | true =>
      rw [hN2, hT2, Bool.true_and, Bool.true_and] at ht
      simp only [go_sem, Nat.reduceBEq, Nat.reduceAdd, Nat.reduceLeDiff]
      try simp only [go_sem, Nat.reduceBEq, Nat.reduceAdd, Nat.reduceLeDiff, Nat.reduceEqDiff, Int.reduceEq, not_false_eq_true, Int.reduceToNat]
      refine (sClass e hbe _ _ (rd2.mono (e2.trans e3))).mono ?_
      rintro _ h4 ⟨rfl, e4⟩
      have x4 := x3.trans e4
      try simp only [go_sem, Nat.reduceBEq]
      cases q6 : clsB e with
      | false =>
        rw [ht, q6] at hq
        simp only [Bool.not_false, go_sem, Nat.reduceBEq]
        exact ⟨by rw [← hq]; rfl, x4⟩
      | true =>
        rw [ht, q6] at hq
        simp only [wsu, Bool.not_true, go_sem, Nat.reduceBEq]
        exact Again.intro (i + 1) (by first | omega | (simp only; omega)) ⟨hbl, x4, by simpa using hq⟩ (by repeat (first | exact wkF_e | refine wkF_c rfl ?_)) (wkB_c rfl wkB_e) rfl
  · have hbl : i = v.kids.length := by simp at hbq; omega
    rw [List.drop_eq_nil_of_le (by omega)] at hq
    exact ⟨by rw [← hq]; rfl, x1⟩
end Go.Proofs.Ytamjpcmcpcdggaa
