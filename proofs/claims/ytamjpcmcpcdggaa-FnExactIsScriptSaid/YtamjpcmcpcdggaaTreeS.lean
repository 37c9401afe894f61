/-
  What expressions, statements and blocks are, by the reference.
-/
import Derived.Test.YtamjpcmcpcdggaaTreeT
namespace Go.Proofs.Ytamjpcmcpcdggaa
set_option maxRecDepth 8000
open Go Go.Sx
theorem sGood (s : ByteArray) (hs : s.size ≤ 1048576) (h : Hp) : ACalls Try.prog 59 #[.string s] h (Is (.bool (nmB s)) h) := by
  (refine enter Try.func59 rfl rfl (by kernel_rfl) [] ?_; simp only [go_sem, Nat.reduceBEq])
  refine (sIsName s hs h).mono ?_
  rintro _ h1 ⟨rfl, e1⟩
  unfold nmB
  cases hn : isName s with
  | false =>
    try simp only [Bool.false_and, go_sem, Nat.reduceBEq]
    exact ⟨rfl, e1⟩
  | true =>
    try simp only [Bool.true_and, go_sem, Nat.reduceBEq]
    refine (sIsReserved s h1).mono ?_
    rintro _ h2 ⟨rfl, e2⟩
    try simp only [go_sem, Nat.reduceBEq]
    exact ⟨by simp, e1.trans e2⟩
def fN (v : Nd) : Bool := fNum v
def fT (v : Nd) : Bool := fTxt nmB (stcB nmB) inlB v
theorem xp_S (v : Nd) : xp v = (fN v && (fT v && exT nmB xp (nBlk sm) v)) := (exS_eq nmB (stcB nmB) inlB v).symm
theorem sm_S (v : Nd) : sm v = (fN v && (fT v && stT nmB (stcB nmB) inlB xp (nBlk sm) v)) := (stS_eq nmB (stcB nmB) inlB v).symm
theorem nm_none : nmB ⟨#[]⟩ = false := by decide
theorem sTarget (v : Nd) (hbk : v.bulk ≤ 1048576) (sl : Value) (h : Hp) (rd : RdN h v.kids sl) : ACalls Try.prog 55 #[.agg #[.int .i64 v.kind, .int .i64 v.num, .string v.text, sl]] h (Pu (.bool v.aim2) h) := by
  have hB := Nd.bulk_eq v
  have hL := Nd.bulks_len v.kids
  obtain ⟨a, c, xs, rfl, hc, hr, hat⟩ := rd.rows (by decide) v.kids.length (fm_len Nd.dt_len _)
  (refine enter Try.func55 rfl rfl (by kernel_rfl) [] ?_; simp only [go_sem, Nat.reduceBEq])
  refine aloop (ι := Nd × Option Addr × Nat) (fun x => [(1, .box 1 0)]) (fun x => [(1, [.int .i64 x.1.kind, .int .i64 x.1.num, .string x.1.text, .slice x.2.1 x.1.kids.length x.2.2])])
    (fun x h' => h' = h ∧ RdN h x.1.kids (.slice x.2.1 x.1.kids.length x.2.2) ∧ x.1.bulk ≤ 1048576 ∧ x.1.aim2 = v.aim2) (fun x => x.1.size) (v, a, c) ⟨rfl, rd, hbk, rfl⟩ (by repeat (first | exact wkF_e | refine wkF_c rfl ?_)) (wkB_c rfl wkB_e) rfl ?_
  rintro ⟨x, a1, c1⟩ _ ⟨rfl, rd1, hb1, hq⟩
  have rd1 : RdN _ x.kids (.slice a1 x.kids.length c1) := rd1
  have hb1 : x.bulk ≤ 1048576 := hb1
  have hq : x.aim2 = v.aim2 := hq
  have hB1 := Nd.bulk_eq x
  have hL1 := Nd.bulks_len x.kids
  try simp only [go_sem, Nat.reduceBEq]
  by_cases k7 : x.kind = 7
  case neg =>
    rw [← hq, Nd.aim2_stop (fun q => k7 q.1)]
    simp only [decide_eq_false k7, go_sem, Nat.reduceBEq]
    by_cases k4 : x.kind = 4
    · simp only [decide_eq_true k4, Bool.true_or, go_sem, Nat.reduceBEq]
      exact ⟨rfl, rfl⟩
    · simp only [decide_eq_false k4, Bool.false_or, go_sem, Nat.reduceBEq]
      exact ⟨rfl, rfl⟩
  simp only [decide_eq_true k7, go_sem, Nat.reduceBEq]
  by_cases l2 : x.kids.length = 2
  case neg =>
    have n4 : decide (x.kind = 4) = false := decide_eq_false (by omega)
    have n8 : decide (x.kind = 8) = false := decide_eq_false (by omega)
    have n0 : decide (((x.kids.length : Nat) : Int) = 2) = false := decide_eq_false (by omega)
    rw [← hq, Nd.aim2_stop (fun q => l2 q.2)]
    simp only [n0, n4, n8, Bool.or_false, go_sem, Nat.reduceBEq]
    exact ⟨rfl, rfl⟩
  have l0 : 0 < x.kids.length := by omega
  have n1 : decide (((x.kids.length : Nat) : Int) = 2) = true := decide_eq_true (by omega)
  obtain ⟨_, _, xs1, es1, _, hr1, hat1⟩ := rd1.rows (by decide) x.kids.length (fm_len Nd.dt_len _)
  cases es1
  obtain ⟨b1, o1, rfl, hat1'⟩ := hat1 l0
  simp only [n1, ix0 l0, go_sem, Nat.reduceBEq]
  refine hsem_node tyS29 hat1' hr1 (kid_get l0) (by omega) fun s2 rd2 => ?_
  obtain ⟨a2, c2, _, rfl, _⟩ := rd2.rows (by decide) (kid x.kids 0).kids.length (fm_len Nd.dt_len _)
  try simp only [go_sem, Nat.reduceBEq, Nat.reduceAdd, Nat.reduceLeDiff]
  have hsz := Nd.size_lt (kid_mem l0)
  exact Again.intro (kid x.kids 0, a2, c2) (by first | omega | (simp only; omega)) ⟨rfl, rd2, kid_bulk (kid_mem l0) (by omega), by rw [← hq, Nd.aim2_down k7 l2]⟩ (by repeat (first | exact wkF_e | refine wkF_c rfl ?_)) (wkB_c rfl wkB_e) rfl
theorem sSplit (s : ByteArray) (hs : s.size ≤ 1048576) (h : Hp) : ACalls Try.prog 60 #[.string s] h (Pu (.tuple #[.string (splitB s).1, .string (splitB s).2]) h) := by
  (refine enter Try.func60 rfl rfl (by kernel_rfl) [] ?_; simp only [go_sem])
  refine aloop (ι := Nat) (fun i => [(4, .val (.int .i64 (i : Nat))), (0, .val (.string s))]) (fun _ => []) (fun i h' => i ≤ s.size ∧ h' = h ∧ ∀ j, j < i → occB s cc j = false) (fun i => s.size - i) 0 ⟨Nat.zero_le _, rfl, fun j hj => by omega⟩ (by repeat (first | exact wkF_e | refine wkF_c rfl ?_)) wkB_e rfl ?_
  rintro i _ ⟨hi, rfl, hn⟩
  have hi : i ≤ s.size := hi
  have wsu := wrap_succ (i := i) (by omega)
  simp only [wsu, go_sem, Nat.reduceBEq]
  refine Br.intro (fun hb => ?_) (fun hb => ?_) <;> (try simp only [hb, go_sem, Nat.reduceBEq])
  · have hb : i + 1 < s.size := by simp at hb; omega
    have w2 : IntKind.i64.wrap (((i : Nat) : Int) + 2) = ((i + 2 : Nat) : Int) := by rw [IntWalk.i64_in _ (by omega)]; omega
    have hcond : (0 : Int) ≤ ((i : Nat) : Int) ∧ ((i : Nat) : Int) ≤ ((i + 2 : Nat) : Int) ∧ ((i + 2 : Nat) : Int) ≤ ((s.size : Nat) : Int) := by omega
    have ho : decide (s.extract i (i + 2) = ⟨#[58, 58]⟩) = occB s cc i := occ_piece s cc i (by show i + 2 ≤ s.size; omega)
    try simp only [w2, go_sem]
    try simp only [hcond, and_self, true_and, go_sem]
    try simp only [ho, go_sem]
    refine Br.intro (fun hc => ?_) (fun hc => ?_) <;> (try simp only [hc, go_sem, Nat.reduceBEq])
    · have hc : occB s cc i = true := hc
      have he := cut_hit (s := s) (i := i) (by omega) hn hc
      have hc1 : (0 : Int) ≤ 0 ∧ (0 : Int) ≤ ((i : Nat) : Int) ∧ ((i : Nat) : Int) ≤ ((s.size : Nat) : Int) := by omega
      have hc2 : (0 : Int) ≤ ((i + 2 : Nat) : Int) ∧ ((i + 2 : Nat) : Int) ≤ ((s.size : Nat) : Int) ∧ ((s.size : Nat) : Int) ≤ ((s.size : Nat) : Int) := by omega
      try refine regionD_intro (lb := []) (by kernel_rfl) ?_
      try simp only [w2, go_sem, Nat.reduceBEq, Int.reduceToNat]
      try simp only [hc1, hc2, and_self, true_and, go_sem]
      rw [he]
      exact ⟨rfl, rfl⟩
    · have hc : occB s cc i = false := hc
      try simp only [wsu, go_sem]
      exact Again.intro (i + 1) (by first | omega | (simp only; omega)) ⟨by omega, rfl, fun j hj => by
        by_cases hji : j = i
        · rw [hji]; exact hc
        · exact hn j (by omega)⟩ (by repeat (first | exact wkF_e | refine wkF_c rfl ?_)) wkB_e rfl
  · have hb : ¬ i + 1 < s.size := by simp at hb; omega
    rw [cut_miss fun j hj => hn j (by omega)]
    exact ⟨rfl, rfl⟩
theorem split_size (s : ByteArray) : (splitB s).1.size ≤ s.size ∧ (splitB s).2.size ≤ s.size := by
  obtain ⟨h1, h2⟩ := cut_size s
  unfold splitB
  split
  · exact ⟨h1, h2⟩
  · exact ⟨Nat.zero_le _, Nat.zero_le _⟩
theorem sIs14 (s : ByteArray) (i : Nat) (hi : i < s.size) (hs : s.size ≤ 1048576) (h : Hp) : ACalls Try.prog 61 #[.string s, .int .i64 (i : Nat), .string lq] h (Pu (.bool (occB s lq i)) h) := by
  have hsz : lq.size = 2 := rfl
  have w1 : IntKind.i64.wrap (((s.size : Nat) : Int) - ((i : Nat) : Int)) = ((s.size - i : Nat) : Int) := by rw [IntWalk.i64_in _ (by omega)]; omega
  have w2 : IntKind.i64.wrap (((i : Nat) : Int) + ((2 : Nat) : Int)) = ((i + 2 : Nat) : Int) := by rw [IntWalk.i64_in _ (by omega)]; omega
  (refine enter Try.func61 rfl rfl (by kernel_rfl) [] ?_; simp only [go_sem, Nat.reduceBEq])
  try simp only [w1, hsz, go_sem]
  by_cases hb : i + 2 ≤ s.size
  · have d1 : decide (((2 : Nat) : Int) ≤ ((s.size - i : Nat) : Int)) = true := decide_eq_true (by omega)
    have hcond : (0 : Int) ≤ ((i : Nat) : Int) ∧ ((i : Nat) : Int) ≤ ((i + 2 : Nat) : Int) ∧ ((i + 2 : Nat) : Int) ≤ ((s.size : Nat) : Int) := by omega
    have ho : decide (s.extract i (i + 2) = lq) = occB s lq i := occ_piece s lq i (by show i + 2 ≤ s.size; omega)
    simp only [d1, w2, hsz, go_sem, Nat.reduceBEq]
    try simp only [hcond, and_self, true_and, go_sem]
    rw [← ho]
    exact ⟨rfl, rfl⟩
  · have d1 : decide (((2 : Nat) : Int) ≤ ((s.size - i : Nat) : Int)) = false := decide_eq_false (by omega)
    simp only [d1, go_sem, Nat.reduceBEq]
    rw [occ_far (by decide) (by show s.size < i + 2; omega)]
    exact ⟨rfl, rfl⟩
theorem sF_1 (v : Nd) (hbk : v.bulk ≤ 1048576) (hk : v.kind = 1) (sl : Value) (h : Hp) (rd : RdN h v.kids sl) : ACalls Try.prog 33 #[.agg #[.int .i64 v.kind, .int .i64 v.num, .string v.text, sl]] h (Is (.tuple #[.bool (fN v), .bool (fT v)]) h) := by
  have hB := Nd.bulk_eq v
  have hL := Nd.bulks_len v.kids
  obtain ⟨a, c, xs, rfl, hc, hr, hat⟩ := rd.rows (by decide) v.kids.length (fm_len Nd.dt_len _)
  have ds : decide (((v.text.size : Nat) : Int) ≤ 400) = decide (v.text.size ≤ 400) := decide_eq_decide.2 (by omega)
  have dk : ∀ n : Int, decide (v.kind = n) = decide ((1 : Int) = n) := fun n => by rw [hk]
  have e1 : fN v = (decide (0 ≤ v.num ∧ v.num ≤ 1000000000)) := by unfold fN fNum; simp [hk]
  have e2 : fT v = (decide (v.text = ⟨#[]⟩)) := by unfold fT fTxt nmK; simp [hk]
  rw [e1, e2]
  (refine enter Try.func33 rfl rfl (by kernel_rfl) [] ?_; simp only [go_sem, Nat.reduceBEq])
  try simp only [dk, decide_true, go_sem, Nat.reduceBEq]
  (refine (l1In_c _ _ _ _).mono ?_; rintro _ _ ⟨rfl, rfl⟩; simp only [go_sem, Nat.reduceBEq])
  try simp only [go_sem, Nat.reduceBEq, Nat.reduceAdd, Nat.reduceLeDiff, Nat.reduceEqDiff, Int.reduceEq, not_false_eq_true, Int.reduceToNat]
  exact ⟨rfl, Ext.refl _⟩
theorem sF_3 (v : Nd) (hbk : v.bulk ≤ 1048576) (hk : v.kind = 3) (sl : Value) (h : Hp) (rd : RdN h v.kids sl) : ACalls Try.prog 33 #[.agg #[.int .i64 v.kind, .int .i64 v.num, .string v.text, sl]] h (Is (.tuple #[.bool (fN v), .bool (fT v)]) h) := by
  have hB := Nd.bulk_eq v
  have hL := Nd.bulks_len v.kids
  obtain ⟨a, c, xs, rfl, hc, hr, hat⟩ := rd.rows (by decide) v.kids.length (fm_len Nd.dt_len _)
  have ds : decide (((v.text.size : Nat) : Int) ≤ 400) = decide (v.text.size ≤ 400) := decide_eq_decide.2 (by omega)
  have dk : ∀ n : Int, decide (v.kind = n) = decide ((3 : Int) = n) := fun n => by rw [hk]
  have e1 : fN v = (decide (0 ≤ v.num ∧ v.num ≤ 2)) := by unfold fN fNum; simp [hk]
  have e2 : fT v = (decide (v.text = ⟨#[]⟩)) := by unfold fT fTxt nmK; simp [hk]
  rw [e1, e2]
  (refine enter Try.func33 rfl rfl (by kernel_rfl) [] ?_; simp only [go_sem, Nat.reduceBEq])
  try simp only [dk, decide_true, decide_false, go_sem, Nat.reduceBEq, Int.reduceEq]
  (refine (l1In_c _ _ _ _).mono ?_; rintro _ _ ⟨rfl, rfl⟩; simp only [go_sem, Nat.reduceBEq])
  try simp only [go_sem, Nat.reduceBEq, Nat.reduceAdd, Nat.reduceLeDiff, Nat.reduceEqDiff, Int.reduceEq, not_false_eq_true, Int.reduceToNat]
  exact ⟨rfl, Ext.refl _⟩
theorem sF_9 (v : Nd) (hbk : v.bulk ≤ 1048576) (hk : v.kind = 9) (sl : Value) (h : Hp) (rd : RdN h v.kids sl) : ACalls Try.prog 33 #[.agg #[.int .i64 v.kind, .int .i64 v.num, .string v.text, sl]] h (Is (.tuple #[.bool (fN v), .bool (fT v)]) h) := by
  have hB := Nd.bulk_eq v
  have hL := Nd.bulks_len v.kids
  obtain ⟨a, c, xs, rfl, hc, hr, hat⟩ := rd.rows (by decide) v.kids.length (fm_len Nd.dt_len _)
  have ds : decide (((v.text.size : Nat) : Int) ≤ 400) = decide (v.text.size ≤ 400) := decide_eq_decide.2 (by omega)
  have dk : ∀ n : Int, decide (v.kind = n) = decide ((9 : Int) = n) := fun n => by rw [hk]
  have e1 : fN v = (decide (1 ≤ v.num ∧ v.num ≤ 2)) := by unfold fN fNum; simp [hk]
  have e2 : fT v = (decide (v.text = ⟨#[]⟩)) := by unfold fT fTxt nmK; simp [hk]
  rw [e1, e2]
  (refine enter Try.func33 rfl rfl (by kernel_rfl) [] ?_; simp only [go_sem, Nat.reduceBEq])
  try simp only [dk, decide_true, decide_false, go_sem, Nat.reduceBEq, Int.reduceEq]
  (refine (l1In_c _ _ _ _).mono ?_; rintro _ _ ⟨rfl, rfl⟩; simp only [go_sem, Nat.reduceBEq])
  try simp only [go_sem, Nat.reduceBEq, Nat.reduceAdd, Nat.reduceLeDiff, Nat.reduceEqDiff, Int.reduceEq, not_false_eq_true, Int.reduceToNat]
  exact ⟨rfl, Ext.refl _⟩
theorem sF_10 (v : Nd) (hbk : v.bulk ≤ 1048576) (hk : v.kind = 10) (sl : Value) (h : Hp) (rd : RdN h v.kids sl) : ACalls Try.prog 33 #[.agg #[.int .i64 v.kind, .int .i64 v.num, .string v.text, sl]] h (Is (.tuple #[.bool (fN v), .bool (fT v)]) h) := by
  have hB := Nd.bulk_eq v
  have hL := Nd.bulks_len v.kids
  obtain ⟨a, c, xs, rfl, hc, hr, hat⟩ := rd.rows (by decide) v.kids.length (fm_len Nd.dt_len _)
  have ds : decide (((v.text.size : Nat) : Int) ≤ 400) = decide (v.text.size ≤ 400) := decide_eq_decide.2 (by omega)
  have dk : ∀ n : Int, decide (v.kind = n) = decide ((10 : Int) = n) := fun n => by rw [hk]
  have e1 : fN v = (decide (1 ≤ v.num ∧ v.num ≤ 15)) := by unfold fN fNum; simp [hk]
  have e2 : fT v = (decide (v.text = ⟨#[]⟩)) := by unfold fT fTxt nmK; simp [hk]
  rw [e1, e2]
  (refine enter Try.func33 rfl rfl (by kernel_rfl) [] ?_; simp only [go_sem, Nat.reduceBEq])
  try simp only [dk, decide_true, decide_false, go_sem, Nat.reduceBEq, Int.reduceEq]
  (refine (l1In_c _ _ _ _).mono ?_; rintro _ _ ⟨rfl, rfl⟩; simp only [go_sem, Nat.reduceBEq])
  try simp only [go_sem, Nat.reduceBEq, Nat.reduceAdd, Nat.reduceLeDiff, Nat.reduceEqDiff, Int.reduceEq, not_false_eq_true, Int.reduceToNat]
  exact ⟨rfl, Ext.refl _⟩
theorem sF_2 (v : Nd) (hbk : v.bulk ≤ 1048576) (hk : v.kind = 2) (sl : Value) (h : Hp) (rd : RdN h v.kids sl) : ACalls Try.prog 33 #[.agg #[.int .i64 v.kind, .int .i64 v.num, .string v.text, sl]] h (Is (.tuple #[.bool (fN v), .bool (fT v)]) h) := by
  have hB := Nd.bulk_eq v
  have hL := Nd.bulks_len v.kids
  obtain ⟨a, c, xs, rfl, hc, hr, hat⟩ := rd.rows (by decide) v.kids.length (fm_len Nd.dt_len _)
  have ds : decide (((v.text.size : Nat) : Int) ≤ 400) = decide (v.text.size ≤ 400) := decide_eq_decide.2 (by omega)
  have dk : ∀ n : Int, decide (v.kind = n) = decide ((2 : Int) = n) := fun n => by rw [hk]
  have e1 : fN v = (decide (v.num = 0)) := by unfold fN fNum; simp [hk]
  have e2 : fT v = (decide (v.text.size ≤ 400)) := by unfold fT fTxt nmK; simp [hk]
  rw [e1, e2]
  (refine enter Try.func33 rfl rfl (by kernel_rfl) [] ?_; simp only [go_sem, Nat.reduceBEq])
  try simp only [dk, ds, decide_true, decide_false, go_sem, Nat.reduceBEq, Int.reduceEq]
  exact ⟨rfl, Ext.refl _⟩
theorem sF_47 (v : Nd) (hbk : v.bulk ≤ 1048576) (hk : v.kind = 47) (sl : Value) (h : Hp) (rd : RdN h v.kids sl) : ACalls Try.prog 33 #[.agg #[.int .i64 v.kind, .int .i64 v.num, .string v.text, sl]] h (Is (.tuple #[.bool (fN v), .bool (fT v)]) h) := by
  have hB := Nd.bulk_eq v
  have hL := Nd.bulks_len v.kids
  obtain ⟨a, c, xs, rfl, hc, hr, hat⟩ := rd.rows (by decide) v.kids.length (fm_len Nd.dt_len _)
  have ds : decide (((v.text.size : Nat) : Int) ≤ 400) = decide (v.text.size ≤ 400) := decide_eq_decide.2 (by omega)
  have dk : ∀ n : Int, decide (v.kind = n) = decide ((47 : Int) = n) := fun n => by rw [hk]
  have e1 : fN v = (decide (v.num = 0)) := by unfold fN fNum; simp [hk]
  have e2 : fT v = (decide (v.text.size ≤ 400)) := by unfold fT fTxt nmK; simp [hk]
  rw [e1, e2]
  (refine enter Try.func33 rfl rfl (by kernel_rfl) [] ?_; simp only [go_sem, Nat.reduceBEq])
  try simp only [dk, ds, decide_true, decide_false, go_sem, Nat.reduceBEq, Int.reduceEq]
  exact ⟨rfl, Ext.refl _⟩
theorem sF_4 (v : Nd) (hbk : v.bulk ≤ 1048576) (hk : v.kind = 4) (sl : Value) (h : Hp) (rd : RdN h v.kids sl) : ACalls Try.prog 33 #[.agg #[.int .i64 v.kind, .int .i64 v.num, .string v.text, sl]] h (Is (.tuple #[.bool (fN v), .bool (fT v)]) h) := by
  have hB := Nd.bulk_eq v
  have hL := Nd.bulks_len v.kids
  obtain ⟨a, c, xs, rfl, hc, hr, hat⟩ := rd.rows (by decide) v.kids.length (fm_len Nd.dt_len _)
  have ds : decide (((v.text.size : Nat) : Int) ≤ 400) = decide (v.text.size ≤ 400) := decide_eq_decide.2 (by omega)
  have dk : ∀ n : Int, decide (v.kind = n) = decide ((4 : Int) = n) := fun n => by rw [hk]
  have e1 : fN v = (decide (v.num = 0)) := by unfold fN fNum; simp [hk]
  have e2 : fT v = (nmB v.text) := by unfold fT fTxt nmK; simp [hk]
  rw [e1, e2]
  (refine enter Try.func33 rfl rfl (by kernel_rfl) [] ?_; simp only [go_sem, Nat.reduceBEq])
  try simp only [dk, decide_true, decide_false, go_sem, Nat.reduceBEq, Int.reduceEq]
  refine (sGood v.text (by have := text_bulk v; omega) _).mono ?_
  rintro _ h1 ⟨rfl, e1⟩
  try simp only [go_sem, Nat.reduceBEq]
  exact ⟨rfl, e1⟩
theorem sF_8 (v : Nd) (hbk : v.bulk ≤ 1048576) (hk : v.kind = 8) (sl : Value) (h : Hp) (rd : RdN h v.kids sl) : ACalls Try.prog 33 #[.agg #[.int .i64 v.kind, .int .i64 v.num, .string v.text, sl]] h (Is (.tuple #[.bool (fN v), .bool (fT v)]) h) := by
  have hB := Nd.bulk_eq v
  have hL := Nd.bulks_len v.kids
  obtain ⟨a, c, xs, rfl, hc, hr, hat⟩ := rd.rows (by decide) v.kids.length (fm_len Nd.dt_len _)
  have ds : decide (((v.text.size : Nat) : Int) ≤ 400) = decide (v.text.size ≤ 400) := decide_eq_decide.2 (by omega)
  have dk : ∀ n : Int, decide (v.kind = n) = decide ((8 : Int) = n) := fun n => by rw [hk]
  have e1 : fN v = (decide (v.num = 0)) := by unfold fN fNum; simp [hk]
  have e2 : fT v = (nmB v.text) := by unfold fT fTxt nmK; simp [hk]
  rw [e1, e2]
  (refine enter Try.func33 rfl rfl (by kernel_rfl) [] ?_; simp only [go_sem, Nat.reduceBEq])
  try simp only [dk, decide_true, decide_false, go_sem, Nat.reduceBEq, Int.reduceEq]
  refine (sGood v.text (by have := text_bulk v; omega) _).mono ?_
  rintro _ h1 ⟨rfl, e1⟩
  try simp only [go_sem, Nat.reduceBEq]
  exact ⟨rfl, e1⟩
theorem sF_17 (v : Nd) (hbk : v.bulk ≤ 1048576) (hk : v.kind = 17) (sl : Value) (h : Hp) (rd : RdN h v.kids sl) : ACalls Try.prog 33 #[.agg #[.int .i64 v.kind, .int .i64 v.num, .string v.text, sl]] h (Is (.tuple #[.bool (fN v), .bool (fT v)]) h) := by
  have hB := Nd.bulk_eq v
  have hL := Nd.bulks_len v.kids
  obtain ⟨a, c, xs, rfl, hc, hr, hat⟩ := rd.rows (by decide) v.kids.length (fm_len Nd.dt_len _)
  have ds : decide (((v.text.size : Nat) : Int) ≤ 400) = decide (v.text.size ≤ 400) := decide_eq_decide.2 (by omega)
  have dk : ∀ n : Int, decide (v.kind = n) = decide ((17 : Int) = n) := fun n => by rw [hk]
  have e1 : fN v = (decide (v.num = 0)) := by unfold fN fNum; simp [hk]
  have e2 : fT v = (nmB v.text) := by unfold fT fTxt nmK; simp [hk]
  rw [e1, e2]
  (refine enter Try.func33 rfl rfl (by kernel_rfl) [] ?_; simp only [go_sem, Nat.reduceBEq])
  try simp only [dk, decide_true, decide_false, go_sem, Nat.reduceBEq, Int.reduceEq]
  refine (sGood v.text (by have := text_bulk v; omega) _).mono ?_
  rintro _ h1 ⟨rfl, e1⟩
  try simp only [go_sem, Nat.reduceBEq]
  exact ⟨rfl, e1⟩
theorem sF_18 (v : Nd) (hbk : v.bulk ≤ 1048576) (hk : v.kind = 18) (sl : Value) (h : Hp) (rd : RdN h v.kids sl) : ACalls Try.prog 33 #[.agg #[.int .i64 v.kind, .int .i64 v.num, .string v.text, sl]] h (Is (.tuple #[.bool (fN v), .bool (fT v)]) h) := by
  have hB := Nd.bulk_eq v
  have hL := Nd.bulks_len v.kids
  obtain ⟨a, c, xs, rfl, hc, hr, hat⟩ := rd.rows (by decide) v.kids.length (fm_len Nd.dt_len _)
  have ds : decide (((v.text.size : Nat) : Int) ≤ 400) = decide (v.text.size ≤ 400) := decide_eq_decide.2 (by omega)
  have dk : ∀ n : Int, decide (v.kind = n) = decide ((18 : Int) = n) := fun n => by rw [hk]
  have e1 : fN v = (decide (v.num = 0)) := by unfold fN fNum; simp [hk]
  have e2 : fT v = (nmB v.text) := by unfold fT fTxt nmK; simp [hk]
  rw [e1, e2]
  (refine enter Try.func33 rfl rfl (by kernel_rfl) [] ?_; simp only [go_sem, Nat.reduceBEq])
  try simp only [dk, decide_true, decide_false, go_sem, Nat.reduceBEq, Int.reduceEq]
  refine (sGood v.text (by have := text_bulk v; omega) _).mono ?_
  rintro _ h1 ⟨rfl, e1⟩
  try simp only [go_sem, Nat.reduceBEq]
  exact ⟨rfl, e1⟩
theorem sF_20 (v : Nd) (hbk : v.bulk ≤ 1048576) (hk : v.kind = 20) (sl : Value) (h : Hp) (rd : RdN h v.kids sl) : ACalls Try.prog 33 #[.agg #[.int .i64 v.kind, .int .i64 v.num, .string v.text, sl]] h (Is (.tuple #[.bool (fN v), .bool (fT v)]) h) := by
  have hB := Nd.bulk_eq v
  have hL := Nd.bulks_len v.kids
  obtain ⟨a, c, xs, rfl, hc, hr, hat⟩ := rd.rows (by decide) v.kids.length (fm_len Nd.dt_len _)
  have ds : decide (((v.text.size : Nat) : Int) ≤ 400) = decide (v.text.size ≤ 400) := decide_eq_decide.2 (by omega)
  have dk : ∀ n : Int, decide (v.kind = n) = decide ((20 : Int) = n) := fun n => by rw [hk]
  have e1 : fN v = (decide (v.num = 0)) := by unfold fN fNum; simp [hk]
  have e2 : fT v = (nmB v.text) := by unfold fT fTxt nmK; simp [hk]
  rw [e1, e2]
  (refine enter Try.func33 rfl rfl (by kernel_rfl) [] ?_; simp only [go_sem, Nat.reduceBEq])
  try simp only [dk, decide_true, decide_false, go_sem, Nat.reduceBEq, Int.reduceEq]
  refine (sGood v.text (by have := text_bulk v; omega) _).mono ?_
  rintro _ h1 ⟨rfl, e1⟩
  try simp only [go_sem, Nat.reduceBEq]
  exact ⟨rfl, e1⟩
theorem sF_40 (v : Nd) (hbk : v.bulk ≤ 1048576) (hk : v.kind = 40) (sl : Value) (h : Hp) (rd : RdN h v.kids sl) : ACalls Try.prog 33 #[.agg #[.int .i64 v.kind, .int .i64 v.num, .string v.text, sl]] h (Is (.tuple #[.bool (fN v), .bool (fT v)]) h) := by
  have hB := Nd.bulk_eq v
  have hL := Nd.bulks_len v.kids
  obtain ⟨a, c, xs, rfl, hc, hr, hat⟩ := rd.rows (by decide) v.kids.length (fm_len Nd.dt_len _)
  have ds : decide (((v.text.size : Nat) : Int) ≤ 400) = decide (v.text.size ≤ 400) := decide_eq_decide.2 (by omega)
  have dk : ∀ n : Int, decide (v.kind = n) = decide ((40 : Int) = n) := fun n => by rw [hk]
  have e1 : fN v = (decide (v.num = 0)) := by unfold fN fNum; simp [hk]
  have e2 : fT v = (nmB v.text) := by unfold fT fTxt nmK; simp [hk]
  rw [e1, e2]
  (refine enter Try.func33 rfl rfl (by kernel_rfl) [] ?_; simp only [go_sem, Nat.reduceBEq])
  try simp only [dk, decide_true, decide_false, go_sem, Nat.reduceBEq, Int.reduceEq]
  refine (sGood v.text (by have := text_bulk v; omega) _).mono ?_
  rintro _ h1 ⟨rfl, e1⟩
  try simp only [go_sem, Nat.reduceBEq]
  exact ⟨rfl, e1⟩
theorem sF_44 (v : Nd) (hbk : v.bulk ≤ 1048576) (hk : v.kind = 44) (sl : Value) (h : Hp) (rd : RdN h v.kids sl) : ACalls Try.prog 33 #[.agg #[.int .i64 v.kind, .int .i64 v.num, .string v.text, sl]] h (Is (.tuple #[.bool (fN v), .bool (fT v)]) h) := by
  have hB := Nd.bulk_eq v
  have hL := Nd.bulks_len v.kids
  obtain ⟨a, c, xs, rfl, hc, hr, hat⟩ := rd.rows (by decide) v.kids.length (fm_len Nd.dt_len _)
  have ds : decide (((v.text.size : Nat) : Int) ≤ 400) = decide (v.text.size ≤ 400) := decide_eq_decide.2 (by omega)
  have dk : ∀ n : Int, decide (v.kind = n) = decide ((44 : Int) = n) := fun n => by rw [hk]
  have e1 : fN v = (decide (v.num = 0)) := by unfold fN fNum; simp [hk]
  have e2 : fT v = (nmB v.text) := by unfold fT fTxt nmK; simp [hk]
  rw [e1, e2]
  (refine enter Try.func33 rfl rfl (by kernel_rfl) [] ?_; simp only [go_sem, Nat.reduceBEq])
  try simp only [dk, decide_true, decide_false, go_sem, Nat.reduceBEq, Int.reduceEq]
  refine (sGood v.text (by have := text_bulk v; omega) _).mono ?_
  rintro _ h1 ⟨rfl, e1⟩
  try simp only [go_sem, Nat.reduceBEq]
  exact ⟨rfl, e1⟩
theorem sF_49 (v : Nd) (hbk : v.bulk ≤ 1048576) (hk : v.kind = 49) (sl : Value) (h : Hp) (rd : RdN h v.kids sl) : ACalls Try.prog 33 #[.agg #[.int .i64 v.kind, .int .i64 v.num, .string v.text, sl]] h (Is (.tuple #[.bool (fN v), .bool (fT v)]) h) := by
  have hB := Nd.bulk_eq v
  have hL := Nd.bulks_len v.kids
  obtain ⟨a, c, xs, rfl, hc, hr, hat⟩ := rd.rows (by decide) v.kids.length (fm_len Nd.dt_len _)
  have ds : decide (((v.text.size : Nat) : Int) ≤ 400) = decide (v.text.size ≤ 400) := decide_eq_decide.2 (by omega)
  have dk : ∀ n : Int, decide (v.kind = n) = decide ((49 : Int) = n) := fun n => by rw [hk]
  have e1 : fN v = (decide (v.num = 0)) := by unfold fN fNum; simp [hk]
  have e2 : fT v = (nmB v.text) := by unfold fT fTxt nmK; simp [hk]
  rw [e1, e2]
  (refine enter Try.func33 rfl rfl (by kernel_rfl) [] ?_; simp only [go_sem, Nat.reduceBEq])
  try simp only [dk, decide_true, decide_false, go_sem, Nat.reduceBEq, Int.reduceEq]
  refine (sGood v.text (by have := text_bulk v; omega) _).mono ?_
  rintro _ h1 ⟨rfl, e1⟩
  try simp only [go_sem, Nat.reduceBEq]
  exact ⟨rfl, e1⟩
theorem sF_50 (v : Nd) (hbk : v.bulk ≤ 1048576) (hk : v.kind = 50) (sl : Value) (h : Hp) (rd : RdN h v.kids sl) : ACalls Try.prog 33 #[.agg #[.int .i64 v.kind, .int .i64 v.num, .string v.text, sl]] h (Is (.tuple #[.bool (fN v), .bool (fT v)]) h) := by
  have hB := Nd.bulk_eq v
  have hL := Nd.bulks_len v.kids
  obtain ⟨a, c, xs, rfl, hc, hr, hat⟩ := rd.rows (by decide) v.kids.length (fm_len Nd.dt_len _)
  have ds : decide (((v.text.size : Nat) : Int) ≤ 400) = decide (v.text.size ≤ 400) := decide_eq_decide.2 (by omega)
  have dk : ∀ n : Int, decide (v.kind = n) = decide ((50 : Int) = n) := fun n => by rw [hk]
  have e1 : fN v = (decide (v.num = 0)) := by unfold fN fNum; simp [hk]
  have e2 : fT v = (nmB v.text) := by unfold fT fTxt nmK; simp [hk]
  rw [e1, e2]
  (refine enter Try.func33 rfl rfl (by kernel_rfl) [] ?_; simp only [go_sem, Nat.reduceBEq])
  try simp only [dk, decide_true, decide_false, go_sem, Nat.reduceBEq, Int.reduceEq]
  refine (sGood v.text (by have := text_bulk v; omega) _).mono ?_
  rintro _ h1 ⟨rfl, e1⟩
  try simp only [go_sem, Nat.reduceBEq]
  exact ⟨rfl, e1⟩
theorem sF_51 (v : Nd) (hbk : v.bulk ≤ 1048576) (hk : v.kind = 51) (sl : Value) (h : Hp) (rd : RdN h v.kids sl) : ACalls Try.prog 33 #[.agg #[.int .i64 v.kind, .int .i64 v.num, .string v.text, sl]] h (Is (.tuple #[.bool (fN v), .bool (fT v)]) h) := by
  have hB := Nd.bulk_eq v
  have hL := Nd.bulks_len v.kids
  obtain ⟨a, c, xs, rfl, hc, hr, hat⟩ := rd.rows (by decide) v.kids.length (fm_len Nd.dt_len _)
  have ds : decide (((v.text.size : Nat) : Int) ≤ 400) = decide (v.text.size ≤ 400) := decide_eq_decide.2 (by omega)
  have dk : ∀ n : Int, decide (v.kind = n) = decide ((51 : Int) = n) := fun n => by rw [hk]
  have e1 : fN v = (decide (v.num = 0)) := by unfold fN fNum; simp [hk]
  have e2 : fT v = (nmB v.text) := by unfold fT fTxt nmK; simp [hk]
  rw [e1, e2]
  (refine enter Try.func33 rfl rfl (by kernel_rfl) [] ?_; simp only [go_sem, Nat.reduceBEq])
  try simp only [dk, decide_true, decide_false, go_sem, Nat.reduceBEq, Int.reduceEq]
  refine (sGood v.text (by have := text_bulk v; omega) _).mono ?_
  rintro _ h1 ⟨rfl, e1⟩
  try simp only [go_sem, Nat.reduceBEq]
  exact ⟨rfl, e1⟩
theorem sF_52 (v : Nd) (hbk : v.bulk ≤ 1048576) (hk : v.kind = 52) (sl : Value) (h : Hp) (rd : RdN h v.kids sl) : ACalls Try.prog 33 #[.agg #[.int .i64 v.kind, .int .i64 v.num, .string v.text, sl]] h (Is (.tuple #[.bool (fN v), .bool (fT v)]) h) := by
  have hB := Nd.bulk_eq v
  have hL := Nd.bulks_len v.kids
  obtain ⟨a, c, xs, rfl, hc, hr, hat⟩ := rd.rows (by decide) v.kids.length (fm_len Nd.dt_len _)
  have ds : decide (((v.text.size : Nat) : Int) ≤ 400) = decide (v.text.size ≤ 400) := decide_eq_decide.2 (by omega)
  have dk : ∀ n : Int, decide (v.kind = n) = decide ((52 : Int) = n) := fun n => by rw [hk]
  have e1 : fN v = (decide (v.num = 0)) := by unfold fN fNum; simp [hk]
  have e2 : fT v = (nmB v.text) := by unfold fT fTxt nmK; simp [hk]
  rw [e1, e2]
  (refine enter Try.func33 rfl rfl (by kernel_rfl) [] ?_; simp only [go_sem, Nat.reduceBEq])
  try simp only [dk, decide_true, decide_false, go_sem, Nat.reduceBEq, Int.reduceEq]
  refine (sGood v.text (by have := text_bulk v; omega) _).mono ?_
  rintro _ h1 ⟨rfl, e1⟩
  try simp only [go_sem, Nat.reduceBEq]
  exact ⟨rfl, e1⟩
theorem sF_53 (v : Nd) (hbk : v.bulk ≤ 1048576) (hk : v.kind = 53) (sl : Value) (h : Hp) (rd : RdN h v.kids sl) : ACalls Try.prog 33 #[.agg #[.int .i64 v.kind, .int .i64 v.num, .string v.text, sl]] h (Is (.tuple #[.bool (fN v), .bool (fT v)]) h) := by
  have hB := Nd.bulk_eq v
  have hL := Nd.bulks_len v.kids
  obtain ⟨a, c, xs, rfl, hc, hr, hat⟩ := rd.rows (by decide) v.kids.length (fm_len Nd.dt_len _)
  have ds : decide (((v.text.size : Nat) : Int) ≤ 400) = decide (v.text.size ≤ 400) := decide_eq_decide.2 (by omega)
  have dk : ∀ n : Int, decide (v.kind = n) = decide ((53 : Int) = n) := fun n => by rw [hk]
  have e1 : fN v = (decide (v.num = 0)) := by unfold fN fNum; simp [hk]
  have e2 : fT v = (nmB v.text) := by unfold fT fTxt nmK; simp [hk]
  rw [e1, e2]
  (refine enter Try.func33 rfl rfl (by kernel_rfl) [] ?_; simp only [go_sem, Nat.reduceBEq])
  try simp only [dk, decide_true, decide_false, go_sem, Nat.reduceBEq, Int.reduceEq]
  refine (sGood v.text (by have := text_bulk v; omega) _).mono ?_
  rintro _ h1 ⟨rfl, e1⟩
  try simp only [go_sem, Nat.reduceBEq]
  exact ⟨rfl, e1⟩
theorem sF_22 (v : Nd) (hbk : v.bulk ≤ 1048576) (hk : v.kind = 22) (sl : Value) (h : Hp) (rd : RdN h v.kids sl) : ACalls Try.prog 33 #[.agg #[.int .i64 v.kind, .int .i64 v.num, .string v.text, sl]] h (Is (.tuple #[.bool (fN v), .bool (fT v)]) h) := by
  have hB := Nd.bulk_eq v
  have hL := Nd.bulks_len v.kids
  obtain ⟨a, c, xs, rfl, hc, hr, hat⟩ := rd.rows (by decide) v.kids.length (fm_len Nd.dt_len _)
  have ds : decide (((v.text.size : Nat) : Int) ≤ 400) = decide (v.text.size ≤ 400) := decide_eq_decide.2 (by omega)
  have dk : ∀ n : Int, decide (v.kind = n) = decide ((22 : Int) = n) := fun n => by rw [hk]
  have e1 : fN v = (decide (v.num = 0)) := by unfold fN fNum; simp [hk]
  have e2 : fT v = (nmB v.text || decide (v.text = sTic)) := by unfold fT fTxt nmK; simp [hk]
  rw [e1, e2]
  (refine enter Try.func33 rfl rfl (by kernel_rfl) [] ?_; simp only [go_sem, Nat.reduceBEq])
  try simp only [dk, decide_true, decide_false, go_sem, Nat.reduceBEq, Int.reduceEq]
  refine (sGood v.text (by have := text_bulk v; omega) _).mono ?_
  rintro _ h1 ⟨rfl, e1⟩
  try simp only [go_sem, Nat.reduceBEq]
  have es : (⟨#[115, 116, 97, 116, 105, 99]⟩ : ByteArray) = sTic := rfl
  cases hn : nmB v.text with
  | true =>
    simp only [Bool.true_or, go_sem, Nat.reduceBEq]
    exact ⟨rfl, e1⟩
  | false =>
    simp only [es, Bool.false_or, go_sem, Nat.reduceBEq]
    exact ⟨rfl, e1⟩
theorem sF_54 (v : Nd) (hbk : v.bulk ≤ 1048576) (hk : v.kind = 54) (sl : Value) (h : Hp) (rd : RdN h v.kids sl) : ACalls Try.prog 33 #[.agg #[.int .i64 v.kind, .int .i64 v.num, .string v.text, sl]] h (Is (.tuple #[.bool (fN v), .bool (fT v)]) h) := by
  have hB := Nd.bulk_eq v
  have hL := Nd.bulks_len v.kids
  obtain ⟨a, c, xs, rfl, hc, hr, hat⟩ := rd.rows (by decide) v.kids.length (fm_len Nd.dt_len _)
  have ds : decide (((v.text.size : Nat) : Int) ≤ 400) = decide (v.text.size ≤ 400) := decide_eq_decide.2 (by omega)
  have dk : ∀ n : Int, decide (v.kind = n) = decide ((54 : Int) = n) := fun n => by rw [hk]
  have e1 : fN v = (decide (0 ≤ v.num ∧ v.num ≤ 1)) := by unfold fN fNum; simp [hk]
  have e2 : fT v = (nmB v.text) := by unfold fT fTxt nmK; simp [hk]
  rw [e1, e2]
  (refine enter Try.func33 rfl rfl (by kernel_rfl) [] ?_; simp only [go_sem, Nat.reduceBEq])
  try simp only [dk, decide_true, decide_false, go_sem, Nat.reduceBEq, Int.reduceEq]
  (refine (l1In_c _ _ _ _).mono ?_; rintro _ _ ⟨rfl, rfl⟩; simp only [go_sem, Nat.reduceBEq])
  try simp only [go_sem, Nat.reduceBEq, Nat.reduceAdd, Nat.reduceLeDiff, Nat.reduceEqDiff, Int.reduceEq, not_false_eq_true, Int.reduceToNat]
  refine (sGood v.text (by have := text_bulk v; omega) _).mono ?_
  rintro _ h1 ⟨rfl, e1⟩
  try simp only [go_sem, Nat.reduceBEq]
  exact ⟨rfl, e1⟩
theorem sF_55 (v : Nd) (hbk : v.bulk ≤ 1048576) (hk : v.kind = 55) (sl : Value) (h : Hp) (rd : RdN h v.kids sl) : ACalls Try.prog 33 #[.agg #[.int .i64 v.kind, .int .i64 v.num, .string v.text, sl]] h (Is (.tuple #[.bool (fN v), .bool (fT v)]) h) := by
  have hB := Nd.bulk_eq v
  have hL := Nd.bulks_len v.kids
  obtain ⟨a, c, xs, rfl, hc, hr, hat⟩ := rd.rows (by decide) v.kids.length (fm_len Nd.dt_len _)
  have ds : decide (((v.text.size : Nat) : Int) ≤ 400) = decide (v.text.size ≤ 400) := decide_eq_decide.2 (by omega)
  have dk : ∀ n : Int, decide (v.kind = n) = decide ((55 : Int) = n) := fun n => by rw [hk]
  have e1 : fN v = (decide (0 ≤ v.num ∧ v.num ≤ 3)) := by unfold fN fNum; simp [hk]
  have e2 : fT v = (nmB v.text) := by unfold fT fTxt nmK; simp [hk]
  rw [e1, e2]
  (refine enter Try.func33 rfl rfl (by kernel_rfl) [] ?_; simp only [go_sem, Nat.reduceBEq])
  try simp only [dk, decide_true, decide_false, go_sem, Nat.reduceBEq, Int.reduceEq]
  (refine (l1In_c _ _ _ _).mono ?_; rintro _ _ ⟨rfl, rfl⟩; simp only [go_sem, Nat.reduceBEq])
  try simp only [go_sem, Nat.reduceBEq, Nat.reduceAdd, Nat.reduceLeDiff, Nat.reduceEqDiff, Int.reduceEq, not_false_eq_true, Int.reduceToNat]
  refine (sGood v.text (by have := text_bulk v; omega) _).mono ?_
  rintro _ h1 ⟨rfl, e1⟩
  try simp only [go_sem, Nat.reduceBEq]
  exact ⟨rfl, e1⟩
theorem sF_21 (v : Nd) (hbk : v.bulk ≤ 1048576) (hk : v.kind = 21) (sl : Value) (h : Hp) (rd : RdN h v.kids sl) : ACalls Try.prog 33 #[.agg #[.int .i64 v.kind, .int .i64 v.num, .string v.text, sl]] h (Is (.tuple #[.bool (fN v), .bool (fT v)]) h) := by
  have hB := Nd.bulk_eq v
  have hL := Nd.bulks_len v.kids
  obtain ⟨a, c, xs, rfl, hc, hr, hat⟩ := rd.rows (by decide) v.kids.length (fm_len Nd.dt_len _)
  have ds : decide (((v.text.size : Nat) : Int) ≤ 400) = decide (v.text.size ≤ 400) := decide_eq_decide.2 (by omega)
  have dk : ∀ n : Int, decide (v.kind = n) = decide ((21 : Int) = n) := fun n => by rw [hk]
  have e1 : fN v = (decide (v.num = 0)) := by unfold fN fNum; simp [hk]
  have e2 : fT v = (stcB nmB v.text) := by unfold fT fTxt nmK; simp [hk]
  rw [e1, e2]
  (refine enter Try.func33 rfl rfl (by kernel_rfl) [] ?_; simp only [go_sem, Nat.reduceBEq])
  try simp only [dk, decide_true, decide_false, go_sem, Nat.reduceBEq, Int.reduceEq]
  rw [← stc_split nm_none v.text]
  obtain ⟨z1, z2⟩ := split_size v.text
  have hts := text_bulk v
  (refine (sSplit v.text (by omega) _).mono ?_; rintro _ _ ⟨rfl, rfl⟩; simp only [go_sem, Nat.reduceBEq])
  generalize (splitB v.text).1 = p at *
  generalize (splitB v.text).2 = q at *
  have es : (⟨#[115, 116, 97, 116, 105, 99]⟩ : ByteArray) = sTic := rfl
  refine (sGood p (by omega) _).mono ?_
  rintro _ h1 ⟨rfl, x1⟩
  try simp only [go_sem, Nat.reduceBEq]
  cases hp : nmB p with
  | true =>
    simp only [Bool.true_and, Bool.true_or, go_sem, Nat.reduceBEq]
    try simp only [go_sem, Nat.reduceBEq, Nat.reduceAdd, Nat.reduceLeDiff, Nat.reduceEqDiff, Int.reduceEq, not_false_eq_true, Int.reduceToNat]
    refine (sGood q (by omega) _).mono ?_
    rintro _ h2 ⟨rfl, x2⟩
    try simp only [go_sem, Nat.reduceBEq]
    exact ⟨rfl, x1.trans x2⟩
  | false =>
    simp only [es, Bool.false_or, go_sem, Nat.reduceBEq]
    by_cases hc : p = sTic
    · have hd : decide (p = sTic) = true := decide_eq_true hc
      simp only [hd, Bool.true_and, go_sem, Nat.reduceBEq]
      try simp only [go_sem, Nat.reduceBEq, Nat.reduceAdd, Nat.reduceLeDiff, Nat.reduceEqDiff, Int.reduceEq, not_false_eq_true, Int.reduceToNat]
      refine (sGood q (by omega) _).mono ?_
      rintro _ h2 ⟨rfl, x2⟩
      try simp only [go_sem, Nat.reduceBEq]
      exact ⟨rfl, x1.trans x2⟩
    · have hd : decide (p = sTic) = false := decide_eq_false hc
      simp only [hd, Bool.false_and, go_sem, Nat.reduceBEq]
      exact ⟨rfl, x1⟩
theorem sF_31 (v : Nd) (hbk : v.bulk ≤ 1048576) (hk : v.kind = 31) (sl : Value) (h : Hp) (rd : RdN h v.kids sl) : ACalls Try.prog 33 #[.agg #[.int .i64 v.kind, .int .i64 v.num, .string v.text, sl]] h (Is (.tuple #[.bool (fN v), .bool (fT v)]) h) := by
  have hB := Nd.bulk_eq v
  have hL := Nd.bulks_len v.kids
  obtain ⟨a, c, xs, rfl, hc, hr, hat⟩ := rd.rows (by decide) v.kids.length (fm_len Nd.dt_len _)
  have ds : decide (((v.text.size : Nat) : Int) ≤ 400) = decide (v.text.size ≤ 400) := decide_eq_decide.2 (by omega)
  have dk : ∀ n : Int, decide (v.kind = n) = decide ((31 : Int) = n) := fun n => by rw [hk]
  have e1 : fN v = (decide (v.num = 0)) := by unfold fN fNum; simp [hk]
  have e2 : fT v = (!decide (v.text = ⟨#[]⟩) && inlB v.text) := by unfold fT fTxt nmK; simp [hk]
  rw [e1, e2]
  (refine enter Try.func33 rfl rfl (by kernel_rfl) [] ?_; simp only [go_sem, Nat.reduceBEq])
  try simp only [dk, decide_true, decide_false, go_sem, Nat.reduceBEq, Int.reduceEq]
  have hts := text_bulk v
  generalize hd0 : decide (v.text = ⟨#[]⟩) = d0 at *
  generalize hn0 : decide (v.num = 0) = n0 at *
  refine aloop (ι := Nat) (fun i => [(8, .val (.int .i64 (i : Nat))), (5, .val (.bool (!d0 && noOcc v.text lq i))), (4, .val (.bool n0)), (1, .box 1 0)]) (fun _ => [(1, [.int .i64 v.kind, .int .i64 v.num, .string v.text, .slice a v.kids.length c])])
    (fun i h' => i ≤ v.text.size ∧ h' = h) (fun i => v.text.size - i) 0 ⟨Nat.zero_le _, rfl⟩ (by simp only [noOcc, Bool.and_true]; exact (by repeat (first | exact wkF_e | refine wkF_c rfl ?_))) (wkB_c rfl wkB_e) rfl ?_
  rintro i _ ⟨hi, rfl⟩
  have hi : i ≤ v.text.size := hi
  have wsu := wrap_succ (i := i) (by omega)
  simp only [go_sem, Nat.reduceBEq]
  refine Br.intro (fun hb => ?_) (fun hb => ?_) <;> (try simp only [hb, go_sem, Nat.reduceBEq, Nat.reduceEqDiff])
  · have hb : i < v.text.size := by simpa using hb
    have hs1 : noOcc v.text lq (i + 1) = (noOcc v.text lq i && !occB v.text lq i) := rfl
    cases hq : (!d0 && noOcc v.text lq i) with
    | false =>
      simp only [wsu, go_sem, Nat.reduceBEq]
      exact Again.intro (i + 1) (by first | omega | (simp only; omega)) ⟨hb, rfl⟩ (by simp only [hs1, ← Bool.and_assoc, hq, Bool.false_and]; exact (by repeat (first | exact wkF_e | refine wkF_c rfl ?_))) (wkB_c rfl wkB_e) rfl
    | true =>
      simp only [go_sem, Nat.reduceBEq]
      try simp only [go_sem, Nat.reduceBEq, Nat.reduceAdd, Nat.reduceLeDiff, Nat.reduceEqDiff, Int.reduceEq, not_false_eq_true, Int.reduceToNat]
      have hlq : (⟨#[60, 63]⟩ : ByteArray) = lq := rfl
      try simp only [hlq, go_sem]
      (refine (sIs14 v.text i hb (by omega) _).mono ?_; rintro _ _ ⟨rfl, rfl⟩; simp only [go_sem, Nat.reduceBEq])
      try simp only [wsu, go_sem]
      exact Again.intro (i + 1) (by first | omega | (simp only; omega)) ⟨hb, rfl⟩ (by simp only [hs1, ← Bool.and_assoc, hq, Bool.true_and]; exact (by repeat (first | exact wkF_e | refine wkF_c rfl ?_))) (wkB_c rfl wkB_e) rfl
  · have hb : i = v.text.size := by simp at hb; omega
    subst hb
    rw [inl_all]
    exact ⟨rfl, Ext.refl _⟩
theorem sF_o (v : Nd) (hbk : v.bulk ≤ 1048576) (hk : ¬ v.kind = 1 ∧ ¬ v.kind = 3 ∧ ¬ v.kind = 9 ∧ ¬ v.kind = 10 ∧ ¬ v.kind = 2 ∧ ¬ v.kind = 47 ∧ ¬ v.kind = 4 ∧ ¬ v.kind = 8 ∧ ¬ v.kind = 17 ∧ ¬ v.kind = 18 ∧ ¬ v.kind = 20 ∧ ¬ v.kind = 40 ∧ ¬ v.kind = 44 ∧ ¬ v.kind = 49 ∧ ¬ v.kind = 50 ∧ ¬ v.kind = 51 ∧ ¬ v.kind = 52 ∧ ¬ v.kind = 53 ∧ ¬ v.kind = 22 ∧ ¬ v.kind = 54 ∧ ¬ v.kind = 55 ∧ ¬ v.kind = 21 ∧ ¬ v.kind = 31) (sl : Value) (h : Hp) (rd : RdN h v.kids sl) : ACalls Try.prog 33 #[.agg #[.int .i64 v.kind, .int .i64 v.num, .string v.text, sl]] h (Is (.tuple #[.bool (fN v), .bool (fT v)]) h) := by
  have hB := Nd.bulk_eq v
  have hL := Nd.bulks_len v.kids
  obtain ⟨a, c, xs, rfl, hc, hr, hat⟩ := rd.rows (by decide) v.kids.length (fm_len Nd.dt_len _)
  have d1 : decide (v.kind = 1) = false := decide_eq_false (by omega)
  have k1 : ¬ v.kind = 1 := by omega
  have d3 : decide (v.kind = 3) = false := decide_eq_false (by omega)
  have k3 : ¬ v.kind = 3 := by omega
  have d9 : decide (v.kind = 9) = false := decide_eq_false (by omega)
  have k9 : ¬ v.kind = 9 := by omega
  have d10 : decide (v.kind = 10) = false := decide_eq_false (by omega)
  have k10 : ¬ v.kind = 10 := by omega
  have d2 : decide (v.kind = 2) = false := decide_eq_false (by omega)
  have k2 : ¬ v.kind = 2 := by omega
  have d47 : decide (v.kind = 47) = false := decide_eq_false (by omega)
  have k47 : ¬ v.kind = 47 := by omega
  have d4 : decide (v.kind = 4) = false := decide_eq_false (by omega)
  have k4 : ¬ v.kind = 4 := by omega
  have d8 : decide (v.kind = 8) = false := decide_eq_false (by omega)
  have k8 : ¬ v.kind = 8 := by omega
  have d17 : decide (v.kind = 17) = false := decide_eq_false (by omega)
  have k17 : ¬ v.kind = 17 := by omega
  have d18 : decide (v.kind = 18) = false := decide_eq_false (by omega)
  have k18 : ¬ v.kind = 18 := by omega
  have d20 : decide (v.kind = 20) = false := decide_eq_false (by omega)
  have k20 : ¬ v.kind = 20 := by omega
  have d40 : decide (v.kind = 40) = false := decide_eq_false (by omega)
  have k40 : ¬ v.kind = 40 := by omega
  have d44 : decide (v.kind = 44) = false := decide_eq_false (by omega)
  have k44 : ¬ v.kind = 44 := by omega
  have d49 : decide (v.kind = 49) = false := decide_eq_false (by omega)
  have k49 : ¬ v.kind = 49 := by omega
  have d50 : decide (v.kind = 50) = false := decide_eq_false (by omega)
  have k50 : ¬ v.kind = 50 := by omega
  have d51 : decide (v.kind = 51) = false := decide_eq_false (by omega)
  have k51 : ¬ v.kind = 51 := by omega
  have d52 : decide (v.kind = 52) = false := decide_eq_false (by omega)
  have k52 : ¬ v.kind = 52 := by omega
  have d53 : decide (v.kind = 53) = false := decide_eq_false (by omega)
  have k53 : ¬ v.kind = 53 := by omega
  have d22 : decide (v.kind = 22) = false := decide_eq_false (by omega)
  have k22 : ¬ v.kind = 22 := by omega
  have d54 : decide (v.kind = 54) = false := decide_eq_false (by omega)
  have k54 : ¬ v.kind = 54 := by omega
  have d55 : decide (v.kind = 55) = false := decide_eq_false (by omega)
  have k55 : ¬ v.kind = 55 := by omega
  have d21 : decide (v.kind = 21) = false := decide_eq_false (by omega)
  have k21 : ¬ v.kind = 21 := by omega
  have d31 : decide (v.kind = 31) = false := decide_eq_false (by omega)
  have k31 : ¬ v.kind = 31 := by omega
  have e1 : fN v = decide (v.num = 0) := by unfold fN fNum; simp [k1, k3, k9, k10, k54, k55]
  have e2 : fT v = decide (v.text = ⟨#[]⟩) := by unfold fT fTxt nmK; simp [k2, k47, k4, k8, k17, k18, k20, k40, k44, k49, k50, k51, k52, k53, k22, k54, k55, k21, k31]
  rw [e1, e2]
  (refine enter Try.func33 rfl rfl (by kernel_rfl) [] ?_; simp only [go_sem, Nat.reduceBEq])
  simp only [d1, d3, d9, d10, d2, d47, d4, d8, d17, d18, d20, d40, d44, d49, d50, d51, d52, d53, d22, d54, d55, d21, d31, go_sem, Nat.reduceBEq]
  exact ⟨rfl, Ext.refl _⟩
theorem sFields (v : Nd) (hbk : v.bulk ≤ 1048576) (sl : Value) (h : Hp) (rd : RdN h v.kids sl) : ACalls Try.prog 33 #[.agg #[.int .i64 v.kind, .int .i64 v.num, .string v.text, sl]] h (Is (.tuple #[.bool (fN v), .bool (fT v)]) h) := by
  by_cases k1 : v.kind = 1
  · exact sF_1 v hbk k1 sl h rd
  by_cases k3 : v.kind = 3
  · exact sF_3 v hbk k3 sl h rd
  by_cases k9 : v.kind = 9
  · exact sF_9 v hbk k9 sl h rd
  by_cases k10 : v.kind = 10
  · exact sF_10 v hbk k10 sl h rd
  by_cases k2 : v.kind = 2
  · exact sF_2 v hbk k2 sl h rd
  by_cases k47 : v.kind = 47
  · exact sF_47 v hbk k47 sl h rd
  by_cases k4 : v.kind = 4
  · exact sF_4 v hbk k4 sl h rd
  by_cases k8 : v.kind = 8
  · exact sF_8 v hbk k8 sl h rd
  by_cases k17 : v.kind = 17
  · exact sF_17 v hbk k17 sl h rd
  by_cases k18 : v.kind = 18
  · exact sF_18 v hbk k18 sl h rd
  by_cases k20 : v.kind = 20
  · exact sF_20 v hbk k20 sl h rd
  by_cases k40 : v.kind = 40
  · exact sF_40 v hbk k40 sl h rd
  by_cases k44 : v.kind = 44
  · exact sF_44 v hbk k44 sl h rd
  by_cases k49 : v.kind = 49
  · exact sF_49 v hbk k49 sl h rd
  by_cases k50 : v.kind = 50
  · exact sF_50 v hbk k50 sl h rd
  by_cases k51 : v.kind = 51
  · exact sF_51 v hbk k51 sl h rd
  by_cases k52 : v.kind = 52
  · exact sF_52 v hbk k52 sl h rd
  by_cases k53 : v.kind = 53
  · exact sF_53 v hbk k53 sl h rd
  by_cases k22 : v.kind = 22
  · exact sF_22 v hbk k22 sl h rd
  by_cases k54 : v.kind = 54
  · exact sF_54 v hbk k54 sl h rd
  by_cases k55 : v.kind = 55
  · exact sF_55 v hbk k55 sl h rd
  by_cases k21 : v.kind = 21
  · exact sF_21 v hbk k21 sl h rd
  by_cases k31 : v.kind = 31
  · exact sF_31 v hbk k31 sl h rd
  exact sF_o v hbk ⟨k1, k3, k9, k10, k2, k47, k4, k8, k17, k18, k20, k40, k44, k49, k50, k51, k52, k53, k22, k54, k55, k21, k31⟩ sl h rd
end Go.Proofs.Ytamjpcmcpcdggaa
