/-
  What statements are, by the program.
-/
import Derived.Test.YtamjpcmcpcdggaaTree
namespace Go.Proofs.Ytamjpcmcpcdggaa
set_option maxRecDepth 8000
open Go Go.Sx
set_option maxHeartbeats 1600000 in
theorem iTry (l : List Nd) (M : Nat) (ih : ∀ e : Nd, e.size < M → IE e ∧ IS e) (hs : ∀ e ∈ l, e.size < M) (hb : Nd.bulks l ≤ 1048576) (sl : Value) (h : Hp) (rd : RdN h l sl) (hM : Mx h) : ACalls Try.prog 52 #[sl] h (Is (.bool (nTry nmB sm l)) h) := by
  have hL := Nd.bulks_len l
  obtain ⟨a, c, xs, rfl, hc, hr, hat⟩ := rd.rows (by decide) l.length (fm_len Nd.dt_len _)
  have hn0 : decide (((l.length : Nat) : Int) < 2) = !decide (2 ≤ l.length) := by rw [← decide_not]; exact decide_eq_decide.2 (by omega)
  (refine enter Try.func52 rfl rfl (by kernel_rfl) [] ?_; simp only [go_sem, Nat.reduceBEq])
  try simp only [hn0, go_sem]
  by_cases h2 : 2 ≤ l.length
  case neg =>
    have e0 : nTry nmB sm l = false := by unfold nTry; rw [decide_eq_false h2]; rfl
    rw [e0]
    simp only [decide_eq_false h2, Bool.not_false, go_sem, Nat.reduceBEq]
    exact ⟨rfl, Ext.refl _⟩
  obtain ⟨b, off, rfl, hat'⟩ := hat (by omega)
  obtain ⟨au, ysu, eu, rsu, rlu⟩ := Rd.sub Nd.dt_len rd 0 (1) (by omega) (by omega)
  have eu : slA (some 4) (some ⟨b, off, none⟩) l.length c (0 : Int) (1 : Int) = some (.slice au (1 - 0) (c - 0)) := eu
  have rpu : RdN h (l.take 1) (.slice au (1 - 0) (c - 0)) := by
    simp only [Rd]
    exact ⟨_, rsu, by simpa using rlu⟩
  simp only [eu, decide_eq_true h2, Bool.not_true, go_sem, Nat.reduceBEq]
  refine (iBlocks (l.take 1) (fun e he => (ih e (hs e (List.mem_of_mem_take he))).2) (by have := take_bulks l 1; omega) _ _ rpu hM).mono ?_
  rintro _ g1 ⟨rfl, x1⟩
  rw [take1_all (by omega)]
  try simp only [go_sem, Nat.reduceBEq]
  obtain ⟨aw, ysw, ew, rsw, rlw⟩ := Rd.sub Nd.dt_len rd 1 (l.length) (by omega) (by omega)
  have ew : slA (some 4) (some ⟨b, off, none⟩) l.length c (1 : Int) ((l.length : Nat) : Int) = some (.slice aw (l.length - 1) (c - 1)) := ew
  have rpw : RdN h (l.drop 1) (.slice aw (l.length - 1) (c - 1)) := by
    simp only [Rd]
    exact ⟨_, rsw, by rw [drop_take] at rlw; exact rlw⟩
  cases hb0 : nBlk sm (kid l 0) with
  | false =>
    have e0 : nTry nmB sm l = false := by unfold nTry; rw [hb0]; simp
    rw [e0]
    simp only [Bool.not_false, go_sem, Nat.reduceBEq]
    exact ⟨rfl, x1⟩
  | true =>
  simp only [ew, Bool.not_true, go_sem, Nat.reduceBEq]
  obtain ⟨_, _, xs5, es5, _, hr5, hat5⟩ := rpw.rows (by decide) (l.drop 1).length (fm_len Nd.dt_len _)
  have hdl : (l.drop 1).length = l.length - 1 := by rw [List.length_drop]
  rw [hdl] at es5
  cases es5
  obtain ⟨b5, o5, rfl, hat5'⟩ := hat5 (by omega)
  have k0 : 0 < l.length - 1 := by omega
  have hk1 : (l.drop 1)[0]? = some (kid l 1) := by rw [List.getElem?_drop]; exact kid_get (by omega)
  simp only [ix0 k0, go_sem, Nat.reduceBEq]
  refine hsem_node tyS29 (hat5'.mono x1) (hr5.mono x1) hk1 (by omega) fun s6 rdj => ?_
  obtain ⟨a6, c6, xs6, rfl, _, hr6, hat6⟩ := rdj.rows (by decide) (kid l 1).kids.length (fm_len Nd.dt_len _)
  try simp only [go_sem, Nat.reduceBEq, Nat.reduceAdd, Nat.reduceLeDiff]
  by_cases k44 : (kid l 1).kind = 44
  case neg =>
    rw [try_fin h2 hb0 k44]
    unfold nFin
    have z1 : decide (((l.length - 1 : Nat) : Int) = 0) = false := decide_eq_false (by omega)
    simp only [decide_eq_false k44, z1, go_sem, Nat.reduceBEq]
    try simp only [z1, go_sem, Nat.reduceBEq, Nat.reduceAdd, Nat.reduceLeDiff, Nat.reduceEqDiff, Int.reduceEq, not_false_eq_true, Int.reduceToNat]
    simp only [ix0 k0, go_sem, Nat.reduceBEq]
    refine hsem_node tyS29 (hat5'.mono x1) (hr5.mono x1) hk1 (by omega) fun s7 rdj => ?_
    obtain ⟨a7, c7, _, rfl, _⟩ := rdj.rows (by decide) (kid l 1).kids.length (fm_len Nd.dt_len _)
    have ln : decide (((l.length - 1 : Nat) : Int) = 1) = decide (l.length = 2) := decide_eq_decide.2 (by omega)
    try simp only [go_sem, Nat.reduceBEq, Nat.reduceAdd, Nat.reduceLeDiff]
    simp only [ln, go_sem]
    by_cases f1 : l.length = 2
    case neg =>
      simp only [decide_eq_false f1, Bool.false_and, go_sem, Nat.reduceBEq]
      exact ⟨rfl, x1⟩
    simp only [decide_eq_true f1, Bool.true_and, go_sem, Nat.reduceBEq]
    by_cases f2 : (kid l 1).kind = 45
    case neg =>
      simp only [decide_eq_false f2, Bool.false_and, go_sem, Nat.reduceBEq]
      exact ⟨rfl, x1⟩
    simp only [decide_eq_true f2, Bool.true_and, go_sem, Nat.reduceBEq]
    by_cases f3 : (kid l 1).num = 0
    case neg =>
      simp only [decide_eq_false f3, Bool.false_and, go_sem, Nat.reduceBEq]
      exact ⟨rfl, x1⟩
    simp only [decide_eq_true f3, Bool.true_and, go_sem, Nat.reduceBEq]
    by_cases f4 : (kid l 1).text = ⟨#[]⟩
    case neg =>
      simp only [decide_eq_false f4, Bool.false_and, go_sem, Nat.reduceBEq]
      exact ⟨rfl, x1⟩
    simp only [decide_eq_true f4, Bool.true_and, go_sem, Nat.reduceBEq]
    have lf : decide ((((kid l 1).kids.length : Nat) : Int) = 1) = decide ((kid l 1).kids.length = 1) := decide_eq_decide.2 (by omega)
    simp only [lf, go_sem]
    by_cases f5 : (kid l 1).kids.length = 1
    case neg =>
      simp only [decide_eq_false f5, Bool.false_and, go_sem, Nat.reduceBEq]
      exact ⟨rfl, x1⟩
    simp only [decide_eq_true f5, Bool.true_and, go_sem, Nat.reduceBEq]
    rw [← all_one (f := nBlk sm) f5]
    try simp only [go_sem, Nat.reduceBEq, Nat.reduceAdd, Nat.reduceLeDiff, Nat.reduceEqDiff, Int.reduceEq, not_false_eq_true, Int.reduceToNat]
    have hmj : kid l 1 ∈ l := kid_mem (by omega)
    have hbj := kid_bulk hmj hb
    have hBj := Nd.bulk_eq (kid l 1)
    refine (iBlocks (kid l 1).kids (fun e he => (ih e (by have := hs _ hmj; have := Nd.size_lt he; omega)).2) (by omega) _ _ rdj (hM.ext x1)).mono ?_
    rintro _ gz ⟨rfl, ez⟩
    try simp only [go_sem, Nat.reduceBEq]
    exact ⟨rfl, x1.trans ez⟩
  rw [try_catch h2 hb0 k44]
  unfold nCatch
  have hm1 : kid l 1 ∈ l := kid_mem (by omega)
  have hb1 := kid_bulk hm1 hb
  have hB1 := Nd.bulk_eq (kid l 1)
  have hs1 := hs _ hm1
  have l2 : decide ((((kid l 1).kids.length : Nat) : Int) = 2) = decide ((kid l 1).kids.length = 2) := decide_eq_decide.2 (by omega)
  simp only [decide_eq_true k44, Bool.true_and, go_sem, Nat.reduceBEq]
  try simp only [go_sem, Nat.reduceBEq, Nat.reduceAdd, Nat.reduceLeDiff, Nat.reduceEqDiff, Int.reduceEq, not_false_eq_true, Int.reduceToNat]
  by_cases q1 : (kid l 1).num = 0
  case neg =>
    simp only [decide_eq_false q1, Bool.false_and, Bool.not_false, go_sem, Nat.reduceBEq]
    exact ⟨rfl, x1⟩
  simp only [decide_eq_true q1, Bool.true_and, Bool.not_true, go_sem, Nat.reduceBEq]
  try simp only [go_sem, Nat.reduceBEq, Nat.reduceAdd, Nat.reduceLeDiff, Nat.reduceEqDiff, Int.reduceEq, not_false_eq_true, Int.reduceToNat]
  refine (iGood (kid l 1).text (by have := text_bulk (kid l 1); omega) _).mono ?_
  rintro _ g2 ⟨rfl, y2⟩
  have x2 := x1.trans y2
  try simp only [go_sem, Nat.reduceBEq]
  cases q2 : nmB (kid l 1).text with
  | false =>
    simp only [Bool.false_and, Bool.not_false, go_sem, Nat.reduceBEq]
    exact ⟨rfl, x2⟩
  | true =>
  simp only [l2, Bool.true_and, Bool.not_true, go_sem, Nat.reduceBEq]
  by_cases q3 : (kid l 1).kids.length = 2
  case neg =>
    simp only [decide_eq_false q3, Bool.false_and, Bool.not_false, go_sem, Nat.reduceBEq]
    exact ⟨rfl, x2⟩
  obtain ⟨b6, o6, rfl, hat6'⟩ := hat6 (by omega)
  have hc0 : 0 < (kid l 1).kids.length := by omega
  simp only [decide_eq_true q3, ix0 hc0, Bool.true_and, Bool.not_true, go_sem, Nat.reduceBEq]
  refine hsem_node tyS29 (hat6'.mono y2) (hr6.mono y2) (kid_get hc0) (by omega) fun s8 rd8 => ?_
  obtain ⟨a8, c8, _, rfl, _⟩ := rd8.rows (by decide) (kid (kid l 1).kids 0).kids.length (fm_len Nd.dt_len _)
  try simp only [go_sem, Nat.reduceBEq]
  refine (iVar (kid (kid l 1).kids 0) (kid_bulk (kid_mem hc0) (by omega)) _ _ rd8 (hM.ext x2)).mono ?_
  rintro _ g3 ⟨rfl, y3⟩
  have x3 := x2.trans y3
  try simp only [go_sem, Nat.reduceBEq]
  obtain ⟨at_, yt, et, rt, rlt⟩ := Rd.sub Nd.dt_len rdj 1 (kid l 1).kids.length (by omega) (Nat.le_refl _)
  have et : slA (some 4) (some ⟨b6, o6, none⟩) (kid l 1).kids.length c6 (1 : Int) (((kid l 1).kids.length : Nat) : Int) = some (.slice at_ ((kid l 1).kids.length - 1) (c6 - 1)) := et
  have rpt : RdN g1 ((kid l 1).kids.drop 1) (.slice at_ ((kid l 1).kids.length - 1) (c6 - 1)) := by
    simp only [Rd]
    exact ⟨_, rt, by rw [drop_take] at rlt; exact rlt⟩
  cases q4 : nVar nmB (kid (kid l 1).kids 0) with
  | false =>
    simp only [Bool.false_and, Bool.not_false, go_sem, Nat.reduceBEq]
    exact ⟨rfl, x3⟩
  | true =>
  simp only [et, Bool.true_and, Bool.not_true, go_sem, Nat.reduceBEq]
  rw [← drop_last (B := nBlk sm) (l := (kid l 1).kids) (i := 1) q3]
  refine (iBlocks ((kid l 1).kids.drop 1) (fun e he => (ih e (by have := Nd.size_lt (List.mem_of_mem_drop he); omega)).2) (by have := drop_bulks (kid l 1).kids 1; omega) _ _ (rpt.mono (y2.trans y3)) (hM.ext x3)).mono ?_
  rintro _ g4 ⟨rfl, y4⟩
  have x4 := x3.trans y4
  try simp only [go_sem, Nat.reduceBEq]
  obtain ⟨av, yv, ev, rv, rlv⟩ := Rd.sub Nd.dt_len rpw 1 (l.length - 1) (by omega) (Nat.le_refl _)
  have ev : slA (some 4) (some ⟨b5, o5, none⟩) (l.length - 1) (c - 1) (1 : Int) ((l.length - 1 : Nat) : Int) = some (.slice av (l.length - 1 - 1) (c - 1 - 1)) := ev
  have rpv : RdN h (l.drop 2) (.slice av (l.length - 1 - 1) (c - 1 - 1)) := by
    simp only [Rd]
    exact ⟨_, rv, by rw [drop_take2] at rlv; exact rlv⟩
  have e21 : l.length - 1 - 1 = l.length - 2 := by omega
  rw [e21] at ev rpv
  cases q5 : ((kid l 1).kids.drop 1).all (nBlk sm) with
  | false =>
    simp only [Bool.false_and, Bool.not_false, go_sem, Nat.reduceBEq]
    exact ⟨rfl, x4⟩
  | true =>
  simp only [ev, Bool.true_and, Bool.not_true, go_sem, Nat.reduceBEq]
  have z2 : decide (((l.length - 2 : Nat) : Int) = 0) = decide (l.length = 2) := decide_eq_decide.2 (by omega)
  simp only [z2, go_sem]
  by_cases q6 : l.length = 2
  · simp only [decide_eq_true q6, Bool.true_or, go_sem, Nat.reduceBEq]
    exact ⟨rfl, x4⟩
  simp only [decide_eq_false q6, Bool.false_or, go_sem, Nat.reduceBEq]
  obtain ⟨_, _, xs9, es9, _, hr9, hat9⟩ := rpv.rows (by decide) (l.drop 2).length (fm_len Nd.dt_len _)
  have hdl2 : (l.drop 2).length = l.length - 2 := by rw [List.length_drop]
  rw [hdl2] at es9
  cases es9
  obtain ⟨b9, o9, rfl, hat9'⟩ := hat9 (by omega)
  have k02 : 0 < l.length - 2 := by omega
  have hk2 : (l.drop 2)[0]? = some (kid l 2) := by rw [List.getElem?_drop]; exact kid_get (by omega)
  try simp only [go_sem, Nat.reduceBEq, Nat.reduceAdd, Nat.reduceLeDiff, Nat.reduceEqDiff, Int.reduceEq, not_false_eq_true, Int.reduceToNat]
  simp only [ix0 k02, go_sem, Nat.reduceBEq]
  refine hsem_node tyS29 (hat9'.mono x4) (hr9.mono x4) hk2 (by omega) fun s9 rdj => ?_
  obtain ⟨a9, c9, _, rfl, _⟩ := rdj.rows (by decide) (kid l 2).kids.length (fm_len Nd.dt_len _)
  unfold nFin
  have ln : decide (((l.length - 2 : Nat) : Int) = 1) = decide (l.length = 3) := decide_eq_decide.2 (by omega)
  try simp only [go_sem, Nat.reduceBEq, Nat.reduceAdd, Nat.reduceLeDiff]
  simp only [ln, go_sem]
  by_cases f1 : l.length = 3
  case neg =>
    simp only [decide_eq_false f1, Bool.false_and, go_sem, Nat.reduceBEq]
    exact ⟨rfl, x4⟩
  simp only [decide_eq_true f1, Bool.true_and, go_sem, Nat.reduceBEq]
  by_cases f2 : (kid l 2).kind = 45
  case neg =>
    simp only [decide_eq_false f2, Bool.false_and, go_sem, Nat.reduceBEq]
    exact ⟨rfl, x4⟩
  simp only [decide_eq_true f2, Bool.true_and, go_sem, Nat.reduceBEq]
  by_cases f3 : (kid l 2).num = 0
  case neg =>
    simp only [decide_eq_false f3, Bool.false_and, go_sem, Nat.reduceBEq]
    exact ⟨rfl, x4⟩
  simp only [decide_eq_true f3, Bool.true_and, go_sem, Nat.reduceBEq]
  by_cases f4 : (kid l 2).text = ⟨#[]⟩
  case neg =>
    simp only [decide_eq_false f4, Bool.false_and, go_sem, Nat.reduceBEq]
    exact ⟨rfl, x4⟩
  simp only [decide_eq_true f4, Bool.true_and, go_sem, Nat.reduceBEq]
  have lf : decide ((((kid l 2).kids.length : Nat) : Int) = 1) = decide ((kid l 2).kids.length = 1) := decide_eq_decide.2 (by omega)
  simp only [lf, go_sem]
  by_cases f5 : (kid l 2).kids.length = 1
  case neg =>
    simp only [decide_eq_false f5, Bool.false_and, go_sem, Nat.reduceBEq]
    exact ⟨rfl, x4⟩
  simp only [decide_eq_true f5, Bool.true_and, go_sem, Nat.reduceBEq]
  rw [← all_one (f := nBlk sm) f5]
  try simp only [go_sem, Nat.reduceBEq, Nat.reduceAdd, Nat.reduceLeDiff, Nat.reduceEqDiff, Int.reduceEq, not_false_eq_true, Int.reduceToNat]
  have hmj : kid l 2 ∈ l := kid_mem (by omega)
  have hbj := kid_bulk hmj hb
  have hBj := Nd.bulk_eq (kid l 2)
  refine (iBlocks (kid l 2).kids (fun e he => (ih e (by have := hs _ hmj; have := Nd.size_lt he; omega)).2) (by omega) _ _ rdj (hM.ext x4)).mono ?_
  rintro _ gz ⟨rfl, ez⟩
  try simp only [go_sem, Nat.reduceBEq]
  exact ⟨rfl, x4.trans ez⟩
set_option maxHeartbeats 800000 in
theorem iSt_31 (v : Nd) (hbk : v.bulk ≤ 1048576) (ih : ∀ e : Nd, e.size < v.size → IE e ∧ IS e) (hk : v.kind = 31) (sl : Value) (h : Hp) (rd : RdN h v.kids sl) (hM : Mx h) : ACalls Try.prog 29 #[.agg #[.int .i64 v.kind, .int .i64 v.num, .string v.text, sl]] h (Is (.bool (sm v)) h) := by
  have hB := Nd.bulk_eq v
  have hL := Nd.bulks_len v.kids
  obtain ⟨a, c, xs, rfl, hc, hr, hat⟩ := rd.rows (by decide) v.kids.length (fm_len Nd.dt_len _)
  have dl0 : decide (((v.kids.length : Nat) : Int) = 0) = decide (v.kids.length = 0) := decide_eq_decide.2 (by omega)
  have dl1 : decide (((v.kids.length : Nat) : Int) = 1) = decide (v.kids.length = 1) := decide_eq_decide.2 (by omega)
  have dl2 : decide (((v.kids.length : Nat) : Int) = 2) = decide (v.kids.length = 2) := decide_eq_decide.2 (by omega)
  have dl3 : decide (((v.kids.length : Nat) : Int) = 3) = decide (v.kids.length = 3) := decide_eq_decide.2 (by omega)
  have dp : decide ((1 : Int) ≤ ((v.kids.length : Nat) : Int)) = decide (1 ≤ v.kids.length) := decide_eq_decide.2 (by omega)
  have dm : decide (((v.kids.length : Nat) : Int) ≤ 1) = decide (v.kids.length ≤ 1) := decide_eq_decide.2 (by omega)
  have ds : decide (((v.text.size : Nat) : Int) ≤ 400) = decide (v.text.size ≤ 400) := decide_eq_decide.2 (by omega)
  have d23 : decide ((2 : Int) ≤ ((v.kids.length : Nat) : Int) ∧ ((v.kids.length : Nat) : Int) ≤ 3) = decide (2 ≤ v.kids.length ∧ v.kids.length ≤ 3) := decide_eq_decide.2 (by omega)
  have d34 : decide ((3 : Int) ≤ ((v.kids.length : Nat) : Int) ∧ ((v.kids.length : Nat) : Int) ≤ 4) = decide (3 ≤ v.kids.length ∧ v.kids.length ≤ 4) := decide_eq_decide.2 (by omega)
  have d12 : decide ((1 : Int) ≤ ((v.kids.length : Nat) : Int) ∧ ((v.kids.length : Nat) : Int) ≤ 2) = decide (1 ≤ v.kids.length ∧ v.kids.length ≤ 2) := decide_eq_decide.2 (by omega)
  have dk : ∀ n : Int, decide (v.kind = n) = decide ((31 : Int) = n) := fun n => by rw [hk]
  have ex : sm v = (decide (v.num = 0) && (!decide (v.text = ⟨#[]⟩) && (inlB v.text && (decide (v.kids.length = 0))))) := by
    rw [sm_fix]
    unfold stF
    rw [if_pos (by omega)]
  rw [ex]
  (refine enter Try.func29 rfl rfl (by kernel_rfl) [] ?_; simp only [go_sem, Nat.reduceBEq])
  try simp only [dk, dl0, dl1, dl2, dl3, dp, dm, ds, d23, d34, d12, decide_true, decide_false, Bool.true_and, Bool.false_and, Bool.and_true, Bool.and_false, Bool.or_true, Bool.or_false, Bool.true_or, Bool.false_or, Bool.not_true, Bool.not_false, go_sem, Nat.reduceBEq, Nat.reduceAdd, Nat.reduceLeDiff, Nat.reduceEqDiff, Int.reduceEq, not_false_eq_true, Int.reduceToNat]
  by_cases c1 : v.num = 0
  case neg =>
    simp only [decide_eq_false c1, Bool.false_and, Bool.not_false, go_sem, Nat.reduceBEq]
    exact ⟨rfl, Ext.refl _⟩
  simp only [decide_eq_true c1, decide_true, Bool.true_and, Bool.not_true, dk, go_sem, Nat.reduceBEq]
  try simp only [dk, dl0, dl1, dl2, dl3, dp, dm, ds, d23, d34, d12, decide_true, decide_false, Bool.true_and, Bool.false_and, Bool.and_true, Bool.and_false, Bool.or_true, Bool.or_false, Bool.true_or, Bool.false_or, Bool.not_true, Bool.not_false, go_sem, Nat.reduceBEq, Nat.reduceAdd, Nat.reduceLeDiff, Nat.reduceEqDiff, Int.reduceEq, not_false_eq_true, Int.reduceToNat]
  by_cases t0 : v.text = ⟨#[]⟩
  · simp only [decide_eq_true t0, Bool.false_and, Bool.not_true, go_sem, Nat.reduceBEq]
    exact ⟨rfl, Ext.refl _⟩
  simp only [decide_eq_false t0, Bool.true_and, Bool.not_false, go_sem, Nat.reduceBEq]
  try simp only [dk, dl0, dl1, dl2, dl3, dp, dm, ds, d23, d34, d12, decide_true, decide_false, Bool.true_and, Bool.false_and, Bool.and_true, Bool.and_false, Bool.or_true, Bool.or_false, Bool.true_or, Bool.false_or, Bool.not_true, Bool.not_false, go_sem, Nat.reduceBEq, Nat.reduceAdd, Nat.reduceLeDiff, Nat.reduceEqDiff, Int.reduceEq, not_false_eq_true, Int.reduceToNat]
  unfold inlB
  (refine (has_c v.text (by have := text_bulk v; omega) _ hM).mono ?_; rintro _ _ ⟨rfl, rfl⟩; simp only [go_sem, Nat.reduceBEq])
  cases t1 : Lib.contains v.text.data.toList lq.data.toList with
  | true =>
    simp only [Bool.false_and, Bool.not_true, go_sem, Nat.reduceBEq]
    exact ⟨rfl, Ext.refl _⟩
  | false =>
  simp only [Bool.true_and, Bool.not_false, go_sem, Nat.reduceBEq]
  try simp only [dl0, go_sem]
  exact ⟨rfl, Ext.refl _⟩
set_option maxHeartbeats 800000 in
theorem iSt_32 (v : Nd) (hbk : v.bulk ≤ 1048576) (ih : ∀ e : Nd, e.size < v.size → IE e ∧ IS e) (hk : v.kind = 32) (sl : Value) (h : Hp) (rd : RdN h v.kids sl) (hM : Mx h) : ACalls Try.prog 29 #[.agg #[.int .i64 v.kind, .int .i64 v.num, .string v.text, sl]] h (Is (.bool (sm v)) h) := by
  have hB := Nd.bulk_eq v
  have hL := Nd.bulks_len v.kids
  obtain ⟨a, c, xs, rfl, hc, hr, hat⟩ := rd.rows (by decide) v.kids.length (fm_len Nd.dt_len _)
  have dl0 : decide (((v.kids.length : Nat) : Int) = 0) = decide (v.kids.length = 0) := decide_eq_decide.2 (by omega)
  have dl1 : decide (((v.kids.length : Nat) : Int) = 1) = decide (v.kids.length = 1) := decide_eq_decide.2 (by omega)
  have dl2 : decide (((v.kids.length : Nat) : Int) = 2) = decide (v.kids.length = 2) := decide_eq_decide.2 (by omega)
  have dl3 : decide (((v.kids.length : Nat) : Int) = 3) = decide (v.kids.length = 3) := decide_eq_decide.2 (by omega)
  have dp : decide ((1 : Int) ≤ ((v.kids.length : Nat) : Int)) = decide (1 ≤ v.kids.length) := decide_eq_decide.2 (by omega)
  have dm : decide (((v.kids.length : Nat) : Int) ≤ 1) = decide (v.kids.length ≤ 1) := decide_eq_decide.2 (by omega)
  have ds : decide (((v.text.size : Nat) : Int) ≤ 400) = decide (v.text.size ≤ 400) := decide_eq_decide.2 (by omega)
  have d23 : decide ((2 : Int) ≤ ((v.kids.length : Nat) : Int) ∧ ((v.kids.length : Nat) : Int) ≤ 3) = decide (2 ≤ v.kids.length ∧ v.kids.length ≤ 3) := decide_eq_decide.2 (by omega)
  have d34 : decide ((3 : Int) ≤ ((v.kids.length : Nat) : Int) ∧ ((v.kids.length : Nat) : Int) ≤ 4) = decide (3 ≤ v.kids.length ∧ v.kids.length ≤ 4) := decide_eq_decide.2 (by omega)
  have d12 : decide ((1 : Int) ≤ ((v.kids.length : Nat) : Int) ∧ ((v.kids.length : Nat) : Int) ≤ 2) = decide (1 ≤ v.kids.length ∧ v.kids.length ≤ 2) := decide_eq_decide.2 (by omega)
  have dk : ∀ n : Int, decide (v.kind = n) = decide ((32 : Int) = n) := fun n => by rw [hk]
  have ex : sm v = (decide (v.num = 0) && (decide (v.text = ⟨#[]⟩) && (decide (v.kids.length = 1) && (xp (kid v.kids 0))))) := by
    rw [sm_fix]
    unfold stF
    rw [if_neg (by omega), if_pos (by omega)]
  rw [ex]
  (refine enter Try.func29 rfl rfl (by kernel_rfl) [] ?_; simp only [go_sem, Nat.reduceBEq])
  try simp only [dk, dl0, dl1, dl2, dl3, dp, dm, ds, d23, d34, d12, decide_true, decide_false, Bool.true_and, Bool.false_and, Bool.and_true, Bool.and_false, Bool.or_true, Bool.or_false, Bool.true_or, Bool.false_or, Bool.not_true, Bool.not_false, go_sem, Nat.reduceBEq, Nat.reduceAdd, Nat.reduceLeDiff, Nat.reduceEqDiff, Int.reduceEq, not_false_eq_true, Int.reduceToNat]
  by_cases c1 : v.num = 0
  case neg =>
    simp only [decide_eq_false c1, Bool.false_and, Bool.not_false, go_sem, Nat.reduceBEq]
    exact ⟨rfl, Ext.refl _⟩
  simp only [decide_eq_true c1, decide_true, decide_false, Bool.true_and, Bool.not_true, dk, go_sem, Nat.reduceBEq, Int.reduceEq]
  try simp only [dk, dl0, dl1, dl2, dl3, dp, dm, ds, d23, d34, d12, decide_true, decide_false, Bool.true_and, Bool.false_and, Bool.and_true, Bool.and_false, Bool.or_true, Bool.or_false, Bool.true_or, Bool.false_or, Bool.not_true, Bool.not_false, go_sem, Nat.reduceBEq, Nat.reduceAdd, Nat.reduceLeDiff, Nat.reduceEqDiff, Int.reduceEq, not_false_eq_true, Int.reduceToNat]
  by_cases c2 : v.text = ⟨#[]⟩
  case neg =>
    simp only [decide_eq_false c2, Bool.false_and, go_sem, Nat.reduceBEq]
    exact ⟨rfl, Ext.refl _⟩
  simp only [decide_eq_true c2, Bool.true_and, dl1, go_sem, Nat.reduceBEq]
  try simp only [dk, dl0, dl1, dl2, dl3, dp, dm, ds, d23, d34, d12, decide_true, decide_false, Bool.true_and, Bool.false_and, Bool.and_true, Bool.and_false, Bool.or_true, Bool.or_false, Bool.true_or, Bool.false_or, Bool.not_true, Bool.not_false, go_sem, Nat.reduceBEq, Nat.reduceAdd, Nat.reduceLeDiff, Nat.reduceEqDiff, Int.reduceEq, not_false_eq_true, Int.reduceToNat]
  by_cases c3 : v.kids.length = 1
  case neg =>
    simp only [decide_eq_false c3, Bool.false_and, go_sem, Nat.reduceBEq]
    exact ⟨rfl, Ext.refl _⟩
  simp only [decide_eq_true c3, Bool.true_and, go_sem, Nat.reduceBEq]
  try simp only [dk, dl0, dl1, dl2, dl3, dp, dm, ds, d23, d34, d12, decide_true, decide_false, Bool.true_and, Bool.false_and, Bool.and_true, Bool.and_false, Bool.or_true, Bool.or_false, Bool.true_or, Bool.false_or, Bool.not_true, Bool.not_false, go_sem, Nat.reduceBEq, Nat.reduceAdd, Nat.reduceLeDiff, Nat.reduceEqDiff, Int.reduceEq, not_false_eq_true, Int.reduceToNat]
  have kl1 : 0 < v.kids.length := by omega
  obtain ⟨bk1, ok1, ek1, hatk1⟩ := hat (by omega)
  cases ek1
  have ixk1 : ixA (some 4) (some ⟨bk1, ok1, none⟩) v.kids.length (0 : Int) = some (.pointer (some ⟨bk1, ok1 + 0 * 4, none⟩)) := ix_nat (i := 0) kl1
  try simp only [ixk1, go_sem, Nat.reduceBEq]
  refine hsem_node tyS29 hatk1 hr (kid_get kl1) (by omega) fun sk1 rk1 => ?_
  obtain ⟨ak1, ck1, _, rfl, _⟩ := rk1.rows (by decide) (kid v.kids (0)).kids.length (fm_len Nd.dt_len _)
  try simp only [go_sem, Nat.reduceBEq]
  refine ((ih (kid v.kids (0)) (Nd.size_lt (kid_mem kl1))).1 (kid_bulk (kid_mem kl1) (by omega)) _ _ rk1 hM).mono ?_
  rintro _ g4 ⟨rfl, e4⟩
  try simp only [go_sem, Nat.reduceBEq]
  have x4 : Ext h g4 := e4
  exact ⟨rfl, x4⟩
set_option maxHeartbeats 800000 in
theorem iSt_33 (v : Nd) (hbk : v.bulk ≤ 1048576) (ih : ∀ e : Nd, e.size < v.size → IE e ∧ IS e) (hk : v.kind = 33) (sl : Value) (h : Hp) (rd : RdN h v.kids sl) (hM : Mx h) : ACalls Try.prog 29 #[.agg #[.int .i64 v.kind, .int .i64 v.num, .string v.text, sl]] h (Is (.bool (sm v)) h) := by
  have hB := Nd.bulk_eq v
  have hL := Nd.bulks_len v.kids
  obtain ⟨a, c, xs, rfl, hc, hr, hat⟩ := rd.rows (by decide) v.kids.length (fm_len Nd.dt_len _)
  have dl0 : decide (((v.kids.length : Nat) : Int) = 0) = decide (v.kids.length = 0) := decide_eq_decide.2 (by omega)
  have dl1 : decide (((v.kids.length : Nat) : Int) = 1) = decide (v.kids.length = 1) := decide_eq_decide.2 (by omega)
  have dl2 : decide (((v.kids.length : Nat) : Int) = 2) = decide (v.kids.length = 2) := decide_eq_decide.2 (by omega)
  have dl3 : decide (((v.kids.length : Nat) : Int) = 3) = decide (v.kids.length = 3) := decide_eq_decide.2 (by omega)
  have dp : decide ((1 : Int) ≤ ((v.kids.length : Nat) : Int)) = decide (1 ≤ v.kids.length) := decide_eq_decide.2 (by omega)
  have dm : decide (((v.kids.length : Nat) : Int) ≤ 1) = decide (v.kids.length ≤ 1) := decide_eq_decide.2 (by omega)
  have ds : decide (((v.text.size : Nat) : Int) ≤ 400) = decide (v.text.size ≤ 400) := decide_eq_decide.2 (by omega)
  have d23 : decide ((2 : Int) ≤ ((v.kids.length : Nat) : Int) ∧ ((v.kids.length : Nat) : Int) ≤ 3) = decide (2 ≤ v.kids.length ∧ v.kids.length ≤ 3) := decide_eq_decide.2 (by omega)
  have d34 : decide ((3 : Int) ≤ ((v.kids.length : Nat) : Int) ∧ ((v.kids.length : Nat) : Int) ≤ 4) = decide (3 ≤ v.kids.length ∧ v.kids.length ≤ 4) := decide_eq_decide.2 (by omega)
  have d12 : decide ((1 : Int) ≤ ((v.kids.length : Nat) : Int) ∧ ((v.kids.length : Nat) : Int) ≤ 2) = decide (1 ≤ v.kids.length ∧ v.kids.length ≤ 2) := decide_eq_decide.2 (by omega)
  have dk : ∀ n : Int, decide (v.kind = n) = decide ((33 : Int) = n) := fun n => by rw [hk]
  have ex : sm v = (decide (v.num = 0) && (decide (v.text = ⟨#[]⟩) && (decide (v.kids.length = 1) && (xp (kid v.kids 0))))) := by
    rw [sm_fix]
    unfold stF
    rw [if_neg (by omega), if_pos (by omega)]
  rw [ex]
  (refine enter Try.func29 rfl rfl (by kernel_rfl) [] ?_; simp only [go_sem, Nat.reduceBEq])
  try simp only [dk, dl0, dl1, dl2, dl3, dp, dm, ds, d23, d34, d12, decide_true, decide_false, Bool.true_and, Bool.false_and, Bool.and_true, Bool.and_false, Bool.or_true, Bool.or_false, Bool.true_or, Bool.false_or, Bool.not_true, Bool.not_false, go_sem, Nat.reduceBEq, Nat.reduceAdd, Nat.reduceLeDiff, Nat.reduceEqDiff, Int.reduceEq, not_false_eq_true, Int.reduceToNat]
  by_cases c1 : v.num = 0
  case neg =>
    simp only [decide_eq_false c1, Bool.false_and, Bool.not_false, go_sem, Nat.reduceBEq]
    exact ⟨rfl, Ext.refl _⟩
  simp only [decide_eq_true c1, decide_true, decide_false, Bool.true_and, Bool.not_true, dk, go_sem, Nat.reduceBEq, Int.reduceEq]
  try simp only [dk, dl0, dl1, dl2, dl3, dp, dm, ds, d23, d34, d12, decide_true, decide_false, Bool.true_and, Bool.false_and, Bool.and_true, Bool.and_false, Bool.or_true, Bool.or_false, Bool.true_or, Bool.false_or, Bool.not_true, Bool.not_false, go_sem, Nat.reduceBEq, Nat.reduceAdd, Nat.reduceLeDiff, Nat.reduceEqDiff, Int.reduceEq, not_false_eq_true, Int.reduceToNat]
  by_cases c2 : v.text = ⟨#[]⟩
  case neg =>
    simp only [decide_eq_false c2, Bool.false_and, go_sem, Nat.reduceBEq]
    exact ⟨rfl, Ext.refl _⟩
  simp only [decide_eq_true c2, Bool.true_and, dl1, go_sem, Nat.reduceBEq]
  try simp only [dk, dl0, dl1, dl2, dl3, dp, dm, ds, d23, d34, d12, decide_true, decide_false, Bool.true_and, Bool.false_and, Bool.and_true, Bool.and_false, Bool.or_true, Bool.or_false, Bool.true_or, Bool.false_or, Bool.not_true, Bool.not_false, go_sem, Nat.reduceBEq, Nat.reduceAdd, Nat.reduceLeDiff, Nat.reduceEqDiff, Int.reduceEq, not_false_eq_true, Int.reduceToNat]
  by_cases c3 : v.kids.length = 1
  case neg =>
    simp only [decide_eq_false c3, Bool.false_and, go_sem, Nat.reduceBEq]
    exact ⟨rfl, Ext.refl _⟩
  simp only [decide_eq_true c3, Bool.true_and, go_sem, Nat.reduceBEq]
  try simp only [dk, dl0, dl1, dl2, dl3, dp, dm, ds, d23, d34, d12, decide_true, decide_false, Bool.true_and, Bool.false_and, Bool.and_true, Bool.and_false, Bool.or_true, Bool.or_false, Bool.true_or, Bool.false_or, Bool.not_true, Bool.not_false, go_sem, Nat.reduceBEq, Nat.reduceAdd, Nat.reduceLeDiff, Nat.reduceEqDiff, Int.reduceEq, not_false_eq_true, Int.reduceToNat]
  have kl1 : 0 < v.kids.length := by omega
  obtain ⟨bk1, ok1, ek1, hatk1⟩ := hat (by omega)
  cases ek1
  have ixk1 : ixA (some 4) (some ⟨bk1, ok1, none⟩) v.kids.length (0 : Int) = some (.pointer (some ⟨bk1, ok1 + 0 * 4, none⟩)) := ix_nat (i := 0) kl1
  try simp only [ixk1, go_sem, Nat.reduceBEq]
  refine hsem_node tyS29 hatk1 hr (kid_get kl1) (by omega) fun sk1 rk1 => ?_
  obtain ⟨ak1, ck1, _, rfl, _⟩ := rk1.rows (by decide) (kid v.kids (0)).kids.length (fm_len Nd.dt_len _)
  try simp only [go_sem, Nat.reduceBEq]
  refine ((ih (kid v.kids (0)) (Nd.size_lt (kid_mem kl1))).1 (kid_bulk (kid_mem kl1) (by omega)) _ _ rk1 hM).mono ?_
  rintro _ g4 ⟨rfl, e4⟩
  try simp only [go_sem, Nat.reduceBEq]
  have x4 : Ext h g4 := e4
  exact ⟨rfl, x4⟩
set_option maxHeartbeats 800000 in
theorem iSt_42 (v : Nd) (hbk : v.bulk ≤ 1048576) (ih : ∀ e : Nd, e.size < v.size → IE e ∧ IS e) (hk : v.kind = 42) (sl : Value) (h : Hp) (rd : RdN h v.kids sl) (hM : Mx h) : ACalls Try.prog 29 #[.agg #[.int .i64 v.kind, .int .i64 v.num, .string v.text, sl]] h (Is (.bool (sm v)) h) := by
  have hB := Nd.bulk_eq v
  have hL := Nd.bulks_len v.kids
  obtain ⟨a, c, xs, rfl, hc, hr, hat⟩ := rd.rows (by decide) v.kids.length (fm_len Nd.dt_len _)
  have dl0 : decide (((v.kids.length : Nat) : Int) = 0) = decide (v.kids.length = 0) := decide_eq_decide.2 (by omega)
  have dl1 : decide (((v.kids.length : Nat) : Int) = 1) = decide (v.kids.length = 1) := decide_eq_decide.2 (by omega)
  have dl2 : decide (((v.kids.length : Nat) : Int) = 2) = decide (v.kids.length = 2) := decide_eq_decide.2 (by omega)
  have dl3 : decide (((v.kids.length : Nat) : Int) = 3) = decide (v.kids.length = 3) := decide_eq_decide.2 (by omega)
  have dp : decide ((1 : Int) ≤ ((v.kids.length : Nat) : Int)) = decide (1 ≤ v.kids.length) := decide_eq_decide.2 (by omega)
  have dm : decide (((v.kids.length : Nat) : Int) ≤ 1) = decide (v.kids.length ≤ 1) := decide_eq_decide.2 (by omega)
  have ds : decide (((v.text.size : Nat) : Int) ≤ 400) = decide (v.text.size ≤ 400) := decide_eq_decide.2 (by omega)
  have d23 : decide ((2 : Int) ≤ ((v.kids.length : Nat) : Int) ∧ ((v.kids.length : Nat) : Int) ≤ 3) = decide (2 ≤ v.kids.length ∧ v.kids.length ≤ 3) := decide_eq_decide.2 (by omega)
  have d34 : decide ((3 : Int) ≤ ((v.kids.length : Nat) : Int) ∧ ((v.kids.length : Nat) : Int) ≤ 4) = decide (3 ≤ v.kids.length ∧ v.kids.length ≤ 4) := decide_eq_decide.2 (by omega)
  have d12 : decide ((1 : Int) ≤ ((v.kids.length : Nat) : Int) ∧ ((v.kids.length : Nat) : Int) ≤ 2) = decide (1 ≤ v.kids.length ∧ v.kids.length ≤ 2) := decide_eq_decide.2 (by omega)
  have dk : ∀ n : Int, decide (v.kind = n) = decide ((42 : Int) = n) := fun n => by rw [hk]
  have ex : sm v = (decide (v.num = 0) && (decide (v.text = ⟨#[]⟩) && (decide (v.kids.length = 1) && (xp (kid v.kids 0))))) := by
    rw [sm_fix]
    unfold stF
    rw [if_neg (by omega), if_pos (by omega)]
  rw [ex]
  (refine enter Try.func29 rfl rfl (by kernel_rfl) [] ?_; simp only [go_sem, Nat.reduceBEq])
  try simp only [dk, dl0, dl1, dl2, dl3, dp, dm, ds, d23, d34, d12, decide_true, decide_false, Bool.true_and, Bool.false_and, Bool.and_true, Bool.and_false, Bool.or_true, Bool.or_false, Bool.true_or, Bool.false_or, Bool.not_true, Bool.not_false, go_sem, Nat.reduceBEq, Nat.reduceAdd, Nat.reduceLeDiff, Nat.reduceEqDiff, Int.reduceEq, not_false_eq_true, Int.reduceToNat]
  by_cases c1 : v.num = 0
  case neg =>
    simp only [decide_eq_false c1, Bool.false_and, Bool.not_false, go_sem, Nat.reduceBEq]
    exact ⟨rfl, Ext.refl _⟩
  simp only [decide_eq_true c1, decide_true, decide_false, Bool.true_and, Bool.not_true, dk, go_sem, Nat.reduceBEq, Int.reduceEq]
  try simp only [dk, dl0, dl1, dl2, dl3, dp, dm, ds, d23, d34, d12, decide_true, decide_false, Bool.true_and, Bool.false_and, Bool.and_true, Bool.and_false, Bool.or_true, Bool.or_false, Bool.true_or, Bool.false_or, Bool.not_true, Bool.not_false, go_sem, Nat.reduceBEq, Nat.reduceAdd, Nat.reduceLeDiff, Nat.reduceEqDiff, Int.reduceEq, not_false_eq_true, Int.reduceToNat]
  by_cases c2 : v.text = ⟨#[]⟩
  case neg =>
    simp only [decide_eq_false c2, Bool.false_and, go_sem, Nat.reduceBEq]
    exact ⟨rfl, Ext.refl _⟩
  simp only [decide_eq_true c2, Bool.true_and, dl1, go_sem, Nat.reduceBEq]
  try simp only [dk, dl0, dl1, dl2, dl3, dp, dm, ds, d23, d34, d12, decide_true, decide_false, Bool.true_and, Bool.false_and, Bool.and_true, Bool.and_false, Bool.or_true, Bool.or_false, Bool.true_or, Bool.false_or, Bool.not_true, Bool.not_false, go_sem, Nat.reduceBEq, Nat.reduceAdd, Nat.reduceLeDiff, Nat.reduceEqDiff, Int.reduceEq, not_false_eq_true, Int.reduceToNat]
  by_cases c3 : v.kids.length = 1
  case neg =>
    simp only [decide_eq_false c3, Bool.false_and, go_sem, Nat.reduceBEq]
    exact ⟨rfl, Ext.refl _⟩
  simp only [decide_eq_true c3, Bool.true_and, go_sem, Nat.reduceBEq]
  try simp only [dk, dl0, dl1, dl2, dl3, dp, dm, ds, d23, d34, d12, decide_true, decide_false, Bool.true_and, Bool.false_and, Bool.and_true, Bool.and_false, Bool.or_true, Bool.or_false, Bool.true_or, Bool.false_or, Bool.not_true, Bool.not_false, go_sem, Nat.reduceBEq, Nat.reduceAdd, Nat.reduceLeDiff, Nat.reduceEqDiff, Int.reduceEq, not_false_eq_true, Int.reduceToNat]
  have kl1 : 0 < v.kids.length := by omega
  obtain ⟨bk1, ok1, ek1, hatk1⟩ := hat (by omega)
  cases ek1
  have ixk1 : ixA (some 4) (some ⟨bk1, ok1, none⟩) v.kids.length (0 : Int) = some (.pointer (some ⟨bk1, ok1 + 0 * 4, none⟩)) := ix_nat (i := 0) kl1
  try simp only [ixk1, go_sem, Nat.reduceBEq]
  refine hsem_node tyS29 hatk1 hr (kid_get kl1) (by omega) fun sk1 rk1 => ?_
  obtain ⟨ak1, ck1, _, rfl, _⟩ := rk1.rows (by decide) (kid v.kids (0)).kids.length (fm_len Nd.dt_len _)
  try simp only [go_sem, Nat.reduceBEq]
  refine ((ih (kid v.kids (0)) (Nd.size_lt (kid_mem kl1))).1 (kid_bulk (kid_mem kl1) (by omega)) _ _ rk1 hM).mono ?_
  rintro _ g4 ⟨rfl, e4⟩
  try simp only [go_sem, Nat.reduceBEq]
  have x4 : Ext h g4 := e4
  exact ⟨rfl, x4⟩
set_option maxHeartbeats 800000 in
theorem iSt_34 (v : Nd) (hbk : v.bulk ≤ 1048576) (ih : ∀ e : Nd, e.size < v.size → IE e ∧ IS e) (hk : v.kind = 34) (sl : Value) (h : Hp) (rd : RdN h v.kids sl) (hM : Mx h) : ACalls Try.prog 29 #[.agg #[.int .i64 v.kind, .int .i64 v.num, .string v.text, sl]] h (Is (.bool (sm v)) h) := by
  have hB := Nd.bulk_eq v
  have hL := Nd.bulks_len v.kids
  obtain ⟨a, c, xs, rfl, hc, hr, hat⟩ := rd.rows (by decide) v.kids.length (fm_len Nd.dt_len _)
  have dl0 : decide (((v.kids.length : Nat) : Int) = 0) = decide (v.kids.length = 0) := decide_eq_decide.2 (by omega)
  have dl1 : decide (((v.kids.length : Nat) : Int) = 1) = decide (v.kids.length = 1) := decide_eq_decide.2 (by omega)
  have dl2 : decide (((v.kids.length : Nat) : Int) = 2) = decide (v.kids.length = 2) := decide_eq_decide.2 (by omega)
  have dl3 : decide (((v.kids.length : Nat) : Int) = 3) = decide (v.kids.length = 3) := decide_eq_decide.2 (by omega)
  have dp : decide ((1 : Int) ≤ ((v.kids.length : Nat) : Int)) = decide (1 ≤ v.kids.length) := decide_eq_decide.2 (by omega)
  have dm : decide (((v.kids.length : Nat) : Int) ≤ 1) = decide (v.kids.length ≤ 1) := decide_eq_decide.2 (by omega)
  have ds : decide (((v.text.size : Nat) : Int) ≤ 400) = decide (v.text.size ≤ 400) := decide_eq_decide.2 (by omega)
  have d23 : decide ((2 : Int) ≤ ((v.kids.length : Nat) : Int) ∧ ((v.kids.length : Nat) : Int) ≤ 3) = decide (2 ≤ v.kids.length ∧ v.kids.length ≤ 3) := decide_eq_decide.2 (by omega)
  have d34 : decide ((3 : Int) ≤ ((v.kids.length : Nat) : Int) ∧ ((v.kids.length : Nat) : Int) ≤ 4) = decide (3 ≤ v.kids.length ∧ v.kids.length ≤ 4) := decide_eq_decide.2 (by omega)
  have d12 : decide ((1 : Int) ≤ ((v.kids.length : Nat) : Int) ∧ ((v.kids.length : Nat) : Int) ≤ 2) = decide (1 ≤ v.kids.length ∧ v.kids.length ≤ 2) := decide_eq_decide.2 (by omega)
  have dk : ∀ n : Int, decide (v.kind = n) = decide ((34 : Int) = n) := fun n => by rw [hk]
  have ex : sm v = (decide (v.num = 0) && (decide (v.text = ⟨#[]⟩) && (decide (2 ≤ v.kids.length ∧ v.kids.length ≤ 3) && (xp (kid v.kids 0) && (nBlk sm (kid v.kids 1) && (nBlk sm (kid v.kids (v.kids.length - 1)))))))) := by
    rw [sm_fix]
    unfold stF
    rw [if_neg (by omega), if_neg (by omega), if_pos (by omega)]
  rw [ex]
  (refine enter Try.func29 rfl rfl (by kernel_rfl) [] ?_; simp only [go_sem, Nat.reduceBEq])
  try simp only [dk, dl0, dl1, dl2, dl3, dp, dm, ds, d23, d34, d12, decide_true, decide_false, Bool.true_and, Bool.false_and, Bool.and_true, Bool.and_false, Bool.or_true, Bool.or_false, Bool.true_or, Bool.false_or, Bool.not_true, Bool.not_false, go_sem, Nat.reduceBEq, Nat.reduceAdd, Nat.reduceLeDiff, Nat.reduceEqDiff, Int.reduceEq, not_false_eq_true, Int.reduceToNat]
  by_cases c1 : v.num = 0
  case neg =>
    simp only [decide_eq_false c1, Bool.false_and, Bool.not_false, go_sem, Nat.reduceBEq]
    exact ⟨rfl, Ext.refl _⟩
  simp only [decide_eq_true c1, decide_true, decide_false, Bool.true_and, Bool.not_true, dk, go_sem, Nat.reduceBEq, Int.reduceEq]
  try simp only [dk, dl0, dl1, dl2, dl3, dp, dm, ds, d23, d34, d12, decide_true, decide_false, Bool.true_and, Bool.false_and, Bool.and_true, Bool.and_false, Bool.or_true, Bool.or_false, Bool.true_or, Bool.false_or, Bool.not_true, Bool.not_false, go_sem, Nat.reduceBEq, Nat.reduceAdd, Nat.reduceLeDiff, Nat.reduceEqDiff, Int.reduceEq, not_false_eq_true, Int.reduceToNat]
  by_cases c2 : v.text = ⟨#[]⟩
  case neg =>
    simp only [decide_eq_false c2, Bool.false_and, go_sem, Nat.reduceBEq]
    exact ⟨rfl, Ext.refl _⟩
  simp only [decide_eq_true c2, Bool.true_and, go_sem, Nat.reduceBEq]
  try simp only [dk, dl0, dl1, dl2, dl3, dp, dm, ds, d23, d34, d12, decide_true, decide_false, Bool.true_and, Bool.false_and, Bool.and_true, Bool.and_false, Bool.or_true, Bool.or_false, Bool.true_or, Bool.false_or, Bool.not_true, Bool.not_false, go_sem, Nat.reduceBEq, Nat.reduceAdd, Nat.reduceLeDiff, Nat.reduceEqDiff, Int.reduceEq, not_false_eq_true, Int.reduceToNat]
  (refine (iInRange _ _ _ _).mono ?_; rintro _ _ ⟨rfl, rfl⟩; simp only [go_sem, Nat.reduceBEq])
  try simp only [d23, go_sem]
  by_cases c3 : 2 ≤ v.kids.length ∧ v.kids.length ≤ 3
  case neg =>
    simp only [decide_eq_false c3, Bool.false_and, go_sem, Nat.reduceBEq]
    exact ⟨rfl, Ext.refl _⟩
  simp only [decide_eq_true c3, Bool.true_and, go_sem, Nat.reduceBEq]
  try simp only [dk, dl0, dl1, dl2, dl3, dp, dm, ds, d23, d34, d12, decide_true, decide_false, Bool.true_and, Bool.false_and, Bool.and_true, Bool.and_false, Bool.or_true, Bool.or_false, Bool.true_or, Bool.false_or, Bool.not_true, Bool.not_false, go_sem, Nat.reduceBEq, Nat.reduceAdd, Nat.reduceLeDiff, Nat.reduceEqDiff, Int.reduceEq, not_false_eq_true, Int.reduceToNat]
  have kl1 : 0 < v.kids.length := by omega
  obtain ⟨bk1, ok1, ek1, hatk1⟩ := hat (by omega)
  cases ek1
  have ixk1 : ixA (some 4) (some ⟨bk1, ok1, none⟩) v.kids.length (0 : Int) = some (.pointer (some ⟨bk1, ok1 + 0 * 4, none⟩)) := ix_nat (i := 0) kl1
  try simp only [ixk1, go_sem, Nat.reduceBEq]
  refine hsem_node tyS29 hatk1 hr (kid_get kl1) (by omega) fun sk1 rk1 => ?_
  obtain ⟨ak1, ck1, _, rfl, _⟩ := rk1.rows (by decide) (kid v.kids (0)).kids.length (fm_len Nd.dt_len _)
  try simp only [go_sem, Nat.reduceBEq]
  obtain ⟨aS, ys, es, rs, rl⟩ := Rd.sub Nd.dt_len rd 1 v.kids.length (by omega) (Nat.le_refl _)
  have rps : RdN h (v.kids.drop 1) (.slice aS (v.kids.length - 1) (c - 1)) := by
    simp only [Rd]
    exact ⟨_, rs, by rw [drop_take] at rl; exact rl⟩
  have es : slA (some 4) (some ⟨bk1, ok1, none⟩) v.kids.length c (1 : Int) ((v.kids.length : Nat) : Int) = some (.slice aS (v.kids.length - 1) (c - 1)) := es
  refine ((ih (kid v.kids (0)) (Nd.size_lt (kid_mem kl1))).1 (kid_bulk (kid_mem kl1) (by omega)) _ _ rk1 hM).mono ?_
  rintro _ g4 ⟨rfl, e4⟩
  try simp only [go_sem, Nat.reduceBEq]
  have x4 : Ext h g4 := e4
  cases c4 : xp (kid v.kids 0) with
  | false =>
    simp only [Bool.false_and, go_sem, Nat.reduceBEq]
    exact ⟨rfl, x4⟩
  | true =>
  simp only [Bool.true_and, es, go_sem, Nat.reduceBEq]
  try simp only [dk, dl0, dl1, dl2, dl3, dp, dm, ds, d23, d34, d12, es, decide_true, decide_false, Bool.true_and, Bool.false_and, Bool.and_true, Bool.and_false, Bool.or_true, Bool.or_false, Bool.true_or, Bool.false_or, Bool.not_true, Bool.not_false, go_sem, Nat.reduceBEq, Nat.reduceAdd, Nat.reduceLeDiff, Nat.reduceEqDiff, Int.reduceEq, not_false_eq_true, Int.reduceToNat]
  rw [← drop1_all (B := nBlk sm) c3]
  refine (iBlocks (v.kids.drop 1) (fun e he => (ih e (Nd.size_lt (List.mem_of_mem_drop he))).2) (by have := drop_bulks v.kids 1; omega) _ _ (rps.mono x4) (hM.ext x4)).mono ?_
  rintro _ gq ⟨rfl, eq⟩
  try simp only [go_sem, Nat.reduceBEq]
  exact ⟨rfl, (x4.trans eq)⟩
set_option maxHeartbeats 800000 in
theorem iSt_35 (v : Nd) (hbk : v.bulk ≤ 1048576) (ih : ∀ e : Nd, e.size < v.size → IE e ∧ IS e) (hk : v.kind = 35) (sl : Value) (h : Hp) (rd : RdN h v.kids sl) (hM : Mx h) : ACalls Try.prog 29 #[.agg #[.int .i64 v.kind, .int .i64 v.num, .string v.text, sl]] h (Is (.bool (sm v)) h) := by
  have hB := Nd.bulk_eq v
  have hL := Nd.bulks_len v.kids
  obtain ⟨a, c, xs, rfl, hc, hr, hat⟩ := rd.rows (by decide) v.kids.length (fm_len Nd.dt_len _)
  have dl0 : decide (((v.kids.length : Nat) : Int) = 0) = decide (v.kids.length = 0) := decide_eq_decide.2 (by omega)
  have dl1 : decide (((v.kids.length : Nat) : Int) = 1) = decide (v.kids.length = 1) := decide_eq_decide.2 (by omega)
  have dl2 : decide (((v.kids.length : Nat) : Int) = 2) = decide (v.kids.length = 2) := decide_eq_decide.2 (by omega)
  have dl3 : decide (((v.kids.length : Nat) : Int) = 3) = decide (v.kids.length = 3) := decide_eq_decide.2 (by omega)
  have dp : decide ((1 : Int) ≤ ((v.kids.length : Nat) : Int)) = decide (1 ≤ v.kids.length) := decide_eq_decide.2 (by omega)
  have dm : decide (((v.kids.length : Nat) : Int) ≤ 1) = decide (v.kids.length ≤ 1) := decide_eq_decide.2 (by omega)
  have ds : decide (((v.text.size : Nat) : Int) ≤ 400) = decide (v.text.size ≤ 400) := decide_eq_decide.2 (by omega)
  have d23 : decide ((2 : Int) ≤ ((v.kids.length : Nat) : Int) ∧ ((v.kids.length : Nat) : Int) ≤ 3) = decide (2 ≤ v.kids.length ∧ v.kids.length ≤ 3) := decide_eq_decide.2 (by omega)
  have d34 : decide ((3 : Int) ≤ ((v.kids.length : Nat) : Int) ∧ ((v.kids.length : Nat) : Int) ≤ 4) = decide (3 ≤ v.kids.length ∧ v.kids.length ≤ 4) := decide_eq_decide.2 (by omega)
  have d12 : decide ((1 : Int) ≤ ((v.kids.length : Nat) : Int) ∧ ((v.kids.length : Nat) : Int) ≤ 2) = decide (1 ≤ v.kids.length ∧ v.kids.length ≤ 2) := decide_eq_decide.2 (by omega)
  have dk : ∀ n : Int, decide (v.kind = n) = decide ((35 : Int) = n) := fun n => by rw [hk]
  have ex : sm v = (decide (v.num = 0) && (decide (v.text = ⟨#[]⟩) && (decide (v.kids.length = 2) && (xp (kid v.kids 0) && (nBlk sm (kid v.kids 1)))))) := by
    rw [sm_fix]
    unfold stF
    rw [if_neg (by omega), if_neg (by omega), if_neg (by omega), if_pos (by omega)]
  rw [ex]
  (refine enter Try.func29 rfl rfl (by kernel_rfl) [] ?_; simp only [go_sem, Nat.reduceBEq])
  try simp only [dk, dl0, dl1, dl2, dl3, dp, dm, ds, d23, d34, d12, decide_true, decide_false, Bool.true_and, Bool.false_and, Bool.and_true, Bool.and_false, Bool.or_true, Bool.or_false, Bool.true_or, Bool.false_or, Bool.not_true, Bool.not_false, go_sem, Nat.reduceBEq, Nat.reduceAdd, Nat.reduceLeDiff, Nat.reduceEqDiff, Int.reduceEq, not_false_eq_true, Int.reduceToNat]
  by_cases c1 : v.num = 0
  case neg =>
    simp only [decide_eq_false c1, Bool.false_and, Bool.not_false, go_sem, Nat.reduceBEq]
    exact ⟨rfl, Ext.refl _⟩
  simp only [decide_eq_true c1, decide_true, decide_false, Bool.true_and, Bool.not_true, dk, go_sem, Nat.reduceBEq, Int.reduceEq]
  try simp only [dk, dl0, dl1, dl2, dl3, dp, dm, ds, d23, d34, d12, decide_true, decide_false, Bool.true_and, Bool.false_and, Bool.and_true, Bool.and_false, Bool.or_true, Bool.or_false, Bool.true_or, Bool.false_or, Bool.not_true, Bool.not_false, go_sem, Nat.reduceBEq, Nat.reduceAdd, Nat.reduceLeDiff, Nat.reduceEqDiff, Int.reduceEq, not_false_eq_true, Int.reduceToNat]
  by_cases c2 : v.text = ⟨#[]⟩
  case neg =>
    simp only [decide_eq_false c2, Bool.false_and, go_sem, Nat.reduceBEq]
    exact ⟨rfl, Ext.refl _⟩
  simp only [decide_eq_true c2, Bool.true_and, dl2, go_sem, Nat.reduceBEq]
  try simp only [dk, dl0, dl1, dl2, dl3, dp, dm, ds, d23, d34, d12, decide_true, decide_false, Bool.true_and, Bool.false_and, Bool.and_true, Bool.and_false, Bool.or_true, Bool.or_false, Bool.true_or, Bool.false_or, Bool.not_true, Bool.not_false, go_sem, Nat.reduceBEq, Nat.reduceAdd, Nat.reduceLeDiff, Nat.reduceEqDiff, Int.reduceEq, not_false_eq_true, Int.reduceToNat]
  by_cases c3 : v.kids.length = 2
  case neg =>
    simp only [decide_eq_false c3, Bool.false_and, go_sem, Nat.reduceBEq]
    exact ⟨rfl, Ext.refl _⟩
  simp only [decide_eq_true c3, Bool.true_and, go_sem, Nat.reduceBEq]
  try simp only [dk, dl0, dl1, dl2, dl3, dp, dm, ds, d23, d34, d12, decide_true, decide_false, Bool.true_and, Bool.false_and, Bool.and_true, Bool.and_false, Bool.or_true, Bool.or_false, Bool.true_or, Bool.false_or, Bool.not_true, Bool.not_false, go_sem, Nat.reduceBEq, Nat.reduceAdd, Nat.reduceLeDiff, Nat.reduceEqDiff, Int.reduceEq, not_false_eq_true, Int.reduceToNat]
  have kl1 : 0 < v.kids.length := by omega
  obtain ⟨bk1, ok1, ek1, hatk1⟩ := hat (by omega)
  cases ek1
  have ixk1 : ixA (some 4) (some ⟨bk1, ok1, none⟩) v.kids.length (0 : Int) = some (.pointer (some ⟨bk1, ok1 + 0 * 4, none⟩)) := ix_nat (i := 0) kl1
  try simp only [ixk1, go_sem, Nat.reduceBEq]
  refine hsem_node tyS29 hatk1 hr (kid_get kl1) (by omega) fun sk1 rk1 => ?_
  obtain ⟨ak1, ck1, _, rfl, _⟩ := rk1.rows (by decide) (kid v.kids (0)).kids.length (fm_len Nd.dt_len _)
  try simp only [go_sem, Nat.reduceBEq]
  obtain ⟨aS, ys, es, rs, rl⟩ := Rd.sub Nd.dt_len rd 1 v.kids.length (by omega) (Nat.le_refl _)
  have rps : RdN h (v.kids.drop 1) (.slice aS (v.kids.length - 1) (c - 1)) := by
    simp only [Rd]
    exact ⟨_, rs, by rw [drop_take] at rl; exact rl⟩
  have es : slA (some 4) (some ⟨bk1, ok1, none⟩) v.kids.length c (1 : Int) ((v.kids.length : Nat) : Int) = some (.slice aS (v.kids.length - 1) (c - 1)) := es
  refine ((ih (kid v.kids (0)) (Nd.size_lt (kid_mem kl1))).1 (kid_bulk (kid_mem kl1) (by omega)) _ _ rk1 hM).mono ?_
  rintro _ g4 ⟨rfl, e4⟩
  try simp only [go_sem, Nat.reduceBEq]
  have x4 : Ext h g4 := e4
  cases c4 : xp (kid v.kids 0) with
  | false =>
    simp only [Bool.false_and, go_sem, Nat.reduceBEq]
    exact ⟨rfl, x4⟩
  | true =>
  simp only [Bool.true_and, es, go_sem, Nat.reduceBEq]
  try simp only [dk, dl0, dl1, dl2, dl3, dp, dm, ds, d23, d34, d12, es, decide_true, decide_false, Bool.true_and, Bool.false_and, Bool.and_true, Bool.and_false, Bool.or_true, Bool.or_false, Bool.true_or, Bool.false_or, Bool.not_true, Bool.not_false, go_sem, Nat.reduceBEq, Nat.reduceAdd, Nat.reduceLeDiff, Nat.reduceEqDiff, Int.reduceEq, not_false_eq_true, Int.reduceToNat]
  rw [← drop_last (B := nBlk sm) (l := v.kids) (i := 1) c3]
  refine (iBlocks (v.kids.drop 1) (fun e he => (ih e (Nd.size_lt (List.mem_of_mem_drop he))).2) (by have := drop_bulks v.kids 1; omega) _ _ (rps.mono x4) (hM.ext x4)).mono ?_
  rintro _ gq ⟨rfl, eq⟩
  try simp only [go_sem, Nat.reduceBEq]
  exact ⟨rfl, (x4.trans eq)⟩
set_option maxHeartbeats 800000 in
theorem iSt_36 (v : Nd) (hbk : v.bulk ≤ 1048576) (ih : ∀ e : Nd, e.size < v.size → IE e ∧ IS e) (hk : v.kind = 36) (sl : Value) (h : Hp) (rd : RdN h v.kids sl) (hM : Mx h) : ACalls Try.prog 29 #[.agg #[.int .i64 v.kind, .int .i64 v.num, .string v.text, sl]] h (Is (.bool (sm v)) h) := by
  have hB := Nd.bulk_eq v
  have hL := Nd.bulks_len v.kids
  obtain ⟨a, c, xs, rfl, hc, hr, hat⟩ := rd.rows (by decide) v.kids.length (fm_len Nd.dt_len _)
  have dl0 : decide (((v.kids.length : Nat) : Int) = 0) = decide (v.kids.length = 0) := decide_eq_decide.2 (by omega)
  have dl1 : decide (((v.kids.length : Nat) : Int) = 1) = decide (v.kids.length = 1) := decide_eq_decide.2 (by omega)
  have dl2 : decide (((v.kids.length : Nat) : Int) = 2) = decide (v.kids.length = 2) := decide_eq_decide.2 (by omega)
  have dl3 : decide (((v.kids.length : Nat) : Int) = 3) = decide (v.kids.length = 3) := decide_eq_decide.2 (by omega)
  have dp : decide ((1 : Int) ≤ ((v.kids.length : Nat) : Int)) = decide (1 ≤ v.kids.length) := decide_eq_decide.2 (by omega)
  have dm : decide (((v.kids.length : Nat) : Int) ≤ 1) = decide (v.kids.length ≤ 1) := decide_eq_decide.2 (by omega)
  have ds : decide (((v.text.size : Nat) : Int) ≤ 400) = decide (v.text.size ≤ 400) := decide_eq_decide.2 (by omega)
  have d23 : decide ((2 : Int) ≤ ((v.kids.length : Nat) : Int) ∧ ((v.kids.length : Nat) : Int) ≤ 3) = decide (2 ≤ v.kids.length ∧ v.kids.length ≤ 3) := decide_eq_decide.2 (by omega)
  have d34 : decide ((3 : Int) ≤ ((v.kids.length : Nat) : Int) ∧ ((v.kids.length : Nat) : Int) ≤ 4) = decide (3 ≤ v.kids.length ∧ v.kids.length ≤ 4) := decide_eq_decide.2 (by omega)
  have d12 : decide ((1 : Int) ≤ ((v.kids.length : Nat) : Int) ∧ ((v.kids.length : Nat) : Int) ≤ 2) = decide (1 ≤ v.kids.length ∧ v.kids.length ≤ 2) := decide_eq_decide.2 (by omega)
  have dk : ∀ n : Int, decide (v.kind = n) = decide ((36 : Int) = n) := fun n => by rw [hk]
  have ex : sm v = (decide (v.num = 0) && (decide (v.text = ⟨#[]⟩) && (decide (3 ≤ v.kids.length ∧ v.kids.length ≤ 4) && (xp (kid v.kids 0) && (nVar nmB (kid v.kids 1) && (nVar nmB (kid v.kids (v.kids.length - 2)) && nBlk sm (kid v.kids (v.kids.length - 1)))))))) := by
    rw [sm_fix]
    unfold stF
    rw [if_neg (by omega), if_neg (by omega), if_neg (by omega), if_neg (by omega), if_pos (by omega)]
  rw [ex]
  (refine enter Try.func29 rfl rfl (by kernel_rfl) [] ?_; simp only [go_sem, Nat.reduceBEq])
  try simp only [dk, dl0, dl1, dl2, dl3, dp, dm, ds, d23, d34, d12, decide_true, decide_false, Bool.true_and, Bool.false_and, Bool.and_true, Bool.and_false, Bool.or_true, Bool.or_false, Bool.true_or, Bool.false_or, Bool.not_true, Bool.not_false, go_sem, Nat.reduceBEq, Nat.reduceAdd, Nat.reduceLeDiff, Nat.reduceEqDiff, Int.reduceEq, not_false_eq_true, Int.reduceToNat]
  by_cases c1 : v.num = 0
  case neg =>
    simp only [decide_eq_false c1, Bool.false_and, Bool.not_false, go_sem, Nat.reduceBEq]
    exact ⟨rfl, Ext.refl _⟩
  simp only [decide_eq_true c1, decide_true, decide_false, Bool.true_and, Bool.not_true, dk, go_sem, Nat.reduceBEq, Int.reduceEq]
  try simp only [dk, dl0, dl1, dl2, dl3, dp, dm, ds, d23, d34, d12, decide_true, decide_false, Bool.true_and, Bool.false_and, Bool.and_true, Bool.and_false, Bool.or_true, Bool.or_false, Bool.true_or, Bool.false_or, Bool.not_true, Bool.not_false, go_sem, Nat.reduceBEq, Nat.reduceAdd, Nat.reduceLeDiff, Nat.reduceEqDiff, Int.reduceEq, not_false_eq_true, Int.reduceToNat]
  by_cases c2 : v.text = ⟨#[]⟩
  case neg =>
    simp only [decide_eq_false c2, Bool.false_and, go_sem, Nat.reduceBEq]
    exact ⟨rfl, Ext.refl _⟩
  simp only [decide_eq_true c2, Bool.true_and, go_sem, Nat.reduceBEq]
  try simp only [dk, dl0, dl1, dl2, dl3, dp, dm, ds, d23, d34, d12, decide_true, decide_false, Bool.true_and, Bool.false_and, Bool.and_true, Bool.and_false, Bool.or_true, Bool.or_false, Bool.true_or, Bool.false_or, Bool.not_true, Bool.not_false, go_sem, Nat.reduceBEq, Nat.reduceAdd, Nat.reduceLeDiff, Nat.reduceEqDiff, Int.reduceEq, not_false_eq_true, Int.reduceToNat]
  (refine (iInRange _ _ _ _).mono ?_; rintro _ _ ⟨rfl, rfl⟩; simp only [go_sem, Nat.reduceBEq])
  try simp only [d34, go_sem]
  by_cases c3 : 3 ≤ v.kids.length ∧ v.kids.length ≤ 4
  case neg =>
    simp only [decide_eq_false c3, Bool.false_and, go_sem, Nat.reduceBEq]
    exact ⟨rfl, Ext.refl _⟩
  simp only [decide_eq_true c3, Bool.true_and, go_sem, Nat.reduceBEq]
  try simp only [dk, dl0, dl1, dl2, dl3, dp, dm, ds, d23, d34, d12, decide_true, decide_false, Bool.true_and, Bool.false_and, Bool.and_true, Bool.and_false, Bool.or_true, Bool.or_false, Bool.true_or, Bool.false_or, Bool.not_true, Bool.not_false, go_sem, Nat.reduceBEq, Nat.reduceAdd, Nat.reduceLeDiff, Nat.reduceEqDiff, Int.reduceEq, not_false_eq_true, Int.reduceToNat]
  have kl1 : 0 < v.kids.length := by omega
  obtain ⟨bk1, ok1, ek1, hatk1⟩ := hat (by omega)
  cases ek1
  have ixk1 : ixA (some 4) (some ⟨bk1, ok1, none⟩) v.kids.length (0 : Int) = some (.pointer (some ⟨bk1, ok1 + 0 * 4, none⟩)) := ix_nat (i := 0) kl1
  try simp only [ixk1, go_sem, Nat.reduceBEq]
  refine hsem_node tyS29 hatk1 hr (kid_get kl1) (by omega) fun sk1 rk1 => ?_
  obtain ⟨ak1, ck1, _, rfl, _⟩ := rk1.rows (by decide) (kid v.kids (0)).kids.length (fm_len Nd.dt_len _)
  try simp only [go_sem, Nat.reduceBEq]
  refine ((ih (kid v.kids (0)) (Nd.size_lt (kid_mem kl1))).1 (kid_bulk (kid_mem kl1) (by omega)) _ _ rk1 hM).mono ?_
  rintro _ g4 ⟨rfl, e4⟩
  try simp only [go_sem, Nat.reduceBEq]
  have x4 : Ext h g4 := e4
  cases c4 : xp (kid v.kids 0) with
  | false =>
    simp only [Bool.false_and, go_sem, Nat.reduceBEq]
    exact ⟨rfl, x4⟩
  | true =>
  simp only [Bool.true_and, go_sem, Nat.reduceBEq]
  try simp only [dk, dl0, dl1, dl2, dl3, dp, dm, ds, d23, d34, d12, decide_true, decide_false, Bool.true_and, Bool.false_and, Bool.and_true, Bool.and_false, Bool.or_true, Bool.or_false, Bool.true_or, Bool.false_or, Bool.not_true, Bool.not_false, go_sem, Nat.reduceBEq, Nat.reduceAdd, Nat.reduceLeDiff, Nat.reduceEqDiff, Int.reduceEq, not_false_eq_true, Int.reduceToNat]
  have kl2 : 1 < v.kids.length := by omega
  obtain ⟨bk2, ok2, ek2, hatk2⟩ := hat (by omega)
  cases ek2
  have ixk2 : ixA (some 4) (some ⟨bk1, ok1, none⟩) v.kids.length (1 : Int) = some (.pointer (some ⟨bk1, ok1 + 1 * 4, none⟩)) := ix_nat (i := 1) kl2
  try simp only [ixk2, go_sem, Nat.reduceBEq]
  refine hsem_node tyS29 (hatk2.mono x4) (hr.mono x4) (kid_get kl2) (by omega) fun sk2 rk2 => ?_
  obtain ⟨ak2, ck2, _, rfl, _⟩ := rk2.rows (by decide) (kid v.kids (1)).kids.length (fm_len Nd.dt_len _)
  try simp only [go_sem, Nat.reduceBEq]
  refine (iVar (kid v.kids 1) (kid_bulk (kid_mem kl2) (by omega)) _ _ rk2 (hM.ext x4)).mono ?_
  rintro _ g5 ⟨rfl, e5⟩
  try simp only [go_sem, Nat.reduceBEq]
  have x5 : Ext h g5 := (x4.trans e5)
  cases c5 : nVar nmB (kid v.kids 1) with
  | false =>
    simp only [Bool.false_and, go_sem, Nat.reduceBEq]
    exact ⟨rfl, x5⟩
  | true =>
  simp only [Bool.true_and, dl3, go_sem, Nat.reduceBEq]
  try simp only [dk, dl0, dl1, dl2, dl3, dp, dm, ds, d23, d34, d12, decide_true, decide_false, Bool.true_and, Bool.false_and, Bool.and_true, Bool.and_false, Bool.or_true, Bool.or_false, Bool.true_or, Bool.false_or, Bool.not_true, Bool.not_false, go_sem, Nat.reduceBEq, Nat.reduceAdd, Nat.reduceLeDiff, Nat.reduceEqDiff, Int.reduceEq, not_false_eq_true, Int.reduceToNat]
  by_cases l3 : v.kids.length = 3
  · have l31 : v.kids.length - 2 = 1 := by omega
    have l32 : v.kids.length - 1 = 2 := by omega
    have hw : IntKind.i64.wrap (((v.kids.length : Nat) : Int) - 1) = ((2 : Nat) : Int) := by rw [IntWalk.i64_in _ (by omega)]; omega
    rw [l31, l32]
    obtain ⟨aS, ys, es, rs, rl⟩ := Rd.sub Nd.dt_len rd 2 v.kids.length (by omega) (Nat.le_refl _)
    have rps : RdN h (v.kids.drop 2) (.slice aS (v.kids.length - 2) (c - 2)) := by
      simp only [Rd]
      exact ⟨_, rs, by rw [drop_take] at rl; exact rl⟩
    have es : slA (some 4) (some ⟨bk1, ok1, none⟩) v.kids.length c (2 : Int) ((v.kids.length : Nat) : Int) = some (.slice aS (v.kids.length - 2) (c - 2)) := es
    have hw2 : ((2 : Nat) : Int) = 2 := rfl
    simp only [decide_eq_true l3, c5, hw, hw2, Bool.true_and, es, go_sem, Nat.reduceBEq]
    rw [← drop_last (B := nBlk sm) (l := v.kids) (i := 2) l3]
    refine (iBlocks (v.kids.drop 2) (fun e he => (ih e (Nd.size_lt (List.mem_of_mem_drop he))).2) (by have := drop_bulks v.kids 2; omega) _ _ (rps.mono x5) (hM.ext x5)).mono ?_
    rintro _ gq ⟨rfl, eq⟩
    try simp only [go_sem, Nat.reduceBEq]
    exact ⟨rfl, (x5.trans eq)⟩
  have l41 : v.kids.length - 2 = 2 := by omega
  have l42 : v.kids.length - 1 = 3 := by omega
  have l4 : v.kids.length = 3 + 1 := by omega
  have hw : IntKind.i64.wrap (((v.kids.length : Nat) : Int) - 1) = ((3 : Nat) : Int) := by rw [IntWalk.i64_in _ (by omega)]; omega
  rw [l41, l42]
  simp only [decide_eq_false l3, go_sem, Nat.reduceBEq]
  have kl3 : 2 < v.kids.length := by omega
  obtain ⟨bk3, ok3, ek3, hatk3⟩ := hat (by omega)
  cases ek3
  have ixk3 : ixA (some 4) (some ⟨bk1, ok1, none⟩) v.kids.length (2 : Int) = some (.pointer (some ⟨bk1, ok1 + 2 * 4, none⟩)) := ix_nat (i := 2) kl3
  try simp only [ixk3, go_sem, Nat.reduceBEq]
  refine hsem_node tyS29 (hatk3.mono x5) (hr.mono x5) (kid_get kl3) (by omega) fun sk3 rk3 => ?_
  obtain ⟨ak3, ck3, _, rfl, _⟩ := rk3.rows (by decide) (kid v.kids (2)).kids.length (fm_len Nd.dt_len _)
  try simp only [go_sem, Nat.reduceBEq]
  obtain ⟨aS, ys, es, rs, rl⟩ := Rd.sub Nd.dt_len rd 3 v.kids.length (by omega) (Nat.le_refl _)
  have rps : RdN h (v.kids.drop 3) (.slice aS (v.kids.length - 3) (c - 3)) := by
    simp only [Rd]
    exact ⟨_, rs, by rw [drop_take] at rl; exact rl⟩
  have es : slA (some 4) (some ⟨bk1, ok1, none⟩) v.kids.length c (3 : Int) ((v.kids.length : Nat) : Int) = some (.slice aS (v.kids.length - 3) (c - 3)) := es
  have hw2 : ((3 : Nat) : Int) = 3 := rfl
  refine (iVar (kid v.kids 2) (kid_bulk (kid_mem kl3) (by omega)) _ _ rk3 (hM.ext x5)).mono ?_
  rintro _ g6 ⟨rfl, e6⟩
  try simp only [go_sem, Nat.reduceBEq]
  have x6 : Ext h g6 := (x5.trans e6)
  cases c6 : nVar nmB (kid v.kids 2) with
  | false =>
    simp only [Bool.false_and, go_sem, Nat.reduceBEq]
    exact ⟨rfl, x6⟩
  | true =>
  simp only [Bool.true_and, es, hw, hw2, go_sem, Nat.reduceBEq]
  try simp only [dk, dl0, dl1, dl2, dl3, dp, dm, ds, d23, d34, d12, es, hw, hw2, decide_true, decide_false, Bool.true_and, Bool.false_and, Bool.and_true, Bool.and_false, Bool.or_true, Bool.or_false, Bool.true_or, Bool.false_or, Bool.not_true, Bool.not_false, go_sem, Nat.reduceBEq, Nat.reduceAdd, Nat.reduceLeDiff, Nat.reduceEqDiff, Int.reduceEq, not_false_eq_true, Int.reduceToNat]
  rw [← drop_last (B := nBlk sm) (l := v.kids) (i := 3) l4]
  refine (iBlocks (v.kids.drop 3) (fun e he => (ih e (Nd.size_lt (List.mem_of_mem_drop he))).2) (by have := drop_bulks v.kids 3; omega) _ _ (rps.mono x6) (hM.ext x6)).mono ?_
  rintro _ gq ⟨rfl, eq⟩
  try simp only [go_sem, Nat.reduceBEq]
  exact ⟨rfl, (x6.trans eq)⟩
set_option maxHeartbeats 800000 in
theorem iSt_37 (v : Nd) (hbk : v.bulk ≤ 1048576) (ih : ∀ e : Nd, e.size < v.size → IE e ∧ IS e) (hk : v.kind = 37) (sl : Value) (h : Hp) (rd : RdN h v.kids sl) (hM : Mx h) : ACalls Try.prog 29 #[.agg #[.int .i64 v.kind, .int .i64 v.num, .string v.text, sl]] h (Is (.bool (sm v)) h) := by
  have hB := Nd.bulk_eq v
  have hL := Nd.bulks_len v.kids
  obtain ⟨a, c, xs, rfl, hc, hr, hat⟩ := rd.rows (by decide) v.kids.length (fm_len Nd.dt_len _)
  have dl0 : decide (((v.kids.length : Nat) : Int) = 0) = decide (v.kids.length = 0) := decide_eq_decide.2 (by omega)
  have dl1 : decide (((v.kids.length : Nat) : Int) = 1) = decide (v.kids.length = 1) := decide_eq_decide.2 (by omega)
  have dl2 : decide (((v.kids.length : Nat) : Int) = 2) = decide (v.kids.length = 2) := decide_eq_decide.2 (by omega)
  have dl3 : decide (((v.kids.length : Nat) : Int) = 3) = decide (v.kids.length = 3) := decide_eq_decide.2 (by omega)
  have dp : decide ((1 : Int) ≤ ((v.kids.length : Nat) : Int)) = decide (1 ≤ v.kids.length) := decide_eq_decide.2 (by omega)
  have dm : decide (((v.kids.length : Nat) : Int) ≤ 1) = decide (v.kids.length ≤ 1) := decide_eq_decide.2 (by omega)
  have ds : decide (((v.text.size : Nat) : Int) ≤ 400) = decide (v.text.size ≤ 400) := decide_eq_decide.2 (by omega)
  have d23 : decide ((2 : Int) ≤ ((v.kids.length : Nat) : Int) ∧ ((v.kids.length : Nat) : Int) ≤ 3) = decide (2 ≤ v.kids.length ∧ v.kids.length ≤ 3) := decide_eq_decide.2 (by omega)
  have d34 : decide ((3 : Int) ≤ ((v.kids.length : Nat) : Int) ∧ ((v.kids.length : Nat) : Int) ≤ 4) = decide (3 ≤ v.kids.length ∧ v.kids.length ≤ 4) := decide_eq_decide.2 (by omega)
  have d12 : decide ((1 : Int) ≤ ((v.kids.length : Nat) : Int) ∧ ((v.kids.length : Nat) : Int) ≤ 2) = decide (1 ≤ v.kids.length ∧ v.kids.length ≤ 2) := decide_eq_decide.2 (by omega)
  have dk : ∀ n : Int, decide (v.kind = n) = decide ((37 : Int) = n) := fun n => by rw [hk]
  have ex : sm v = (decide (v.num = 0) && (decide (v.text = ⟨#[]⟩) && (decide (v.kids.length = 0)))) := by
    rw [sm_fix]
    unfold stF
    rw [if_neg (by omega), if_neg (by omega), if_neg (by omega), if_neg (by omega), if_neg (by omega), if_pos (by omega)]
  rw [ex]
  (refine enter Try.func29 rfl rfl (by kernel_rfl) [] ?_; simp only [go_sem, Nat.reduceBEq])
  try simp only [dk, dl0, dl1, dl2, dl3, dp, dm, ds, d23, d34, d12, decide_true, decide_false, Bool.true_and, Bool.false_and, Bool.and_true, Bool.and_false, Bool.or_true, Bool.or_false, Bool.true_or, Bool.false_or, Bool.not_true, Bool.not_false, go_sem, Nat.reduceBEq, Nat.reduceAdd, Nat.reduceLeDiff, Nat.reduceEqDiff, Int.reduceEq, not_false_eq_true, Int.reduceToNat]
  by_cases c1 : v.num = 0
  case neg =>
    simp only [decide_eq_false c1, Bool.false_and, Bool.not_false, go_sem, Nat.reduceBEq]
    exact ⟨rfl, Ext.refl _⟩
  simp only [decide_eq_true c1, decide_true, decide_false, Bool.true_and, Bool.not_true, dk, go_sem, Nat.reduceBEq, Int.reduceEq]
  try simp only [dk, dl0, dl1, dl2, dl3, dp, dm, ds, d23, d34, d12, decide_true, decide_false, Bool.true_and, Bool.false_and, Bool.and_true, Bool.and_false, Bool.or_true, Bool.or_false, Bool.true_or, Bool.false_or, Bool.not_true, Bool.not_false, go_sem, Nat.reduceBEq, Nat.reduceAdd, Nat.reduceLeDiff, Nat.reduceEqDiff, Int.reduceEq, not_false_eq_true, Int.reduceToNat]
  by_cases c2 : v.text = ⟨#[]⟩
  case neg =>
    simp only [decide_eq_false c2, Bool.false_and, go_sem, Nat.reduceBEq]
    exact ⟨rfl, Ext.refl _⟩
  simp only [decide_eq_true c2, Bool.true_and, dl0, go_sem, Nat.reduceBEq]
  try simp only [dk, dl0, dl1, dl2, dl3, dp, dm, ds, d23, d34, d12, decide_true, decide_false, Bool.true_and, Bool.false_and, Bool.and_true, Bool.and_false, Bool.or_true, Bool.or_false, Bool.true_or, Bool.false_or, Bool.not_true, Bool.not_false, go_sem, Nat.reduceBEq, Nat.reduceAdd, Nat.reduceLeDiff, Nat.reduceEqDiff, Int.reduceEq, not_false_eq_true, Int.reduceToNat]
  exact ⟨rfl, Ext.refl _⟩
set_option maxHeartbeats 800000 in
theorem iSt_38 (v : Nd) (hbk : v.bulk ≤ 1048576) (ih : ∀ e : Nd, e.size < v.size → IE e ∧ IS e) (hk : v.kind = 38) (sl : Value) (h : Hp) (rd : RdN h v.kids sl) (hM : Mx h) : ACalls Try.prog 29 #[.agg #[.int .i64 v.kind, .int .i64 v.num, .string v.text, sl]] h (Is (.bool (sm v)) h) := by
  have hB := Nd.bulk_eq v
  have hL := Nd.bulks_len v.kids
  obtain ⟨a, c, xs, rfl, hc, hr, hat⟩ := rd.rows (by decide) v.kids.length (fm_len Nd.dt_len _)
  have dl0 : decide (((v.kids.length : Nat) : Int) = 0) = decide (v.kids.length = 0) := decide_eq_decide.2 (by omega)
  have dl1 : decide (((v.kids.length : Nat) : Int) = 1) = decide (v.kids.length = 1) := decide_eq_decide.2 (by omega)
  have dl2 : decide (((v.kids.length : Nat) : Int) = 2) = decide (v.kids.length = 2) := decide_eq_decide.2 (by omega)
  have dl3 : decide (((v.kids.length : Nat) : Int) = 3) = decide (v.kids.length = 3) := decide_eq_decide.2 (by omega)
  have dp : decide ((1 : Int) ≤ ((v.kids.length : Nat) : Int)) = decide (1 ≤ v.kids.length) := decide_eq_decide.2 (by omega)
  have dm : decide (((v.kids.length : Nat) : Int) ≤ 1) = decide (v.kids.length ≤ 1) := decide_eq_decide.2 (by omega)
  have ds : decide (((v.text.size : Nat) : Int) ≤ 400) = decide (v.text.size ≤ 400) := decide_eq_decide.2 (by omega)
  have d23 : decide ((2 : Int) ≤ ((v.kids.length : Nat) : Int) ∧ ((v.kids.length : Nat) : Int) ≤ 3) = decide (2 ≤ v.kids.length ∧ v.kids.length ≤ 3) := decide_eq_decide.2 (by omega)
  have d34 : decide ((3 : Int) ≤ ((v.kids.length : Nat) : Int) ∧ ((v.kids.length : Nat) : Int) ≤ 4) = decide (3 ≤ v.kids.length ∧ v.kids.length ≤ 4) := decide_eq_decide.2 (by omega)
  have d12 : decide ((1 : Int) ≤ ((v.kids.length : Nat) : Int) ∧ ((v.kids.length : Nat) : Int) ≤ 2) = decide (1 ≤ v.kids.length ∧ v.kids.length ≤ 2) := decide_eq_decide.2 (by omega)
  have dk : ∀ n : Int, decide (v.kind = n) = decide ((38 : Int) = n) := fun n => by rw [hk]
  have ex : sm v = (decide (v.num = 0) && (decide (v.text = ⟨#[]⟩) && (decide (v.kids.length = 0)))) := by
    rw [sm_fix]
    unfold stF
    rw [if_neg (by omega), if_neg (by omega), if_neg (by omega), if_neg (by omega), if_neg (by omega), if_pos (by omega)]
  rw [ex]
  (refine enter Try.func29 rfl rfl (by kernel_rfl) [] ?_; simp only [go_sem, Nat.reduceBEq])
  try simp only [dk, dl0, dl1, dl2, dl3, dp, dm, ds, d23, d34, d12, decide_true, decide_false, Bool.true_and, Bool.false_and, Bool.and_true, Bool.and_false, Bool.or_true, Bool.or_false, Bool.true_or, Bool.false_or, Bool.not_true, Bool.not_false, go_sem, Nat.reduceBEq, Nat.reduceAdd, Nat.reduceLeDiff, Nat.reduceEqDiff, Int.reduceEq, not_false_eq_true, Int.reduceToNat]
  by_cases c1 : v.num = 0
  case neg =>
    simp only [decide_eq_false c1, Bool.false_and, Bool.not_false, go_sem, Nat.reduceBEq]
    exact ⟨rfl, Ext.refl _⟩
  simp only [decide_eq_true c1, decide_true, decide_false, Bool.true_and, Bool.not_true, dk, go_sem, Nat.reduceBEq, Int.reduceEq]
  try simp only [dk, dl0, dl1, dl2, dl3, dp, dm, ds, d23, d34, d12, decide_true, decide_false, Bool.true_and, Bool.false_and, Bool.and_true, Bool.and_false, Bool.or_true, Bool.or_false, Bool.true_or, Bool.false_or, Bool.not_true, Bool.not_false, go_sem, Nat.reduceBEq, Nat.reduceAdd, Nat.reduceLeDiff, Nat.reduceEqDiff, Int.reduceEq, not_false_eq_true, Int.reduceToNat]
  by_cases c2 : v.text = ⟨#[]⟩
  case neg =>
    simp only [decide_eq_false c2, Bool.false_and, go_sem, Nat.reduceBEq]
    exact ⟨rfl, Ext.refl _⟩
  simp only [decide_eq_true c2, Bool.true_and, dl0, go_sem, Nat.reduceBEq]
  try simp only [dk, dl0, dl1, dl2, dl3, dp, dm, ds, d23, d34, d12, decide_true, decide_false, Bool.true_and, Bool.false_and, Bool.and_true, Bool.and_false, Bool.or_true, Bool.or_false, Bool.true_or, Bool.false_or, Bool.not_true, Bool.not_false, go_sem, Nat.reduceBEq, Nat.reduceAdd, Nat.reduceLeDiff, Nat.reduceEqDiff, Int.reduceEq, not_false_eq_true, Int.reduceToNat]
  exact ⟨rfl, Ext.refl _⟩
set_option maxHeartbeats 800000 in
theorem iSt_39 (v : Nd) (hbk : v.bulk ≤ 1048576) (ih : ∀ e : Nd, e.size < v.size → IE e ∧ IS e) (hk : v.kind = 39) (sl : Value) (h : Hp) (rd : RdN h v.kids sl) (hM : Mx h) : ACalls Try.prog 29 #[.agg #[.int .i64 v.kind, .int .i64 v.num, .string v.text, sl]] h (Is (.bool (sm v)) h) := by
  have hB := Nd.bulk_eq v
  have hL := Nd.bulks_len v.kids
  obtain ⟨a, c, xs, rfl, hc, hr, hat⟩ := rd.rows (by decide) v.kids.length (fm_len Nd.dt_len _)
  have dl0 : decide (((v.kids.length : Nat) : Int) = 0) = decide (v.kids.length = 0) := decide_eq_decide.2 (by omega)
  have dl1 : decide (((v.kids.length : Nat) : Int) = 1) = decide (v.kids.length = 1) := decide_eq_decide.2 (by omega)
  have dl2 : decide (((v.kids.length : Nat) : Int) = 2) = decide (v.kids.length = 2) := decide_eq_decide.2 (by omega)
  have dl3 : decide (((v.kids.length : Nat) : Int) = 3) = decide (v.kids.length = 3) := decide_eq_decide.2 (by omega)
  have dp : decide ((1 : Int) ≤ ((v.kids.length : Nat) : Int)) = decide (1 ≤ v.kids.length) := decide_eq_decide.2 (by omega)
  have dm : decide (((v.kids.length : Nat) : Int) ≤ 1) = decide (v.kids.length ≤ 1) := decide_eq_decide.2 (by omega)
  have ds : decide (((v.text.size : Nat) : Int) ≤ 400) = decide (v.text.size ≤ 400) := decide_eq_decide.2 (by omega)
  have d23 : decide ((2 : Int) ≤ ((v.kids.length : Nat) : Int) ∧ ((v.kids.length : Nat) : Int) ≤ 3) = decide (2 ≤ v.kids.length ∧ v.kids.length ≤ 3) := decide_eq_decide.2 (by omega)
  have d34 : decide ((3 : Int) ≤ ((v.kids.length : Nat) : Int) ∧ ((v.kids.length : Nat) : Int) ≤ 4) = decide (3 ≤ v.kids.length ∧ v.kids.length ≤ 4) := decide_eq_decide.2 (by omega)
  have d12 : decide ((1 : Int) ≤ ((v.kids.length : Nat) : Int) ∧ ((v.kids.length : Nat) : Int) ≤ 2) = decide (1 ≤ v.kids.length ∧ v.kids.length ≤ 2) := decide_eq_decide.2 (by omega)
  have dk : ∀ n : Int, decide (v.kind = n) = decide ((39 : Int) = n) := fun n => by rw [hk]
  have ex : sm v = (decide (v.num = 0) && (decide (v.text = ⟨#[]⟩) && (decide (v.kids.length ≤ 1) && (v.kids.all xp)))) := by
    rw [sm_fix]
    unfold stF
    rw [if_neg (by omega), if_neg (by omega), if_neg (by omega), if_neg (by omega), if_neg (by omega), if_neg (by omega), if_pos (by omega)]
  rw [ex]
  (refine enter Try.func29 rfl rfl (by kernel_rfl) [] ?_; simp only [go_sem, Nat.reduceBEq])
  try simp only [dk, dl0, dl1, dl2, dl3, dp, dm, ds, d23, d34, d12, decide_true, decide_false, Bool.true_and, Bool.false_and, Bool.and_true, Bool.and_false, Bool.or_true, Bool.or_false, Bool.true_or, Bool.false_or, Bool.not_true, Bool.not_false, go_sem, Nat.reduceBEq, Nat.reduceAdd, Nat.reduceLeDiff, Nat.reduceEqDiff, Int.reduceEq, not_false_eq_true, Int.reduceToNat]
  by_cases c1 : v.num = 0
  case neg =>
    simp only [decide_eq_false c1, Bool.false_and, Bool.not_false, go_sem, Nat.reduceBEq]
    exact ⟨rfl, Ext.refl _⟩
  simp only [decide_eq_true c1, decide_true, decide_false, Bool.true_and, Bool.not_true, dk, go_sem, Nat.reduceBEq, Int.reduceEq]
  try simp only [dk, dl0, dl1, dl2, dl3, dp, dm, ds, d23, d34, d12, decide_true, decide_false, Bool.true_and, Bool.false_and, Bool.and_true, Bool.and_false, Bool.or_true, Bool.or_false, Bool.true_or, Bool.false_or, Bool.not_true, Bool.not_false, go_sem, Nat.reduceBEq, Nat.reduceAdd, Nat.reduceLeDiff, Nat.reduceEqDiff, Int.reduceEq, not_false_eq_true, Int.reduceToNat]
  by_cases c2 : v.text = ⟨#[]⟩
  case neg =>
    simp only [decide_eq_false c2, Bool.false_and, go_sem, Nat.reduceBEq]
    exact ⟨rfl, Ext.refl _⟩
  simp only [decide_eq_true c2, Bool.true_and, dm, go_sem, Nat.reduceBEq]
  try simp only [dk, dl0, dl1, dl2, dl3, dp, dm, ds, d23, d34, d12, decide_true, decide_false, Bool.true_and, Bool.false_and, Bool.and_true, Bool.and_false, Bool.or_true, Bool.or_false, Bool.true_or, Bool.false_or, Bool.not_true, Bool.not_false, go_sem, Nat.reduceBEq, Nat.reduceAdd, Nat.reduceLeDiff, Nat.reduceEqDiff, Int.reduceEq, not_false_eq_true, Int.reduceToNat]
  by_cases c3 : v.kids.length ≤ 1
  case neg =>
    simp only [decide_eq_false c3, Bool.false_and, go_sem, Nat.reduceBEq]
    exact ⟨rfl, Ext.refl _⟩
  simp only [decide_eq_true c3, Bool.true_and, go_sem, Nat.reduceBEq]
  try simp only [dk, dl0, dl1, dl2, dl3, dp, dm, ds, d23, d34, d12, decide_true, decide_false, Bool.true_and, Bool.false_and, Bool.and_true, Bool.and_false, Bool.or_true, Bool.or_false, Bool.true_or, Bool.false_or, Bool.not_true, Bool.not_false, go_sem, Nat.reduceBEq, Nat.reduceAdd, Nat.reduceLeDiff, Nat.reduceEqDiff, Int.reduceEq, not_false_eq_true, Int.reduceToNat]
  refine (iAll v.kids (fun e he => (ih e (Nd.size_lt he)).1) (by omega) _ _ rd hM).mono ?_
  rintro _ g4 ⟨rfl, e4⟩
  try simp only [go_sem, Nat.reduceBEq]
  have x4 : Ext h g4 := e4
  exact ⟨rfl, x4⟩
set_option maxHeartbeats 800000 in
theorem iSt_40 (v : Nd) (hbk : v.bulk ≤ 1048576) (ih : ∀ e : Nd, e.size < v.size → IE e ∧ IS e) (hk : v.kind = 40) (sl : Value) (h : Hp) (rd : RdN h v.kids sl) (hM : Mx h) : ACalls Try.prog 29 #[.agg #[.int .i64 v.kind, .int .i64 v.num, .string v.text, sl]] h (Is (.bool (sm v)) h) := by
  have hB := Nd.bulk_eq v
  have hL := Nd.bulks_len v.kids
  obtain ⟨a, c, xs, rfl, hc, hr, hat⟩ := rd.rows (by decide) v.kids.length (fm_len Nd.dt_len _)
  have dl0 : decide (((v.kids.length : Nat) : Int) = 0) = decide (v.kids.length = 0) := decide_eq_decide.2 (by omega)
  have dl1 : decide (((v.kids.length : Nat) : Int) = 1) = decide (v.kids.length = 1) := decide_eq_decide.2 (by omega)
  have dl2 : decide (((v.kids.length : Nat) : Int) = 2) = decide (v.kids.length = 2) := decide_eq_decide.2 (by omega)
  have dl3 : decide (((v.kids.length : Nat) : Int) = 3) = decide (v.kids.length = 3) := decide_eq_decide.2 (by omega)
  have dp : decide ((1 : Int) ≤ ((v.kids.length : Nat) : Int)) = decide (1 ≤ v.kids.length) := decide_eq_decide.2 (by omega)
  have dm : decide (((v.kids.length : Nat) : Int) ≤ 1) = decide (v.kids.length ≤ 1) := decide_eq_decide.2 (by omega)
  have ds : decide (((v.text.size : Nat) : Int) ≤ 400) = decide (v.text.size ≤ 400) := decide_eq_decide.2 (by omega)
  have d23 : decide ((2 : Int) ≤ ((v.kids.length : Nat) : Int) ∧ ((v.kids.length : Nat) : Int) ≤ 3) = decide (2 ≤ v.kids.length ∧ v.kids.length ≤ 3) := decide_eq_decide.2 (by omega)
  have d34 : decide ((3 : Int) ≤ ((v.kids.length : Nat) : Int) ∧ ((v.kids.length : Nat) : Int) ≤ 4) = decide (3 ≤ v.kids.length ∧ v.kids.length ≤ 4) := decide_eq_decide.2 (by omega)
  have d12 : decide ((1 : Int) ≤ ((v.kids.length : Nat) : Int) ∧ ((v.kids.length : Nat) : Int) ≤ 2) = decide (1 ≤ v.kids.length ∧ v.kids.length ≤ 2) := decide_eq_decide.2 (by omega)
  have dk : ∀ n : Int, decide (v.kind = n) = decide ((40 : Int) = n) := fun n => by rw [hk]
  have ex : sm v = (decide (v.num = 0) && (nmB v.text && (decide (v.kids.length = 0)))) := by
    rw [sm_fix]
    unfold stF
    rw [if_neg (by omega), if_neg (by omega), if_neg (by omega), if_neg (by omega), if_neg (by omega), if_neg (by omega), if_neg (by omega), if_pos (by omega)]
  rw [ex]
  (refine enter Try.func29 rfl rfl (by kernel_rfl) [] ?_; simp only [go_sem, Nat.reduceBEq])
  try simp only [dk, dl0, dl1, dl2, dl3, dp, dm, ds, d23, d34, d12, decide_true, decide_false, Bool.true_and, Bool.false_and, Bool.and_true, Bool.and_false, Bool.or_true, Bool.or_false, Bool.true_or, Bool.false_or, Bool.not_true, Bool.not_false, go_sem, Nat.reduceBEq, Nat.reduceAdd, Nat.reduceLeDiff, Nat.reduceEqDiff, Int.reduceEq, not_false_eq_true, Int.reduceToNat]
  by_cases c1 : v.num = 0
  case neg =>
    simp only [decide_eq_false c1, Bool.false_and, Bool.not_false, go_sem, Nat.reduceBEq]
    exact ⟨rfl, Ext.refl _⟩
  simp only [decide_eq_true c1, decide_true, decide_false, Bool.true_and, Bool.not_true, dk, go_sem, Nat.reduceBEq, Int.reduceEq]
  try simp only [dk, dl0, dl1, dl2, dl3, dp, dm, ds, d23, d34, d12, decide_true, decide_false, Bool.true_and, Bool.false_and, Bool.and_true, Bool.and_false, Bool.or_true, Bool.or_false, Bool.true_or, Bool.false_or, Bool.not_true, Bool.not_false, go_sem, Nat.reduceBEq, Nat.reduceAdd, Nat.reduceLeDiff, Nat.reduceEqDiff, Int.reduceEq, not_false_eq_true, Int.reduceToNat]
  refine (iGood v.text (by have := text_bulk v; omega) _).mono ?_
  rintro _ g2 ⟨rfl, e2⟩
  try simp only [go_sem, Nat.reduceBEq]
  have x2 : Ext h g2 := e2
  cases c2 : nmB v.text with
  | false =>
    simp only [Bool.false_and, go_sem, Nat.reduceBEq]
    exact ⟨rfl, x2⟩
  | true =>
  simp only [Bool.true_and, dl0, go_sem, Nat.reduceBEq]
  try simp only [dk, dl0, dl1, dl2, dl3, dp, dm, ds, d23, d34, d12, decide_true, decide_false, Bool.true_and, Bool.false_and, Bool.and_true, Bool.and_false, Bool.or_true, Bool.or_false, Bool.true_or, Bool.false_or, Bool.not_true, Bool.not_false, go_sem, Nat.reduceBEq, Nat.reduceAdd, Nat.reduceLeDiff, Nat.reduceEqDiff, Int.reduceEq, not_false_eq_true, Int.reduceToNat]
  exact ⟨rfl, x2⟩
set_option maxHeartbeats 800000 in
theorem iSt_41 (v : Nd) (hbk : v.bulk ≤ 1048576) (ih : ∀ e : Nd, e.size < v.size → IE e ∧ IS e) (hk : v.kind = 41) (sl : Value) (h : Hp) (rd : RdN h v.kids sl) (hM : Mx h) : ACalls Try.prog 29 #[.agg #[.int .i64 v.kind, .int .i64 v.num, .string v.text, sl]] h (Is (.bool (sm v)) h) := by
  have hB := Nd.bulk_eq v
  have hL := Nd.bulks_len v.kids
  obtain ⟨a, c, xs, rfl, hc, hr, hat⟩ := rd.rows (by decide) v.kids.length (fm_len Nd.dt_len _)
  have dl0 : decide (((v.kids.length : Nat) : Int) = 0) = decide (v.kids.length = 0) := decide_eq_decide.2 (by omega)
  have dl1 : decide (((v.kids.length : Nat) : Int) = 1) = decide (v.kids.length = 1) := decide_eq_decide.2 (by omega)
  have dl2 : decide (((v.kids.length : Nat) : Int) = 2) = decide (v.kids.length = 2) := decide_eq_decide.2 (by omega)
  have dl3 : decide (((v.kids.length : Nat) : Int) = 3) = decide (v.kids.length = 3) := decide_eq_decide.2 (by omega)
  have dp : decide ((1 : Int) ≤ ((v.kids.length : Nat) : Int)) = decide (1 ≤ v.kids.length) := decide_eq_decide.2 (by omega)
  have dm : decide (((v.kids.length : Nat) : Int) ≤ 1) = decide (v.kids.length ≤ 1) := decide_eq_decide.2 (by omega)
  have ds : decide (((v.text.size : Nat) : Int) ≤ 400) = decide (v.text.size ≤ 400) := decide_eq_decide.2 (by omega)
  have d23 : decide ((2 : Int) ≤ ((v.kids.length : Nat) : Int) ∧ ((v.kids.length : Nat) : Int) ≤ 3) = decide (2 ≤ v.kids.length ∧ v.kids.length ≤ 3) := decide_eq_decide.2 (by omega)
  have d34 : decide ((3 : Int) ≤ ((v.kids.length : Nat) : Int) ∧ ((v.kids.length : Nat) : Int) ≤ 4) = decide (3 ≤ v.kids.length ∧ v.kids.length ≤ 4) := decide_eq_decide.2 (by omega)
  have d12 : decide ((1 : Int) ≤ ((v.kids.length : Nat) : Int) ∧ ((v.kids.length : Nat) : Int) ≤ 2) = decide (1 ≤ v.kids.length ∧ v.kids.length ≤ 2) := decide_eq_decide.2 (by omega)
  have dk : ∀ n : Int, decide (v.kind = n) = decide ((41 : Int) = n) := fun n => by rw [hk]
  have ex : sm v = (decide (v.num = 0) && (decide (v.text = ⟨#[]⟩) && (decide (v.kids.length = 1) && ((kid v.kids 0).aim && (xp (kid v.kids 0)))))) := by
    rw [sm_fix]
    unfold stF
    rw [if_neg (by omega), if_neg (by omega), if_neg (by omega), if_neg (by omega), if_neg (by omega), if_neg (by omega), if_neg (by omega), if_neg (by omega), if_pos (by omega)]
  rw [ex]
  (refine enter Try.func29 rfl rfl (by kernel_rfl) [] ?_; simp only [go_sem, Nat.reduceBEq])
  try simp only [dk, dl0, dl1, dl2, dl3, dp, dm, ds, d23, d34, d12, decide_true, decide_false, Bool.true_and, Bool.false_and, Bool.and_true, Bool.and_false, Bool.or_true, Bool.or_false, Bool.true_or, Bool.false_or, Bool.not_true, Bool.not_false, go_sem, Nat.reduceBEq, Nat.reduceAdd, Nat.reduceLeDiff, Nat.reduceEqDiff, Int.reduceEq, not_false_eq_true, Int.reduceToNat]
  by_cases c1 : v.num = 0
  case neg =>
    simp only [decide_eq_false c1, Bool.false_and, Bool.not_false, go_sem, Nat.reduceBEq]
    exact ⟨rfl, Ext.refl _⟩
  simp only [decide_eq_true c1, decide_true, decide_false, Bool.true_and, Bool.not_true, dk, go_sem, Nat.reduceBEq, Int.reduceEq]
  try simp only [dk, dl0, dl1, dl2, dl3, dp, dm, ds, d23, d34, d12, decide_true, decide_false, Bool.true_and, Bool.false_and, Bool.and_true, Bool.and_false, Bool.or_true, Bool.or_false, Bool.true_or, Bool.false_or, Bool.not_true, Bool.not_false, go_sem, Nat.reduceBEq, Nat.reduceAdd, Nat.reduceLeDiff, Nat.reduceEqDiff, Int.reduceEq, not_false_eq_true, Int.reduceToNat]
  by_cases c2 : v.text = ⟨#[]⟩
  case neg =>
    simp only [decide_eq_false c2, Bool.false_and, go_sem, Nat.reduceBEq]
    exact ⟨rfl, Ext.refl _⟩
  simp only [decide_eq_true c2, Bool.true_and, dl1, go_sem, Nat.reduceBEq]
  try simp only [dk, dl0, dl1, dl2, dl3, dp, dm, ds, d23, d34, d12, decide_true, decide_false, Bool.true_and, Bool.false_and, Bool.and_true, Bool.and_false, Bool.or_true, Bool.or_false, Bool.true_or, Bool.false_or, Bool.not_true, Bool.not_false, go_sem, Nat.reduceBEq, Nat.reduceAdd, Nat.reduceLeDiff, Nat.reduceEqDiff, Int.reduceEq, not_false_eq_true, Int.reduceToNat]
  by_cases c3 : v.kids.length = 1
  case neg =>
    simp only [decide_eq_false c3, Bool.false_and, go_sem, Nat.reduceBEq]
    exact ⟨rfl, Ext.refl _⟩
  simp only [decide_eq_true c3, Bool.true_and, go_sem, Nat.reduceBEq]
  try simp only [dk, dl0, dl1, dl2, dl3, dp, dm, ds, d23, d34, d12, decide_true, decide_false, Bool.true_and, Bool.false_and, Bool.and_true, Bool.and_false, Bool.or_true, Bool.or_false, Bool.true_or, Bool.false_or, Bool.not_true, Bool.not_false, go_sem, Nat.reduceBEq, Nat.reduceAdd, Nat.reduceLeDiff, Nat.reduceEqDiff, Int.reduceEq, not_false_eq_true, Int.reduceToNat]
  have kl1 : 0 < v.kids.length := by omega
  obtain ⟨bk1, ok1, ek1, hatk1⟩ := hat (by omega)
  cases ek1
  have ixk1 : ixA (some 4) (some ⟨bk1, ok1, none⟩) v.kids.length (0 : Int) = some (.pointer (some ⟨bk1, ok1 + 0 * 4, none⟩)) := ix_nat (i := 0) kl1
  try simp only [ixk1, go_sem, Nat.reduceBEq]
  refine hsem_node tyS29 hatk1 hr (kid_get kl1) (by omega) fun sk1 rk1 => ?_
  obtain ⟨ak1, ck1, _, rfl, _⟩ := rk1.rows (by decide) (kid v.kids (0)).kids.length (fm_len Nd.dt_len _)
  try simp only [go_sem, Nat.reduceBEq]
  refine (iTarget (kid v.kids 0) (kid_bulk (kid_mem kl1) (by omega)) (ih _ (Nd.size_lt (kid_mem kl1))).1 _ _ rk1 hM).mono ?_
  rintro _ g4 ⟨rfl, e4⟩
  try simp only [go_sem, Nat.reduceBEq]
  have x4 : Ext h g4 := e4
  exact ⟨rfl, x4⟩
set_option maxHeartbeats 800000 in
theorem iSt_46 (v : Nd) (hbk : v.bulk ≤ 1048576) (ih : ∀ e : Nd, e.size < v.size → IE e ∧ IS e) (hk : v.kind = 46) (sl : Value) (h : Hp) (rd : RdN h v.kids sl) (hM : Mx h) : ACalls Try.prog 29 #[.agg #[.int .i64 v.kind, .int .i64 v.num, .string v.text, sl]] h (Is (.bool (sm v)) h) := by
  have hB := Nd.bulk_eq v
  have hL := Nd.bulks_len v.kids
  obtain ⟨a, c, xs, rfl, hc, hr, hat⟩ := rd.rows (by decide) v.kids.length (fm_len Nd.dt_len _)
  have dl0 : decide (((v.kids.length : Nat) : Int) = 0) = decide (v.kids.length = 0) := decide_eq_decide.2 (by omega)
  have dl1 : decide (((v.kids.length : Nat) : Int) = 1) = decide (v.kids.length = 1) := decide_eq_decide.2 (by omega)
  have dl2 : decide (((v.kids.length : Nat) : Int) = 2) = decide (v.kids.length = 2) := decide_eq_decide.2 (by omega)
  have dl3 : decide (((v.kids.length : Nat) : Int) = 3) = decide (v.kids.length = 3) := decide_eq_decide.2 (by omega)
  have dp : decide ((1 : Int) ≤ ((v.kids.length : Nat) : Int)) = decide (1 ≤ v.kids.length) := decide_eq_decide.2 (by omega)
  have dm : decide (((v.kids.length : Nat) : Int) ≤ 1) = decide (v.kids.length ≤ 1) := decide_eq_decide.2 (by omega)
  have ds : decide (((v.text.size : Nat) : Int) ≤ 400) = decide (v.text.size ≤ 400) := decide_eq_decide.2 (by omega)
  have d23 : decide ((2 : Int) ≤ ((v.kids.length : Nat) : Int) ∧ ((v.kids.length : Nat) : Int) ≤ 3) = decide (2 ≤ v.kids.length ∧ v.kids.length ≤ 3) := decide_eq_decide.2 (by omega)
  have d34 : decide ((3 : Int) ≤ ((v.kids.length : Nat) : Int) ∧ ((v.kids.length : Nat) : Int) ≤ 4) = decide (3 ≤ v.kids.length ∧ v.kids.length ≤ 4) := decide_eq_decide.2 (by omega)
  have d12 : decide ((1 : Int) ≤ ((v.kids.length : Nat) : Int) ∧ ((v.kids.length : Nat) : Int) ≤ 2) = decide (1 ≤ v.kids.length ∧ v.kids.length ≤ 2) := decide_eq_decide.2 (by omega)
  have dk : ∀ n : Int, decide (v.kind = n) = decide ((46 : Int) = n) := fun n => by rw [hk]
  have ex : sm v = (decide (v.num = 0) && (decide (v.text = ⟨#[]⟩) && ((decide (v.kids.length = 1) || (decide (v.kids.length = 2) && nVar nmB (kid v.kids 0))) && xp (kid v.kids (v.kids.length - 1))))) := by
    rw [sm_fix]
    unfold stF
    rw [if_neg (by omega), if_neg (by omega), if_neg (by omega), if_neg (by omega), if_neg (by omega), if_neg (by omega), if_neg (by omega), if_neg (by omega), if_neg (by omega), if_pos (by omega)]
  rw [ex]
  (refine enter Try.func29 rfl rfl (by kernel_rfl) [] ?_; simp only [go_sem, Nat.reduceBEq])
  try simp only [dk, dl0, dl1, dl2, dl3, dp, dm, ds, d23, d34, d12, decide_true, decide_false, Bool.true_and, Bool.false_and, Bool.and_true, Bool.and_false, Bool.or_true, Bool.or_false, Bool.true_or, Bool.false_or, Bool.not_true, Bool.not_false, go_sem, Nat.reduceBEq, Nat.reduceAdd, Nat.reduceLeDiff, Nat.reduceEqDiff, Int.reduceEq, not_false_eq_true, Int.reduceToNat]
  by_cases c1 : v.num = 0
  case neg =>
    simp only [decide_eq_false c1, Bool.false_and, Bool.not_false, go_sem, Nat.reduceBEq]
    exact ⟨rfl, Ext.refl _⟩
  simp only [decide_eq_true c1, decide_true, decide_false, Bool.true_and, Bool.not_true, dk, go_sem, Nat.reduceBEq, Int.reduceEq]
  try simp only [dk, dl0, dl1, dl2, dl3, dp, dm, ds, d23, d34, d12, decide_true, decide_false, Bool.true_and, Bool.false_and, Bool.and_true, Bool.and_false, Bool.or_true, Bool.or_false, Bool.true_or, Bool.false_or, Bool.not_true, Bool.not_false, go_sem, Nat.reduceBEq, Nat.reduceAdd, Nat.reduceLeDiff, Nat.reduceEqDiff, Int.reduceEq, not_false_eq_true, Int.reduceToNat]
  by_cases c2 : v.text = ⟨#[]⟩
  case neg =>
    simp only [decide_eq_false c2, Bool.false_and, go_sem, Nat.reduceBEq]
    exact ⟨rfl, Ext.refl _⟩
  simp only [decide_eq_true c2, Bool.true_and, dl1, go_sem, Nat.reduceBEq]
  try simp only [dk, dl0, dl1, dl2, dl3, dp, dm, ds, d23, d34, d12, decide_true, decide_false, Bool.true_and, Bool.false_and, Bool.and_true, Bool.and_false, Bool.or_true, Bool.or_false, Bool.true_or, Bool.false_or, Bool.not_true, Bool.not_false, go_sem, Nat.reduceBEq, Nat.reduceAdd, Nat.reduceLeDiff, Nat.reduceEqDiff, Int.reduceEq, not_false_eq_true, Int.reduceToNat]
  by_cases l1 : v.kids.length = 1
  · have l11 : v.kids.length - 1 = 0 := by omega
    have hw : IntKind.i64.wrap (((v.kids.length : Nat) : Int) - 1) = ((0 : Nat) : Int) := by rw [IntWalk.i64_in _ (by omega)]; omega
    rw [l11]
    simp only [decide_eq_true l1, hw, Bool.true_and, Bool.true_or, go_sem, Nat.reduceBEq]
    have kl1 : 0 < v.kids.length := by omega
    obtain ⟨bk1, ok1, ek1, hatk1⟩ := hat (by omega)
    cases ek1
    have ixk1 : ixA (some 4) (some ⟨bk1, ok1, none⟩) v.kids.length (0 : Int) = some (.pointer (some ⟨bk1, ok1 + 0 * 4, none⟩)) := ix_nat (i := 0) kl1
    try simp only [ix_nat kl1, go_sem, Nat.reduceBEq]
    refine hsem_node tyS29 hatk1 hr (kid_get kl1) (by omega) fun sk1 rk1 => ?_
    obtain ⟨ak1, ck1, _, rfl, _⟩ := rk1.rows (by decide) (kid v.kids (0)).kids.length (fm_len Nd.dt_len _)
    try simp only [go_sem, Nat.reduceBEq]
    refine ((ih (kid v.kids (0)) (Nd.size_lt (kid_mem kl1))).1 (kid_bulk (kid_mem kl1) (by omega)) _ _ rk1 hM).mono ?_
    rintro _ g11 ⟨rfl, e11⟩
    try simp only [go_sem, Nat.reduceBEq]
    have x11 : Ext h g11 := e11
    exact ⟨rfl, x11⟩
  by_cases l2 : v.kids.length = 2
  case neg =>
    simp only [decide_eq_false l1, decide_eq_false l2, dl2, Bool.false_and, Bool.or_false, go_sem, Nat.reduceBEq]
    exact ⟨rfl, Ext.refl _⟩
  have l12 : v.kids.length - 1 = 1 := by omega
  have hw : IntKind.i64.wrap (((v.kids.length : Nat) : Int) - 1) = ((1 : Nat) : Int) := by rw [IntWalk.i64_in _ (by omega)]; omega
  rw [l12]
  simp only [decide_eq_false l1, decide_eq_true l2, dl2, Bool.true_and, Bool.false_or, go_sem, Nat.reduceBEq]
  have kl1 : 0 < v.kids.length := by omega
  obtain ⟨bk1, ok1, ek1, hatk1⟩ := hat (by omega)
  cases ek1
  have ixk1 : ixA (some 4) (some ⟨bk1, ok1, none⟩) v.kids.length (0 : Int) = some (.pointer (some ⟨bk1, ok1 + 0 * 4, none⟩)) := ix_nat (i := 0) kl1
  try simp only [ixk1, go_sem, Nat.reduceBEq]
  refine hsem_node tyS29 hatk1 hr (kid_get kl1) (by omega) fun sk1 rk1 => ?_
  obtain ⟨ak1, ck1, _, rfl, _⟩ := rk1.rows (by decide) (kid v.kids (0)).kids.length (fm_len Nd.dt_len _)
  try simp only [go_sem, Nat.reduceBEq]
  refine (iVar (kid v.kids 0) (kid_bulk (kid_mem kl1) (by omega)) _ _ rk1 hM).mono ?_
  rintro _ g3 ⟨rfl, e3⟩
  try simp only [go_sem, Nat.reduceBEq]
  have x3 : Ext h g3 := e3
  cases c3 : nVar nmB (kid v.kids 0) with
  | false =>
    simp only [Bool.false_and, go_sem, Nat.reduceBEq]
    exact ⟨rfl, x3⟩
  | true =>
  simp only [Bool.true_and, go_sem, Nat.reduceBEq]
  try simp only [dk, dl0, dl1, dl2, dl3, dp, dm, ds, d23, d34, d12, decide_true, decide_false, Bool.true_and, Bool.false_and, Bool.and_true, Bool.and_false, Bool.or_true, Bool.or_false, Bool.true_or, Bool.false_or, Bool.not_true, Bool.not_false, go_sem, Nat.reduceBEq, Nat.reduceAdd, Nat.reduceLeDiff, Nat.reduceEqDiff, Int.reduceEq, not_false_eq_true, Int.reduceToNat]
  try simp only [hw, go_sem]
  have kl2 : 1 < v.kids.length := by omega
  obtain ⟨bk2, ok2, ek2, hatk2⟩ := hat (by omega)
  cases ek2
  have ixk2 : ixA (some 4) (some ⟨bk1, ok1, none⟩) v.kids.length (1 : Int) = some (.pointer (some ⟨bk1, ok1 + 1 * 4, none⟩)) := ix_nat (i := 1) kl2
  try simp only [ix_nat kl2, go_sem, Nat.reduceBEq]
  refine hsem_node tyS29 (hatk2.mono x3) (hr.mono x3) (kid_get kl2) (by omega) fun sk2 rk2 => ?_
  obtain ⟨ak2, ck2, _, rfl, _⟩ := rk2.rows (by decide) (kid v.kids (1)).kids.length (fm_len Nd.dt_len _)
  try simp only [go_sem, Nat.reduceBEq]
  refine ((ih (kid v.kids (1)) (Nd.size_lt (kid_mem kl2))).1 (kid_bulk (kid_mem kl2) (by omega)) _ _ rk2 (hM.ext x3)).mono ?_
  rintro _ g4 ⟨rfl, e4⟩
  try simp only [go_sem, Nat.reduceBEq]
  have x4 : Ext h g4 := (x3.trans e4)
  exact ⟨rfl, x4⟩
set_option maxHeartbeats 800000 in
theorem iSt_47 (v : Nd) (hbk : v.bulk ≤ 1048576) (ih : ∀ e : Nd, e.size < v.size → IE e ∧ IS e) (hk : v.kind = 47) (sl : Value) (h : Hp) (rd : RdN h v.kids sl) (hM : Mx h) : ACalls Try.prog 29 #[.agg #[.int .i64 v.kind, .int .i64 v.num, .string v.text, sl]] h (Is (.bool (sm v)) h) := by
  have hB := Nd.bulk_eq v
  have hL := Nd.bulks_len v.kids
  obtain ⟨a, c, xs, rfl, hc, hr, hat⟩ := rd.rows (by decide) v.kids.length (fm_len Nd.dt_len _)
  have dl0 : decide (((v.kids.length : Nat) : Int) = 0) = decide (v.kids.length = 0) := decide_eq_decide.2 (by omega)
  have dl1 : decide (((v.kids.length : Nat) : Int) = 1) = decide (v.kids.length = 1) := decide_eq_decide.2 (by omega)
  have dl2 : decide (((v.kids.length : Nat) : Int) = 2) = decide (v.kids.length = 2) := decide_eq_decide.2 (by omega)
  have dl3 : decide (((v.kids.length : Nat) : Int) = 3) = decide (v.kids.length = 3) := decide_eq_decide.2 (by omega)
  have dp : decide ((1 : Int) ≤ ((v.kids.length : Nat) : Int)) = decide (1 ≤ v.kids.length) := decide_eq_decide.2 (by omega)
  have dm : decide (((v.kids.length : Nat) : Int) ≤ 1) = decide (v.kids.length ≤ 1) := decide_eq_decide.2 (by omega)
  have ds : decide (((v.text.size : Nat) : Int) ≤ 400) = decide (v.text.size ≤ 400) := decide_eq_decide.2 (by omega)
  have d23 : decide ((2 : Int) ≤ ((v.kids.length : Nat) : Int) ∧ ((v.kids.length : Nat) : Int) ≤ 3) = decide (2 ≤ v.kids.length ∧ v.kids.length ≤ 3) := decide_eq_decide.2 (by omega)
  have d34 : decide ((3 : Int) ≤ ((v.kids.length : Nat) : Int) ∧ ((v.kids.length : Nat) : Int) ≤ 4) = decide (3 ≤ v.kids.length ∧ v.kids.length ≤ 4) := decide_eq_decide.2 (by omega)
  have d12 : decide ((1 : Int) ≤ ((v.kids.length : Nat) : Int) ∧ ((v.kids.length : Nat) : Int) ≤ 2) = decide (1 ≤ v.kids.length ∧ v.kids.length ≤ 2) := decide_eq_decide.2 (by omega)
  have dk : ∀ n : Int, decide (v.kind = n) = decide ((47 : Int) = n) := fun n => by rw [hk]
  have ex : sm v = (decide (v.num = 0) && (decide (v.text.size ≤ 400) && (decide (v.kids.length = 0)))) := by
    rw [sm_fix]
    unfold stF
    rw [if_neg (by omega), if_neg (by omega), if_neg (by omega), if_neg (by omega), if_neg (by omega), if_neg (by omega), if_neg (by omega), if_neg (by omega), if_neg (by omega), if_neg (by omega), if_pos (by omega)]
  rw [ex]
  (refine enter Try.func29 rfl rfl (by kernel_rfl) [] ?_; simp only [go_sem, Nat.reduceBEq])
  try simp only [dk, dl0, dl1, dl2, dl3, dp, dm, ds, d23, d34, d12, decide_true, decide_false, Bool.true_and, Bool.false_and, Bool.and_true, Bool.and_false, Bool.or_true, Bool.or_false, Bool.true_or, Bool.false_or, Bool.not_true, Bool.not_false, go_sem, Nat.reduceBEq, Nat.reduceAdd, Nat.reduceLeDiff, Nat.reduceEqDiff, Int.reduceEq, not_false_eq_true, Int.reduceToNat]
  by_cases c1 : v.num = 0
  case neg =>
    simp only [decide_eq_false c1, Bool.false_and, Bool.not_false, go_sem, Nat.reduceBEq]
    exact ⟨rfl, Ext.refl _⟩
  simp only [decide_eq_true c1, decide_true, decide_false, Bool.true_and, Bool.not_true, dk, ds, go_sem, Nat.reduceBEq, Int.reduceEq]
  try simp only [dk, dl0, dl1, dl2, dl3, dp, dm, ds, d23, d34, d12, decide_true, decide_false, Bool.true_and, Bool.false_and, Bool.and_true, Bool.and_false, Bool.or_true, Bool.or_false, Bool.true_or, Bool.false_or, Bool.not_true, Bool.not_false, go_sem, Nat.reduceBEq, Nat.reduceAdd, Nat.reduceLeDiff, Nat.reduceEqDiff, Int.reduceEq, not_false_eq_true, Int.reduceToNat]
  by_cases c2 : v.text.size ≤ 400
  case neg =>
    simp only [decide_eq_false c2, Bool.false_and, go_sem, Nat.reduceBEq]
    exact ⟨rfl, Ext.refl _⟩
  simp only [decide_eq_true c2, Bool.true_and, dl0, go_sem, Nat.reduceBEq]
  try simp only [dk, dl0, dl1, dl2, dl3, dp, dm, ds, d23, d34, d12, decide_true, decide_false, Bool.true_and, Bool.false_and, Bool.and_true, Bool.and_false, Bool.or_true, Bool.or_false, Bool.true_or, Bool.false_or, Bool.not_true, Bool.not_false, go_sem, Nat.reduceBEq, Nat.reduceAdd, Nat.reduceLeDiff, Nat.reduceEqDiff, Int.reduceEq, not_false_eq_true, Int.reduceToNat]
  exact ⟨rfl, Ext.refl _⟩
set_option maxHeartbeats 800000 in
theorem iSt_48 (v : Nd) (hbk : v.bulk ≤ 1048576) (ih : ∀ e : Nd, e.size < v.size → IE e ∧ IS e) (hk : v.kind = 48) (sl : Value) (h : Hp) (rd : RdN h v.kids sl) (hM : Mx h) : ACalls Try.prog 29 #[.agg #[.int .i64 v.kind, .int .i64 v.num, .string v.text, sl]] h (Is (.bool (sm v)) h) := by
  have hB := Nd.bulk_eq v
  have hL := Nd.bulks_len v.kids
  obtain ⟨a, c, xs, rfl, hc, hr, hat⟩ := rd.rows (by decide) v.kids.length (fm_len Nd.dt_len _)
  have dl0 : decide (((v.kids.length : Nat) : Int) = 0) = decide (v.kids.length = 0) := decide_eq_decide.2 (by omega)
  have dl1 : decide (((v.kids.length : Nat) : Int) = 1) = decide (v.kids.length = 1) := decide_eq_decide.2 (by omega)
  have dl2 : decide (((v.kids.length : Nat) : Int) = 2) = decide (v.kids.length = 2) := decide_eq_decide.2 (by omega)
  have dl3 : decide (((v.kids.length : Nat) : Int) = 3) = decide (v.kids.length = 3) := decide_eq_decide.2 (by omega)
  have dp : decide ((1 : Int) ≤ ((v.kids.length : Nat) : Int)) = decide (1 ≤ v.kids.length) := decide_eq_decide.2 (by omega)
  have dm : decide (((v.kids.length : Nat) : Int) ≤ 1) = decide (v.kids.length ≤ 1) := decide_eq_decide.2 (by omega)
  have ds : decide (((v.text.size : Nat) : Int) ≤ 400) = decide (v.text.size ≤ 400) := decide_eq_decide.2 (by omega)
  have d23 : decide ((2 : Int) ≤ ((v.kids.length : Nat) : Int) ∧ ((v.kids.length : Nat) : Int) ≤ 3) = decide (2 ≤ v.kids.length ∧ v.kids.length ≤ 3) := decide_eq_decide.2 (by omega)
  have d34 : decide ((3 : Int) ≤ ((v.kids.length : Nat) : Int) ∧ ((v.kids.length : Nat) : Int) ≤ 4) = decide (3 ≤ v.kids.length ∧ v.kids.length ≤ 4) := decide_eq_decide.2 (by omega)
  have d12 : decide ((1 : Int) ≤ ((v.kids.length : Nat) : Int) ∧ ((v.kids.length : Nat) : Int) ≤ 2) = decide (1 ≤ v.kids.length ∧ v.kids.length ≤ 2) := decide_eq_decide.2 (by omega)
  have dk : ∀ n : Int, decide (v.kind = n) = decide ((48 : Int) = n) := fun n => by rw [hk]
  have ex : sm v = (decide (v.num = 0) && (decide (v.text = ⟨#[]⟩) && v.kids.all sm)) := by
    rw [sm_fix]
    unfold stF
    rw [if_neg (by omega), if_neg (by omega), if_neg (by omega), if_neg (by omega), if_neg (by omega), if_neg (by omega), if_neg (by omega), if_neg (by omega), if_neg (by omega), if_neg (by omega), if_neg (by omega), if_pos (by omega)]
  rw [ex]
  (refine enter Try.func29 rfl rfl (by kernel_rfl) [] ?_; simp only [go_sem, Nat.reduceBEq])
  try simp only [dk, dl0, dl1, dl2, dl3, dp, dm, ds, d23, d34, d12, decide_true, decide_false, Bool.true_and, Bool.false_and, Bool.and_true, Bool.and_false, Bool.or_true, Bool.or_false, Bool.true_or, Bool.false_or, Bool.not_true, Bool.not_false, go_sem, Nat.reduceBEq, Nat.reduceAdd, Nat.reduceLeDiff, Nat.reduceEqDiff, Int.reduceEq, not_false_eq_true, Int.reduceToNat]
  by_cases c1 : v.num = 0
  case neg =>
    simp only [decide_eq_false c1, Bool.false_and, Bool.not_false, go_sem, Nat.reduceBEq]
    exact ⟨rfl, Ext.refl _⟩
  simp only [decide_eq_true c1, decide_true, decide_false, Bool.true_and, Bool.not_true, dk, go_sem, Nat.reduceBEq, Int.reduceEq]
  try simp only [dk, dl0, dl1, dl2, dl3, dp, dm, ds, d23, d34, d12, decide_true, decide_false, Bool.true_and, Bool.false_and, Bool.and_true, Bool.and_false, Bool.or_true, Bool.or_false, Bool.true_or, Bool.false_or, Bool.not_true, Bool.not_false, go_sem, Nat.reduceBEq, Nat.reduceAdd, Nat.reduceLeDiff, Nat.reduceEqDiff, Int.reduceEq, not_false_eq_true, Int.reduceToNat]
  refine aloop (ι := Nat) (fun i => [(213, .val (.int .i64 (i : Nat))), (212, .val (.int .i64 (v.kids.length : Nat))), (211, .val (.slice a v.kids.length c)), (4, .val (.bool (decide (v.text = ⟨#[]⟩))))]) (fun _ => []) (fun i h' => i ≤ v.kids.length ∧ Ext h h' ∧ (v.kids.drop i).all sm = v.kids.all sm) (fun i => v.kids.length - i) 0 ⟨Nat.zero_le _, Ext.refl _, rfl⟩ (by repeat (first | exact wkF_e | refine wkF_c rfl ?_)) wkB_e rfl ?_
  rintro i h1 ⟨hi, x1, hq⟩
  have hi : i ≤ v.kids.length := hi
  simp only [go_sem, Nat.reduceBEq]
  refine Br.intro (fun hb => ?_) (fun hb => ?_) <;> (try simp only [hb, go_sem, Nat.reduceBEq, Nat.reduceEqDiff])
  · have hbl : i < v.kids.length := by simpa using hb
    obtain ⟨b, off, rfl, hat'⟩ := hat (by omega)
    obtain ⟨e, he, hm⟩ := get_lt hbl
    have wsu := wrap_succ (i := i) (by omega)
    rw [drop_cons he, List.all_cons] at hq
    simp only [ix_nat hbl, go_sem, Nat.reduceBEq]
    refine hsem_node tyS29 (hat'.mono x1) (hr.mono x1) he (by omega) fun s2 rd2 => ?_
    obtain ⟨a2, c2, _, rfl, _⟩ := rd2.rows (by decide) e.kids.length (fm_len Nd.dt_len _)
    try simp only [go_sem, Nat.reduceBEq, Nat.reduceAdd, Nat.reduceLeDiff]
    refine ((ih e (Nd.size_lt hm)).2 (kid_bulk hm (by omega)) _ _ rd2 (hM.ext x1)).mono ?_
    rintro _ h2 ⟨rfl, e2⟩
    try simp only [go_sem, Nat.reduceBEq]
    cases f5 : sm e with
    | false =>
      simp only [Bool.not_false, go_sem, Nat.reduceBEq]
      rw [f5, Bool.false_and] at hq
      exact ⟨by rw [← hq]; simp, x1.trans e2⟩
    | true =>
      simp only [wsu, Bool.not_true, go_sem, Nat.reduceBEq]
      rw [f5, Bool.true_and] at hq
      exact Again.intro (i + 1) (by first | omega | (simp only; omega)) ⟨hbl, x1.trans e2, hq⟩ (by repeat (first | exact wkF_e | refine wkF_c rfl ?_)) wkB_e rfl
  · have hbl : i = v.kids.length := by simp at hb; omega
    rw [List.drop_eq_nil_of_le (by omega), List.all_nil] at hq
    rw [← hq]
    try simp only [go_sem, Nat.reduceBEq, Nat.reduceAdd, Nat.reduceLeDiff, Nat.reduceEqDiff, Int.reduceEq, not_false_eq_true, Int.reduceToNat]
    exact ⟨by simp, x1⟩
set_option maxHeartbeats 800000 in
theorem iSt_43 (v : Nd) (hbk : v.bulk ≤ 1048576) (ih : ∀ e : Nd, e.size < v.size → IE e ∧ IS e) (hk : v.kind = 43) (sl : Value) (h : Hp) (rd : RdN h v.kids sl) (hM : Mx h) : ACalls Try.prog 29 #[.agg #[.int .i64 v.kind, .int .i64 v.num, .string v.text, sl]] h (Is (.bool (sm v)) h) := by
  have hB := Nd.bulk_eq v
  have hL := Nd.bulks_len v.kids
  obtain ⟨a, c, xs, rfl, hc, hr, hat⟩ := rd.rows (by decide) v.kids.length (fm_len Nd.dt_len _)
  have dl0 : decide (((v.kids.length : Nat) : Int) = 0) = decide (v.kids.length = 0) := decide_eq_decide.2 (by omega)
  have dl1 : decide (((v.kids.length : Nat) : Int) = 1) = decide (v.kids.length = 1) := decide_eq_decide.2 (by omega)
  have dl2 : decide (((v.kids.length : Nat) : Int) = 2) = decide (v.kids.length = 2) := decide_eq_decide.2 (by omega)
  have dl3 : decide (((v.kids.length : Nat) : Int) = 3) = decide (v.kids.length = 3) := decide_eq_decide.2 (by omega)
  have dp : decide ((1 : Int) ≤ ((v.kids.length : Nat) : Int)) = decide (1 ≤ v.kids.length) := decide_eq_decide.2 (by omega)
  have dm : decide (((v.kids.length : Nat) : Int) ≤ 1) = decide (v.kids.length ≤ 1) := decide_eq_decide.2 (by omega)
  have ds : decide (((v.text.size : Nat) : Int) ≤ 400) = decide (v.text.size ≤ 400) := decide_eq_decide.2 (by omega)
  have d23 : decide ((2 : Int) ≤ ((v.kids.length : Nat) : Int) ∧ ((v.kids.length : Nat) : Int) ≤ 3) = decide (2 ≤ v.kids.length ∧ v.kids.length ≤ 3) := decide_eq_decide.2 (by omega)
  have d34 : decide ((3 : Int) ≤ ((v.kids.length : Nat) : Int) ∧ ((v.kids.length : Nat) : Int) ≤ 4) = decide (3 ≤ v.kids.length ∧ v.kids.length ≤ 4) := decide_eq_decide.2 (by omega)
  have d12 : decide ((1 : Int) ≤ ((v.kids.length : Nat) : Int) ∧ ((v.kids.length : Nat) : Int) ≤ 2) = decide (1 ≤ v.kids.length ∧ v.kids.length ≤ 2) := decide_eq_decide.2 (by omega)
  have dk : ∀ n : Int, decide (v.kind = n) = decide ((43 : Int) = n) := fun n => by rw [hk]
  have ex : sm v = (decide (v.num = 0) && (decide (v.text = ⟨#[]⟩) && (nTry nmB sm v.kids))) := by
    rw [sm_fix]
    unfold stF
    rw [if_neg (by omega), if_neg (by omega), if_neg (by omega), if_neg (by omega), if_neg (by omega), if_neg (by omega), if_neg (by omega), if_neg (by omega), if_neg (by omega), if_neg (by omega), if_neg (by omega), if_neg (by omega), if_pos (by omega)]
  rw [ex]
  (refine enter Try.func29 rfl rfl (by kernel_rfl) [] ?_; simp only [go_sem, Nat.reduceBEq])
  try simp only [dk, dl0, dl1, dl2, dl3, dp, dm, ds, d23, d34, d12, decide_true, decide_false, Bool.true_and, Bool.false_and, Bool.and_true, Bool.and_false, Bool.or_true, Bool.or_false, Bool.true_or, Bool.false_or, Bool.not_true, Bool.not_false, go_sem, Nat.reduceBEq, Nat.reduceAdd, Nat.reduceLeDiff, Nat.reduceEqDiff, Int.reduceEq, not_false_eq_true, Int.reduceToNat]
  by_cases c1 : v.num = 0
  case neg =>
    simp only [decide_eq_false c1, Bool.false_and, Bool.not_false, go_sem, Nat.reduceBEq]
    exact ⟨rfl, Ext.refl _⟩
  simp only [decide_eq_true c1, decide_true, decide_false, Bool.true_and, Bool.not_true, dk, go_sem, Nat.reduceBEq, Int.reduceEq]
  try simp only [dk, dl0, dl1, dl2, dl3, dp, dm, ds, d23, d34, d12, decide_true, decide_false, Bool.true_and, Bool.false_and, Bool.and_true, Bool.and_false, Bool.or_true, Bool.or_false, Bool.true_or, Bool.false_or, Bool.not_true, Bool.not_false, go_sem, Nat.reduceBEq, Nat.reduceAdd, Nat.reduceLeDiff, Nat.reduceEqDiff, Int.reduceEq, not_false_eq_true, Int.reduceToNat]
  by_cases c2 : v.text = ⟨#[]⟩
  case neg =>
    simp only [decide_eq_false c2, Bool.false_and, go_sem, Nat.reduceBEq]
    exact ⟨rfl, Ext.refl _⟩
  simp only [decide_eq_true c2, Bool.true_and, go_sem, Nat.reduceBEq]
  try simp only [dk, dl0, dl1, dl2, dl3, dp, dm, ds, d23, d34, d12, decide_true, decide_false, Bool.true_and, Bool.false_and, Bool.and_true, Bool.and_false, Bool.or_true, Bool.or_false, Bool.true_or, Bool.false_or, Bool.not_true, Bool.not_false, go_sem, Nat.reduceBEq, Nat.reduceAdd, Nat.reduceLeDiff, Nat.reduceEqDiff, Int.reduceEq, not_false_eq_true, Int.reduceToNat]
  refine (iTry v.kids v.size ih (fun e he => Nd.size_lt he) (by omega) _ _ rd hM).mono ?_
  rintro _ g3 ⟨rfl, e3⟩
  try simp only [go_sem, Nat.reduceBEq]
  have x3 : Ext h g3 := e3
  exact ⟨rfl, x3⟩
theorem iSt_o (v : Nd) (hbk : v.bulk ≤ 1048576) (hk : ¬ v.kind = 31 ∧ ¬ v.kind = 32 ∧ ¬ v.kind = 33 ∧ ¬ v.kind = 42 ∧ ¬ v.kind = 34 ∧ ¬ v.kind = 35 ∧ ¬ v.kind = 36 ∧ ¬ v.kind = 37 ∧ ¬ v.kind = 38 ∧ ¬ v.kind = 39 ∧ ¬ v.kind = 40 ∧ ¬ v.kind = 41 ∧ ¬ v.kind = 46 ∧ ¬ v.kind = 47 ∧ ¬ v.kind = 48 ∧ ¬ v.kind = 43) (sl : Value) (h : Hp) (rd : RdN h v.kids sl) (hM : Mx h) : ACalls Try.prog 29 #[.agg #[.int .i64 v.kind, .int .i64 v.num, .string v.text, sl]] h (Is (.bool (sm v)) h) := by
  have hB := Nd.bulk_eq v
  have hL := Nd.bulks_len v.kids
  obtain ⟨a, c, xs, rfl, hc, hr, hat⟩ := rd.rows (by decide) v.kids.length (fm_len Nd.dt_len _)
  have d31 : decide (v.kind = 31) = false := decide_eq_false (by omega)
  have d32 : decide (v.kind = 32) = false := decide_eq_false (by omega)
  have d33 : decide (v.kind = 33) = false := decide_eq_false (by omega)
  have d42 : decide (v.kind = 42) = false := decide_eq_false (by omega)
  have d34 : decide (v.kind = 34) = false := decide_eq_false (by omega)
  have d35 : decide (v.kind = 35) = false := decide_eq_false (by omega)
  have d36 : decide (v.kind = 36) = false := decide_eq_false (by omega)
  have d37 : decide (v.kind = 37) = false := decide_eq_false (by omega)
  have d38 : decide (v.kind = 38) = false := decide_eq_false (by omega)
  have d39 : decide (v.kind = 39) = false := decide_eq_false (by omega)
  have d40 : decide (v.kind = 40) = false := decide_eq_false (by omega)
  have d41 : decide (v.kind = 41) = false := decide_eq_false (by omega)
  have d46 : decide (v.kind = 46) = false := decide_eq_false (by omega)
  have d47 : decide (v.kind = 47) = false := decide_eq_false (by omega)
  have d48 : decide (v.kind = 48) = false := decide_eq_false (by omega)
  have d43 : decide (v.kind = 43) = false := decide_eq_false (by omega)
  have ex : sm v = (decide (v.num = 0) && false) := by
    rw [sm_fix]
    unfold stF
    rw [if_neg (by omega), if_neg (by omega), if_neg (by omega), if_neg (by omega), if_neg (by omega), if_neg (by omega), if_neg (by omega), if_neg (by omega), if_neg (by omega), if_neg (by omega), if_neg (by omega), if_neg (by omega), if_neg (by omega)]
  rw [ex]
  (refine enter Try.func29 rfl rfl (by kernel_rfl) [] ?_; simp only [go_sem, Nat.reduceBEq])
  try simp only [Bool.and_false, go_sem]
  by_cases c1 : v.num = 0
  case neg =>
    simp only [decide_eq_false c1, Bool.not_false, go_sem, Nat.reduceBEq]
    exact ⟨rfl, Ext.refl _⟩
  simp only [decide_eq_true c1, d31, d32, d33, d42, d34, d35, d36, d37, d38, d39, d40, d41, d46, d47, d48, d43, Bool.not_true, go_sem, Nat.reduceBEq]
  exact ⟨rfl, Ext.refl _⟩

theorem iSt (v : Nd) (ih : ∀ e : Nd, e.size < v.size → IE e ∧ IS e) : IS v := fun hbk sl h rd hM => by
  by_cases k31 : v.kind = 31
  · exact iSt_31 v hbk ih k31 sl h rd hM
  by_cases k32 : v.kind = 32
  · exact iSt_32 v hbk ih k32 sl h rd hM
  by_cases k33 : v.kind = 33
  · exact iSt_33 v hbk ih k33 sl h rd hM
  by_cases k42 : v.kind = 42
  · exact iSt_42 v hbk ih k42 sl h rd hM
  by_cases k34 : v.kind = 34
  · exact iSt_34 v hbk ih k34 sl h rd hM
  by_cases k35 : v.kind = 35
  · exact iSt_35 v hbk ih k35 sl h rd hM
  by_cases k36 : v.kind = 36
  · exact iSt_36 v hbk ih k36 sl h rd hM
  by_cases k37 : v.kind = 37
  · exact iSt_37 v hbk ih k37 sl h rd hM
  by_cases k38 : v.kind = 38
  · exact iSt_38 v hbk ih k38 sl h rd hM
  by_cases k39 : v.kind = 39
  · exact iSt_39 v hbk ih k39 sl h rd hM
  by_cases k40 : v.kind = 40
  · exact iSt_40 v hbk ih k40 sl h rd hM
  by_cases k41 : v.kind = 41
  · exact iSt_41 v hbk ih k41 sl h rd hM
  by_cases k46 : v.kind = 46
  · exact iSt_46 v hbk ih k46 sl h rd hM
  by_cases k47 : v.kind = 47
  · exact iSt_47 v hbk ih k47 sl h rd hM
  by_cases k48 : v.kind = 48
  · exact iSt_48 v hbk ih k48 sl h rd hM
  by_cases k43 : v.kind = 43
  · exact iSt_43 v hbk ih k43 sl h rd hM
  exact iSt_o v hbk ⟨k31, k32, k33, k42, k34, k35, k36, k37, k38, k39, k40, k41, k46, k47, k48, k43⟩ sl h rd hM
theorem iES (v : Nd) : IE v ∧ IS v := by
  induction hn : v.size using Nat.strongRecOn generalizing v with
  | _ n ih =>
    have ih' : ∀ e : Nd, e.size < v.size → IE e ∧ IS e := fun e he => ih e.size (by omega) e rfl
    exact ⟨iEx v ih', iSt v ih'⟩
end Go.Proofs.Ytamjpcmcpcdggaa
