/-
  What expressions, statements and blocks are, by the reference: the walks.
-/
import Derived.Test.YtamjpcmcpcdggaaTreeS
namespace Go.Proofs.Ytamjpcmcpcdggaa
set_option maxRecDepth 8000
open Go Go.Sx
def SE (v : Nd) : Prop := v.bulk ≤ 1048576 → ∀ (sl : Value) (h : Hp), RdN h v.kids sl → ACalls Try.prog 31 #[.agg #[.int .i64 v.kind, .int .i64 v.num, .string v.text, sl]] h (Is (.bool (xp v)) h)
def SS (v : Nd) : Prop := v.bulk ≤ 1048576 → ∀ (sl : Value) (h : Hp), RdN h v.kids sl → ACalls Try.prog 34 #[.agg #[.int .i64 v.kind, .int .i64 v.num, .string v.text, sl]] h (Is (.bool (sm v)) h)
theorem bl_S (v : Nd) : nBlk sm v = (decide (v.kind = 48) && (decide (v.num = 0) && (decide (v.text = ⟨#[]⟩) && v.kids.all sm))) := (bl_stm nmB (stcB nmB) inlB v).symm
theorem sAll (l : List Nd) (ih : ∀ e ∈ l, SE e) (hb : Nd.bulks l ≤ 1048576) (sl : Value) (h : Hp) (rd : RdN h l sl) : ACalls Try.prog 54 #[sl, .int .i64 0] h (Is (.bool (l.all xp)) h) := by
  have hL := Nd.bulks_len l
  obtain ⟨a, c, xs, rfl, hc, hr, hat⟩ := rd.rows (by decide) l.length (fm_len Nd.dt_len _)
  (refine enter Try.func54 rfl rfl (by kernel_rfl) [] ?_; simp only [go_sem, Nat.reduceBEq])
  refine aloop (ι := Nat) (fun i => [(5, .val (.int .i64 (i : Nat))), (0, .val (.slice a l.length c))]) (fun _ => []) (fun i h' => i ≤ l.length ∧ Ext h h' ∧ (l.drop i).all (xp) = l.all (xp)) (fun i => l.length - i) 0 ⟨Nat.zero_le _, Ext.refl _, rfl⟩ (by repeat (first | exact wkF_e | refine wkF_c rfl ?_)) wkB_e rfl ?_
  rintro i h1 ⟨hi, x1, hq⟩
  have hi : i ≤ l.length := hi
  simp only [go_sem, Nat.reduceBEq]
  refine Br.intro (fun hbq => ?_) (fun hbq => ?_) <;> (try simp only [hbq, go_sem, Nat.reduceBEq])
  · have hbl : i < l.length := by simpa using hbq
    obtain ⟨b, off, rfl, hat'⟩ := hat (by omega)
    obtain ⟨e, he, hm⟩ := get_lt hbl
    have wsu := wrap_succ (i := i) (by omega)
    rw [drop_cons he, List.all_cons] at hq
    simp only [ix_nat hbl, go_sem, Nat.reduceBEq]
    refine hsem_node tyS29 (hat'.mono x1) (hr.mono x1) he (by omega) fun s2 rd2 => ?_
    obtain ⟨a2, c2, _, rfl, _⟩ := rd2.rows (by decide) e.kids.length (fm_len Nd.dt_len _)
    simp only [go_sem, Nat.reduceBEq]
    refine (ih e hm (kid_bulk hm hb) _ _ rd2).mono ?_
    rintro _ h2 ⟨rfl, e2⟩
    try simp only [go_sem, Nat.reduceBEq]
    refine Br.intro (fun hk => ?_) (fun hk => ?_) <;> (try simp only [hk, go_sem, Nat.reduceBEq])
    · have hk : xp e = false := by simpa using hk
      rw [hk] at hq
      exact ⟨by rw [← hq]; rfl, x1.trans e2⟩
    · have hk : xp e = true := by simpa using hk
      rw [hk] at hq
      try simp only [wsu, go_sem]
      exact Again.intro (i + 1) (by first | omega | (simp only; omega)) ⟨hbl, x1.trans e2, by simpa using hq⟩ (by repeat (first | exact wkF_e | refine wkF_c rfl ?_)) wkB_e rfl
  · have hbl : i = l.length := by simp at hbq; omega
    rw [List.drop_eq_nil_of_le (by omega)] at hq
    exact ⟨by rw [← hq]; rfl, x1⟩
theorem sBlk (v : Nd) (hbk : v.bulk ≤ 1048576) (ih : ∀ e ∈ v.kids, SS e) (sl : Value) (h : Hp) (rd : RdN h v.kids sl) : ACalls Try.prog 26 #[.agg #[.int .i64 v.kind, .int .i64 v.num, .string v.text, sl]] h (Is (.bool (nBlk sm v)) h) := by
  have hB := Nd.bulk_eq v
  have hL := Nd.bulks_len v.kids
  obtain ⟨a, c, xs, rfl, hc, hr, hat⟩ := rd.rows (by decide) v.kids.length (fm_len Nd.dt_len _)
  have dz : (0 : Int) = 0 := rfl
  rw [bl_S]
  (refine enter Try.func26 rfl rfl (by kernel_rfl) [] ?_; simp only [go_sem, Nat.reduceBEq])
  try simp only [go_sem, Nat.reduceBEq, Nat.reduceAdd, Nat.reduceLeDiff, Nat.reduceEqDiff, Int.reduceEq, not_false_eq_true, Int.reduceToNat]
  by_cases c1 : v.kind = 48
  case neg =>
    simp only [decide_eq_false c1, Bool.false_and, Bool.not_false, go_sem, Nat.reduceBEq]
    exact ⟨rfl, Ext.refl _⟩
  simp only [decide_eq_true c1, Bool.true_and, Bool.not_true, go_sem, Nat.reduceBEq]
  try simp only [dz, decide_true, decide_false, Bool.true_and, Bool.false_and, Bool.and_true, Bool.and_false, Bool.or_true, Bool.or_false, Bool.true_or, Bool.false_or, Bool.not_true, Bool.not_false, go_sem, Nat.reduceBEq, Nat.reduceAdd, Nat.reduceLeDiff, Nat.reduceEqDiff, Int.reduceEq, not_false_eq_true, Int.reduceToNat]
  by_cases c2 : v.num = 0
  case neg =>
    simp only [decide_eq_false c2, Bool.false_and, Bool.not_false, go_sem, Nat.reduceBEq]
    exact ⟨rfl, Ext.refl _⟩
  simp only [decide_eq_true c2, Bool.true_and, Bool.not_true, go_sem, Nat.reduceBEq]
  try simp only [dz, decide_true, decide_false, Bool.true_and, Bool.false_and, Bool.and_true, Bool.and_false, Bool.or_true, Bool.or_false, Bool.true_or, Bool.false_or, Bool.not_true, Bool.not_false, go_sem, Nat.reduceBEq, Nat.reduceAdd, Nat.reduceLeDiff, Nat.reduceEqDiff, Int.reduceEq, not_false_eq_true, Int.reduceToNat]
  by_cases c3 : v.text = ⟨#[]⟩
  case neg =>
    simp only [decide_eq_false c3, Bool.false_and, Bool.not_false, go_sem, Nat.reduceBEq]
    exact ⟨rfl, Ext.refl _⟩
  simp only [decide_eq_true c3, Bool.true_and, Bool.not_true, go_sem]
  try simp only [dz, decide_true, decide_false, Bool.true_and, Bool.false_and, Bool.and_true, Bool.and_false, Bool.or_true, Bool.or_false, Bool.true_or, Bool.false_or, Bool.not_true, Bool.not_false, go_sem, Nat.reduceBEq, Nat.reduceAdd, Nat.reduceLeDiff, Nat.reduceEqDiff, Int.reduceEq, not_false_eq_true, Int.reduceToNat]
  refine aloop (ι := Nat) (fun i => [(3, .val (.int .i64 (i : Nat))), (1, .box 1 0)]) (fun _ => [(1, [.int .i64 v.kind, .int .i64 v.num, .string v.text, .slice a v.kids.length c])]) (fun i h' => i ≤ v.kids.length ∧ Ext h h' ∧ (v.kids.drop i).all (sm) = v.kids.all (sm)) (fun i => v.kids.length - i) 0 ⟨Nat.zero_le _, Ext.refl _, rfl⟩ (by repeat (first | exact wkF_e | refine wkF_c rfl ?_)) (wkB_c rfl wkB_e) rfl ?_
  rintro i h1 ⟨hi, x1, hq⟩
  have hi : i ≤ v.kids.length := hi
  simp only [go_sem, Nat.reduceBEq]
  refine Br.intro (fun hbq => ?_) (fun hbq => ?_) <;> (try simp only [hbq, go_sem, Nat.reduceBEq])
  · have hbl : i < v.kids.length := by simpa using hbq
    obtain ⟨b, off, rfl, hat'⟩ := hat (by omega)
    obtain ⟨e, he, hm⟩ := get_lt hbl
    have wsu := wrap_succ (i := i) (by omega)
    rw [drop_cons he, List.all_cons] at hq
    simp only [ix_nat hbl, go_sem, Nat.reduceBEq]
    refine hsem_node tyS29 (hat'.mono x1) (hr.mono x1) he (by omega) fun s2 rd2 => ?_
    obtain ⟨a2, c2, _, rfl, _⟩ := rd2.rows (by decide) e.kids.length (fm_len Nd.dt_len _)
    simp only [go_sem, Nat.reduceBEq]
    refine (ih e hm (kid_bulk hm (by omega)) _ _ rd2).mono ?_
    rintro _ h2 ⟨rfl, e2⟩
    try simp only [go_sem, Nat.reduceBEq]
    refine Br.intro (fun hk => ?_) (fun hk => ?_) <;> (try simp only [hk, go_sem, Nat.reduceBEq])
    · have hk : sm e = false := by simpa using hk
      rw [hk] at hq
      exact ⟨by rw [← hq]; rfl, x1.trans e2⟩
    · have hk : sm e = true := by simpa using hk
      rw [hk] at hq
      try simp only [wsu, go_sem]
      exact Again.intro (i + 1) (by first | omega | (simp only; omega)) ⟨hbl, x1.trans e2, by simpa using hq⟩ (by repeat (first | exact wkF_e | refine wkF_c rfl ?_)) (wkB_c rfl wkB_e) rfl
  · have hbl : i = v.kids.length := by simp at hbq; omega
    rw [List.drop_eq_nil_of_le (by omega)] at hq
    exact ⟨by rw [← hq]; rfl, x1⟩
set_option maxHeartbeats 800000 in
theorem sUse (clo : Bool) (l : List Nd) (ih : ∀ e ∈ l, ∀ u ∈ e.kids, SS u) (hb : Nd.bulks l ≤ 1048576) (sl : Value) (h : Hp) (rd : RdN h l sl) : ACalls Try.prog 35 #[sl, .bool clo] h (Is (.bool (sUses nmB (nBlk sm) clo l)) h) := by
  have hL := Nd.bulks_len l
  obtain ⟨a, c, xs, rfl, hc, hr, hat⟩ := rd.rows (by decide) l.length (fm_len Nd.dt_len _)
  have hw : IntKind.i64.wrap (((l.length : Nat) : Int) - 1) = ((l.length : Nat) : Int) - 1 := IntWalk.i64_in _ (by omega)
  unfold sUses
  have hpl : (l.take (l.length - 1)).length = l.length - 1 := by rw [List.length_take]; omega
  have hpg : ∀ i, i < l.length - 1 → (l.take (l.length - 1))[i]? = l[i]? := fun i hi => List.getElem?_take_of_lt hi
  generalize l.take (l.length - 1) = P at *
  (refine enter Try.func35 rfl rfl (by kernel_rfl) [] ?_; simp only [go_sem, Nat.reduceBEq])
  try simp only [hw, go_sem]
  refine aloop (ι := Nat × Bool) (fun x => [(7, .val (.int .i64 (x.1 : Nat))), (6, .val (.int .i64 (((l.length : Nat) : Int) - 1))), (5, .val (.bool x.2)), (1, .val (.bool clo)), (0, .val (.slice a l.length c))]) (fun _ => []) (fun x h' => x.1 ≤ P.length ∧ Ext h h' ∧ nPars nmB clo x.2 (P.drop x.1) = nPars nmB clo false P) (fun x => P.length - x.1) (0, false) ⟨Nat.zero_le _, Ext.refl _, rfl⟩ (by repeat (first | exact wkF_e | refine wkF_c rfl ?_)) wkB_e rfl ?_
  rintro ⟨i, u⟩ h1 ⟨hi, x1, hq⟩
  have hi : i ≤ P.length := hi
  have hq : nPars nmB clo u (P.drop i) = nPars nmB clo false P := hq
  simp only [go_sem, Nat.reduceBEq]
  refine Br.intro (fun hb2 => ?_) (fun hb2 => ?_) <;> (try simp only [hb2, go_sem, Nat.reduceBEq])
  · have hb2 : ((i : Nat) : Int) < ((l.length : Nat) : Int) - 1 := by simpa using hb2
    have hbl : i < P.length := by omega
    have hbi : i < l.length := by omega
    obtain ⟨b, off, rfl, hat'⟩ := hat (by omega)
    obtain ⟨e, he, hmP⟩ := get_lt hbl
    have hel : l[i]? = some e := by rw [← hpg i (by omega)]; exact he
    have hm : e ∈ l := List.mem_of_getElem? hel
    have wsu := wrap_succ (i := i) (by omega)
    have hbe := kid_bulk hm hb
    have hkl := text_bulk e
    rw [drop_cons he, nPars] at hq
    simp only [ix_nat hbi, go_sem, Nat.reduceBEq]
    refine hsem_node tyS29 (hat'.mono x1) (hr.mono x1) hel (by omega) fun s5 rd5 => ?_
    obtain ⟨a5, c5, _, rfl, _⟩ := rd5.rows (by decide) e.kids.length (fm_len Nd.dt_len _)
    have l0 : decide ((0 : Int) < ((e.kids.length : Nat) : Int)) = !decide (e.kids.length = 0) := by rw [← decide_not]; exact decide_eq_decide.2 (by omega)
    try simp only [go_sem, Nat.reduceBEq, Nat.reduceAdd, Nat.reduceLeDiff]
    by_cases k25 : e.kind = 25
    · have k24 : decide (e.kind = 24) = false := decide_eq_false (by omega)
      rw [decide_eq_true k25, k24] at hq
      cases clo with
      | false =>
        simp only [decide_eq_true k25, k24, Bool.not_false, go_sem, Nat.reduceBEq]
        try simp only [go_sem, Nat.reduceBEq, Nat.reduceAdd, Nat.reduceLeDiff, Nat.reduceEqDiff, Int.reduceEq, not_false_eq_true, Int.reduceToNat]
        try simp only [decide_eq_true k25, k24, decide_true, decide_false, Bool.true_and, Bool.false_and, Bool.and_true, Bool.and_false, Bool.or_true, Bool.or_false, Bool.true_or, Bool.false_or, Bool.not_true, Bool.not_false, go_sem, Nat.reduceBEq, Nat.reduceAdd, Nat.reduceLeDiff, Nat.reduceEqDiff, Int.reduceEq, not_false_eq_true, Int.reduceToNat]
        simp only [Bool.and_false, Bool.false_and, Bool.or_false] at hq
        exact ⟨by rw [← hq]; simp, x1⟩
      | true =>
        simp only [decide_eq_true k25, k24, Bool.not_true, go_sem, Nat.reduceBEq]
        try simp only [decide_eq_true k25, k24, decide_true, decide_false, Bool.true_and, Bool.false_and, Bool.and_true, Bool.and_false, Bool.or_true, Bool.or_false, Bool.true_or, Bool.false_or, Bool.not_true, Bool.not_false, go_sem, Nat.reduceBEq, Nat.reduceAdd, Nat.reduceLeDiff, Nat.reduceEqDiff, Int.reduceEq, not_false_eq_true, Int.reduceToNat]
        try simp only [go_sem, Nat.reduceBEq, Nat.reduceAdd, Nat.reduceLeDiff, Nat.reduceEqDiff, Int.reduceEq, not_false_eq_true, Int.reduceToNat]
        (refine (l1In_c _ _ _ _).mono ?_; rintro _ _ ⟨rfl, rfl⟩; simp only [go_sem, Nat.reduceBEq])
        by_cases c1 : 0 ≤ e.num ∧ e.num ≤ 1
        case neg =>
          simp only [decide_eq_false c1, Bool.not_false, go_sem, Nat.reduceBEq]
          simp only [decide_eq_false c1, Bool.false_and, Bool.and_false] at hq
          exact ⟨by rw [← hq]; simp, x1⟩
        simp only [decide_eq_true c1, Bool.not_true, go_sem, Nat.reduceBEq]
        try simp only [go_sem, Nat.reduceBEq, Nat.reduceAdd, Nat.reduceLeDiff, Nat.reduceEqDiff, Int.reduceEq, not_false_eq_true, Int.reduceToNat]
        refine (sGood e.text (by omega) _).mono ?_
        rintro _ h2 ⟨rfl, e2⟩
        try simp only [go_sem, Nat.reduceBEq]
        cases c2 : nmB e.text with
        | false =>
          simp only [Bool.not_false, go_sem, Nat.reduceBEq]
          simp only [c2, Bool.false_and, Bool.and_false] at hq
          exact ⟨by rw [← hq]; simp, x1.trans e2⟩
        | true =>
        simp only [l0, Bool.not_true, go_sem, Nat.reduceBEq]
        by_cases c3 : e.kids.length = 0
        case neg =>
          simp only [decide_eq_false c3, Bool.not_false, go_sem, Nat.reduceBEq]
          simp only [decide_eq_false c3, Bool.false_and, Bool.and_false] at hq
          exact ⟨by rw [← hq]; simp, x1.trans e2⟩
        simp only [decide_eq_true c3, wsu, Bool.not_true, go_sem, Nat.reduceBEq]
        simp only [decide_eq_true c1, c2, decide_eq_true c3] at hq
        exact Again.intro (i + 1, true) (by first | omega | (simp only; omega)) ⟨hbl, x1.trans e2, by simpa using hq⟩ (by repeat (first | exact wkF_e | refine wkF_c rfl ?_)) wkB_e rfl
    · rw [decide_eq_false k25] at hq
      by_cases k24 : e.kind = 24
      case neg =>
        simp only [decide_eq_false k25, decide_eq_false k24, Bool.not_false, go_sem, Nat.reduceBEq]
        try simp only [decide_eq_false k25, decide_eq_false k24, decide_true, decide_false, Bool.true_and, Bool.false_and, Bool.and_true, Bool.and_false, Bool.or_true, Bool.or_false, Bool.true_or, Bool.false_or, Bool.not_true, Bool.not_false, go_sem, Nat.reduceBEq, Nat.reduceAdd, Nat.reduceLeDiff, Nat.reduceEqDiff, Int.reduceEq, not_false_eq_true, Int.reduceToNat]
        rw [decide_eq_false k24] at hq
        simp only [Bool.false_and, Bool.or_false] at hq
        exact ⟨by rw [← hq]; simp, x1⟩
      rw [decide_eq_true k24] at hq
      cases u with
      | true =>
        simp only [decide_eq_false k25, decide_eq_true k24, Bool.not_true, Bool.not_false, go_sem, Nat.reduceBEq]
        try simp only [decide_eq_false k25, decide_eq_true k24, decide_true, decide_false, Bool.true_and, Bool.false_and, Bool.and_true, Bool.and_false, Bool.or_true, Bool.or_false, Bool.true_or, Bool.false_or, Bool.not_true, Bool.not_false, go_sem, Nat.reduceBEq, Nat.reduceAdd, Nat.reduceLeDiff, Nat.reduceEqDiff, Int.reduceEq, not_false_eq_true, Int.reduceToNat]
        simp only [Bool.and_false, Bool.false_and, Bool.or_false, Bool.not_true] at hq
        exact ⟨by rw [← hq]; simp, x1⟩
      | false =>
        simp only [decide_eq_false k25, decide_eq_true k24, Bool.not_true, Bool.not_false, go_sem, Nat.reduceBEq]
        try simp only [decide_eq_false k25, decide_eq_true k24, decide_true, decide_false, Bool.true_and, Bool.false_and, Bool.and_true, Bool.and_false, Bool.or_true, Bool.or_false, Bool.true_or, Bool.false_or, Bool.not_true, Bool.not_false, go_sem, Nat.reduceBEq, Nat.reduceAdd, Nat.reduceLeDiff, Nat.reduceEqDiff, Int.reduceEq, not_false_eq_true, Int.reduceToNat]
        try simp only [go_sem, Nat.reduceBEq, Nat.reduceAdd, Nat.reduceLeDiff, Nat.reduceEqDiff, Int.reduceEq, not_false_eq_true, Int.reduceToNat]
        (refine (l1In_c _ _ _ _).mono ?_; rintro _ _ ⟨rfl, rfl⟩; simp only [go_sem, Nat.reduceBEq])
        by_cases c1 : 0 ≤ e.num ∧ e.num ≤ 1
        case neg =>
          simp only [decide_eq_false c1, Bool.not_false, go_sem, Nat.reduceBEq]
          simp only [decide_eq_false c1, Bool.false_and, Bool.and_false] at hq
          exact ⟨by rw [← hq]; simp, x1⟩
        simp only [decide_eq_true c1, Bool.not_true, go_sem, Nat.reduceBEq]
        try simp only [go_sem, Nat.reduceBEq, Nat.reduceAdd, Nat.reduceLeDiff, Nat.reduceEqDiff, Int.reduceEq, not_false_eq_true, Int.reduceToNat]
        refine (sGood e.text (by omega) _).mono ?_
        rintro _ h2 ⟨rfl, e2⟩
        try simp only [go_sem, Nat.reduceBEq]
        cases c2 : nmB e.text with
        | false =>
          simp only [Bool.not_false, go_sem, Nat.reduceBEq]
          simp only [c2, Bool.false_and, Bool.and_false] at hq
          exact ⟨by rw [← hq]; simp, x1.trans e2⟩
        | true =>
        simp only [l0, Bool.not_true, go_sem, Nat.reduceBEq]
        by_cases c3 : e.kids.length = 0
        case neg =>
          simp only [decide_eq_false c3, Bool.not_false, go_sem, Nat.reduceBEq]
          simp only [decide_eq_false c3, Bool.false_and, Bool.and_false] at hq
          exact ⟨by rw [← hq]; simp, x1.trans e2⟩
        simp only [decide_eq_true c3, wsu, Bool.not_true, go_sem, Nat.reduceBEq]
        simp only [decide_eq_true c1, c2, decide_eq_true c3] at hq
        exact Again.intro (i + 1, false) (by first | omega | (simp only; omega)) ⟨hbl, x1.trans e2, by simpa using hq⟩ (by repeat (first | exact wkF_e | refine wkF_c rfl ?_)) wkB_e rfl
  · have hb2 : ¬ ((i : Nat) : Int) < ((l.length : Nat) : Int) - 1 := by simpa using hb2
    rw [List.drop_eq_nil_of_le (by omega), nPars] at hq
    rw [← hq]
    try simp only [go_sem]
    by_cases hn : 0 < l.length
    case neg =>
      have n0 : decide ((0 : Int) ≤ ((l.length : Nat) : Int) - 1) = false := decide_eq_false (by omega)
      simp only [n0, decide_eq_false hn, Bool.false_and, go_sem, Nat.reduceBEq]
      exact ⟨rfl, x1⟩
    have n0 : decide ((0 : Int) ≤ ((l.length : Nat) : Int) - 1) = true := decide_eq_true (by omega)
    have n0b : decide ((0 : Int) ≤ ((l.length - 1 : Nat) : Int)) = true := decide_eq_true (by omega)
    have hw2 : ((l.length : Nat) : Int) - 1 = ((l.length - 1 : Nat) : Int) := by omega
    have hl1 : l.length - 1 < l.length := by omega
    obtain ⟨b, off, rfl, hat'⟩ := hat hn
    simp only [n0b, hw2, decide_eq_true hn, ix_nat hl1, Bool.true_and, go_sem, Nat.reduceBEq]
    refine hsem_node tyS29 (hat'.mono x1) (hr.mono x1) (kid_get hl1) (by omega) fun s2 rd2 => ?_
    obtain ⟨a2, c2, _, rfl, _⟩ := rd2.rows (by decide) (kid l (l.length - 1)).kids.length (fm_len Nd.dt_len _)
    try simp only [go_sem, Nat.reduceBEq]
    refine (sBlk _ (kid_bulk (kid_mem hl1) hb) (ih _ (kid_mem hl1)) _ _ rd2).mono ?_
    rintro _ g1 ⟨rfl, y1⟩
    try simp only [go_sem, Nat.reduceBEq]
    exact ⟨rfl, x1.trans y1⟩
set_option maxHeartbeats 800000 in
theorem sEx_1 (v : Nd) (hbk : v.bulk ≤ 1048576) (ih : ∀ e : Nd, e.size < v.size → SE e ∧ SS e) (hk : v.kind = 1) (sl : Value) (h : Hp) (rd : RdN h v.kids sl) : ACalls Try.prog 31 #[.agg #[.int .i64 v.kind, .int .i64 v.num, .string v.text, sl]] h (Is (.bool (xp v)) h) := by
  have hB := Nd.bulk_eq v
  have hL := Nd.bulks_len v.kids
  obtain ⟨a, c, xs, rfl, hc, hr, hat⟩ := rd.rows (by decide) v.kids.length (fm_len Nd.dt_len _)
  have dl0 : decide (((v.kids.length : Nat) : Int) = 0) = decide (v.kids.length = 0) := decide_eq_decide.2 (by omega)
  have dl1 : decide (((v.kids.length : Nat) : Int) = 1) = decide (v.kids.length = 1) := decide_eq_decide.2 (by omega)
  have dl2 : decide (((v.kids.length : Nat) : Int) = 2) = decide (v.kids.length = 2) := decide_eq_decide.2 (by omega)
  have dl3 : decide (((v.kids.length : Nat) : Int) = 3) = decide (v.kids.length = 3) := decide_eq_decide.2 (by omega)
  have dp : decide ((1 : Int) ≤ ((v.kids.length : Nat) : Int)) = decide (1 ≤ v.kids.length) := decide_eq_decide.2 (by omega)
  have dm : decide (((v.kids.length : Nat) : Int) ≤ 1) = decide (v.kids.length ≤ 1) := decide_eq_decide.2 (by omega)
  have ds : decide (((v.text.size : Nat) : Int) ≤ 400) = decide (v.text.size ≤ 400) := decide_eq_decide.2 (by omega)
  have d23 : decide ((2 : Int) ≤ ((v.kids.length : Nat) : Int) ∧ ((v.kids.length : Nat) : Int) ≤ 3) = decide (2 ≤ v.kids.length ∧ v.kids.length ≤ 3) := decide_eq_decide.2 (by omega)
  have d34 : decide ((3 : Int) ≤ ((v.kids.length : Nat) : Int) ∧ ((v.kids.length : Nat) : Int) ≤ 4) = decide (3 ≤ v.kids.length ∧ v.kids.length ≤ 4) := decide_eq_decide.2 (by omega)
  have d12 : decide ((1 : Int) ≤ ((v.kids.length : Nat) : Int) ∧ ((v.kids.length : Nat) : Int) ≤ 2) = decide (1 ≤ v.kids.length ∧ v.kids.length ≤ 2) := decide_eq_decide.2 (by omega)
  have dk : ∀ n : Int, decide (v.kind = n) = decide ((1 : Int) = n) := fun n => by rw [hk]
  have ex : xp v = (fN v && (fT v && (decide (v.kids.length = 0)))) := by
    rw [xp_S]
    unfold exT
    rw [if_pos (by omega)]
  rw [ex]
  (refine enter Try.func31 rfl rfl (by kernel_rfl) [] ?_; simp only [go_sem, Nat.reduceBEq, Nat.reduceAdd, Nat.reduceLeDiff])
  refine (sFields v hbk _ _ rd).mono ?_
  rintro _ h1 ⟨rfl, x0⟩
  try simp only [go_sem, Nat.reduceBEq]
  cases hN : fN v with
  | false =>
    simp only [Bool.false_and, Bool.not_false, go_sem, Nat.reduceBEq]
    exact ⟨rfl, x0⟩
  | true =>
  simp only [Bool.true_and, Bool.not_true, go_sem, Nat.reduceBEq]
  cases hT : fT v with
  | false =>
    simp only [Bool.false_and, Bool.not_false, go_sem, Nat.reduceBEq]
    exact ⟨rfl, x0⟩
  | true =>
  simp only [dk, dl0, decide_true, Bool.true_and, Bool.not_true, go_sem, Nat.reduceBEq]
  exact ⟨rfl, x0⟩
set_option maxHeartbeats 800000 in
theorem sEx_2 (v : Nd) (hbk : v.bulk ≤ 1048576) (ih : ∀ e : Nd, e.size < v.size → SE e ∧ SS e) (hk : v.kind = 2) (sl : Value) (h : Hp) (rd : RdN h v.kids sl) : ACalls Try.prog 31 #[.agg #[.int .i64 v.kind, .int .i64 v.num, .string v.text, sl]] h (Is (.bool (xp v)) h) := by
  have hB := Nd.bulk_eq v
  have hL := Nd.bulks_len v.kids
  obtain ⟨a, c, xs, rfl, hc, hr, hat⟩ := rd.rows (by decide) v.kids.length (fm_len Nd.dt_len _)
  have dl0 : decide (((v.kids.length : Nat) : Int) = 0) = decide (v.kids.length = 0) := decide_eq_decide.2 (by omega)
  have dl1 : decide (((v.kids.length : Nat) : Int) = 1) = decide (v.kids.length = 1) := decide_eq_decide.2 (by omega)
  have dl2 : decide (((v.kids.length : Nat) : Int) = 2) = decide (v.kids.length = 2) := decide_eq_decide.2 (by omega)
  have dl3 : decide (((v.kids.length : Nat) : Int) = 3) = decide (v.kids.length = 3) := decide_eq_decide.2 (by omega)
  have dp : decide ((1 : Int) ≤ ((v.kids.length : Nat) : Int)) = decide (1 ≤ v.kids.length) := decide_eq_decide.2 (by omega)
  have dm : decide (((v.kids.length : Nat) : Int) ≤ 1) = decide (v.kids.length ≤ 1) := decide_eq_decide.2 (by omega)
  have ds : decide (((v.text.size : Nat) : Int) ≤ 400) = decide (v.text.size ≤ 400) := decide_eq_decide.2 (by omega)
  have d23 : decide ((2 : Int) ≤ ((v.kids.length : Nat) : Int) ∧ ((v.kids.length : Nat) : Int) ≤ 3) = decide (2 ≤ v.kids.length ∧ v.kids.length ≤ 3) := decide_eq_decide.2 (by omega)
  have d34 : decide ((3 : Int) ≤ ((v.kids.length : Nat) : Int) ∧ ((v.kids.length : Nat) : Int) ≤ 4) = decide (3 ≤ v.kids.length ∧ v.kids.length ≤ 4) := decide_eq_decide.2 (by omega)
  have d12 : decide ((1 : Int) ≤ ((v.kids.length : Nat) : Int) ∧ ((v.kids.length : Nat) : Int) ≤ 2) = decide (1 ≤ v.kids.length ∧ v.kids.length ≤ 2) := decide_eq_decide.2 (by omega)
  have dk : ∀ n : Int, decide (v.kind = n) = decide ((2 : Int) = n) := fun n => by rw [hk]
  have ex : xp v = (fN v && (fT v && (decide (v.kids.length = 0)))) := by
    rw [xp_S]
    unfold exT
    rw [if_pos (by omega)]
  rw [ex]
  (refine enter Try.func31 rfl rfl (by kernel_rfl) [] ?_; simp only [go_sem, Nat.reduceBEq, Nat.reduceAdd, Nat.reduceLeDiff])
  refine (sFields v hbk _ _ rd).mono ?_
  rintro _ h1 ⟨rfl, x0⟩
  try simp only [go_sem, Nat.reduceBEq]
  cases hN : fN v with
  | false =>
    simp only [Bool.false_and, Bool.not_false, go_sem, Nat.reduceBEq]
    exact ⟨rfl, x0⟩
  | true =>
  simp only [Bool.true_and, Bool.not_true, go_sem, Nat.reduceBEq]
  cases hT : fT v with
  | false =>
    simp only [Bool.false_and, Bool.not_false, go_sem, Nat.reduceBEq]
    exact ⟨rfl, x0⟩
  | true =>
  simp only [dk, dl0, decide_true, decide_false, Bool.true_and, Bool.not_true, go_sem, Nat.reduceBEq, Int.reduceEq]
  exact ⟨rfl, x0⟩
set_option maxHeartbeats 800000 in
theorem sEx_3 (v : Nd) (hbk : v.bulk ≤ 1048576) (ih : ∀ e : Nd, e.size < v.size → SE e ∧ SS e) (hk : v.kind = 3) (sl : Value) (h : Hp) (rd : RdN h v.kids sl) : ACalls Try.prog 31 #[.agg #[.int .i64 v.kind, .int .i64 v.num, .string v.text, sl]] h (Is (.bool (xp v)) h) := by
  have hB := Nd.bulk_eq v
  have hL := Nd.bulks_len v.kids
  obtain ⟨a, c, xs, rfl, hc, hr, hat⟩ := rd.rows (by decide) v.kids.length (fm_len Nd.dt_len _)
  have dl0 : decide (((v.kids.length : Nat) : Int) = 0) = decide (v.kids.length = 0) := decide_eq_decide.2 (by omega)
  have dl1 : decide (((v.kids.length : Nat) : Int) = 1) = decide (v.kids.length = 1) := decide_eq_decide.2 (by omega)
  have dl2 : decide (((v.kids.length : Nat) : Int) = 2) = decide (v.kids.length = 2) := decide_eq_decide.2 (by omega)
  have dl3 : decide (((v.kids.length : Nat) : Int) = 3) = decide (v.kids.length = 3) := decide_eq_decide.2 (by omega)
  have dp : decide ((1 : Int) ≤ ((v.kids.length : Nat) : Int)) = decide (1 ≤ v.kids.length) := decide_eq_decide.2 (by omega)
  have dm : decide (((v.kids.length : Nat) : Int) ≤ 1) = decide (v.kids.length ≤ 1) := decide_eq_decide.2 (by omega)
  have ds : decide (((v.text.size : Nat) : Int) ≤ 400) = decide (v.text.size ≤ 400) := decide_eq_decide.2 (by omega)
  have d23 : decide ((2 : Int) ≤ ((v.kids.length : Nat) : Int) ∧ ((v.kids.length : Nat) : Int) ≤ 3) = decide (2 ≤ v.kids.length ∧ v.kids.length ≤ 3) := decide_eq_decide.2 (by omega)
  have d34 : decide ((3 : Int) ≤ ((v.kids.length : Nat) : Int) ∧ ((v.kids.length : Nat) : Int) ≤ 4) = decide (3 ≤ v.kids.length ∧ v.kids.length ≤ 4) := decide_eq_decide.2 (by omega)
  have d12 : decide ((1 : Int) ≤ ((v.kids.length : Nat) : Int) ∧ ((v.kids.length : Nat) : Int) ≤ 2) = decide (1 ≤ v.kids.length ∧ v.kids.length ≤ 2) := decide_eq_decide.2 (by omega)
  have dk : ∀ n : Int, decide (v.kind = n) = decide ((3 : Int) = n) := fun n => by rw [hk]
  have ex : xp v = (fN v && (fT v && (decide (v.kids.length = 0)))) := by
    rw [xp_S]
    unfold exT
    rw [if_pos (by omega)]
  rw [ex]
  (refine enter Try.func31 rfl rfl (by kernel_rfl) [] ?_; simp only [go_sem, Nat.reduceBEq, Nat.reduceAdd, Nat.reduceLeDiff])
  refine (sFields v hbk _ _ rd).mono ?_
  rintro _ h1 ⟨rfl, x0⟩
  try simp only [go_sem, Nat.reduceBEq]
  cases hN : fN v with
  | false =>
    simp only [Bool.false_and, Bool.not_false, go_sem, Nat.reduceBEq]
    exact ⟨rfl, x0⟩
  | true =>
  simp only [Bool.true_and, Bool.not_true, go_sem, Nat.reduceBEq]
  cases hT : fT v with
  | false =>
    simp only [Bool.false_and, Bool.not_false, go_sem, Nat.reduceBEq]
    exact ⟨rfl, x0⟩
  | true =>
  simp only [dk, dl0, decide_true, decide_false, Bool.true_and, Bool.not_true, go_sem, Nat.reduceBEq, Int.reduceEq]
  exact ⟨rfl, x0⟩
set_option maxHeartbeats 800000 in
theorem sEx_4 (v : Nd) (hbk : v.bulk ≤ 1048576) (ih : ∀ e : Nd, e.size < v.size → SE e ∧ SS e) (hk : v.kind = 4) (sl : Value) (h : Hp) (rd : RdN h v.kids sl) : ACalls Try.prog 31 #[.agg #[.int .i64 v.kind, .int .i64 v.num, .string v.text, sl]] h (Is (.bool (xp v)) h) := by
  have hB := Nd.bulk_eq v
  have hL := Nd.bulks_len v.kids
  obtain ⟨a, c, xs, rfl, hc, hr, hat⟩ := rd.rows (by decide) v.kids.length (fm_len Nd.dt_len _)
  have dl0 : decide (((v.kids.length : Nat) : Int) = 0) = decide (v.kids.length = 0) := decide_eq_decide.2 (by omega)
  have dl1 : decide (((v.kids.length : Nat) : Int) = 1) = decide (v.kids.length = 1) := decide_eq_decide.2 (by omega)
  have dl2 : decide (((v.kids.length : Nat) : Int) = 2) = decide (v.kids.length = 2) := decide_eq_decide.2 (by omega)
  have dl3 : decide (((v.kids.length : Nat) : Int) = 3) = decide (v.kids.length = 3) := decide_eq_decide.2 (by omega)
  have dp : decide ((1 : Int) ≤ ((v.kids.length : Nat) : Int)) = decide (1 ≤ v.kids.length) := decide_eq_decide.2 (by omega)
  have dm : decide (((v.kids.length : Nat) : Int) ≤ 1) = decide (v.kids.length ≤ 1) := decide_eq_decide.2 (by omega)
  have ds : decide (((v.text.size : Nat) : Int) ≤ 400) = decide (v.text.size ≤ 400) := decide_eq_decide.2 (by omega)
  have d23 : decide ((2 : Int) ≤ ((v.kids.length : Nat) : Int) ∧ ((v.kids.length : Nat) : Int) ≤ 3) = decide (2 ≤ v.kids.length ∧ v.kids.length ≤ 3) := decide_eq_decide.2 (by omega)
  have d34 : decide ((3 : Int) ≤ ((v.kids.length : Nat) : Int) ∧ ((v.kids.length : Nat) : Int) ≤ 4) = decide (3 ≤ v.kids.length ∧ v.kids.length ≤ 4) := decide_eq_decide.2 (by omega)
  have d12 : decide ((1 : Int) ≤ ((v.kids.length : Nat) : Int) ∧ ((v.kids.length : Nat) : Int) ≤ 2) = decide (1 ≤ v.kids.length ∧ v.kids.length ≤ 2) := decide_eq_decide.2 (by omega)
  have dk : ∀ n : Int, decide (v.kind = n) = decide ((4 : Int) = n) := fun n => by rw [hk]
  have ex : xp v = (fN v && (fT v && (decide (v.kids.length = 0)))) := by
    rw [xp_S]
    unfold exT
    rw [if_pos (by omega)]
  rw [ex]
  (refine enter Try.func31 rfl rfl (by kernel_rfl) [] ?_; simp only [go_sem, Nat.reduceBEq, Nat.reduceAdd, Nat.reduceLeDiff])
  refine (sFields v hbk _ _ rd).mono ?_
  rintro _ h1 ⟨rfl, x0⟩
  try simp only [go_sem, Nat.reduceBEq]
  cases hN : fN v with
  | false =>
    simp only [Bool.false_and, Bool.not_false, go_sem, Nat.reduceBEq]
    exact ⟨rfl, x0⟩
  | true =>
  simp only [Bool.true_and, Bool.not_true, go_sem, Nat.reduceBEq]
  cases hT : fT v with
  | false =>
    simp only [Bool.false_and, Bool.not_false, go_sem, Nat.reduceBEq]
    exact ⟨rfl, x0⟩
  | true =>
  simp only [dk, dl0, decide_true, decide_false, Bool.true_and, Bool.not_true, go_sem, Nat.reduceBEq, Int.reduceEq]
  exact ⟨rfl, x0⟩
set_option maxHeartbeats 800000 in
theorem sEx_5 (v : Nd) (hbk : v.bulk ≤ 1048576) (ih : ∀ e : Nd, e.size < v.size → SE e ∧ SS e) (hk : v.kind = 5) (sl : Value) (h : Hp) (rd : RdN h v.kids sl) : ACalls Try.prog 31 #[.agg #[.int .i64 v.kind, .int .i64 v.num, .string v.text, sl]] h (Is (.bool (xp v)) h) := by
  have hB := Nd.bulk_eq v
  have hL := Nd.bulks_len v.kids
  obtain ⟨a, c, xs, rfl, hc, hr, hat⟩ := rd.rows (by decide) v.kids.length (fm_len Nd.dt_len _)
  have dl0 : decide (((v.kids.length : Nat) : Int) = 0) = decide (v.kids.length = 0) := decide_eq_decide.2 (by omega)
  have dl1 : decide (((v.kids.length : Nat) : Int) = 1) = decide (v.kids.length = 1) := decide_eq_decide.2 (by omega)
  have dl2 : decide (((v.kids.length : Nat) : Int) = 2) = decide (v.kids.length = 2) := decide_eq_decide.2 (by omega)
  have dl3 : decide (((v.kids.length : Nat) : Int) = 3) = decide (v.kids.length = 3) := decide_eq_decide.2 (by omega)
  have dp : decide ((1 : Int) ≤ ((v.kids.length : Nat) : Int)) = decide (1 ≤ v.kids.length) := decide_eq_decide.2 (by omega)
  have dm : decide (((v.kids.length : Nat) : Int) ≤ 1) = decide (v.kids.length ≤ 1) := decide_eq_decide.2 (by omega)
  have ds : decide (((v.text.size : Nat) : Int) ≤ 400) = decide (v.text.size ≤ 400) := decide_eq_decide.2 (by omega)
  have d23 : decide ((2 : Int) ≤ ((v.kids.length : Nat) : Int) ∧ ((v.kids.length : Nat) : Int) ≤ 3) = decide (2 ≤ v.kids.length ∧ v.kids.length ≤ 3) := decide_eq_decide.2 (by omega)
  have d34 : decide ((3 : Int) ≤ ((v.kids.length : Nat) : Int) ∧ ((v.kids.length : Nat) : Int) ≤ 4) = decide (3 ≤ v.kids.length ∧ v.kids.length ≤ 4) := decide_eq_decide.2 (by omega)
  have d12 : decide ((1 : Int) ≤ ((v.kids.length : Nat) : Int) ∧ ((v.kids.length : Nat) : Int) ≤ 2) = decide (1 ≤ v.kids.length ∧ v.kids.length ≤ 2) := decide_eq_decide.2 (by omega)
  have dk : ∀ n : Int, decide (v.kind = n) = decide ((5 : Int) = n) := fun n => by rw [hk]
  have ex : xp v = (fN v && (fT v && (v.kids.all (nItem xp)))) := by
    rw [xp_S]
    unfold exT
    rw [if_neg (by omega), if_pos (by omega)]
  rw [ex]
  (refine enter Try.func31 rfl rfl (by kernel_rfl) [] ?_; simp only [go_sem, Nat.reduceBEq, Nat.reduceAdd, Nat.reduceLeDiff])
  refine (sFields v hbk _ _ rd).mono ?_
  rintro _ h1 ⟨rfl, x0⟩
  try simp only [go_sem, Nat.reduceBEq]
  cases hN : fN v with
  | false =>
    simp only [Bool.false_and, Bool.not_false, go_sem, Nat.reduceBEq]
    exact ⟨rfl, x0⟩
  | true =>
  simp only [Bool.true_and, Bool.not_true, go_sem, Nat.reduceBEq]
  cases hT : fT v with
  | false =>
    simp only [Bool.false_and, Bool.not_false, go_sem, Nat.reduceBEq]
    exact ⟨rfl, x0⟩
  | true =>
  simp only [dk, decide_true, decide_false, Bool.true_and, Bool.not_true, go_sem, Nat.reduceBEq, Int.reduceEq]
  refine aloop (ι := Nat) (fun i => [(6, .val (.int .i64 (i : Nat))), (5, .val (.int .i64 (v.kids.length : Nat))), (1, .box 1 0)]) (fun _ => [(1, [.int .i64 v.kind, .int .i64 v.num, .string v.text, .slice a v.kids.length c])]) (fun i h' => i ≤ v.kids.length ∧ Ext h h' ∧ (v.kids.drop i).all (nItem xp) = v.kids.all (nItem xp)) (fun i => v.kids.length - i) 0 ⟨Nat.zero_le _, x0, rfl⟩ (by repeat (first | exact wkF_e | refine wkF_c rfl ?_)) (wkB_c rfl wkB_e) rfl ?_
  rintro i h1 ⟨hi, x1, hq⟩
  have hi : i ≤ v.kids.length := hi
  simp only [go_sem, Nat.reduceBEq]
  refine Br.intro (fun hb => ?_) (fun hb => ?_) <;> (try simp only [hb, go_sem, Nat.reduceBEq, Nat.reduceEqDiff])
  · have hbl : i < v.kids.length := by simpa using hb
    obtain ⟨b, off, rfl, hat'⟩ := hat (by omega)
    obtain ⟨e, he, hm⟩ := get_lt hbl
    have wsu := wrap_succ (i := i) (by omega)
    rw [drop_cons he, List.all_cons] at hq
    rw [show nItem xp e = (decide (e.kind = 6) && (decide (e.num = 0) && (decide (e.text = ⟨#[]⟩) && (decide (1 ≤ e.kids.length ∧ e.kids.length ≤ 2) && e.kids.all xp)))) from rfl] at hq
    have hbe : e.bulk ≤ 1048576 := kid_bulk hm (by omega)
    have hBe := Nd.bulk_eq e
    have hLe := Nd.bulks_len e.kids
    have d12e : decide ((1 : Int) ≤ ((e.kids.length : Nat) : Int) ∧ ((e.kids.length : Nat) : Int) ≤ 2) = decide (1 ≤ e.kids.length ∧ e.kids.length ≤ 2) := decide_eq_decide.2 (by omega)
    simp only [ix_nat hbl, go_sem, Nat.reduceBEq]
    refine hsem_node tyS29 (hat'.mono x1) (hr.mono x1) he (by omega) fun s2 rd2 => ?_
    obtain ⟨a2, c2, _, rfl, _⟩ := rd2.rows (by decide) e.kids.length (fm_len Nd.dt_len _)
    try simp only [go_sem, Nat.reduceBEq, Nat.reduceAdd, Nat.reduceLeDiff]
    by_cases f1 : e.kind = 6
    case neg =>
      simp only [decide_eq_false f1, Bool.not_false, go_sem, Nat.reduceBEq]
      rw [decide_eq_false f1, Bool.false_and, Bool.false_and] at hq
      exact ⟨by rw [← hq], x1⟩
    simp only [decide_eq_true f1, Bool.not_true, go_sem, Nat.reduceBEq]
    rw [decide_eq_true f1, Bool.true_and] at hq
    by_cases f2 : e.num = 0
    case neg =>
      simp only [decide_eq_false f2, Bool.not_false, go_sem, Nat.reduceBEq]
      rw [decide_eq_false f2, Bool.false_and, Bool.false_and] at hq
      exact ⟨by rw [← hq], x1⟩
    simp only [decide_eq_true f2, Bool.not_true, go_sem, Nat.reduceBEq]
    rw [decide_eq_true f2, Bool.true_and] at hq
    by_cases f3 : e.text = ⟨#[]⟩
    case neg =>
      simp only [decide_eq_false f3, Bool.not_false, go_sem, Nat.reduceBEq]
      rw [decide_eq_false f3, Bool.false_and, Bool.false_and] at hq
      exact ⟨by rw [← hq], x1⟩
    simp only [decide_eq_true f3, Bool.not_true, go_sem, Nat.reduceBEq]
    rw [decide_eq_true f3, Bool.true_and] at hq
    try simp only [go_sem, Nat.reduceBEq, Nat.reduceAdd, Nat.reduceLeDiff, Nat.reduceEqDiff, Int.reduceEq, not_false_eq_true, Int.reduceToNat]
    (refine (l1In_c _ _ _ _).mono ?_; rintro _ _ ⟨rfl, rfl⟩; simp only [go_sem, Nat.reduceBEq])
    by_cases f4 : 1 ≤ e.kids.length ∧ e.kids.length ≤ 2
    case neg =>
      simp only [d12e, decide_eq_false f4, Bool.not_false, go_sem, Nat.reduceBEq]
      rw [decide_eq_false f4, Bool.false_and, Bool.false_and] at hq
      exact ⟨by rw [← hq], x1⟩
    simp only [d12e, decide_eq_true f4, Bool.not_true, go_sem, Nat.reduceBEq]
    rw [decide_eq_true f4, Bool.true_and] at hq
    try simp only [go_sem, Nat.reduceBEq, Nat.reduceAdd, Nat.reduceLeDiff, Nat.reduceEqDiff, Int.reduceEq, not_false_eq_true, Int.reduceToNat]
    refine (sAll e.kids (fun u hu => (ih u (by have := Nd.size_lt hm; have := Nd.size_lt hu; omega)).1) (by omega) _ _ rd2).mono ?_
    rintro _ h2 ⟨rfl, e2⟩
    try simp only [go_sem, Nat.reduceBEq]
    cases f5 : e.kids.all xp with
    | false =>
      simp only [Bool.not_false, go_sem, Nat.reduceBEq]
      rw [f5, Bool.false_and] at hq
      exact ⟨by rw [← hq], x1.trans e2⟩
    | true =>
      simp only [wsu, Bool.not_true, go_sem, Nat.reduceBEq]
      rw [f5, Bool.true_and] at hq
      exact Again.intro (i + 1) (by first | omega | (simp only; omega)) ⟨hbl, x1.trans e2, hq⟩ (by repeat (first | exact wkF_e | refine wkF_c rfl ?_)) (wkB_c rfl wkB_e) rfl
  · have hbl : i = v.kids.length := by simp at hb; omega
    rw [List.drop_eq_nil_of_le (by omega), List.all_nil] at hq
    rw [← hq]
    try simp only [go_sem, Nat.reduceBEq, Nat.reduceAdd, Nat.reduceLeDiff, Nat.reduceEqDiff, Int.reduceEq, not_false_eq_true, Int.reduceToNat]
    exact ⟨rfl, x1⟩
set_option maxHeartbeats 800000 in
theorem sEx_8 (v : Nd) (hbk : v.bulk ≤ 1048576) (ih : ∀ e : Nd, e.size < v.size → SE e ∧ SS e) (hk : v.kind = 8) (sl : Value) (h : Hp) (rd : RdN h v.kids sl) : ACalls Try.prog 31 #[.agg #[.int .i64 v.kind, .int .i64 v.num, .string v.text, sl]] h (Is (.bool (xp v)) h) := by
  have hB := Nd.bulk_eq v
  have hL := Nd.bulks_len v.kids
  obtain ⟨a, c, xs, rfl, hc, hr, hat⟩ := rd.rows (by decide) v.kids.length (fm_len Nd.dt_len _)
  have dl0 : decide (((v.kids.length : Nat) : Int) = 0) = decide (v.kids.length = 0) := decide_eq_decide.2 (by omega)
  have dl1 : decide (((v.kids.length : Nat) : Int) = 1) = decide (v.kids.length = 1) := decide_eq_decide.2 (by omega)
  have dl2 : decide (((v.kids.length : Nat) : Int) = 2) = decide (v.kids.length = 2) := decide_eq_decide.2 (by omega)
  have dl3 : decide (((v.kids.length : Nat) : Int) = 3) = decide (v.kids.length = 3) := decide_eq_decide.2 (by omega)
  have dp : decide ((1 : Int) ≤ ((v.kids.length : Nat) : Int)) = decide (1 ≤ v.kids.length) := decide_eq_decide.2 (by omega)
  have dm : decide (((v.kids.length : Nat) : Int) ≤ 1) = decide (v.kids.length ≤ 1) := decide_eq_decide.2 (by omega)
  have ds : decide (((v.text.size : Nat) : Int) ≤ 400) = decide (v.text.size ≤ 400) := decide_eq_decide.2 (by omega)
  have d23 : decide ((2 : Int) ≤ ((v.kids.length : Nat) : Int) ∧ ((v.kids.length : Nat) : Int) ≤ 3) = decide (2 ≤ v.kids.length ∧ v.kids.length ≤ 3) := decide_eq_decide.2 (by omega)
  have d34 : decide ((3 : Int) ≤ ((v.kids.length : Nat) : Int) ∧ ((v.kids.length : Nat) : Int) ≤ 4) = decide (3 ≤ v.kids.length ∧ v.kids.length ≤ 4) := decide_eq_decide.2 (by omega)
  have d12 : decide ((1 : Int) ≤ ((v.kids.length : Nat) : Int) ∧ ((v.kids.length : Nat) : Int) ≤ 2) = decide (1 ≤ v.kids.length ∧ v.kids.length ≤ 2) := decide_eq_decide.2 (by omega)
  have dk : ∀ n : Int, decide (v.kind = n) = decide ((8 : Int) = n) := fun n => by rw [hk]
  have ex : xp v = (fN v && (fT v && (decide (v.kids.length = 1) && (xp (kid v.kids 0))))) := by
    rw [xp_S]
    unfold exT
    rw [if_neg (by omega), if_neg (by omega), if_pos (by omega)]
  rw [ex]
  (refine enter Try.func31 rfl rfl (by kernel_rfl) [] ?_; simp only [go_sem, Nat.reduceBEq, Nat.reduceAdd, Nat.reduceLeDiff])
  refine (sFields v hbk _ _ rd).mono ?_
  rintro _ h1 ⟨rfl, x0⟩
  try simp only [go_sem, Nat.reduceBEq]
  cases hN : fN v with
  | false =>
    simp only [Bool.false_and, Bool.not_false, go_sem, Nat.reduceBEq]
    exact ⟨rfl, x0⟩
  | true =>
  simp only [Bool.true_and, Bool.not_true, go_sem, Nat.reduceBEq]
  cases hT : fT v with
  | false =>
    simp only [Bool.false_and, Bool.not_false, go_sem, Nat.reduceBEq]
    exact ⟨rfl, x0⟩
  | true =>
  simp only [dk, dl1, decide_true, decide_false, Bool.true_and, Bool.not_true, go_sem, Nat.reduceBEq, Int.reduceEq]
  by_cases c1 : v.kids.length = 1
  case neg =>
    simp only [decide_eq_false c1, Bool.false_and, go_sem, Nat.reduceBEq]
    exact ⟨rfl, x0⟩
  simp only [decide_eq_true c1, Bool.true_and, go_sem, Nat.reduceBEq]
  try simp only [dk, dl0, dl1, dl2, dl3, dp, dm, ds, d23, d34, d12, decide_true, decide_false, Bool.true_and, Bool.false_and, Bool.and_true, Bool.and_false, Bool.or_true, Bool.or_false, Bool.true_or, Bool.false_or, Bool.not_true, Bool.not_false, go_sem, Nat.reduceBEq, Nat.reduceAdd, Nat.reduceLeDiff, Nat.reduceEqDiff, Int.reduceEq, not_false_eq_true, Int.reduceToNat]
  have kl1 : 0 < v.kids.length := by omega
  obtain ⟨bk1, ok1, ek1, hatk1⟩ := hat (by omega)
  cases ek1
  have ixk1 : ixA (some 4) (some ⟨bk1, ok1, none⟩) v.kids.length (0 : Int) = some (.pointer (some ⟨bk1, ok1 + 0 * 4, none⟩)) := ix_nat (i := 0) kl1
  try simp only [ixk1, go_sem, Nat.reduceBEq]
  refine hsem_node tyS29 (hatk1.mono x0) (hr.mono x0) (kid_get kl1) (by omega) fun sk1 rk1 => ?_
  obtain ⟨ak1, ck1, _, rfl, _⟩ := rk1.rows (by decide) (kid v.kids (0)).kids.length (fm_len Nd.dt_len _)
  try simp only [go_sem, Nat.reduceBEq]
  refine ((ih (kid v.kids (0)) (Nd.size_lt (kid_mem kl1))).1 (kid_bulk (kid_mem kl1) (by omega)) _ _ rk1).mono ?_
  rintro _ g2 ⟨rfl, e2⟩
  try simp only [go_sem, Nat.reduceBEq]
  have x2 : Ext h g2 := (x0.trans e2)
  exact ⟨rfl, x2⟩
set_option maxHeartbeats 800000 in
theorem sEx_9 (v : Nd) (hbk : v.bulk ≤ 1048576) (ih : ∀ e : Nd, e.size < v.size → SE e ∧ SS e) (hk : v.kind = 9) (sl : Value) (h : Hp) (rd : RdN h v.kids sl) : ACalls Try.prog 31 #[.agg #[.int .i64 v.kind, .int .i64 v.num, .string v.text, sl]] h (Is (.bool (xp v)) h) := by
  have hB := Nd.bulk_eq v
  have hL := Nd.bulks_len v.kids
  obtain ⟨a, c, xs, rfl, hc, hr, hat⟩ := rd.rows (by decide) v.kids.length (fm_len Nd.dt_len _)
  have dl0 : decide (((v.kids.length : Nat) : Int) = 0) = decide (v.kids.length = 0) := decide_eq_decide.2 (by omega)
  have dl1 : decide (((v.kids.length : Nat) : Int) = 1) = decide (v.kids.length = 1) := decide_eq_decide.2 (by omega)
  have dl2 : decide (((v.kids.length : Nat) : Int) = 2) = decide (v.kids.length = 2) := decide_eq_decide.2 (by omega)
  have dl3 : decide (((v.kids.length : Nat) : Int) = 3) = decide (v.kids.length = 3) := decide_eq_decide.2 (by omega)
  have dp : decide ((1 : Int) ≤ ((v.kids.length : Nat) : Int)) = decide (1 ≤ v.kids.length) := decide_eq_decide.2 (by omega)
  have dm : decide (((v.kids.length : Nat) : Int) ≤ 1) = decide (v.kids.length ≤ 1) := decide_eq_decide.2 (by omega)
  have ds : decide (((v.text.size : Nat) : Int) ≤ 400) = decide (v.text.size ≤ 400) := decide_eq_decide.2 (by omega)
  have d23 : decide ((2 : Int) ≤ ((v.kids.length : Nat) : Int) ∧ ((v.kids.length : Nat) : Int) ≤ 3) = decide (2 ≤ v.kids.length ∧ v.kids.length ≤ 3) := decide_eq_decide.2 (by omega)
  have d34 : decide ((3 : Int) ≤ ((v.kids.length : Nat) : Int) ∧ ((v.kids.length : Nat) : Int) ≤ 4) = decide (3 ≤ v.kids.length ∧ v.kids.length ≤ 4) := decide_eq_decide.2 (by omega)
  have d12 : decide ((1 : Int) ≤ ((v.kids.length : Nat) : Int) ∧ ((v.kids.length : Nat) : Int) ≤ 2) = decide (1 ≤ v.kids.length ∧ v.kids.length ≤ 2) := decide_eq_decide.2 (by omega)
  have dk : ∀ n : Int, decide (v.kind = n) = decide ((9 : Int) = n) := fun n => by rw [hk]
  have ex : xp v = (fN v && (fT v && (decide (v.kids.length = 1) && (xp (kid v.kids 0))))) := by
    rw [xp_S]
    unfold exT
    rw [if_neg (by omega), if_neg (by omega), if_pos (by omega)]
  rw [ex]
  (refine enter Try.func31 rfl rfl (by kernel_rfl) [] ?_; simp only [go_sem, Nat.reduceBEq, Nat.reduceAdd, Nat.reduceLeDiff])
  refine (sFields v hbk _ _ rd).mono ?_
  rintro _ h1 ⟨rfl, x0⟩
  try simp only [go_sem, Nat.reduceBEq]
  cases hN : fN v with
  | false =>
    simp only [Bool.false_and, Bool.not_false, go_sem, Nat.reduceBEq]
    exact ⟨rfl, x0⟩
  | true =>
  simp only [Bool.true_and, Bool.not_true, go_sem, Nat.reduceBEq]
  cases hT : fT v with
  | false =>
    simp only [Bool.false_and, Bool.not_false, go_sem, Nat.reduceBEq]
    exact ⟨rfl, x0⟩
  | true =>
  simp only [dk, dl1, decide_true, decide_false, Bool.true_and, Bool.not_true, go_sem, Nat.reduceBEq, Int.reduceEq]
  by_cases c1 : v.kids.length = 1
  case neg =>
    simp only [decide_eq_false c1, Bool.false_and, go_sem, Nat.reduceBEq]
    exact ⟨rfl, x0⟩
  simp only [decide_eq_true c1, Bool.true_and, go_sem, Nat.reduceBEq]
  try simp only [dk, dl0, dl1, dl2, dl3, dp, dm, ds, d23, d34, d12, decide_true, decide_false, Bool.true_and, Bool.false_and, Bool.and_true, Bool.and_false, Bool.or_true, Bool.or_false, Bool.true_or, Bool.false_or, Bool.not_true, Bool.not_false, go_sem, Nat.reduceBEq, Nat.reduceAdd, Nat.reduceLeDiff, Nat.reduceEqDiff, Int.reduceEq, not_false_eq_true, Int.reduceToNat]
  have kl1 : 0 < v.kids.length := by omega
  obtain ⟨bk1, ok1, ek1, hatk1⟩ := hat (by omega)
  cases ek1
  have ixk1 : ixA (some 4) (some ⟨bk1, ok1, none⟩) v.kids.length (0 : Int) = some (.pointer (some ⟨bk1, ok1 + 0 * 4, none⟩)) := ix_nat (i := 0) kl1
  try simp only [ixk1, go_sem, Nat.reduceBEq]
  refine hsem_node tyS29 (hatk1.mono x0) (hr.mono x0) (kid_get kl1) (by omega) fun sk1 rk1 => ?_
  obtain ⟨ak1, ck1, _, rfl, _⟩ := rk1.rows (by decide) (kid v.kids (0)).kids.length (fm_len Nd.dt_len _)
  try simp only [go_sem, Nat.reduceBEq]
  refine ((ih (kid v.kids (0)) (Nd.size_lt (kid_mem kl1))).1 (kid_bulk (kid_mem kl1) (by omega)) _ _ rk1).mono ?_
  rintro _ g2 ⟨rfl, e2⟩
  try simp only [go_sem, Nat.reduceBEq]
  have x2 : Ext h g2 := (x0.trans e2)
  exact ⟨rfl, x2⟩
set_option maxHeartbeats 800000 in
theorem sEx_7 (v : Nd) (hbk : v.bulk ≤ 1048576) (ih : ∀ e : Nd, e.size < v.size → SE e ∧ SS e) (hk : v.kind = 7) (sl : Value) (h : Hp) (rd : RdN h v.kids sl) : ACalls Try.prog 31 #[.agg #[.int .i64 v.kind, .int .i64 v.num, .string v.text, sl]] h (Is (.bool (xp v)) h) := by
  have hB := Nd.bulk_eq v
  have hL := Nd.bulks_len v.kids
  obtain ⟨a, c, xs, rfl, hc, hr, hat⟩ := rd.rows (by decide) v.kids.length (fm_len Nd.dt_len _)
  have dl0 : decide (((v.kids.length : Nat) : Int) = 0) = decide (v.kids.length = 0) := decide_eq_decide.2 (by omega)
  have dl1 : decide (((v.kids.length : Nat) : Int) = 1) = decide (v.kids.length = 1) := decide_eq_decide.2 (by omega)
  have dl2 : decide (((v.kids.length : Nat) : Int) = 2) = decide (v.kids.length = 2) := decide_eq_decide.2 (by omega)
  have dl3 : decide (((v.kids.length : Nat) : Int) = 3) = decide (v.kids.length = 3) := decide_eq_decide.2 (by omega)
  have dp : decide ((1 : Int) ≤ ((v.kids.length : Nat) : Int)) = decide (1 ≤ v.kids.length) := decide_eq_decide.2 (by omega)
  have dm : decide (((v.kids.length : Nat) : Int) ≤ 1) = decide (v.kids.length ≤ 1) := decide_eq_decide.2 (by omega)
  have ds : decide (((v.text.size : Nat) : Int) ≤ 400) = decide (v.text.size ≤ 400) := decide_eq_decide.2 (by omega)
  have d23 : decide ((2 : Int) ≤ ((v.kids.length : Nat) : Int) ∧ ((v.kids.length : Nat) : Int) ≤ 3) = decide (2 ≤ v.kids.length ∧ v.kids.length ≤ 3) := decide_eq_decide.2 (by omega)
  have d34 : decide ((3 : Int) ≤ ((v.kids.length : Nat) : Int) ∧ ((v.kids.length : Nat) : Int) ≤ 4) = decide (3 ≤ v.kids.length ∧ v.kids.length ≤ 4) := decide_eq_decide.2 (by omega)
  have d12 : decide ((1 : Int) ≤ ((v.kids.length : Nat) : Int) ∧ ((v.kids.length : Nat) : Int) ≤ 2) = decide (1 ≤ v.kids.length ∧ v.kids.length ≤ 2) := decide_eq_decide.2 (by omega)
  have dk : ∀ n : Int, decide (v.kind = n) = decide ((7 : Int) = n) := fun n => by rw [hk]
  have ex : xp v = (fN v && (fT v && (decide (v.kids.length = 2) && (v.kids.all xp)))) := by
    rw [xp_S]
    unfold exT
    rw [if_neg (by omega), if_neg (by omega), if_neg (by omega), if_pos (by omega)]
  rw [ex]
  (refine enter Try.func31 rfl rfl (by kernel_rfl) [] ?_; simp only [go_sem, Nat.reduceBEq, Nat.reduceAdd, Nat.reduceLeDiff])
  refine (sFields v hbk _ _ rd).mono ?_
  rintro _ h1 ⟨rfl, x0⟩
  try simp only [go_sem, Nat.reduceBEq]
  cases hN : fN v with
  | false =>
    simp only [Bool.false_and, Bool.not_false, go_sem, Nat.reduceBEq]
    exact ⟨rfl, x0⟩
  | true =>
  simp only [Bool.true_and, Bool.not_true, go_sem, Nat.reduceBEq]
  cases hT : fT v with
  | false =>
    simp only [Bool.false_and, Bool.not_false, go_sem, Nat.reduceBEq]
    exact ⟨rfl, x0⟩
  | true =>
  simp only [dk, dl2, decide_true, decide_false, Bool.true_and, Bool.not_true, go_sem, Nat.reduceBEq, Int.reduceEq]
  by_cases c1 : v.kids.length = 2
  case neg =>
    simp only [decide_eq_false c1, Bool.false_and, go_sem, Nat.reduceBEq]
    exact ⟨rfl, x0⟩
  simp only [decide_eq_true c1, Bool.true_and, go_sem, Nat.reduceBEq]
  try simp only [dk, dl0, dl1, dl2, dl3, dp, dm, ds, d23, d34, d12, decide_true, decide_false, Bool.true_and, Bool.false_and, Bool.and_true, Bool.and_false, Bool.or_true, Bool.or_false, Bool.true_or, Bool.false_or, Bool.not_true, Bool.not_false, go_sem, Nat.reduceBEq, Nat.reduceAdd, Nat.reduceLeDiff, Nat.reduceEqDiff, Int.reduceEq, not_false_eq_true, Int.reduceToNat]
  refine (sAll v.kids (fun e he => (ih e (Nd.size_lt he)).1) (by omega) _ _ (rd.mono x0)).mono ?_
  rintro _ g2 ⟨rfl, e2⟩
  try simp only [go_sem, Nat.reduceBEq]
  have x2 : Ext h g2 := (x0.trans e2)
  exact ⟨rfl, x2⟩
set_option maxHeartbeats 800000 in
theorem sEx_10 (v : Nd) (hbk : v.bulk ≤ 1048576) (ih : ∀ e : Nd, e.size < v.size → SE e ∧ SS e) (hk : v.kind = 10) (sl : Value) (h : Hp) (rd : RdN h v.kids sl) : ACalls Try.prog 31 #[.agg #[.int .i64 v.kind, .int .i64 v.num, .string v.text, sl]] h (Is (.bool (xp v)) h) := by
  have hB := Nd.bulk_eq v
  have hL := Nd.bulks_len v.kids
  obtain ⟨a, c, xs, rfl, hc, hr, hat⟩ := rd.rows (by decide) v.kids.length (fm_len Nd.dt_len _)
  have dl0 : decide (((v.kids.length : Nat) : Int) = 0) = decide (v.kids.length = 0) := decide_eq_decide.2 (by omega)
  have dl1 : decide (((v.kids.length : Nat) : Int) = 1) = decide (v.kids.length = 1) := decide_eq_decide.2 (by omega)
  have dl2 : decide (((v.kids.length : Nat) : Int) = 2) = decide (v.kids.length = 2) := decide_eq_decide.2 (by omega)
  have dl3 : decide (((v.kids.length : Nat) : Int) = 3) = decide (v.kids.length = 3) := decide_eq_decide.2 (by omega)
  have dp : decide ((1 : Int) ≤ ((v.kids.length : Nat) : Int)) = decide (1 ≤ v.kids.length) := decide_eq_decide.2 (by omega)
  have dm : decide (((v.kids.length : Nat) : Int) ≤ 1) = decide (v.kids.length ≤ 1) := decide_eq_decide.2 (by omega)
  have ds : decide (((v.text.size : Nat) : Int) ≤ 400) = decide (v.text.size ≤ 400) := decide_eq_decide.2 (by omega)
  have d23 : decide ((2 : Int) ≤ ((v.kids.length : Nat) : Int) ∧ ((v.kids.length : Nat) : Int) ≤ 3) = decide (2 ≤ v.kids.length ∧ v.kids.length ≤ 3) := decide_eq_decide.2 (by omega)
  have d34 : decide ((3 : Int) ≤ ((v.kids.length : Nat) : Int) ∧ ((v.kids.length : Nat) : Int) ≤ 4) = decide (3 ≤ v.kids.length ∧ v.kids.length ≤ 4) := decide_eq_decide.2 (by omega)
  have d12 : decide ((1 : Int) ≤ ((v.kids.length : Nat) : Int) ∧ ((v.kids.length : Nat) : Int) ≤ 2) = decide (1 ≤ v.kids.length ∧ v.kids.length ≤ 2) := decide_eq_decide.2 (by omega)
  have dk : ∀ n : Int, decide (v.kind = n) = decide ((10 : Int) = n) := fun n => by rw [hk]
  have ex : xp v = (fN v && (fT v && (decide (v.kids.length = 2) && (v.kids.all xp)))) := by
    rw [xp_S]
    unfold exT
    rw [if_neg (by omega), if_neg (by omega), if_neg (by omega), if_pos (by omega)]
  rw [ex]
  (refine enter Try.func31 rfl rfl (by kernel_rfl) [] ?_; simp only [go_sem, Nat.reduceBEq, Nat.reduceAdd, Nat.reduceLeDiff])
  refine (sFields v hbk _ _ rd).mono ?_
  rintro _ h1 ⟨rfl, x0⟩
  try simp only [go_sem, Nat.reduceBEq]
  cases hN : fN v with
  | false =>
    simp only [Bool.false_and, Bool.not_false, go_sem, Nat.reduceBEq]
    exact ⟨rfl, x0⟩
  | true =>
  simp only [Bool.true_and, Bool.not_true, go_sem, Nat.reduceBEq]
  cases hT : fT v with
  | false =>
    simp only [Bool.false_and, Bool.not_false, go_sem, Nat.reduceBEq]
    exact ⟨rfl, x0⟩
  | true =>
  simp only [dk, dl2, decide_true, decide_false, Bool.true_and, Bool.not_true, go_sem, Nat.reduceBEq, Int.reduceEq]
  by_cases c1 : v.kids.length = 2
  case neg =>
    simp only [decide_eq_false c1, Bool.false_and, go_sem, Nat.reduceBEq]
    exact ⟨rfl, x0⟩
  simp only [decide_eq_true c1, Bool.true_and, go_sem, Nat.reduceBEq]
  try simp only [dk, dl0, dl1, dl2, dl3, dp, dm, ds, d23, d34, d12, decide_true, decide_false, Bool.true_and, Bool.false_and, Bool.and_true, Bool.and_false, Bool.or_true, Bool.or_false, Bool.true_or, Bool.false_or, Bool.not_true, Bool.not_false, go_sem, Nat.reduceBEq, Nat.reduceAdd, Nat.reduceLeDiff, Nat.reduceEqDiff, Int.reduceEq, not_false_eq_true, Int.reduceToNat]
  refine (sAll v.kids (fun e he => (ih e (Nd.size_lt he)).1) (by omega) _ _ (rd.mono x0)).mono ?_
  rintro _ g2 ⟨rfl, e2⟩
  try simp only [go_sem, Nat.reduceBEq]
  have x2 : Ext h g2 := (x0.trans e2)
  exact ⟨rfl, x2⟩
set_option maxHeartbeats 800000 in
theorem sEx_11 (v : Nd) (hbk : v.bulk ≤ 1048576) (ih : ∀ e : Nd, e.size < v.size → SE e ∧ SS e) (hk : v.kind = 11) (sl : Value) (h : Hp) (rd : RdN h v.kids sl) : ACalls Try.prog 31 #[.agg #[.int .i64 v.kind, .int .i64 v.num, .string v.text, sl]] h (Is (.bool (xp v)) h) := by
  have hB := Nd.bulk_eq v
  have hL := Nd.bulks_len v.kids
  obtain ⟨a, c, xs, rfl, hc, hr, hat⟩ := rd.rows (by decide) v.kids.length (fm_len Nd.dt_len _)
  have dl0 : decide (((v.kids.length : Nat) : Int) = 0) = decide (v.kids.length = 0) := decide_eq_decide.2 (by omega)
  have dl1 : decide (((v.kids.length : Nat) : Int) = 1) = decide (v.kids.length = 1) := decide_eq_decide.2 (by omega)
  have dl2 : decide (((v.kids.length : Nat) : Int) = 2) = decide (v.kids.length = 2) := decide_eq_decide.2 (by omega)
  have dl3 : decide (((v.kids.length : Nat) : Int) = 3) = decide (v.kids.length = 3) := decide_eq_decide.2 (by omega)
  have dp : decide ((1 : Int) ≤ ((v.kids.length : Nat) : Int)) = decide (1 ≤ v.kids.length) := decide_eq_decide.2 (by omega)
  have dm : decide (((v.kids.length : Nat) : Int) ≤ 1) = decide (v.kids.length ≤ 1) := decide_eq_decide.2 (by omega)
  have ds : decide (((v.text.size : Nat) : Int) ≤ 400) = decide (v.text.size ≤ 400) := decide_eq_decide.2 (by omega)
  have d23 : decide ((2 : Int) ≤ ((v.kids.length : Nat) : Int) ∧ ((v.kids.length : Nat) : Int) ≤ 3) = decide (2 ≤ v.kids.length ∧ v.kids.length ≤ 3) := decide_eq_decide.2 (by omega)
  have d34 : decide ((3 : Int) ≤ ((v.kids.length : Nat) : Int) ∧ ((v.kids.length : Nat) : Int) ≤ 4) = decide (3 ≤ v.kids.length ∧ v.kids.length ≤ 4) := decide_eq_decide.2 (by omega)
  have d12 : decide ((1 : Int) ≤ ((v.kids.length : Nat) : Int) ∧ ((v.kids.length : Nat) : Int) ≤ 2) = decide (1 ≤ v.kids.length ∧ v.kids.length ≤ 2) := decide_eq_decide.2 (by omega)
  have dk : ∀ n : Int, decide (v.kind = n) = decide ((11 : Int) = n) := fun n => by rw [hk]
  have ex : xp v = (fN v && (fT v && (decide (v.kids.length = 2) && (v.kids.all xp)))) := by
    rw [xp_S]
    unfold exT
    rw [if_neg (by omega), if_neg (by omega), if_neg (by omega), if_pos (by omega)]
  rw [ex]
  (refine enter Try.func31 rfl rfl (by kernel_rfl) [] ?_; simp only [go_sem, Nat.reduceBEq, Nat.reduceAdd, Nat.reduceLeDiff])
  refine (sFields v hbk _ _ rd).mono ?_
  rintro _ h1 ⟨rfl, x0⟩
  try simp only [go_sem, Nat.reduceBEq]
  cases hN : fN v with
  | false =>
    simp only [Bool.false_and, Bool.not_false, go_sem, Nat.reduceBEq]
    exact ⟨rfl, x0⟩
  | true =>
  simp only [Bool.true_and, Bool.not_true, go_sem, Nat.reduceBEq]
  cases hT : fT v with
  | false =>
    simp only [Bool.false_and, Bool.not_false, go_sem, Nat.reduceBEq]
    exact ⟨rfl, x0⟩
  | true =>
  simp only [dk, dl2, decide_true, decide_false, Bool.true_and, Bool.not_true, go_sem, Nat.reduceBEq, Int.reduceEq]
  by_cases c1 : v.kids.length = 2
  case neg =>
    simp only [decide_eq_false c1, Bool.false_and, go_sem, Nat.reduceBEq]
    exact ⟨rfl, x0⟩
  simp only [decide_eq_true c1, Bool.true_and, go_sem, Nat.reduceBEq]
  try simp only [dk, dl0, dl1, dl2, dl3, dp, dm, ds, d23, d34, d12, decide_true, decide_false, Bool.true_and, Bool.false_and, Bool.and_true, Bool.and_false, Bool.or_true, Bool.or_false, Bool.true_or, Bool.false_or, Bool.not_true, Bool.not_false, go_sem, Nat.reduceBEq, Nat.reduceAdd, Nat.reduceLeDiff, Nat.reduceEqDiff, Int.reduceEq, not_false_eq_true, Int.reduceToNat]
  refine (sAll v.kids (fun e he => (ih e (Nd.size_lt he)).1) (by omega) _ _ (rd.mono x0)).mono ?_
  rintro _ g2 ⟨rfl, e2⟩
  try simp only [go_sem, Nat.reduceBEq]
  have x2 : Ext h g2 := (x0.trans e2)
  exact ⟨rfl, x2⟩
set_option maxHeartbeats 800000 in
theorem sEx_12 (v : Nd) (hbk : v.bulk ≤ 1048576) (ih : ∀ e : Nd, e.size < v.size → SE e ∧ SS e) (hk : v.kind = 12) (sl : Value) (h : Hp) (rd : RdN h v.kids sl) : ACalls Try.prog 31 #[.agg #[.int .i64 v.kind, .int .i64 v.num, .string v.text, sl]] h (Is (.bool (xp v)) h) := by
  have hB := Nd.bulk_eq v
  have hL := Nd.bulks_len v.kids
  obtain ⟨a, c, xs, rfl, hc, hr, hat⟩ := rd.rows (by decide) v.kids.length (fm_len Nd.dt_len _)
  have dl0 : decide (((v.kids.length : Nat) : Int) = 0) = decide (v.kids.length = 0) := decide_eq_decide.2 (by omega)
  have dl1 : decide (((v.kids.length : Nat) : Int) = 1) = decide (v.kids.length = 1) := decide_eq_decide.2 (by omega)
  have dl2 : decide (((v.kids.length : Nat) : Int) = 2) = decide (v.kids.length = 2) := decide_eq_decide.2 (by omega)
  have dl3 : decide (((v.kids.length : Nat) : Int) = 3) = decide (v.kids.length = 3) := decide_eq_decide.2 (by omega)
  have dp : decide ((1 : Int) ≤ ((v.kids.length : Nat) : Int)) = decide (1 ≤ v.kids.length) := decide_eq_decide.2 (by omega)
  have dm : decide (((v.kids.length : Nat) : Int) ≤ 1) = decide (v.kids.length ≤ 1) := decide_eq_decide.2 (by omega)
  have ds : decide (((v.text.size : Nat) : Int) ≤ 400) = decide (v.text.size ≤ 400) := decide_eq_decide.2 (by omega)
  have d23 : decide ((2 : Int) ≤ ((v.kids.length : Nat) : Int) ∧ ((v.kids.length : Nat) : Int) ≤ 3) = decide (2 ≤ v.kids.length ∧ v.kids.length ≤ 3) := decide_eq_decide.2 (by omega)
  have d34 : decide ((3 : Int) ≤ ((v.kids.length : Nat) : Int) ∧ ((v.kids.length : Nat) : Int) ≤ 4) = decide (3 ≤ v.kids.length ∧ v.kids.length ≤ 4) := decide_eq_decide.2 (by omega)
  have d12 : decide ((1 : Int) ≤ ((v.kids.length : Nat) : Int) ∧ ((v.kids.length : Nat) : Int) ≤ 2) = decide (1 ≤ v.kids.length ∧ v.kids.length ≤ 2) := decide_eq_decide.2 (by omega)
  have dk : ∀ n : Int, decide (v.kind = n) = decide ((12 : Int) = n) := fun n => by rw [hk]
  have ex : xp v = (fN v && (fT v && (decide (v.kids.length = 2) && (v.kids.all xp)))) := by
    rw [xp_S]
    unfold exT
    rw [if_neg (by omega), if_neg (by omega), if_neg (by omega), if_pos (by omega)]
  rw [ex]
  (refine enter Try.func31 rfl rfl (by kernel_rfl) [] ?_; simp only [go_sem, Nat.reduceBEq, Nat.reduceAdd, Nat.reduceLeDiff])
  refine (sFields v hbk _ _ rd).mono ?_
  rintro _ h1 ⟨rfl, x0⟩
  try simp only [go_sem, Nat.reduceBEq]
  cases hN : fN v with
  | false =>
    simp only [Bool.false_and, Bool.not_false, go_sem, Nat.reduceBEq]
    exact ⟨rfl, x0⟩
  | true =>
  simp only [Bool.true_and, Bool.not_true, go_sem, Nat.reduceBEq]
  cases hT : fT v with
  | false =>
    simp only [Bool.false_and, Bool.not_false, go_sem, Nat.reduceBEq]
    exact ⟨rfl, x0⟩
  | true =>
  simp only [dk, dl2, decide_true, decide_false, Bool.true_and, Bool.not_true, go_sem, Nat.reduceBEq, Int.reduceEq]
  by_cases c1 : v.kids.length = 2
  case neg =>
    simp only [decide_eq_false c1, Bool.false_and, go_sem, Nat.reduceBEq]
    exact ⟨rfl, x0⟩
  simp only [decide_eq_true c1, Bool.true_and, go_sem, Nat.reduceBEq]
  try simp only [dk, dl0, dl1, dl2, dl3, dp, dm, ds, d23, d34, d12, decide_true, decide_false, Bool.true_and, Bool.false_and, Bool.and_true, Bool.and_false, Bool.or_true, Bool.or_false, Bool.true_or, Bool.false_or, Bool.not_true, Bool.not_false, go_sem, Nat.reduceBEq, Nat.reduceAdd, Nat.reduceLeDiff, Nat.reduceEqDiff, Int.reduceEq, not_false_eq_true, Int.reduceToNat]
  refine (sAll v.kids (fun e he => (ih e (Nd.size_lt he)).1) (by omega) _ _ (rd.mono x0)).mono ?_
  rintro _ g2 ⟨rfl, e2⟩
  try simp only [go_sem, Nat.reduceBEq]
  have x2 : Ext h g2 := (x0.trans e2)
  exact ⟨rfl, x2⟩
set_option maxHeartbeats 800000 in
theorem sEx_13 (v : Nd) (hbk : v.bulk ≤ 1048576) (ih : ∀ e : Nd, e.size < v.size → SE e ∧ SS e) (hk : v.kind = 13) (sl : Value) (h : Hp) (rd : RdN h v.kids sl) : ACalls Try.prog 31 #[.agg #[.int .i64 v.kind, .int .i64 v.num, .string v.text, sl]] h (Is (.bool (xp v)) h) := by
  have hB := Nd.bulk_eq v
  have hL := Nd.bulks_len v.kids
  obtain ⟨a, c, xs, rfl, hc, hr, hat⟩ := rd.rows (by decide) v.kids.length (fm_len Nd.dt_len _)
  have dl0 : decide (((v.kids.length : Nat) : Int) = 0) = decide (v.kids.length = 0) := decide_eq_decide.2 (by omega)
  have dl1 : decide (((v.kids.length : Nat) : Int) = 1) = decide (v.kids.length = 1) := decide_eq_decide.2 (by omega)
  have dl2 : decide (((v.kids.length : Nat) : Int) = 2) = decide (v.kids.length = 2) := decide_eq_decide.2 (by omega)
  have dl3 : decide (((v.kids.length : Nat) : Int) = 3) = decide (v.kids.length = 3) := decide_eq_decide.2 (by omega)
  have dp : decide ((1 : Int) ≤ ((v.kids.length : Nat) : Int)) = decide (1 ≤ v.kids.length) := decide_eq_decide.2 (by omega)
  have dm : decide (((v.kids.length : Nat) : Int) ≤ 1) = decide (v.kids.length ≤ 1) := decide_eq_decide.2 (by omega)
  have ds : decide (((v.text.size : Nat) : Int) ≤ 400) = decide (v.text.size ≤ 400) := decide_eq_decide.2 (by omega)
  have d23 : decide ((2 : Int) ≤ ((v.kids.length : Nat) : Int) ∧ ((v.kids.length : Nat) : Int) ≤ 3) = decide (2 ≤ v.kids.length ∧ v.kids.length ≤ 3) := decide_eq_decide.2 (by omega)
  have d34 : decide ((3 : Int) ≤ ((v.kids.length : Nat) : Int) ∧ ((v.kids.length : Nat) : Int) ≤ 4) = decide (3 ≤ v.kids.length ∧ v.kids.length ≤ 4) := decide_eq_decide.2 (by omega)
  have d12 : decide ((1 : Int) ≤ ((v.kids.length : Nat) : Int) ∧ ((v.kids.length : Nat) : Int) ≤ 2) = decide (1 ≤ v.kids.length ∧ v.kids.length ≤ 2) := decide_eq_decide.2 (by omega)
  have dk : ∀ n : Int, decide (v.kind = n) = decide ((13 : Int) = n) := fun n => by rw [hk]
  have ex : xp v = (fN v && (fT v && (decide (v.kids.length = 2) && (v.kids.all xp)))) := by
    rw [xp_S]
    unfold exT
    rw [if_neg (by omega), if_neg (by omega), if_neg (by omega), if_pos (by omega)]
  rw [ex]
  (refine enter Try.func31 rfl rfl (by kernel_rfl) [] ?_; simp only [go_sem, Nat.reduceBEq, Nat.reduceAdd, Nat.reduceLeDiff])
  refine (sFields v hbk _ _ rd).mono ?_
  rintro _ h1 ⟨rfl, x0⟩
  try simp only [go_sem, Nat.reduceBEq]
  cases hN : fN v with
  | false =>
    simp only [Bool.false_and, Bool.not_false, go_sem, Nat.reduceBEq]
    exact ⟨rfl, x0⟩
  | true =>
  simp only [Bool.true_and, Bool.not_true, go_sem, Nat.reduceBEq]
  cases hT : fT v with
  | false =>
    simp only [Bool.false_and, Bool.not_false, go_sem, Nat.reduceBEq]
    exact ⟨rfl, x0⟩
  | true =>
  simp only [dk, dl2, decide_true, decide_false, Bool.true_and, Bool.not_true, go_sem, Nat.reduceBEq, Int.reduceEq]
  by_cases c1 : v.kids.length = 2
  case neg =>
    simp only [decide_eq_false c1, Bool.false_and, go_sem, Nat.reduceBEq]
    exact ⟨rfl, x0⟩
  simp only [decide_eq_true c1, Bool.true_and, go_sem, Nat.reduceBEq]
  try simp only [dk, dl0, dl1, dl2, dl3, dp, dm, ds, d23, d34, d12, decide_true, decide_false, Bool.true_and, Bool.false_and, Bool.and_true, Bool.and_false, Bool.or_true, Bool.or_false, Bool.true_or, Bool.false_or, Bool.not_true, Bool.not_false, go_sem, Nat.reduceBEq, Nat.reduceAdd, Nat.reduceLeDiff, Nat.reduceEqDiff, Int.reduceEq, not_false_eq_true, Int.reduceToNat]
  refine (sAll v.kids (fun e he => (ih e (Nd.size_lt he)).1) (by omega) _ _ (rd.mono x0)).mono ?_
  rintro _ g2 ⟨rfl, e2⟩
  try simp only [go_sem, Nat.reduceBEq]
  have x2 : Ext h g2 := (x0.trans e2)
  exact ⟨rfl, x2⟩
set_option maxHeartbeats 800000 in
theorem sEx_14 (v : Nd) (hbk : v.bulk ≤ 1048576) (ih : ∀ e : Nd, e.size < v.size → SE e ∧ SS e) (hk : v.kind = 14) (sl : Value) (h : Hp) (rd : RdN h v.kids sl) : ACalls Try.prog 31 #[.agg #[.int .i64 v.kind, .int .i64 v.num, .string v.text, sl]] h (Is (.bool (xp v)) h) := by
  have hB := Nd.bulk_eq v
  have hL := Nd.bulks_len v.kids
  obtain ⟨a, c, xs, rfl, hc, hr, hat⟩ := rd.rows (by decide) v.kids.length (fm_len Nd.dt_len _)
  have dl0 : decide (((v.kids.length : Nat) : Int) = 0) = decide (v.kids.length = 0) := decide_eq_decide.2 (by omega)
  have dl1 : decide (((v.kids.length : Nat) : Int) = 1) = decide (v.kids.length = 1) := decide_eq_decide.2 (by omega)
  have dl2 : decide (((v.kids.length : Nat) : Int) = 2) = decide (v.kids.length = 2) := decide_eq_decide.2 (by omega)
  have dl3 : decide (((v.kids.length : Nat) : Int) = 3) = decide (v.kids.length = 3) := decide_eq_decide.2 (by omega)
  have dp : decide ((1 : Int) ≤ ((v.kids.length : Nat) : Int)) = decide (1 ≤ v.kids.length) := decide_eq_decide.2 (by omega)
  have dm : decide (((v.kids.length : Nat) : Int) ≤ 1) = decide (v.kids.length ≤ 1) := decide_eq_decide.2 (by omega)
  have ds : decide (((v.text.size : Nat) : Int) ≤ 400) = decide (v.text.size ≤ 400) := decide_eq_decide.2 (by omega)
  have d23 : decide ((2 : Int) ≤ ((v.kids.length : Nat) : Int) ∧ ((v.kids.length : Nat) : Int) ≤ 3) = decide (2 ≤ v.kids.length ∧ v.kids.length ≤ 3) := decide_eq_decide.2 (by omega)
  have d34 : decide ((3 : Int) ≤ ((v.kids.length : Nat) : Int) ∧ ((v.kids.length : Nat) : Int) ≤ 4) = decide (3 ≤ v.kids.length ∧ v.kids.length ≤ 4) := decide_eq_decide.2 (by omega)
  have d12 : decide ((1 : Int) ≤ ((v.kids.length : Nat) : Int) ∧ ((v.kids.length : Nat) : Int) ≤ 2) = decide (1 ≤ v.kids.length ∧ v.kids.length ≤ 2) := decide_eq_decide.2 (by omega)
  have dk : ∀ n : Int, decide (v.kind = n) = decide ((14 : Int) = n) := fun n => by rw [hk]
  have ex : xp v = (fN v && (fT v && (decide (v.kids.length = 3) && (v.kids.all xp)))) := by
    rw [xp_S]
    unfold exT
    rw [if_neg (by omega), if_neg (by omega), if_neg (by omega), if_neg (by omega), if_pos (by omega)]
  rw [ex]
  (refine enter Try.func31 rfl rfl (by kernel_rfl) [] ?_; simp only [go_sem, Nat.reduceBEq, Nat.reduceAdd, Nat.reduceLeDiff])
  refine (sFields v hbk _ _ rd).mono ?_
  rintro _ h1 ⟨rfl, x0⟩
  try simp only [go_sem, Nat.reduceBEq]
  cases hN : fN v with
  | false =>
    simp only [Bool.false_and, Bool.not_false, go_sem, Nat.reduceBEq]
    exact ⟨rfl, x0⟩
  | true =>
  simp only [Bool.true_and, Bool.not_true, go_sem, Nat.reduceBEq]
  cases hT : fT v with
  | false =>
    simp only [Bool.false_and, Bool.not_false, go_sem, Nat.reduceBEq]
    exact ⟨rfl, x0⟩
  | true =>
  simp only [dk, dl3, decide_true, decide_false, Bool.true_and, Bool.not_true, go_sem, Nat.reduceBEq, Int.reduceEq]
  by_cases c1 : v.kids.length = 3
  case neg =>
    simp only [decide_eq_false c1, Bool.false_and, go_sem, Nat.reduceBEq]
    exact ⟨rfl, x0⟩
  simp only [decide_eq_true c1, Bool.true_and, go_sem, Nat.reduceBEq]
  try simp only [dk, dl0, dl1, dl2, dl3, dp, dm, ds, d23, d34, d12, decide_true, decide_false, Bool.true_and, Bool.false_and, Bool.and_true, Bool.and_false, Bool.or_true, Bool.or_false, Bool.true_or, Bool.false_or, Bool.not_true, Bool.not_false, go_sem, Nat.reduceBEq, Nat.reduceAdd, Nat.reduceLeDiff, Nat.reduceEqDiff, Int.reduceEq, not_false_eq_true, Int.reduceToNat]
  refine (sAll v.kids (fun e he => (ih e (Nd.size_lt he)).1) (by omega) _ _ (rd.mono x0)).mono ?_
  rintro _ g2 ⟨rfl, e2⟩
  try simp only [go_sem, Nat.reduceBEq]
  have x2 : Ext h g2 := (x0.trans e2)
  exact ⟨rfl, x2⟩
set_option maxHeartbeats 800000 in
theorem sEx_15 (v : Nd) (hbk : v.bulk ≤ 1048576) (ih : ∀ e : Nd, e.size < v.size → SE e ∧ SS e) (hk : v.kind = 15) (sl : Value) (h : Hp) (rd : RdN h v.kids sl) : ACalls Try.prog 31 #[.agg #[.int .i64 v.kind, .int .i64 v.num, .string v.text, sl]] h (Is (.bool (xp v)) h) := by
  have hB := Nd.bulk_eq v
  have hL := Nd.bulks_len v.kids
  obtain ⟨a, c, xs, rfl, hc, hr, hat⟩ := rd.rows (by decide) v.kids.length (fm_len Nd.dt_len _)
  have dl0 : decide (((v.kids.length : Nat) : Int) = 0) = decide (v.kids.length = 0) := decide_eq_decide.2 (by omega)
  have dl1 : decide (((v.kids.length : Nat) : Int) = 1) = decide (v.kids.length = 1) := decide_eq_decide.2 (by omega)
  have dl2 : decide (((v.kids.length : Nat) : Int) = 2) = decide (v.kids.length = 2) := decide_eq_decide.2 (by omega)
  have dl3 : decide (((v.kids.length : Nat) : Int) = 3) = decide (v.kids.length = 3) := decide_eq_decide.2 (by omega)
  have dp : decide ((1 : Int) ≤ ((v.kids.length : Nat) : Int)) = decide (1 ≤ v.kids.length) := decide_eq_decide.2 (by omega)
  have dm : decide (((v.kids.length : Nat) : Int) ≤ 1) = decide (v.kids.length ≤ 1) := decide_eq_decide.2 (by omega)
  have ds : decide (((v.text.size : Nat) : Int) ≤ 400) = decide (v.text.size ≤ 400) := decide_eq_decide.2 (by omega)
  have d23 : decide ((2 : Int) ≤ ((v.kids.length : Nat) : Int) ∧ ((v.kids.length : Nat) : Int) ≤ 3) = decide (2 ≤ v.kids.length ∧ v.kids.length ≤ 3) := decide_eq_decide.2 (by omega)
  have d34 : decide ((3 : Int) ≤ ((v.kids.length : Nat) : Int) ∧ ((v.kids.length : Nat) : Int) ≤ 4) = decide (3 ≤ v.kids.length ∧ v.kids.length ≤ 4) := decide_eq_decide.2 (by omega)
  have d12 : decide ((1 : Int) ≤ ((v.kids.length : Nat) : Int) ∧ ((v.kids.length : Nat) : Int) ≤ 2) = decide (1 ≤ v.kids.length ∧ v.kids.length ≤ 2) := decide_eq_decide.2 (by omega)
  have dk : ∀ n : Int, decide (v.kind = n) = decide ((15 : Int) = n) := fun n => by rw [hk]
  have ex : xp v = (fN v && (fT v && (decide (v.kids.length = 2) && ((kid v.kids 0).aim2 && (v.kids.all xp))))) := by
    rw [xp_S]
    unfold exT
    rw [if_neg (by omega), if_neg (by omega), if_neg (by omega), if_neg (by omega), if_neg (by omega), if_pos (by omega)]
  rw [ex]
  (refine enter Try.func31 rfl rfl (by kernel_rfl) [] ?_; simp only [go_sem, Nat.reduceBEq, Nat.reduceAdd, Nat.reduceLeDiff])
  refine (sFields v hbk _ _ rd).mono ?_
  rintro _ h1 ⟨rfl, x0⟩
  try simp only [go_sem, Nat.reduceBEq]
  cases hN : fN v with
  | false =>
    simp only [Bool.false_and, Bool.not_false, go_sem, Nat.reduceBEq]
    exact ⟨rfl, x0⟩
  | true =>
  simp only [Bool.true_and, Bool.not_true, go_sem, Nat.reduceBEq]
  cases hT : fT v with
  | false =>
    simp only [Bool.false_and, Bool.not_false, go_sem, Nat.reduceBEq]
    exact ⟨rfl, x0⟩
  | true =>
  simp only [dk, dl2, decide_true, decide_false, Bool.true_and, Bool.not_true, go_sem, Nat.reduceBEq, Int.reduceEq]
  by_cases c1 : v.kids.length = 2
  case neg =>
    simp only [decide_eq_false c1, Bool.false_and, go_sem, Nat.reduceBEq]
    exact ⟨rfl, x0⟩
  simp only [decide_eq_true c1, Bool.true_and, go_sem, Nat.reduceBEq]
  try simp only [dk, dl0, dl1, dl2, dl3, dp, dm, ds, d23, d34, d12, decide_true, decide_false, Bool.true_and, Bool.false_and, Bool.and_true, Bool.and_false, Bool.or_true, Bool.or_false, Bool.true_or, Bool.false_or, Bool.not_true, Bool.not_false, go_sem, Nat.reduceBEq, Nat.reduceAdd, Nat.reduceLeDiff, Nat.reduceEqDiff, Int.reduceEq, not_false_eq_true, Int.reduceToNat]
  have kl1 : 0 < v.kids.length := by omega
  obtain ⟨bk1, ok1, ek1, hatk1⟩ := hat (by omega)
  cases ek1
  have ixk1 : ixA (some 4) (some ⟨bk1, ok1, none⟩) v.kids.length (0 : Int) = some (.pointer (some ⟨bk1, ok1 + 0 * 4, none⟩)) := ix_nat (i := 0) kl1
  try simp only [ixk1, go_sem, Nat.reduceBEq]
  refine hsem_node tyS29 (hatk1.mono x0) (hr.mono x0) (kid_get kl1) (by omega) fun sk1 rk1 => ?_
  obtain ⟨ak1, ck1, _, rfl, _⟩ := rk1.rows (by decide) (kid v.kids (0)).kids.length (fm_len Nd.dt_len _)
  try simp only [go_sem, Nat.reduceBEq]
  (refine (sTarget (kid v.kids 0) (kid_bulk (kid_mem kl1) (by omega)) _ _ rk1).mono ?_; rintro _ _ ⟨rfl, rfl⟩; simp only [go_sem, Nat.reduceBEq])
  cases c2 : (kid v.kids 0).aim2 with
  | false =>
    simp only [Bool.false_and, go_sem, Nat.reduceBEq]
    exact ⟨rfl, x0⟩
  | true =>
  simp only [Bool.true_and, go_sem, Nat.reduceBEq]
  try simp only [dk, dl0, dl1, dl2, dl3, dp, dm, ds, d23, d34, d12, decide_true, decide_false, Bool.true_and, Bool.false_and, Bool.and_true, Bool.and_false, Bool.or_true, Bool.or_false, Bool.true_or, Bool.false_or, Bool.not_true, Bool.not_false, go_sem, Nat.reduceBEq, Nat.reduceAdd, Nat.reduceLeDiff, Nat.reduceEqDiff, Int.reduceEq, not_false_eq_true, Int.reduceToNat]
  refine (sAll v.kids (fun e he => (ih e (Nd.size_lt he)).1) (by omega) _ _ (rd.mono x0)).mono ?_
  rintro _ g3 ⟨rfl, e3⟩
  try simp only [go_sem, Nat.reduceBEq]
  have x3 : Ext h g3 := (x0.trans e3)
  exact ⟨rfl, x3⟩
set_option maxHeartbeats 800000 in
theorem sEx_16 (v : Nd) (hbk : v.bulk ≤ 1048576) (ih : ∀ e : Nd, e.size < v.size → SE e ∧ SS e) (hk : v.kind = 16) (sl : Value) (h : Hp) (rd : RdN h v.kids sl) : ACalls Try.prog 31 #[.agg #[.int .i64 v.kind, .int .i64 v.num, .string v.text, sl]] h (Is (.bool (xp v)) h) := by
  have hB := Nd.bulk_eq v
  have hL := Nd.bulks_len v.kids
  obtain ⟨a, c, xs, rfl, hc, hr, hat⟩ := rd.rows (by decide) v.kids.length (fm_len Nd.dt_len _)
  have dl0 : decide (((v.kids.length : Nat) : Int) = 0) = decide (v.kids.length = 0) := decide_eq_decide.2 (by omega)
  have dl1 : decide (((v.kids.length : Nat) : Int) = 1) = decide (v.kids.length = 1) := decide_eq_decide.2 (by omega)
  have dl2 : decide (((v.kids.length : Nat) : Int) = 2) = decide (v.kids.length = 2) := decide_eq_decide.2 (by omega)
  have dl3 : decide (((v.kids.length : Nat) : Int) = 3) = decide (v.kids.length = 3) := decide_eq_decide.2 (by omega)
  have dp : decide ((1 : Int) ≤ ((v.kids.length : Nat) : Int)) = decide (1 ≤ v.kids.length) := decide_eq_decide.2 (by omega)
  have dm : decide (((v.kids.length : Nat) : Int) ≤ 1) = decide (v.kids.length ≤ 1) := decide_eq_decide.2 (by omega)
  have ds : decide (((v.text.size : Nat) : Int) ≤ 400) = decide (v.text.size ≤ 400) := decide_eq_decide.2 (by omega)
  have d23 : decide ((2 : Int) ≤ ((v.kids.length : Nat) : Int) ∧ ((v.kids.length : Nat) : Int) ≤ 3) = decide (2 ≤ v.kids.length ∧ v.kids.length ≤ 3) := decide_eq_decide.2 (by omega)
  have d34 : decide ((3 : Int) ≤ ((v.kids.length : Nat) : Int) ∧ ((v.kids.length : Nat) : Int) ≤ 4) = decide (3 ≤ v.kids.length ∧ v.kids.length ≤ 4) := decide_eq_decide.2 (by omega)
  have d12 : decide ((1 : Int) ≤ ((v.kids.length : Nat) : Int) ∧ ((v.kids.length : Nat) : Int) ≤ 2) = decide (1 ≤ v.kids.length ∧ v.kids.length ≤ 2) := decide_eq_decide.2 (by omega)
  have dk : ∀ n : Int, decide (v.kind = n) = decide ((16 : Int) = n) := fun n => by rw [hk]
  have ex : xp v = (fN v && (fT v && (decide (v.kids.length = 2) && ((kid v.kids 0).aim2 && (v.kids.all xp))))) := by
    rw [xp_S]
    unfold exT
    rw [if_neg (by omega), if_neg (by omega), if_neg (by omega), if_neg (by omega), if_neg (by omega), if_pos (by omega)]
  rw [ex]
  (refine enter Try.func31 rfl rfl (by kernel_rfl) [] ?_; simp only [go_sem, Nat.reduceBEq, Nat.reduceAdd, Nat.reduceLeDiff])
  refine (sFields v hbk _ _ rd).mono ?_
  rintro _ h1 ⟨rfl, x0⟩
  try simp only [go_sem, Nat.reduceBEq]
  cases hN : fN v with
  | false =>
    simp only [Bool.false_and, Bool.not_false, go_sem, Nat.reduceBEq]
    exact ⟨rfl, x0⟩
  | true =>
  simp only [Bool.true_and, Bool.not_true, go_sem, Nat.reduceBEq]
  cases hT : fT v with
  | false =>
    simp only [Bool.false_and, Bool.not_false, go_sem, Nat.reduceBEq]
    exact ⟨rfl, x0⟩
  | true =>
  simp only [dk, dl2, decide_true, decide_false, Bool.true_and, Bool.not_true, go_sem, Nat.reduceBEq, Int.reduceEq]
  by_cases c1 : v.kids.length = 2
  case neg =>
    simp only [decide_eq_false c1, Bool.false_and, go_sem, Nat.reduceBEq]
    exact ⟨rfl, x0⟩
  simp only [decide_eq_true c1, Bool.true_and, go_sem, Nat.reduceBEq]
  try simp only [dk, dl0, dl1, dl2, dl3, dp, dm, ds, d23, d34, d12, decide_true, decide_false, Bool.true_and, Bool.false_and, Bool.and_true, Bool.and_false, Bool.or_true, Bool.or_false, Bool.true_or, Bool.false_or, Bool.not_true, Bool.not_false, go_sem, Nat.reduceBEq, Nat.reduceAdd, Nat.reduceLeDiff, Nat.reduceEqDiff, Int.reduceEq, not_false_eq_true, Int.reduceToNat]
  have kl1 : 0 < v.kids.length := by omega
  obtain ⟨bk1, ok1, ek1, hatk1⟩ := hat (by omega)
  cases ek1
  have ixk1 : ixA (some 4) (some ⟨bk1, ok1, none⟩) v.kids.length (0 : Int) = some (.pointer (some ⟨bk1, ok1 + 0 * 4, none⟩)) := ix_nat (i := 0) kl1
  try simp only [ixk1, go_sem, Nat.reduceBEq]
  refine hsem_node tyS29 (hatk1.mono x0) (hr.mono x0) (kid_get kl1) (by omega) fun sk1 rk1 => ?_
  obtain ⟨ak1, ck1, _, rfl, _⟩ := rk1.rows (by decide) (kid v.kids (0)).kids.length (fm_len Nd.dt_len _)
  try simp only [go_sem, Nat.reduceBEq]
  (refine (sTarget (kid v.kids 0) (kid_bulk (kid_mem kl1) (by omega)) _ _ rk1).mono ?_; rintro _ _ ⟨rfl, rfl⟩; simp only [go_sem, Nat.reduceBEq])
  cases c2 : (kid v.kids 0).aim2 with
  | false =>
    simp only [Bool.false_and, go_sem, Nat.reduceBEq]
    exact ⟨rfl, x0⟩
  | true =>
  simp only [Bool.true_and, go_sem, Nat.reduceBEq]
  try simp only [dk, dl0, dl1, dl2, dl3, dp, dm, ds, d23, d34, d12, decide_true, decide_false, Bool.true_and, Bool.false_and, Bool.and_true, Bool.and_false, Bool.or_true, Bool.or_false, Bool.true_or, Bool.false_or, Bool.not_true, Bool.not_false, go_sem, Nat.reduceBEq, Nat.reduceAdd, Nat.reduceLeDiff, Nat.reduceEqDiff, Int.reduceEq, not_false_eq_true, Int.reduceToNat]
  refine (sAll v.kids (fun e he => (ih e (Nd.size_lt he)).1) (by omega) _ _ (rd.mono x0)).mono ?_
  rintro _ g3 ⟨rfl, e3⟩
  try simp only [go_sem, Nat.reduceBEq]
  have x3 : Ext h g3 := (x0.trans e3)
  exact ⟨rfl, x3⟩
set_option maxHeartbeats 800000 in
theorem sEx_17 (v : Nd) (hbk : v.bulk ≤ 1048576) (ih : ∀ e : Nd, e.size < v.size → SE e ∧ SS e) (hk : v.kind = 17) (sl : Value) (h : Hp) (rd : RdN h v.kids sl) : ACalls Try.prog 31 #[.agg #[.int .i64 v.kind, .int .i64 v.num, .string v.text, sl]] h (Is (.bool (xp v)) h) := by
  have hB := Nd.bulk_eq v
  have hL := Nd.bulks_len v.kids
  obtain ⟨a, c, xs, rfl, hc, hr, hat⟩ := rd.rows (by decide) v.kids.length (fm_len Nd.dt_len _)
  have dl0 : decide (((v.kids.length : Nat) : Int) = 0) = decide (v.kids.length = 0) := decide_eq_decide.2 (by omega)
  have dl1 : decide (((v.kids.length : Nat) : Int) = 1) = decide (v.kids.length = 1) := decide_eq_decide.2 (by omega)
  have dl2 : decide (((v.kids.length : Nat) : Int) = 2) = decide (v.kids.length = 2) := decide_eq_decide.2 (by omega)
  have dl3 : decide (((v.kids.length : Nat) : Int) = 3) = decide (v.kids.length = 3) := decide_eq_decide.2 (by omega)
  have dp : decide ((1 : Int) ≤ ((v.kids.length : Nat) : Int)) = decide (1 ≤ v.kids.length) := decide_eq_decide.2 (by omega)
  have dm : decide (((v.kids.length : Nat) : Int) ≤ 1) = decide (v.kids.length ≤ 1) := decide_eq_decide.2 (by omega)
  have ds : decide (((v.text.size : Nat) : Int) ≤ 400) = decide (v.text.size ≤ 400) := decide_eq_decide.2 (by omega)
  have d23 : decide ((2 : Int) ≤ ((v.kids.length : Nat) : Int) ∧ ((v.kids.length : Nat) : Int) ≤ 3) = decide (2 ≤ v.kids.length ∧ v.kids.length ≤ 3) := decide_eq_decide.2 (by omega)
  have d34 : decide ((3 : Int) ≤ ((v.kids.length : Nat) : Int) ∧ ((v.kids.length : Nat) : Int) ≤ 4) = decide (3 ≤ v.kids.length ∧ v.kids.length ≤ 4) := decide_eq_decide.2 (by omega)
  have d12 : decide ((1 : Int) ≤ ((v.kids.length : Nat) : Int) ∧ ((v.kids.length : Nat) : Int) ≤ 2) = decide (1 ≤ v.kids.length ∧ v.kids.length ≤ 2) := decide_eq_decide.2 (by omega)
  have dk : ∀ n : Int, decide (v.kind = n) = decide ((17 : Int) = n) := fun n => by rw [hk]
  have ex : xp v = (fN v && (fT v && (decide (v.kids.length = 1) && (decide ((kid v.kids 0).kind = 4) && (xp (kid v.kids 0)))))) := by
    rw [xp_S]
    unfold exT
    rw [if_neg (by omega), if_neg (by omega), if_neg (by omega), if_neg (by omega), if_neg (by omega), if_neg (by omega), if_pos (by omega)]
  rw [ex]
  (refine enter Try.func31 rfl rfl (by kernel_rfl) [] ?_; simp only [go_sem, Nat.reduceBEq, Nat.reduceAdd, Nat.reduceLeDiff])
  refine (sFields v hbk _ _ rd).mono ?_
  rintro _ h1 ⟨rfl, x0⟩
  try simp only [go_sem, Nat.reduceBEq]
  cases hN : fN v with
  | false =>
    simp only [Bool.false_and, Bool.not_false, go_sem, Nat.reduceBEq]
    exact ⟨rfl, x0⟩
  | true =>
  simp only [Bool.true_and, Bool.not_true, go_sem, Nat.reduceBEq]
  cases hT : fT v with
  | false =>
    simp only [Bool.false_and, Bool.not_false, go_sem, Nat.reduceBEq]
    exact ⟨rfl, x0⟩
  | true =>
  simp only [dk, dl1, decide_true, decide_false, Bool.true_and, Bool.not_true, go_sem, Nat.reduceBEq, Int.reduceEq]
  by_cases c1 : v.kids.length = 1
  case neg =>
    simp only [decide_eq_false c1, Bool.false_and, go_sem, Nat.reduceBEq]
    exact ⟨rfl, x0⟩
  simp only [decide_eq_true c1, Bool.true_and, go_sem, Nat.reduceBEq]
  try simp only [dk, dl0, dl1, dl2, dl3, dp, dm, ds, d23, d34, d12, decide_true, decide_false, Bool.true_and, Bool.false_and, Bool.and_true, Bool.and_false, Bool.or_true, Bool.or_false, Bool.true_or, Bool.false_or, Bool.not_true, Bool.not_false, go_sem, Nat.reduceBEq, Nat.reduceAdd, Nat.reduceLeDiff, Nat.reduceEqDiff, Int.reduceEq, not_false_eq_true, Int.reduceToNat]
  have kl1 : 0 < v.kids.length := by omega
  obtain ⟨bk1, ok1, ek1, hatk1⟩ := hat (by omega)
  cases ek1
  have ixk1 : ixA (some 4) (some ⟨bk1, ok1, none⟩) v.kids.length (0 : Int) = some (.pointer (some ⟨bk1, ok1 + 0 * 4, none⟩)) := ix_nat (i := 0) kl1
  try simp only [ixk1, go_sem, Nat.reduceBEq]
  refine hsem_kind tyS3 (hatk1.mono x0) (hr.mono x0) (kid_get kl1) (by omega) ?_
  try simp only [go_sem, Nat.reduceBEq]
  by_cases c2 : (kid v.kids 0).kind = 4
  case neg =>
    simp only [decide_eq_false c2, Bool.false_and, go_sem, Nat.reduceBEq]
    exact ⟨rfl, x0⟩
  simp only [decide_eq_true c2, Bool.true_and, go_sem, Nat.reduceBEq]
  try simp only [dk, dl0, dl1, dl2, dl3, dp, dm, ds, d23, d34, d12, decide_true, decide_false, Bool.true_and, Bool.false_and, Bool.and_true, Bool.and_false, Bool.or_true, Bool.or_false, Bool.true_or, Bool.false_or, Bool.not_true, Bool.not_false, go_sem, Nat.reduceBEq, Nat.reduceAdd, Nat.reduceLeDiff, Nat.reduceEqDiff, Int.reduceEq, not_false_eq_true, Int.reduceToNat]
  have kl2 : 0 < v.kids.length := by omega
  obtain ⟨bk2, ok2, ek2, hatk2⟩ := hat (by omega)
  cases ek2
  have ixk2 : ixA (some 4) (some ⟨bk1, ok1, none⟩) v.kids.length (0 : Int) = some (.pointer (some ⟨bk1, ok1 + 0 * 4, none⟩)) := ix_nat (i := 0) kl2
  try simp only [ixk2, go_sem, Nat.reduceBEq]
  refine hsem_node tyS29 (hatk2.mono x0) (hr.mono x0) (kid_get kl2) (by omega) fun sk2 rk2 => ?_
  obtain ⟨ak2, ck2, _, rfl, _⟩ := rk2.rows (by decide) (kid v.kids (0)).kids.length (fm_len Nd.dt_len _)
  try simp only [go_sem, Nat.reduceBEq]
  refine ((ih (kid v.kids (0)) (Nd.size_lt (kid_mem kl2))).1 (kid_bulk (kid_mem kl2) (by omega)) _ _ rk2).mono ?_
  rintro _ g3 ⟨rfl, e3⟩
  try simp only [go_sem, Nat.reduceBEq]
  have x3 : Ext h g3 := (x0.trans e3)
  exact ⟨rfl, x3⟩
set_option maxHeartbeats 800000 in
theorem sEx_18 (v : Nd) (hbk : v.bulk ≤ 1048576) (ih : ∀ e : Nd, e.size < v.size → SE e ∧ SS e) (hk : v.kind = 18) (sl : Value) (h : Hp) (rd : RdN h v.kids sl) : ACalls Try.prog 31 #[.agg #[.int .i64 v.kind, .int .i64 v.num, .string v.text, sl]] h (Is (.bool (xp v)) h) := by
  have hB := Nd.bulk_eq v
  have hL := Nd.bulks_len v.kids
  obtain ⟨a, c, xs, rfl, hc, hr, hat⟩ := rd.rows (by decide) v.kids.length (fm_len Nd.dt_len _)
  have dl0 : decide (((v.kids.length : Nat) : Int) = 0) = decide (v.kids.length = 0) := decide_eq_decide.2 (by omega)
  have dl1 : decide (((v.kids.length : Nat) : Int) = 1) = decide (v.kids.length = 1) := decide_eq_decide.2 (by omega)
  have dl2 : decide (((v.kids.length : Nat) : Int) = 2) = decide (v.kids.length = 2) := decide_eq_decide.2 (by omega)
  have dl3 : decide (((v.kids.length : Nat) : Int) = 3) = decide (v.kids.length = 3) := decide_eq_decide.2 (by omega)
  have dp : decide ((1 : Int) ≤ ((v.kids.length : Nat) : Int)) = decide (1 ≤ v.kids.length) := decide_eq_decide.2 (by omega)
  have dm : decide (((v.kids.length : Nat) : Int) ≤ 1) = decide (v.kids.length ≤ 1) := decide_eq_decide.2 (by omega)
  have ds : decide (((v.text.size : Nat) : Int) ≤ 400) = decide (v.text.size ≤ 400) := decide_eq_decide.2 (by omega)
  have d23 : decide ((2 : Int) ≤ ((v.kids.length : Nat) : Int) ∧ ((v.kids.length : Nat) : Int) ≤ 3) = decide (2 ≤ v.kids.length ∧ v.kids.length ≤ 3) := decide_eq_decide.2 (by omega)
  have d34 : decide ((3 : Int) ≤ ((v.kids.length : Nat) : Int) ∧ ((v.kids.length : Nat) : Int) ≤ 4) = decide (3 ≤ v.kids.length ∧ v.kids.length ≤ 4) := decide_eq_decide.2 (by omega)
  have d12 : decide ((1 : Int) ≤ ((v.kids.length : Nat) : Int) ∧ ((v.kids.length : Nat) : Int) ≤ 2) = decide (1 ≤ v.kids.length ∧ v.kids.length ≤ 2) := decide_eq_decide.2 (by omega)
  have dk : ∀ n : Int, decide (v.kind = n) = decide ((18 : Int) = n) := fun n => by rw [hk]
  have ex : xp v = (fN v && (fT v && (v.kids.all xp))) := by
    rw [xp_S]
    unfold exT
    rw [if_neg (by omega), if_neg (by omega), if_neg (by omega), if_neg (by omega), if_neg (by omega), if_neg (by omega), if_neg (by omega), if_pos (by omega)]
  rw [ex]
  (refine enter Try.func31 rfl rfl (by kernel_rfl) [] ?_; simp only [go_sem, Nat.reduceBEq, Nat.reduceAdd, Nat.reduceLeDiff])
  refine (sFields v hbk _ _ rd).mono ?_
  rintro _ h1 ⟨rfl, x0⟩
  try simp only [go_sem, Nat.reduceBEq]
  cases hN : fN v with
  | false =>
    simp only [Bool.false_and, Bool.not_false, go_sem, Nat.reduceBEq]
    exact ⟨rfl, x0⟩
  | true =>
  simp only [Bool.true_and, Bool.not_true, go_sem, Nat.reduceBEq]
  cases hT : fT v with
  | false =>
    simp only [Bool.false_and, Bool.not_false, go_sem, Nat.reduceBEq]
    exact ⟨rfl, x0⟩
  | true =>
  simp only [dk, decide_true, decide_false, Bool.true_and, Bool.not_true, go_sem, Nat.reduceBEq, Int.reduceEq]
  refine (sAll v.kids (fun e he => (ih e (Nd.size_lt he)).1) (by omega) _ _ (rd.mono x0)).mono ?_
  rintro _ g1 ⟨rfl, e1⟩
  try simp only [go_sem, Nat.reduceBEq]
  have x1 : Ext h g1 := (x0.trans e1)
  exact ⟨rfl, x1⟩
set_option maxHeartbeats 800000 in
theorem sEx_21 (v : Nd) (hbk : v.bulk ≤ 1048576) (ih : ∀ e : Nd, e.size < v.size → SE e ∧ SS e) (hk : v.kind = 21) (sl : Value) (h : Hp) (rd : RdN h v.kids sl) : ACalls Try.prog 31 #[.agg #[.int .i64 v.kind, .int .i64 v.num, .string v.text, sl]] h (Is (.bool (xp v)) h) := by
  have hB := Nd.bulk_eq v
  have hL := Nd.bulks_len v.kids
  obtain ⟨a, c, xs, rfl, hc, hr, hat⟩ := rd.rows (by decide) v.kids.length (fm_len Nd.dt_len _)
  have dl0 : decide (((v.kids.length : Nat) : Int) = 0) = decide (v.kids.length = 0) := decide_eq_decide.2 (by omega)
  have dl1 : decide (((v.kids.length : Nat) : Int) = 1) = decide (v.kids.length = 1) := decide_eq_decide.2 (by omega)
  have dl2 : decide (((v.kids.length : Nat) : Int) = 2) = decide (v.kids.length = 2) := decide_eq_decide.2 (by omega)
  have dl3 : decide (((v.kids.length : Nat) : Int) = 3) = decide (v.kids.length = 3) := decide_eq_decide.2 (by omega)
  have dp : decide ((1 : Int) ≤ ((v.kids.length : Nat) : Int)) = decide (1 ≤ v.kids.length) := decide_eq_decide.2 (by omega)
  have dm : decide (((v.kids.length : Nat) : Int) ≤ 1) = decide (v.kids.length ≤ 1) := decide_eq_decide.2 (by omega)
  have ds : decide (((v.text.size : Nat) : Int) ≤ 400) = decide (v.text.size ≤ 400) := decide_eq_decide.2 (by omega)
  have d23 : decide ((2 : Int) ≤ ((v.kids.length : Nat) : Int) ∧ ((v.kids.length : Nat) : Int) ≤ 3) = decide (2 ≤ v.kids.length ∧ v.kids.length ≤ 3) := decide_eq_decide.2 (by omega)
  have d34 : decide ((3 : Int) ≤ ((v.kids.length : Nat) : Int) ∧ ((v.kids.length : Nat) : Int) ≤ 4) = decide (3 ≤ v.kids.length ∧ v.kids.length ≤ 4) := decide_eq_decide.2 (by omega)
  have d12 : decide ((1 : Int) ≤ ((v.kids.length : Nat) : Int) ∧ ((v.kids.length : Nat) : Int) ≤ 2) = decide (1 ≤ v.kids.length ∧ v.kids.length ≤ 2) := decide_eq_decide.2 (by omega)
  have dk : ∀ n : Int, decide (v.kind = n) = decide ((21 : Int) = n) := fun n => by rw [hk]
  have ex : xp v = (fN v && (fT v && (v.kids.all xp))) := by
    rw [xp_S]
    unfold exT
    rw [if_neg (by omega), if_neg (by omega), if_neg (by omega), if_neg (by omega), if_neg (by omega), if_neg (by omega), if_neg (by omega), if_pos (by omega)]
  rw [ex]
  (refine enter Try.func31 rfl rfl (by kernel_rfl) [] ?_; simp only [go_sem, Nat.reduceBEq, Nat.reduceAdd, Nat.reduceLeDiff])
  refine (sFields v hbk _ _ rd).mono ?_
  rintro _ h1 ⟨rfl, x0⟩
  try simp only [go_sem, Nat.reduceBEq]
  cases hN : fN v with
  | false =>
    simp only [Bool.false_and, Bool.not_false, go_sem, Nat.reduceBEq]
    exact ⟨rfl, x0⟩
  | true =>
  simp only [Bool.true_and, Bool.not_true, go_sem, Nat.reduceBEq]
  cases hT : fT v with
  | false =>
    simp only [Bool.false_and, Bool.not_false, go_sem, Nat.reduceBEq]
    exact ⟨rfl, x0⟩
  | true =>
  simp only [dk, decide_true, decide_false, Bool.true_and, Bool.not_true, go_sem, Nat.reduceBEq, Int.reduceEq]
  refine (sAll v.kids (fun e he => (ih e (Nd.size_lt he)).1) (by omega) _ _ (rd.mono x0)).mono ?_
  rintro _ g1 ⟨rfl, e1⟩
  try simp only [go_sem, Nat.reduceBEq]
  have x1 : Ext h g1 := (x0.trans e1)
  exact ⟨rfl, x1⟩
set_option maxHeartbeats 800000 in
theorem sEx_22 (v : Nd) (hbk : v.bulk ≤ 1048576) (ih : ∀ e : Nd, e.size < v.size → SE e ∧ SS e) (hk : v.kind = 22) (sl : Value) (h : Hp) (rd : RdN h v.kids sl) : ACalls Try.prog 31 #[.agg #[.int .i64 v.kind, .int .i64 v.num, .string v.text, sl]] h (Is (.bool (xp v)) h) := by
  have hB := Nd.bulk_eq v
  have hL := Nd.bulks_len v.kids
  obtain ⟨a, c, xs, rfl, hc, hr, hat⟩ := rd.rows (by decide) v.kids.length (fm_len Nd.dt_len _)
  have dl0 : decide (((v.kids.length : Nat) : Int) = 0) = decide (v.kids.length = 0) := decide_eq_decide.2 (by omega)
  have dl1 : decide (((v.kids.length : Nat) : Int) = 1) = decide (v.kids.length = 1) := decide_eq_decide.2 (by omega)
  have dl2 : decide (((v.kids.length : Nat) : Int) = 2) = decide (v.kids.length = 2) := decide_eq_decide.2 (by omega)
  have dl3 : decide (((v.kids.length : Nat) : Int) = 3) = decide (v.kids.length = 3) := decide_eq_decide.2 (by omega)
  have dp : decide ((1 : Int) ≤ ((v.kids.length : Nat) : Int)) = decide (1 ≤ v.kids.length) := decide_eq_decide.2 (by omega)
  have dm : decide (((v.kids.length : Nat) : Int) ≤ 1) = decide (v.kids.length ≤ 1) := decide_eq_decide.2 (by omega)
  have ds : decide (((v.text.size : Nat) : Int) ≤ 400) = decide (v.text.size ≤ 400) := decide_eq_decide.2 (by omega)
  have d23 : decide ((2 : Int) ≤ ((v.kids.length : Nat) : Int) ∧ ((v.kids.length : Nat) : Int) ≤ 3) = decide (2 ≤ v.kids.length ∧ v.kids.length ≤ 3) := decide_eq_decide.2 (by omega)
  have d34 : decide ((3 : Int) ≤ ((v.kids.length : Nat) : Int) ∧ ((v.kids.length : Nat) : Int) ≤ 4) = decide (3 ≤ v.kids.length ∧ v.kids.length ≤ 4) := decide_eq_decide.2 (by omega)
  have d12 : decide ((1 : Int) ≤ ((v.kids.length : Nat) : Int) ∧ ((v.kids.length : Nat) : Int) ≤ 2) = decide (1 ≤ v.kids.length ∧ v.kids.length ≤ 2) := decide_eq_decide.2 (by omega)
  have dk : ∀ n : Int, decide (v.kind = n) = decide ((22 : Int) = n) := fun n => by rw [hk]
  have ex : xp v = (fN v && (fT v && (v.kids.all xp))) := by
    rw [xp_S]
    unfold exT
    rw [if_neg (by omega), if_neg (by omega), if_neg (by omega), if_neg (by omega), if_neg (by omega), if_neg (by omega), if_neg (by omega), if_pos (by omega)]
  rw [ex]
  (refine enter Try.func31 rfl rfl (by kernel_rfl) [] ?_; simp only [go_sem, Nat.reduceBEq, Nat.reduceAdd, Nat.reduceLeDiff])
  refine (sFields v hbk _ _ rd).mono ?_
  rintro _ h1 ⟨rfl, x0⟩
  try simp only [go_sem, Nat.reduceBEq]
  cases hN : fN v with
  | false =>
    simp only [Bool.false_and, Bool.not_false, go_sem, Nat.reduceBEq]
    exact ⟨rfl, x0⟩
  | true =>
  simp only [Bool.true_and, Bool.not_true, go_sem, Nat.reduceBEq]
  cases hT : fT v with
  | false =>
    simp only [Bool.false_and, Bool.not_false, go_sem, Nat.reduceBEq]
    exact ⟨rfl, x0⟩
  | true =>
  simp only [dk, decide_true, decide_false, Bool.true_and, Bool.not_true, go_sem, Nat.reduceBEq, Int.reduceEq]
  refine (sAll v.kids (fun e he => (ih e (Nd.size_lt he)).1) (by omega) _ _ (rd.mono x0)).mono ?_
  rintro _ g1 ⟨rfl, e1⟩
  try simp only [go_sem, Nat.reduceBEq]
  have x1 : Ext h g1 := (x0.trans e1)
  exact ⟨rfl, x1⟩
set_option maxHeartbeats 800000 in
theorem sEx_19 (v : Nd) (hbk : v.bulk ≤ 1048576) (ih : ∀ e : Nd, e.size < v.size → SE e ∧ SS e) (hk : v.kind = 19) (sl : Value) (h : Hp) (rd : RdN h v.kids sl) : ACalls Try.prog 31 #[.agg #[.int .i64 v.kind, .int .i64 v.num, .string v.text, sl]] h (Is (.bool (xp v)) h) := by
  have hB := Nd.bulk_eq v
  have hL := Nd.bulks_len v.kids
  obtain ⟨a, c, xs, rfl, hc, hr, hat⟩ := rd.rows (by decide) v.kids.length (fm_len Nd.dt_len _)
  have dl0 : decide (((v.kids.length : Nat) : Int) = 0) = decide (v.kids.length = 0) := decide_eq_decide.2 (by omega)
  have dl1 : decide (((v.kids.length : Nat) : Int) = 1) = decide (v.kids.length = 1) := decide_eq_decide.2 (by omega)
  have dl2 : decide (((v.kids.length : Nat) : Int) = 2) = decide (v.kids.length = 2) := decide_eq_decide.2 (by omega)
  have dl3 : decide (((v.kids.length : Nat) : Int) = 3) = decide (v.kids.length = 3) := decide_eq_decide.2 (by omega)
  have dp : decide ((1 : Int) ≤ ((v.kids.length : Nat) : Int)) = decide (1 ≤ v.kids.length) := decide_eq_decide.2 (by omega)
  have dm : decide (((v.kids.length : Nat) : Int) ≤ 1) = decide (v.kids.length ≤ 1) := decide_eq_decide.2 (by omega)
  have ds : decide (((v.text.size : Nat) : Int) ≤ 400) = decide (v.text.size ≤ 400) := decide_eq_decide.2 (by omega)
  have d23 : decide ((2 : Int) ≤ ((v.kids.length : Nat) : Int) ∧ ((v.kids.length : Nat) : Int) ≤ 3) = decide (2 ≤ v.kids.length ∧ v.kids.length ≤ 3) := decide_eq_decide.2 (by omega)
  have d34 : decide ((3 : Int) ≤ ((v.kids.length : Nat) : Int) ∧ ((v.kids.length : Nat) : Int) ≤ 4) = decide (3 ≤ v.kids.length ∧ v.kids.length ≤ 4) := decide_eq_decide.2 (by omega)
  have d12 : decide ((1 : Int) ≤ ((v.kids.length : Nat) : Int) ∧ ((v.kids.length : Nat) : Int) ≤ 2) = decide (1 ≤ v.kids.length ∧ v.kids.length ≤ 2) := decide_eq_decide.2 (by omega)
  have dk : ∀ n : Int, decide (v.kind = n) = decide ((19 : Int) = n) := fun n => by rw [hk]
  have ex : xp v = (fN v && (fT v && (decide (1 ≤ v.kids.length) && (v.kids.all xp)))) := by
    rw [xp_S]
    unfold exT
    rw [if_neg (by omega), if_neg (by omega), if_neg (by omega), if_neg (by omega), if_neg (by omega), if_neg (by omega), if_neg (by omega), if_neg (by omega), if_pos (by omega)]
  rw [ex]
  (refine enter Try.func31 rfl rfl (by kernel_rfl) [] ?_; simp only [go_sem, Nat.reduceBEq, Nat.reduceAdd, Nat.reduceLeDiff])
  refine (sFields v hbk _ _ rd).mono ?_
  rintro _ h1 ⟨rfl, x0⟩
  try simp only [go_sem, Nat.reduceBEq]
  cases hN : fN v with
  | false =>
    simp only [Bool.false_and, Bool.not_false, go_sem, Nat.reduceBEq]
    exact ⟨rfl, x0⟩
  | true =>
  simp only [Bool.true_and, Bool.not_true, go_sem, Nat.reduceBEq]
  cases hT : fT v with
  | false =>
    simp only [Bool.false_and, Bool.not_false, go_sem, Nat.reduceBEq]
    exact ⟨rfl, x0⟩
  | true =>
  simp only [dk, dp, decide_true, decide_false, Bool.true_and, Bool.not_true, go_sem, Nat.reduceBEq, Int.reduceEq]
  by_cases c1 : 1 ≤ v.kids.length
  case neg =>
    simp only [decide_eq_false c1, Bool.false_and, go_sem, Nat.reduceBEq]
    exact ⟨rfl, x0⟩
  simp only [decide_eq_true c1, Bool.true_and, go_sem, Nat.reduceBEq]
  try simp only [dk, dl0, dl1, dl2, dl3, dp, dm, ds, d23, d34, d12, decide_true, decide_false, Bool.true_and, Bool.false_and, Bool.and_true, Bool.and_false, Bool.or_true, Bool.or_false, Bool.true_or, Bool.false_or, Bool.not_true, Bool.not_false, go_sem, Nat.reduceBEq, Nat.reduceAdd, Nat.reduceLeDiff, Nat.reduceEqDiff, Int.reduceEq, not_false_eq_true, Int.reduceToNat]
  refine (sAll v.kids (fun e he => (ih e (Nd.size_lt he)).1) (by omega) _ _ (rd.mono x0)).mono ?_
  rintro _ g2 ⟨rfl, e2⟩
  try simp only [go_sem, Nat.reduceBEq]
  have x2 : Ext h g2 := (x0.trans e2)
  exact ⟨rfl, x2⟩
set_option maxHeartbeats 800000 in
theorem sEx_20 (v : Nd) (hbk : v.bulk ≤ 1048576) (ih : ∀ e : Nd, e.size < v.size → SE e ∧ SS e) (hk : v.kind = 20) (sl : Value) (h : Hp) (rd : RdN h v.kids sl) : ACalls Try.prog 31 #[.agg #[.int .i64 v.kind, .int .i64 v.num, .string v.text, sl]] h (Is (.bool (xp v)) h) := by
  have hB := Nd.bulk_eq v
  have hL := Nd.bulks_len v.kids
  obtain ⟨a, c, xs, rfl, hc, hr, hat⟩ := rd.rows (by decide) v.kids.length (fm_len Nd.dt_len _)
  have dl0 : decide (((v.kids.length : Nat) : Int) = 0) = decide (v.kids.length = 0) := decide_eq_decide.2 (by omega)
  have dl1 : decide (((v.kids.length : Nat) : Int) = 1) = decide (v.kids.length = 1) := decide_eq_decide.2 (by omega)
  have dl2 : decide (((v.kids.length : Nat) : Int) = 2) = decide (v.kids.length = 2) := decide_eq_decide.2 (by omega)
  have dl3 : decide (((v.kids.length : Nat) : Int) = 3) = decide (v.kids.length = 3) := decide_eq_decide.2 (by omega)
  have dp : decide ((1 : Int) ≤ ((v.kids.length : Nat) : Int)) = decide (1 ≤ v.kids.length) := decide_eq_decide.2 (by omega)
  have dm : decide (((v.kids.length : Nat) : Int) ≤ 1) = decide (v.kids.length ≤ 1) := decide_eq_decide.2 (by omega)
  have ds : decide (((v.text.size : Nat) : Int) ≤ 400) = decide (v.text.size ≤ 400) := decide_eq_decide.2 (by omega)
  have d23 : decide ((2 : Int) ≤ ((v.kids.length : Nat) : Int) ∧ ((v.kids.length : Nat) : Int) ≤ 3) = decide (2 ≤ v.kids.length ∧ v.kids.length ≤ 3) := decide_eq_decide.2 (by omega)
  have d34 : decide ((3 : Int) ≤ ((v.kids.length : Nat) : Int) ∧ ((v.kids.length : Nat) : Int) ≤ 4) = decide (3 ≤ v.kids.length ∧ v.kids.length ≤ 4) := decide_eq_decide.2 (by omega)
  have d12 : decide ((1 : Int) ≤ ((v.kids.length : Nat) : Int) ∧ ((v.kids.length : Nat) : Int) ≤ 2) = decide (1 ≤ v.kids.length ∧ v.kids.length ≤ 2) := decide_eq_decide.2 (by omega)
  have dk : ∀ n : Int, decide (v.kind = n) = decide ((20 : Int) = n) := fun n => by rw [hk]
  have ex : xp v = (fN v && (fT v && (decide (1 ≤ v.kids.length) && (v.kids.all xp)))) := by
    rw [xp_S]
    unfold exT
    rw [if_neg (by omega), if_neg (by omega), if_neg (by omega), if_neg (by omega), if_neg (by omega), if_neg (by omega), if_neg (by omega), if_neg (by omega), if_pos (by omega)]
  rw [ex]
  (refine enter Try.func31 rfl rfl (by kernel_rfl) [] ?_; simp only [go_sem, Nat.reduceBEq, Nat.reduceAdd, Nat.reduceLeDiff])
  refine (sFields v hbk _ _ rd).mono ?_
  rintro _ h1 ⟨rfl, x0⟩
  try simp only [go_sem, Nat.reduceBEq]
  cases hN : fN v with
  | false =>
    simp only [Bool.false_and, Bool.not_false, go_sem, Nat.reduceBEq]
    exact ⟨rfl, x0⟩
  | true =>
  simp only [Bool.true_and, Bool.not_true, go_sem, Nat.reduceBEq]
  cases hT : fT v with
  | false =>
    simp only [Bool.false_and, Bool.not_false, go_sem, Nat.reduceBEq]
    exact ⟨rfl, x0⟩
  | true =>
  simp only [dk, dp, decide_true, decide_false, Bool.true_and, Bool.not_true, go_sem, Nat.reduceBEq, Int.reduceEq]
  by_cases c1 : 1 ≤ v.kids.length
  case neg =>
    simp only [decide_eq_false c1, Bool.false_and, go_sem, Nat.reduceBEq]
    exact ⟨rfl, x0⟩
  simp only [decide_eq_true c1, Bool.true_and, go_sem, Nat.reduceBEq]
  try simp only [dk, dl0, dl1, dl2, dl3, dp, dm, ds, d23, d34, d12, decide_true, decide_false, Bool.true_and, Bool.false_and, Bool.and_true, Bool.and_false, Bool.or_true, Bool.or_false, Bool.true_or, Bool.false_or, Bool.not_true, Bool.not_false, go_sem, Nat.reduceBEq, Nat.reduceAdd, Nat.reduceLeDiff, Nat.reduceEqDiff, Int.reduceEq, not_false_eq_true, Int.reduceToNat]
  refine (sAll v.kids (fun e he => (ih e (Nd.size_lt he)).1) (by omega) _ _ (rd.mono x0)).mono ?_
  rintro _ g2 ⟨rfl, e2⟩
  try simp only [go_sem, Nat.reduceBEq]
  have x2 : Ext h g2 := (x0.trans e2)
  exact ⟨rfl, x2⟩
set_option maxHeartbeats 800000 in
theorem sEx_23 (v : Nd) (hbk : v.bulk ≤ 1048576) (ih : ∀ e : Nd, e.size < v.size → SE e ∧ SS e) (hk : v.kind = 23) (sl : Value) (h : Hp) (rd : RdN h v.kids sl) : ACalls Try.prog 31 #[.agg #[.int .i64 v.kind, .int .i64 v.num, .string v.text, sl]] h (Is (.bool (xp v)) h) := by
  have hB := Nd.bulk_eq v
  have hL := Nd.bulks_len v.kids
  obtain ⟨a, c, xs, rfl, hc, hr, hat⟩ := rd.rows (by decide) v.kids.length (fm_len Nd.dt_len _)
  have dl0 : decide (((v.kids.length : Nat) : Int) = 0) = decide (v.kids.length = 0) := decide_eq_decide.2 (by omega)
  have dl1 : decide (((v.kids.length : Nat) : Int) = 1) = decide (v.kids.length = 1) := decide_eq_decide.2 (by omega)
  have dl2 : decide (((v.kids.length : Nat) : Int) = 2) = decide (v.kids.length = 2) := decide_eq_decide.2 (by omega)
  have dl3 : decide (((v.kids.length : Nat) : Int) = 3) = decide (v.kids.length = 3) := decide_eq_decide.2 (by omega)
  have dp : decide ((1 : Int) ≤ ((v.kids.length : Nat) : Int)) = decide (1 ≤ v.kids.length) := decide_eq_decide.2 (by omega)
  have dm : decide (((v.kids.length : Nat) : Int) ≤ 1) = decide (v.kids.length ≤ 1) := decide_eq_decide.2 (by omega)
  have ds : decide (((v.text.size : Nat) : Int) ≤ 400) = decide (v.text.size ≤ 400) := decide_eq_decide.2 (by omega)
  have d23 : decide ((2 : Int) ≤ ((v.kids.length : Nat) : Int) ∧ ((v.kids.length : Nat) : Int) ≤ 3) = decide (2 ≤ v.kids.length ∧ v.kids.length ≤ 3) := decide_eq_decide.2 (by omega)
  have d34 : decide ((3 : Int) ≤ ((v.kids.length : Nat) : Int) ∧ ((v.kids.length : Nat) : Int) ≤ 4) = decide (3 ≤ v.kids.length ∧ v.kids.length ≤ 4) := decide_eq_decide.2 (by omega)
  have d12 : decide ((1 : Int) ≤ ((v.kids.length : Nat) : Int) ∧ ((v.kids.length : Nat) : Int) ≤ 2) = decide (1 ≤ v.kids.length ∧ v.kids.length ≤ 2) := decide_eq_decide.2 (by omega)
  have dk : ∀ n : Int, decide (v.kind = n) = decide ((23 : Int) = n) := fun n => by rw [hk]
  have ex : xp v = (fN v && (fT v && (sUses nmB (nBlk sm) true v.kids))) := by
    rw [xp_S]
    unfold exT
    rw [if_neg (by omega), if_neg (by omega), if_neg (by omega), if_neg (by omega), if_neg (by omega), if_neg (by omega), if_neg (by omega), if_neg (by omega), if_neg (by omega), if_pos (by omega)]
  rw [ex]
  (refine enter Try.func31 rfl rfl (by kernel_rfl) [] ?_; simp only [go_sem, Nat.reduceBEq, Nat.reduceAdd, Nat.reduceLeDiff])
  refine (sFields v hbk _ _ rd).mono ?_
  rintro _ h1 ⟨rfl, x0⟩
  try simp only [go_sem, Nat.reduceBEq]
  cases hN : fN v with
  | false =>
    simp only [Bool.false_and, Bool.not_false, go_sem, Nat.reduceBEq]
    exact ⟨rfl, x0⟩
  | true =>
  simp only [Bool.true_and, Bool.not_true, go_sem, Nat.reduceBEq]
  cases hT : fT v with
  | false =>
    simp only [Bool.false_and, Bool.not_false, go_sem, Nat.reduceBEq]
    exact ⟨rfl, x0⟩
  | true =>
  simp only [dk, decide_true, decide_false, Bool.true_and, Bool.not_true, go_sem, Nat.reduceBEq, Int.reduceEq]
  refine (sUse true v.kids (fun e he u hu => (ih u (by have h1 := Nd.size_lt he; have h2 := Nd.size_lt hu; omega)).2) (by omega) _ _ (rd.mono x0)).mono ?_
  rintro _ g1 ⟨rfl, e1⟩
  try simp only [go_sem, Nat.reduceBEq]
  have x1 : Ext h g1 := (x0.trans e1)
  exact ⟨rfl, x1⟩
theorem sEx_o (v : Nd) (hbk : v.bulk ≤ 1048576) (hk : ¬ v.kind = 1 ∧ ¬ v.kind = 2 ∧ ¬ v.kind = 3 ∧ ¬ v.kind = 4 ∧ ¬ v.kind = 5 ∧ ¬ v.kind = 7 ∧ ¬ v.kind = 8 ∧ ¬ v.kind = 9 ∧ ¬ v.kind = 10 ∧ ¬ v.kind = 11 ∧ ¬ v.kind = 12 ∧ ¬ v.kind = 13 ∧ ¬ v.kind = 14 ∧ ¬ v.kind = 15 ∧ ¬ v.kind = 16 ∧ ¬ v.kind = 17 ∧ ¬ v.kind = 18 ∧ ¬ v.kind = 19 ∧ ¬ v.kind = 20 ∧ ¬ v.kind = 21 ∧ ¬ v.kind = 22 ∧ ¬ v.kind = 23) (sl : Value) (h : Hp) (rd : RdN h v.kids sl) : ACalls Try.prog 31 #[.agg #[.int .i64 v.kind, .int .i64 v.num, .string v.text, sl]] h (Is (.bool (xp v)) h) := by
  have hB := Nd.bulk_eq v
  have hL := Nd.bulks_len v.kids
  obtain ⟨a, c, xs, rfl, hc, hr, hat⟩ := rd.rows (by decide) v.kids.length (fm_len Nd.dt_len _)
  have d1 : decide (v.kind = 1) = false := decide_eq_false (by omega)
  have d2 : decide (v.kind = 2) = false := decide_eq_false (by omega)
  have d3 : decide (v.kind = 3) = false := decide_eq_false (by omega)
  have d4 : decide (v.kind = 4) = false := decide_eq_false (by omega)
  have d5 : decide (v.kind = 5) = false := decide_eq_false (by omega)
  have d7 : decide (v.kind = 7) = false := decide_eq_false (by omega)
  have d8 : decide (v.kind = 8) = false := decide_eq_false (by omega)
  have d9 : decide (v.kind = 9) = false := decide_eq_false (by omega)
  have d10 : decide (v.kind = 10) = false := decide_eq_false (by omega)
  have d11 : decide (v.kind = 11) = false := decide_eq_false (by omega)
  have d12 : decide (v.kind = 12) = false := decide_eq_false (by omega)
  have d13 : decide (v.kind = 13) = false := decide_eq_false (by omega)
  have d14 : decide (v.kind = 14) = false := decide_eq_false (by omega)
  have d15 : decide (v.kind = 15) = false := decide_eq_false (by omega)
  have d16 : decide (v.kind = 16) = false := decide_eq_false (by omega)
  have d17 : decide (v.kind = 17) = false := decide_eq_false (by omega)
  have d18 : decide (v.kind = 18) = false := decide_eq_false (by omega)
  have d19 : decide (v.kind = 19) = false := decide_eq_false (by omega)
  have d20 : decide (v.kind = 20) = false := decide_eq_false (by omega)
  have d21 : decide (v.kind = 21) = false := decide_eq_false (by omega)
  have d22 : decide (v.kind = 22) = false := decide_eq_false (by omega)
  have d23 : decide (v.kind = 23) = false := decide_eq_false (by omega)
  have ex : xp v = (fN v && (fT v && false)) := by
    rw [xp_S]
    unfold exT
    rw [if_neg (by omega), if_neg (by omega), if_neg (by omega), if_neg (by omega), if_neg (by omega), if_neg (by omega), if_neg (by omega), if_neg (by omega), if_neg (by omega), if_neg (by omega)]
  rw [ex]
  (refine enter Try.func31 rfl rfl (by kernel_rfl) [] ?_; simp only [go_sem, Nat.reduceBEq, Nat.reduceAdd, Nat.reduceLeDiff])
  refine (sFields v hbk _ _ rd).mono ?_
  rintro _ h1 ⟨rfl, x0⟩
  try simp only [go_sem, Nat.reduceBEq]
  cases hN : fN v with
  | false =>
    simp only [Bool.and_false, Bool.not_false, go_sem, Nat.reduceBEq]
    exact ⟨rfl, x0⟩
  | true =>
  simp only [Bool.and_false, Bool.not_true, go_sem, Nat.reduceBEq]
  cases hT : fT v with
  | false =>
    simp only [Bool.not_false, go_sem, Nat.reduceBEq]
    exact ⟨rfl, x0⟩
  | true =>
  simp only [d1, d2, d3, d4, d5, d7, d8, d9, d10, d11, d12, d13, d14, d15, d16, d17, d18, d19, d20, d21, d22, d23, Bool.not_true, go_sem, Nat.reduceBEq]
  exact ⟨rfl, x0⟩

theorem sEx (v : Nd) (ih : ∀ e : Nd, e.size < v.size → SE e ∧ SS e) : SE v := fun hbk sl h rd => by
  by_cases k1 : v.kind = 1
  · exact sEx_1 v hbk ih k1 sl h rd
  by_cases k2 : v.kind = 2
  · exact sEx_2 v hbk ih k2 sl h rd
  by_cases k3 : v.kind = 3
  · exact sEx_3 v hbk ih k3 sl h rd
  by_cases k4 : v.kind = 4
  · exact sEx_4 v hbk ih k4 sl h rd
  by_cases k5 : v.kind = 5
  · exact sEx_5 v hbk ih k5 sl h rd
  by_cases k7 : v.kind = 7
  · exact sEx_7 v hbk ih k7 sl h rd
  by_cases k8 : v.kind = 8
  · exact sEx_8 v hbk ih k8 sl h rd
  by_cases k9 : v.kind = 9
  · exact sEx_9 v hbk ih k9 sl h rd
  by_cases k10 : v.kind = 10
  · exact sEx_10 v hbk ih k10 sl h rd
  by_cases k11 : v.kind = 11
  · exact sEx_11 v hbk ih k11 sl h rd
  by_cases k12 : v.kind = 12
  · exact sEx_12 v hbk ih k12 sl h rd
  by_cases k13 : v.kind = 13
  · exact sEx_13 v hbk ih k13 sl h rd
  by_cases k14 : v.kind = 14
  · exact sEx_14 v hbk ih k14 sl h rd
  by_cases k15 : v.kind = 15
  · exact sEx_15 v hbk ih k15 sl h rd
  by_cases k16 : v.kind = 16
  · exact sEx_16 v hbk ih k16 sl h rd
  by_cases k17 : v.kind = 17
  · exact sEx_17 v hbk ih k17 sl h rd
  by_cases k18 : v.kind = 18
  · exact sEx_18 v hbk ih k18 sl h rd
  by_cases k19 : v.kind = 19
  · exact sEx_19 v hbk ih k19 sl h rd
  by_cases k20 : v.kind = 20
  · exact sEx_20 v hbk ih k20 sl h rd
  by_cases k21 : v.kind = 21
  · exact sEx_21 v hbk ih k21 sl h rd
  by_cases k22 : v.kind = 22
  · exact sEx_22 v hbk ih k22 sl h rd
  by_cases k23 : v.kind = 23
  · exact sEx_23 v hbk ih k23 sl h rd
  exact sEx_o v hbk ⟨k1, k2, k3, k4, k5, k7, k8, k9, k10, k11, k12, k13, k14, k15, k16, k17, k18, k19, k20, k21, k22, k23⟩ sl h rd
end Go.Proofs.Ytamjpcmcpcdggaa
