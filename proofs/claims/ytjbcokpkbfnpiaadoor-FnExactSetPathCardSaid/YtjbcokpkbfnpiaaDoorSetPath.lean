/-
  What SetPath of the program and of the reference does.
-/
import Derived.Test.YtjbcokpkbfnpiaaDoorUnion
import Derived.Test.YtjbcokpkbfnpiaaDoorSxPutPath
namespace Go.Proofs.YtjbcokpkbfnpiaaDoor
set_option maxRecDepth 8000
open Go Go.Sx
theorem rd_arr (h : Hp) : RdE h V.arr.items (.slice none 0 0) := ((My.nil (Ext.refl h)).nilrow (z := 8)).rd
theorem iAllKeys (l : List Ky) (hl : l.length ≤ 1099511627776) (sl : Value) (h : Hp) (rd : Rd h (.row 3 (l.flatMap Ky.dt)) sl) (hE : Env h) : ACalls Tryd.prog 76 #[sl] h (Is (.bool (l.all keyOk)) h) := by
  obtain ⟨a, c, xs, rfl, hc, hr, hat⟩ := rd.rows (by decide) l.length (fm_len Ky.dt_len _)
  (refine enter Tryd.func76 rfl rfl (by kernel_rfl) [] ?_; simp only [go_sem, Nat.reduceBEq])
  refine aloop (ι := Nat) (fun i => [(7, .val (.int .i64 (i : Nat))), (6, .val (.int .i64 (l.length : Nat))), (5, .val (.slice a l.length c))]) (fun _ => []) (fun i h' => i ≤ l.length ∧ Ext h h' ∧ (l.drop i).all keyOk = l.all keyOk) (fun i => l.length - i) 0 ⟨Nat.zero_le _, Ext.refl _, rfl⟩ (by repeat (first | exact wkF_e | refine wkF_c rfl ?_)) wkB_e rfl ?_
  rintro i h1 ⟨hi, e1, hq⟩
  have hi : i ≤ l.length := hi
  simp only [go_sem, Nat.reduceBEq]
  refine Br.intro (fun hb => ?_) (fun hb => ?_) <;> (try simp only [hb, go_sem, Nat.reduceBEq])
  · have hb : i < l.length := by simpa using hb
    obtain ⟨b, off, rfl, hat'⟩ := hat (by omega)
    obtain ⟨e, he, hm⟩ := get_lt hb
    have wsu := wrap_succ (i := i) (by omega)
    rw [drop_cons he, List.all_cons] at hq
    simp only [ix_nat hb, go_sem, Nat.reduceBEq]
    refine hsem_row (f := Ky.dt) (o := 0) (ds := e.dt) Ky.dt_len tyS74 (hat'.mono e1) (hr.mono e1) he (Nat.le_refl _) rfl ?_ fun ys q1 => ?_
    · omega
    rw [RdL_key q1]
    simp only [go_sem, Nat.reduceBEq, Nat.reduceAdd, Nat.reduceLeDiff]
    refine (iIsKey e _ (hE.ext e1)).mono ?_
    rintro _ h2 ⟨rfl, e2⟩
    simp only [go_sem, Nat.reduceBEq]
    refine Br.intro (fun hk => ?_) (fun hk => ?_) <;> (try simp only [hk, go_sem, Nat.reduceBEq])
    · have hk : keyOk e = false := by simpa using hk
      rw [hk] at hq
      exact ⟨by rw [← hq]; rfl, e1.trans e2⟩
    · have hk : keyOk e = true := by simpa using hk
      rw [hk] at hq
      try simp only [wsu, go_sem]
      exact Again.intro (i + 1) (by first | omega | (simp only; omega)) ⟨hb, e1.trans e2, by simpa using hq⟩ (by repeat (first | exact wkF_e | refine wkF_c rfl ?_)) wkB_e rfl
  · have hb : i = l.length := by simp at hb; omega
    rw [List.drop_eq_nil_of_le (by omega)] at hq
    exact ⟨by rw [← hq]; rfl, e1⟩
theorem sAllKeys (l : List Ky) (hl : l.length ≤ 1099511627776) (hs : ∀ k ∈ l, k.str.size ≤ 1152921504606846976) (sl : Value) (h : Hp) (rd : Rd h (.row 3 (l.flatMap Ky.dt)) sl) : ACalls Tryd.prog 73 #[sl] h (Is (.bool (l.all keyOk)) h) := by
  obtain ⟨a, c, xs, rfl, hc, hr, hat⟩ := rd.rows (by decide) l.length (fm_len Ky.dt_len _)
  (refine enter Tryd.func73 rfl rfl (by kernel_rfl) [] ?_; simp only [go_sem])
  refine aloop (ι := Nat) (fun i => [(3, .val (.int .i64 (i : Nat))), (0, .val (.slice a l.length c))]) (fun _ => []) (fun i h' => i ≤ l.length ∧ Ext h h' ∧ (l.drop i).all keyOk = l.all keyOk) (fun i => l.length - i) 0 ⟨Nat.zero_le _, Ext.refl _, rfl⟩ (by repeat (first | exact wkF_e | refine wkF_c rfl ?_)) wkB_e rfl ?_
  rintro i h1 ⟨hi, e1, hq⟩
  have hi : i ≤ l.length := hi
  simp only [go_sem, Nat.reduceBEq]
  refine Br.intro (fun hb => ?_) (fun hb => ?_) <;> (try simp only [hb, go_sem, Nat.reduceBEq])
  · have hb : i < l.length := by simpa using hb
    obtain ⟨b, off, rfl, hat'⟩ := hat (by omega)
    obtain ⟨e, he, hm⟩ := get_lt hb
    have wsu := wrap_succ (i := i) (by omega)
    rw [drop_cons he, List.all_cons] at hq
    simp only [ix_nat hb, go_sem, Nat.reduceBEq]
    refine hsem_row (f := Ky.dt) (o := 0) (ds := e.dt) Ky.dt_len tyS74 (hat'.mono e1) (hr.mono e1) he (Nat.le_refl _) rfl ?_ fun ys q1 => ?_
    · omega
    rw [RdL_key q1]
    simp only [go_sem, Nat.reduceBEq]
    refine (sIsKey e _ (hs e hm)).mono ?_
    rintro _ h2 ⟨rfl, e2⟩
    simp only [go_sem, Nat.reduceBEq]
    refine Br.intro (fun hk => ?_) (fun hk => ?_) <;> (try simp only [hk, go_sem, Nat.reduceBEq])
    · have hk : keyOk e = false := by simpa using hk
      rw [hk] at hq
      exact ⟨by rw [← hq]; rfl, e1.trans e2⟩
    · have hk : keyOk e = true := by simpa using hk
      rw [hk] at hq
      try simp only [wsu, go_sem]
      exact Again.intro (i + 1) (by first | omega | (simp only; omega)) ⟨hb, e1.trans e2, by simpa using hq⟩ (by repeat (first | exact wkF_e | refine wkF_c rfl ?_)) wkB_e rfl
  · have hb : i = l.length := by simp at hb; omega
    rw [List.drop_eq_nil_of_le (by omega)] at hq
    exact ⟨by rw [← hq]; rfl, e1⟩
theorem iArr (h : Hp) : ACalls Tryd.prog 102 #[] h (Pu (.agg #[.int .i64 4, .int .i64 0, .string ⟨#[]⟩, .int .i64 0, .slice none 0 0]) h) := by
  (refine enter Tryd.func102 rfl rfl (by kernel_rfl) [] ?_; simp only [go_sem, Nat.reduceBEq, Nat.reduceAdd, Nat.reduceLeDiff])
  exact ⟨rfl, rfl⟩
theorem sArr (h : Hp) : ACalls Tryd.prog 113 #[] h (Pu (.agg #[.int .i64 4, .int .i64 0, .string ⟨#[]⟩, .int .i64 0, .slice none 0 0]) h) := by
  (refine enter Tryd.func113 rfl rfl (by kernel_rfl) [] ?_; simp only [go_sem, Nat.reduceBEq, Nat.reduceAdd, Nat.reduceLeDiff])
  exact ⟨rfl, rfl⟩
theorem iIntKey (n : Int) (h : Hp) : ACalls Tryd.prog 103 #[.int .i64 n] h (Pu (.agg #[.bool false, .int .i64 n, .string ⟨#[]⟩]) h) := by
  (refine enter Tryd.func103 rfl rfl (by kernel_rfl) [] ?_; simp only [go_sem, Nat.reduceBEq, Nat.reduceAdd, Nat.reduceLeDiff])
  exact ⟨rfl, rfl⟩
/-- a value that can be read, and a number -/
def PutP (h : Hp) (o : V × Int) (u : Value) (h' : Hp) : Prop := ∃ a c, u = .tuple #[.agg #[.int .i64 o.1.kind, .int .i64 o.1.num, .string o.1.str, .int .i64 o.1.next, .slice a o.1.items.length c], .int .i64 o.2] ∧ Ext h h' ∧ RdE h' o.1.items (.slice a o.1.items.length c)
theorem d00 : decide (((0 : Nat) : Int) = 0) = true := by decide
/-- what writePath leaves: the number, and, where that is 0, the value written -/
def Wrote (h0 : Hp) (c : List Dt → Dt) (val : Value) (R : Bag) (o : V × Int) (u : Value) (h' : Hp) : Prop := u = .int .i64 o.2 ∧ ∃ w, My h0 h' ((c w.dt, val) :: R) ∧ (o.2 = 0 → w = o.1)
theorem dc0 (k : Ky) (r : List Ky) : decide ((((k :: r).length : Nat) : Int) = 0) = false := decide_eq_false (by rw [List.length_cons]; omega)
theorem arr_get (k : Ky) : V.arr.get k = none := rfl
theorem arr_find (k : Ky) : V.arr.find k = none := rfl
theorem sl12Set : ∀ (path : List Ky) (v : V) (push : Bool) (x : V) (_ : V.bulks v.items ≤ 1099511627776) (_ : path.length ≤ 1099511627776) (sl sp sx : Value) (h : Hp) (_ : RdE h v.items sl) (_ : Rd h (.row 3 (path.flatMap Ky.dt)) sp) (_ : RdE h x.items sx),
    ACalls Tryd.prog 100 #[.agg #[.int .i64 v.kind, .int .i64 v.num, .string v.str, .int .i64 v.next, sl], sp, .bool push, .agg #[.int .i64 x.kind, .int .i64 x.num, .string x.str, .int .i64 x.next, sx]] h (PutP h (v.put path push x)) := by
  intro path
  induction path with
  | nil =>
    intro v push x hl hp sl sp sx h rd rp rx
    have hlen := V.bulks_len v.items
    obtain ⟨ap, cp, xp, rfl, _⟩ := rp.rows (by decide) ([] : List Ky).length (fm_len Ky.dt_len _)
    obtain ⟨a, c, _, rfl, _⟩ := rd.rows (by decide) v.items.length (fm_len edt_len _)
    obtain ⟨ax, cx, _, rfl, _⟩ := rx.rows (by decide) x.items.length (fm_len edt_len _)
    (refine enter Tryd.func100 rfl rfl (by kernel_rfl) [] ?_; simp only [go_sem, Nat.reduceBEq])
    cases push with
    | false =>
      rw [V.put_nil_f]
      simp only [d00, go_sem, Nat.reduceBEq, Nat.reduceAdd, Nat.reduceLeDiff]
      exact ⟨_, _, rfl, Ext.refl _, rx⟩
    | true =>
      rw [V.put_nil_t]
      simp only [d00, go_sem, Nat.reduceBEq]
      by_cases k0 : v.kind = 0
      · rw [V.asArr_null k0]
        have dk0 := decide_eq_true k0
        simp only [dk0, go_sem]
        (refine (sArr _).mono ?_; rintro _ _ ⟨rfl, rfl⟩; simp only [go_sem, Nat.reduceBEq, Nat.reduceAdd, Nat.reduceLeDiff])
        simp only [d00, go_sem, Nat.reduceBEq]
        (refine (l1In_c _ _ _ _).mono ?_; rintro _ _ ⟨rfl, rfl⟩; simp only [go_sem, Nat.reduceBEq])
        have dd : decide ((0 : Int) ≤ 0 ∧ (0 : Int) ≤ 1000000000) = true := by decide
        simp only [dd, go_sem, Nat.reduceBEq, Nat.reduceAdd, Nat.reduceLeDiff]
        rw [if_neg (by decide), if_neg (by decide)]
        refine (sl6Set V.arr ⟨false, V.arr.next, ⟨#[]⟩⟩ x (by decide) _ _ _ (rd_arr _) rx).mono ?_
        rintro _ h5 ⟨a5, c5, rfl, e5, r5⟩
        simp only [go_sem, Nat.reduceBEq, Nat.reduceAdd, Nat.reduceLeDiff]
        exact ⟨_, _, rfl, e5, r5⟩
      rw [V.asArr_other k0]
      have dk0 := decide_eq_false k0
      simp only [dk0, go_sem, Nat.reduceBEq]
      by_cases k4 : v.kind = 4
      case neg =>
        have dk4 := decide_eq_false k4
        simp only [dk4, go_sem, Nat.reduceBEq, Nat.reduceAdd, Nat.reduceLeDiff]
        rw [if_pos k4]
        exact ⟨_, _, rfl, Ext.refl _, rd⟩
      have dk4 := decide_eq_true k4
      simp only [dk4, d00, go_sem, Nat.reduceBEq]
      (refine (l1In_c _ _ _ _).mono ?_; rintro _ _ ⟨rfl, rfl⟩; simp only [go_sem, Nat.reduceBEq])
      rw [if_neg (by simpa using k4)]
      refine Br.intro (fun hn => ?_) (fun hn => ?_) <;> (try simp only [hn, go_sem, Nat.reduceBEq, Nat.reduceAdd, Nat.reduceLeDiff])
      · have hn : ¬ (0 ≤ v.next ∧ v.next ≤ 1000000000) := of_decide_eq_false (by simpa only [Bool.not_eq_true'] using hn)
        rw [if_pos hn]
        exact ⟨_, _, rfl, Ext.refl _, rd⟩
      · have hn : 0 ≤ v.next ∧ v.next ≤ 1000000000 := of_decide_eq_true (by simpa only [Bool.not_eq_false'] using hn)
        rw [if_neg (fun h => h hn)]
        refine (sl6Set v ⟨false, v.next, ⟨#[]⟩⟩ x (by omega) _ _ _ rd rx).mono ?_
        rintro _ h5 ⟨a5, c5, rfl, e5, r5⟩
        simp only [go_sem, Nat.reduceBEq, Nat.reduceAdd, Nat.reduceLeDiff]
        exact ⟨_, _, rfl, e5, r5⟩
  | cons k r ih =>
    intro v push x hl hp sl sp sx h rd rp rx
    have hlen := V.bulks_len v.items
    obtain ⟨ap, cp, xp, rfl, hcp, hrp, hatp⟩ := rp.rows (by decide) (k :: r).length (fm_len Ky.dt_len _)
    obtain ⟨a, c, _, rfl, _⟩ := rd.rows (by decide) v.items.length (fm_len edt_len _)
    obtain ⟨ax, cx, _, rfl, _⟩ := rx.rows (by decide) x.items.length (fm_len edt_len _)
    have hn : 0 < (k :: r).length := by rw [List.length_cons]; omega
    obtain ⟨bp, offp, rfl, hatp'⟩ := hatp hn
    have ix0 : ∀ n : Nat, 0 < n → ixA (some 3) (some ⟨bp, offp, none⟩) n 0 = some (.pointer (some ⟨bp, offp + 0 * 3, none⟩)) := fun n hn => ix_nat (i := 0) hn
    obtain ⟨a3, ys3, e3, rs3, rl3⟩ := Rd.sub Ky.dt_len rp 1 (k :: r).length (by simp only [List.length_cons]; omega) (Nat.le_refl _)
    have e3 : slA (some 3) (some ⟨bp, offp, none⟩) (r.length + 1) cp 1 ((r.length + 1 : Nat) : Int) = some (.slice a3 (r.length + 1 - 1) (cp - 1)) := e3
    have rp3 : Rd h (.row 3 (r.flatMap Ky.dt)) (.slice a3 (r.length + 1 - 1) (cp - 1)) := by
      simp only [Rd]
      exact ⟨_, rs3, by simpa using rl3⟩
    have dc := dc0 k r
    rw [List.length_cons] at dc
    (refine enter Tryd.func100 rfl rfl (by kernel_rfl) [] ?_; simp only [go_sem, Nat.reduceBEq])
    rw [V.put_cons]
    simp only [dc, go_sem, Nat.reduceBEq]
    by_cases k0 : v.kind = 0
    · rw [V.asArr_null k0]
      have dk0 := decide_eq_true k0
      simp only [dk0, go_sem]
      (refine (sArr _).mono ?_; rintro _ _ ⟨rfl, rfl⟩; simp only [go_sem, Nat.reduceBEq, Nat.reduceAdd, Nat.reduceLeDiff])
      simp only [dc, go_sem]
      rw [if_neg (by decide)]
      refine regionD_intro (lb := [45]) (by kernel_rfl) ?_
      simp only [ix0 _ (show 0 < r.length + 1 by omega), go_sem, Nat.reduceBEq, Nat.reduceAdd, Nat.reduceLeDiff]
      refine hsem_row (f := Ky.dt) (o := 0) (i := 0) (ds := k.dt) Ky.dt_len tyS74 hatp' hrp rfl (Nat.le_refl _) rfl ?_ fun ys q1 => ?_
      · omega
      rw [RdL_key q1]
      simp only [go_sem, Nat.reduceBEq]
      refine (sGet V.arr k (by decide) _ _ (rd_arr _)).mono ?_
      rintro _ _ ⟨rfl, s2, rfl, rd2⟩
      obtain ⟨a2, c2, _, rfl, _⟩ := rd2.rows (by decide) _ (fm_len edt_len _)
      simp only [go_sem, Nat.reduceBEq, Nat.reduceAdd, Nat.reduceLeDiff]
      refine regionD_intro (lb := [53, 57]) (by kernel_rfl) ?_
      simp only [e3, go_sem, Nat.reduceBEq, Nat.reduceAdd, Nat.reduceLeDiff]
      have hgb := getD_bulk V.arr k
      refine (ih ((V.get V.arr k).getD V.null) push x (by exact Nat.le_trans hgb (by decide)) (by simp only [List.length_cons] at hp ⊢; omega) _ _ _ _ rd2 rp3 rx).mono ?_
      rintro _ h4 ⟨a4, c4, rfl, e4, r4⟩
      simp only [go_sem, Nat.reduceBEq, Nat.reduceAdd, Nat.reduceLeDiff]
      refine Br.intro (fun hc => ?_) (fun hc => ?_) <;> (try simp only [hc, go_sem, Nat.reduceBEq, Nat.reduceAdd, Nat.reduceLeDiff])
      · have hc : ¬ (V.put ((V.get V.arr k).getD V.null) r push x).2 = 0 := by simpa using hc
        rw [if_neg hc]
        exact ⟨_, _, rfl, e4, rd_arr _⟩
      · have hc : (V.put ((V.get V.arr k).getD V.null) r push x).2 = 0 := by simpa using hc
        rw [if_pos hc]
        refine regionD_intro (lb := [65, 69]) (by kernel_rfl) ?_
        simp only [ix0 _ (show 0 < r.length + 1 by omega), go_sem, Nat.reduceBEq, Nat.reduceAdd, Nat.reduceLeDiff]
        refine hsem_row (f := Ky.dt) (o := 0) (i := 0) (ds := k.dt) Ky.dt_len tyS74 (hatp'.mono e4) (hrp.mono e4) rfl (Nat.le_refl _) rfl ?_ fun ys q2 => ?_
        · omega
        rw [RdL_key q2]
        simp only [go_sem, Nat.reduceBEq, Nat.reduceAdd, Nat.reduceLeDiff]
        refine (sl6Set V.arr k _ (by decide) _ _ _ (rd_arr _) r4).mono ?_
        rintro _ h5 ⟨a5, c5, rfl, e5, r5⟩
        simp only [go_sem, Nat.reduceBEq, Nat.reduceAdd, Nat.reduceLeDiff]
        exact ⟨_, _, rfl, e4.trans e5, r5⟩
    rw [V.asArr_other k0]
    have dk0 := decide_eq_false k0
    simp only [dk0, go_sem, Nat.reduceBEq]
    by_cases k4 : v.kind = 4
    case neg =>
      have dk4 := decide_eq_false k4
      simp only [dk4, go_sem, Nat.reduceBEq, Nat.reduceAdd, Nat.reduceLeDiff]
      rw [if_pos k4]
      exact ⟨_, _, rfl, Ext.refl _, rd⟩
    have dk4 := decide_eq_true k4
    simp only [dk4, dc, go_sem, Nat.reduceBEq]
    rw [if_neg (by simpa using k4)]
    refine regionD_intro (lb := [45]) (by kernel_rfl) ?_
    simp only [ix0 _ (show 0 < r.length + 1 by omega), go_sem, Nat.reduceBEq, Nat.reduceAdd, Nat.reduceLeDiff]
    refine hsem_row (f := Ky.dt) (o := 0) (i := 0) (ds := k.dt) Ky.dt_len tyS74 hatp' hrp rfl (Nat.le_refl _) rfl ?_ fun ys q1 => ?_
    · omega
    rw [RdL_key q1]
    simp only [go_sem, Nat.reduceBEq]
    refine (sGet v k (by omega) _ _ (rd)).mono ?_
    rintro _ _ ⟨rfl, s2, rfl, rd2⟩
    obtain ⟨a2, c2, _, rfl, _⟩ := rd2.rows (by decide) _ (fm_len edt_len _)
    simp only [go_sem, Nat.reduceBEq, Nat.reduceAdd, Nat.reduceLeDiff]
    refine regionD_intro (lb := [53, 57]) (by kernel_rfl) ?_
    simp only [e3, go_sem, Nat.reduceBEq, Nat.reduceAdd, Nat.reduceLeDiff]
    have hgb := getD_bulk v k
    refine (ih ((V.get v k).getD V.null) push x (by omega) (by simp only [List.length_cons] at hp ⊢; omega) _ _ _ _ rd2 rp3 rx).mono ?_
    rintro _ h4 ⟨a4, c4, rfl, e4, r4⟩
    simp only [go_sem, Nat.reduceBEq, Nat.reduceAdd, Nat.reduceLeDiff]
    refine Br.intro (fun hc => ?_) (fun hc => ?_) <;> (try simp only [hc, go_sem, Nat.reduceBEq, Nat.reduceAdd, Nat.reduceLeDiff])
    · have hc : ¬ (V.put ((V.get v k).getD V.null) r push x).2 = 0 := by simpa using hc
      rw [if_neg hc]
      exact ⟨_, _, rfl, e4, (rd.mono e4)⟩
    · have hc : (V.put ((V.get v k).getD V.null) r push x).2 = 0 := by simpa using hc
      rw [if_pos hc]
      refine regionD_intro (lb := [65, 69]) (by kernel_rfl) ?_
      simp only [ix0 _ (show 0 < r.length + 1 by omega), go_sem, Nat.reduceBEq, Nat.reduceAdd, Nat.reduceLeDiff]
      refine hsem_row (f := Ky.dt) (o := 0) (i := 0) (ds := k.dt) Ky.dt_len tyS74 (hatp'.mono e4) (hrp.mono e4) rfl (Nat.le_refl _) rfl ?_ fun ys q2 => ?_
      · omega
      rw [RdL_key q2]
      simp only [go_sem, Nat.reduceBEq, Nat.reduceAdd, Nat.reduceLeDiff]
      refine (sl6Set v k _ (by omega) _ _ _ (rd.mono e4) r4).mono ?_
      rintro _ h5 ⟨a5, c5, rfl, e5, r5⟩
      simp only [go_sem, Nat.reduceBEq, Nat.reduceAdd, Nat.reduceLeDiff]
      exact ⟨_, _, rfl, e4.trans e5, r5⟩
/-- the value set, or why there is none -/
def setOf (v : V) (path : List Ky) (push : Bool) (x : V) : V × Int :=
  if v.valid && x.valid && path.all keyOk then (if (v.put path push x).2 = 0 then (if (v.put path push x).1.weight ≤ 200 then ((v.put path push x).1, 0) else (v, 9)) else (v, (v.put path push x).2)) else (v, 5)
theorem set_bulk (v : V) (path : List Ky) (push : Bool) (x : V) : (setOf v path push x).1.bulk ≤ v.bulk + kbulk path + (1 + x.bulk) := by
  have := put_bulk path v push x
  unfold setOf
  split
  · split
    · split
      · exact this
      · simp only; omega
    · simp only; omega
  · simp only; omega
theorem d200 (n : Nat) : decide ((200 : Int) < ((n : Nat) : Int)) = !decide (n ≤ 200) := by
  rw [← decide_not]
  exact decide_eq_decide.2 (by omega)
theorem sSetPath (v : V) (path : List Ky) (push : Bool) (x : V) (hv : v.bulk ≤ 274877906944) (hx : x.bulk ≤ 274877906944) (hp : kbulk path ≤ 274877906944) (hpl : path.length ≤ 1099511627776) (hks : ∀ k ∈ path, k.str.size ≤ 1152921504606846976) (sl sp sx : Value) (h : Hp) (rd : RdE h v.items sl) (rp : Rd h (.row 3 (path.flatMap Ky.dt)) sp) (rx : RdE h x.items sx) :
    ACalls Tryd.prog 33 #[.agg #[.int .i64 v.kind, .int .i64 v.num, .string v.str, .int .i64 v.next, sl], sp, .bool push, .agg #[.int .i64 x.kind, .int .i64 x.num, .string x.str, .int .i64 x.next, sx]] h (MadeI h (setOf v path push x).1 (setOf v path push x).2) := by
  have hBv := V.bulk_eq v
  have hBx := V.bulk_eq x
  have hpb := put_bulk path v push x
  have hBp := V.bulk_eq (v.put path push x).1
  obtain ⟨ap, cp, xp, rfl, _⟩ := rp.rows (by decide) path.length (fm_len Ky.dt_len _)
  obtain ⟨a, c, _, rfl, _⟩ := rd.rows (by decide) v.items.length (fm_len edt_len _)
  obtain ⟨ax, cx, _, rfl, _⟩ := rx.rows (by decide) x.items.length (fm_len edt_len _)
  have putC : ∀ h, RdE h v.items (.slice a v.items.length c) → Rd h (.row 3 (path.flatMap Ky.dt)) (.slice ap path.length cp) → RdE h x.items (.slice ax x.items.length cx) →
      ACalls Tryd.prog 74 #[.agg #[.int .i64 v.kind, .int .i64 v.num, .string v.str, .int .i64 v.next, .slice a v.items.length c], .slice ap path.length cp, .bool push, .agg #[.int .i64 x.kind, .int .i64 x.num, .string x.str, .int .i64 x.next, .slice ax x.items.length cx]] h (PutP h (if (v.put path push x).2 = 0 then (if (v.put path push x).1.weight ≤ 200 then ((v.put path push x).1, 0) else (v, 9)) else (v, (v.put path push x).2))) := by
    intro h rd rp rx
    (refine enter Tryd.func74 rfl rfl (by kernel_rfl) [] ?_; simp only [go_sem, Nat.reduceBEq, Nat.reduceAdd, Nat.reduceLeDiff])
    refine (sl12Set path v push x (by omega) hpl _ _ _ _ rd rp rx).mono ?_
    rintro _ h1 ⟨a1, c1, rfl, e1, r1⟩
    simp only [go_sem, Nat.reduceBEq, Nat.reduceAdd, Nat.reduceLeDiff]
    refine Br.intro (fun hc => ?_) (fun hc => ?_) <;> (try simp only [hc, go_sem, Nat.reduceBEq, Nat.reduceAdd, Nat.reduceLeDiff])
    · have hc := of_decide_eq_true hc
      rw [if_pos hc]
      refine (sWeigh _ (by omega) 200 (by decide) _ _ r1).mono ?_
      rintro _ _ ⟨rfl, n, rfl, hr1, hr2⟩
      have hd : decide ((200 : Int) < ((n : Nat) : Int)) = !decide ((v.put path push x).1.weight ≤ 200) := by
        rw [← decide_not]
        exact decide_eq_decide.2 (by
          constructor
          · intro h; omega
          · intro h
            rcases Nat.lt_or_ge 200 n with hh | hh
            · omega
            · have := hr2 hh; omega)
      simp only [hd, go_sem, Nat.reduceBEq]
      refine Br.intro (fun hw => ?_) (fun hw => ?_) <;> (try simp only [hw, go_sem, Nat.reduceBEq, Nat.reduceAdd, Nat.reduceLeDiff, Int.reduceEq])
      · have hw : ¬ (v.put path push x).1.weight ≤ 200 := by simpa using hw
        rw [if_neg hw]
        exact ⟨_, _, rfl, e1, rd.mono e1⟩
      · have hw : (v.put path push x).1.weight ≤ 200 := by simpa using hw
        rw [if_pos hw]
        have dz : decide ((v.put path push x).2 = 0) = true := decide_eq_true hc
        simp only [dz, go_sem, Nat.reduceBEq, Nat.reduceAdd, Nat.reduceLeDiff]
        exact ⟨_, _, rfl, e1, r1⟩
    · have hc := of_decide_eq_false hc
      rw [if_neg hc]
      have dz : decide ((v.put path push x).2 = 0) = false := decide_eq_false hc
      try simp only [dz, go_sem, Nat.reduceBEq, Nat.reduceAdd, Nat.reduceLeDiff, Nat.reduceEqDiff, Int.reduceEq, not_false_eq_true, Int.reduceToNat]
      exact ⟨_, _, rfl, e1, rd.mono e1⟩
  unfold setOf
  (refine enter Tryd.func33 rfl rfl (by kernel_rfl) [] ?_; simp only [go_sem, Nat.reduceBEq, Nat.reduceAdd, Nat.reduceLeDiff])
  refine (sIsValue v (by omega) _ _ rd).mono ?_
  rintro _ h1 ⟨rfl, e1⟩
  cases vv : v.valid with
  | false =>
      simp only [go_sem, Nat.reduceBEq, Nat.reduceAdd, Nat.reduceLeDiff]
      refine (l5Copy_c v (by omega) _ _ (rd.mono e1)).mono ?_
      rintro _ h9 ⟨a9, c9, rfl, m9⟩
      simp only [go_sem, Nat.reduceBEq, Nat.reduceAdd, Nat.reduceLeDiff]
      exact ⟨_, _, rfl, m9.base e1⟩
  | true =>
  simp only [go_sem, Nat.reduceBEq, Nat.reduceAdd, Nat.reduceLeDiff]
  refine (sIsValue x (by omega) _ _ (rx.mono e1)).mono ?_
  rintro _ h2 ⟨rfl, e2⟩
  have e12 := e1.trans e2
  cases vx : x.valid with
  | false =>
      simp only [go_sem, Nat.reduceBEq, Nat.reduceAdd, Nat.reduceLeDiff]
      refine (l5Copy_c v (by omega) _ _ (rd.mono e12)).mono ?_
      rintro _ h9 ⟨a9, c9, rfl, m9⟩
      simp only [go_sem, Nat.reduceBEq, Nat.reduceAdd, Nat.reduceLeDiff]
      exact ⟨_, _, rfl, m9.base e12⟩
  | true =>
  simp only [go_sem, Nat.reduceBEq]
  refine (sAllKeys path hpl hks _ _ (rp.mono e12)).mono ?_
  rintro _ h3 ⟨rfl, e3⟩
  have e13 := e12.trans e3
  cases vk : path.all keyOk with
  | false =>
      simp only [go_sem, Nat.reduceBEq, Nat.reduceAdd, Nat.reduceLeDiff]
      refine (l5Copy_c v (by omega) _ _ (rd.mono e13)).mono ?_
      rintro _ h9 ⟨a9, c9, rfl, m9⟩
      simp only [go_sem, Nat.reduceBEq, Nat.reduceAdd, Nat.reduceLeDiff]
      exact ⟨_, _, rfl, m9.base e13⟩
  | true =>
  simp only [if_true]
  simp only [go_sem, Nat.reduceBEq, Nat.reduceAdd, Nat.reduceLeDiff]
  refine (putC _ (rd.mono e13) (rp.mono e13) (rx.mono e13)).mono ?_
  generalize hq : (if (v.put path push x).2 = 0 then (if (v.put path push x).1.weight ≤ 200 then ((v.put path push x).1, (0 : Int)) else (v, 9)) else (v, (v.put path push x).2)) = q
  have hqb : V.bulks q.1.items ≤ 1099511627776 := by
    have := V.bulk_eq q.1
    rw [← hq] at this ⊢
    split at this
    · split at this
      · rename_i h1 h2; rw [if_pos h1, if_pos h2]; simp only; omega
      · rename_i h1 h2; rw [if_pos h1, if_neg h2]; simp only; omega
    · rename_i h1; rw [if_neg h1]; simp only; omega
  rintro _ h4 ⟨a4, c4, rfl, e4, r4⟩
  simp only [go_sem, Nat.reduceBEq, Nat.reduceAdd, Nat.reduceLeDiff]
  refine (l5Copy_c q.1 hqb _ _ r4).mono ?_
  rintro _ h5 ⟨a5, c5, rfl, m5⟩
  simp only [go_sem, Nat.reduceBEq, Nat.reduceAdd, Nat.reduceLeDiff]
  exact ⟨_, _, rfl, m5.base (e13.trans e4)⟩
theorem iWrite : ∀ (path : List Ky) (v : V) (push : Bool) (x : V) (_ : v.wf = true) (_ : V.bulks v.items ≤ 549755813888) (_ : path.length ≤ 1099511627776) (c : List Dt → Dt) (val : Value) (b off : Nat) (_ : Hold c val b off) (ax : Option Addr) (lx cx : Nat) (sp : Value) (h0 h : Hp) (R : Bag)
    (_ : Rd h0 (.row 3 (path.flatMap Ky.dt)) sp) (_ : My h0 h ((.row 8 (x.items.flatMap edt), .slice ax lx cx) :: (c v.dt, val) :: R)),
    ACalls Tryd.prog 77 #[.pointer (some ⟨b, off, none⟩), sp, .bool push, .agg #[.int .i64 x.kind, .int .i64 x.num, .string x.str, .int .i64 x.next, .slice ax lx cx]] h (Wrote h0 c val R (v.put path push x)) := by
  intro path
  induction path with
  | nil =>
    intro v push x hwf hl hp c val b off hd ax lx cx sp h0 h R rp m
    have hlen := V.bulks_len v.items
    obtain ⟨ap, cp, xp, rfl, _⟩ := rp.rows (by decide) ([] : List Ky).length (fm_len Ky.dt_len _)
    (refine enter Tryd.func77 rfl rfl (by kernel_rfl) [10] ?_; simp only [go_sem, Nat.reduceBEq])
    cases push with
    | false =>
      rw [V.put_nil_f]
      simp only [d00, go_sem, Nat.reduceBEq, Nat.reduceAdd, Nat.reduceLeDiff]
      refine var_store hd (w := x) (V.dt_len v) m rfl fun h3 m3 => ?_
      simp only [go_sem, Nat.reduceBEq]
      exact ⟨rfl, x, m3, fun _ => rfl⟩
    | true =>
      rw [V.put_nil_t]
      simp only [d00, go_sem, Nat.reduceBEq]
      refine var_ldKind hd m.swap rfl ?_
      simp only [go_sem, Nat.reduceBEq]
      by_cases k0 : v.kind = 0
      · rw [V.asArr_null k0]
        have dk0 := decide_eq_true k0
        simp only [dk0, go_sem, Nat.reduceBEq]
        (refine (iArr _).mono ?_; rintro _ _ ⟨rfl, rfl⟩; simp only [go_sem, Nat.reduceBEq])
        refine var_store hd (w := V.arr) (sl := .slice none 0 0) (V.dt_len v) (m.swap.nilrow (z := 8)) rfl fun h3 m3 => ?_
        simp only [go_sem, Nat.reduceBEq]
        refine var_ldKind hd m3 rfl ?_
        have a4 : V.arr.kind = 4 := rfl
        have an : V.arr.next = 0 := rfl
        simp only [a4, d00, go_sem, Nat.reduceBEq, Nat.reduceAdd]
        refine var_ldNext hd m3 rfl ?_
        simp only [an, go_sem, Nat.reduceBEq]
        rw [if_neg (by decide), if_neg (by decide)]
        refine regionD_intro (lb := [49]) (by kernel_rfl) ?_
        simp only [go_sem, Nat.reduceBEq, Nat.reduceAdd]
        refine var_ldNext hd m3 rfl ?_
        simp only [go_sem, Nat.reduceBEq]
        (refine (iIntKey _ _).mono ?_; rintro _ _ ⟨rfl, rfl⟩; simp only [go_sem, Nat.reduceBEq, Nat.reduceAdd, Nat.reduceLeDiff])
        refine (iPutKey hd V.arr ⟨false, V.arr.next, ⟨#[]⟩⟩ x (by decide) _ _ _ _ _ _ m3.swap).mono ?_
        rintro _ h5 ⟨rfl, m5⟩
        simp only [go_sem, Nat.reduceBEq]
        exact ⟨rfl, _, m5, fun _ => rfl⟩
      rw [V.asArr_other k0]
      have dk0 := decide_eq_false k0
      simp only [dk0, go_sem, Nat.reduceBEq]
      refine var_ldKind hd m.swap rfl ?_
      by_cases k4 : v.kind = 4
      case neg =>
        have dk4 := decide_eq_false k4
        simp only [dk4, go_sem, Nat.reduceBEq]
        rw [if_pos k4]
        exact ⟨rfl, v, m.drop, fun h => by simp at h⟩
      have dk4 := decide_eq_true k4
      have hn0 := wf_next hwf k4
      simp only [dk4, d00, go_sem, Nat.reduceBEq, Nat.reduceAdd]
      refine var_ldNext hd m.swap rfl ?_
      simp only [go_sem, Nat.reduceBEq]
      rw [if_neg (by simpa using k4)]
      refine Br.intro (fun hn => ?_) (fun hn => ?_) <;> (try simp only [hn, go_sem, Nat.reduceBEq])
      · have hn := of_decide_eq_true hn
        rw [if_pos (by omega)]
        exact ⟨rfl, v, m.drop, fun h => by simp at h⟩
      · have hn := of_decide_eq_false hn
        rw [if_neg (fun h => h ⟨by omega, by omega⟩)]
        refine regionD_intro (lb := [49]) (by kernel_rfl) ?_
        simp only [go_sem, Nat.reduceBEq, Nat.reduceAdd]
        refine var_ldNext hd m.swap rfl ?_
        simp only [go_sem, Nat.reduceBEq]
        (refine (iIntKey _ _).mono ?_; rintro _ _ ⟨rfl, rfl⟩; simp only [go_sem, Nat.reduceBEq, Nat.reduceAdd, Nat.reduceLeDiff])
        refine (iPutKey hd v ⟨false, v.next, ⟨#[]⟩⟩ x (by omega) _ _ _ _ _ _ m).mono ?_
        rintro _ h5 ⟨rfl, m5⟩
        simp only [go_sem, Nat.reduceBEq]
        exact ⟨rfl, _, m5, fun _ => rfl⟩
  | cons k r ih =>
    intro v push x hwf hl hp c val b off hd ax lx cx sp h0 h R rp m
    have hlen := V.bulks_len v.items
    obtain ⟨ap, cp, xp, rfl, hcp, hrp, hatp⟩ := rp.rows (by decide) (k :: r).length (fm_len Ky.dt_len _)
    have hn : 0 < (k :: r).length := by rw [List.length_cons]; omega
    obtain ⟨bp, offp, rfl, hatp'⟩ := hatp hn
    have ix0 : ∀ n : Nat, 0 < n → ixA (some 3) (some ⟨bp, offp, none⟩) n 0 = some (.pointer (some ⟨bp, offp + 0 * 3, none⟩)) := fun n hn => ix_nat (i := 0) hn
    obtain ⟨a3, ys3, e3, rs3, rl3⟩ := Rd.sub Ky.dt_len rp 1 (k :: r).length (by simp only [List.length_cons]; omega) (Nat.le_refl _)
    have e3 : slA (some 3) (some ⟨bp, offp, none⟩) (r.length + 1) cp 1 ((r.length + 1 : Nat) : Int) = some (.slice a3 (r.length + 1 - 1) (cp - 1)) := e3
    have rp3 : Rd h0 (.row 3 (r.flatMap Ky.dt)) (.slice a3 (r.length + 1 - 1) (cp - 1)) := by
      simp only [Rd]
      exact ⟨_, rs3, by simpa using rl3⟩
    have hpr : r.length ≤ 1099511627776 := by simp only [List.length_cons] at hp; omega
    have dc := dc0 k r
    rw [List.length_cons] at dc
    (refine enter Tryd.func77 rfl rfl (by kernel_rfl) [10] ?_; simp only [go_sem, Nat.reduceBEq])
    rw [V.put_cons]
    simp only [dc, go_sem, Nat.reduceBEq]
    refine var_ldKind hd m.swap rfl ?_
    simp only [go_sem, Nat.reduceBEq]
    by_cases k0 : v.kind = 0
    · rw [V.asArr_null k0]
      have dk0 := decide_eq_true k0
      simp only [dk0, go_sem, Nat.reduceBEq]
      (refine (iArr _).mono ?_; rintro _ _ ⟨rfl, rfl⟩; simp only [go_sem, Nat.reduceBEq])
      refine var_store hd (w := V.arr) (sl := .slice none 0 0) (V.dt_len v) (m.swap.nilrow (z := 8)) rfl fun h3 m3 => ?_
      simp only [go_sem, Nat.reduceBEq]
      refine var_ldKind hd m3 rfl ?_
      have a4 : V.arr.kind = 4 := rfl
      simp only [a4, dc, go_sem, Nat.reduceBEq]
      rw [if_neg (by decide)]
      refine regionD_intro (lb := []) (by kernel_rfl) ?_
      simp only [go_sem, Nat.reduceBEq]
      refine var_load hd m3 rfl fun so ro => ?_
      simp only [ix0 _ (show 0 < r.length + 1 by omega), go_sem, Nat.reduceBEq]
      refine hsem_row (f := Ky.dt) (o := 0) (i := 0) (ds := k.dt) Ky.dt_len tyS74 (hatp'.mono m3.ext) (hrp.mono m3.ext) rfl (Nat.le_refl _) rfl ?_ fun ys q1 => ?_
      · omega
      rw [RdL_key q1]
      simp only [go_sem, Nat.reduceBEq]
      refine (iFindKey V.arr k (by decide) _ _ ro).mono ?_
      rintro _ _ ⟨rfl, rfl⟩
      rw [arr_find, arr_get]
      simp only [ixI_none, Option.getD_none, go_sem, Nat.reduceBEq]
      refine Br.intro (fun hx => ?_) (fun hx => ?_) <;> (try simp only [hx, go_sem])
      case refine_1 => exact absurd (of_decide_eq_true hx) (by decide)
      (refine (iNull _).mono ?_; rintro _ _ ⟨rfl, rfl⟩; simp only [go_sem, Nat.reduceBEq])
      refine hsem_my_alloc (z := [.int .i64 0, .int .i64 0, .string ⟨#[]⟩, .int .i64 0, .slice none 0 0]) (by kernel_rfl) rfl m3 fun b0 h4 m4 => ?_
      simp only [go_sem, Nat.reduceBEq]
      refine var_store (w := V.null) (sl := .slice none 0 0) Hold.ptr rfl (m4.nilrow (z := 8)) rfl fun h5 m5 => ?_
      simp only [go_sem]
      refine regionD_intro (lb := [76]) (by kernel_rfl) ?_
      simp only [e3, go_sem, Nat.reduceBEq, Nat.reduceAdd, Nat.reduceLeDiff]
      refine (ih V.null push x wf_null (by decide) hpr _ _ _ _ Hold.ptr _ _ _ _ _ _ _ rp3 m5.third).mono ?_
      rintro _ h6 ⟨rfl, w, m6, hw⟩
      simp only [go_sem, Nat.reduceBEq]
      refine Br.intro (fun hc => ?_) (fun hc => ?_) <;> (try simp only [hc, go_sem, Nat.reduceBEq])
      · have hc := of_decide_eq_true hc
        rw [if_pos hc]
        have hw := hw hc
        subst hw
        refine regionD_intro (lb := []) (by kernel_rfl) ?_
        simp only [ix0 _ (show 0 < r.length + 1 by omega), go_sem, Nat.reduceBEq]
        refine hsem_row (f := Ky.dt) (o := 0) (i := 0) (ds := k.dt) Ky.dt_len tyS74 (hatp'.mono m6.ext) (hrp.mono m6.ext) rfl (Nat.le_refl _) rfl ?_ fun ys q2 => ?_
        · omega
        rw [RdL_key q2]
        simp only [go_sem, Nat.reduceBEq]
        refine var_take Hold.ptr m6 rfl fun a7 n7 m7 => ?_
        simp only [go_sem, Nat.reduceBEq]
        refine (iPutKey hd V.arr k _ (by decide) _ _ _ _ _ _ m7).mono ?_
        rintro _ h8 ⟨rfl, m8⟩
        simp only [go_sem, Nat.reduceBEq]
        exact ⟨by rw [hc], _, m8, fun _ => rfl⟩
      · have hc := of_decide_eq_false hc
        rw [if_neg hc]
        exact ⟨rfl, _, m6.drop, fun h => absurd h hc⟩
    rw [V.asArr_other k0]
    have dk0 := decide_eq_false k0
    simp only [dk0, go_sem, Nat.reduceBEq]
    refine var_ldKind hd m.swap rfl ?_
    by_cases k4 : v.kind = 4
    case neg =>
      have dk4 := decide_eq_false k4
      simp only [dk4, go_sem, Nat.reduceBEq]
      rw [if_pos k4]
      exact ⟨rfl, v, m.drop, fun h => by simp at h⟩
    have dk4 := decide_eq_true k4
    simp only [dk4, dc, go_sem, Nat.reduceBEq]
    rw [if_neg (by simpa using k4)]
    have m3 := m.swap
    refine regionD_intro (lb := []) (by kernel_rfl) ?_
    simp only [go_sem, Nat.reduceBEq]
    refine var_load hd m3 rfl fun so ro => ?_
    simp only [ix0 _ (show 0 < r.length + 1 by omega), go_sem, Nat.reduceBEq]
    refine hsem_row (f := Ky.dt) (o := 0) (i := 0) (ds := k.dt) Ky.dt_len tyS74 (hatp'.mono m3.ext) (hrp.mono m3.ext) rfl (Nat.le_refl _) rfl ?_ fun ys q1 => ?_
    · omega
    rw [RdL_key q1]
    simp only [go_sem, Nat.reduceBEq]
    refine (iFindKey v k (by omega) _ _ ro).mono ?_
    rintro _ _ ⟨rfl, rfl⟩
    cases hf : v.find k with
    | none =>
      rw [V.find_none hf]
      simp only [ixI_none, Option.getD_none, go_sem, Nat.reduceBEq]
      refine Br.intro (fun hx => ?_) (fun hx => ?_) <;> (try simp only [hx, go_sem])
      case refine_1 => exact absurd (of_decide_eq_true hx) (by decide)
      (refine (iNull _).mono ?_; rintro _ _ ⟨rfl, rfl⟩; simp only [go_sem, Nat.reduceBEq])
      refine hsem_my_alloc (z := [.int .i64 0, .int .i64 0, .string ⟨#[]⟩, .int .i64 0, .slice none 0 0]) (by kernel_rfl) rfl m3 fun b0 h4 m4 => ?_
      simp only [go_sem, Nat.reduceBEq]
      refine var_store (w := V.null) (sl := .slice none 0 0) Hold.ptr rfl (m4.nilrow (z := 8)) rfl fun h5 m5 => ?_
      simp only [go_sem]
      refine regionD_intro (lb := [76]) (by kernel_rfl) ?_
      simp only [e3, go_sem, Nat.reduceBEq, Nat.reduceAdd, Nat.reduceLeDiff]
      refine (ih V.null push x wf_null (by decide) hpr _ _ _ _ Hold.ptr _ _ _ _ _ _ _ rp3 m5.third).mono ?_
      rintro _ h6 ⟨rfl, w, m6, hw⟩
      simp only [go_sem, Nat.reduceBEq]
      refine Br.intro (fun hc => ?_) (fun hc => ?_) <;> (try simp only [hc, go_sem, Nat.reduceBEq])
      · have hc := of_decide_eq_true hc
        rw [if_pos hc]
        have hw := hw hc
        subst hw
        refine regionD_intro (lb := []) (by kernel_rfl) ?_
        simp only [ix0 _ (show 0 < r.length + 1 by omega), go_sem, Nat.reduceBEq]
        refine hsem_row (f := Ky.dt) (o := 0) (i := 0) (ds := k.dt) Ky.dt_len tyS74 (hatp'.mono m6.ext) (hrp.mono m6.ext) rfl (Nat.le_refl _) rfl ?_ fun ys q2 => ?_
        · omega
        rw [RdL_key q2]
        simp only [go_sem, Nat.reduceBEq]
        refine var_take Hold.ptr m6 rfl fun a7 n7 m7 => ?_
        simp only [go_sem, Nat.reduceBEq]
        refine (iPutKey hd v k _ (by omega) _ _ _ _ _ _ m7).mono ?_
        rintro _ h8 ⟨rfl, m8⟩
        simp only [go_sem, Nat.reduceBEq]
        exact ⟨by rw [hc], _, m8, fun _ => rfl⟩
      · have hc := of_decide_eq_false hc
        rw [if_neg hc]
        exact ⟨rfl, _, m6.drop, fun h => absurd h hc⟩
    | some i =>
      obtain ⟨y, hx, hg, hlt⟩ := V.find_get hf
      have hyb := V.get_bulk hg
      have hyw := wf_get hwf hg
      rw [hg]
      simp only [ixI_some, Option.getD_some, go_sem, Nat.reduceBEq]
      refine Br.intro (fun hz => ?_) (fun hz => ?_) <;> (try simp only [hz, go_sem])
      case refine_2 => exact absurd (of_decide_eq_false hz) (by omega)
      obtain ⟨av, cv, m1⟩ := var_open hd m3
      obtain ⟨av', cv', e5, hcc, hcm, hat⟩ := m1.row_shape (by decide) v.items.length (fm_len edt_len _)
      cases e5
      obtain ⟨b5, rfl⟩ := hat (by omega)
      refine regionD_intro (lb := [70]) (by kernel_rfl) ?_
      simp only [go_sem, Nat.reduceBEq, Nat.reduceAdd]
      refine var_ldItems hd m1.drop rfl ?_
      simp only [ix_nat hlt, e3, go_sem, Nat.reduceBEq, Nat.reduceAdd, Nat.reduceLeDiff]
      obtain ⟨c6, hd6, hc6⟩ := hold_item (b := b5) (cap := cv) hx
      have hself : v.items.take i ++ (k, y) :: v.items.drop (i + 1) = v.items := by rw [← drop_cons hx, List.take_append_drop]
      have m2 : My h0 h ((.row 8 (x.items.flatMap edt), .slice ax lx cx) :: (c6 y.dt, .slice (some ⟨b5, 0, none⟩) v.items.length cv) :: (c (vraws v (.slice (some ⟨b5, 0, none⟩) v.items.length cv)), val) :: R) := by
        rw [hc6, hself]
        exact m1.third
      refine (ih y push x hyw (by omega) hpr _ _ _ _ hd6 _ _ _ _ _ _ _ rp3 m2).mono ?_
      rintro _ h6 ⟨rfl, w, m6, hw⟩
      rw [hc6] at m6
      have m7 := var_close (v := v.withItems (v.items.take i ++ (k, w) :: v.items.drop (i + 1))) hd m6
      simp only [go_sem, Nat.reduceBEq]
      by_cases hc : (y.put r push x).2 = 0
      · rw [if_pos hc]
        have hw := hw hc
        subst hw
        refine ⟨by rw [hc], _, m7, fun _ => ?_⟩
        simp only [V.setKey, hf, V.setAt, hx]
      · rw [if_neg hc]
        exact ⟨rfl, _, m7, fun h => absurd h hc⟩
theorem iSetPath (v : V) (path : List Ky) (push : Bool) (x : V) (hv : v.bulk ≤ 274877906944) (hx : x.bulk ≤ 274877906944) (hp : kbulk path ≤ 274877906944) (hpl : path.length ≤ 1099511627776) (sl sp sx : Value) (h : Hp) (rd : RdE h v.items sl) (rp : Rd h (.row 3 (path.flatMap Ky.dt)) sp) (rx : RdE h x.items sx) (hE : Env h) :
    ACalls Tryd.prog 35 #[.agg #[.int .i64 v.kind, .int .i64 v.num, .string v.str, .int .i64 v.next, sl], sp, .bool push, .agg #[.int .i64 x.kind, .int .i64 x.num, .string x.str, .int .i64 x.next, sx]] h (MadeI h (setOf v path push x).1 (setOf v path push x).2) := by
  have hBv := V.bulk_eq v
  have hBx := V.bulk_eq x
  have hpb := put_bulk path v push x
  have hBp := V.bulk_eq (v.put path push x).1
  obtain ⟨ap, cp, xp, rfl, _⟩ := rp.rows (by decide) path.length (fm_len Ky.dt_len _)
  obtain ⟨a, c, _, rfl, _⟩ := rd.rows (by decide) v.items.length (fm_len edt_len _)
  obtain ⟨ax, cx, _, rfl, _⟩ := rx.rows (by decide) x.items.length (fm_len edt_len _)
  unfold setOf
  (refine enter Tryd.func35 rfl rfl (by kernel_rfl) [10] ?_; simp only [go_sem, Nat.reduceBEq, Nat.reduceAdd, Nat.reduceLeDiff])
  refine (iIsValue v (by omega) _ _ rd hE).mono ?_
  rintro _ h1 ⟨rfl, e1⟩
  cases vv : v.valid with
  | false =>
      simp only [go_sem, Nat.reduceBEq, Nat.reduceAdd, Nat.reduceLeDiff]
      refine (copyValue_c v (by omega) _ _ (rd.mono e1)).mono ?_
      rintro _ h9 ⟨a9, c9, rfl, m9⟩
      simp only [go_sem, Nat.reduceBEq, Nat.reduceAdd, Nat.reduceLeDiff]
      exact ⟨_, _, rfl, m9.base e1⟩
  | true =>
  simp only [go_sem, Nat.reduceBEq, Nat.reduceAdd, Nat.reduceLeDiff]
  refine (iIsValue x (by omega) _ _ (rx.mono e1) (hE.ext e1)).mono ?_
  rintro _ h2 ⟨rfl, e2⟩
  have e12 := e1.trans e2
  cases vx : x.valid with
  | false =>
      simp only [go_sem, Nat.reduceBEq, Nat.reduceAdd, Nat.reduceLeDiff]
      refine (copyValue_c v (by omega) _ _ (rd.mono e12)).mono ?_
      rintro _ h9 ⟨a9, c9, rfl, m9⟩
      simp only [go_sem, Nat.reduceBEq, Nat.reduceAdd, Nat.reduceLeDiff]
      exact ⟨_, _, rfl, m9.base e12⟩
  | true =>
  simp only [go_sem, Nat.reduceBEq]
  refine (iAllKeys path hpl _ _ (rp.mono e12) (hE.ext e12)).mono ?_
  rintro _ h3 ⟨rfl, e3⟩
  have e13 := e12.trans e3
  cases vk : path.all keyOk with
  | false =>
      simp only [go_sem, Nat.reduceBEq, Nat.reduceAdd, Nat.reduceLeDiff]
      refine (copyValue_c v (by omega) _ _ (rd.mono e13)).mono ?_
      rintro _ h9 ⟨a9, c9, rfl, m9⟩
      simp only [go_sem, Nat.reduceBEq, Nat.reduceAdd, Nat.reduceLeDiff]
      exact ⟨_, _, rfl, m9.base e13⟩
  | true =>
  simp only [if_true]
  have hwf : v.wf = true := by
    unfold V.valid at vv
    rw [Bool.and_eq_true] at vv
    exact vv.2
  simp only [go_sem, Nat.reduceBEq, Nat.reduceAdd, Nat.reduceLeDiff]
  refine (copyValue_c v (by omega) _ _ (rd.mono e13)).mono ?_
  rintro _ h4 ⟨a4, c4, rfl, m4⟩
  simp only [go_sem, Nat.reduceBEq]
  refine hsem_my_alloc (z := [.int .i64 0, .int .i64 0, .string ⟨#[]⟩, .int .i64 0, .slice none 0 0]) (by kernel_rfl) rfl m4 fun b0 h5 m5 => ?_
  simp only [go_sem, Nat.reduceBEq]
  refine var_store (w := v) Hold.ptr rfl m5.swap rfl fun h6 m6 => ?_
  simp only [go_sem, Nat.reduceBEq, Nat.reduceAdd, Nat.reduceLeDiff]
  refine (copyValue_c x (by omega) _ _ (rx.mono (e13.trans m6.ext))).mono ?_
  rintro _ h7 ⟨a7, c7, rfl, m7⟩
  simp only [go_sem, Nat.reduceBEq]
  refine (iWrite path v push x hwf (by omega) hpl _ _ _ _ Hold.ptr _ _ _ _ _ _ _ (rp.mono e13) (m6.add m7)).mono ?_
  rintro _ h8 ⟨rfl, w, m8, hw⟩
  simp only [go_sem, Nat.reduceBEq]
  have rd8 := rd.mono (e13.trans m8.ext)
  refine Br.intro (fun hc => ?_) (fun hc => ?_) <;> (try simp only [hc, go_sem, Nat.reduceBEq, Nat.reduceAdd, Nat.reduceLeDiff])
  · have hc := of_decide_eq_true hc
    rw [if_pos hc]
    have hw := hw hc
    subst hw
    refine var_load Hold.ptr m8 rfl fun so ro => ?_
    simp only [go_sem, Nat.reduceBEq]
    (refine (iWeight _ (by omega) _ _ ro).mono ?_; rintro _ _ ⟨rfl, rfl⟩; simp only [go_sem, Nat.reduceBEq])
    simp only [d200, go_sem]
    refine Br.intro (fun hz => ?_) (fun hz => ?_) <;> (try simp only [hz, go_sem, Nat.reduceBEq, Nat.reduceAdd, Nat.reduceLeDiff, Int.reduceEq])
    · have hz : ¬ (v.put path push x).1.weight ≤ 200 := by simpa using hz
      rw [if_neg hz]
      refine (copyValue_c v (by omega) _ _ rd8).mono ?_
      rintro _ h9 ⟨a9, c9, rfl, m9⟩
      simp only [go_sem, Nat.reduceBEq, Nat.reduceAdd, Nat.reduceLeDiff]
      exact ⟨_, _, rfl, m9.base (e13.trans m8.ext)⟩
    · have hz : (v.put path push x).1.weight ≤ 200 := by simpa using hz
      rw [if_pos hz]
      have dz : decide ((v.put path push x).2 = 0) = true := decide_eq_true hc
      simp only [dz, go_sem, Nat.reduceBEq]
      refine var_take Hold.ptr m8 rfl fun a9 c9 m9 => ?_
      simp only [go_sem, Nat.reduceBEq, Nat.reduceAdd, Nat.reduceLeDiff]
      exact ⟨_, _, rfl, m9.base e13⟩
  · have hc := of_decide_eq_false hc
    rw [if_neg hc]
    have dz : decide ((v.put path push x).2 = 0) = false := decide_eq_false hc
    try simp only [go_sem]
    refine (copyValue_c v (by omega) _ _ rd8).mono ?_
    rintro _ h9 ⟨a9, c9, rfl, m9⟩
    simp only [go_sem, Nat.reduceBEq, Nat.reduceAdd, Nat.reduceLeDiff]
    exact ⟨_, _, rfl, m9.base (e13.trans m8.ext)⟩
end Go.Proofs.YtjbcokpkbfnpiaaDoor
