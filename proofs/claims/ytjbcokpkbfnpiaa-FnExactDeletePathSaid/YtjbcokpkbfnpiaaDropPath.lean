/-
  What l12Drop does: the value without what a path leads to; its cells are shared with the argument's.
-/
import Derived.Test.YtjbcokpkbfnpiaaSet
import Derived.Test.YtjbcokpkbfnpiaaCopy
namespace Go.Proofs.Ytjbcokpkbfnpiaa
open Go Go.Sx
theorem sl12Drop : ∀ (path : List Ky) (v : V) (_ : V.bulks v.items ≤ 1099511627776) (_ : path.length ≤ 1099511627776) (sl sp : Value) (h : Hp) (_ : RdE h v.items sl) (_ : Rd h (.row 3 (path.flatMap Ky.dt)) sp),
    ACalls Try.prog 46 #[.agg #[.int .i64 v.kind, .int .i64 v.num, .string v.str, .int .i64 v.next, sl], sp] h (RdV h (v.dropPath path)) := by
  intro path
  induction path with
  | nil =>
    intro v hl hp sl sp h rd rp
    obtain ⟨ap, cp, xp, rfl, hcp, hrp, hatp⟩ := rp.rows (by decide) ([] : List Ky).length (fm_len Ky.dt_len _)
    obtain ⟨a, c, _, rfl, _⟩ := rd.rows (by decide) v.items.length (fm_len edt_len _)
    (refine enter Try.func46 rfl rfl (by kernel_rfl) [] ?_; simp only [go_sem, Nat.reduceBEq])
    rw [V.dropPath_nil]
    refine Br.intro (fun h0 => ?_) (fun h0 => ?_) <;> (try simp only [h0, go_sem, Nat.reduceBEq, Nat.reduceAdd, Nat.reduceLeDiff])
    · exact ⟨_, _, rfl, Ext.refl _, rd⟩
    · exact absurd (of_decide_eq_false h0) (by simp)
  | cons k rest ih =>
    intro v hl hp sl sp h rd rp
    have hlen := V.bulks_len v.items
    obtain ⟨ap, cp, xp, rfl, hcp, hrp, hatp⟩ := rp.rows (by decide) (k :: rest).length (fm_len Ky.dt_len _)
    obtain ⟨a, c, _, rfl, _⟩ := rd.rows (by decide) v.items.length (fm_len edt_len _)
    have hn : 0 < (k :: rest).length := by rw [List.length_cons]; omega
    obtain ⟨bp, offp, rfl, hatp'⟩ := hatp hn
    (refine enter Try.func46 rfl rfl (by kernel_rfl) [] ?_; simp only [go_sem, Nat.reduceBEq])
    refine Br.intro (fun h0 => ?_) (fun h0 => ?_) <;> (try simp only [h0, go_sem, Nat.reduceBEq, Nat.reduceAdd, Nat.reduceLeDiff])
    case refine_1 => exact absurd (of_decide_eq_true h0) (by omega)
    by_cases hk : v.kind = 4
    case neg =>
      rw [V.dropPath_other hk]
      simp only [decide_eq_false hk, Bool.not_false, go_sem, Nat.reduceBEq, Nat.reduceAdd, Nat.reduceLeDiff]
      exact ⟨_, _, rfl, Ext.refl _, rd⟩
    simp only [decide_eq_true hk, Bool.not_true, go_sem, Nat.reduceBEq]
    have ix0 : ∀ n : Nat, 0 < n → ixA (some 3) (some ⟨bp, offp, none⟩) n 0 = some (.pointer (some ⟨bp, offp + 0 * 3, none⟩)) := fun n hn => ix_nat (i := 0) hn
    cases rest with
    | nil =>
      rw [V.dropPath_one]
      refine Br.intro (fun h1 => ?_) (fun h1 => ?_) <;> (try simp only [go_sem])
      case refine_2 => exact absurd (of_decide_eq_false h1) (by simp)
      refine regionD_intro (lb := [19]) (by kernel_rfl) ?_
      simp only [ix0 _ (show 0 < 0 + 1 by omega), go_sem, Nat.reduceBEq, Nat.reduceAdd, Nat.reduceLeDiff]
      refine hsem_row (f := Ky.dt) (o := 0) (i := 0) (ds := k.dt) Ky.dt_len tyS57 hatp' hrp rfl (Nat.le_refl _) rfl ?_ fun ys q1 => ?_
      · omega
      rw [RdL_key q1]
      simp only [go_sem, Nat.reduceBEq]
      refine (sl6Drop v k (by omega) _ _ rd).mono ?_
      rintro _ h2 ⟨a2, c2, rfl, e2, r2⟩
      simp only [go_sem, Nat.reduceBEq, Nat.reduceAdd, Nat.reduceLeDiff]
      exact ⟨_, _, rfl, e2, r2⟩
    | cons q r =>
      rw [V.dropPath_more]
      refine Br.intro (fun h1 => ?_) (fun h1 => ?_) <;> (try simp only [go_sem])
      case refine_1 => exact absurd (of_decide_eq_true h1) (by simp only [List.length_cons]; omega)
      refine regionD_intro (lb := [25]) (by kernel_rfl) ?_
      simp only [ix0 _ (show 0 < r.length + 1 + 1 by omega), go_sem, Nat.reduceBEq, Nat.reduceAdd, Nat.reduceLeDiff]
      refine hsem_row (f := Ky.dt) (o := 0) (i := 0) (ds := k.dt) Ky.dt_len tyS57 hatp' hrp rfl (Nat.le_refl _) rfl ?_ fun ys q1 => ?_
      · omega
      rw [RdL_key q1]
      simp only [go_sem, Nat.reduceBEq]
      refine (sGet v k (by omega) _ _ rd).mono ?_
      rintro _ _ ⟨rfl, s2, rfl, rd2⟩
      obtain ⟨a2, c2, _, rfl, _⟩ := rd2.rows (by decide) _ (fm_len edt_len _)
      simp only [go_sem, Nat.reduceBEq, Nat.reduceAdd, Nat.reduceLeDiff]
      cases hg : v.get k with
      | none =>
        simp only [Option.isSome_none, Bool.not_false, go_sem, Nat.reduceBEq, Nat.reduceAdd, Nat.reduceLeDiff]
        exact ⟨_, _, rfl, Ext.refl _, rd⟩
      | some x =>
        rw [hg] at rd2
        simp only [Option.isSome_some, Option.getD_some, Bool.not_true, go_sem] at rd2 ⊢
        obtain ⟨a3, ys3, e3, rs3, rl3⟩ := Rd.sub Ky.dt_len rp 1 (k :: q :: r).length (by simp only [List.length_cons]; omega) (Nat.le_refl _)
        have e3 : slA (some 3) (some ⟨bp, offp, none⟩) (r.length + 1 + 1) cp 1 ((r.length + 1 + 1 : Nat) : Int) = some (.slice a3 (r.length + 1 + 1 - 1) (cp - 1)) := e3
        have rp3 : Rd h (.row 3 ((q :: r).flatMap Ky.dt)) (.slice a3 (r.length + 1 + 1 - 1) (cp - 1)) := by
          simp only [Rd]
          exact ⟨_, rs3, by simpa using rl3⟩
        refine regionD_still (lb := [35, 39]) (pl := [38]) h (Ext.refl _) (by kernel_rfl) ?_
        simp only [ix0 _ (show 0 < r.length + 1 + 1 by omega), go_sem, Nat.reduceBEq, Nat.reduceAdd, Nat.reduceLeDiff]
        refine hsem_row (f := Ky.dt) (o := 0) (i := 0) (ds := k.dt) Ky.dt_len tyS57 hatp' hrp rfl (Nat.le_refl _) rfl ?_ fun ys q1 => ?_
        · omega
        rw [RdL_key q1]
        simp only [e3, go_sem, Nat.reduceBEq, Nat.reduceAdd, Nat.reduceLeDiff]
        refine (ih x (by have := V.get_bulk hg; omega) (by simp only [List.length_cons] at hp ⊢; omega) _ _ _ rd2 rp3).mono ?_
        rintro _ h2 ⟨a4, c4, rfl, e4, r4⟩
        simp only [go_sem, Nat.reduceBEq]
        refine ⟨e4, ?_⟩
        refine (sl6Set v k _ (by omega) _ _ _ (rd.mono e4) r4).mono ?_
        rintro _ h5 ⟨a5, c5, rfl, e5, r5⟩
        simp only [go_sem, Nat.reduceBEq, Nat.reduceAdd, Nat.reduceLeDiff]
        refine ⟨e4.trans e5, ?_⟩
        exact ⟨_, _, rfl, e4.trans e5, r5⟩
theorem bulks_app : ∀ p q : List (Ky × V), V.bulks (p ++ q) = V.bulks p + V.bulks q
  | [], q => by simp [V.bulks]
  | (k, v) :: r, q => by simp only [List.cons_append, V.bulks, bulks_app r q]; omega
theorem bulks_at {es : List (Ky × V)} {i : Nat} {e : Ky × V} (he : es[i]? = some e) : V.bulks es = V.bulks (es.take i) + (1 + (e.1.str.size + e.2.bulk) + V.bulks (es.drop (i + 1))) := by
  have h1 : es = es.take i ++ e :: es.drop (i + 1) := by rw [← drop_cons he, List.take_append_drop]
  conv => lhs; rw [h1]
  rw [bulks_app]
  obtain ⟨k, v⟩ := e
  simp only [V.bulks]
theorem dropPath_bulk : ∀ (p : List Ky) (v : V), V.bulks (v.dropPath p).items ≤ V.bulks v.items ∧ (v.dropPath p).str = v.str
  | [], v => by rw [V.dropPath_nil]; exact ⟨Nat.le_refl _, rfl⟩
  | [k], v => by
    rw [V.dropPath_one]
    unfold V.dropKey
    cases hf : v.find k with
    | none => exact ⟨Nat.le_refl _, rfl⟩
    | some i =>
      obtain ⟨x, hx, hg, hlt⟩ := V.find_get hf
      obtain ⟨e, he, _⟩ := get_lt hlt
      have := bulks_at he
      refine ⟨?_, rfl⟩
      simp only [V.withItems_items]
      rw [bulks_app]
      omega
  | k :: q :: r, v => by
    rw [V.dropPath_more]
    cases hg : v.get k with
    | none => exact ⟨Nat.le_refl _, rfl⟩
    | some x =>
      cases hf : v.find k with
      | none => rw [V.find_none hf] at hg; cases hg
      | some i =>
        obtain ⟨y, hy, hg2, hlt⟩ := V.find_get hf
        rw [hg] at hg2
        cases hg2
        obtain ⟨e, he, _⟩ := get_lt hlt
        obtain ⟨h1, h2⟩ := dropPath_bulk (q :: r) x
        have h3 := bulks_at he
        simp only [V.setKey, hf, V.setAt, he]
        refine ⟨?_, rfl⟩
        simp only [V.withItems_items]
        rw [bulks_app]
        simp only [V.bulks]
        have h4 := V.bulk_eq (x.dropPath (q :: r))
        have h5 := V.bulk_eq x
        rw [h2] at h4
        have h6 : e.2 = x := by
          rw [hy] at he
          cases he
          rfl
        rw [h6] at h3
        omega
theorem sDeletePath (v : V) (path : List Ky) (hl : V.bulks v.items ≤ 1099511627776) (hp : path.length ≤ 1099511627776) (sl sp : Value) (h : Hp) (rd : RdE h v.items sl) (rp : Rd h (.row 3 (path.flatMap Ky.dt)) sp) :
    ACalls Try.prog 25 #[.agg #[.int .i64 v.kind, .int .i64 v.num, .string v.str, .int .i64 v.next, sl], sp] h (Made h (v.dropPath path)) := by
  obtain ⟨ap, cp, xp, rfl, _⟩ := rp.rows (by decide) path.length (fm_len Ky.dt_len _)
  obtain ⟨a, c, _, rfl, _⟩ := rd.rows (by decide) v.items.length (fm_len edt_len _)
  (refine enter Try.func25 rfl rfl (by kernel_rfl) [] ?_; simp only [go_sem, Nat.reduceBEq, Nat.reduceAdd, Nat.reduceLeDiff])
  refine (sl12Drop path v hl hp _ _ _ rd rp).mono ?_
  rintro _ h2 ⟨a2, c2, rfl, e2, r2⟩
  simp only [go_sem, Nat.reduceBEq]
  refine (l5Copy_c _ (Nat.le_trans (dropPath_bulk path v).1 hl) _ _ r2).mono ?_
  rintro _ h3 ⟨a3, c3, rfl, m3⟩
  simp only [go_sem, Nat.reduceBEq, Nat.reduceAdd, Nat.reduceLeDiff]
  exact ⟨_, _, rfl, m3.base e2⟩
end Go.Proofs.Ytjbcokpkbfnpiaa
