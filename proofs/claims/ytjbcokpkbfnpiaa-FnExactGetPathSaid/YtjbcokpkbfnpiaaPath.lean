/-
  What GetPath of the program and of the reference does: a copy of the value that the path leads to.
-/
import Derived.Test.YtjbcokpkbfnpiaaFind
import Derived.Test.YtjbcokpkbfnpiaaCopy
namespace Go.Proofs.Ytjbcokpkbfnpiaa
open Go Go.Sx
/-- a value made, and whether there is one -/
def MadeB (h : Hp) (o : Option V) (u : Value) (h' : Hp) : Prop := ∃ a c, u = .tuple #[.agg #[.int .i64 (o.getD V.null).kind, .int .i64 (o.getD V.null).num, .string (o.getD V.null).str, .int .i64 (o.getD V.null).next, .slice a (o.getD V.null).items.length c], .bool o.isSome] ∧
  My h h' [(.row 8 ((o.getD V.null).items.flatMap edt), .slice a (o.getD V.null).items.length c)]
theorem iGetPath (v : V) (path : List Ky) (hl : V.bulks v.items ≤ 1099511627776) (hp : path.length ≤ 1099511627776) (sl sp : Value) (h : Hp) (rd : RdE h v.items sl) (rp : Rd h (.row 3 (path.flatMap Ky.dt)) sp) :
    ACalls Try.prog 20 #[.agg #[.int .i64 v.kind, .int .i64 v.num, .string v.str, .int .i64 v.next, sl], sp] h (MadeB h (v.getPath path)) := by
  obtain ⟨ap, cp, xp, rfl, hcp, hrp, hatp⟩ := rp.rows (by decide) path.length (fm_len Ky.dt_len _)
  obtain ⟨a, c, _, rfl, _⟩ := rd.rows (by decide) v.items.length (fm_len edt_len _)
  (refine enter Try.func20 rfl rfl (by kernel_rfl) [] ?_; simp only [go_sem, Nat.reduceBEq])
  refine aloop (ι := Nat × V × Value) (fun x => [(11, .val (.int .i64 (x.1 : Nat))), (10, .val (.int .i64 (path.length : Nat))), (9, .val (.slice ap path.length cp)), (2, .box 2 0), (4, .box 4 0)])
    (fun x => [(2, [.int .i64 x.2.1.kind, .int .i64 x.2.1.num, .string x.2.1.str, .int .i64 x.2.1.next, x.2.2]), (4, [.int .i64 0, .int .i64 0, .string ⟨#[]⟩, .int .i64 0, .slice none 0 0])])
    (fun x h' => x.1 ≤ path.length ∧ x.2.1.getPath (path.drop x.1) = v.getPath path ∧ V.bulks x.2.1.items ≤ 1099511627776 ∧ RdE h x.2.1.items x.2.2 ∧ h = h') (fun x => path.length - x.1) (0, v, .slice a v.items.length c)
    ⟨Nat.zero_le _, rfl, hl, rd, rfl⟩ (by repeat (first | exact wkF_e | refine wkF_c rfl ?_)) (wkB_c rfl (wkB_c rfl wkB_e)) rfl ?_
  rintro ⟨i, w, sw⟩ _ ⟨hi, hq, hbw, rw_, rfl⟩
  have hi : i ≤ path.length := hi
  have hq : w.getPath (path.drop i) = v.getPath path := hq
  have hbw : V.bulks w.items ≤ 1099511627776 := hbw
  have rw_ : RdE h w.items sw := rw_
  obtain ⟨aw, cw, xw, rfl, hcw, hrw, hatw⟩ := rw_.rows (by decide) w.items.length (fm_len edt_len _)
  simp only [go_sem, Nat.reduceBEq]
  refine Br.intro (fun hb => ?_) (fun hb => ?_) <;> (try simp only [hb, go_sem, Nat.reduceBEq, Nat.reduceAdd, Nat.reduceLeDiff])
  · have hb : i < path.length := by simpa using hb
    obtain ⟨bp, offp, rfl, hatp'⟩ := hatp (by omega)
    obtain ⟨k, hk, _⟩ := get_lt hb
    have wsu := wrap_succ (i := i) (by omega)
    rw [drop_cons hk] at hq
    simp only [ix_nat hb, go_sem, Nat.reduceBEq]
    refine hsem_row (f := Ky.dt) (o := 0) (ds := k.dt) Ky.dt_len tyS57 hatp' hrp hk (Nat.le_refl _) rfl ?_ fun ys q1 => ?_
    · omega
    rw [RdL_key q1]
    simp only [go_sem, Nat.reduceBEq, Nat.reduceAdd, Nat.reduceLeDiff]
    have hlw := V.bulks_len w.items
    (refine (iFindKey w k (by omega) _ _ rw_).mono ?_; rintro _ _ ⟨rfl, rfl⟩; simp only [go_sem, Nat.reduceBEq])
    rw [ixI_neg]
    cases hf : w.find k with
    | none =>
      have hg := V.find_none hf
      simp only [V.getPath, hg, Option.bind_none] at hq
      simp only [Option.isNone_none, go_sem]
      (refine (iNull _).mono ?_; rintro _ _ ⟨rfl, rfl⟩; simp only [go_sem, Nat.reduceBEq, Nat.reduceAdd, Nat.reduceLeDiff])
      rw [← hq]
      exact ⟨_, _, rfl, (My.nil (Ext.refl h)).nilrow⟩
    | some j =>
      obtain ⟨x, hx, hg, hlt⟩ := V.find_get hf
      simp only [V.getPath, hg, Option.bind_some] at hq
      obtain ⟨bw, ow, rfl, hatw'⟩ := hatw (by omega)
      simp only [Option.isNone_some, ixI_some, ix_nat hlt, go_sem, Nat.reduceBEq, Nat.reduceAdd]
      refine hsem_eval tyS29 hatw' hrw hx rfl fun s2 rd2 => ?_
      obtain ⟨a2, c2, _, rfl, _⟩ := rd2.rows (by decide) x.items.length (fm_len edt_len _)
      simp only [wsu, go_sem, Nat.reduceBEq, Nat.reduceAdd, Nat.reduceLeDiff]
      exact Again.intro (i + 1, x, .slice a2 x.items.length c2) (by first | omega | (simp only; omega)) ⟨hb, hq, by have := V.get_bulk hg; simp only; omega, rd2, rfl⟩ (by repeat (first | exact wkF_e | refine wkF_c rfl ?_)) (wkB_c rfl (wkB_c rfl wkB_e)) rfl
  · have hb : i = path.length := by simp at hb; omega
    rw [List.drop_eq_nil_of_le (by omega)] at hq
    refine (copyValue_c w hbw _ _ rw_).mono ?_
    rintro _ h2 ⟨a3, c3, rfl, m3⟩
    simp only [go_sem, Nat.reduceBEq, Nat.reduceAdd, Nat.reduceLeDiff]
    rw [← hq]
    exact ⟨_, _, rfl, m3⟩
theorem sl12Get (v : V) (path : List Ky) (hl : V.bulks v.items ≤ 1099511627776) (hp : path.length ≤ 1099511627776) (sl sp : Value) (h : Hp) (rd : RdE h v.items sl) (rp : Rd h (.row 3 (path.flatMap Ky.dt)) sp) :
    ACalls Try.prog 36 #[.agg #[.int .i64 v.kind, .int .i64 v.num, .string v.str, .int .i64 v.next, sl], sp] h (GotP h (v.getPath path)) := by
  obtain ⟨ap, cp, xp, rfl, hcp, hrp, hatp⟩ := rp.rows (by decide) path.length (fm_len Ky.dt_len _)
  obtain ⟨a, c, _, rfl, _⟩ := rd.rows (by decide) v.items.length (fm_len edt_len _)
  (refine enter Try.func36 rfl rfl (by kernel_rfl) [] ?_; simp only [go_sem, Nat.reduceBEq])
  refine aloop (ι := Nat × V × Value) (fun x => [(6, .val (.int .i64 (x.1 : Nat))), (1, .val (.slice ap path.length cp)), (2, .box 2 0), (4, .box 4 0)])
    (fun x => [(2, [.int .i64 x.2.1.kind, .int .i64 x.2.1.num, .string x.2.1.str, .int .i64 x.2.1.next, x.2.2]), (4, [.int .i64 0, .int .i64 0, .string ⟨#[]⟩, .int .i64 0, .slice none 0 0])])
    (fun x h' => x.1 ≤ path.length ∧ x.2.1.getPath (path.drop x.1) = v.getPath path ∧ V.bulks x.2.1.items ≤ 1099511627776 ∧ RdE h x.2.1.items x.2.2 ∧ h = h') (fun x => path.length - x.1) (0, v, .slice a v.items.length c)
    ⟨Nat.zero_le _, rfl, hl, rd, rfl⟩ (by repeat (first | exact wkF_e | refine wkF_c rfl ?_)) (wkB_c rfl (wkB_c rfl wkB_e)) rfl ?_
  rintro ⟨i, w, sw⟩ _ ⟨hi, hq, hbw, rw_, rfl⟩
  have hi : i ≤ path.length := hi
  have hq : w.getPath (path.drop i) = v.getPath path := hq
  have hbw : V.bulks w.items ≤ 1099511627776 := hbw
  have rw_ : RdE h w.items sw := rw_
  obtain ⟨aw, cw, xw, rfl, hcw, hrw, hatw⟩ := rw_.rows (by decide) w.items.length (fm_len edt_len _)
  simp only [go_sem, Nat.reduceBEq]
  refine Br.intro (fun hb => ?_) (fun hb => ?_) <;> (try simp only [hb, go_sem, Nat.reduceBEq, Nat.reduceAdd, Nat.reduceLeDiff])
  · have hb : i < path.length := by simpa using hb
    obtain ⟨bp, offp, rfl, hatp'⟩ := hatp (by omega)
    obtain ⟨k, hk, _⟩ := get_lt hb
    have wsu := wrap_succ (i := i) (by omega)
    rw [drop_cons hk] at hq
    refine regionD_intro (lb := [16]) (by kernel_rfl) ?_
    simp only [ix_nat hb, go_sem, Nat.reduceBEq, Nat.reduceAdd, Nat.reduceLeDiff]
    refine hsem_row (f := Ky.dt) (o := 0) (ds := k.dt) Ky.dt_len tyS57 hatp' hrp hk (Nat.le_refl _) rfl ?_ fun ys q1 => ?_
    · omega
    rw [RdL_key q1]
    simp only [go_sem, Nat.reduceBEq]
    have hlw := V.bulks_len w.items
    refine (sGet w k (by omega) _ _ rw_).mono ?_
    rintro _ _ ⟨rfl, s2, rfl, rd2⟩
    obtain ⟨a2, c2, _, rfl, _⟩ := rd2.rows (by decide) _ (fm_len edt_len _)
    simp only [go_sem, Nat.reduceBEq, Nat.reduceAdd, Nat.reduceLeDiff]
    cases hg : w.get k with
    | none =>
      simp only [V.getPath, hg, Option.bind_none] at hq
      simp only [Option.isSome_none, go_sem, Nat.reduceBEq, Nat.reduceAdd, Nat.reduceLeDiff]
      rw [← hq]
      exact ⟨rfl, _, rfl, rd_null _⟩
    | some x =>
      simp only [V.getPath, hg, Option.bind_some] at hq
      rw [hg] at rd2
      simp only [Option.isSome_some, Option.getD_some, wsu, go_sem, Nat.reduceBEq, Nat.reduceAdd, Nat.reduceLeDiff] at rd2 ⊢
      exact Again.intro (i + 1, x, .slice a2 x.items.length c2) (by first | omega | (simp only; omega)) ⟨hb, hq, by have := V.get_bulk hg; simp only; omega, rd2, rfl⟩ (by repeat (first | exact wkF_e | refine wkF_c rfl ?_)) (wkB_c rfl (wkB_c rfl wkB_e)) rfl
  · have hb : i = path.length := by simp at hb; omega
    rw [List.drop_eq_nil_of_le (by omega)] at hq
    rw [← hq]
    exact ⟨rfl, _, rfl, rw_⟩
theorem getPath_bulk : ∀ (path : List Ky) (v w : V), v.getPath path = some w → V.bulks w.items ≤ V.bulks v.items
  | [], v, w, h => by simp only [V.getPath, Option.some.injEq] at h; subst h; exact Nat.le_refl _
  | k :: r, v, w, h => by
    simp only [V.getPath] at h
    cases hg : v.get k with
    | none => rw [hg] at h; simp at h
    | some x =>
      rw [hg] at h
      exact Nat.le_trans (getPath_bulk r x w h) (V.get_bulk hg)
theorem sGetPath (v : V) (path : List Ky) (hl : V.bulks v.items ≤ 1099511627776) (hp : path.length ≤ 1099511627776) (sl sp : Value) (h : Hp) (rd : RdE h v.items sl) (rp : Rd h (.row 3 (path.flatMap Ky.dt)) sp) :
    ACalls Try.prog 18 #[.agg #[.int .i64 v.kind, .int .i64 v.num, .string v.str, .int .i64 v.next, sl], sp] h (MadeB h (v.getPath path)) := by
  (refine enter Try.func18 rfl rfl (by kernel_rfl) [] ?_; simp only [go_sem, Nat.reduceBEq, Nat.reduceAdd, Nat.reduceLeDiff])
  refine (sl12Get v path hl hp _ _ _ rd rp).mono ?_
  rintro _ _ ⟨rfl, s2, rfl, rd2⟩
  obtain ⟨a2, c2, _, rfl, _⟩ := rd2.rows (by decide) _ (fm_len edt_len _)
  simp only [go_sem, Nat.reduceBEq, Nat.reduceAdd, Nat.reduceLeDiff]
  refine (l5Copy_c _ ?_ _ _ rd2).mono ?_
  · cases hg : v.getPath path with
    | none => exact Nat.zero_le _
    | some w => exact Nat.le_trans (getPath_bulk path v w hg) hl
  rintro _ h2 ⟨a3, c3, rfl, m3⟩
  simp only [go_sem, Nat.reduceBEq, Nat.reduceAdd, Nat.reduceLeDiff]
  exact ⟨_, _, rfl, m3⟩
end Go.Proofs.Ytjbcokpkbfnpiaa
