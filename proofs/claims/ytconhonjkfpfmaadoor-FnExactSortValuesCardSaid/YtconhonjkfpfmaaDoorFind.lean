/-
  What FindKey, l5Find, l6Get and NullValue return: where a key stands in an array; its value.
-/
import Derived.Test.YtconhonjkfpfmaaDoorNum
import Derived.Test.YtconhonjkfpfmaaDoorSxMathV
namespace Go.Proofs.YtconhonjkfpfmaaDoor
set_option maxRecDepth 8000
open Go Go.Sx
theorem iFindKey (v : V) (k : Ky) (hl : v.items.length ≤ 1099511627776) (sl : Value) (h : Hp) (rd : RdE h v.items sl) :
    ACalls Tryd.prog 77 #[.agg #[.int .i64 v.kind, .int .i64 v.num, .string v.str, .int .i64 v.next, sl], .agg #[.bool k.text, .int .i64 k.num, .string k.str]] h (Pu (.int .i64 (ixI (v.find k))) h) := by
  obtain ⟨a, c, xs, rfl, hc, hr, hat⟩ := rd.rows (by decide) v.items.length (fm_len edt_len _)
  (refine enter Tryd.func77 rfl rfl (by kernel_rfl) [] ?_; simp only [go_sem, Nat.reduceBEq])
  refine Br.intro (fun hk => ?_) (fun hk => ?_) <;> (try simp only [hk, go_sem, Nat.reduceBEq])
  · have hk : ¬ v.kind = 4 := by simpa using hk
    exact ⟨by unfold V.find; rw [if_neg hk]; rfl, rfl⟩
  have hk : v.kind = 4 := by simpa using hk
  have hf : v.find k = fk v.items k 0 := by unfold V.find; rw [if_pos hk]
  rw [hf]
  refine aloop (ι := Nat) (fun i => [(13, .val (.int .i64 (i : Nat))), (12, .val (.int .i64 (v.items.length : Nat))), (11, .val (.slice a v.items.length c)), (3, .box 3 0)]) (fun _ => [(3, [.bool k.text, .int .i64 k.num, .string k.str])])
    (fun i h' => i ≤ v.items.length ∧ fk (v.items.drop i) k i = fk v.items k 0 ∧ h' = h) (fun i => v.items.length - i) 0 ⟨Nat.zero_le _, rfl, rfl⟩ (by repeat (first | exact wkF_e | refine wkF_c rfl ?_)) (wkB_c rfl wkB_e) rfl ?_
  rintro i _ ⟨hi, hq, rfl⟩
  simp only [go_sem, Nat.reduceBEq]
  refine Br.intro (fun hb => ?_) (fun hb => ?_) <;> (try simp only [hb, go_sem, Nat.reduceBEq])
  · have hb : i < v.items.length := by simpa using hb
    obtain ⟨b, off, rfl, hat'⟩ := hat (by omega)
    obtain ⟨e, he, hm⟩ := get_lt hb
    have wsu := wrap_succ (i := i) (by omega)
    rw [drop_cons he] at hq
    simp only [ix_nat hb, go_sem, Nat.reduceBEq]
    refine hsem_entry tyS69 hat' hr he rfl fun s2 rd2 => ?_
    obtain ⟨a2, c2, _, rfl, _⟩ := rd2.rows (by decide) e.2.items.length (fm_len edt_len _)
    simp only [key_dec, keyT40, go_sem, Nat.reduceBEq, Nat.reduceAdd, Nat.reduceLeDiff]
    refine Br.intro (fun hkk => ?_) (fun hkk => ?_) <;> (try simp only [hkk, go_sem, Nat.reduceBEq])
    · have hkk := of_decide_eq_true hkk
      simp only [fk, hkk, if_true] at hq
      exact ⟨by rw [← hq]; rfl, rfl⟩
    · have hkk := of_decide_eq_false hkk
      simp only [fk, hkk, if_false] at hq
      rw [wsu]
      exact Again.intro (i + 1) (by first | omega | (simp only; omega)) ⟨hb, hq, rfl⟩ (by repeat (first | exact wkF_e | refine wkF_c rfl ?_)) (wkB_c rfl wkB_e) rfl
  · have hb : i = v.items.length := by simp at hb; omega
    rw [List.drop_eq_nil_of_le (by omega)] at hq
    exact ⟨by rw [← hq]; rfl, rfl⟩
theorem sFind (v : V) (k : Ky) (hl : v.items.length ≤ 1099511627776) (sl : Value) (h : Hp) (rd : RdE h v.items sl) :
    ACalls Tryd.prog 80 #[.agg #[.int .i64 v.kind, .int .i64 v.num, .string v.str, .int .i64 v.next, sl], .agg #[.bool k.text, .int .i64 k.num, .string k.str]] h (Pu (.int .i64 (ixI (v.find k))) h) := by
  obtain ⟨a, c, xs, rfl, hc, hr, hat⟩ := rd.rows (by decide) v.items.length (fm_len edt_len _)
  (refine enter Tryd.func80 rfl rfl (by kernel_rfl) [] ?_; simp only [go_sem, Nat.reduceBEq])
  refine aloop (ι := Nat) (fun i => [(5, .val (.int .i64 (i : Nat))), (2, .box 2 0), (3, .box 3 0)]) (fun _ => [(3, [.bool k.text, .int .i64 k.num, .string k.str]), (2, [.int .i64 v.kind, .int .i64 v.num, .string v.str, .int .i64 v.next, .slice a v.items.length c])])
    (fun i h' => i ≤ v.items.length ∧ (v.kind = 4 → fk (v.items.drop i) k i = fk v.items k 0) ∧ h' = h) (fun i => v.items.length - i) 0 ⟨Nat.zero_le _, fun _ => rfl, rfl⟩ (by repeat (first | exact wkF_e | refine wkF_c rfl ?_)) (wkB_c rfl (wkB_c rfl wkB_e)) rfl ?_
  rintro i _ ⟨hi, hq, rfl⟩
  simp only [go_sem, Nat.reduceBEq]
  refine Br.intro (fun hk => ?_) (fun hk => ?_) <;> (try simp only [hk, go_sem, Nat.reduceBEq])
  · have hk : v.kind = 4 := by simpa using hk
    have hf : v.find k = fk v.items k 0 := by unfold V.find; rw [if_pos hk]
    have hq := hq hk
    refine Br.intro (fun hb => ?_) (fun hb => ?_) <;> (try simp only [hb, go_sem, Nat.reduceBEq])
    · have hb : i < v.items.length := by simpa using hb
      obtain ⟨b, off, rfl, hat'⟩ := hat (by omega)
      obtain ⟨e, he, hm⟩ := get_lt hb
      have wsu := wrap_succ (i := i) (by omega)
      rw [drop_cons he] at hq
      refine regionD_intro (lb := [19, 24]) (by kernel_rfl) ?_
      simp only [ix_nat hb, go_sem, Nat.reduceBEq]
      refine hsem_ekey tyS40 hat' hr he rfl ?_
      simp only [key_dec, keyT40, go_sem, Nat.reduceBEq, Nat.reduceAdd, Nat.reduceLeDiff]
      refine Br.intro (fun hkk => ?_) (fun hkk => ?_) <;> (try simp only [hkk, go_sem, Nat.reduceBEq])
      · have hkk := of_decide_eq_true hkk
        simp only [fk, hkk, if_true] at hq
        exact ⟨by rw [hf, ← hq]; rfl, rfl⟩
      · have hkk := of_decide_eq_false hkk
        simp only [fk, hkk, if_false] at hq
        rw [wsu]
        exact Again.intro (i + 1) (by first | omega | (simp only; omega)) ⟨hb, fun _ => hq, rfl⟩ (by repeat (first | exact wkF_e | refine wkF_c rfl ?_)) (wkB_c rfl (wkB_c rfl wkB_e)) rfl
    · have hb : i = v.items.length := by simp at hb; omega
      rw [List.drop_eq_nil_of_le (by omega)] at hq
      exact ⟨by rw [hf, ← hq]; rfl, rfl⟩
  · have hk : ¬ v.kind = 4 := by simpa using hk
    exact ⟨by unfold V.find; rw [if_neg hk]; rfl, rfl⟩
/-- a value read, and whether there is one -/
def GotP (h : Hp) (o : Option V) (u : Value) (h' : Hp) : Prop := h = h' ∧ ∃ s, u = .tuple #[.agg #[.int .i64 (o.getD V.null).kind, .int .i64 (o.getD V.null).num, .string (o.getD V.null).str, .int .i64 (o.getD V.null).next, s], .bool o.isSome] ∧ RdE h (o.getD V.null).items s
theorem rd_null (h : Hp) : RdE h V.null.items (.slice none 0 0) := ((My.nil (Ext.refl h)).nilrow (z := 8)).rd
theorem sGet (v : V) (k : Ky) (hl : v.items.length ≤ 1099511627776) (sl : Value) (h : Hp) (rd : RdE h v.items sl) :
    ACalls Tryd.prog 118 #[.agg #[.int .i64 v.kind, .int .i64 v.num, .string v.str, .int .i64 v.next, sl], .agg #[.bool k.text, .int .i64 k.num, .string k.str]] h (GotP h (v.get k)) := by
  obtain ⟨a, c, xs, rfl, hc, hr, hat⟩ := rd.rows (by decide) v.items.length (fm_len edt_len _)
  (refine enter Tryd.func118 rfl rfl (by kernel_rfl) [] ?_; simp only [go_sem, Nat.reduceBEq, Nat.reduceAdd, Nat.reduceLeDiff])
  (refine (sFind v k hl _ _ rd).mono ?_; rintro _ _ ⟨rfl, rfl⟩; simp only [go_sem, Nat.reduceBEq])
  rw [ixI_neg]
  cases hf : v.find k with
  | none =>
    have hg := V.find_none hf
    simp only [Option.isNone_none, go_sem, Nat.reduceBEq, Nat.reduceAdd, Nat.reduceLeDiff]
    rw [hg]
    exact ⟨rfl, _, rfl, rd_null _⟩
  | some i =>
    obtain ⟨x, hx, hg, hlt⟩ := V.find_get hf
    obtain ⟨b, off, rfl, hat'⟩ := hat (by omega)
    simp only [Option.isNone_some, ixI_some, ix_nat hlt, go_sem, Nat.reduceBEq, Nat.reduceAdd]
    refine hsem_eval tyS26 hat' hr hx rfl fun s2 rd2 => ?_
    obtain ⟨a2, c2, _, rfl, _⟩ := rd2.rows (by decide) x.items.length (fm_len edt_len _)
    simp only [go_sem, Nat.reduceBEq, Nat.reduceAdd, Nat.reduceLeDiff]
    rw [hg]
    exact ⟨rfl, _, rfl, rd2⟩
theorem iNull (h : Hp) : ACalls Tryd.prog 60 #[] h (Pu (.agg #[.int .i64 0, .int .i64 0, .string ⟨#[]⟩, .int .i64 0, .slice none 0 0]) h) := by
  (refine enter Tryd.func60 rfl rfl (by kernel_rfl) [] ?_; simp only [go_sem, Nat.reduceBEq, Nat.reduceAdd, Nat.reduceLeDiff])
  exact ⟨rfl, rfl⟩
end Go.Proofs.YtconhonjkfpfmaaDoor
