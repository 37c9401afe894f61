/-
  What the laws' eq.. and to.. functions over keys, entries and values do: what reads as one value is equal; a copy is made, all its memory new.
-/
import Derived.Test.YtconhonjkfpfmaaDoorEqToEntryS
namespace Go.Proofs.YtconhonjkfpfmaaDoor
set_option maxRecDepth 8000
open Go Go.Sx
theorem eqKey_c (k : Ky) (h : Hp) : ACalls Tryd.prog 130 #[.agg #[.bool k.text, .int .i64 k.num, .string k.str], .agg #[.bool k.text, .int .i64 k.num, .string k.str]] h (Pu (.bool true) h) := by
  (refine enter Tryd.func130 rfl rfl (by kernel_rfl) [] ?_; simp only [go_sem, Nat.reduceBEq])
  try simp only [decide_true, Bool.not_true, go_sem, Nat.reduceBEq, Nat.reduceAdd, Nat.reduceLeDiff, Nat.reduceEqDiff, Int.reduceEq, not_false_eq_true, Int.reduceToNat]
  exact ⟨rfl, rfl⟩
def EqV (v : V) : Prop := (V.bulks v.items ≤ 4611686018427387904) → ∀ (h : Hp) (s1 s2 : Value), RdE h v.items s1 → RdE h v.items s2 →
  ACalls Tryd.prog 70 #[.agg #[.int .i64 v.kind, .int .i64 v.num, .string v.str, .int .i64 v.next, s1], .agg #[.int .i64 v.kind, .int .i64 v.num, .string v.str, .int .i64 v.next, s2]] h (Pu (.bool true) h)
theorem bulks_mem : ∀ {es : List (Ky × V)} {e : Ky × V}, e ∈ es → e.2.bulk ≤ V.bulks es
  | (k, v) :: r, e, he => by
    simp only [V.bulks]
    cases he with
    | head => simp only; omega
    | tail _ he => have := bulks_mem he; omega
theorem bulks_len : ∀ es : List (Ky × V), es.length ≤ V.bulks es
  | [] => Nat.le_refl _
  | (k, v) :: r => by
    have := bulks_len r
    simp only [V.bulks, List.length_cons]
    omega
theorem eqEntry_c (e : Ky × V) (ih : EqV e.2) (hb : V.bulks e.2.items ≤ 4611686018427387904) : EqEntry e := by
  intro h ys zs r1 r2
  obtain ⟨s1, rfl, q1⟩ := RdL_entry r1
  obtain ⟨s2, rfl, q2⟩ := RdL_entry r2
  (refine enter Tryd.func121 rfl rfl (by kernel_rfl) [] ?_; simp only [go_sem, Nat.reduceBEq, Nat.reduceAdd, Nat.reduceLeDiff])
  (refine (eqKey_c e.1 _).mono ?_; rintro _ _ ⟨rfl, rfl⟩; simp only [go_sem, Nat.reduceBEq, Nat.reduceAdd, Nat.reduceLeDiff])
  try simp only [Bool.not_true, go_sem, Nat.reduceBEq, Nat.reduceAdd, Nat.reduceLeDiff, Nat.reduceEqDiff, Int.reduceEq, not_false_eq_true, Int.reduceToNat]
  (refine (ih hb _ _ _ q1 q2).mono ?_; rintro _ _ ⟨rfl, rfl⟩; simp only [go_sem, Nat.reduceBEq])
  try simp only [Bool.not_true, go_sem, Nat.reduceBEq, Nat.reduceAdd, Nat.reduceLeDiff, Nat.reduceEqDiff, Int.reduceEq, not_false_eq_true, Int.reduceToNat]
  exact ⟨rfl, rfl⟩
theorem eqValue_c : ∀ v, EqV v := V.ind fun v ih hb h s1 s2 r1 r2 => by
  (refine enter Tryd.func70 rfl rfl (by kernel_rfl) [] ?_; simp only [go_sem, Nat.reduceBEq])
  try simp only [decide_true, Bool.not_true, go_sem, Nat.reduceBEq, Nat.reduceAdd, Nat.reduceLeDiff, Nat.reduceEqDiff, Int.reduceEq, not_false_eq_true, Int.reduceToNat]
  have hl := bulks_len v.items
  (refine (eqEntryS_s v.items (fun e he => eqEntry_c e (ih e he) (by have := bulks_mem he; rw [V.bulk_eq] at this; omega)) (by omega) _ _ _ r1 r2).mono ?_; rintro _ _ ⟨rfl, rfl⟩; simp only [go_sem, Nat.reduceBEq])
  try simp only [Bool.not_true, go_sem, Nat.reduceBEq, Nat.reduceAdd, Nat.reduceLeDiff, Nat.reduceEqDiff, Int.reduceEq, not_false_eq_true, Int.reduceToNat]
  exact ⟨rfl, rfl⟩
theorem eqVal_c (v : V) (hb : v.bulk ≤ 4611686018427387904) (h : Hp) (ys zs : List Value) (r1 : RdL h v.dt ys) (r2 : RdL h v.dt zs) : ACalls Tryd.prog 70 #[.agg ys.toArray, .agg zs.toArray] h (Pu (.bool true) h) := by
  obtain ⟨s1, rfl, q1⟩ := RdL_val r1
  obtain ⟨s2, rfl, q2⟩ := RdL_val r2
  exact eqValue_c v (by rw [V.bulk_eq] at hb; omega) _ _ _ q1 q2
theorem toKey_c (k : Ky) (h : Hp) : ACalls Tryd.prog 128 #[.agg #[.bool k.text, .int .i64 k.num, .string k.str]] h (Pu (.agg #[.bool k.text, .int .i64 k.num, .string k.str]) h) := by
  (refine enter Tryd.func128 rfl rfl (by kernel_rfl) [] ?_; simp only [go_sem, Nat.reduceBEq, Nat.reduceAdd, Nat.reduceLeDiff])
  exact ⟨rfl, rfl⟩
def ToV (v : V) : Prop := v.bulk ≤ 1048576 → ∀ (h : Hp) (sl : Value), RdE h v.items sl →
  ACalls Tryd.prog 67 #[.agg #[.int .i64 v.kind, .int .i64 v.num, .string v.str, .int .i64 v.next, sl]] h fun u h' => ∃ s, u = .agg #[.int .i64 v.kind, .int .i64 v.num, .string v.str, .int .i64 v.next, s] ∧ My h h' [(.row 8 (v.items.flatMap edt), s)]
theorem toEntry_c (e : Ky × V) (ih : ToV e.2) (hb : e.2.bulk ≤ 1048576) : ToEntry e := by
  intro h ys r1
  obtain ⟨s1, rfl, q1⟩ := RdL_entry r1
  (refine enter Tryd.func119 rfl rfl (by kernel_rfl) [] ?_; simp only [go_sem, Nat.reduceBEq, Nat.reduceAdd, Nat.reduceLeDiff])
  (refine (toKey_c e.1 _).mono ?_; rintro _ _ ⟨rfl, rfl⟩; simp only [go_sem, Nat.reduceBEq, Nat.reduceAdd, Nat.reduceLeDiff])
  refine (ih hb _ _ q1).mono ?_
  rintro _ h2 ⟨s, rfl, m⟩
  obtain ⟨a, c, rfl, _⟩ := m.row_shape (by decide) e.2.items.length (fm_len edt_len _)
  simp only [go_sem, Nat.reduceBEq, Nat.reduceAdd, Nat.reduceLeDiff]
  refine ⟨_, rfl, rfl, ?_⟩
  simp only [edt_eq, List.zip_cons_cons, List.zip_nil_right, My.raw_iff, one_bool, one_int, one_str, and_self, true_and]
  exact m
theorem toValue_c : ∀ v, ToV v := V.ind fun v ih hb h sl rd => by
  (refine enter Tryd.func67 rfl rfl (by kernel_rfl) [] ?_; simp only [go_sem, Nat.reduceBEq, Nat.reduceAdd, Nat.reduceLeDiff])
  have h1 := V.bulk_eq v
  have hl := bulks_len v.items
  refine (toEntryS_s v.items (fun e he => toEntry_c e (ih e he) (by have := bulks_mem he; omega)) (by omega) _ _ rd).mono ?_
  rintro u h2 m
  obtain ⟨a, c, rfl, _⟩ := m.row_shape (by decide) v.items.length (fm_len edt_len _)
  simp only [go_sem, Nat.reduceBEq, Nat.reduceAdd, Nat.reduceLeDiff]
  exact ⟨_, rfl, m⟩
theorem toV_c (v : V) (hb : v.bulk ≤ 1048576) (h : Hp) (sl : Value) (rd : RdE h v.items sl) :
  ACalls Tryd.prog 67 #[.agg #[.int .i64 v.kind, .int .i64 v.num, .string v.str, .int .i64 v.next, sl]] h fun u h' => ∃ a c, u = .agg #[.int .i64 v.kind, .int .i64 v.num, .string v.str, .int .i64 v.next, .slice a v.items.length c] ∧ My h h' [(.row 8 (v.items.flatMap edt), .slice a v.items.length c)] := by
  refine (toValue_c v hb h sl rd).mono ?_
  rintro _ h2 ⟨s, rfl, m⟩
  obtain ⟨a, c, rfl, _⟩ := m.row_shape (by decide) v.items.length (fm_len edt_len _)
  exact ⟨a, c, rfl, m⟩
end Go.Proofs.YtconhonjkfpfmaaDoor
