/-
  What the laws' sz.., to.. and eq.. functions over nodes do.
-/
import Derived.Test.YtamjpcmcpcdggaaSzNodeS
import Derived.Test.YtamjpcmcpcdggaaEqToNodeS
namespace Go.Proofs.Ytamjpcmcpcdggaa
set_option maxRecDepth 8000
open Go Go.Sx
def SzN (v : Nd) : Prop := v.ok → ∀ (sl : Value) (l : Int) (h : Hp), RdN h v.kids sl → 0 ≤ l → l ≤ 1048576 →
  ACalls Try.prog 7 #[.agg #[.int .i64 v.kind, .int .i64 v.num, .string v.text, sl], .int .i64 l] h (Pu (.int .i64 (less l v.bulk)) h)
theorem szNode_c : ∀ v, SzN v := Nd.ind fun v ih ok sl l h rd l0 l1 => by
  (refine enter Try.func7 rfl rfl (by kernel_rfl) [] ?_; simp only [go_sem, Nat.reduceBEq])
  simp only [less_wrap l0 l1 (Nd.ok_text ok), go_sem]
  refine Br.intro (fun hb => ?_) (fun hb => ?_) <;> (try simp only [hb, go_sem, Nat.reduceBEq])
  · have hb : l - (v.text.size : Int) < 0 := by simpa using hb
    exact ⟨by rw [Nd.bulk_eq, less_neg (by unfold less; split <;> omega)], rfl⟩
  · have hb : ¬ l - (v.text.size : Int) < 0 := by simpa using hb
    have e0 : l - (v.text.size : Int) = less l v.text.size := by unfold less; split <;> omega
    rw [e0]
    (refine (szNodeS_s v.kids (fun e he ys l h r l0 l1 => by obtain ⟨s, rfl, q⟩ := RdL_node r; exact ih e he (Nd.oks_mem (Nd.ok_kids ok) he) s l h q l0 l1) (Nd.ok_len ok) sl _ _ rd (by omega) (less_le l1)).mono ?_; rintro _ _ ⟨rfl, rfl⟩; simp only [go_sem, Nat.reduceBEq])
    rw [less_add (by omega), ← Nd.bulks_eq, ← Nd.bulk_eq]
    refine Br.intro (fun hc => ?_) (fun hc => ?_) <;> (try simp only [hc, go_sem, Nat.reduceBEq])
    · have hc : less l v.bulk < 0 := by simpa using hc
      exact ⟨by rw [less_is hc], rfl⟩
    · exact ⟨rfl, rfl⟩
def EqN (v : Nd) : Prop := (Nd.bulks v.kids ≤ 4611686018427387904) → ∀ (h : Hp) (s1 s2 : Value), RdN h v.kids s1 → RdN h v.kids s2 →
  ACalls Try.prog 11 #[.agg #[.int .i64 v.kind, .int .i64 v.num, .string v.text, s1], .agg #[.int .i64 v.kind, .int .i64 v.num, .string v.text, s2]] h (Pu (.bool true) h)
theorem eqNode_c : ∀ v, EqN v := Nd.ind fun v ih hb h s1 s2 r1 r2 => by
  (refine enter Try.func11 rfl rfl (by kernel_rfl) [] ?_; simp only [go_sem, Nat.reduceBEq])
  try simp only [decide_true, Bool.not_true, go_sem, Nat.reduceBEq, Nat.reduceAdd, Nat.reduceLeDiff, Nat.reduceEqDiff, Int.reduceEq, not_false_eq_true, Int.reduceToNat]
  have hl := Nd.bulks_len v.kids
  (refine (eqNodeS_s v.kids (fun e he => fun h ys zs q1 q2 => by obtain ⟨t1, rfl, p1⟩ := RdL_node q1; obtain ⟨t2, rfl, p2⟩ := RdL_node q2; exact ih e he (by have := Nd.bulks_mem he; rw [Nd.bulk_eq] at this; omega) h t1 t2 p1 p2) (by omega) _ _ _ r1 r2).mono ?_; rintro _ _ ⟨rfl, rfl⟩; simp only [go_sem, Nat.reduceBEq])
  try simp only [Bool.not_true, go_sem, Nat.reduceBEq, Nat.reduceAdd, Nat.reduceLeDiff, Nat.reduceEqDiff, Int.reduceEq, not_false_eq_true, Int.reduceToNat]
  exact ⟨rfl, rfl⟩
def ToN (v : Nd) : Prop := v.bulk ≤ 1048576 → ∀ (h : Hp) (sl : Value), RdN h v.kids sl →
  ACalls Try.prog 9 #[.agg #[.int .i64 v.kind, .int .i64 v.num, .string v.text, sl]] h fun u h' => ∃ s, u = .agg #[.int .i64 v.kind, .int .i64 v.num, .string v.text, s] ∧ My h h' [(.row 4 (v.kids.flatMap Nd.dt), s)]
theorem toNode_c : ∀ v, ToN v := Nd.ind fun v ih hb h sl rd => by
  (refine enter Try.func9 rfl rfl (by kernel_rfl) [] ?_; simp only [go_sem, Nat.reduceBEq, Nat.reduceAdd, Nat.reduceLeDiff])
  have h1 := Nd.bulk_eq v
  have hl := Nd.bulks_len v.kids
  refine (toNodeS_s v.kids (fun e he => fun h ys q => ?_) (by omega) _ _ rd).mono ?_
  · obtain ⟨t1, rfl, p1⟩ := RdL_node q
    refine (ih e he (by have := Nd.bulks_mem he; omega) h t1 p1).mono ?_
    rintro _ h2 ⟨s, rfl, m⟩
    refine ⟨[.int .i64 e.kind, .int .i64 e.num, .string e.text, s], rfl, rfl, ?_⟩
    simp only [Nd.dt_eq, List.zip_cons_cons, List.zip_nil_right, My.raw_iff, one_int, one_str, and_self, true_and]
    exact m
  rintro s h2 m
  obtain ⟨a, c, rfl, _⟩ := m.row_shape (by decide) v.kids.length (fm_len Nd.dt_len _)
  simp only [go_sem, Nat.reduceBEq, Nat.reduceAdd, Nat.reduceLeDiff]
  exact ⟨_, rfl, m⟩
theorem toN_c (v : Nd) (hb : v.bulk ≤ 1048576) (h : Hp) (sl : Value) (rd : RdN h v.kids sl) :
    ACalls Try.prog 9 #[.agg #[.int .i64 v.kind, .int .i64 v.num, .string v.text, sl]] h fun u h' => ∃ a c, u = .agg #[.int .i64 v.kind, .int .i64 v.num, .string v.text, .slice a v.kids.length c] ∧ My h h' [(.row 4 (v.kids.flatMap Nd.dt), .slice a v.kids.length c)] := by
  refine (toNode_c v hb h sl rd).mono ?_
  rintro _ h2 ⟨s, rfl, m⟩
  obtain ⟨a, c, rfl, _⟩ := m.row_shape (by decide) v.kids.length (fm_len Nd.dt_len _)
  exact ⟨a, c, rfl, m⟩
end Go.Proofs.Ytamjpcmcpcdggaa
