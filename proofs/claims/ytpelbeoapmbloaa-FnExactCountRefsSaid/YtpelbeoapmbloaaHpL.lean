/-
  What the laws' sz.., eq.., to.. functions over blocks and heaps do.
-/
import Derived.Test.YtpelbeoapmbloaaTabL
import Derived.Test.YtpelbeoapmbloaaSzBlockS
import Derived.Test.YtpelbeoapmbloaaEqToBlockS
namespace Go.Proofs.Ytpelbeoapmbloaa
set_option maxRecDepth 8000
open Go Go.Sx
theorem szBlock_c (b : Bk) (ok : b.ok) : SzBlock b := by
  intro ys l h r l0 l1
  obtain ⟨s, u, rfl, r1, r2⟩ := RdL_blk r
  (refine enter Try.func54 rfl rfl (by kernel_rfl) [] ?_; simp only [go_sem, Nat.reduceBEq, Nat.reduceAdd, Nat.reduceLeDiff])
  (refine (szTable_c b.tab ok.tab _ _ _ _ r1 r2 l0 l1).mono ?_; rintro _ _ ⟨rfl, rfl⟩; simp only [go_sem, Nat.reduceBEq])
  refine Br.intro (fun hb => ?_) (fun hb => ?_) <;> (try simp only [hb, go_sem, Nat.reduceBEq])
  · have hb : less l b.tab.bulk < 0 := by simpa using hb
    exact ⟨by unfold Bk.bulk; rw [less_is hb], rfl⟩
  · exact ⟨rfl, rfl⟩
theorem szHeap_c (l : List Bk) (ok : ∀ b ∈ l, b.ok) (hl : l.length ≤ maxLen) (s : Value) (n : Int) (h : Hp) (r : RdB h l s) (l0 : 0 ≤ n) (l1 : n ≤ 1048576) : ACalls Try.prog 14 #[.agg #[s], .int .i64 n] h (Pu (.int .i64 (less n (szG Bk.bulk l))) h) := by
  obtain ⟨a, c, _, rfl, _⟩ := r.rows (by decide) l.length (fm_len Bk.dt_len _)
  (refine enter Try.func14 rfl rfl (by kernel_rfl) [] ?_; simp only [go_sem, Nat.reduceBEq])
  (refine (szBlockS_s l (fun e he => szBlock_c e (ok e he)) hl _ _ _ r l0 l1).mono ?_; rintro _ _ ⟨rfl, rfl⟩; simp only [go_sem, Nat.reduceBEq])
  refine Br.intro (fun hb => ?_) (fun hb => ?_) <;> (try simp only [hb, go_sem, Nat.reduceBEq])
  · have hb : less n (szG Bk.bulk l) < 0 := by simpa using hb
    exact ⟨by rw [less_is hb], rfl⟩
  · exact ⟨rfl, rfl⟩
theorem eqBlock_c (b : Bk) (hb : b.tab.bulk ≤ 4611686018427387904) : EqBlock b := by
  intro h ys zs r1 r2
  obtain ⟨s1, u1, rfl, p1, q1⟩ := RdL_blk r1
  obtain ⟨s2, u2, rfl, p2, q2⟩ := RdL_blk r2
  (refine enter Try.func59 rfl rfl (by kernel_rfl) [] ?_; simp only [go_sem, Nat.reduceBEq, Nat.reduceAdd, Nat.reduceLeDiff])
  try simp only [decide_true, Bool.not_true, go_sem, Nat.reduceBEq, Nat.reduceAdd, Nat.reduceLeDiff, Nat.reduceEqDiff, Int.reduceEq, not_false_eq_true, Int.reduceToNat]
  (refine (eqTable_c b.tab hb _ _ _ _ _ p1 q1 p2 q2).mono ?_; rintro _ _ ⟨rfl, rfl⟩; simp only [go_sem, Nat.reduceBEq])
  try simp only [Bool.not_true, go_sem, Nat.reduceBEq, Nat.reduceAdd, Nat.reduceLeDiff, Nat.reduceEqDiff, Int.reduceEq, not_false_eq_true, Int.reduceToNat]
  exact ⟨rfl, rfl⟩
theorem eqHeap_c (l : List Bk) (hb : szG Bk.bulk l ≤ 4611686018427387904) (s s' : Value) (h : Hp) (r1 : RdB h l s) (r2 : RdB h l s') : ACalls Try.prog 21 #[.agg #[s], .agg #[s']] h (Pu (.bool true) h) := by
  obtain ⟨a1, c1, _, rfl, _⟩ := r1.rows (by decide) l.length (fm_len Bk.dt_len _)
  obtain ⟨a2, c2, _, rfl, _⟩ := r2.rows (by decide) l.length (fm_len Bk.dt_len _)
  (refine enter Try.func21 rfl rfl (by kernel_rfl) [] ?_; simp only [go_sem, Nat.reduceBEq])
  (refine (eqBlockS_s l (fun e he => eqBlock_c e (by have := szG_mem (w := Bk.bulk) he; have e1 : Bk.bulk e = e.tab.bulk := rfl; omega)) (by have := szG_len (w := Bk.bulk) l; omega) _ _ _ r1 r2).mono ?_; rintro _ _ ⟨rfl, rfl⟩; simp only [go_sem, Nat.reduceBEq])
  try simp only [Bool.not_true, go_sem, Nat.reduceBEq, Nat.reduceAdd, Nat.reduceLeDiff, Nat.reduceEqDiff, Int.reduceEq, not_false_eq_true, Int.reduceToNat]
  exact ⟨rfl, rfl⟩
theorem toBlock_c (b : Bk) (hb : b.tab.bulk ≤ 1048576) : ToBlock b := by
  intro h ys r
  obtain ⟨s, u, rfl, r1, r2⟩ := RdL_blk r
  (refine enter Try.func57 rfl rfl (by kernel_rfl) [] ?_; simp only [go_sem, Nat.reduceBEq, Nat.reduceAdd, Nat.reduceLeDiff])
  refine (toTable_c b.tab hb _ _ _ r1 r2).mono ?_
  rintro _ h2 ⟨a, c, a', c', rfl, m⟩
  simp only [go_sem, Nat.reduceBEq, Nat.reduceAdd, Nat.reduceLeDiff]
  refine ⟨_, rfl, rfl, ?_⟩
  simp only [Bk.dt_eq, List.zip_cons_cons, List.zip_nil_right, My.raw_iff, one_bool, one_int, and_self, true_and]
  exact ((m.raw (u := .int .i64 b.tab.count) rfl).raw (u := .int .i64 b.tab.next) rfl).fourth.fourth
theorem toHeap_c (l : List Bk) (hb : szG Bk.bulk l ≤ 1048576) (s : Value) (h : Hp) (r : RdB h l s) :
    ACalls Try.prog 17 #[.agg #[s]] h fun v h' => ∃ a c, v = .agg #[.slice a l.length c] ∧ My h h' [(.row 6 (l.flatMap Bk.dt), .slice a l.length c)] := by
  obtain ⟨a1, c1, _, rfl, _⟩ := r.rows (by decide) l.length (fm_len Bk.dt_len _)
  (refine enter Try.func17 rfl rfl (by kernel_rfl) [] ?_; simp only [go_sem, Nat.reduceBEq])
  refine (toBlockS_s l (fun e he => toBlock_c e (by have := szG_mem (w := Bk.bulk) he; have e1 : Bk.bulk e = e.tab.bulk := rfl; omega)) (by have := szG_len (w := Bk.bulk) l; omega) _ _ r).mono ?_
  rintro _ h1 m1
  obtain ⟨a3, c3, rfl, _⟩ := m1.row_shape (by decide) l.length (fm_len Bk.dt_len _)
  simp only [go_sem, Nat.reduceBEq, Nat.reduceLeDiff]
  exact ⟨_, _, rfl, m1⟩
end Go.Proofs.Ytpelbeoapmbloaa
