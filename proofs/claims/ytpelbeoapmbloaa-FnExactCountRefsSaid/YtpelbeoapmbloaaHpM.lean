/-
  What the laws' mark.. and held.. functions over heaps do.
-/
import Derived.Test.YtpelbeoapmbloaaHpL
import Derived.Test.YtpelbeoapmbloaaRowBlockS
namespace Go.Proofs.Ytpelbeoapmbloaa
set_option maxRecDepth 8000
open Go Go.Sx
theorem markHeap_c (l : List Bk) (k : Nat) (hk : k + cntG cB l ≤ 4611686018427387904) (s : Value) (bag : Bag) (h0 h : Hp) (m : My h0 h ((.row 6 (l.flatMap Bk.dt), s) :: bag)) :
    ACalls Try.prog 23 #[.agg #[s], .int .i64 (k : Nat)] h fun v h' => v = .int .i64 ((k + cntG cB l : Nat)) ∧ My h0 h' ((.row 6 ((mkG cB mkB l k).flatMap Bk.dt), s) :: bag) := by
  obtain ⟨a1, c1, rfl, _⟩ := m.row_shape (by decide) l.length (fm_len Bk.dt_len _)
  (refine enter Try.func23 rfl rfl (by kernel_rfl) [] ?_; simp only [go_sem, Nat.reduceBEq])
  refine (markBlockS_c l k (by omega) _ _ _ _ m).mono ?_
  rintro _ h1 ⟨rfl, m1⟩
  simp only [go_sem, Nat.reduceBEq]
  first | exact m1 | exact ⟨rfl, m1⟩
end Go.Proofs.Ytpelbeoapmbloaa
