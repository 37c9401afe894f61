/-
  What the laws' eqValueS and toValueS do: two slices that read as one list of values are equal; a copy is made, all its memory new.
-/
import Derived.Test.YtconhonjkfpfmaaDoorValEq
import Derived.Test.YtconhonjkfpfmaaDoorEqToValueS
namespace Go.Proofs.YtconhonjkfpfmaaDoor
set_option maxRecDepth 8000
open Go Go.Sx
theorem vsz_in {l : List V} {e : V} (h : e ∈ l) : e.bulk ≤ szG V.bulk l := by have := gsum_mem (w := V.bulk) h; unfold szG; omega
theorem toValueS_c (l : List V) (hb : szG V.bulk l ≤ 1048576) (sl : Value) (h : Hp) (rd : Rd h (.row 5 (l.flatMap V.dt)) sl) :
    ACalls Tryd.prog 32 #[sl] h fun u h' => My h h' [(.row 5 (l.flatMap V.dt), u)] := by
  refine toValueS_s l (fun e he h ys r => ?_) (by unfold szG at hb; omega) sl h rd
  have hbe := vsz_in he
  obtain ⟨s1, rfl, q1⟩ := RdL_val r
  refine (toV_c e (by omega) h s1 q1).mono ?_
  rintro _ h2 ⟨a, c, rfl, m⟩
  refine ⟨_, rfl, rfl, ?_⟩
  simp only [V.dt_eq, List.zip_cons_cons, List.zip_nil_right, My.raw_iff, one_int, one_str, and_self, true_and]
  exact m
theorem eqValueS_c (l : List V) (hb : szG V.bulk l ≤ 1048576) (s1 s2 : Value) (h : Hp) (r1 : Rd h (.row 5 (l.flatMap V.dt)) s1) (r2 : Rd h (.row 5 (l.flatMap V.dt)) s2) :
    ACalls Tryd.prog 34 #[s1, s2] h (Pu (.bool true) h) := by
  refine eqValueS_s l (fun e he h ys zs q1 q2 => ?_) (by unfold szG at hb; omega) s1 s2 h r1 r2
  have hbe := vsz_in he
  exact eqVal_c e (by omega) h ys zs q1 q2
end Go.Proofs.YtconhonjkfpfmaaDoor
