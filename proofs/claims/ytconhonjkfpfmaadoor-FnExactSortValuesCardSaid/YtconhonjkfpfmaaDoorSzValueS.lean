/-
  What the laws' szValueS returns: what is left of a bound.
-/
import Derived.Test.YtconhonjkfpfmaaDoorValSz
import Derived.Test.YtconhonjkfpfmaaDoorFacts
import Derived.Test.YtconhonjkfpfmaaDoorSxLaw
import Derived.Test.YtconhonjkfpfmaaDoorSxDataT
namespace Go.Proofs.YtconhonjkfpfmaaDoor
set_option maxRecDepth 8000
open Go Go.Sx
def SzValue (e : V) : Prop := ∀ (ys : List Value) (l : Int) (h : Hp), RdL h (V.dt e) ys → 0 ≤ l → l ≤ 1048576 → ACalls Tryd.prog 64 #[.agg ys.toArray, .int .i64 l] h (Pu (.int .i64 (less l (V.bulk e))) h)
theorem szValueS_s (es : List V) (ih : ∀ e ∈ es, SzValue e) (hl : es.length ≤ maxLen) (sl : Value) (l : Int) (h : Hp) (rd : Rd h (.row 5 (es.flatMap V.dt)) sl) (l0 : 0 ≤ l) (l1 : l ≤ 1048576) :
    ACalls Tryd.prog 30 #[sl, .int .i64 l] h (Pu (.int .i64 (less l (szG V.bulk es))) h) := by
  obtain ⟨a, c, xs, rfl, hc, hr, hat⟩ := rd.rows (by decide) es.length (fm_len V.dt_len es)
  (refine enter Tryd.func30 rfl rfl (by kernel_rfl) [] ?_; simp only [go_sem, Nat.reduceBEq])
  simp only [less_wrap l0 l1 hl, go_sem]
  refine Br.intro (fun hb => ?_) (fun hb => ?_) <;> (try simp only [hb, go_sem, Nat.reduceBEq])
  · have hb : l - (es.length : Int) < 0 := by simpa using hb
    exact ⟨by unfold szG; rw [less_neg (by unfold less; split <;> omega)], rfl⟩
  · have hb : ¬ l - (es.length : Int) < 0 := by simpa using hb
    have e0 : l - (es.length : Int) = less l (es.length + gsum V.bulk (es.take 0)) := by unfold less; simp [gsum]; omega
    rw [e0]
    refine aloop (ι := Nat) (fun i => [(5, .val (.int .i64 (i : Nat))), (1, .val (.int .i64 (less l (es.length + gsum V.bulk (es.take i))))), (0, .val (.slice a es.length c))]) (fun _ => []) (fun i h' => i ≤ es.length ∧ 0 ≤ less l (es.length + gsum V.bulk (es.take i)) ∧ h = h') (fun i => es.length - i) 0
      ⟨Nat.zero_le _, by rw [← e0]; omega, rfl⟩ (by repeat (first | exact wkF_e | refine wkF_c rfl ?_)) wkB_e rfl ?_
    intro i h1 hx
    have hx : i ≤ es.length ∧ 0 ≤ less l (es.length + gsum V.bulk (es.take i)) ∧ h = h1 := hx
    have hi := hx.1
    have hf := hx.2.1
    have he := hx.2.2
    clear hx
    subst he
    simp only [go_sem, Nat.reduceBEq]
    refine Br.intro (fun hb => ?_) (fun hb => ?_) <;> (try simp only [hb, go_sem, Nat.reduceBEq])
    · have hb : i < es.length := by simpa using hb
      obtain ⟨b, off, rfl, hat'⟩ := hat (by omega)
      obtain ⟨e, he, hm⟩ := get_lt hb
      simp only [ix_nat hb, go_sem, Nat.reduceBEq]
      refine hsem_row (f := V.dt) (o := 0) (ds := V.dt e) V.dt_len tyS88 hat' hr he (Nat.le_refl _) (by rw [List.drop_zero, List.take_of_length_le (by rw [V.dt_len]; exact Nat.le_refl _)]) ?_ fun ys r1 => ?_
      · omega
      simp only [go_sem, Nat.reduceBEq]
      (refine (ih e hm _ _ _ r1 hf (less_le l1)).mono ?_; rintro _ _ ⟨rfl, rfl⟩; simp only [go_sem, Nat.reduceBEq])
      rw [less_add hf, Nat.add_assoc, ← gsum_snoc he]
      refine Br.intro (fun hc => ?_) (fun hc => ?_) <;> (try simp only [hc, go_sem, Nat.reduceBEq])
      · have hc : less l (es.length + gsum V.bulk (es.take (i + 1))) < 0 := by simpa using hc
        refine ⟨?_, rfl⟩
        unfold szG
        rw [gsum_split V.bulk es (i + 1), ← Nat.add_assoc, less_neg hc]
      · have hc : 0 ≤ less l (es.length + gsum V.bulk (es.take (i + 1))) := by simpa using hc
        rw [wrap_succ (i := i) (by unfold maxLen at hl; omega)]
        exact Again.intro (i + 1) (by first | omega | (simp only; omega)) ⟨hb, hc, rfl⟩ (by repeat (first | exact wkF_e | refine wkF_c rfl ?_)) wkB_e rfl
    · have hb : i = es.length := by simp at hb; omega
      subst hb
      refine ⟨?_, rfl⟩
      rw [List.take_length]
      rfl
theorem szValueS_c (es : List V) (ok : ∀ e ∈ es, e.ok) (hl : es.length ≤ maxLen) (sl : Value) (l : Int) (h : Hp) (rd : Rd h (.row 5 (es.flatMap V.dt)) sl) (l0 : 0 ≤ l) (l1 : l ≤ 1048576) :
    ACalls Tryd.prog 30 #[sl, .int .i64 l] h (Pu (.int .i64 (less l (szG V.bulk es))) h) := szValueS_s es (fun e he ys l h r l0 l1 => by obtain ⟨s, rfl, q⟩ := RdL_val r; exact szValue_c e (ok e he) s l h q l0 l1) hl sl l h rd l0 l1
end Go.Proofs.YtconhonjkfpfmaaDoor
