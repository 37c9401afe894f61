/-
  What LooseEqual and IsOrdered of the program and of the reference return.
-/
import Derived.Test.YtjbcokpkbfnpiaaDoorCmp
namespace Go.Proofs.YtjbcokpkbfnpiaaDoor
set_option maxRecDepth 8000
open Go Go.Sx
theorem iLoose (a b : V) (oka : a.ok) (okb : b.ok) (ha : a.bulk ≤ 1099511627776) (hb : b.bulk ≤ 1099511627776) (sa sb : Value) (h : Hp) (ra : RdE h a.items sa) (rb : RdE h b.items sb) (hT : Pow h) :
    ACalls Tryd.prog 18 #[.agg #[.int .i64 a.kind, .int .i64 a.num, .string a.str, .int .i64 a.next, sa], .agg #[.int .i64 b.kind, .int .i64 b.num, .string b.str, .int .i64 b.next, sb]] h (Is (.bool (decide (V.cmp a b = 0))) h) := by
  (refine enter Tryd.func18 rfl rfl (by kernel_rfl) [] ?_; simp only [go_sem, Nat.reduceBEq, Nat.reduceAdd, Nat.reduceLeDiff])
  refine (iCompare a b oka okb ha hb _ _ _ ra rb hT).mono ?_
  rintro _ h1 ⟨rfl, e1⟩
  simp only [go_sem, Nat.reduceBEq]
  exact ⟨rfl, e1⟩
theorem sLoose (a b : V) (oka : a.ok) (okb : b.ok) (ha : a.bulk ≤ 1099511627776) (hb : b.bulk ≤ 1099511627776) (sa sb : Value) (h : Hp) (ra : RdE h a.items sa) (rb : RdE h b.items sb) (hT : Pow h) :
    ACalls Tryd.prog 17 #[.agg #[.int .i64 a.kind, .int .i64 a.num, .string a.str, .int .i64 a.next, sa], .agg #[.int .i64 b.kind, .int .i64 b.num, .string b.str, .int .i64 b.next, sb]] h (Is (.bool (decide (V.cmp a b = 0))) h) := by
  (refine enter Tryd.func17 rfl rfl (by kernel_rfl) [] ?_; simp only [go_sem, Nat.reduceBEq, Nat.reduceAdd, Nat.reduceLeDiff])
  refine (sCompare a b oka okb ha hb _ _ _ ra rb hT).mono ?_
  rintro _ h1 ⟨rfl, e1⟩
  simp only [go_sem, Nat.reduceBEq]
  exact ⟨rfl, e1⟩
def ordd : List V → Bool
  | a :: b :: r => !decide (V.cmp a b = 1) && ordd (b :: r)
  | _ => true
theorem ordd_one (a : V) : ordd [a] = true := rfl
theorem ordd_two (a b : V) (r : List V) : ordd (a :: b :: r) = (!decide (V.cmp a b = 1) && ordd (b :: r)) := rfl
theorem vbulk_mem {l : List V} {e : V} (h : e ∈ l) : e.bulk ≤ szG V.bulk l := by have := gsum_mem (w := V.bulk) h; unfold szG; omega
theorem wrap_pred {n : Nat} (h0 : 0 < n) (hn : n < 9223372036854775807) : IntKind.i64.wrap ((n : Int) - 1) = ((n - 1 : Nat) : Int) := by rw [IntWalk.i64_in _ (by omega)]; omega
theorem iOrdered (l : List V) (ok : ∀ v ∈ l, v.ok) (hl : szG V.bulk l ≤ 1099511627776) (sl : Value) (h : Hp) (rd : Rd h (.row 5 (l.flatMap V.dt)) sl) (hT : Pow h) :
    ACalls Tryd.prog 22 #[sl] h (Is (.bool (ordd l)) h) := by
  have hlen : l.length ≤ 1099511627776 := by unfold szG at hl; omega
  obtain ⟨a, c, xs, rfl, hc, hr, hat⟩ := rd.rows (by decide) l.length (fm_len V.dt_len _)
  (refine enter Tryd.func22 rfl rfl (by kernel_rfl) [] ?_; simp only [go_sem])
  refine aloop (ι := Nat) (fun i => [(3, .val (.int .i64 ((i + 1 : Nat) : Int))), (0, .val (.slice a l.length c))]) (fun _ => [])
    (fun i h' => i ≤ l.length ∧ Ext h h' ∧ ordd (l.drop i) = ordd l) (fun i => l.length - i) 0 ⟨Nat.zero_le _, Ext.refl _, rfl⟩ (by repeat (first | exact wkF_e | refine wkF_c rfl ?_)) wkB_e rfl ?_
  rintro i h1 ⟨hi, e1, hq⟩
  have hi : i ≤ l.length := hi
  simp only [go_sem, Nat.reduceBEq]
  refine Br.intro (fun hlt => ?_) (fun hlt => ?_) <;> (try simp only [hlt, go_sem, Nat.reduceBEq])
  · have hlt : i + 1 < l.length := by have := of_decide_eq_true hlt; omega
    obtain ⟨b, off, rfl, hat'⟩ := hat (by omega)
    obtain ⟨v, hv, hvm⟩ := get_lt (l := l) (i := i) (by omega)
    obtain ⟨w, hw, hwm⟩ := get_lt (l := l) (i := i + 1) hlt
    have wsu := wrap_succ (i := i + 1) (by omega)
    have wpr := wrap_pred (n := i + 1) (by omega) (by omega)
    rw [Nat.add_sub_cancel] at wpr
    rw [drop_cons hv, drop_cons hw, ordd_two] at hq
    have hvb := vbulk_mem hvm
    have hwb := vbulk_mem hwm
    refine regionD_intro (lb := []) (by kernel_rfl) ?_
    simp only [wpr, ix_nat (show i < l.length by omega), go_sem, Nat.reduceBEq]
    refine hsem_row (f := V.dt) (o := 0) (ds := v.dt) V.dt_len tyS30 (hat'.mono e1) (hr.mono e1) hv (Nat.le_refl _) (by rw [List.drop_zero, List.take_of_length_le (by rw [V.dt_len]; exact Nat.le_refl _)]) ?_ fun ys q1 => ?_
    · omega
    obtain ⟨s1, rfl, rd1⟩ := RdL_val q1
    simp only [ix_nat hlt, go_sem, Nat.reduceBEq]
    refine hsem_row (f := V.dt) (o := 0) (ds := w.dt) V.dt_len tyS30 (hat'.mono e1) (hr.mono e1) hw (Nat.le_refl _) (by rw [List.drop_zero, List.take_of_length_le (by rw [V.dt_len]; exact Nat.le_refl _)]) ?_ fun ys q2 => ?_
    · omega
    obtain ⟨s2, rfl, rd2⟩ := RdL_val q2
    simp only [go_sem, Nat.reduceBEq]
    refine (iCompare v w (ok v hvm) (ok w hwm) (by omega) (by omega) _ _ _ rd1 rd2 (hT.ext e1)).mono ?_
    rintro _ h2 ⟨rfl, e2⟩
    simp only [go_sem, Nat.reduceBEq]
    refine Br.intro (fun hz => ?_) (fun hz => ?_) <;> (try simp only [hz, go_sem, Nat.reduceBEq])
    · rw [hz] at hq
      exact ⟨by rw [← hq]; rfl, e1.trans e2⟩
    · rw [hz] at hq
      try simp only [wsu, go_sem]
      exact Again.intro (i + 1) (by first | omega | (simp only; omega)) ⟨by omega, e1.trans e2, by rw [drop_cons hw]; simpa using hq⟩ (by repeat (first | exact wkF_e | refine wkF_c rfl ?_)) wkB_e rfl
  · have hlt : ¬ i + 1 < l.length := by have := of_decide_eq_false hlt; omega
    have : ordd (l.drop i) = true := by
      rcases Nat.lt_or_ge i l.length with h | h
      · obtain ⟨v, hv, _⟩ := get_lt h
        rw [drop_cons hv, List.drop_eq_nil_of_le (by omega)]
        rfl
      · rw [List.drop_eq_nil_of_le h]
        rfl
    exact ⟨by rw [← hq, this], e1⟩
theorem sOrdered (l : List V) (ok : ∀ v ∈ l, v.ok) (hl : szG V.bulk l ≤ 1099511627776) (sl : Value) (h : Hp) (rd : Rd h (.row 5 (l.flatMap V.dt)) sl) (hT : Pow h) :
    ACalls Tryd.prog 20 #[sl] h (Is (.bool (ordd l)) h) := by
  have hlen : l.length ≤ 1099511627776 := by unfold szG at hl; omega
  obtain ⟨a, c, xs, rfl, hc, hr, hat⟩ := rd.rows (by decide) l.length (fm_len V.dt_len _)
  (refine enter Tryd.func20 rfl rfl (by kernel_rfl) [] ?_; simp only [go_sem])
  refine aloop (ι := Nat) (fun i => [(3, .val (.int .i64 ((i + 1 : Nat) : Int))), (0, .val (.slice a l.length c))]) (fun _ => [])
    (fun i h' => i ≤ l.length ∧ Ext h h' ∧ ordd (l.drop i) = ordd l) (fun i => l.length - i) 0 ⟨Nat.zero_le _, Ext.refl _, rfl⟩ (by repeat (first | exact wkF_e | refine wkF_c rfl ?_)) wkB_e rfl ?_
  rintro i h1 ⟨hi, e1, hq⟩
  have hi : i ≤ l.length := hi
  simp only [go_sem, Nat.reduceBEq]
  refine Br.intro (fun hlt => ?_) (fun hlt => ?_) <;> (try simp only [hlt, go_sem, Nat.reduceBEq])
  · have hlt : i + 1 < l.length := by have := of_decide_eq_true hlt; omega
    obtain ⟨b, off, rfl, hat'⟩ := hat (by omega)
    obtain ⟨v, hv, hvm⟩ := get_lt (l := l) (i := i) (by omega)
    obtain ⟨w, hw, hwm⟩ := get_lt (l := l) (i := i + 1) hlt
    have wsu := wrap_succ (i := i + 1) (by omega)
    have wpr := wrap_pred (n := i + 1) (by omega) (by omega)
    rw [Nat.add_sub_cancel] at wpr
    rw [drop_cons hv, drop_cons hw, ordd_two] at hq
    have hvb := vbulk_mem hvm
    have hwb := vbulk_mem hwm
    refine regionD_intro (lb := []) (by kernel_rfl) ?_
    simp only [wpr, ix_nat (show i < l.length by omega), go_sem, Nat.reduceBEq]
    refine hsem_row (f := V.dt) (o := 0) (ds := v.dt) V.dt_len tyS30 (hat'.mono e1) (hr.mono e1) hv (Nat.le_refl _) (by rw [List.drop_zero, List.take_of_length_le (by rw [V.dt_len]; exact Nat.le_refl _)]) ?_ fun ys q1 => ?_
    · omega
    obtain ⟨s1, rfl, rd1⟩ := RdL_val q1
    simp only [ix_nat hlt, go_sem, Nat.reduceBEq]
    refine hsem_row (f := V.dt) (o := 0) (ds := w.dt) V.dt_len tyS30 (hat'.mono e1) (hr.mono e1) hw (Nat.le_refl _) (by rw [List.drop_zero, List.take_of_length_le (by rw [V.dt_len]; exact Nat.le_refl _)]) ?_ fun ys q2 => ?_
    · omega
    obtain ⟨s2, rfl, rd2⟩ := RdL_val q2
    simp only [go_sem, Nat.reduceBEq]
    refine (sCompare v w (ok v hvm) (ok w hwm) (by omega) (by omega) _ _ _ rd1 rd2 (hT.ext e1)).mono ?_
    rintro _ h2 ⟨rfl, e2⟩
    simp only [go_sem, Nat.reduceBEq]
    refine Br.intro (fun hz => ?_) (fun hz => ?_) <;> (try simp only [hz, go_sem, Nat.reduceBEq])
    · rw [hz] at hq
      exact ⟨by rw [← hq]; rfl, e1.trans e2⟩
    · rw [hz] at hq
      try simp only [wsu, go_sem]
      exact Again.intro (i + 1) (by first | omega | (simp only; omega)) ⟨by omega, e1.trans e2, by rw [drop_cons hw]; simpa using hq⟩ (by repeat (first | exact wkF_e | refine wkF_c rfl ?_)) wkB_e rfl
  · have hlt : ¬ i + 1 < l.length := by have := of_decide_eq_false hlt; omega
    have : ordd (l.drop i) = true := by
      rcases Nat.lt_or_ge i l.length with h | h
      · obtain ⟨v, hv, _⟩ := get_lt h
        rw [drop_cons hv, List.drop_eq_nil_of_le (by omega)]
        rfl
      · rw [List.drop_eq_nil_of_le h]
        rfl
    exact ⟨by rw [← hq, this], e1⟩
end Go.Proofs.YtjbcokpkbfnpiaaDoor
