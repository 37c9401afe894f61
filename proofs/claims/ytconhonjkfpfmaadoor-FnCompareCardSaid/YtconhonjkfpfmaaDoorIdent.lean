/-
  What Identical of the program and of the reference returns.
-/
import Derived.Test.YtconhonjkfpfmaaDoorNum
import Derived.Test.YtconhonjkfpfmaaDoorSxMathV
import Derived.Test.YtconhonjkfpfmaaDoorSxSerial
namespace Go.Proofs.YtconhonjkfpfmaaDoor
set_option maxRecDepth 8000
open Go Go.Sx
theorem bulk_mem3 : ∀ {es : List (Ky × V)} {e : Ky × V}, e ∈ es → e.1.str.size + e.2.bulk + 1 ≤ V.bulks es
  | (k, v) :: r, e, he => by
    simp only [V.bulks]
    cases he with
    | head => simp only; omega
    | tail _ he => have := bulk_mem3 he; omega
def SameI (a : V) : Prop := ∀ (b : V) (_ : a.bulk ≤ 1099511627776) (_ : b.bulk ≤ 1099511627776) (sa sb : Value) (h : Hp) (_ : RdE h a.items sa) (_ : RdE h b.items sb), ACalls Tryd.prog 62 #[.agg #[.int .i64 a.kind, .int .i64 a.num, .string a.str, .int .i64 a.next, sa], .agg #[.int .i64 b.kind, .int .i64 b.num, .string b.str, .int .i64 b.next, sb]] h (Pu (.bool (V.same a b)) h)
theorem iSame : ∀ a, SameI a := V.ind fun a ih b ha hb sa sb h ra rb => by
  have hB := V.bulk_eq a
  have hB2 := V.bulk_eq b
  have hla := V.bulks_len a.items
  have hlb := V.bulks_len b.items
  have hpe := V.same_eq a b
  obtain ⟨a1, c1, xs1, rfl, hc1, hr1, hat1⟩ := ra.rows (by decide) a.items.length (fm_len edt_len _)
  obtain ⟨a2, c2, xs2, rfl, hc2, hr2, hat2⟩ := rb.rows (by decide) b.items.length (fm_len edt_len _)
  (refine enter Tryd.func62 rfl rfl (by kernel_rfl) [] ?_; simp only [go_sem, Nat.reduceBEq])
  by_cases k0 : a.kind = b.kind
  case neg =>
    have d0 := decide_eq_false k0
    simp only [d0, go_sem, Nat.reduceBEq]
    exact ⟨by rw [hpe]; simp [k0], rfl⟩
  have d0 := decide_eq_true k0
  by_cases k1 : a.num = b.num
  case neg =>
    have d1 := decide_eq_false k1
    simp only [d0, d1, go_sem, Nat.reduceBEq]
    exact ⟨by rw [hpe]; simp [k1], rfl⟩
  have d1 := decide_eq_true k1
  by_cases k2 : a.str = b.str
  case neg =>
    have d2 := decide_eq_false k2
    simp only [d0, d1, d2, go_sem, Nat.reduceBEq]
    exact ⟨by rw [hpe]; simp [k2], rfl⟩
  have d2 := decide_eq_true k2
  by_cases k3 : a.items.length = b.items.length
  case neg =>
    have d3 := decide_eq_false k3
    have t3 : decide (((a.items.length : Nat) : Int) = ((b.items.length : Nat) : Int)) = false := decide_eq_false (by omega)
    simp only [d0, d1, d2, t3, go_sem, Nat.reduceBEq]
    exact ⟨by rw [hpe]; simp [k3], rfl⟩
  have d3 := decide_eq_true k3
  have t3 : decide (((a.items.length : Nat) : Int) = ((b.items.length : Nat) : Int)) = true := decide_eq_true (by omega)
  have hpe : sameEs a.items b.items = V.same a b := by rw [hpe, d0, d1, d2, d3]; rfl
  simp only [d0, d1, d2, t3, go_sem, Nat.reduceBEq]
  refine aloop (ι := Nat) (fun i => [(38, .val (.int .i64 (i : Nat))), (37, .val (.int .i64 (a.items.length : Nat))), (36, .val (.slice a1 a.items.length c1)), (3, .box 3 0)]) (fun _ => [(3, [.int .i64 b.kind, .int .i64 b.num, .string b.str, .int .i64 b.next, .slice a2 b.items.length c2])]) (fun i h' => i ≤ a.items.length ∧ h = h' ∧ sameEs (a.items.drop i) (b.items.drop i) = V.same a b) (fun i => a.items.length - i) 0
    ⟨Nat.zero_le _, rfl, hpe⟩ (by repeat (first | exact wkF_e | refine wkF_c rfl ?_)) (wkB_c rfl wkB_e) rfl ?_
  rintro i _ ⟨hi, rfl, hq⟩
  have hi : i ≤ a.items.length := hi
  have hq : sameEs (a.items.drop i) (b.items.drop i) = V.same a b := hq
  simp only [go_sem, Nat.reduceBEq]
  refine Br.intro (fun hb => ?_) (fun hb => ?_) <;> (try simp only [hb, go_sem, Nat.reduceBEq])
  · have hb : i < a.items.length := by simpa using hb
    have hb2 : i < b.items.length := by omega
    obtain ⟨b1, o1, rfl, hat1'⟩ := hat1 (by omega)
    obtain ⟨b2, o2, rfl, hat2'⟩ := hat2 (by omega)
    obtain ⟨e, he, hm⟩ := get_lt hb
    obtain ⟨f, hf, hmf⟩ := get_lt hb2
    have wsu := wrap_succ (i := i) (by omega)
    have hbe := bulk_mem3 hm
    have hbf := bulk_mem3 hmf
    rw [sameEs_at he hf] at hq
    simp only [ix_nat hb, go_sem, Nat.reduceBEq]
    refine hsem_entry tyS69 hat1' hr1 he rfl fun s3 rd3 => ?_
    obtain ⟨a3, c3, _, rfl, _⟩ := rd3.rows (by decide) e.2.items.length (fm_len edt_len _)
    simp only [go_sem, Nat.reduceBEq, Nat.reduceAdd, Nat.reduceLeDiff]
    refine regionD_intro (lb := [44, 46, 54, 56]) (by kernel_rfl) ?_
    simp only [ix_nat hb2, go_sem, Nat.reduceBEq, Nat.reduceAdd, Nat.reduceLeDiff]
    refine hsem_ekey tyS40 hat2' hr2 hf rfl ?_
    simp only [key_dec, keyT40, go_sem, Nat.reduceBEq]
    by_cases kk : e.1 = f.1
    case neg =>
      have dk := decide_eq_false kk
      simp only [dk, go_sem, Nat.reduceBEq]
      exact ⟨by rw [← hq, dk]; rfl, rfl⟩
    have dk := decide_eq_true kk
    simp only [dk, ix_nat hb2, go_sem, Nat.reduceBEq, Nat.reduceAdd, Nat.reduceLeDiff]
    refine hsem_eval tyS26 hat2' hr2 hf rfl fun s4 rd4 => ?_
    obtain ⟨a4, c4, _, rfl, _⟩ := rd4.rows (by decide) f.2.items.length (fm_len edt_len _)
    simp only [go_sem, Nat.reduceBEq]
    (refine (ih e hm f.2 (by omega) (by omega) _ _ _ rd3 rd4).mono ?_; rintro _ _ ⟨rfl, rfl⟩; simp only [go_sem, Nat.reduceBEq])
    by_cases kv : V.same e.2 f.2 = true
    case neg =>
      have dv : V.same e.2 f.2 = false := by simpa using kv
      simp only [dv, go_sem, Nat.reduceBEq]
      exact ⟨by rw [← hq, dk, dv]; rfl, rfl⟩
    rw [dk, kv] at hq
    simp only [kv, wsu, go_sem, Nat.reduceBEq]
    exact Again.intro (i + 1) (by first | omega | (simp only; omega)) ⟨hb, rfl, hq⟩ (by repeat (first | exact wkF_e | refine wkF_c rfl ?_)) (wkB_c rfl wkB_e) rfl
  · have hb : i = a.items.length := by simp at hb; omega
    subst hb
    rw [List.drop_length, sameEs_nil] at hq
    exact ⟨by rw [← hq], rfl⟩
def SameS (a : V) : Prop := ∀ (b : V) (_ : a.bulk ≤ 1099511627776) (_ : b.bulk ≤ 1099511627776) (sa sb : Value) (h : Hp) (_ : RdE h a.items sa) (_ : RdE h b.items sb), ACalls Tryd.prog 12 #[.agg #[.int .i64 a.kind, .int .i64 a.num, .string a.str, .int .i64 a.next, sa], .agg #[.int .i64 b.kind, .int .i64 b.num, .string b.str, .int .i64 b.next, sb]] h (Pu (.bool (V.same a b)) h)
theorem sSame : ∀ a, SameS a := V.ind fun a ih b ha hb sa sb h ra rb => by
  have hB := V.bulk_eq a
  have hB2 := V.bulk_eq b
  have hla := V.bulks_len a.items
  have hlb := V.bulks_len b.items
  have hpe := V.same_eq a b
  obtain ⟨a1, c1, xs1, rfl, hc1, hr1, hat1⟩ := ra.rows (by decide) a.items.length (fm_len edt_len _)
  obtain ⟨a2, c2, xs2, rfl, hc2, hr2, hat2⟩ := rb.rows (by decide) b.items.length (fm_len edt_len _)
  (refine enter Tryd.func12 rfl rfl (by kernel_rfl) [] ?_; simp only [go_sem, Nat.reduceBEq])
  by_cases k0 : a.kind = b.kind
  case neg =>
    have d0 := decide_eq_false k0
    simp only [d0, go_sem, Nat.reduceBEq]
    exact ⟨by rw [hpe]; simp [k0], rfl⟩
  have d0 := decide_eq_true k0
  by_cases k1 : a.num = b.num
  case neg =>
    have d1 := decide_eq_false k1
    simp only [d0, d1, go_sem, Nat.reduceBEq]
    exact ⟨by rw [hpe]; simp [k1], rfl⟩
  have d1 := decide_eq_true k1
  by_cases k2 : a.str = b.str
  case neg =>
    have d2 := decide_eq_false k2
    simp only [d0, d1, d2, go_sem, Nat.reduceBEq]
    exact ⟨by rw [hpe]; simp [k2], rfl⟩
  have d2 := decide_eq_true k2
  by_cases k3 : a.items.length = b.items.length
  case neg =>
    have d3 := decide_eq_false k3
    have t3 : decide (((a.items.length : Nat) : Int) = ((b.items.length : Nat) : Int)) = false := decide_eq_false (by omega)
    simp only [d0, d1, d2, t3, go_sem, Nat.reduceBEq]
    exact ⟨by rw [hpe]; simp [k3], rfl⟩
  have d3 := decide_eq_true k3
  have t3 : decide (((a.items.length : Nat) : Int) = ((b.items.length : Nat) : Int)) = true := decide_eq_true (by omega)
  have hpe : sameEs a.items b.items = V.same a b := by rw [hpe, d0, d1, d2, d3]; rfl
  simp only [d0, d1, d2, t3, go_sem, Nat.reduceBEq]
  refine aloop (ι := Nat) (fun i => [(5, .val (.int .i64 (i : Nat))), (2, .box 2 0), (3, .box 3 0)]) (fun _ => [(3, [.int .i64 b.kind, .int .i64 b.num, .string b.str, .int .i64 b.next, .slice a2 b.items.length c2]), (2, [.int .i64 a.kind, .int .i64 a.num, .string a.str, .int .i64 a.next, .slice a1 a.items.length c1])]) (fun i h' => i ≤ a.items.length ∧ h = h' ∧ sameEs (a.items.drop i) (b.items.drop i) = V.same a b) (fun i => a.items.length - i) 0
    ⟨Nat.zero_le _, rfl, hpe⟩ (by repeat (first | exact wkF_e | refine wkF_c rfl ?_)) (wkB_c rfl (wkB_c rfl wkB_e)) rfl ?_
  rintro i _ ⟨hi, rfl, hq⟩
  have hi : i ≤ a.items.length := hi
  have hq : sameEs (a.items.drop i) (b.items.drop i) = V.same a b := hq
  simp only [go_sem, Nat.reduceBEq]
  refine Br.intro (fun hb => ?_) (fun hb => ?_) <;> (try simp only [hb, go_sem, Nat.reduceBEq])
  · have hb : i < a.items.length := by simpa using hb
    have hb2 : i < b.items.length := by omega
    obtain ⟨b1, o1, rfl, hat1'⟩ := hat1 (by omega)
    obtain ⟨b2, o2, rfl, hat2'⟩ := hat2 (by omega)
    obtain ⟨e, he, hm⟩ := get_lt hb
    obtain ⟨f, hf, hmf⟩ := get_lt hb2
    have wsu := wrap_succ (i := i) (by omega)
    have hbe := bulk_mem3 hm
    have hbf := bulk_mem3 hmf
    rw [sameEs_at he hf] at hq
    skip
    refine regionD_intro (lb := [42, 48, 56, 62]) (by kernel_rfl) ?_
    simp only [ix_nat hb, go_sem, Nat.reduceBEq]
    refine hsem_ekey tyS40 hat1' hr1 he rfl ?_
    simp only [ix_nat hb2, go_sem, Nat.reduceBEq]
    refine hsem_ekey tyS40 hat2' hr2 hf rfl ?_
    simp only [key_dec, keyT40, go_sem, Nat.reduceBEq]
    by_cases kk : e.1 = f.1
    case neg =>
      have dk := decide_eq_false kk
      simp only [dk, go_sem, Nat.reduceBEq]
      exact ⟨by rw [← hq, dk]; rfl, rfl⟩
    have dk := decide_eq_true kk
    simp only [dk, ix_nat hb, go_sem, Nat.reduceBEq, Nat.reduceAdd]
    refine hsem_eval tyS26 hat1' hr1 he rfl fun s3 rd3 => ?_
    obtain ⟨a3, c3, _, rfl, _⟩ := rd3.rows (by decide) e.2.items.length (fm_len edt_len _)
    simp only [ix_nat hb2, go_sem, Nat.reduceBEq, Nat.reduceAdd]
    refine hsem_eval tyS26 hat2' hr2 hf rfl fun s4 rd4 => ?_
    obtain ⟨a4, c4, _, rfl, _⟩ := rd4.rows (by decide) f.2.items.length (fm_len edt_len _)
    simp only [go_sem, Nat.reduceBEq]
    (refine (ih e hm f.2 (by omega) (by omega) _ _ _ rd3 rd4).mono ?_; rintro _ _ ⟨rfl, rfl⟩; simp only [go_sem, Nat.reduceBEq])
    by_cases kv : V.same e.2 f.2 = true
    case neg =>
      have dv : V.same e.2 f.2 = false := by simpa using kv
      simp only [dv, go_sem, Nat.reduceBEq]
      exact ⟨by rw [← hq, dk, dv]; rfl, rfl⟩
    rw [dk, kv] at hq
    simp only [kv, wsu, go_sem, Nat.reduceBEq]
    exact Again.intro (i + 1) (by first | omega | (simp only; omega)) ⟨hb, rfl, hq⟩ (by repeat (first | exact wkF_e | refine wkF_c rfl ?_)) (wkB_c rfl (wkB_c rfl wkB_e)) rfl
  · have hb : i = a.items.length := by simp at hb; omega
    subst hb
    rw [List.drop_length, sameEs_nil] at hq
    exact ⟨by rw [← hq], rfl⟩
end Go.Proofs.YtconhonjkfpfmaaDoor
