/-
  The statement FnExactUnaryOp is proved: for each argument the law returns true; nothing is assumed.
-/
import Derived.Test.YtpfongmnmcmnaaaGreatDoorNum
import Derived.Test.YtpfongmnmcmnaaaGreatDoorSxMathV
import Derived.Test.YtpfongmnmcmnaaaGreatDoorSxSerial
import Derived.Test.YtpfongmnmcmnaaaGreatDoorFacts
import Derived.Test.YtpfongmnmcmnaaaGreatDoorSxLaw
import Derived.Test.YtpfongmnmcmnaaaGreatDoorUnion
import Derived.Test.YtpfongmnmcmnaaaGreatDoorOrd
import Derived.Lib.ItoaLen
import Derived.Test.YtpfongmnmcmnaaaGreatDoorSxDataT
import Derived.Test.YtpfongmnmcmnaaaGreatDoorSxOpen
import Derived.Test.YtpfongmnmcmnaaaGreatDoorSxDataV
import Derived.Test.YtpfongmnmcmnaaaGreatDoorRows
import Derived.Test.YtpfongmnmcmnaaaGreatDoorTie
import Derived.Test.YtpfongmnmcmnaaaGreatDoorCards
import Derived.ProofKit
import Derived.LaidMore
import Derived.OpenShut
import Derived.Stop.Joined
import Derived.SevenTiedAt
namespace Go.Proofs.YtpfongmnmcmnaaaGreatDoor
set_option maxRecDepth 8000
open Go Go.Sx
theorem bulk_mem3 : ∀ {es : List (Ky × V)} {e : Ky × V}, e ∈ es → e.1.str.size + e.2.bulk + 1 ≤ V.bulks es
  | (k, v) :: r, e, he => by
    simp only [V.bulks]
    cases he with
    | head => simp only; omega
    | tail _ he => have := bulk_mem3 he; omega
def SameI (a : V) : Prop := ∀ (b : V) (_ : a.bulk ≤ 1099511627776) (_ : b.bulk ≤ 1099511627776) (sa sb : Value) (h : Hp) (_ : RdE h a.items sa) (_ : RdE h b.items sb), ACalls Tryz.prog 31 #[.agg #[.int .i64 a.kind, .int .i64 a.num, .string a.str, .int .i64 a.next, sa], .agg #[.int .i64 b.kind, .int .i64 b.num, .string b.str, .int .i64 b.next, sb]] h (Pu (.bool (V.same a b)) h)
theorem iSame : ∀ a, SameI a := V.ind fun a ih b ha hb sa sb h ra rb => by
  have hB := V.bulk_eq a
  have hB2 := V.bulk_eq b
  have hla := V.bulks_len a.items
  have hlb := V.bulks_len b.items
  have hpe := V.same_eq a b
  obtain ⟨a1, c1, xs1, rfl, hc1, hr1, hat1⟩ := ra.rows (by decide) a.items.length (fm_len edt_len _)
  obtain ⟨a2, c2, xs2, rfl, hc2, hr2, hat2⟩ := rb.rows (by decide) b.items.length (fm_len edt_len _)
  (refine enter Tryz.func31 rfl rfl (by kernel_rfl) [] ?_; simp only [go_sem, Nat.reduceBEq])
  by_cases k0 : a.kind = b.kind
  case neg =>
    have d0 := decide_eq_false k0
    simp only [d0, go_sem, Nat.reduceBEq]
    exact ⟨by rw [hpe]; simp [k0], rfl⟩
  have d0 := decide_eq_true k0
  by_cases k1 : a.num = b.num
  case neg =>
    have d1 := decide_eq_false k1
    simp only [d0, d1, go_sem, Nat.reduceBEq]
    exact ⟨by rw [hpe]; simp [k1], rfl⟩
  have d1 := decide_eq_true k1
  by_cases k2 : a.str = b.str
  case neg =>
    have d2 := decide_eq_false k2
    simp only [d0, d1, d2, go_sem, Nat.reduceBEq]
    exact ⟨by rw [hpe]; simp [k2], rfl⟩
  have d2 := decide_eq_true k2
  by_cases k3 : a.items.length = b.items.length
  case neg =>
    have d3 := decide_eq_false k3
    have t3 : decide (((a.items.length : Nat) : Int) = ((b.items.length : Nat) : Int)) = false := decide_eq_false (by omega)
    simp only [d0, d1, d2, t3, go_sem, Nat.reduceBEq]
    exact ⟨by rw [hpe]; simp [k3], rfl⟩
  have d3 := decide_eq_true k3
  have t3 : decide (((a.items.length : Nat) : Int) = ((b.items.length : Nat) : Int)) = true := decide_eq_true (by omega)
  have hpe : sameEs a.items b.items = V.same a b := by rw [hpe, d0, d1, d2, d3]; rfl
  simp only [d0, d1, d2, t3, go_sem, Nat.reduceBEq]
  refine aloop (ι := Nat) (fun i => [(38, .val (.int .i64 (i : Nat))), (37, .val (.int .i64 (a.items.length : Nat))), (36, .val (.slice a1 a.items.length c1)), (3, .box 3 0)]) (fun _ => [(3, [.int .i64 b.kind, .int .i64 b.num, .string b.str, .int .i64 b.next, .slice a2 b.items.length c2])]) (fun i h' => i ≤ a.items.length ∧ h = h' ∧ sameEs (a.items.drop i) (b.items.drop i) = V.same a b) (fun i => a.items.length - i) 0
    ⟨Nat.zero_le _, rfl, hpe⟩ (by repeat (first | exact wkF_e | refine wkF_c rfl ?_)) (wkB_c rfl wkB_e) rfl ?_
  rintro i _ ⟨hi, rfl, hq⟩
  have hi : i ≤ a.items.length := hi
  have hq : sameEs (a.items.drop i) (b.items.drop i) = V.same a b := hq
  simp only [go_sem, Nat.reduceBEq]
  refine Br.intro (fun hb => ?_) (fun hb => ?_) <;> (try simp only [hb, go_sem, Nat.reduceBEq])
  · have hb : i < a.items.length := by simpa using hb
    have hb2 : i < b.items.length := by omega
    obtain ⟨b1, o1, rfl, hat1'⟩ := hat1 (by omega)
    obtain ⟨b2, o2, rfl, hat2'⟩ := hat2 (by omega)
    obtain ⟨e, he, hm⟩ := get_lt hb
    obtain ⟨f, hf, hmf⟩ := get_lt hb2
    have wsu := wrap_succ (i := i) (by omega)
    have hbe := bulk_mem3 hm
    have hbf := bulk_mem3 hmf
    rw [sameEs_at he hf] at hq
    simp only [ix_nat hb, go_sem, Nat.reduceBEq]
    refine hsem_entry tyS64 hat1' hr1 he rfl fun s3 rd3 => ?_
    obtain ⟨a3, c3, _, rfl, _⟩ := rd3.rows (by decide) e.2.items.length (fm_len edt_len _)
    simp only [go_sem, Nat.reduceBEq, Nat.reduceAdd, Nat.reduceLeDiff]
    refine regionD_intro (lb := [44, 46, 54, 56]) (by kernel_rfl) ?_
    simp only [ix_nat hb2, go_sem, Nat.reduceBEq, Nat.reduceAdd, Nat.reduceLeDiff]
    refine hsem_ekey tyS62 hat2' hr2 hf rfl ?_
    simp only [key_dec, keyT62, go_sem, Nat.reduceBEq]
    by_cases kk : e.1 = f.1
    case neg =>
      have dk := decide_eq_false kk
      simp only [dk, go_sem, Nat.reduceBEq]
      exact ⟨by rw [← hq, dk]; rfl, rfl⟩
    have dk := decide_eq_true kk
    simp only [dk, ix_nat hb2, go_sem, Nat.reduceBEq, Nat.reduceAdd, Nat.reduceLeDiff]
    refine hsem_eval tyS28 hat2' hr2 hf rfl fun s4 rd4 => ?_
    obtain ⟨a4, c4, _, rfl, _⟩ := rd4.rows (by decide) f.2.items.length (fm_len edt_len _)
    simp only [go_sem, Nat.reduceBEq]
    (refine (ih e hm f.2 (by omega) (by omega) _ _ _ rd3 rd4).mono ?_; rintro _ _ ⟨rfl, rfl⟩; simp only [go_sem, Nat.reduceBEq])
    by_cases kv : V.same e.2 f.2 = true
    case neg =>
      have dv : V.same e.2 f.2 = false := by simpa using kv
      simp only [dv, go_sem, Nat.reduceBEq]
      exact ⟨by rw [← hq, dk, dv]; rfl, rfl⟩
    rw [dk, kv] at hq
    simp only [kv, wsu, go_sem, Nat.reduceBEq]
    exact Again.intro (i + 1) (by first | omega | (simp only; omega)) ⟨hb, rfl, hq⟩ (by repeat (first | exact wkF_e | refine wkF_c rfl ?_)) (wkB_c rfl wkB_e) rfl
  · have hb : i = a.items.length := by simp at hb; omega
    subst hb
    rw [List.drop_length, sameEs_nil] at hq
    exact ⟨by rw [← hq], rfl⟩
def SameS (a : V) : Prop := ∀ (b : V) (_ : a.bulk ≤ 1099511627776) (_ : b.bulk ≤ 1099511627776) (sa sb : Value) (h : Hp) (_ : RdE h a.items sa) (_ : RdE h b.items sb), ACalls Tryz.prog 18 #[.agg #[.int .i64 a.kind, .int .i64 a.num, .string a.str, .int .i64 a.next, sa], .agg #[.int .i64 b.kind, .int .i64 b.num, .string b.str, .int .i64 b.next, sb]] h (Pu (.bool (V.same a b)) h)
theorem sSame : ∀ a, SameS a := V.ind fun a ih b ha hb sa sb h ra rb => by
  have hB := V.bulk_eq a
  have hB2 := V.bulk_eq b
  have hla := V.bulks_len a.items
  have hlb := V.bulks_len b.items
  have hpe := V.same_eq a b
  obtain ⟨a1, c1, xs1, rfl, hc1, hr1, hat1⟩ := ra.rows (by decide) a.items.length (fm_len edt_len _)
  obtain ⟨a2, c2, xs2, rfl, hc2, hr2, hat2⟩ := rb.rows (by decide) b.items.length (fm_len edt_len _)
  (refine enter Tryz.func18 rfl rfl (by kernel_rfl) [] ?_; simp only [go_sem, Nat.reduceBEq])
  by_cases k0 : a.kind = b.kind
  case neg =>
    have d0 := decide_eq_false k0
    simp only [d0, go_sem, Nat.reduceBEq]
    exact ⟨by rw [hpe]; simp [k0], rfl⟩
  have d0 := decide_eq_true k0
  by_cases k1 : a.num = b.num
  case neg =>
    have d1 := decide_eq_false k1
    simp only [d0, d1, go_sem, Nat.reduceBEq]
    exact ⟨by rw [hpe]; simp [k1], rfl⟩
  have d1 := decide_eq_true k1
  by_cases k2 : a.str = b.str
  case neg =>
    have d2 := decide_eq_false k2
    simp only [d0, d1, d2, go_sem, Nat.reduceBEq]
    exact ⟨by rw [hpe]; simp [k2], rfl⟩
  have d2 := decide_eq_true k2
  by_cases k3 : a.items.length = b.items.length
  case neg =>
    have d3 := decide_eq_false k3
    have t3 : decide (((a.items.length : Nat) : Int) = ((b.items.length : Nat) : Int)) = false := decide_eq_false (by omega)
    simp only [d0, d1, d2, t3, go_sem, Nat.reduceBEq]
    exact ⟨by rw [hpe]; simp [k3], rfl⟩
  have d3 := decide_eq_true k3
  have t3 : decide (((a.items.length : Nat) : Int) = ((b.items.length : Nat) : Int)) = true := decide_eq_true (by omega)
  have hpe : sameEs a.items b.items = V.same a b := by rw [hpe, d0, d1, d2, d3]; rfl
  simp only [d0, d1, d2, t3, go_sem, Nat.reduceBEq]
  refine aloop (ι := Nat) (fun i => [(5, .val (.int .i64 (i : Nat))), (2, .box 2 0), (3, .box 3 0)]) (fun _ => [(3, [.int .i64 b.kind, .int .i64 b.num, .string b.str, .int .i64 b.next, .slice a2 b.items.length c2]), (2, [.int .i64 a.kind, .int .i64 a.num, .string a.str, .int .i64 a.next, .slice a1 a.items.length c1])]) (fun i h' => i ≤ a.items.length ∧ h = h' ∧ sameEs (a.items.drop i) (b.items.drop i) = V.same a b) (fun i => a.items.length - i) 0
    ⟨Nat.zero_le _, rfl, hpe⟩ (by repeat (first | exact wkF_e | refine wkF_c rfl ?_)) (wkB_c rfl (wkB_c rfl wkB_e)) rfl ?_
  rintro i _ ⟨hi, rfl, hq⟩
  have hi : i ≤ a.items.length := hi
  have hq : sameEs (a.items.drop i) (b.items.drop i) = V.same a b := hq
  simp only [go_sem, Nat.reduceBEq]
  refine Br.intro (fun hb => ?_) (fun hb => ?_) <;> (try simp only [hb, go_sem, Nat.reduceBEq])
  · have hb : i < a.items.length := by simpa using hb
    have hb2 : i < b.items.length := by omega
    obtain ⟨b1, o1, rfl, hat1'⟩ := hat1 (by omega)
    obtain ⟨b2, o2, rfl, hat2'⟩ := hat2 (by omega)
    obtain ⟨e, he, hm⟩ := get_lt hb
    obtain ⟨f, hf, hmf⟩ := get_lt hb2
    have wsu := wrap_succ (i := i) (by omega)
    have hbe := bulk_mem3 hm
    have hbf := bulk_mem3 hmf
    rw [sameEs_at he hf] at hq
    skip
    refine regionD_intro (lb := [42, 48, 56, 62]) (by kernel_rfl) ?_
    simp only [ix_nat hb, go_sem, Nat.reduceBEq]
    refine hsem_ekey tyS62 hat1' hr1 he rfl ?_
    simp only [ix_nat hb2, go_sem, Nat.reduceBEq]
    refine hsem_ekey tyS62 hat2' hr2 hf rfl ?_
    simp only [key_dec, keyT62, go_sem, Nat.reduceBEq]
    by_cases kk : e.1 = f.1
    case neg =>
      have dk := decide_eq_false kk
      simp only [dk, go_sem, Nat.reduceBEq]
      exact ⟨by rw [← hq, dk]; rfl, rfl⟩
    have dk := decide_eq_true kk
    simp only [dk, ix_nat hb, go_sem, Nat.reduceBEq, Nat.reduceAdd]
    refine hsem_eval tyS28 hat1' hr1 he rfl fun s3 rd3 => ?_
    obtain ⟨a3, c3, _, rfl, _⟩ := rd3.rows (by decide) e.2.items.length (fm_len edt_len _)
    simp only [ix_nat hb2, go_sem, Nat.reduceBEq, Nat.reduceAdd]
    refine hsem_eval tyS28 hat2' hr2 hf rfl fun s4 rd4 => ?_
    obtain ⟨a4, c4, _, rfl, _⟩ := rd4.rows (by decide) f.2.items.length (fm_len edt_len _)
    simp only [go_sem, Nat.reduceBEq]
    (refine (ih e hm f.2 (by omega) (by omega) _ _ _ rd3 rd4).mono ?_; rintro _ _ ⟨rfl, rfl⟩; simp only [go_sem, Nat.reduceBEq])
    by_cases kv : V.same e.2 f.2 = true
    case neg =>
      have dv : V.same e.2 f.2 = false := by simpa using kv
      simp only [dv, go_sem, Nat.reduceBEq]
      exact ⟨by rw [← hq, dk, dv]; rfl, rfl⟩
    rw [dk, kv] at hq
    simp only [kv, wsu, go_sem, Nat.reduceBEq]
    exact Again.intro (i + 1) (by first | omega | (simp only; omega)) ⟨hb, rfl, hq⟩ (by repeat (first | exact wkF_e | refine wkF_c rfl ?_)) (wkB_c rfl (wkB_c rfl wkB_e)) rfl
  · have hb : i = a.items.length := by simp at hb; omega
    subst hb
    rw [List.drop_length, sameEs_nil] at hq
    exact ⟨by rw [← hq], rfl⟩
end Go.Proofs.YtpfongmnmcmnaaaGreatDoor
namespace Go.Proofs.YtpfongmnmcmnaaaGreatDoor
set_option maxRecDepth 8000
open Go Go.Sx
/-- The relation 'op' of an order. -/
def rel (op order : Int) : Bool := if op = 7 then decide (order = 0) else if op = 8 then !decide (order = 0) else if op = 11 then decide (order = -1) else if op = 12 then decide (order = -1) || decide (order = 0) else if op = 13 then decide (order = 1) else if op = 14 then decide (order = 1) || decide (order = 0) else false
theorem iRelation (op order : Int) (h : Hp) : ACalls Tryz.prog 32 #[.int .i64 op, .int .i64 order] h (Is (.bool (rel op order)) h) := by
  refine enter Tryz.func32 rfl rfl (by kernel_rfl) [] ?_
  simp only [go_sem, Nat.reduceBEq]
  repeat' (refine Br.intro (fun hb => ?_) (fun hb => ?_) <;> (try simp only [hb, go_sem, Nat.reduceBEq]))
  all_goals (refine ⟨?_, Ext.refl _⟩; simp_all [rel])
theorem sRelation (op order : Int) (h : Hp) : ACalls Tryz.prog 22 #[.int .i64 op, .int .i64 order] h (Is (.bool (rel op order)) h) := by
  refine enter Tryz.func22 rfl rfl (by kernel_rfl) [] ?_
  simp only [go_sem, Nat.reduceBEq]
  repeat' (refine Br.intro (fun hb => ?_) (fun hb => ?_) <;> (try simp only [hb, go_sem, Nat.reduceBEq]))
  all_goals (refine ⟨?_, Ext.refl _⟩; simp_all [rel])
end Go.Proofs.YtpfongmnmcmnaaaGreatDoor
namespace Go.Proofs.YtpfongmnmcmnaaaGreatDoor
set_option maxRecDepth 8000
open Go Go.Sx
def inR (n : Int) : Prop := -1000000000 ≤ n ∧ n ≤ 1000000000
instance (n : Int) : Decidable (inR n) := inferInstanceAs (Decidable (_ ∧ _))
def clamp (n : Int) : Int × Int := if inR n then (n, 0) else (0, 3)
/-- The arithmetic: a number and an error's number. -/
def arith (op a b : Int) : Int × Int :=
  if ¬ (1 ≤ op ∧ op ≤ 5) then (0, 2) else if ¬ inR a ∨ ¬ inR b then (0, 3) else if b = 0 ∧ (op = 4 ∨ op = 5) then (0, 4) else
    if op = 1 then clamp (a + b) else if op = 2 then clamp (a - b) else if op = 3 then clamp (a * b) else if op = 4 then clamp (a.tdiv b) else clamp (a.tmod b)
theorem mul_in {a b : Int} (ha : inR a) (hb : inR b) : IntKind.i64.wrap (a * b) = a * b := by
  refine IntWalk.i64_in _ ?_
  obtain ⟨a1, a2⟩ := ha
  obtain ⟨b1, b2⟩ := hb
  have h1 : a * b ≤ 1000000000000000000 := by
    have := Int.mul_le_mul_of_natAbs_le (x := a) (y := b) (s := 1000000000) (t := 1000000000) (by omega) (by omega)
    omega
  have h2 : -1000000000000000000 ≤ a * b := by
    have := Int.mul_le_mul_of_natAbs_le (x := -a) (y := b) (s := 1000000000) (t := 1000000000) (by omega) (by omega)
    rw [Int.neg_mul] at this
    omega
  omega
theorem div_in {a b : Int} (ha : inR a) : IntKind.i64.wrap (a.tdiv b) = a.tdiv b := by
  refine IntWalk.i64_in _ ?_
  obtain ⟨a1, a2⟩ := ha
  have h1 := Int.natAbs_tdiv_le_natAbs a b
  omega
theorem iArith (op a b : Int) (h : Hp) : ACalls Tryz.prog 36 #[.int .i64 op, .int .i64 a, .int .i64 b] h (Is (.tuple #[.int .i64 (arith op a b).1, .int .i64 (arith op a b).2]) h) := by
  (refine enter Tryz.func36 rfl rfl (by kernel_rfl) [] ?_; simp only [go_sem, Nat.reduceBEq])
  by_cases ho : 1 ≤ op ∧ op ≤ 5
  case neg =>
    have e : arith op a b = (0, 2) := by unfold arith; rw [if_pos ho]
    by_cases h1 : op < 1
    · simp only [decide_eq_true h1, go_sem, Nat.reduceBEq]
      exact ⟨by rw [e], Ext.refl _⟩
    · simp only [decide_eq_false h1, decide_eq_true (show 5 < op by omega), go_sem, Nat.reduceBEq]
      exact ⟨by rw [e], Ext.refl _⟩
  obtain rfl | rfl | rfl | rfl | rfl : op = 1 ∨ op = 2 ∨ op = 3 ∨ op = 4 ∨ op = 5 := by omega
  · try simp only [Int.reduceLT, Int.reduceNeg, go_sem, Nat.reduceBEq]
    (refine (iInRange a _ _ _).mono ?_; rintro _ _ ⟨rfl, rfl⟩; simp only [go_sem, Nat.reduceBEq])
    by_cases ha : inR a
    case neg =>
      have e : arith 1 a b = (0, 3) := by simp [arith, ha]
      simp only [show decide (-1000000000 ≤ a ∧ a ≤ 1000000000) = false from decide_eq_false ha, Bool.not_false, go_sem, Nat.reduceBEq]
      exact ⟨by rw [e], Ext.refl _⟩
    simp only [show decide (-1000000000 ≤ a ∧ a ≤ 1000000000) = true from decide_eq_true ha, Bool.not_true, go_sem, Nat.reduceBEq]
    (refine (iInRange b _ _ _).mono ?_; rintro _ _ ⟨rfl, rfl⟩; simp only [go_sem, Nat.reduceBEq])
    by_cases hb : inR b
    case neg =>
      have e : arith 1 a b = (0, 3) := by simp [arith, hb]
      simp only [show decide (-1000000000 ≤ b ∧ b ≤ 1000000000) = false from decide_eq_false hb, Bool.not_false, go_sem, Nat.reduceBEq]
      exact ⟨by rw [e], Ext.refl _⟩
    simp only [show decide (-1000000000 ≤ b ∧ b ≤ 1000000000) = true from decide_eq_true hb, Bool.not_true, go_sem, Nat.reduceBEq]
    have hw : IntKind.i64.wrap (a + b) = a + b := IntWalk.i64_in _ (by have := ha.1; have := ha.2; have := hb.1; have := hb.2; omega)
    by_cases hz : b = 0
    · simp only [decide_eq_true hz, hw, Int.reduceNeg, go_sem, Nat.reduceBEq, Int.reduceEq]
      (refine (iInRange (a + b) _ _ _).mono ?_; rintro _ _ ⟨rfl, rfl⟩; simp only [go_sem, Nat.reduceBEq])
      by_cases hn : inR (a + b)
      case neg =>
        have e : arith 1 a b = (0, 3) := by simp [arith, clamp, ha, hb, hn]
        simp only [show decide (-1000000000 ≤ a + b ∧ a + b ≤ 1000000000) = false from decide_eq_false hn, Bool.not_false, go_sem, Nat.reduceBEq]
        exact ⟨by rw [e], Ext.refl _⟩
      have e : arith 1 a b = (a + b, 0) := by simp [arith, clamp, ha, hb, hn]
      simp only [show decide (-1000000000 ≤ a + b ∧ a + b ≤ 1000000000) = true from decide_eq_true hn, Bool.not_true, go_sem, Nat.reduceBEq]
      exact ⟨by rw [e], Ext.refl _⟩
    · simp only [decide_eq_false hz, hw, Int.reduceNeg, go_sem, Nat.reduceBEq]
      (refine (iInRange (a + b) _ _ _).mono ?_; rintro _ _ ⟨rfl, rfl⟩; simp only [go_sem, Nat.reduceBEq])
      by_cases hn : inR (a + b)
      case neg =>
        have e : arith 1 a b = (0, 3) := by simp [arith, clamp, ha, hb, hn]
        simp only [show decide (-1000000000 ≤ a + b ∧ a + b ≤ 1000000000) = false from decide_eq_false hn, Bool.not_false, go_sem, Nat.reduceBEq]
        exact ⟨by rw [e], Ext.refl _⟩
      have e : arith 1 a b = (a + b, 0) := by simp [arith, clamp, ha, hb, hn]
      simp only [show decide (-1000000000 ≤ a + b ∧ a + b ≤ 1000000000) = true from decide_eq_true hn, Bool.not_true, go_sem, Nat.reduceBEq]
      exact ⟨by rw [e], Ext.refl _⟩
  · try simp only [Int.reduceLT, Int.reduceNeg, go_sem, Nat.reduceBEq]
    (refine (iInRange a _ _ _).mono ?_; rintro _ _ ⟨rfl, rfl⟩; simp only [go_sem, Nat.reduceBEq])
    by_cases ha : inR a
    case neg =>
      have e : arith 2 a b = (0, 3) := by simp [arith, ha]
      simp only [show decide (-1000000000 ≤ a ∧ a ≤ 1000000000) = false from decide_eq_false ha, Bool.not_false, go_sem, Nat.reduceBEq]
      exact ⟨by rw [e], Ext.refl _⟩
    simp only [show decide (-1000000000 ≤ a ∧ a ≤ 1000000000) = true from decide_eq_true ha, Bool.not_true, go_sem, Nat.reduceBEq]
    (refine (iInRange b _ _ _).mono ?_; rintro _ _ ⟨rfl, rfl⟩; simp only [go_sem, Nat.reduceBEq])
    by_cases hb : inR b
    case neg =>
      have e : arith 2 a b = (0, 3) := by simp [arith, hb]
      simp only [show decide (-1000000000 ≤ b ∧ b ≤ 1000000000) = false from decide_eq_false hb, Bool.not_false, go_sem, Nat.reduceBEq]
      exact ⟨by rw [e], Ext.refl _⟩
    simp only [show decide (-1000000000 ≤ b ∧ b ≤ 1000000000) = true from decide_eq_true hb, Bool.not_true, go_sem, Nat.reduceBEq]
    have hw : IntKind.i64.wrap (a - b) = a - b := IntWalk.i64_in _ (by have := ha.1; have := ha.2; have := hb.1; have := hb.2; omega)
    by_cases hz : b = 0
    · simp only [decide_eq_true hz, hw, Int.reduceNeg, go_sem, Nat.reduceBEq, Int.reduceEq]
      (refine (iInRange (a - b) _ _ _).mono ?_; rintro _ _ ⟨rfl, rfl⟩; simp only [go_sem, Nat.reduceBEq])
      by_cases hn : inR (a - b)
      case neg =>
        have e : arith 2 a b = (0, 3) := by simp [arith, clamp, ha, hb, hn]
        simp only [show decide (-1000000000 ≤ a - b ∧ a - b ≤ 1000000000) = false from decide_eq_false hn, Bool.not_false, go_sem, Nat.reduceBEq]
        exact ⟨by rw [e], Ext.refl _⟩
      have e : arith 2 a b = (a - b, 0) := by simp [arith, clamp, ha, hb, hn]
      simp only [show decide (-1000000000 ≤ a - b ∧ a - b ≤ 1000000000) = true from decide_eq_true hn, Bool.not_true, go_sem, Nat.reduceBEq]
      exact ⟨by rw [e], Ext.refl _⟩
    · simp only [decide_eq_false hz, hw, Int.reduceNeg, go_sem, Nat.reduceBEq, Int.reduceEq]
      (refine (iInRange (a - b) _ _ _).mono ?_; rintro _ _ ⟨rfl, rfl⟩; simp only [go_sem, Nat.reduceBEq])
      by_cases hn : inR (a - b)
      case neg =>
        have e : arith 2 a b = (0, 3) := by simp [arith, clamp, ha, hb, hn]
        simp only [show decide (-1000000000 ≤ a - b ∧ a - b ≤ 1000000000) = false from decide_eq_false hn, Bool.not_false, go_sem, Nat.reduceBEq]
        exact ⟨by rw [e], Ext.refl _⟩
      have e : arith 2 a b = (a - b, 0) := by simp [arith, clamp, ha, hb, hn]
      simp only [show decide (-1000000000 ≤ a - b ∧ a - b ≤ 1000000000) = true from decide_eq_true hn, Bool.not_true, go_sem, Nat.reduceBEq]
      exact ⟨by rw [e], Ext.refl _⟩
  · try simp only [Int.reduceLT, Int.reduceNeg, go_sem, Nat.reduceBEq]
    (refine (iInRange a _ _ _).mono ?_; rintro _ _ ⟨rfl, rfl⟩; simp only [go_sem, Nat.reduceBEq])
    by_cases ha : inR a
    case neg =>
      have e : arith 3 a b = (0, 3) := by simp [arith, ha]
      simp only [show decide (-1000000000 ≤ a ∧ a ≤ 1000000000) = false from decide_eq_false ha, Bool.not_false, go_sem, Nat.reduceBEq]
      exact ⟨by rw [e], Ext.refl _⟩
    simp only [show decide (-1000000000 ≤ a ∧ a ≤ 1000000000) = true from decide_eq_true ha, Bool.not_true, go_sem, Nat.reduceBEq]
    (refine (iInRange b _ _ _).mono ?_; rintro _ _ ⟨rfl, rfl⟩; simp only [go_sem, Nat.reduceBEq])
    by_cases hb : inR b
    case neg =>
      have e : arith 3 a b = (0, 3) := by simp [arith, hb]
      simp only [show decide (-1000000000 ≤ b ∧ b ≤ 1000000000) = false from decide_eq_false hb, Bool.not_false, go_sem, Nat.reduceBEq]
      exact ⟨by rw [e], Ext.refl _⟩
    simp only [show decide (-1000000000 ≤ b ∧ b ≤ 1000000000) = true from decide_eq_true hb, Bool.not_true, go_sem, Nat.reduceBEq]
    have hw : IntKind.i64.wrap (a * b) = a * b := mul_in ha hb
    by_cases hz : b = 0
    · simp only [decide_eq_true hz, hw, Int.reduceNeg, go_sem, Nat.reduceBEq, Int.reduceEq]
      (refine (iInRange (a * b) _ _ _).mono ?_; rintro _ _ ⟨rfl, rfl⟩; simp only [go_sem, Nat.reduceBEq])
      by_cases hn : inR (a * b)
      case neg =>
        have e : arith 3 a b = (0, 3) := by simp [arith, clamp, ha, hb, hn]
        simp only [show decide (-1000000000 ≤ a * b ∧ a * b ≤ 1000000000) = false from decide_eq_false hn, Bool.not_false, go_sem, Nat.reduceBEq]
        exact ⟨by rw [e], Ext.refl _⟩
      have e : arith 3 a b = (a * b, 0) := by simp [arith, clamp, ha, hb, hn]
      simp only [show decide (-1000000000 ≤ a * b ∧ a * b ≤ 1000000000) = true from decide_eq_true hn, Bool.not_true, go_sem, Nat.reduceBEq]
      exact ⟨by rw [e], Ext.refl _⟩
    · simp only [decide_eq_false hz, hw, Int.reduceNeg, go_sem, Nat.reduceBEq, Int.reduceEq]
      (refine (iInRange (a * b) _ _ _).mono ?_; rintro _ _ ⟨rfl, rfl⟩; simp only [go_sem, Nat.reduceBEq])
      by_cases hn : inR (a * b)
      case neg =>
        have e : arith 3 a b = (0, 3) := by simp [arith, clamp, ha, hb, hn]
        simp only [show decide (-1000000000 ≤ a * b ∧ a * b ≤ 1000000000) = false from decide_eq_false hn, Bool.not_false, go_sem, Nat.reduceBEq]
        exact ⟨by rw [e], Ext.refl _⟩
      have e : arith 3 a b = (a * b, 0) := by simp [arith, clamp, ha, hb, hn]
      simp only [show decide (-1000000000 ≤ a * b ∧ a * b ≤ 1000000000) = true from decide_eq_true hn, Bool.not_true, go_sem, Nat.reduceBEq]
      exact ⟨by rw [e], Ext.refl _⟩
  · try simp only [Int.reduceLT, Int.reduceNeg, go_sem, Nat.reduceBEq]
    (refine (iInRange a _ _ _).mono ?_; rintro _ _ ⟨rfl, rfl⟩; simp only [go_sem, Nat.reduceBEq])
    by_cases ha : inR a
    case neg =>
      have e : arith 4 a b = (0, 3) := by simp [arith, ha]
      simp only [show decide (-1000000000 ≤ a ∧ a ≤ 1000000000) = false from decide_eq_false ha, Bool.not_false, go_sem, Nat.reduceBEq]
      exact ⟨by rw [e], Ext.refl _⟩
    simp only [show decide (-1000000000 ≤ a ∧ a ≤ 1000000000) = true from decide_eq_true ha, Bool.not_true, go_sem, Nat.reduceBEq]
    (refine (iInRange b _ _ _).mono ?_; rintro _ _ ⟨rfl, rfl⟩; simp only [go_sem, Nat.reduceBEq])
    by_cases hb : inR b
    case neg =>
      have e : arith 4 a b = (0, 3) := by simp [arith, hb]
      simp only [show decide (-1000000000 ≤ b ∧ b ≤ 1000000000) = false from decide_eq_false hb, Bool.not_false, go_sem, Nat.reduceBEq]
      exact ⟨by rw [e], Ext.refl _⟩
    simp only [show decide (-1000000000 ≤ b ∧ b ≤ 1000000000) = true from decide_eq_true hb, Bool.not_true, go_sem, Nat.reduceBEq]
    have hw : IntKind.i64.wrap (a.tdiv b) = a.tdiv b := div_in ha
    by_cases hz : b = 0
    case pos =>
      have e : arith 4 a b = (0, 4) := by subst hz; simp [arith, ha, hb]
      try simp only [decide_eq_true hz, Int.reduceNeg, go_sem, Nat.reduceBEq]
      exact ⟨by rw [e], Ext.refl _⟩
    try simp only [decide_eq_false hz, hw, Int.reduceNeg, go_sem, Nat.reduceBEq, Int.reduceEq]
    try refine ⟨hz, ?_⟩
    try simp only [decide_eq_false hz, hw, Int.reduceLT, Int.reduceLE, Int.reduceNeg, go_sem, Nat.reduceBEq, Nat.reduceAdd, Nat.reduceLeDiff, Nat.reduceEqDiff, Int.reduceEq, not_false_eq_true, Int.reduceToNat]
    (refine (iInRange (a.tdiv b) _ _ _).mono ?_; rintro _ _ ⟨rfl, rfl⟩; simp only [go_sem, Nat.reduceBEq])
    by_cases hn : inR (a.tdiv b)
    case neg =>
      have e : arith 4 a b = (0, 3) := by simp [arith, clamp, ha, hb, hn, hz]
      simp only [show decide (-1000000000 ≤ a.tdiv b ∧ a.tdiv b ≤ 1000000000) = false from decide_eq_false hn, Bool.not_false, go_sem, Nat.reduceBEq]
      exact ⟨by rw [e], Ext.refl _⟩
    have e : arith 4 a b = (a.tdiv b, 0) := by simp [arith, clamp, ha, hb, hn, hz]
    simp only [show decide (-1000000000 ≤ a.tdiv b ∧ a.tdiv b ≤ 1000000000) = true from decide_eq_true hn, Bool.not_true, go_sem, Nat.reduceBEq]
    exact ⟨by rw [e], Ext.refl _⟩
  · try simp only [Int.reduceLT, Int.reduceNeg, go_sem, Nat.reduceBEq]
    (refine (iInRange a _ _ _).mono ?_; rintro _ _ ⟨rfl, rfl⟩; simp only [go_sem, Nat.reduceBEq])
    by_cases ha : inR a
    case neg =>
      have e : arith 5 a b = (0, 3) := by simp [arith, ha]
      simp only [show decide (-1000000000 ≤ a ∧ a ≤ 1000000000) = false from decide_eq_false ha, Bool.not_false, go_sem, Nat.reduceBEq]
      exact ⟨by rw [e], Ext.refl _⟩
    simp only [show decide (-1000000000 ≤ a ∧ a ≤ 1000000000) = true from decide_eq_true ha, Bool.not_true, go_sem, Nat.reduceBEq]
    (refine (iInRange b _ _ _).mono ?_; rintro _ _ ⟨rfl, rfl⟩; simp only [go_sem, Nat.reduceBEq])
    by_cases hb : inR b
    case neg =>
      have e : arith 5 a b = (0, 3) := by simp [arith, hb]
      simp only [show decide (-1000000000 ≤ b ∧ b ≤ 1000000000) = false from decide_eq_false hb, Bool.not_false, go_sem, Nat.reduceBEq]
      exact ⟨by rw [e], Ext.refl _⟩
    simp only [show decide (-1000000000 ≤ b ∧ b ≤ 1000000000) = true from decide_eq_true hb, Bool.not_true, go_sem, Nat.reduceBEq]
    by_cases hz : b = 0
    case pos =>
      have e : arith 5 a b = (0, 4) := by subst hz; simp [arith, ha, hb]
      try simp only [decide_eq_true hz, Int.reduceNeg, go_sem, Nat.reduceBEq, Int.reduceEq]
      exact ⟨by rw [e], Ext.refl _⟩
    try simp only [decide_eq_false hz, Int.reduceNeg, go_sem, Nat.reduceBEq, Int.reduceEq]
    try refine ⟨hz, ?_⟩
    try simp only [decide_eq_false hz, Int.reduceLT, Int.reduceLE, Int.reduceNeg, go_sem, Nat.reduceBEq, Nat.reduceAdd, Nat.reduceLeDiff, Nat.reduceEqDiff, Int.reduceEq, not_false_eq_true, Int.reduceToNat]
    (refine (iInRange (a.tmod b) _ _ _).mono ?_; rintro _ _ ⟨rfl, rfl⟩; simp only [go_sem, Nat.reduceBEq])
    by_cases hn : inR (a.tmod b)
    case neg =>
      have e : arith 5 a b = (0, 3) := by simp [arith, clamp, ha, hb, hn, hz]
      simp only [show decide (-1000000000 ≤ a.tmod b ∧ a.tmod b ≤ 1000000000) = false from decide_eq_false hn, Bool.not_false, go_sem, Nat.reduceBEq]
      exact ⟨by rw [e], Ext.refl _⟩
    have e : arith 5 a b = (a.tmod b, 0) := by simp [arith, clamp, ha, hb, hn, hz]
    simp only [show decide (-1000000000 ≤ a.tmod b ∧ a.tmod b ≤ 1000000000) = true from decide_eq_true hn, Bool.not_true, go_sem, Nat.reduceBEq]
    exact ⟨by rw [e], Ext.refl _⟩
theorem sArith (op a b : Int) (h : Hp) : ACalls Tryz.prog 24 #[.int .i64 op, .int .i64 a, .int .i64 b] h (Is (.tuple #[.int .i64 (arith op a b).1, .int .i64 (arith op a b).2]) h) := by
  (refine enter Tryz.func24 rfl rfl (by kernel_rfl) [] ?_; simp only [go_sem, Nat.reduceBEq])
  by_cases ho : 1 ≤ op ∧ op ≤ 5
  case neg =>
    have e : arith op a b = (0, 2) := by unfold arith; rw [if_pos ho]
    (refine (l1In_c op _ _ _).mono ?_; rintro _ _ ⟨rfl, rfl⟩; simp only [go_sem, Nat.reduceBEq])
    simp only [decide_eq_false ho, Bool.not_false, go_sem, Nat.reduceBEq]
    exact ⟨by rw [e], Ext.refl _⟩
  obtain rfl | rfl | rfl | rfl | rfl : op = 1 ∨ op = 2 ∨ op = 3 ∨ op = 4 ∨ op = 5 := by omega
  · try simp only [Int.reduceLT, Int.reduceLE, Int.reduceNeg, go_sem, Nat.reduceBEq, Nat.reduceAdd, Nat.reduceLeDiff, Nat.reduceEqDiff, Int.reduceEq, not_false_eq_true, Int.reduceToNat]
    (refine (l1In_c 1 _ _ _).mono ?_; rintro _ _ ⟨rfl, rfl⟩; simp only [go_sem, Nat.reduceBEq])
    try simp only [decide_eq_true (show (1 : Int) ≤ 1 ∧ (1 : Int) ≤ 5 by decide), Bool.not_true, go_sem, Nat.reduceBEq]
    (refine (l1In_c a _ _ _).mono ?_; rintro _ _ ⟨rfl, rfl⟩; simp only [go_sem, Nat.reduceBEq])
    by_cases ha : inR a
    case neg =>
      have e : arith 1 a b = (0, 3) := by simp [arith, ha]
      simp only [show decide (-1000000000 ≤ a ∧ a ≤ 1000000000) = false from decide_eq_false ha, Bool.not_false, go_sem, Nat.reduceBEq]
      exact ⟨by rw [e], Ext.refl _⟩
    simp only [show decide (-1000000000 ≤ a ∧ a ≤ 1000000000) = true from decide_eq_true ha, Bool.not_true, go_sem, Nat.reduceBEq]
    (refine (l1In_c b _ _ _).mono ?_; rintro _ _ ⟨rfl, rfl⟩; simp only [go_sem, Nat.reduceBEq])
    by_cases hb : inR b
    case neg =>
      have e : arith 1 a b = (0, 3) := by simp [arith, hb]
      simp only [show decide (-1000000000 ≤ b ∧ b ≤ 1000000000) = false from decide_eq_false hb, Bool.not_false, go_sem, Nat.reduceBEq]
      exact ⟨by rw [e], Ext.refl _⟩
    simp only [show decide (-1000000000 ≤ b ∧ b ≤ 1000000000) = true from decide_eq_true hb, Bool.not_true, go_sem, Nat.reduceBEq]
    have hw : IntKind.i64.wrap (a + b) = a + b := IntWalk.i64_in _ (by have := ha.1; have := ha.2; have := hb.1; have := hb.2; omega)
    by_cases hz : b = 0
    · simp only [hw, Int.reduceLE, Int.reduceNeg, go_sem, Nat.reduceBEq]
      (refine (l1In_c (a + b) _ _ _).mono ?_; rintro _ _ ⟨rfl, rfl⟩; simp only [go_sem, Nat.reduceBEq])
      by_cases hn : inR (a + b)
      case neg =>
        have e : arith 1 a b = (0, 3) := by simp [arith, clamp, ha, hb, hn]
        simp only [show decide (-1000000000 ≤ a + b ∧ a + b ≤ 1000000000) = false from decide_eq_false hn, Bool.not_false, go_sem, Nat.reduceBEq]
        exact ⟨by rw [e], Ext.refl _⟩
      have e : arith 1 a b = (a + b, 0) := by simp [arith, clamp, ha, hb, hn]
      simp only [show decide (-1000000000 ≤ a + b ∧ a + b ≤ 1000000000) = true from decide_eq_true hn, Bool.not_true, go_sem, Nat.reduceBEq]
      exact ⟨by rw [e], Ext.refl _⟩
    · simp only [hw, Int.reduceLE, Int.reduceNeg, go_sem, Nat.reduceBEq]
      (refine (l1In_c (a + b) _ _ _).mono ?_; rintro _ _ ⟨rfl, rfl⟩; simp only [go_sem, Nat.reduceBEq])
      by_cases hn : inR (a + b)
      case neg =>
        have e : arith 1 a b = (0, 3) := by simp [arith, clamp, ha, hb, hn]
        simp only [show decide (-1000000000 ≤ a + b ∧ a + b ≤ 1000000000) = false from decide_eq_false hn, Bool.not_false, go_sem, Nat.reduceBEq]
        exact ⟨by rw [e], Ext.refl _⟩
      have e : arith 1 a b = (a + b, 0) := by simp [arith, clamp, ha, hb, hn]
      simp only [show decide (-1000000000 ≤ a + b ∧ a + b ≤ 1000000000) = true from decide_eq_true hn, Bool.not_true, go_sem, Nat.reduceBEq]
      exact ⟨by rw [e], Ext.refl _⟩
  · try simp only [Int.reduceLT, Int.reduceLE, Int.reduceNeg, go_sem, Nat.reduceBEq, Nat.reduceAdd, Nat.reduceLeDiff, Nat.reduceEqDiff, Int.reduceEq, not_false_eq_true, Int.reduceToNat]
    (refine (l1In_c 2 _ _ _).mono ?_; rintro _ _ ⟨rfl, rfl⟩; simp only [go_sem, Nat.reduceBEq])
    try simp only [decide_eq_true (show (1 : Int) ≤ 2 ∧ (2 : Int) ≤ 5 by decide), Bool.not_true, go_sem, Nat.reduceBEq]
    (refine (l1In_c a _ _ _).mono ?_; rintro _ _ ⟨rfl, rfl⟩; simp only [go_sem, Nat.reduceBEq])
    by_cases ha : inR a
    case neg =>
      have e : arith 2 a b = (0, 3) := by simp [arith, ha]
      simp only [show decide (-1000000000 ≤ a ∧ a ≤ 1000000000) = false from decide_eq_false ha, Bool.not_false, go_sem, Nat.reduceBEq]
      exact ⟨by rw [e], Ext.refl _⟩
    simp only [show decide (-1000000000 ≤ a ∧ a ≤ 1000000000) = true from decide_eq_true ha, Bool.not_true, go_sem, Nat.reduceBEq]
    (refine (l1In_c b _ _ _).mono ?_; rintro _ _ ⟨rfl, rfl⟩; simp only [go_sem, Nat.reduceBEq])
    by_cases hb : inR b
    case neg =>
      have e : arith 2 a b = (0, 3) := by simp [arith, hb]
      simp only [show decide (-1000000000 ≤ b ∧ b ≤ 1000000000) = false from decide_eq_false hb, Bool.not_false, go_sem, Nat.reduceBEq]
      exact ⟨by rw [e], Ext.refl _⟩
    simp only [show decide (-1000000000 ≤ b ∧ b ≤ 1000000000) = true from decide_eq_true hb, Bool.not_true, go_sem, Nat.reduceBEq]
    have hw : IntKind.i64.wrap (a - b) = a - b := IntWalk.i64_in _ (by have := ha.1; have := ha.2; have := hb.1; have := hb.2; omega)
    by_cases hz : b = 0
    · simp only [hw, Int.reduceLE, Int.reduceNeg, go_sem, Nat.reduceBEq, Int.reduceEq]
      (refine (l1In_c (a - b) _ _ _).mono ?_; rintro _ _ ⟨rfl, rfl⟩; simp only [go_sem, Nat.reduceBEq])
      by_cases hn : inR (a - b)
      case neg =>
        have e : arith 2 a b = (0, 3) := by simp [arith, clamp, ha, hb, hn]
        simp only [show decide (-1000000000 ≤ a - b ∧ a - b ≤ 1000000000) = false from decide_eq_false hn, Bool.not_false, go_sem, Nat.reduceBEq]
        exact ⟨by rw [e], Ext.refl _⟩
      have e : arith 2 a b = (a - b, 0) := by simp [arith, clamp, ha, hb, hn]
      simp only [show decide (-1000000000 ≤ a - b ∧ a - b ≤ 1000000000) = true from decide_eq_true hn, Bool.not_true, go_sem, Nat.reduceBEq]
      exact ⟨by rw [e], Ext.refl _⟩
    · simp only [hw, Int.reduceLE, Int.reduceNeg, go_sem, Nat.reduceBEq, Int.reduceEq]
      (refine (l1In_c (a - b) _ _ _).mono ?_; rintro _ _ ⟨rfl, rfl⟩; simp only [go_sem, Nat.reduceBEq])
      by_cases hn : inR (a - b)
      case neg =>
        have e : arith 2 a b = (0, 3) := by simp [arith, clamp, ha, hb, hn]
        simp only [show decide (-1000000000 ≤ a - b ∧ a - b ≤ 1000000000) = false from decide_eq_false hn, Bool.not_false, go_sem, Nat.reduceBEq]
        exact ⟨by rw [e], Ext.refl _⟩
      have e : arith 2 a b = (a - b, 0) := by simp [arith, clamp, ha, hb, hn]
      simp only [show decide (-1000000000 ≤ a - b ∧ a - b ≤ 1000000000) = true from decide_eq_true hn, Bool.not_true, go_sem, Nat.reduceBEq]
      exact ⟨by rw [e], Ext.refl _⟩
  · try simp only [Int.reduceLT, Int.reduceLE, Int.reduceNeg, go_sem, Nat.reduceBEq, Nat.reduceAdd, Nat.reduceLeDiff, Nat.reduceEqDiff, Int.reduceEq, not_false_eq_true, Int.reduceToNat]
    (refine (l1In_c 3 _ _ _).mono ?_; rintro _ _ ⟨rfl, rfl⟩; simp only [go_sem, Nat.reduceBEq])
    try simp only [decide_eq_true (show (1 : Int) ≤ 3 ∧ (3 : Int) ≤ 5 by decide), Bool.not_true, go_sem, Nat.reduceBEq]
    (refine (l1In_c a _ _ _).mono ?_; rintro _ _ ⟨rfl, rfl⟩; simp only [go_sem, Nat.reduceBEq])
    by_cases ha : inR a
    case neg =>
      have e : arith 3 a b = (0, 3) := by simp [arith, ha]
      simp only [show decide (-1000000000 ≤ a ∧ a ≤ 1000000000) = false from decide_eq_false ha, Bool.not_false, go_sem, Nat.reduceBEq]
      exact ⟨by rw [e], Ext.refl _⟩
    simp only [show decide (-1000000000 ≤ a ∧ a ≤ 1000000000) = true from decide_eq_true ha, Bool.not_true, go_sem, Nat.reduceBEq]
    (refine (l1In_c b _ _ _).mono ?_; rintro _ _ ⟨rfl, rfl⟩; simp only [go_sem, Nat.reduceBEq])
    by_cases hb : inR b
    case neg =>
      have e : arith 3 a b = (0, 3) := by simp [arith, hb]
      simp only [show decide (-1000000000 ≤ b ∧ b ≤ 1000000000) = false from decide_eq_false hb, Bool.not_false, go_sem, Nat.reduceBEq]
      exact ⟨by rw [e], Ext.refl _⟩
    simp only [show decide (-1000000000 ≤ b ∧ b ≤ 1000000000) = true from decide_eq_true hb, Bool.not_true, go_sem, Nat.reduceBEq]
    have hw : IntKind.i64.wrap (a * b) = a * b := mul_in ha hb
    by_cases hz : b = 0
    · simp only [hw, Int.reduceLE, Int.reduceNeg, go_sem, Nat.reduceBEq, Int.reduceEq]
      (refine (l1In_c (a * b) _ _ _).mono ?_; rintro _ _ ⟨rfl, rfl⟩; simp only [go_sem, Nat.reduceBEq])
      by_cases hn : inR (a * b)
      case neg =>
        have e : arith 3 a b = (0, 3) := by simp [arith, clamp, ha, hb, hn]
        simp only [show decide (-1000000000 ≤ a * b ∧ a * b ≤ 1000000000) = false from decide_eq_false hn, Bool.not_false, go_sem, Nat.reduceBEq]
        exact ⟨by rw [e], Ext.refl _⟩
      have e : arith 3 a b = (a * b, 0) := by simp [arith, clamp, ha, hb, hn]
      simp only [show decide (-1000000000 ≤ a * b ∧ a * b ≤ 1000000000) = true from decide_eq_true hn, Bool.not_true, go_sem, Nat.reduceBEq]
      exact ⟨by rw [e], Ext.refl _⟩
    · simp only [hw, Int.reduceLE, Int.reduceNeg, go_sem, Nat.reduceBEq, Int.reduceEq]
      (refine (l1In_c (a * b) _ _ _).mono ?_; rintro _ _ ⟨rfl, rfl⟩; simp only [go_sem, Nat.reduceBEq])
      by_cases hn : inR (a * b)
      case neg =>
        have e : arith 3 a b = (0, 3) := by simp [arith, clamp, ha, hb, hn]
        simp only [show decide (-1000000000 ≤ a * b ∧ a * b ≤ 1000000000) = false from decide_eq_false hn, Bool.not_false, go_sem, Nat.reduceBEq]
        exact ⟨by rw [e], Ext.refl _⟩
      have e : arith 3 a b = (a * b, 0) := by simp [arith, clamp, ha, hb, hn]
      simp only [show decide (-1000000000 ≤ a * b ∧ a * b ≤ 1000000000) = true from decide_eq_true hn, Bool.not_true, go_sem, Nat.reduceBEq]
      exact ⟨by rw [e], Ext.refl _⟩
  · try simp only [Int.reduceLT, Int.reduceLE, Int.reduceNeg, go_sem, Nat.reduceBEq, Nat.reduceAdd, Nat.reduceLeDiff, Nat.reduceEqDiff, Int.reduceEq, not_false_eq_true, Int.reduceToNat]
    (refine (l1In_c 4 _ _ _).mono ?_; rintro _ _ ⟨rfl, rfl⟩; simp only [go_sem, Nat.reduceBEq])
    try simp only [decide_eq_true (show (1 : Int) ≤ 4 ∧ (4 : Int) ≤ 5 by decide), Bool.not_true, go_sem, Nat.reduceBEq]
    (refine (l1In_c a _ _ _).mono ?_; rintro _ _ ⟨rfl, rfl⟩; simp only [go_sem, Nat.reduceBEq])
    by_cases ha : inR a
    case neg =>
      have e : arith 4 a b = (0, 3) := by simp [arith, ha]
      simp only [show decide (-1000000000 ≤ a ∧ a ≤ 1000000000) = false from decide_eq_false ha, Bool.not_false, go_sem, Nat.reduceBEq]
      exact ⟨by rw [e], Ext.refl _⟩
    simp only [show decide (-1000000000 ≤ a ∧ a ≤ 1000000000) = true from decide_eq_true ha, Bool.not_true, go_sem, Nat.reduceBEq]
    (refine (l1In_c b _ _ _).mono ?_; rintro _ _ ⟨rfl, rfl⟩; simp only [go_sem, Nat.reduceBEq])
    by_cases hb : inR b
    case neg =>
      have e : arith 4 a b = (0, 3) := by simp [arith, hb]
      simp only [show decide (-1000000000 ≤ b ∧ b ≤ 1000000000) = false from decide_eq_false hb, Bool.not_false, go_sem, Nat.reduceBEq]
      exact ⟨by rw [e], Ext.refl _⟩
    simp only [show decide (-1000000000 ≤ b ∧ b ≤ 1000000000) = true from decide_eq_true hb, Bool.not_true, go_sem, Nat.reduceBEq]
    have hw : IntKind.i64.wrap (a.tdiv b) = a.tdiv b := div_in ha
    by_cases hz : b = 0
    case pos =>
      have e : arith 4 a b = (0, 4) := by subst hz; simp [arith, ha, hb]
      try simp only [decide_eq_true hz, Int.reduceLE, Int.reduceNeg, go_sem, Nat.reduceBEq]
      exact ⟨by rw [e], Ext.refl _⟩
    try simp only [decide_eq_false hz, hw, Int.reduceLE, Int.reduceNeg, go_sem, Nat.reduceBEq, Int.reduceEq]
    try refine ⟨hz, ?_⟩
    try simp only [decide_eq_false hz, hw, Int.reduceLT, Int.reduceLE, Int.reduceNeg, go_sem, Nat.reduceBEq, Nat.reduceAdd, Nat.reduceLeDiff, Nat.reduceEqDiff, Int.reduceEq, not_false_eq_true, Int.reduceToNat]
    (refine (l1In_c (a.tdiv b) _ _ _).mono ?_; rintro _ _ ⟨rfl, rfl⟩; simp only [go_sem, Nat.reduceBEq])
    by_cases hn : inR (a.tdiv b)
    case neg =>
      have e : arith 4 a b = (0, 3) := by simp [arith, clamp, ha, hb, hn, hz]
      simp only [show decide (-1000000000 ≤ a.tdiv b ∧ a.tdiv b ≤ 1000000000) = false from decide_eq_false hn, Bool.not_false, go_sem, Nat.reduceBEq]
      exact ⟨by rw [e], Ext.refl _⟩
    have e : arith 4 a b = (a.tdiv b, 0) := by simp [arith, clamp, ha, hb, hn, hz]
    simp only [show decide (-1000000000 ≤ a.tdiv b ∧ a.tdiv b ≤ 1000000000) = true from decide_eq_true hn, Bool.not_true, go_sem, Nat.reduceBEq]
    exact ⟨by rw [e], Ext.refl _⟩
  · try simp only [Int.reduceLT, Int.reduceLE, Int.reduceNeg, go_sem, Nat.reduceBEq, Nat.reduceAdd, Nat.reduceLeDiff, Nat.reduceEqDiff, Int.reduceEq, not_false_eq_true, Int.reduceToNat]
    (refine (l1In_c 5 _ _ _).mono ?_; rintro _ _ ⟨rfl, rfl⟩; simp only [go_sem, Nat.reduceBEq])
    try simp only [decide_eq_true (show (1 : Int) ≤ 5 ∧ (5 : Int) ≤ 5 by decide), Bool.not_true, go_sem, Nat.reduceBEq]
    (refine (l1In_c a _ _ _).mono ?_; rintro _ _ ⟨rfl, rfl⟩; simp only [go_sem, Nat.reduceBEq])
    by_cases ha : inR a
    case neg =>
      have e : arith 5 a b = (0, 3) := by simp [arith, ha]
      simp only [show decide (-1000000000 ≤ a ∧ a ≤ 1000000000) = false from decide_eq_false ha, Bool.not_false, go_sem, Nat.reduceBEq]
      exact ⟨by rw [e], Ext.refl _⟩
    simp only [show decide (-1000000000 ≤ a ∧ a ≤ 1000000000) = true from decide_eq_true ha, Bool.not_true, go_sem, Nat.reduceBEq]
    (refine (l1In_c b _ _ _).mono ?_; rintro _ _ ⟨rfl, rfl⟩; simp only [go_sem, Nat.reduceBEq])
    by_cases hb : inR b
    case neg =>
      have e : arith 5 a b = (0, 3) := by simp [arith, hb]
      simp only [show decide (-1000000000 ≤ b ∧ b ≤ 1000000000) = false from decide_eq_false hb, Bool.not_false, go_sem, Nat.reduceBEq]
      exact ⟨by rw [e], Ext.refl _⟩
    simp only [show decide (-1000000000 ≤ b ∧ b ≤ 1000000000) = true from decide_eq_true hb, Bool.not_true, go_sem, Nat.reduceBEq]
    by_cases hz : b = 0
    case pos =>
      have e : arith 5 a b = (0, 4) := by subst hz; simp [arith, ha, hb]
      try simp only [decide_eq_true hz, Int.reduceLE, Int.reduceNeg, go_sem, Nat.reduceBEq]
      exact ⟨by rw [e], Ext.refl _⟩
    try simp only [decide_eq_false hz, Int.reduceLE, Int.reduceNeg, go_sem, Nat.reduceBEq, Int.reduceEq]
    try refine ⟨hz, ?_⟩
    try simp only [decide_eq_false hz, Int.reduceLT, Int.reduceLE, Int.reduceNeg, go_sem, Nat.reduceBEq, Nat.reduceAdd, Nat.reduceLeDiff, Nat.reduceEqDiff, Int.reduceEq, not_false_eq_true, Int.reduceToNat]
    (refine (l1In_c (a.tmod b) _ _ _).mono ?_; rintro _ _ ⟨rfl, rfl⟩; simp only [go_sem, Nat.reduceBEq])
    by_cases hn : inR (a.tmod b)
    case neg =>
      have e : arith 5 a b = (0, 3) := by simp [arith, clamp, ha, hb, hn, hz]
      simp only [show decide (-1000000000 ≤ a.tmod b ∧ a.tmod b ≤ 1000000000) = false from decide_eq_false hn, Bool.not_false, go_sem, Nat.reduceBEq]
      exact ⟨by rw [e], Ext.refl _⟩
    have e : arith 5 a b = (a.tmod b, 0) := by simp [arith, clamp, ha, hb, hn, hz]
    simp only [show decide (-1000000000 ≤ a.tmod b ∧ a.tmod b ≤ 1000000000) = true from decide_eq_true hn, Bool.not_true, go_sem, Nat.reduceBEq]
    exact ⟨by rw [e], Ext.refl _⟩
end Go.Proofs.YtpfongmnmcmnaaaGreatDoor
namespace Go.Proofs.YtpfongmnmcmnaaaGreatDoor
set_option maxRecDepth 8000
open Go Go.Sx
def boolV (b : Bool) : V := ⟨1, if b then 1 else 0, ⟨#[]⟩, 0, []⟩
def intV (n : Int) : V := ⟨2, n, ⟨#[]⟩, 0, []⟩
def textV (s : ByteArray) : V := ⟨3, 0, s, 0, []⟩
theorem made_flat {h h' : Hp} (k n : Int) (s : ByteArray) (c : Int) (e : Ext h h') : MadeI h ⟨k, n, s, 0, []⟩ c (.tuple #[.agg #[.int .i64 k, .int .i64 n, .string s, .int .i64 0, .slice none 0 0], .int .i64 c]) h' := ⟨none, 0, rfl, (My.nil e).nilrow⟩
theorem rd_flat (h : Hp) : RdE h [] (.slice none 0 0) := ((My.nil (Ext.refl h)).nilrow (z := 8)).rd
def numOf (op : Int) (a b : V) : V × Int := if ¬ (toNum a).2 = 0 ∨ ¬ (toNum b).2 = 0 then (V.null, 2) else if (arith op (toNum a).1 (toNum b).1).2 = 0 then (intV (arith op (toNum a).1 (toNum b).1).1, 0) else (V.null, (arith op (toNum a).1 (toNum b).1).2)
def catOf (a b : V) : V × Int := if ¬ (V.toText a).2 = 0 ∨ ¬ (V.toText b).2 = 0 then (V.null, 1) else if (V.toText a).1.size + (V.toText b).1.size ≤ 400 then (textV ((V.toText a).1 ++ (V.toText b).1), 0) else (V.null, 9)
def binOf (op : Int) (a b : V) : V × Int :=
  if op = 1 ∧ a.kind = 4 ∧ b.kind = 4 then unionOf a b else if op = 6 then catOf a b else if op = 9 then (boolV (V.same a b), 0) else if op = 10 then (boolV (!V.same a b), 0)
  else if op = 15 then (intV (V.cmp a b), 0) else if 7 ≤ op ∧ op ≤ 14 then (boolV (rel op (V.cmp a b)), 0) else numOf op a b
def unOf (op : Int) (a : V) : V × Int := if op = 1 then (boolV (!toBool a), 0) else if op = 2 then binOf 2 (intV 0) a else (V.null, 2)
theorem text_size {v : V} (hn : IntKind.i64.min ≤ v.num ∧ v.num ≤ IntKind.i64.max) : (V.toText v).1.size ≤ v.str.size + 30 := by
  unfold V.toText
  split
  · exact Nat.zero_le _
  · split
    · split
      · exact Nat.zero_le _
      · show (1 : Nat) ≤ _
        omega
    · split
      · rw [i64max, show IntKind.i64.min = -9223372036854775808 by decide] at hn
        have := Lib.itoa_length_le v.num hn.1 hn.2
        show (Lib.itoa v.num).toArray.size ≤ _
        rw [List.size_toArray]
        omega
      · split
        · simp only; omega
        · exact Nat.zero_le _
theorem bin_bulk (op : Int) (a b : V) : V.bulks (binOf op a b).1.items ≤ V.bulks a.items + V.bulks b.items := by
  unfold binOf
  split
  · exact union_bulk a b
  · repeat' split
    all_goals first | exact Nat.zero_le _ | (unfold catOf; repeat' split) | (unfold numOf; repeat' split)
    all_goals exact Nat.zero_le _
theorem un_bulk (op : Int) (a : V) : V.bulks (unOf op a).1.items ≤ V.bulks a.items := by
  unfold unOf
  split
  · exact Nat.zero_le _
  · split
    · have := bin_bulk 2 (intV 0) a
      have h0 : V.bulks (intV 0).items = 0 := rfl
      omega
    · exact Nat.zero_le _
theorem iBoolV (b : Bool) (h : Hp) : ACalls Tryz.prog 30 #[.bool b] h (Pu (.agg #[.int .i64 1, .int .i64 (if b then 1 else 0), .string ⟨#[]⟩, .int .i64 0, .slice none 0 0]) h) := by
  cases b with
  | false =>
    (refine enter Tryz.func30 rfl rfl (by kernel_rfl) [] ?_; simp only [go_sem, Nat.reduceBEq, Nat.reduceAdd, Nat.reduceLeDiff])
    exact ⟨rfl, rfl⟩
  | true =>
    (refine enter Tryz.func30 rfl rfl (by kernel_rfl) [] ?_; simp only [go_sem, Nat.reduceBEq, Nat.reduceAdd, Nat.reduceLeDiff])
    exact ⟨rfl, rfl⟩
theorem iIntV (n : Int) (h : Hp) : ACalls Tryz.prog 34 #[.int .i64 n] h (Pu (.agg #[.int .i64 2, .int .i64 n, .string ⟨#[]⟩, .int .i64 0, .slice none 0 0]) h) := by
  (refine enter Tryz.func34 rfl rfl (by kernel_rfl) [] ?_; simp only [go_sem, Nat.reduceBEq, Nat.reduceAdd, Nat.reduceLeDiff])
  exact ⟨rfl, rfl⟩
theorem iTextV (s : ByteArray) (h : Hp) : ACalls Tryz.prog 29 #[.string s] h (Pu (.agg #[.int .i64 3, .int .i64 0, .string s, .int .i64 0, .slice none 0 0]) h) := by
  (refine enter Tryz.func29 rfl rfl (by kernel_rfl) [] ?_; simp only [go_sem, Nat.reduceBEq, Nat.reduceAdd, Nat.reduceLeDiff])
  exact ⟨rfl, rfl⟩
theorem sBoolV (b : Bool) (h : Hp) : ACalls Tryz.prog 17 #[.bool b] h (Pu (.agg #[.int .i64 1, .int .i64 (if b then 1 else 0), .string ⟨#[]⟩, .int .i64 0, .slice none 0 0]) h) := by
  cases b with
  | false =>
    (refine enter Tryz.func17 rfl rfl (by kernel_rfl) [] ?_; simp only [go_sem, Nat.reduceBEq, Nat.reduceAdd, Nat.reduceLeDiff])
    exact ⟨rfl, rfl⟩
  | true =>
    (refine enter Tryz.func17 rfl rfl (by kernel_rfl) [] ?_; simp only [go_sem, Nat.reduceBEq, Nat.reduceAdd, Nat.reduceLeDiff])
    exact ⟨rfl, rfl⟩
theorem sIntV (n : Int) (h : Hp) : ACalls Tryz.prog 19 #[.int .i64 n] h (Pu (.agg #[.int .i64 2, .int .i64 n, .string ⟨#[]⟩, .int .i64 0, .slice none 0 0]) h) := by
  (refine enter Tryz.func19 rfl rfl (by kernel_rfl) [] ?_; simp only [go_sem, Nat.reduceBEq, Nat.reduceAdd, Nat.reduceLeDiff])
  exact ⟨rfl, rfl⟩
theorem sTextV (s : ByteArray) (h : Hp) : ACalls Tryz.prog 48 #[.string s] h (Pu (.agg #[.int .i64 3, .int .i64 0, .string s, .int .i64 0, .slice none 0 0]) h) := by
  (refine enter Tryz.func48 rfl rfl (by kernel_rfl) [] ?_; simp only [go_sem, Nat.reduceBEq, Nat.reduceAdd, Nat.reduceLeDiff])
  exact ⟨rfl, rfl⟩
theorem iBin_1 (op : Int) (_hop : IntKind.i64.min ≤ op ∧ op ≤ IntKind.i64.max) (a b : V) (oka : a.ok) (okb : b.ok) (ha : a.bulk ≤ 274877906944) (hb : b.bulk ≤ 274877906944) (sa sb : Value) (h : Hp) (ra : RdE h a.items sa) (rb : RdE h b.items sb) (hE : Env h) (hc : op = 1) :
    ACalls Tryz.prog 8 #[.int .i64 op, .agg #[.int .i64 a.kind, .int .i64 a.num, .string a.str, .int .i64 a.next, sa], .agg #[.int .i64 b.kind, .int .i64 b.num, .string b.str, .int .i64 b.next, sb]] h (MadeI h (binOf op a b).1 (binOf op a b).2) := by
  have hBa := V.bulk_eq a
  have hBb := V.bulk_eq b
  have hna := V.ok_num oka
  have hnb := V.ok_num okb
  have hsa : a.str.size ≤ 1152921504606846976 := by omega
  have hsb : b.str.size ≤ 1152921504606846976 := by omega
  have o1 : decide (op = 1) = true := decide_eq_true hc
  have o6 : decide (op = 6) = false := decide_eq_false (by omega)
  have o7 : decide (op = 7) = false := decide_eq_false (by omega)
  have o8 : decide (op = 8) = false := decide_eq_false (by omega)
  have o9 : decide (op = 9) = false := decide_eq_false (by omega)
  have o10 : decide (op = 10) = false := decide_eq_false (by omega)
  have o11 : decide (op = 11) = false := decide_eq_false (by omega)
  have o12 : decide (op = 12) = false := decide_eq_false (by omega)
  have o13 : decide (op = 13) = false := decide_eq_false (by omega)
  have o14 : decide (op = 14) = false := decide_eq_false (by omega)
  have o15 : decide (op = 15) = false := decide_eq_false (by omega)
  (refine enter Tryz.func8 rfl rfl (by kernel_rfl) [] ?_; simp only [go_sem, Nat.reduceBEq])
  by_cases ka : a.kind = 4
  case neg =>
    have e0 : binOf op a b = numOf op a b := by unfold binOf; rw [if_neg (by omega)]; rw [if_neg (by omega)]; rw [if_neg (by omega)]; rw [if_neg (by omega)]; rw [if_neg (by omega)]; rw [if_neg (by omega)]
    rw [e0]
    have dka := decide_eq_false ka
    simp only [o1, dka, go_sem, Nat.reduceBEq, Nat.reduceAdd, Nat.reduceLeDiff]
    refine (iToNumber a hsa _ _ ra).mono ?_
    rintro _ _ ⟨rfl, rfl⟩
    simp only [go_sem, Nat.reduceBEq, Nat.reduceAdd, Nat.reduceLeDiff]
    refine (iToNumber b hsb _ _ rb).mono ?_
    rintro _ _ ⟨rfl, rfl⟩
    unfold numOf
    by_cases h1 : (toNum a).2 = 0
    case neg =>
      have d1 := decide_eq_false h1
      simp only [d1, go_sem, Nat.reduceBEq]
      rw [if_pos (.inl h1)]
      (refine (iNull _).mono ?_; rintro _ _ ⟨rfl, rfl⟩; simp only [go_sem, Nat.reduceBEq, Nat.reduceAdd, Nat.reduceLeDiff])
      exact made_flat 0 0 ⟨#[]⟩ 2 (Ext.refl _)
    by_cases h2 : (toNum b).2 = 0
    case neg =>
      have d1 := decide_eq_true h1
      have d2 := decide_eq_false h2
      simp only [d1, d2, go_sem, Nat.reduceBEq]
      rw [if_pos (.inr h2)]
      (refine (iNull _).mono ?_; rintro _ _ ⟨rfl, rfl⟩; simp only [go_sem, Nat.reduceBEq, Nat.reduceAdd, Nat.reduceLeDiff])
      exact made_flat 0 0 ⟨#[]⟩ 2 (Ext.refl _)
    have d1 := decide_eq_true h1
    have d2 := decide_eq_true h2
    simp only [d1, d2, go_sem, Nat.reduceBEq]
    rw [if_neg (fun k => k.elim (fun k => k h1) (fun k => k h2))]
    refine (iArith _ _ _ _).mono ?_
    rintro _ h3 ⟨rfl, e3⟩
    by_cases hc : (arith op (toNum a).1 (toNum b).1).2 = 0
    case neg =>
      have dc := decide_eq_false hc
      simp only [dc, go_sem, Nat.reduceBEq]
      rw [if_neg hc]
      (refine (iNull _).mono ?_; rintro _ _ ⟨rfl, rfl⟩; simp only [go_sem, Nat.reduceBEq, Nat.reduceAdd, Nat.reduceLeDiff])
      exact made_flat 0 0 ⟨#[]⟩ _ e3
    have dc := decide_eq_true hc
    simp only [dc, go_sem, Nat.reduceBEq]
    rw [if_pos hc]
    (refine (iIntV _ _).mono ?_; rintro _ _ ⟨rfl, rfl⟩; simp only [go_sem, Nat.reduceBEq, Nat.reduceAdd, Nat.reduceLeDiff])
    exact made_flat 2 _ ⟨#[]⟩ 0 e3
  by_cases kb : b.kind = 4
  case neg =>
    have e0 : binOf op a b = numOf op a b := by unfold binOf; rw [if_neg (by omega)]; rw [if_neg (by omega)]; rw [if_neg (by omega)]; rw [if_neg (by omega)]; rw [if_neg (by omega)]; rw [if_neg (by omega)]
    rw [e0]
    have dka := decide_eq_true ka
    have dkb := decide_eq_false kb
    simp only [o1, dka, dkb, go_sem, Nat.reduceBEq, Nat.reduceAdd, Nat.reduceLeDiff]
    refine (iToNumber a hsa _ _ ra).mono ?_
    rintro _ _ ⟨rfl, rfl⟩
    simp only [go_sem, Nat.reduceBEq, Nat.reduceAdd, Nat.reduceLeDiff]
    refine (iToNumber b hsb _ _ rb).mono ?_
    rintro _ _ ⟨rfl, rfl⟩
    unfold numOf
    by_cases h1 : (toNum a).2 = 0
    case neg =>
      have d1 := decide_eq_false h1
      simp only [d1, go_sem, Nat.reduceBEq]
      rw [if_pos (.inl h1)]
      (refine (iNull _).mono ?_; rintro _ _ ⟨rfl, rfl⟩; simp only [go_sem, Nat.reduceBEq, Nat.reduceAdd, Nat.reduceLeDiff])
      exact made_flat 0 0 ⟨#[]⟩ 2 (Ext.refl _)
    by_cases h2 : (toNum b).2 = 0
    case neg =>
      have d1 := decide_eq_true h1
      have d2 := decide_eq_false h2
      simp only [d1, d2, go_sem, Nat.reduceBEq]
      rw [if_pos (.inr h2)]
      (refine (iNull _).mono ?_; rintro _ _ ⟨rfl, rfl⟩; simp only [go_sem, Nat.reduceBEq, Nat.reduceAdd, Nat.reduceLeDiff])
      exact made_flat 0 0 ⟨#[]⟩ 2 (Ext.refl _)
    have d1 := decide_eq_true h1
    have d2 := decide_eq_true h2
    simp only [d1, d2, go_sem, Nat.reduceBEq]
    rw [if_neg (fun k => k.elim (fun k => k h1) (fun k => k h2))]
    refine (iArith _ _ _ _).mono ?_
    rintro _ h3 ⟨rfl, e3⟩
    by_cases hc : (arith op (toNum a).1 (toNum b).1).2 = 0
    case neg =>
      have dc := decide_eq_false hc
      simp only [dc, go_sem, Nat.reduceBEq]
      rw [if_neg hc]
      (refine (iNull _).mono ?_; rintro _ _ ⟨rfl, rfl⟩; simp only [go_sem, Nat.reduceBEq, Nat.reduceAdd, Nat.reduceLeDiff])
      exact made_flat 0 0 ⟨#[]⟩ _ e3
    have dc := decide_eq_true hc
    simp only [dc, go_sem, Nat.reduceBEq]
    rw [if_pos hc]
    (refine (iIntV _ _).mono ?_; rintro _ _ ⟨rfl, rfl⟩; simp only [go_sem, Nat.reduceBEq, Nat.reduceAdd, Nat.reduceLeDiff])
    exact made_flat 2 _ ⟨#[]⟩ 0 e3
  have dka := decide_eq_true ka
  have dkb := decide_eq_true kb
  have e0 : binOf op a b = unionOf a b := by unfold binOf; rw [if_pos (by omega)]
  rw [e0]
  simp only [o1, dka, dkb, go_sem, Nat.reduceBEq, Nat.reduceAdd, Nat.reduceLeDiff]
  refine (iUnion a b ha hb _ _ _ ra rb hE).mono ?_
  rintro _ h1 ⟨a1, c1, rfl, m1⟩
  simp only [go_sem, Nat.reduceBEq, Nat.reduceAdd, Nat.reduceLeDiff]
  exact ⟨_, _, rfl, m1⟩
theorem iBin_6 (op : Int) (_hop : IntKind.i64.min ≤ op ∧ op ≤ IntKind.i64.max) (a b : V) (oka : a.ok) (okb : b.ok) (ha : a.bulk ≤ 274877906944) (hb : b.bulk ≤ 274877906944) (sa sb : Value) (h : Hp) (ra : RdE h a.items sa) (rb : RdE h b.items sb) (hE : Env h) (hc : op = 6) :
    ACalls Tryz.prog 8 #[.int .i64 op, .agg #[.int .i64 a.kind, .int .i64 a.num, .string a.str, .int .i64 a.next, sa], .agg #[.int .i64 b.kind, .int .i64 b.num, .string b.str, .int .i64 b.next, sb]] h (MadeI h (binOf op a b).1 (binOf op a b).2) := by
  have hBa := V.bulk_eq a
  have hBb := V.bulk_eq b
  have hna := V.ok_num oka
  have hnb := V.ok_num okb
  have hsa : a.str.size ≤ 1152921504606846976 := by omega
  have hsb : b.str.size ≤ 1152921504606846976 := by omega
  have o1 : decide (op = 1) = false := decide_eq_false (by omega)
  have o6 : decide (op = 6) = true := decide_eq_true hc
  have o7 : decide (op = 7) = false := decide_eq_false (by omega)
  have o8 : decide (op = 8) = false := decide_eq_false (by omega)
  have o9 : decide (op = 9) = false := decide_eq_false (by omega)
  have o10 : decide (op = 10) = false := decide_eq_false (by omega)
  have o11 : decide (op = 11) = false := decide_eq_false (by omega)
  have o12 : decide (op = 12) = false := decide_eq_false (by omega)
  have o13 : decide (op = 13) = false := decide_eq_false (by omega)
  have o14 : decide (op = 14) = false := decide_eq_false (by omega)
  have o15 : decide (op = 15) = false := decide_eq_false (by omega)
  have e0 : binOf op a b = catOf a b := by unfold binOf; rw [if_neg (by omega)]; rw [if_pos (by omega)]
  rw [e0]
  (refine enter Tryz.func8 rfl rfl (by kernel_rfl) [] ?_; simp only [go_sem, Nat.reduceBEq])
  simp only [o1, o6, go_sem, Nat.reduceBEq, Nat.reduceAdd, Nat.reduceLeDiff]
  refine (iToText a hna _ _ ra hE.pow).mono ?_
  rintro _ h1 ⟨rfl, e1⟩
  simp only [go_sem, Nat.reduceBEq, Nat.reduceAdd, Nat.reduceLeDiff]
  refine (iToText b hnb _ _ (rb.mono e1) (hE.pow.ext e1)).mono ?_
  rintro _ h2 ⟨rfl, e2⟩
  have e12 := e1.trans e2
  have ta := text_size hna
  have tb := text_size hnb
  unfold catOf
  by_cases h1 : (V.toText a).2 = 0
  case neg =>
    have d1 := decide_eq_false h1
    simp only [d1, go_sem, Nat.reduceBEq]
    rw [if_pos (.inl h1)]
    (refine (iNull _).mono ?_; rintro _ _ ⟨rfl, rfl⟩; simp only [go_sem, Nat.reduceBEq, Nat.reduceAdd, Nat.reduceLeDiff])
    exact made_flat 0 0 ⟨#[]⟩ 1 e12
  by_cases h2 : (V.toText b).2 = 0
  case neg =>
    have d1 := decide_eq_true h1
    have d2 := decide_eq_false h2
    simp only [d1, d2, go_sem, Nat.reduceBEq]
    rw [if_pos (.inr h2)]
    (refine (iNull _).mono ?_; rintro _ _ ⟨rfl, rfl⟩; simp only [go_sem, Nat.reduceBEq, Nat.reduceAdd, Nat.reduceLeDiff])
    exact made_flat 0 0 ⟨#[]⟩ 1 e12
  have d1 := decide_eq_true h1
  have d2 := decide_eq_true h2
  rw [if_neg (fun k => k.elim (fun k => k h1) (fun k => k h2))]
  have wsum : IntKind.i64.wrap (((V.toText a).1.size : Int) + ((V.toText b).1.size : Int)) = (((V.toText a).1.size + (V.toText b).1.size : Nat) : Int) := by rw [IntWalk.i64_in _ (by omega)]; rfl
  have dz : decide ((400 : Int) < (((V.toText a).1.size + (V.toText b).1.size : Nat) : Int)) = !decide ((V.toText a).1.size + (V.toText b).1.size ≤ 400) := by
    rw [← decide_not]
    exact decide_eq_decide.2 (by omega)
  by_cases hz : (V.toText a).1.size + (V.toText b).1.size ≤ 400
  case neg =>
    have dz2 := decide_eq_false hz
    simp only [d1, d2, wsum, dz, dz2, go_sem, Nat.reduceBEq]
    rw [if_neg hz]
    (refine (iNull _).mono ?_; rintro _ _ ⟨rfl, rfl⟩; simp only [go_sem, Nat.reduceBEq, Nat.reduceAdd, Nat.reduceLeDiff])
    exact made_flat 0 0 ⟨#[]⟩ 9 e12
  have dz2 := decide_eq_true hz
  have hsz : (((V.toText a).1.size + (V.toText b).1.size : Nat) : Int) ≤ IntKind.i64.max := by rw [i64max]; omega
  simp only [d1, d2, wsum, dz, dz2, hsz, go_sem, Nat.reduceBEq]
  rw [if_pos hz]
  (refine (iTextV _ _).mono ?_; rintro _ _ ⟨rfl, rfl⟩; simp only [go_sem, Nat.reduceBEq, Nat.reduceAdd, Nat.reduceLeDiff])
  exact made_flat 3 0 _ 0 e12
theorem iBin_7 (op : Int) (_hop : IntKind.i64.min ≤ op ∧ op ≤ IntKind.i64.max) (a b : V) (oka : a.ok) (okb : b.ok) (ha : a.bulk ≤ 274877906944) (hb : b.bulk ≤ 274877906944) (sa sb : Value) (h : Hp) (ra : RdE h a.items sa) (rb : RdE h b.items sb) (hE : Env h) (hc : op = 7) :
    ACalls Tryz.prog 8 #[.int .i64 op, .agg #[.int .i64 a.kind, .int .i64 a.num, .string a.str, .int .i64 a.next, sa], .agg #[.int .i64 b.kind, .int .i64 b.num, .string b.str, .int .i64 b.next, sb]] h (MadeI h (binOf op a b).1 (binOf op a b).2) := by
  have hBa := V.bulk_eq a
  have hBb := V.bulk_eq b
  have hna := V.ok_num oka
  have hnb := V.ok_num okb
  have hsa : a.str.size ≤ 1152921504606846976 := by omega
  have hsb : b.str.size ≤ 1152921504606846976 := by omega
  have o1 : decide (op = 1) = false := decide_eq_false (by omega)
  have o6 : decide (op = 6) = false := decide_eq_false (by omega)
  have o7 : decide (op = 7) = true := decide_eq_true hc
  have o8 : decide (op = 8) = false := decide_eq_false (by omega)
  have o9 : decide (op = 9) = false := decide_eq_false (by omega)
  have o10 : decide (op = 10) = false := decide_eq_false (by omega)
  have o11 : decide (op = 11) = false := decide_eq_false (by omega)
  have o12 : decide (op = 12) = false := decide_eq_false (by omega)
  have o13 : decide (op = 13) = false := decide_eq_false (by omega)
  have o14 : decide (op = 14) = false := decide_eq_false (by omega)
  have o15 : decide (op = 15) = false := decide_eq_false (by omega)
  have e0 : binOf op a b = (boolV (rel op (V.cmp a b)), 0) := by unfold binOf; rw [if_neg (by omega)]; rw [if_neg (by omega)]; rw [if_neg (by omega)]; rw [if_neg (by omega)]; rw [if_neg (by omega)]; rw [if_pos (by omega)]
  rw [e0]
  (refine enter Tryz.func8 rfl rfl (by kernel_rfl) [] ?_; simp only [go_sem, Nat.reduceBEq])
  simp only [o1, o6, o7, o9, o10, go_sem, Nat.reduceBEq, Nat.reduceAdd, Nat.reduceLeDiff]
  refine (iCompare a b oka okb (by omega) (by omega) _ _ _ ra rb hE.pow).mono ?_
  rintro _ h1 ⟨rfl, e1⟩
  simp only [go_sem, Nat.reduceBEq]
  refine (iRelation op _ _).mono ?_
  rintro _ h2 ⟨rfl, e2⟩
  simp only [go_sem, Nat.reduceBEq]
  (refine (iBoolV _ _).mono ?_; rintro _ _ ⟨rfl, rfl⟩; simp only [go_sem, Nat.reduceBEq, Nat.reduceAdd, Nat.reduceLeDiff])
  exact made_flat 1 _ ⟨#[]⟩ 0 (e1.trans e2)
theorem iBin_8 (op : Int) (_hop : IntKind.i64.min ≤ op ∧ op ≤ IntKind.i64.max) (a b : V) (oka : a.ok) (okb : b.ok) (ha : a.bulk ≤ 274877906944) (hb : b.bulk ≤ 274877906944) (sa sb : Value) (h : Hp) (ra : RdE h a.items sa) (rb : RdE h b.items sb) (hE : Env h) (hc : op = 8) :
    ACalls Tryz.prog 8 #[.int .i64 op, .agg #[.int .i64 a.kind, .int .i64 a.num, .string a.str, .int .i64 a.next, sa], .agg #[.int .i64 b.kind, .int .i64 b.num, .string b.str, .int .i64 b.next, sb]] h (MadeI h (binOf op a b).1 (binOf op a b).2) := by
  have hBa := V.bulk_eq a
  have hBb := V.bulk_eq b
  have hna := V.ok_num oka
  have hnb := V.ok_num okb
  have hsa : a.str.size ≤ 1152921504606846976 := by omega
  have hsb : b.str.size ≤ 1152921504606846976 := by omega
  have o1 : decide (op = 1) = false := decide_eq_false (by omega)
  have o6 : decide (op = 6) = false := decide_eq_false (by omega)
  have o7 : decide (op = 7) = false := decide_eq_false (by omega)
  have o8 : decide (op = 8) = true := decide_eq_true hc
  have o9 : decide (op = 9) = false := decide_eq_false (by omega)
  have o10 : decide (op = 10) = false := decide_eq_false (by omega)
  have o11 : decide (op = 11) = false := decide_eq_false (by omega)
  have o12 : decide (op = 12) = false := decide_eq_false (by omega)
  have o13 : decide (op = 13) = false := decide_eq_false (by omega)
  have o14 : decide (op = 14) = false := decide_eq_false (by omega)
  have o15 : decide (op = 15) = false := decide_eq_false (by omega)
  have e0 : binOf op a b = (boolV (rel op (V.cmp a b)), 0) := by unfold binOf; rw [if_neg (by omega)]; rw [if_neg (by omega)]; rw [if_neg (by omega)]; rw [if_neg (by omega)]; rw [if_neg (by omega)]; rw [if_pos (by omega)]
  rw [e0]
  (refine enter Tryz.func8 rfl rfl (by kernel_rfl) [] ?_; simp only [go_sem, Nat.reduceBEq])
  simp only [o1, o6, o7, o8, o9, o10, go_sem, Nat.reduceBEq, Nat.reduceAdd, Nat.reduceLeDiff]
  refine (iCompare a b oka okb (by omega) (by omega) _ _ _ ra rb hE.pow).mono ?_
  rintro _ h1 ⟨rfl, e1⟩
  simp only [go_sem, Nat.reduceBEq]
  refine (iRelation op _ _).mono ?_
  rintro _ h2 ⟨rfl, e2⟩
  simp only [go_sem, Nat.reduceBEq]
  (refine (iBoolV _ _).mono ?_; rintro _ _ ⟨rfl, rfl⟩; simp only [go_sem, Nat.reduceBEq, Nat.reduceAdd, Nat.reduceLeDiff])
  exact made_flat 1 _ ⟨#[]⟩ 0 (e1.trans e2)
theorem iBin_9 (op : Int) (_hop : IntKind.i64.min ≤ op ∧ op ≤ IntKind.i64.max) (a b : V) (oka : a.ok) (okb : b.ok) (ha : a.bulk ≤ 274877906944) (hb : b.bulk ≤ 274877906944) (sa sb : Value) (h : Hp) (ra : RdE h a.items sa) (rb : RdE h b.items sb) (_hE : Env h) (hc : op = 9) :
    ACalls Tryz.prog 8 #[.int .i64 op, .agg #[.int .i64 a.kind, .int .i64 a.num, .string a.str, .int .i64 a.next, sa], .agg #[.int .i64 b.kind, .int .i64 b.num, .string b.str, .int .i64 b.next, sb]] h (MadeI h (binOf op a b).1 (binOf op a b).2) := by
  have hBa := V.bulk_eq a
  have hBb := V.bulk_eq b
  have hna := V.ok_num oka
  have hnb := V.ok_num okb
  have hsa : a.str.size ≤ 1152921504606846976 := by omega
  have hsb : b.str.size ≤ 1152921504606846976 := by omega
  have o1 : decide (op = 1) = false := decide_eq_false (by omega)
  have o6 : decide (op = 6) = false := decide_eq_false (by omega)
  have o7 : decide (op = 7) = false := decide_eq_false (by omega)
  have o8 : decide (op = 8) = false := decide_eq_false (by omega)
  have o9 : decide (op = 9) = true := decide_eq_true hc
  have o10 : decide (op = 10) = false := decide_eq_false (by omega)
  have o11 : decide (op = 11) = false := decide_eq_false (by omega)
  have o12 : decide (op = 12) = false := decide_eq_false (by omega)
  have o13 : decide (op = 13) = false := decide_eq_false (by omega)
  have o14 : decide (op = 14) = false := decide_eq_false (by omega)
  have o15 : decide (op = 15) = false := decide_eq_false (by omega)
  have e0 : binOf op a b = (boolV (V.same a b), 0) := by unfold binOf; rw [if_neg (by omega)]; rw [if_neg (by omega)]; rw [if_pos (by omega)]
  rw [e0]
  (refine enter Tryz.func8 rfl rfl (by kernel_rfl) [] ?_; simp only [go_sem, Nat.reduceBEq])
  simp only [o1, o6, o9, go_sem, Nat.reduceBEq, Nat.reduceAdd, Nat.reduceLeDiff]
  (refine (iSame a b (by omega) (by omega) _ _ _ ra rb).mono ?_; rintro _ _ ⟨rfl, rfl⟩; simp only [go_sem, Nat.reduceBEq])
  (refine (iBoolV _ _).mono ?_; rintro _ _ ⟨rfl, rfl⟩; simp only [go_sem, Nat.reduceBEq, Nat.reduceAdd, Nat.reduceLeDiff])
  exact made_flat 1 _ ⟨#[]⟩ 0 (Ext.refl _)
theorem iBin_10 (op : Int) (_hop : IntKind.i64.min ≤ op ∧ op ≤ IntKind.i64.max) (a b : V) (oka : a.ok) (okb : b.ok) (ha : a.bulk ≤ 274877906944) (hb : b.bulk ≤ 274877906944) (sa sb : Value) (h : Hp) (ra : RdE h a.items sa) (rb : RdE h b.items sb) (_hE : Env h) (hc : op = 10) :
    ACalls Tryz.prog 8 #[.int .i64 op, .agg #[.int .i64 a.kind, .int .i64 a.num, .string a.str, .int .i64 a.next, sa], .agg #[.int .i64 b.kind, .int .i64 b.num, .string b.str, .int .i64 b.next, sb]] h (MadeI h (binOf op a b).1 (binOf op a b).2) := by
  have hBa := V.bulk_eq a
  have hBb := V.bulk_eq b
  have hna := V.ok_num oka
  have hnb := V.ok_num okb
  have hsa : a.str.size ≤ 1152921504606846976 := by omega
  have hsb : b.str.size ≤ 1152921504606846976 := by omega
  have o1 : decide (op = 1) = false := decide_eq_false (by omega)
  have o6 : decide (op = 6) = false := decide_eq_false (by omega)
  have o7 : decide (op = 7) = false := decide_eq_false (by omega)
  have o8 : decide (op = 8) = false := decide_eq_false (by omega)
  have o9 : decide (op = 9) = false := decide_eq_false (by omega)
  have o10 : decide (op = 10) = true := decide_eq_true hc
  have o11 : decide (op = 11) = false := decide_eq_false (by omega)
  have o12 : decide (op = 12) = false := decide_eq_false (by omega)
  have o13 : decide (op = 13) = false := decide_eq_false (by omega)
  have o14 : decide (op = 14) = false := decide_eq_false (by omega)
  have o15 : decide (op = 15) = false := decide_eq_false (by omega)
  have e0 : binOf op a b = (boolV (!V.same a b), 0) := by unfold binOf; rw [if_neg (by omega)]; rw [if_neg (by omega)]; rw [if_neg (by omega)]; rw [if_pos (by omega)]
  rw [e0]
  (refine enter Tryz.func8 rfl rfl (by kernel_rfl) [] ?_; simp only [go_sem, Nat.reduceBEq])
  simp only [o1, o6, o9, o10, go_sem, Nat.reduceBEq, Nat.reduceAdd, Nat.reduceLeDiff]
  (refine (iSame a b (by omega) (by omega) _ _ _ ra rb).mono ?_; rintro _ _ ⟨rfl, rfl⟩; simp only [go_sem, Nat.reduceBEq])
  (refine (iBoolV _ _).mono ?_; rintro _ _ ⟨rfl, rfl⟩; simp only [go_sem, Nat.reduceBEq, Nat.reduceAdd, Nat.reduceLeDiff])
  exact made_flat 1 _ ⟨#[]⟩ 0 (Ext.refl _)
theorem iBin_11 (op : Int) (_hop : IntKind.i64.min ≤ op ∧ op ≤ IntKind.i64.max) (a b : V) (oka : a.ok) (okb : b.ok) (ha : a.bulk ≤ 274877906944) (hb : b.bulk ≤ 274877906944) (sa sb : Value) (h : Hp) (ra : RdE h a.items sa) (rb : RdE h b.items sb) (hE : Env h) (hc : op = 11) :
    ACalls Tryz.prog 8 #[.int .i64 op, .agg #[.int .i64 a.kind, .int .i64 a.num, .string a.str, .int .i64 a.next, sa], .agg #[.int .i64 b.kind, .int .i64 b.num, .string b.str, .int .i64 b.next, sb]] h (MadeI h (binOf op a b).1 (binOf op a b).2) := by
  have hBa := V.bulk_eq a
  have hBb := V.bulk_eq b
  have hna := V.ok_num oka
  have hnb := V.ok_num okb
  have hsa : a.str.size ≤ 1152921504606846976 := by omega
  have hsb : b.str.size ≤ 1152921504606846976 := by omega
  have o1 : decide (op = 1) = false := decide_eq_false (by omega)
  have o6 : decide (op = 6) = false := decide_eq_false (by omega)
  have o7 : decide (op = 7) = false := decide_eq_false (by omega)
  have o8 : decide (op = 8) = false := decide_eq_false (by omega)
  have o9 : decide (op = 9) = false := decide_eq_false (by omega)
  have o10 : decide (op = 10) = false := decide_eq_false (by omega)
  have o11 : decide (op = 11) = true := decide_eq_true hc
  have o12 : decide (op = 12) = false := decide_eq_false (by omega)
  have o13 : decide (op = 13) = false := decide_eq_false (by omega)
  have o14 : decide (op = 14) = false := decide_eq_false (by omega)
  have o15 : decide (op = 15) = false := decide_eq_false (by omega)
  have e0 : binOf op a b = (boolV (rel op (V.cmp a b)), 0) := by unfold binOf; rw [if_neg (by omega)]; rw [if_neg (by omega)]; rw [if_neg (by omega)]; rw [if_neg (by omega)]; rw [if_neg (by omega)]; rw [if_pos (by omega)]
  rw [e0]
  (refine enter Tryz.func8 rfl rfl (by kernel_rfl) [] ?_; simp only [go_sem, Nat.reduceBEq])
  simp only [o1, o6, o7, o8, o9, o10, o11, go_sem, Nat.reduceBEq, Nat.reduceAdd, Nat.reduceLeDiff]
  refine (iCompare a b oka okb (by omega) (by omega) _ _ _ ra rb hE.pow).mono ?_
  rintro _ h1 ⟨rfl, e1⟩
  simp only [go_sem, Nat.reduceBEq]
  refine (iRelation op _ _).mono ?_
  rintro _ h2 ⟨rfl, e2⟩
  simp only [go_sem, Nat.reduceBEq]
  (refine (iBoolV _ _).mono ?_; rintro _ _ ⟨rfl, rfl⟩; simp only [go_sem, Nat.reduceBEq, Nat.reduceAdd, Nat.reduceLeDiff])
  exact made_flat 1 _ ⟨#[]⟩ 0 (e1.trans e2)
theorem iBin_12 (op : Int) (_hop : IntKind.i64.min ≤ op ∧ op ≤ IntKind.i64.max) (a b : V) (oka : a.ok) (okb : b.ok) (ha : a.bulk ≤ 274877906944) (hb : b.bulk ≤ 274877906944) (sa sb : Value) (h : Hp) (ra : RdE h a.items sa) (rb : RdE h b.items sb) (hE : Env h) (hc : op = 12) :
    ACalls Tryz.prog 8 #[.int .i64 op, .agg #[.int .i64 a.kind, .int .i64 a.num, .string a.str, .int .i64 a.next, sa], .agg #[.int .i64 b.kind, .int .i64 b.num, .string b.str, .int .i64 b.next, sb]] h (MadeI h (binOf op a b).1 (binOf op a b).2) := by
  have hBa := V.bulk_eq a
  have hBb := V.bulk_eq b
  have hna := V.ok_num oka
  have hnb := V.ok_num okb
  have hsa : a.str.size ≤ 1152921504606846976 := by omega
  have hsb : b.str.size ≤ 1152921504606846976 := by omega
  have o1 : decide (op = 1) = false := decide_eq_false (by omega)
  have o6 : decide (op = 6) = false := decide_eq_false (by omega)
  have o7 : decide (op = 7) = false := decide_eq_false (by omega)
  have o8 : decide (op = 8) = false := decide_eq_false (by omega)
  have o9 : decide (op = 9) = false := decide_eq_false (by omega)
  have o10 : decide (op = 10) = false := decide_eq_false (by omega)
  have o11 : decide (op = 11) = false := decide_eq_false (by omega)
  have o12 : decide (op = 12) = true := decide_eq_true hc
  have o13 : decide (op = 13) = false := decide_eq_false (by omega)
  have o14 : decide (op = 14) = false := decide_eq_false (by omega)
  have o15 : decide (op = 15) = false := decide_eq_false (by omega)
  have e0 : binOf op a b = (boolV (rel op (V.cmp a b)), 0) := by unfold binOf; rw [if_neg (by omega)]; rw [if_neg (by omega)]; rw [if_neg (by omega)]; rw [if_neg (by omega)]; rw [if_neg (by omega)]; rw [if_pos (by omega)]
  rw [e0]
  (refine enter Tryz.func8 rfl rfl (by kernel_rfl) [] ?_; simp only [go_sem, Nat.reduceBEq])
  simp only [o1, o6, o7, o8, o9, o10, o11, o12, go_sem, Nat.reduceBEq, Nat.reduceAdd, Nat.reduceLeDiff]
  refine (iCompare a b oka okb (by omega) (by omega) _ _ _ ra rb hE.pow).mono ?_
  rintro _ h1 ⟨rfl, e1⟩
  simp only [go_sem, Nat.reduceBEq]
  refine (iRelation op _ _).mono ?_
  rintro _ h2 ⟨rfl, e2⟩
  simp only [go_sem, Nat.reduceBEq]
  (refine (iBoolV _ _).mono ?_; rintro _ _ ⟨rfl, rfl⟩; simp only [go_sem, Nat.reduceBEq, Nat.reduceAdd, Nat.reduceLeDiff])
  exact made_flat 1 _ ⟨#[]⟩ 0 (e1.trans e2)
theorem iBin_13 (op : Int) (_hop : IntKind.i64.min ≤ op ∧ op ≤ IntKind.i64.max) (a b : V) (oka : a.ok) (okb : b.ok) (ha : a.bulk ≤ 274877906944) (hb : b.bulk ≤ 274877906944) (sa sb : Value) (h : Hp) (ra : RdE h a.items sa) (rb : RdE h b.items sb) (hE : Env h) (hc : op = 13) :
    ACalls Tryz.prog 8 #[.int .i64 op, .agg #[.int .i64 a.kind, .int .i64 a.num, .string a.str, .int .i64 a.next, sa], .agg #[.int .i64 b.kind, .int .i64 b.num, .string b.str, .int .i64 b.next, sb]] h (MadeI h (binOf op a b).1 (binOf op a b).2) := by
  have hBa := V.bulk_eq a
  have hBb := V.bulk_eq b
  have hna := V.ok_num oka
  have hnb := V.ok_num okb
  have hsa : a.str.size ≤ 1152921504606846976 := by omega
  have hsb : b.str.size ≤ 1152921504606846976 := by omega
  have o1 : decide (op = 1) = false := decide_eq_false (by omega)
  have o6 : decide (op = 6) = false := decide_eq_false (by omega)
  have o7 : decide (op = 7) = false := decide_eq_false (by omega)
  have o8 : decide (op = 8) = false := decide_eq_false (by omega)
  have o9 : decide (op = 9) = false := decide_eq_false (by omega)
  have o10 : decide (op = 10) = false := decide_eq_false (by omega)
  have o11 : decide (op = 11) = false := decide_eq_false (by omega)
  have o12 : decide (op = 12) = false := decide_eq_false (by omega)
  have o13 : decide (op = 13) = true := decide_eq_true hc
  have o14 : decide (op = 14) = false := decide_eq_false (by omega)
  have o15 : decide (op = 15) = false := decide_eq_false (by omega)
  have e0 : binOf op a b = (boolV (rel op (V.cmp a b)), 0) := by unfold binOf; rw [if_neg (by omega)]; rw [if_neg (by omega)]; rw [if_neg (by omega)]; rw [if_neg (by omega)]; rw [if_neg (by omega)]; rw [if_pos (by omega)]
  rw [e0]
  (refine enter Tryz.func8 rfl rfl (by kernel_rfl) [] ?_; simp only [go_sem, Nat.reduceBEq])
  simp only [o1, o6, o7, o8, o9, o10, o11, o12, o13, go_sem, Nat.reduceBEq, Nat.reduceAdd, Nat.reduceLeDiff]
  refine (iCompare a b oka okb (by omega) (by omega) _ _ _ ra rb hE.pow).mono ?_
  rintro _ h1 ⟨rfl, e1⟩
  simp only [go_sem, Nat.reduceBEq]
  refine (iRelation op _ _).mono ?_
  rintro _ h2 ⟨rfl, e2⟩
  simp only [go_sem, Nat.reduceBEq]
  (refine (iBoolV _ _).mono ?_; rintro _ _ ⟨rfl, rfl⟩; simp only [go_sem, Nat.reduceBEq, Nat.reduceAdd, Nat.reduceLeDiff])
  exact made_flat 1 _ ⟨#[]⟩ 0 (e1.trans e2)
theorem iBin_14 (op : Int) (_hop : IntKind.i64.min ≤ op ∧ op ≤ IntKind.i64.max) (a b : V) (oka : a.ok) (okb : b.ok) (ha : a.bulk ≤ 274877906944) (hb : b.bulk ≤ 274877906944) (sa sb : Value) (h : Hp) (ra : RdE h a.items sa) (rb : RdE h b.items sb) (hE : Env h) (hc : op = 14) :
    ACalls Tryz.prog 8 #[.int .i64 op, .agg #[.int .i64 a.kind, .int .i64 a.num, .string a.str, .int .i64 a.next, sa], .agg #[.int .i64 b.kind, .int .i64 b.num, .string b.str, .int .i64 b.next, sb]] h (MadeI h (binOf op a b).1 (binOf op a b).2) := by
  have hBa := V.bulk_eq a
  have hBb := V.bulk_eq b
  have hna := V.ok_num oka
  have hnb := V.ok_num okb
  have hsa : a.str.size ≤ 1152921504606846976 := by omega
  have hsb : b.str.size ≤ 1152921504606846976 := by omega
  have o1 : decide (op = 1) = false := decide_eq_false (by omega)
  have o6 : decide (op = 6) = false := decide_eq_false (by omega)
  have o7 : decide (op = 7) = false := decide_eq_false (by omega)
  have o8 : decide (op = 8) = false := decide_eq_false (by omega)
  have o9 : decide (op = 9) = false := decide_eq_false (by omega)
  have o10 : decide (op = 10) = false := decide_eq_false (by omega)
  have o11 : decide (op = 11) = false := decide_eq_false (by omega)
  have o12 : decide (op = 12) = false := decide_eq_false (by omega)
  have o13 : decide (op = 13) = false := decide_eq_false (by omega)
  have o14 : decide (op = 14) = true := decide_eq_true hc
  have o15 : decide (op = 15) = false := decide_eq_false (by omega)
  have e0 : binOf op a b = (boolV (rel op (V.cmp a b)), 0) := by unfold binOf; rw [if_neg (by omega)]; rw [if_neg (by omega)]; rw [if_neg (by omega)]; rw [if_neg (by omega)]; rw [if_neg (by omega)]; rw [if_pos (by omega)]
  rw [e0]
  (refine enter Tryz.func8 rfl rfl (by kernel_rfl) [] ?_; simp only [go_sem, Nat.reduceBEq])
  simp only [o1, o6, o7, o8, o9, o10, o11, o12, o13, o14, go_sem, Nat.reduceBEq, Nat.reduceAdd, Nat.reduceLeDiff]
  refine (iCompare a b oka okb (by omega) (by omega) _ _ _ ra rb hE.pow).mono ?_
  rintro _ h1 ⟨rfl, e1⟩
  simp only [go_sem, Nat.reduceBEq]
  refine (iRelation op _ _).mono ?_
  rintro _ h2 ⟨rfl, e2⟩
  simp only [go_sem, Nat.reduceBEq]
  (refine (iBoolV _ _).mono ?_; rintro _ _ ⟨rfl, rfl⟩; simp only [go_sem, Nat.reduceBEq, Nat.reduceAdd, Nat.reduceLeDiff])
  exact made_flat 1 _ ⟨#[]⟩ 0 (e1.trans e2)
theorem iBin_15 (op : Int) (_hop : IntKind.i64.min ≤ op ∧ op ≤ IntKind.i64.max) (a b : V) (oka : a.ok) (okb : b.ok) (ha : a.bulk ≤ 274877906944) (hb : b.bulk ≤ 274877906944) (sa sb : Value) (h : Hp) (ra : RdE h a.items sa) (rb : RdE h b.items sb) (hE : Env h) (hc : op = 15) :
    ACalls Tryz.prog 8 #[.int .i64 op, .agg #[.int .i64 a.kind, .int .i64 a.num, .string a.str, .int .i64 a.next, sa], .agg #[.int .i64 b.kind, .int .i64 b.num, .string b.str, .int .i64 b.next, sb]] h (MadeI h (binOf op a b).1 (binOf op a b).2) := by
  have hBa := V.bulk_eq a
  have hBb := V.bulk_eq b
  have hna := V.ok_num oka
  have hnb := V.ok_num okb
  have hsa : a.str.size ≤ 1152921504606846976 := by omega
  have hsb : b.str.size ≤ 1152921504606846976 := by omega
  have o1 : decide (op = 1) = false := decide_eq_false (by omega)
  have o6 : decide (op = 6) = false := decide_eq_false (by omega)
  have o7 : decide (op = 7) = false := decide_eq_false (by omega)
  have o8 : decide (op = 8) = false := decide_eq_false (by omega)
  have o9 : decide (op = 9) = false := decide_eq_false (by omega)
  have o10 : decide (op = 10) = false := decide_eq_false (by omega)
  have o11 : decide (op = 11) = false := decide_eq_false (by omega)
  have o12 : decide (op = 12) = false := decide_eq_false (by omega)
  have o13 : decide (op = 13) = false := decide_eq_false (by omega)
  have o14 : decide (op = 14) = false := decide_eq_false (by omega)
  have o15 : decide (op = 15) = true := decide_eq_true hc
  have e0 : binOf op a b = (intV (V.cmp a b), 0) := by unfold binOf; rw [if_neg (by omega)]; rw [if_neg (by omega)]; rw [if_neg (by omega)]; rw [if_neg (by omega)]; rw [if_pos (by omega)]
  rw [e0]
  (refine enter Tryz.func8 rfl rfl (by kernel_rfl) [] ?_; simp only [go_sem, Nat.reduceBEq])
  simp only [o1, o6, o7, o8, o9, o10, o11, o12, o13, o14, o15, go_sem, Nat.reduceBEq, Nat.reduceAdd, Nat.reduceLeDiff]
  refine (iCompare a b oka okb (by omega) (by omega) _ _ _ ra rb hE.pow).mono ?_
  rintro _ h1 ⟨rfl, e1⟩
  simp only [go_sem, Nat.reduceBEq]
  (refine (iIntV _ _).mono ?_; rintro _ _ ⟨rfl, rfl⟩; simp only [go_sem, Nat.reduceBEq, Nat.reduceAdd, Nat.reduceLeDiff])
  exact made_flat 2 _ ⟨#[]⟩ 0 e1
theorem iBin_0 (op : Int) (_hop : IntKind.i64.min ≤ op ∧ op ≤ IntKind.i64.max) (a b : V) (oka : a.ok) (okb : b.ok) (ha : a.bulk ≤ 274877906944) (hb : b.bulk ≤ 274877906944) (sa sb : Value) (h : Hp) (ra : RdE h a.items sa) (rb : RdE h b.items sb) (_hE : Env h) (hc : ¬ op = 1 ∧ ¬ op = 6 ∧ ¬ op = 7 ∧ ¬ op = 8 ∧ ¬ op = 9 ∧ ¬ op = 10 ∧ ¬ op = 11 ∧ ¬ op = 12 ∧ ¬ op = 13 ∧ ¬ op = 14 ∧ ¬ op = 15) :
    ACalls Tryz.prog 8 #[.int .i64 op, .agg #[.int .i64 a.kind, .int .i64 a.num, .string a.str, .int .i64 a.next, sa], .agg #[.int .i64 b.kind, .int .i64 b.num, .string b.str, .int .i64 b.next, sb]] h (MadeI h (binOf op a b).1 (binOf op a b).2) := by
  have hBa := V.bulk_eq a
  have hBb := V.bulk_eq b
  have hna := V.ok_num oka
  have hnb := V.ok_num okb
  have hsa : a.str.size ≤ 1152921504606846976 := by omega
  have hsb : b.str.size ≤ 1152921504606846976 := by omega
  have o1 : decide (op = 1) = false := decide_eq_false (by omega)
  have o6 : decide (op = 6) = false := decide_eq_false (by omega)
  have o7 : decide (op = 7) = false := decide_eq_false (by omega)
  have o8 : decide (op = 8) = false := decide_eq_false (by omega)
  have o9 : decide (op = 9) = false := decide_eq_false (by omega)
  have o10 : decide (op = 10) = false := decide_eq_false (by omega)
  have o11 : decide (op = 11) = false := decide_eq_false (by omega)
  have o12 : decide (op = 12) = false := decide_eq_false (by omega)
  have o13 : decide (op = 13) = false := decide_eq_false (by omega)
  have o14 : decide (op = 14) = false := decide_eq_false (by omega)
  have o15 : decide (op = 15) = false := decide_eq_false (by omega)
  have e0 : binOf op a b = numOf op a b := by unfold binOf; rw [if_neg (by omega)]; rw [if_neg (by omega)]; rw [if_neg (by omega)]; rw [if_neg (by omega)]; rw [if_neg (by omega)]; rw [if_neg (by omega)]
  rw [e0]
  (refine enter Tryz.func8 rfl rfl (by kernel_rfl) [] ?_; simp only [go_sem, Nat.reduceBEq])
  simp only [o1, o6, o7, o8, o9, o10, o11, o12, o13, o14, o15, go_sem, Nat.reduceBEq, Nat.reduceAdd, Nat.reduceLeDiff]
  refine (iToNumber a hsa _ _ ra).mono ?_
  rintro _ _ ⟨rfl, rfl⟩
  simp only [go_sem, Nat.reduceBEq, Nat.reduceAdd, Nat.reduceLeDiff]
  refine (iToNumber b hsb _ _ rb).mono ?_
  rintro _ _ ⟨rfl, rfl⟩
  unfold numOf
  by_cases h1 : (toNum a).2 = 0
  case neg =>
    have d1 := decide_eq_false h1
    simp only [d1, go_sem, Nat.reduceBEq]
    rw [if_pos (.inl h1)]
    (refine (iNull _).mono ?_; rintro _ _ ⟨rfl, rfl⟩; simp only [go_sem, Nat.reduceBEq, Nat.reduceAdd, Nat.reduceLeDiff])
    exact made_flat 0 0 ⟨#[]⟩ 2 (Ext.refl _)
  by_cases h2 : (toNum b).2 = 0
  case neg =>
    have d1 := decide_eq_true h1
    have d2 := decide_eq_false h2
    simp only [d1, d2, go_sem, Nat.reduceBEq]
    rw [if_pos (.inr h2)]
    (refine (iNull _).mono ?_; rintro _ _ ⟨rfl, rfl⟩; simp only [go_sem, Nat.reduceBEq, Nat.reduceAdd, Nat.reduceLeDiff])
    exact made_flat 0 0 ⟨#[]⟩ 2 (Ext.refl _)
  have d1 := decide_eq_true h1
  have d2 := decide_eq_true h2
  simp only [d1, d2, go_sem, Nat.reduceBEq]
  rw [if_neg (fun k => k.elim (fun k => k h1) (fun k => k h2))]
  refine (iArith _ _ _ _).mono ?_
  rintro _ h3 ⟨rfl, e3⟩
  by_cases hc : (arith op (toNum a).1 (toNum b).1).2 = 0
  case neg =>
    have dc := decide_eq_false hc
    simp only [dc, go_sem, Nat.reduceBEq]
    rw [if_neg hc]
    (refine (iNull _).mono ?_; rintro _ _ ⟨rfl, rfl⟩; simp only [go_sem, Nat.reduceBEq, Nat.reduceAdd, Nat.reduceLeDiff])
    exact made_flat 0 0 ⟨#[]⟩ _ e3
  have dc := decide_eq_true hc
  simp only [dc, go_sem, Nat.reduceBEq]
  rw [if_pos hc]
  (refine (iIntV _ _).mono ?_; rintro _ _ ⟨rfl, rfl⟩; simp only [go_sem, Nat.reduceBEq, Nat.reduceAdd, Nat.reduceLeDiff])
  exact made_flat 2 _ ⟨#[]⟩ 0 e3
theorem iBinary (op : Int) (hop : IntKind.i64.min ≤ op ∧ op ≤ IntKind.i64.max) (a b : V) (oka : a.ok) (okb : b.ok) (ha : a.bulk ≤ 274877906944) (hb : b.bulk ≤ 274877906944) (sa sb : Value) (h : Hp) (ra : RdE h a.items sa) (rb : RdE h b.items sb) (hE : Env h) :
    ACalls Tryz.prog 8 #[.int .i64 op, .agg #[.int .i64 a.kind, .int .i64 a.num, .string a.str, .int .i64 a.next, sa], .agg #[.int .i64 b.kind, .int .i64 b.num, .string b.str, .int .i64 b.next, sb]] h (MadeI h (binOf op a b).1 (binOf op a b).2) := by
  rcases (show op = 1 ∨ op = 6 ∨ op = 7 ∨ op = 8 ∨ op = 9 ∨ op = 10 ∨ op = 11 ∨ op = 12 ∨ op = 13 ∨ op = 14 ∨ op = 15 ∨ (¬ op = 1 ∧ ¬ op = 6 ∧ ¬ op = 7 ∧ ¬ op = 8 ∧ ¬ op = 9 ∧ ¬ op = 10 ∧ ¬ op = 11 ∧ ¬ op = 12 ∧ ¬ op = 13 ∧ ¬ op = 14 ∧ ¬ op = 15) from by omega) with hc | hc | hc | hc | hc | hc | hc | hc | hc | hc | hc | hc
  · exact iBin_1 op hop a b oka okb ha hb sa sb h ra rb hE hc
  · exact iBin_6 op hop a b oka okb ha hb sa sb h ra rb hE hc
  · exact iBin_7 op hop a b oka okb ha hb sa sb h ra rb hE hc
  · exact iBin_8 op hop a b oka okb ha hb sa sb h ra rb hE hc
  · exact iBin_9 op hop a b oka okb ha hb sa sb h ra rb hE hc
  · exact iBin_10 op hop a b oka okb ha hb sa sb h ra rb hE hc
  · exact iBin_11 op hop a b oka okb ha hb sa sb h ra rb hE hc
  · exact iBin_12 op hop a b oka okb ha hb sa sb h ra rb hE hc
  · exact iBin_13 op hop a b oka okb ha hb sa sb h ra rb hE hc
  · exact iBin_14 op hop a b oka okb ha hb sa sb h ra rb hE hc
  · exact iBin_15 op hop a b oka okb ha hb sa sb h ra rb hE hc
  · exact iBin_0 op hop a b oka okb ha hb sa sb h ra rb hE hc
theorem slConcat (a b : V) (hna : IntKind.i64.min ≤ a.num ∧ a.num ≤ IntKind.i64.max) (hnb : IntKind.i64.min ≤ b.num ∧ b.num ≤ IntKind.i64.max) (_hsa : a.str.size ≤ 549755813888) (hsb : b.str.size ≤ 549755813888) (sa sb : Value) (h : Hp) (ra : RdE h a.items sa) (rb : RdE h b.items sb) (hE : Env h) :
    ACalls Tryz.prog 16 #[.agg #[.int .i64 a.kind, .int .i64 a.num, .string a.str, .int .i64 a.next, sa], .agg #[.int .i64 b.kind, .int .i64 b.num, .string b.str, .int .i64 b.next, sb]] h (MadeI h (catOf a b).1 (catOf a b).2) := by
  (refine enter Tryz.func16 rfl rfl (by kernel_rfl) [] ?_; simp only [go_sem, Nat.reduceBEq, Nat.reduceAdd, Nat.reduceLeDiff])
  refine (sToText a hna _ _ ra hE.pow).mono ?_
  rintro _ h1 ⟨rfl, e1⟩
  simp only [go_sem, Nat.reduceBEq, Nat.reduceAdd, Nat.reduceLeDiff]
  refine (sToText b hnb _ _ (rb.mono e1) (hE.pow.ext e1)).mono ?_
  rintro _ h2 ⟨rfl, e2⟩
  have e12 := e1.trans e2
  have ta := text_size hna
  have tb := text_size hnb
  unfold catOf
  by_cases h1 : (V.toText a).2 = 0
  case neg =>
    have d1 := decide_eq_false h1
    simp only [d1, go_sem, Nat.reduceBEq, Nat.reduceAdd, Nat.reduceLeDiff]
    rw [if_pos (.inl h1)]
    skip
    exact made_flat 0 0 ⟨#[]⟩ 1 e12
  by_cases h2 : (V.toText b).2 = 0
  case neg =>
    have d1 := decide_eq_true h1
    have d2 := decide_eq_false h2
    simp only [d1, d2, go_sem, Nat.reduceBEq, Nat.reduceAdd, Nat.reduceLeDiff]
    rw [if_pos (.inr h2)]
    skip
    exact made_flat 0 0 ⟨#[]⟩ 1 e12
  have d1 := decide_eq_true h1
  have d2 := decide_eq_true h2
  rw [if_neg (fun k => k.elim (fun k => k h1) (fun k => k h2))]
  have wsum : IntKind.i64.wrap ((400 : Int) - ((V.toText b).1.size : Int)) = 400 - ((V.toText b).1.size : Int) := IntWalk.i64_in _ (by omega)
  have dz : decide ((400 : Int) - ((V.toText b).1.size : Int) < ((V.toText a).1.size : Int)) = !decide ((V.toText a).1.size + (V.toText b).1.size ≤ 400) := by
    rw [← decide_not]
    exact decide_eq_decide.2 (by omega)
  by_cases hz : (V.toText a).1.size + (V.toText b).1.size ≤ 400
  case neg =>
    have dz2 := decide_eq_false hz
    simp only [d1, d2, wsum, dz, dz2, go_sem, Nat.reduceBEq, Nat.reduceAdd, Nat.reduceLeDiff]
    rw [if_neg hz]
    skip
    exact made_flat 0 0 ⟨#[]⟩ 9 e12
  have dz2 := decide_eq_true hz
  have hsz : (((V.toText a).1.size + (V.toText b).1.size : Nat) : Int) ≤ IntKind.i64.max := by rw [i64max]; omega
  simp only [d1, d2, wsum, dz, dz2, hsz, go_sem, Nat.reduceBEq]
  rw [if_pos hz]
  (refine (sTextV _ _).mono ?_; rintro _ _ ⟨rfl, rfl⟩; simp only [go_sem, Nat.reduceBEq, Nat.reduceAdd, Nat.reduceLeDiff])
  exact made_flat 3 0 _ 0 e12
theorem sBin_1 (op : Int) (_hop : IntKind.i64.min ≤ op ∧ op ≤ IntKind.i64.max) (a b : V) (oka : a.ok) (okb : b.ok) (ha : a.bulk ≤ 274877906944) (hb : b.bulk ≤ 274877906944) (sa sb : Value) (h : Hp) (ra : RdE h a.items sa) (rb : RdE h b.items sb) (_hE : Env h) (hc : op = 1) :
    ACalls Tryz.prog 6 #[.int .i64 op, .agg #[.int .i64 a.kind, .int .i64 a.num, .string a.str, .int .i64 a.next, sa], .agg #[.int .i64 b.kind, .int .i64 b.num, .string b.str, .int .i64 b.next, sb]] h (MadeI h (binOf op a b).1 (binOf op a b).2) := by
  have hBa := V.bulk_eq a
  have hBb := V.bulk_eq b
  have hna := V.ok_num oka
  have hnb := V.ok_num okb
  have hsa : a.str.size ≤ 1152921504606846976 := by omega
  have hsb : b.str.size ≤ 1152921504606846976 := by omega
  have o1 : decide (op = 1) = true := decide_eq_true hc
  have o6 : decide (op = 6) = false := decide_eq_false (by omega)
  have o7 : decide (op = 7) = false := decide_eq_false (by omega)
  have o8 : decide (op = 8) = false := decide_eq_false (by omega)
  have o9 : decide (op = 9) = false := decide_eq_false (by omega)
  have o10 : decide (op = 10) = false := decide_eq_false (by omega)
  have o11 : decide (op = 11) = false := decide_eq_false (by omega)
  have o12 : decide (op = 12) = false := decide_eq_false (by omega)
  have o13 : decide (op = 13) = false := decide_eq_false (by omega)
  have o14 : decide (op = 14) = false := decide_eq_false (by omega)
  have o15 : decide (op = 15) = false := decide_eq_false (by omega)
  have oin : decide (7 ≤ op ∧ op ≤ 14) = false := decide_eq_false (by omega)
  (refine enter Tryz.func6 rfl rfl (by kernel_rfl) [] ?_; simp only [go_sem, Nat.reduceBEq])
  by_cases ka : a.kind = 4
  case neg =>
    have e0 : binOf op a b = numOf op a b := by unfold binOf; rw [if_neg (by omega)]; rw [if_neg (by omega)]; rw [if_neg (by omega)]; rw [if_neg (by omega)]; rw [if_neg (by omega)]; rw [if_neg (by omega)]
    rw [e0]
    have dka := decide_eq_false ka
    simp only [o1, o6, o9, o10, o15, dka, go_sem, Nat.reduceBEq]
    try (refine (l1In_c _ _ _ _).mono ?_; rintro _ _ ⟨rfl, rfl⟩; simp only [oin, go_sem, Nat.reduceBEq, Nat.reduceAdd, Nat.reduceLeDiff])
    refine (sToNumber a hsa _ _ ra).mono ?_
    rintro _ _ ⟨rfl, rfl⟩
    simp only [go_sem, Nat.reduceBEq, Nat.reduceAdd, Nat.reduceLeDiff]
    refine (sToNumber b hsb _ _ rb).mono ?_
    rintro _ _ ⟨rfl, rfl⟩
    unfold numOf
    by_cases h1 : (toNum a).2 = 0
    case neg =>
      have d1 := decide_eq_false h1
      simp only [d1, go_sem, Nat.reduceBEq, Nat.reduceAdd, Nat.reduceLeDiff]
      rw [if_pos (.inl h1)]
      skip
      exact made_flat 0 0 ⟨#[]⟩ 2 (Ext.refl _)
    by_cases h2 : (toNum b).2 = 0
    case neg =>
      have d1 := decide_eq_true h1
      have d2 := decide_eq_false h2
      simp only [d1, d2, go_sem, Nat.reduceBEq, Nat.reduceAdd, Nat.reduceLeDiff]
      rw [if_pos (.inr h2)]
      skip
      exact made_flat 0 0 ⟨#[]⟩ 2 (Ext.refl _)
    have d1 := decide_eq_true h1
    have d2 := decide_eq_true h2
    simp only [d1, d2, go_sem, Nat.reduceBEq]
    rw [if_neg (fun k => k.elim (fun k => k h1) (fun k => k h2))]
    refine (sArith _ _ _ _).mono ?_
    rintro _ h3 ⟨rfl, e3⟩
    by_cases hc : (arith op (toNum a).1 (toNum b).1).2 = 0
    case neg =>
      have dc := decide_eq_false hc
      simp only [dc, go_sem, Nat.reduceBEq, Nat.reduceAdd, Nat.reduceLeDiff]
      rw [if_neg hc]
      skip
      exact made_flat 0 0 ⟨#[]⟩ _ e3
    have dc := decide_eq_true hc
    simp only [dc, go_sem, Nat.reduceBEq]
    rw [if_pos hc]
    (refine (sIntV _ _).mono ?_; rintro _ _ ⟨rfl, rfl⟩; simp only [go_sem, Nat.reduceBEq, Nat.reduceAdd, Nat.reduceLeDiff])
    exact made_flat 2 _ ⟨#[]⟩ 0 e3
  by_cases kb : b.kind = 4
  case neg =>
    have e0 : binOf op a b = numOf op a b := by unfold binOf; rw [if_neg (by omega)]; rw [if_neg (by omega)]; rw [if_neg (by omega)]; rw [if_neg (by omega)]; rw [if_neg (by omega)]; rw [if_neg (by omega)]
    rw [e0]
    have dka := decide_eq_true ka
    have dkb := decide_eq_false kb
    simp only [o1, o6, o9, o10, o15, dka, dkb, go_sem, Nat.reduceBEq]
    try (refine (l1In_c _ _ _ _).mono ?_; rintro _ _ ⟨rfl, rfl⟩; simp only [oin, go_sem, Nat.reduceBEq, Nat.reduceAdd, Nat.reduceLeDiff])
    refine (sToNumber a hsa _ _ ra).mono ?_
    rintro _ _ ⟨rfl, rfl⟩
    simp only [go_sem, Nat.reduceBEq, Nat.reduceAdd, Nat.reduceLeDiff]
    refine (sToNumber b hsb _ _ rb).mono ?_
    rintro _ _ ⟨rfl, rfl⟩
    unfold numOf
    by_cases h1 : (toNum a).2 = 0
    case neg =>
      have d1 := decide_eq_false h1
      simp only [d1, go_sem, Nat.reduceBEq, Nat.reduceAdd, Nat.reduceLeDiff]
      rw [if_pos (.inl h1)]
      skip
      exact made_flat 0 0 ⟨#[]⟩ 2 (Ext.refl _)
    by_cases h2 : (toNum b).2 = 0
    case neg =>
      have d1 := decide_eq_true h1
      have d2 := decide_eq_false h2
      simp only [d1, d2, go_sem, Nat.reduceBEq, Nat.reduceAdd, Nat.reduceLeDiff]
      rw [if_pos (.inr h2)]
      skip
      exact made_flat 0 0 ⟨#[]⟩ 2 (Ext.refl _)
    have d1 := decide_eq_true h1
    have d2 := decide_eq_true h2
    simp only [d1, d2, go_sem, Nat.reduceBEq]
    rw [if_neg (fun k => k.elim (fun k => k h1) (fun k => k h2))]
    refine (sArith _ _ _ _).mono ?_
    rintro _ h3 ⟨rfl, e3⟩
    by_cases hc : (arith op (toNum a).1 (toNum b).1).2 = 0
    case neg =>
      have dc := decide_eq_false hc
      simp only [dc, go_sem, Nat.reduceBEq, Nat.reduceAdd, Nat.reduceLeDiff]
      rw [if_neg hc]
      skip
      exact made_flat 0 0 ⟨#[]⟩ _ e3
    have dc := decide_eq_true hc
    simp only [dc, go_sem, Nat.reduceBEq]
    rw [if_pos hc]
    (refine (sIntV _ _).mono ?_; rintro _ _ ⟨rfl, rfl⟩; simp only [go_sem, Nat.reduceBEq, Nat.reduceAdd, Nat.reduceLeDiff])
    exact made_flat 2 _ ⟨#[]⟩ 0 e3
  have dka := decide_eq_true ka
  have dkb := decide_eq_true kb
  have e0 : binOf op a b = unionOf a b := by unfold binOf; rw [if_pos (by omega)]
  rw [e0]
  simp only [o1, dka, dkb, go_sem, Nat.reduceBEq, Nat.reduceAdd, Nat.reduceLeDiff]
  refine (sUnion a b ha hb _ _ _ ra rb).mono ?_
  rintro _ h1 ⟨a1, c1, rfl, m1⟩
  simp only [go_sem, Nat.reduceBEq, Nat.reduceAdd, Nat.reduceLeDiff]
  exact ⟨_, _, rfl, m1⟩
theorem sBin_6 (op : Int) (_hop : IntKind.i64.min ≤ op ∧ op ≤ IntKind.i64.max) (a b : V) (oka : a.ok) (okb : b.ok) (ha : a.bulk ≤ 274877906944) (hb : b.bulk ≤ 274877906944) (sa sb : Value) (h : Hp) (ra : RdE h a.items sa) (rb : RdE h b.items sb) (hE : Env h) (hc : op = 6) :
    ACalls Tryz.prog 6 #[.int .i64 op, .agg #[.int .i64 a.kind, .int .i64 a.num, .string a.str, .int .i64 a.next, sa], .agg #[.int .i64 b.kind, .int .i64 b.num, .string b.str, .int .i64 b.next, sb]] h (MadeI h (binOf op a b).1 (binOf op a b).2) := by
  have hBa := V.bulk_eq a
  have hBb := V.bulk_eq b
  have hna := V.ok_num oka
  have hnb := V.ok_num okb
  have hsa : a.str.size ≤ 1152921504606846976 := by omega
  have hsb : b.str.size ≤ 1152921504606846976 := by omega
  have o1 : decide (op = 1) = false := decide_eq_false (by omega)
  have o6 : decide (op = 6) = true := decide_eq_true hc
  have o7 : decide (op = 7) = false := decide_eq_false (by omega)
  have o8 : decide (op = 8) = false := decide_eq_false (by omega)
  have o9 : decide (op = 9) = false := decide_eq_false (by omega)
  have o10 : decide (op = 10) = false := decide_eq_false (by omega)
  have o11 : decide (op = 11) = false := decide_eq_false (by omega)
  have o12 : decide (op = 12) = false := decide_eq_false (by omega)
  have o13 : decide (op = 13) = false := decide_eq_false (by omega)
  have o14 : decide (op = 14) = false := decide_eq_false (by omega)
  have o15 : decide (op = 15) = false := decide_eq_false (by omega)
  have oin : decide (7 ≤ op ∧ op ≤ 14) = false := decide_eq_false (by omega)
  have e0 : binOf op a b = catOf a b := by unfold binOf; rw [if_neg (by omega)]; rw [if_pos (by omega)]
  rw [e0]
  (refine enter Tryz.func6 rfl rfl (by kernel_rfl) [] ?_; simp only [go_sem, Nat.reduceBEq])
  simp only [o1, o6, go_sem, Nat.reduceBEq, Nat.reduceAdd, Nat.reduceLeDiff]
  refine (slConcat a b hna hnb (by omega) (by omega) _ _ _ ra rb hE).mono ?_
  rintro _ h1 ⟨a1, c1, rfl, m1⟩
  simp only [go_sem, Nat.reduceBEq, Nat.reduceAdd, Nat.reduceLeDiff]
  exact ⟨_, _, rfl, m1⟩
theorem sBin_7 (op : Int) (_hop : IntKind.i64.min ≤ op ∧ op ≤ IntKind.i64.max) (a b : V) (oka : a.ok) (okb : b.ok) (ha : a.bulk ≤ 274877906944) (hb : b.bulk ≤ 274877906944) (sa sb : Value) (h : Hp) (ra : RdE h a.items sa) (rb : RdE h b.items sb) (hE : Env h) (hc : op = 7) :
    ACalls Tryz.prog 6 #[.int .i64 op, .agg #[.int .i64 a.kind, .int .i64 a.num, .string a.str, .int .i64 a.next, sa], .agg #[.int .i64 b.kind, .int .i64 b.num, .string b.str, .int .i64 b.next, sb]] h (MadeI h (binOf op a b).1 (binOf op a b).2) := by
  have hBa := V.bulk_eq a
  have hBb := V.bulk_eq b
  have hna := V.ok_num oka
  have hnb := V.ok_num okb
  have hsa : a.str.size ≤ 1152921504606846976 := by omega
  have hsb : b.str.size ≤ 1152921504606846976 := by omega
  have o1 : decide (op = 1) = false := decide_eq_false (by omega)
  have o6 : decide (op = 6) = false := decide_eq_false (by omega)
  have o7 : decide (op = 7) = true := decide_eq_true hc
  have o8 : decide (op = 8) = false := decide_eq_false (by omega)
  have o9 : decide (op = 9) = false := decide_eq_false (by omega)
  have o10 : decide (op = 10) = false := decide_eq_false (by omega)
  have o11 : decide (op = 11) = false := decide_eq_false (by omega)
  have o12 : decide (op = 12) = false := decide_eq_false (by omega)
  have o13 : decide (op = 13) = false := decide_eq_false (by omega)
  have o14 : decide (op = 14) = false := decide_eq_false (by omega)
  have o15 : decide (op = 15) = false := decide_eq_false (by omega)
  have oin : decide (7 ≤ op ∧ op ≤ 14) = true := decide_eq_true (by omega)
  have e0 : binOf op a b = (boolV (rel op (V.cmp a b)), 0) := by unfold binOf; rw [if_neg (by omega)]; rw [if_neg (by omega)]; rw [if_neg (by omega)]; rw [if_neg (by omega)]; rw [if_neg (by omega)]; rw [if_pos (by omega)]
  rw [e0]
  (refine enter Tryz.func6 rfl rfl (by kernel_rfl) [] ?_; simp only [go_sem, Nat.reduceBEq])
  simp only [o1, o6, o9, o10, o15, go_sem, Nat.reduceBEq]
  try (refine (l1In_c _ _ _ _).mono ?_; rintro _ _ ⟨rfl, rfl⟩; simp only [oin, go_sem, Nat.reduceBEq, Nat.reduceAdd, Nat.reduceLeDiff])
  refine (sCompare a b oka okb (by omega) (by omega) _ _ _ ra rb hE.pow).mono ?_
  rintro _ h1 ⟨rfl, e1⟩
  simp only [go_sem, Nat.reduceBEq]
  refine (sRelation op _ _).mono ?_
  rintro _ h2 ⟨rfl, e2⟩
  simp only [go_sem, Nat.reduceBEq]
  (refine (sBoolV _ _).mono ?_; rintro _ _ ⟨rfl, rfl⟩; simp only [go_sem, Nat.reduceBEq, Nat.reduceAdd, Nat.reduceLeDiff])
  exact made_flat 1 _ ⟨#[]⟩ 0 (e1.trans e2)
theorem sBin_8 (op : Int) (_hop : IntKind.i64.min ≤ op ∧ op ≤ IntKind.i64.max) (a b : V) (oka : a.ok) (okb : b.ok) (ha : a.bulk ≤ 274877906944) (hb : b.bulk ≤ 274877906944) (sa sb : Value) (h : Hp) (ra : RdE h a.items sa) (rb : RdE h b.items sb) (hE : Env h) (hc : op = 8) :
    ACalls Tryz.prog 6 #[.int .i64 op, .agg #[.int .i64 a.kind, .int .i64 a.num, .string a.str, .int .i64 a.next, sa], .agg #[.int .i64 b.kind, .int .i64 b.num, .string b.str, .int .i64 b.next, sb]] h (MadeI h (binOf op a b).1 (binOf op a b).2) := by
  have hBa := V.bulk_eq a
  have hBb := V.bulk_eq b
  have hna := V.ok_num oka
  have hnb := V.ok_num okb
  have hsa : a.str.size ≤ 1152921504606846976 := by omega
  have hsb : b.str.size ≤ 1152921504606846976 := by omega
  have o1 : decide (op = 1) = false := decide_eq_false (by omega)
  have o6 : decide (op = 6) = false := decide_eq_false (by omega)
  have o7 : decide (op = 7) = false := decide_eq_false (by omega)
  have o8 : decide (op = 8) = true := decide_eq_true hc
  have o9 : decide (op = 9) = false := decide_eq_false (by omega)
  have o10 : decide (op = 10) = false := decide_eq_false (by omega)
  have o11 : decide (op = 11) = false := decide_eq_false (by omega)
  have o12 : decide (op = 12) = false := decide_eq_false (by omega)
  have o13 : decide (op = 13) = false := decide_eq_false (by omega)
  have o14 : decide (op = 14) = false := decide_eq_false (by omega)
  have o15 : decide (op = 15) = false := decide_eq_false (by omega)
  have oin : decide (7 ≤ op ∧ op ≤ 14) = true := decide_eq_true (by omega)
  have e0 : binOf op a b = (boolV (rel op (V.cmp a b)), 0) := by unfold binOf; rw [if_neg (by omega)]; rw [if_neg (by omega)]; rw [if_neg (by omega)]; rw [if_neg (by omega)]; rw [if_neg (by omega)]; rw [if_pos (by omega)]
  rw [e0]
  (refine enter Tryz.func6 rfl rfl (by kernel_rfl) [] ?_; simp only [go_sem, Nat.reduceBEq])
  simp only [o1, o6, o9, o10, o15, go_sem, Nat.reduceBEq]
  try (refine (l1In_c _ _ _ _).mono ?_; rintro _ _ ⟨rfl, rfl⟩; simp only [oin, go_sem, Nat.reduceBEq, Nat.reduceAdd, Nat.reduceLeDiff])
  refine (sCompare a b oka okb (by omega) (by omega) _ _ _ ra rb hE.pow).mono ?_
  rintro _ h1 ⟨rfl, e1⟩
  simp only [go_sem, Nat.reduceBEq]
  refine (sRelation op _ _).mono ?_
  rintro _ h2 ⟨rfl, e2⟩
  simp only [go_sem, Nat.reduceBEq]
  (refine (sBoolV _ _).mono ?_; rintro _ _ ⟨rfl, rfl⟩; simp only [go_sem, Nat.reduceBEq, Nat.reduceAdd, Nat.reduceLeDiff])
  exact made_flat 1 _ ⟨#[]⟩ 0 (e1.trans e2)
theorem sBin_9 (op : Int) (_hop : IntKind.i64.min ≤ op ∧ op ≤ IntKind.i64.max) (a b : V) (oka : a.ok) (okb : b.ok) (ha : a.bulk ≤ 274877906944) (hb : b.bulk ≤ 274877906944) (sa sb : Value) (h : Hp) (ra : RdE h a.items sa) (rb : RdE h b.items sb) (_hE : Env h) (hc : op = 9) :
    ACalls Tryz.prog 6 #[.int .i64 op, .agg #[.int .i64 a.kind, .int .i64 a.num, .string a.str, .int .i64 a.next, sa], .agg #[.int .i64 b.kind, .int .i64 b.num, .string b.str, .int .i64 b.next, sb]] h (MadeI h (binOf op a b).1 (binOf op a b).2) := by
  have hBa := V.bulk_eq a
  have hBb := V.bulk_eq b
  have hna := V.ok_num oka
  have hnb := V.ok_num okb
  have hsa : a.str.size ≤ 1152921504606846976 := by omega
  have hsb : b.str.size ≤ 1152921504606846976 := by omega
  have o1 : decide (op = 1) = false := decide_eq_false (by omega)
  have o6 : decide (op = 6) = false := decide_eq_false (by omega)
  have o7 : decide (op = 7) = false := decide_eq_false (by omega)
  have o8 : decide (op = 8) = false := decide_eq_false (by omega)
  have o9 : decide (op = 9) = true := decide_eq_true hc
  have o10 : decide (op = 10) = false := decide_eq_false (by omega)
  have o11 : decide (op = 11) = false := decide_eq_false (by omega)
  have o12 : decide (op = 12) = false := decide_eq_false (by omega)
  have o13 : decide (op = 13) = false := decide_eq_false (by omega)
  have o14 : decide (op = 14) = false := decide_eq_false (by omega)
  have o15 : decide (op = 15) = false := decide_eq_false (by omega)
  have oin : decide (7 ≤ op ∧ op ≤ 14) = true := decide_eq_true (by omega)
  have e0 : binOf op a b = (boolV (V.same a b), 0) := by unfold binOf; rw [if_neg (by omega)]; rw [if_neg (by omega)]; rw [if_pos (by omega)]
  rw [e0]
  (refine enter Tryz.func6 rfl rfl (by kernel_rfl) [] ?_; simp only [go_sem, Nat.reduceBEq])
  simp only [o1, o6, o9, go_sem, Nat.reduceBEq, Nat.reduceAdd, Nat.reduceLeDiff]
  (refine (sSame a b (by omega) (by omega) _ _ _ ra rb).mono ?_; rintro _ _ ⟨rfl, rfl⟩; simp only [go_sem, Nat.reduceBEq])
  (refine (sBoolV _ _).mono ?_; rintro _ _ ⟨rfl, rfl⟩; simp only [go_sem, Nat.reduceBEq, Nat.reduceAdd, Nat.reduceLeDiff])
  exact made_flat 1 _ ⟨#[]⟩ 0 (Ext.refl _)
theorem sBin_10 (op : Int) (_hop : IntKind.i64.min ≤ op ∧ op ≤ IntKind.i64.max) (a b : V) (oka : a.ok) (okb : b.ok) (ha : a.bulk ≤ 274877906944) (hb : b.bulk ≤ 274877906944) (sa sb : Value) (h : Hp) (ra : RdE h a.items sa) (rb : RdE h b.items sb) (_hE : Env h) (hc : op = 10) :
    ACalls Tryz.prog 6 #[.int .i64 op, .agg #[.int .i64 a.kind, .int .i64 a.num, .string a.str, .int .i64 a.next, sa], .agg #[.int .i64 b.kind, .int .i64 b.num, .string b.str, .int .i64 b.next, sb]] h (MadeI h (binOf op a b).1 (binOf op a b).2) := by
  have hBa := V.bulk_eq a
  have hBb := V.bulk_eq b
  have hna := V.ok_num oka
  have hnb := V.ok_num okb
  have hsa : a.str.size ≤ 1152921504606846976 := by omega
  have hsb : b.str.size ≤ 1152921504606846976 := by omega
  have o1 : decide (op = 1) = false := decide_eq_false (by omega)
  have o6 : decide (op = 6) = false := decide_eq_false (by omega)
  have o7 : decide (op = 7) = false := decide_eq_false (by omega)
  have o8 : decide (op = 8) = false := decide_eq_false (by omega)
  have o9 : decide (op = 9) = false := decide_eq_false (by omega)
  have o10 : decide (op = 10) = true := decide_eq_true hc
  have o11 : decide (op = 11) = false := decide_eq_false (by omega)
  have o12 : decide (op = 12) = false := decide_eq_false (by omega)
  have o13 : decide (op = 13) = false := decide_eq_false (by omega)
  have o14 : decide (op = 14) = false := decide_eq_false (by omega)
  have o15 : decide (op = 15) = false := decide_eq_false (by omega)
  have oin : decide (7 ≤ op ∧ op ≤ 14) = true := decide_eq_true (by omega)
  have e0 : binOf op a b = (boolV (!V.same a b), 0) := by unfold binOf; rw [if_neg (by omega)]; rw [if_neg (by omega)]; rw [if_neg (by omega)]; rw [if_pos (by omega)]
  rw [e0]
  (refine enter Tryz.func6 rfl rfl (by kernel_rfl) [] ?_; simp only [go_sem, Nat.reduceBEq])
  simp only [o1, o6, o9, o10, go_sem, Nat.reduceBEq, Nat.reduceAdd, Nat.reduceLeDiff]
  (refine (sSame a b (by omega) (by omega) _ _ _ ra rb).mono ?_; rintro _ _ ⟨rfl, rfl⟩; simp only [go_sem, Nat.reduceBEq])
  (refine (sBoolV _ _).mono ?_; rintro _ _ ⟨rfl, rfl⟩; simp only [go_sem, Nat.reduceBEq, Nat.reduceAdd, Nat.reduceLeDiff])
  exact made_flat 1 _ ⟨#[]⟩ 0 (Ext.refl _)
theorem sBin_11 (op : Int) (_hop : IntKind.i64.min ≤ op ∧ op ≤ IntKind.i64.max) (a b : V) (oka : a.ok) (okb : b.ok) (ha : a.bulk ≤ 274877906944) (hb : b.bulk ≤ 274877906944) (sa sb : Value) (h : Hp) (ra : RdE h a.items sa) (rb : RdE h b.items sb) (hE : Env h) (hc : op = 11) :
    ACalls Tryz.prog 6 #[.int .i64 op, .agg #[.int .i64 a.kind, .int .i64 a.num, .string a.str, .int .i64 a.next, sa], .agg #[.int .i64 b.kind, .int .i64 b.num, .string b.str, .int .i64 b.next, sb]] h (MadeI h (binOf op a b).1 (binOf op a b).2) := by
  have hBa := V.bulk_eq a
  have hBb := V.bulk_eq b
  have hna := V.ok_num oka
  have hnb := V.ok_num okb
  have hsa : a.str.size ≤ 1152921504606846976 := by omega
  have hsb : b.str.size ≤ 1152921504606846976 := by omega
  have o1 : decide (op = 1) = false := decide_eq_false (by omega)
  have o6 : decide (op = 6) = false := decide_eq_false (by omega)
  have o7 : decide (op = 7) = false := decide_eq_false (by omega)
  have o8 : decide (op = 8) = false := decide_eq_false (by omega)
  have o9 : decide (op = 9) = false := decide_eq_false (by omega)
  have o10 : decide (op = 10) = false := decide_eq_false (by omega)
  have o11 : decide (op = 11) = true := decide_eq_true hc
  have o12 : decide (op = 12) = false := decide_eq_false (by omega)
  have o13 : decide (op = 13) = false := decide_eq_false (by omega)
  have o14 : decide (op = 14) = false := decide_eq_false (by omega)
  have o15 : decide (op = 15) = false := decide_eq_false (by omega)
  have oin : decide (7 ≤ op ∧ op ≤ 14) = true := decide_eq_true (by omega)
  have e0 : binOf op a b = (boolV (rel op (V.cmp a b)), 0) := by unfold binOf; rw [if_neg (by omega)]; rw [if_neg (by omega)]; rw [if_neg (by omega)]; rw [if_neg (by omega)]; rw [if_neg (by omega)]; rw [if_pos (by omega)]
  rw [e0]
  (refine enter Tryz.func6 rfl rfl (by kernel_rfl) [] ?_; simp only [go_sem, Nat.reduceBEq])
  simp only [o1, o6, o9, o10, o15, go_sem, Nat.reduceBEq]
  try (refine (l1In_c _ _ _ _).mono ?_; rintro _ _ ⟨rfl, rfl⟩; simp only [oin, go_sem, Nat.reduceBEq, Nat.reduceAdd, Nat.reduceLeDiff])
  refine (sCompare a b oka okb (by omega) (by omega) _ _ _ ra rb hE.pow).mono ?_
  rintro _ h1 ⟨rfl, e1⟩
  simp only [go_sem, Nat.reduceBEq]
  refine (sRelation op _ _).mono ?_
  rintro _ h2 ⟨rfl, e2⟩
  simp only [go_sem, Nat.reduceBEq]
  (refine (sBoolV _ _).mono ?_; rintro _ _ ⟨rfl, rfl⟩; simp only [go_sem, Nat.reduceBEq, Nat.reduceAdd, Nat.reduceLeDiff])
  exact made_flat 1 _ ⟨#[]⟩ 0 (e1.trans e2)
theorem sBin_12 (op : Int) (_hop : IntKind.i64.min ≤ op ∧ op ≤ IntKind.i64.max) (a b : V) (oka : a.ok) (okb : b.ok) (ha : a.bulk ≤ 274877906944) (hb : b.bulk ≤ 274877906944) (sa sb : Value) (h : Hp) (ra : RdE h a.items sa) (rb : RdE h b.items sb) (hE : Env h) (hc : op = 12) :
    ACalls Tryz.prog 6 #[.int .i64 op, .agg #[.int .i64 a.kind, .int .i64 a.num, .string a.str, .int .i64 a.next, sa], .agg #[.int .i64 b.kind, .int .i64 b.num, .string b.str, .int .i64 b.next, sb]] h (MadeI h (binOf op a b).1 (binOf op a b).2) := by
  have hBa := V.bulk_eq a
  have hBb := V.bulk_eq b
  have hna := V.ok_num oka
  have hnb := V.ok_num okb
  have hsa : a.str.size ≤ 1152921504606846976 := by omega
  have hsb : b.str.size ≤ 1152921504606846976 := by omega
  have o1 : decide (op = 1) = false := decide_eq_false (by omega)
  have o6 : decide (op = 6) = false := decide_eq_false (by omega)
  have o7 : decide (op = 7) = false := decide_eq_false (by omega)
  have o8 : decide (op = 8) = false := decide_eq_false (by omega)
  have o9 : decide (op = 9) = false := decide_eq_false (by omega)
  have o10 : decide (op = 10) = false := decide_eq_false (by omega)
  have o11 : decide (op = 11) = false := decide_eq_false (by omega)
  have o12 : decide (op = 12) = true := decide_eq_true hc
  have o13 : decide (op = 13) = false := decide_eq_false (by omega)
  have o14 : decide (op = 14) = false := decide_eq_false (by omega)
  have o15 : decide (op = 15) = false := decide_eq_false (by omega)
  have oin : decide (7 ≤ op ∧ op ≤ 14) = true := decide_eq_true (by omega)
  have e0 : binOf op a b = (boolV (rel op (V.cmp a b)), 0) := by unfold binOf; rw [if_neg (by omega)]; rw [if_neg (by omega)]; rw [if_neg (by omega)]; rw [if_neg (by omega)]; rw [if_neg (by omega)]; rw [if_pos (by omega)]
  rw [e0]
  (refine enter Tryz.func6 rfl rfl (by kernel_rfl) [] ?_; simp only [go_sem, Nat.reduceBEq])
  simp only [o1, o6, o9, o10, o15, go_sem, Nat.reduceBEq]
  try (refine (l1In_c _ _ _ _).mono ?_; rintro _ _ ⟨rfl, rfl⟩; simp only [oin, go_sem, Nat.reduceBEq, Nat.reduceAdd, Nat.reduceLeDiff])
  refine (sCompare a b oka okb (by omega) (by omega) _ _ _ ra rb hE.pow).mono ?_
  rintro _ h1 ⟨rfl, e1⟩
  simp only [go_sem, Nat.reduceBEq]
  refine (sRelation op _ _).mono ?_
  rintro _ h2 ⟨rfl, e2⟩
  simp only [go_sem, Nat.reduceBEq]
  (refine (sBoolV _ _).mono ?_; rintro _ _ ⟨rfl, rfl⟩; simp only [go_sem, Nat.reduceBEq, Nat.reduceAdd, Nat.reduceLeDiff])
  exact made_flat 1 _ ⟨#[]⟩ 0 (e1.trans e2)
theorem sBin_13 (op : Int) (_hop : IntKind.i64.min ≤ op ∧ op ≤ IntKind.i64.max) (a b : V) (oka : a.ok) (okb : b.ok) (ha : a.bulk ≤ 274877906944) (hb : b.bulk ≤ 274877906944) (sa sb : Value) (h : Hp) (ra : RdE h a.items sa) (rb : RdE h b.items sb) (hE : Env h) (hc : op = 13) :
    ACalls Tryz.prog 6 #[.int .i64 op, .agg #[.int .i64 a.kind, .int .i64 a.num, .string a.str, .int .i64 a.next, sa], .agg #[.int .i64 b.kind, .int .i64 b.num, .string b.str, .int .i64 b.next, sb]] h (MadeI h (binOf op a b).1 (binOf op a b).2) := by
  have hBa := V.bulk_eq a
  have hBb := V.bulk_eq b
  have hna := V.ok_num oka
  have hnb := V.ok_num okb
  have hsa : a.str.size ≤ 1152921504606846976 := by omega
  have hsb : b.str.size ≤ 1152921504606846976 := by omega
  have o1 : decide (op = 1) = false := decide_eq_false (by omega)
  have o6 : decide (op = 6) = false := decide_eq_false (by omega)
  have o7 : decide (op = 7) = false := decide_eq_false (by omega)
  have o8 : decide (op = 8) = false := decide_eq_false (by omega)
  have o9 : decide (op = 9) = false := decide_eq_false (by omega)
  have o10 : decide (op = 10) = false := decide_eq_false (by omega)
  have o11 : decide (op = 11) = false := decide_eq_false (by omega)
  have o12 : decide (op = 12) = false := decide_eq_false (by omega)
  have o13 : decide (op = 13) = true := decide_eq_true hc
  have o14 : decide (op = 14) = false := decide_eq_false (by omega)
  have o15 : decide (op = 15) = false := decide_eq_false (by omega)
  have oin : decide (7 ≤ op ∧ op ≤ 14) = true := decide_eq_true (by omega)
  have e0 : binOf op a b = (boolV (rel op (V.cmp a b)), 0) := by unfold binOf; rw [if_neg (by omega)]; rw [if_neg (by omega)]; rw [if_neg (by omega)]; rw [if_neg (by omega)]; rw [if_neg (by omega)]; rw [if_pos (by omega)]
  rw [e0]
  (refine enter Tryz.func6 rfl rfl (by kernel_rfl) [] ?_; simp only [go_sem, Nat.reduceBEq])
  simp only [o1, o6, o9, o10, o15, go_sem, Nat.reduceBEq]
  try (refine (l1In_c _ _ _ _).mono ?_; rintro _ _ ⟨rfl, rfl⟩; simp only [oin, go_sem, Nat.reduceBEq, Nat.reduceAdd, Nat.reduceLeDiff])
  refine (sCompare a b oka okb (by omega) (by omega) _ _ _ ra rb hE.pow).mono ?_
  rintro _ h1 ⟨rfl, e1⟩
  simp only [go_sem, Nat.reduceBEq]
  refine (sRelation op _ _).mono ?_
  rintro _ h2 ⟨rfl, e2⟩
  simp only [go_sem, Nat.reduceBEq]
  (refine (sBoolV _ _).mono ?_; rintro _ _ ⟨rfl, rfl⟩; simp only [go_sem, Nat.reduceBEq, Nat.reduceAdd, Nat.reduceLeDiff])
  exact made_flat 1 _ ⟨#[]⟩ 0 (e1.trans e2)
theorem sBin_14 (op : Int) (_hop : IntKind.i64.min ≤ op ∧ op ≤ IntKind.i64.max) (a b : V) (oka : a.ok) (okb : b.ok) (ha : a.bulk ≤ 274877906944) (hb : b.bulk ≤ 274877906944) (sa sb : Value) (h : Hp) (ra : RdE h a.items sa) (rb : RdE h b.items sb) (hE : Env h) (hc : op = 14) :
    ACalls Tryz.prog 6 #[.int .i64 op, .agg #[.int .i64 a.kind, .int .i64 a.num, .string a.str, .int .i64 a.next, sa], .agg #[.int .i64 b.kind, .int .i64 b.num, .string b.str, .int .i64 b.next, sb]] h (MadeI h (binOf op a b).1 (binOf op a b).2) := by
  have hBa := V.bulk_eq a
  have hBb := V.bulk_eq b
  have hna := V.ok_num oka
  have hnb := V.ok_num okb
  have hsa : a.str.size ≤ 1152921504606846976 := by omega
  have hsb : b.str.size ≤ 1152921504606846976 := by omega
  have o1 : decide (op = 1) = false := decide_eq_false (by omega)
  have o6 : decide (op = 6) = false := decide_eq_false (by omega)
  have o7 : decide (op = 7) = false := decide_eq_false (by omega)
  have o8 : decide (op = 8) = false := decide_eq_false (by omega)
  have o9 : decide (op = 9) = false := decide_eq_false (by omega)
  have o10 : decide (op = 10) = false := decide_eq_false (by omega)
  have o11 : decide (op = 11) = false := decide_eq_false (by omega)
  have o12 : decide (op = 12) = false := decide_eq_false (by omega)
  have o13 : decide (op = 13) = false := decide_eq_false (by omega)
  have o14 : decide (op = 14) = true := decide_eq_true hc
  have o15 : decide (op = 15) = false := decide_eq_false (by omega)
  have oin : decide (7 ≤ op ∧ op ≤ 14) = true := decide_eq_true (by omega)
  have e0 : binOf op a b = (boolV (rel op (V.cmp a b)), 0) := by unfold binOf; rw [if_neg (by omega)]; rw [if_neg (by omega)]; rw [if_neg (by omega)]; rw [if_neg (by omega)]; rw [if_neg (by omega)]; rw [if_pos (by omega)]
  rw [e0]
  (refine enter Tryz.func6 rfl rfl (by kernel_rfl) [] ?_; simp only [go_sem, Nat.reduceBEq])
  simp only [o1, o6, o9, o10, o15, go_sem, Nat.reduceBEq]
  try (refine (l1In_c _ _ _ _).mono ?_; rintro _ _ ⟨rfl, rfl⟩; simp only [oin, go_sem, Nat.reduceBEq, Nat.reduceAdd, Nat.reduceLeDiff])
  refine (sCompare a b oka okb (by omega) (by omega) _ _ _ ra rb hE.pow).mono ?_
  rintro _ h1 ⟨rfl, e1⟩
  simp only [go_sem, Nat.reduceBEq]
  refine (sRelation op _ _).mono ?_
  rintro _ h2 ⟨rfl, e2⟩
  simp only [go_sem, Nat.reduceBEq]
  (refine (sBoolV _ _).mono ?_; rintro _ _ ⟨rfl, rfl⟩; simp only [go_sem, Nat.reduceBEq, Nat.reduceAdd, Nat.reduceLeDiff])
  exact made_flat 1 _ ⟨#[]⟩ 0 (e1.trans e2)
theorem sBin_15 (op : Int) (_hop : IntKind.i64.min ≤ op ∧ op ≤ IntKind.i64.max) (a b : V) (oka : a.ok) (okb : b.ok) (ha : a.bulk ≤ 274877906944) (hb : b.bulk ≤ 274877906944) (sa sb : Value) (h : Hp) (ra : RdE h a.items sa) (rb : RdE h b.items sb) (hE : Env h) (hc : op = 15) :
    ACalls Tryz.prog 6 #[.int .i64 op, .agg #[.int .i64 a.kind, .int .i64 a.num, .string a.str, .int .i64 a.next, sa], .agg #[.int .i64 b.kind, .int .i64 b.num, .string b.str, .int .i64 b.next, sb]] h (MadeI h (binOf op a b).1 (binOf op a b).2) := by
  have hBa := V.bulk_eq a
  have hBb := V.bulk_eq b
  have hna := V.ok_num oka
  have hnb := V.ok_num okb
  have hsa : a.str.size ≤ 1152921504606846976 := by omega
  have hsb : b.str.size ≤ 1152921504606846976 := by omega
  have o1 : decide (op = 1) = false := decide_eq_false (by omega)
  have o6 : decide (op = 6) = false := decide_eq_false (by omega)
  have o7 : decide (op = 7) = false := decide_eq_false (by omega)
  have o8 : decide (op = 8) = false := decide_eq_false (by omega)
  have o9 : decide (op = 9) = false := decide_eq_false (by omega)
  have o10 : decide (op = 10) = false := decide_eq_false (by omega)
  have o11 : decide (op = 11) = false := decide_eq_false (by omega)
  have o12 : decide (op = 12) = false := decide_eq_false (by omega)
  have o13 : decide (op = 13) = false := decide_eq_false (by omega)
  have o14 : decide (op = 14) = false := decide_eq_false (by omega)
  have o15 : decide (op = 15) = true := decide_eq_true hc
  have oin : decide (7 ≤ op ∧ op ≤ 14) = false := decide_eq_false (by omega)
  have e0 : binOf op a b = (intV (V.cmp a b), 0) := by unfold binOf; rw [if_neg (by omega)]; rw [if_neg (by omega)]; rw [if_neg (by omega)]; rw [if_neg (by omega)]; rw [if_pos (by omega)]
  rw [e0]
  (refine enter Tryz.func6 rfl rfl (by kernel_rfl) [] ?_; simp only [go_sem, Nat.reduceBEq])
  simp only [o1, o6, o9, o10, o15, go_sem, Nat.reduceBEq, Nat.reduceAdd, Nat.reduceLeDiff]
  refine (sCompare a b oka okb (by omega) (by omega) _ _ _ ra rb hE.pow).mono ?_
  rintro _ h1 ⟨rfl, e1⟩
  simp only [go_sem, Nat.reduceBEq]
  (refine (sIntV _ _).mono ?_; rintro _ _ ⟨rfl, rfl⟩; simp only [go_sem, Nat.reduceBEq, Nat.reduceAdd, Nat.reduceLeDiff])
  exact made_flat 2 _ ⟨#[]⟩ 0 e1
theorem sBin_0 (op : Int) (_hop : IntKind.i64.min ≤ op ∧ op ≤ IntKind.i64.max) (a b : V) (oka : a.ok) (okb : b.ok) (ha : a.bulk ≤ 274877906944) (hb : b.bulk ≤ 274877906944) (sa sb : Value) (h : Hp) (ra : RdE h a.items sa) (rb : RdE h b.items sb) (_hE : Env h) (hc : ¬ op = 1 ∧ ¬ op = 6 ∧ ¬ op = 7 ∧ ¬ op = 8 ∧ ¬ op = 9 ∧ ¬ op = 10 ∧ ¬ op = 11 ∧ ¬ op = 12 ∧ ¬ op = 13 ∧ ¬ op = 14 ∧ ¬ op = 15) :
    ACalls Tryz.prog 6 #[.int .i64 op, .agg #[.int .i64 a.kind, .int .i64 a.num, .string a.str, .int .i64 a.next, sa], .agg #[.int .i64 b.kind, .int .i64 b.num, .string b.str, .int .i64 b.next, sb]] h (MadeI h (binOf op a b).1 (binOf op a b).2) := by
  have hBa := V.bulk_eq a
  have hBb := V.bulk_eq b
  have hna := V.ok_num oka
  have hnb := V.ok_num okb
  have hsa : a.str.size ≤ 1152921504606846976 := by omega
  have hsb : b.str.size ≤ 1152921504606846976 := by omega
  have o1 : decide (op = 1) = false := decide_eq_false (by omega)
  have o6 : decide (op = 6) = false := decide_eq_false (by omega)
  have o7 : decide (op = 7) = false := decide_eq_false (by omega)
  have o8 : decide (op = 8) = false := decide_eq_false (by omega)
  have o9 : decide (op = 9) = false := decide_eq_false (by omega)
  have o10 : decide (op = 10) = false := decide_eq_false (by omega)
  have o11 : decide (op = 11) = false := decide_eq_false (by omega)
  have o12 : decide (op = 12) = false := decide_eq_false (by omega)
  have o13 : decide (op = 13) = false := decide_eq_false (by omega)
  have o14 : decide (op = 14) = false := decide_eq_false (by omega)
  have o15 : decide (op = 15) = false := decide_eq_false (by omega)
  have oin : decide (7 ≤ op ∧ op ≤ 14) = false := decide_eq_false (by omega)
  have e0 : binOf op a b = numOf op a b := by unfold binOf; rw [if_neg (by omega)]; rw [if_neg (by omega)]; rw [if_neg (by omega)]; rw [if_neg (by omega)]; rw [if_neg (by omega)]; rw [if_neg (by omega)]
  rw [e0]
  (refine enter Tryz.func6 rfl rfl (by kernel_rfl) [] ?_; simp only [go_sem, Nat.reduceBEq])
  simp only [o1, o6, o9, o10, o15, go_sem, Nat.reduceBEq]
  try (refine (l1In_c _ _ _ _).mono ?_; rintro _ _ ⟨rfl, rfl⟩; simp only [oin, go_sem, Nat.reduceBEq, Nat.reduceAdd, Nat.reduceLeDiff])
  refine (sToNumber a hsa _ _ ra).mono ?_
  rintro _ _ ⟨rfl, rfl⟩
  simp only [go_sem, Nat.reduceBEq, Nat.reduceAdd, Nat.reduceLeDiff]
  refine (sToNumber b hsb _ _ rb).mono ?_
  rintro _ _ ⟨rfl, rfl⟩
  unfold numOf
  by_cases h1 : (toNum a).2 = 0
  case neg =>
    have d1 := decide_eq_false h1
    simp only [d1, go_sem, Nat.reduceBEq, Nat.reduceAdd, Nat.reduceLeDiff]
    rw [if_pos (.inl h1)]
    skip
    exact made_flat 0 0 ⟨#[]⟩ 2 (Ext.refl _)
  by_cases h2 : (toNum b).2 = 0
  case neg =>
    have d1 := decide_eq_true h1
    have d2 := decide_eq_false h2
    simp only [d1, d2, go_sem, Nat.reduceBEq, Nat.reduceAdd, Nat.reduceLeDiff]
    rw [if_pos (.inr h2)]
    skip
    exact made_flat 0 0 ⟨#[]⟩ 2 (Ext.refl _)
  have d1 := decide_eq_true h1
  have d2 := decide_eq_true h2
  simp only [d1, d2, go_sem, Nat.reduceBEq]
  rw [if_neg (fun k => k.elim (fun k => k h1) (fun k => k h2))]
  refine (sArith _ _ _ _).mono ?_
  rintro _ h3 ⟨rfl, e3⟩
  by_cases hc : (arith op (toNum a).1 (toNum b).1).2 = 0
  case neg =>
    have dc := decide_eq_false hc
    simp only [dc, go_sem, Nat.reduceBEq, Nat.reduceAdd, Nat.reduceLeDiff]
    rw [if_neg hc]
    skip
    exact made_flat 0 0 ⟨#[]⟩ _ e3
  have dc := decide_eq_true hc
  simp only [dc, go_sem, Nat.reduceBEq]
  rw [if_pos hc]
  (refine (sIntV _ _).mono ?_; rintro _ _ ⟨rfl, rfl⟩; simp only [go_sem, Nat.reduceBEq, Nat.reduceAdd, Nat.reduceLeDiff])
  exact made_flat 2 _ ⟨#[]⟩ 0 e3
theorem sBinary (op : Int) (hop : IntKind.i64.min ≤ op ∧ op ≤ IntKind.i64.max) (a b : V) (oka : a.ok) (okb : b.ok) (ha : a.bulk ≤ 274877906944) (hb : b.bulk ≤ 274877906944) (sa sb : Value) (h : Hp) (ra : RdE h a.items sa) (rb : RdE h b.items sb) (hE : Env h) :
    ACalls Tryz.prog 6 #[.int .i64 op, .agg #[.int .i64 a.kind, .int .i64 a.num, .string a.str, .int .i64 a.next, sa], .agg #[.int .i64 b.kind, .int .i64 b.num, .string b.str, .int .i64 b.next, sb]] h (MadeI h (binOf op a b).1 (binOf op a b).2) := by
  rcases (show op = 1 ∨ op = 6 ∨ op = 7 ∨ op = 8 ∨ op = 9 ∨ op = 10 ∨ op = 11 ∨ op = 12 ∨ op = 13 ∨ op = 14 ∨ op = 15 ∨ (¬ op = 1 ∧ ¬ op = 6 ∧ ¬ op = 7 ∧ ¬ op = 8 ∧ ¬ op = 9 ∧ ¬ op = 10 ∧ ¬ op = 11 ∧ ¬ op = 12 ∧ ¬ op = 13 ∧ ¬ op = 14 ∧ ¬ op = 15) from by omega) with hc | hc | hc | hc | hc | hc | hc | hc | hc | hc | hc | hc
  · exact sBin_1 op hop a b oka okb ha hb sa sb h ra rb hE hc
  · exact sBin_6 op hop a b oka okb ha hb sa sb h ra rb hE hc
  · exact sBin_7 op hop a b oka okb ha hb sa sb h ra rb hE hc
  · exact sBin_8 op hop a b oka okb ha hb sa sb h ra rb hE hc
  · exact sBin_9 op hop a b oka okb ha hb sa sb h ra rb hE hc
  · exact sBin_10 op hop a b oka okb ha hb sa sb h ra rb hE hc
  · exact sBin_11 op hop a b oka okb ha hb sa sb h ra rb hE hc
  · exact sBin_12 op hop a b oka okb ha hb sa sb h ra rb hE hc
  · exact sBin_13 op hop a b oka okb ha hb sa sb h ra rb hE hc
  · exact sBin_14 op hop a b oka okb ha hb sa sb h ra rb hE hc
  · exact sBin_15 op hop a b oka okb ha hb sa sb h ra rb hE hc
  · exact sBin_0 op hop a b oka okb ha hb sa sb h ra rb hE hc
theorem iUnary (op : Int) (a : V) (oka : a.ok) (ha : a.bulk ≤ 274877906944) (sa : Value) (h : Hp) (ra : RdE h a.items sa) (hE : Env h) :
    ACalls Tryz.prog 13 #[.int .i64 op, .agg #[.int .i64 a.kind, .int .i64 a.num, .string a.str, .int .i64 a.next, sa]] h (MadeI h (unOf op a).1 (unOf op a).2) := by
  (refine enter Tryz.func13 rfl rfl (by kernel_rfl) [] ?_; simp only [go_sem, Nat.reduceBEq])
  by_cases h1 : op = 1
  · have d1 := decide_eq_true h1
    simp only [d1, go_sem, Nat.reduceBEq, Nat.reduceAdd, Nat.reduceLeDiff]
    (refine (iToBool a _ _ ra).mono ?_; rintro _ _ ⟨rfl, rfl⟩; simp only [go_sem, Nat.reduceBEq])
    (refine (iBoolV _ _).mono ?_; rintro _ _ ⟨rfl, rfl⟩; simp only [go_sem, Nat.reduceBEq, Nat.reduceAdd, Nat.reduceLeDiff])
    unfold unOf
    rw [if_pos h1]
    exact made_flat 1 _ ⟨#[]⟩ 0 (Ext.refl _)
  have d1 := decide_eq_false h1
  by_cases h2 : op = 2
  · have d2 := decide_eq_true h2
    simp only [d1, d2, go_sem, Nat.reduceBEq]
    refine regionD_intro (lb := [16]) (by kernel_rfl) ?_
    simp only [go_sem]
    (refine (iIntV _ _).mono ?_; rintro _ _ ⟨rfl, rfl⟩; simp only [go_sem, Nat.reduceBEq, Nat.reduceAdd, Nat.reduceLeDiff])
    have ok0 : (intV 0).ok := by
      unfold intV
      simp only [V.ok, V.oks, List.length_nil]
      decide
    refine (iBinary 2 (by decide) (intV 0) a ok0 oka (by decide) ha _ _ _ (rd_flat _) ra hE).mono ?_
    rintro _ h3 ⟨a3, c3, rfl, m3⟩
    simp only [go_sem, Nat.reduceBEq, Nat.reduceAdd, Nat.reduceLeDiff]
    unfold unOf
    rw [if_neg h1, if_pos h2]
    exact ⟨_, _, rfl, m3⟩
  have d2 := decide_eq_false h2
  simp only [d1, d2, go_sem, Nat.reduceBEq]
  (refine (iNull _).mono ?_; rintro _ _ ⟨rfl, rfl⟩; simp only [go_sem, Nat.reduceBEq, Nat.reduceAdd, Nat.reduceLeDiff])
  unfold unOf
  rw [if_neg h1, if_neg h2]
  exact made_flat 0 0 ⟨#[]⟩ 2 (Ext.refl _)
theorem sUnary (op : Int) (a : V) (oka : a.ok) (ha : a.bulk ≤ 274877906944) (sa : Value) (h : Hp) (ra : RdE h a.items sa) (hE : Env h) :
    ACalls Tryz.prog 12 #[.int .i64 op, .agg #[.int .i64 a.kind, .int .i64 a.num, .string a.str, .int .i64 a.next, sa]] h (MadeI h (unOf op a).1 (unOf op a).2) := by
  (refine enter Tryz.func12 rfl rfl (by kernel_rfl) [] ?_; simp only [go_sem, Nat.reduceBEq])
  by_cases h1 : op = 1
  · have d1 := decide_eq_true h1
    simp only [d1, go_sem, Nat.reduceBEq, Nat.reduceAdd, Nat.reduceLeDiff]
    (refine (sToBool a _ _ ra).mono ?_; rintro _ _ ⟨rfl, rfl⟩; simp only [go_sem, Nat.reduceBEq])
    (refine (sBoolV _ _).mono ?_; rintro _ _ ⟨rfl, rfl⟩; simp only [go_sem, Nat.reduceBEq, Nat.reduceAdd, Nat.reduceLeDiff])
    unfold unOf
    rw [if_pos h1]
    exact made_flat 1 _ ⟨#[]⟩ 0 (Ext.refl _)
  have d1 := decide_eq_false h1
  by_cases h2 : op = 2
  · have d2 := decide_eq_true h2
    simp only [d1, d2, go_sem, Nat.reduceBEq]
    refine regionD_intro (lb := [15]) (by kernel_rfl) ?_
    simp only [go_sem]
    (refine (sIntV _ _).mono ?_; rintro _ _ ⟨rfl, rfl⟩; simp only [go_sem, Nat.reduceBEq, Nat.reduceAdd, Nat.reduceLeDiff])
    have ok0 : (intV 0).ok := by
      unfold intV
      simp only [V.ok, V.oks, List.length_nil]
      decide
    refine (sBinary 2 (by decide) (intV 0) a ok0 oka (by decide) ha _ _ _ (rd_flat _) ra hE).mono ?_
    rintro _ h3 ⟨a3, c3, rfl, m3⟩
    simp only [go_sem, Nat.reduceBEq, Nat.reduceAdd, Nat.reduceLeDiff]
    unfold unOf
    rw [if_neg h1, if_pos h2]
    exact ⟨_, _, rfl, m3⟩
  have d2 := decide_eq_false h2
  simp only [d1, d2, go_sem, Nat.reduceBEq, Nat.reduceAdd, Nat.reduceLeDiff]
  skip
  unfold unOf
  rw [if_neg h1, if_neg h2]
  exact made_flat 0 0 ⟨#[]⟩ 2 (Ext.refl _)
end Go.Proofs.YtpfongmnmcmnaaaGreatDoor
namespace Go.Proofs.YtpfongmnmcmnaaaGreatDoor
set_option maxRecDepth 8000
open Go Go.Sx
def EqEntry (e : Ky × V) : Prop := ∀ (h : Hp) (ys zs : List Value), RdL h (edt e) ys → RdL h (edt e) zs → ACalls Tryz.prog 73 #[.agg ys.toArray, .agg zs.toArray] h (Pu (.bool true) h)
theorem eqEntryS_s (l : List (Ky × V)) (ih : ∀ e ∈ l, EqEntry e) (hl : l.length ≤ 4611686018427387904) (s1 s2 : Value) (h : Hp) (r1 : Rd h (.row 8 (l.flatMap edt)) s1) (r2 : Rd h (.row 8 (l.flatMap edt)) s2) :
    ACalls Tryz.prog 37 #[s1, s2] h (Pu (.bool true) h) := by
  obtain ⟨a1, c1, xs1, rfl, hc1, hr1, hat1⟩ := r1.rows (by decide) l.length (fm_len edt_len l)
  obtain ⟨a2, c2, xs2, rfl, hc2, hr2, hat2⟩ := r2.rows (by decide) l.length (fm_len edt_len l)
  (refine enter Tryz.func37 rfl rfl (by kernel_rfl) [] ?_; simp only [go_sem, Nat.reduceBEq])
  refine aloop (ι := Nat) (fun i => [(5, .val (.int .i64 (i : Nat))), (0, .val (.slice a1 l.length c1)), (1, .val (.slice a2 l.length c2))]) (fun _ => []) (fun i h' => i ≤ l.length ∧ h' = h) (fun i => l.length - i) 0 ⟨Nat.zero_le _, rfl⟩ (by repeat (first | exact wkF_e | refine wkF_c rfl ?_)) wkB_e rfl ?_
  rintro i _ ⟨hi, rfl⟩
  simp only [go_sem, Nat.reduceBEq]
  refine Br.intro (fun hb => ?_) (fun hb => ?_) <;> (try simp only [hb, go_sem, Nat.reduceBEq])
  · have hb : i < l.length := by simpa using hb
    obtain ⟨b1, o1, rfl, hat1'⟩ := hat1 (by omega)
    obtain ⟨b2, o2, rfl, hat2'⟩ := hat2 (by omega)
    obtain ⟨e, he, hm⟩ := get_lt hb
    have wsu := wrap_succ (i := i) (by omega)
    refine regionD_intro (lb := []) (by kernel_rfl) ?_
    simp only [ix_nat hb, go_sem, Nat.reduceBEq]
    refine hsem_row (f := edt) (o := 0) (ds := edt e) edt_len tyS64 hat1' hr1 he (Nat.le_refl _) (by rw [List.drop_zero, List.take_of_length_le (Nat.le_of_eq (edt_len e))]) ?_ fun ys1 q1 => ?_
    · omega
    simp only [ix_nat hb, go_sem, Nat.reduceBEq]
    refine hsem_row (f := edt) (o := 0) (ds := edt e) edt_len tyS64 hat2' hr2 he (Nat.le_refl _) (by rw [List.drop_zero, List.take_of_length_le (Nat.le_of_eq (edt_len e))]) ?_ fun ys2 q2 => ?_
    · omega
    simp only [go_sem, Nat.reduceBEq]
    (refine (ih e hm _ _ _ q1 q2).mono ?_; rintro _ _ ⟨rfl, rfl⟩; simp only [go_sem, Nat.reduceBEq])
    simp only [wsu, go_sem]
    exact Again.intro (i + 1) (by first | omega | (simp only; omega)) ⟨hb, rfl⟩ (by repeat (first | exact wkF_e | refine wkF_c rfl ?_)) wkB_e rfl
  · exact ⟨rfl, rfl⟩
def ToEntry (e : Ky × V) : Prop := ∀ (h : Hp) (ys : List Value), RdL h (edt e) ys → ACalls Tryz.prog 56 #[.agg ys.toArray] h fun u h' => ∃ us, u = .agg us.toArray ∧ us.length = 8 ∧ My h h' ((edt e).zip us)
theorem toEntryS_s (l : List (Ky × V)) (ih : ∀ e ∈ l, ToEntry e) (hl : l.length ≤ 1048576) (sl : Value) (h : Hp) (rd : Rd h (.row 8 (l.flatMap edt)) sl) :
    ACalls Tryz.prog 25 #[sl] h fun u h' => My h h' [(.row 8 (l.flatMap edt), u)] := by
  obtain ⟨a, c, xs, rfl, hc, hr, hat⟩ := rd.rows (by decide) l.length (fm_len edt_len l)
  (refine enter Tryz.func25 rfl rfl (by kernel_rfl) [] ?_; simp only [go_sem, Nat.reduceBEq])
  refine hsem_my_make slT26 (by decide) rfl rfl hl (by decide) (My.nil (Ext.refl h)) fun bo h1 m1 => ?_
  simp only [go_sem, Nat.reduceBEq]
  generalize hzz : SlT.zero _ = zz at m1
  refine aloop (ι := Nat) (fun i => [(4, .val (.int .i64 (i : Nat))), (3, .val (.slice (some ⟨bo, 0, none⟩) l.length l.length)), (0, .val (.slice a l.length c))]) (fun _ => []) (fun i h' => i ≤ l.length ∧ My h h' [(.row 8 ((l.take i).flatMap edt ++ zeros zz (l.length - i)), .slice (some ⟨bo, 0, none⟩) l.length l.length)]) (fun i => l.length - i) 0
    ⟨Nat.zero_le _, m1⟩ (by repeat (first | exact wkF_e | refine wkF_c rfl ?_)) wkB_e rfl ?_
  rintro i h2 ⟨hi, m2⟩
  have hi : i ≤ l.length := hi
  have m2 : My h h2 [(.row 8 ((l.take i).flatMap edt ++ zeros zz (l.length - i)), .slice (some ⟨bo, 0, none⟩) l.length l.length)] := m2
  simp only [go_sem, Nat.reduceBEq]
  refine Br.intro (fun hb => ?_) (fun hb => ?_) <;> (try simp only [hb, go_sem, Nat.reduceBEq])
  · have hb : i < l.length := by simpa using hb
    obtain ⟨b, o, rfl, hat'⟩ := hat (by omega)
    have hat2 := hat'.mono m2.ext
    have hr2 := hr.mono m2.ext
    obtain ⟨e, he, hm⟩ := get_lt hb
    have wsu := wrap_succ (i := i) (by omega)
    simp only [ix_nat hb, go_sem, Nat.reduceBEq]
    refine hsem_row (f := edt) (o := 0) (ds := edt e) edt_len tyS59 hat2 hr2 he (Nat.le_refl _) (by rw [List.drop_zero, List.take_of_length_le (Nat.le_of_eq (edt_len e))]) ?_ fun ys1 q1 => ?_
    · omega
    simp only [go_sem, Nat.reduceBEq]
    refine (ih e hm _ _ q1).mono ?_
    rintro _ h3 ⟨us, rfl, hus, n3⟩
    simp only [ix_nat hb, go_sem, Nat.reduceBEq]
    have m3 := m2.add n3
    rw [zeros_sub zz hb] at m3
    refine hsem_my_put tyS64 m3 (by omega) (by rw [List.length_map, ← hzz]; rfl) (edt_len e) hus ?_ fun h4 m4 => ?_
    · rw [fm_len edt_len, List.length_take, Nat.min_eq_left hi]
    simp only [wsu, go_sem, Nat.reduceBEq]
    refine Again.intro (i + 1) (by first | omega | (simp only; omega)) ⟨hb, ?_⟩ (by repeat (first | exact wkF_e | refine wkF_c rfl ?_)) wkB_e rfl
    rw [take_snoc he, List.flatMap_append, List.flatMap_cons, List.flatMap_nil, List.append_nil, List.append_assoc]
    exact m4
  · have hb : i = l.length := by simp at hb; omega
    subst hb
    rw [List.take_length, Nat.sub_self] at m2
    simpa [zeros] using m2
end Go.Proofs.YtpfongmnmcmnaaaGreatDoor
namespace Go.Proofs.YtpfongmnmcmnaaaGreatDoor
set_option maxRecDepth 8000
open Go Go.Sx
theorem eqKey_c (k : Ky) (h : Hp) : ACalls Tryz.prog 90 #[.agg #[.bool k.text, .int .i64 k.num, .string k.str], .agg #[.bool k.text, .int .i64 k.num, .string k.str]] h (Pu (.bool true) h) := by
  (refine enter Tryz.func90 rfl rfl (by kernel_rfl) [] ?_; simp only [go_sem, Nat.reduceBEq])
  try simp only [decide_true, Bool.not_true, go_sem, Nat.reduceBEq, Nat.reduceAdd, Nat.reduceLeDiff, Nat.reduceEqDiff, Int.reduceEq, not_false_eq_true, Int.reduceToNat]
  exact ⟨rfl, rfl⟩
def EqV (v : V) : Prop := (V.bulks v.items ≤ 4611686018427387904) → ∀ (h : Hp) (s1 s2 : Value), RdE h v.items s1 → RdE h v.items s2 →
  ACalls Tryz.prog 9 #[.agg #[.int .i64 v.kind, .int .i64 v.num, .string v.str, .int .i64 v.next, s1], .agg #[.int .i64 v.kind, .int .i64 v.num, .string v.str, .int .i64 v.next, s2]] h (Pu (.bool true) h)
theorem bulks_mem : ∀ {es : List (Ky × V)} {e : Ky × V}, e ∈ es → e.2.bulk ≤ V.bulks es
  | (k, v) :: r, e, he => by
    simp only [V.bulks]
    cases he with
    | head => simp only; omega
    | tail _ he => have := bulks_mem he; omega
theorem bulks_len : ∀ es : List (Ky × V), es.length ≤ V.bulks es
  | [] => Nat.le_refl _
  | (k, v) :: r => by
    have := bulks_len r
    simp only [V.bulks, List.length_cons]
    omega
theorem eqEntry_c (e : Ky × V) (ih : EqV e.2) (hb : V.bulks e.2.items ≤ 4611686018427387904) : EqEntry e := by
  intro h ys zs r1 r2
  obtain ⟨s1, rfl, q1⟩ := RdL_entry r1
  obtain ⟨s2, rfl, q2⟩ := RdL_entry r2
  (refine enter Tryz.func73 rfl rfl (by kernel_rfl) [] ?_; simp only [go_sem, Nat.reduceBEq, Nat.reduceAdd, Nat.reduceLeDiff])
  (refine (eqKey_c e.1 _).mono ?_; rintro _ _ ⟨rfl, rfl⟩; simp only [go_sem, Nat.reduceBEq, Nat.reduceAdd, Nat.reduceLeDiff])
  try simp only [Bool.not_true, go_sem, Nat.reduceBEq, Nat.reduceAdd, Nat.reduceLeDiff, Nat.reduceEqDiff, Int.reduceEq, not_false_eq_true, Int.reduceToNat]
  (refine (ih hb _ _ _ q1 q2).mono ?_; rintro _ _ ⟨rfl, rfl⟩; simp only [go_sem, Nat.reduceBEq])
  try simp only [Bool.not_true, go_sem, Nat.reduceBEq, Nat.reduceAdd, Nat.reduceLeDiff, Nat.reduceEqDiff, Int.reduceEq, not_false_eq_true, Int.reduceToNat]
  exact ⟨rfl, rfl⟩
theorem eqValue_c : ∀ v, EqV v := V.ind fun v ih hb h s1 s2 r1 r2 => by
  (refine enter Tryz.func9 rfl rfl (by kernel_rfl) [] ?_; simp only [go_sem, Nat.reduceBEq])
  try simp only [decide_true, Bool.not_true, go_sem, Nat.reduceBEq, Nat.reduceAdd, Nat.reduceLeDiff, Nat.reduceEqDiff, Int.reduceEq, not_false_eq_true, Int.reduceToNat]
  have hl := bulks_len v.items
  (refine (eqEntryS_s v.items (fun e he => eqEntry_c e (ih e he) (by have := bulks_mem he; rw [V.bulk_eq] at this; omega)) (by omega) _ _ _ r1 r2).mono ?_; rintro _ _ ⟨rfl, rfl⟩; simp only [go_sem, Nat.reduceBEq])
  try simp only [Bool.not_true, go_sem, Nat.reduceBEq, Nat.reduceAdd, Nat.reduceLeDiff, Nat.reduceEqDiff, Int.reduceEq, not_false_eq_true, Int.reduceToNat]
  exact ⟨rfl, rfl⟩
theorem eqVal_c (v : V) (hb : v.bulk ≤ 4611686018427387904) (h : Hp) (ys zs : List Value) (r1 : RdL h v.dt ys) (r2 : RdL h v.dt zs) : ACalls Tryz.prog 9 #[.agg ys.toArray, .agg zs.toArray] h (Pu (.bool true) h) := by
  obtain ⟨s1, rfl, q1⟩ := RdL_val r1
  obtain ⟨s2, rfl, q2⟩ := RdL_val r2
  exact eqValue_c v (by rw [V.bulk_eq] at hb; omega) _ _ _ q1 q2
theorem toKey_c (k : Ky) (h : Hp) : ACalls Tryz.prog 84 #[.agg #[.bool k.text, .int .i64 k.num, .string k.str]] h (Pu (.agg #[.bool k.text, .int .i64 k.num, .string k.str]) h) := by
  (refine enter Tryz.func84 rfl rfl (by kernel_rfl) [] ?_; simp only [go_sem, Nat.reduceBEq, Nat.reduceAdd, Nat.reduceLeDiff])
  exact ⟨rfl, rfl⟩
def ToV (v : V) : Prop := v.bulk ≤ 1048576 → ∀ (h : Hp) (sl : Value), RdE h v.items sl →
  ACalls Tryz.prog 7 #[.agg #[.int .i64 v.kind, .int .i64 v.num, .string v.str, .int .i64 v.next, sl]] h fun u h' => ∃ s, u = .agg #[.int .i64 v.kind, .int .i64 v.num, .string v.str, .int .i64 v.next, s] ∧ My h h' [(.row 8 (v.items.flatMap edt), s)]
theorem toEntry_c (e : Ky × V) (ih : ToV e.2) (hb : e.2.bulk ≤ 1048576) : ToEntry e := by
  intro h ys r1
  obtain ⟨s1, rfl, q1⟩ := RdL_entry r1
  (refine enter Tryz.func56 rfl rfl (by kernel_rfl) [] ?_; simp only [go_sem, Nat.reduceBEq, Nat.reduceAdd, Nat.reduceLeDiff])
  (refine (toKey_c e.1 _).mono ?_; rintro _ _ ⟨rfl, rfl⟩; simp only [go_sem, Nat.reduceBEq, Nat.reduceAdd, Nat.reduceLeDiff])
  refine (ih hb _ _ q1).mono ?_
  rintro _ h2 ⟨s, rfl, m⟩
  obtain ⟨a, c, rfl, _⟩ := m.row_shape (by decide) e.2.items.length (fm_len edt_len _)
  simp only [go_sem, Nat.reduceBEq, Nat.reduceAdd, Nat.reduceLeDiff]
  refine ⟨_, rfl, rfl, ?_⟩
  simp only [edt_eq, List.zip_cons_cons, List.zip_nil_right, My.raw_iff, one_bool, one_int, one_str, and_self, true_and]
  exact m
theorem toValue_c : ∀ v, ToV v := V.ind fun v ih hb h sl rd => by
  (refine enter Tryz.func7 rfl rfl (by kernel_rfl) [] ?_; simp only [go_sem, Nat.reduceBEq, Nat.reduceAdd, Nat.reduceLeDiff])
  have h1 := V.bulk_eq v
  have hl := bulks_len v.items
  refine (toEntryS_s v.items (fun e he => toEntry_c e (ih e he) (by have := bulks_mem he; omega)) (by omega) _ _ rd).mono ?_
  rintro u h2 m
  obtain ⟨a, c, rfl, _⟩ := m.row_shape (by decide) v.items.length (fm_len edt_len _)
  simp only [go_sem, Nat.reduceBEq, Nat.reduceAdd, Nat.reduceLeDiff]
  exact ⟨_, rfl, m⟩
theorem toV_c (v : V) (hb : v.bulk ≤ 1048576) (h : Hp) (sl : Value) (rd : RdE h v.items sl) :
  ACalls Tryz.prog 7 #[.agg #[.int .i64 v.kind, .int .i64 v.num, .string v.str, .int .i64 v.next, sl]] h fun u h' => ∃ a c, u = .agg #[.int .i64 v.kind, .int .i64 v.num, .string v.str, .int .i64 v.next, .slice a v.items.length c] ∧ My h h' [(.row 8 (v.items.flatMap edt), .slice a v.items.length c)] := by
  refine (toValue_c v hb h sl rd).mono ?_
  rintro _ h2 ⟨s, rfl, m⟩
  obtain ⟨a, c, rfl, _⟩ := m.row_shape (by decide) v.items.length (fm_len edt_len _)
  exact ⟨a, c, rfl, m⟩
end Go.Proofs.YtpfongmnmcmnaaaGreatDoor
namespace Go.Proofs.YtpfongmnmcmnaaaGreatDoor
set_option maxRecDepth 8000
open Go Go.Sx
theorem szKey_c (k : Ky) (hk : k.ok) (l : Int) (h0 : 0 ≤ l) (h1 : l ≤ 1048576) (h : Hp) : ACalls Tryz.prog 75 #[.agg #[.bool k.text, .int .i64 k.num, .string k.str], .int .i64 l] h (Pu (.int .i64 (less l k.str.size)) h) := by
  (refine enter Tryz.func75 rfl rfl (by kernel_rfl) [] ?_; simp only [go_sem, Nat.reduceBEq])
  simp only [less_wrap h0 h1 hk.2, go_sem]
  refine Br.intro (fun hb => ?_) (fun hb => ?_) <;> (try simp only [hb, go_sem, Nat.reduceBEq])
  · have hb : l - (k.str.size : Int) < 0 := by simpa using hb
    exact ⟨by unfold less; rw [if_neg (by omega)], rfl⟩
  · have hb : ¬ l - (k.str.size : Int) < 0 := by simpa using hb
    exact ⟨by unfold less; rw [if_pos (by omega)], rfl⟩
def SzV (v : V) : Prop := v.ok → ∀ (sl : Value) (l : Int) (h : Hp), RdE h v.items sl → 0 ≤ l → l ≤ 1048576 →
  ACalls Tryz.prog 5 #[.agg #[.int .i64 v.kind, .int .i64 v.num, .string v.str, .int .i64 v.next, sl], .int .i64 l] h (Pu (.int .i64 (less l v.bulk)) h)
theorem szEntry_c (e : Ky × V) (ih : SzV e.2) (h1 : e.1.ok) (h2 : e.2.ok) (sl : Value) (l : Int) (h : Hp) (rd : RdE h e.2.items sl) (l0 : 0 ≤ l) (l1 : l ≤ 1048576) :
    ACalls Tryz.prog 42 #[.agg #[.bool e.1.text, .int .i64 e.1.num, .string e.1.str, .int .i64 e.2.kind, .int .i64 e.2.num, .string e.2.str, .int .i64 e.2.next, sl], .int .i64 l] h (Pu (.int .i64 (less l (e.1.str.size + e.2.bulk))) h) := by
  (refine enter Tryz.func42 rfl rfl (by kernel_rfl) [] ?_; simp only [go_sem, Nat.reduceBEq, Nat.reduceAdd, Nat.reduceLeDiff])
  (refine (szKey_c _ h1 _ l0 l1 _).mono ?_; rintro _ _ ⟨rfl, rfl⟩; simp only [go_sem, Nat.reduceBEq])
  refine Br.intro (fun hb => ?_) (fun hb => ?_) <;> (try simp only [hb, go_sem, Nat.reduceBEq, Nat.reduceAdd, Nat.reduceLeDiff])
  · have hb : less l e.1.str.size < 0 := by simpa using hb
    exact ⟨by rw [less_neg hb], rfl⟩
  · have hb : 0 ≤ less l e.1.str.size := by simpa using hb
    (refine (ih h2 _ _ _ rd hb (less_le l1)).mono ?_; rintro _ _ ⟨rfl, rfl⟩; simp only [go_sem, Nat.reduceBEq])
    rw [less_add hb]
    refine Br.intro (fun hc => ?_) (fun hc => ?_) <;> (try simp only [hc, go_sem, Nat.reduceBEq])
    · have hc : less l (e.1.str.size + e.2.bulk) < 0 := by simpa using hc
      exact ⟨by rw [less_is hc], rfl⟩
    · exact ⟨rfl, rfl⟩
def wsum (es : List (Ky × V)) : Nat := (es.map fun e => e.1.str.size + e.2.bulk).sum
theorem wsum_snoc {es : List (Ky × V)} {i : Nat} {e : Ky × V} (hi : es[i]? = some e) : wsum (es.take (i + 1)) = wsum (es.take i) + (e.1.str.size + e.2.bulk) := by
  rw [List.take_add_one, hi]; simp [wsum]
theorem wsum_split (es : List (Ky × V)) (k : Nat) : wsum es = wsum (es.take k) + wsum (es.drop k) := by
  unfold wsum; rw [← List.sum_append, ← List.map_append, List.take_append_drop]
theorem bulks_eq : ∀ es : List (Ky × V), V.bulks es = es.length + wsum es
  | [] => rfl
  | (k, v) :: r => by simp only [V.bulks, bulks_eq r, wsum, List.length_cons, List.map_cons, List.sum_cons]; omega
theorem szEntryS_c (es : List (Ky × V)) (ih : ∀ e ∈ es, SzV e.2) (ok : V.oks es) (hl : es.length ≤ maxLen) (sl : Value) (l : Int) (h : Hp) (rd : RdE h es sl) (l0 : 0 ≤ l) (l1 : l ≤ 1048576) :
    ACalls Tryz.prog 14 #[sl, .int .i64 l] h (Pu (.int .i64 (less l (V.bulks es))) h) := by
  obtain ⟨a, c, xs, rfl, hc, hr, hat⟩ := rd.rows (by decide) es.length (fm_len edt_len es)
  (refine enter Tryz.func14 rfl rfl (by kernel_rfl) [] ?_; simp only [go_sem, Nat.reduceBEq])
  simp only [less_wrap l0 l1 hl, go_sem]
  refine Br.intro (fun hb => ?_) (fun hb => ?_) <;> (try simp only [hb, go_sem, Nat.reduceBEq])
  · have hb : l - (es.length : Int) < 0 := by simpa using hb
    exact ⟨by rw [bulks_eq, less_neg (by unfold less; split <;> omega)], rfl⟩
  · have hb : ¬ l - (es.length : Int) < 0 := by simpa using hb
    have e0 : l - (es.length : Int) = less l (es.length + wsum (es.take 0)) := by unfold less; simp [wsum]; omega
    rw [e0]
    refine aloop (ι := Nat) (fun i => [(5, .val (.int .i64 (i : Nat))), (1, .val (.int .i64 (less l (es.length + wsum (es.take i))))), (0, .val (.slice a es.length c))]) (fun _ => []) (fun i h' => i ≤ es.length ∧ 0 ≤ less l (es.length + wsum (es.take i)) ∧ h = h') (fun i => es.length - i) 0
      ⟨Nat.zero_le _, by rw [← e0]; omega, rfl⟩ (by repeat (first | exact wkF_e | refine wkF_c rfl ?_)) wkB_e rfl ?_
    intro i h1 hx
    have hx : i ≤ es.length ∧ 0 ≤ less l (es.length + wsum (es.take i)) ∧ h = h1 := hx
    have hi := hx.1
    have hf := hx.2.1
    have he := hx.2.2
    clear hx
    subst he
    simp only [go_sem, Nat.reduceBEq]
    refine Br.intro (fun hb => ?_) (fun hb => ?_) <;> (try simp only [hb, go_sem, Nat.reduceBEq])
    · have hb : i < es.length := by simpa using hb
      obtain ⟨b, off, rfl, hat'⟩ := hat (by omega)
      obtain ⟨e, he, hm⟩ := get_lt hb
      have hok := V.oks_mem ok hm
      simp only [ix_nat hb, go_sem, Nat.reduceBEq]
      refine hsem_entry tyS59 hat' hr he rfl fun sl' rd' => ?_
      simp only [go_sem, Nat.reduceBEq]
      (refine (szEntry_c e (ih e hm) hok.1 hok.2 sl' _ _ rd' hf (less_le l1)).mono ?_; rintro _ _ ⟨rfl, rfl⟩; simp only [go_sem, Nat.reduceBEq])
      rw [less_add hf, Nat.add_assoc, ← wsum_snoc he]
      refine Br.intro (fun hc => ?_) (fun hc => ?_) <;> (try simp only [hc, go_sem, Nat.reduceBEq])
      · have hc : less l (es.length + wsum (es.take (i + 1))) < 0 := by simpa using hc
        refine ⟨?_, rfl⟩
        rw [bulks_eq, wsum_split es (i + 1), ← Nat.add_assoc, less_neg hc]
      · have hc : 0 ≤ less l (es.length + wsum (es.take (i + 1))) := by simpa using hc
        rw [wrap_succ (i := i) (by unfold maxLen at hl; omega)]
        exact Again.intro (i + 1) (by first | omega | (simp only; omega)) ⟨hb, hc, rfl⟩ (by repeat (first | exact wkF_e | refine wkF_c rfl ?_)) wkB_e rfl
    · have hb : i = es.length := by simp at hb; omega
      subst hb
      refine ⟨?_, rfl⟩
      rw [List.take_length, bulks_eq]
theorem szValue_c : ∀ v, SzV v := V.ind fun v ih ok sl l h rd l0 l1 => by
  (refine enter Tryz.func5 rfl rfl (by kernel_rfl) [] ?_; simp only [go_sem, Nat.reduceBEq])
  simp only [less_wrap l0 l1 (V.ok_str ok), go_sem]
  refine Br.intro (fun hb => ?_) (fun hb => ?_) <;> (try simp only [hb, go_sem, Nat.reduceBEq])
  · have hb : l - (v.str.size : Int) < 0 := by simpa using hb
    exact ⟨by rw [V.bulk_eq, less_neg (by unfold less; split <;> omega)], rfl⟩
  · have hb : ¬ l - (v.str.size : Int) < 0 := by simpa using hb
    have e0 : l - (v.str.size : Int) = less l v.str.size := by unfold less; split <;> omega
    rw [e0]
    (refine (szEntryS_c v.items ih (V.ok_items ok) (V.ok_len ok) sl _ _ rd (by omega) (less_le l1)).mono ?_; rintro _ _ ⟨rfl, rfl⟩; simp only [go_sem, Nat.reduceBEq])
    rw [less_add (by omega), ← V.bulk_eq]
    refine Br.intro (fun hc => ?_) (fun hc => ?_) <;> (try simp only [hc, go_sem, Nat.reduceBEq])
    · have hc : less l v.bulk < 0 := by simpa using hc
      exact ⟨by rw [less_is hc], rfl⟩
    · exact ⟨rfl, rfl⟩
end Go.Proofs.YtpfongmnmcmnaaaGreatDoor
namespace Go.Proofs.YtpfongmnmcmnaaaGreatDoor
set_option maxRecDepth 8000
open Go Go.Sx Go.ChangeShapes Go.WideShapes Go.RowKit Go.ChangeMaps
section
variable {H : Type} {enc : TypeId × Value → H} {w : World} {base : Nat} {sp : Nat → Bool} {held : Bool}
theorem openKey {n : Nat} {cs : List Value} {x : DataW H × List MemPlace} (h : DataW.trod enc Tryz.prog w base sp held n 57 cs = some x) : ∃ k : Ky, k.ok ∧ RdL (vis w) k.dt cs := by
  obtain ⟨hl, m, _, hf⟩ := trod_fields Tryz.underlying57 h
  have hl : cs.length = 3 := hl
  match cs, hl with
  | [c0, c1, c2], _ =>
    obtain ⟨y0, h0⟩ := hf 0 _ rfl
    obtain ⟨y1, h1⟩ := hf 1 _ rfl
    obtain ⟨y2, h2⟩ := hf 2 _ rfl
    obtain ⟨b, e0⟩ := trod_bool1 Tryz.underlying4 h0
    obtain ⟨k, e1, b1⟩ := trod_one Tryz.underlying3 h1
    obtain ⟨s, e2, _, b2⟩ := DataW.trod_string Tryz.underlying9 h2
    have e0 : [c0] = [.bool b] := e0
    have e1 : [c1] = [.int .i64 k] := e1
    have e2 : [c2] = [.string s] := e2
    cases e0; cases e1; cases e2
    exact ⟨⟨b, k, s⟩, ⟨b1, b2⟩, by simp only [Ky.dt, RdL_cc, Rd_raw, RdL_nil, true_and, and_true]; exact ⟨rfl, rfl, rfl⟩⟩
theorem openV_ : ∀ (n : Nat) {cs : List Value} {x : DataW H × List MemPlace}, DataW.trod enc Tryz.prog w base sp held n 24 cs = some x → ∃ v : V, v.ok ∧ RdL (vis w) v.dt cs := by
  intro n
  induction n using Nat.strongRecOn with
  | _ n ih =>
    intro cs x h
    obtain ⟨hl, m, hm, hf⟩ := trod_fields Tryz.underlying24 h
    have hl : cs.length = 5 := hl
    match cs, hl with
    | [c0, c1, c2, c3, c4], _ =>
      obtain ⟨y0, h0⟩ := hf 0 _ rfl
      obtain ⟨y1, h1⟩ := hf 1 _ rfl
      obtain ⟨y2, h2⟩ := hf 2 _ rfl
      obtain ⟨y3, h3⟩ := hf 3 _ rfl
      obtain ⟨y4, h4⟩ := hf 4 _ rfl
      obtain ⟨k, e0, b0⟩ := trod_one Tryz.underlying3 h0
      obtain ⟨q, e1, b1⟩ := trod_one Tryz.underlying3 h1
      obtain ⟨s, e2, _, b2⟩ := DataW.trod_string Tryz.underlying9 h2
      obtain ⟨nx, e3, b3⟩ := trod_one Tryz.underlying3 h3
      have e0 : [c0] = [.int .i64 k] := e0
      have e1 : [c1] = [.int .i64 q] := e1
      have e2 : [c2] = [.string s] := e2
      have e3 : [c3] = [.int .i64 nx] := e3
      cases e0; cases e1; cases e2; cases e3
      obtain ⟨es, v, e4, hok, hlen, hrd⟩ := open_list (α := Ky × V) (f := edt) (ok := fun e => e.1.ok ∧ e.2.ok) (z := 8) Tryz.underlying22 (by kernel_rfl) (by decide) (fun n' cs' x' hn' h' => by
        obtain ⟨hl', m', hm', hf'⟩ := trod_fields Tryz.underlying59 h'
        obtain ⟨z0, g0⟩ := hf' 0 _ rfl
        obtain ⟨z1, g1⟩ := hf' 1 _ rfl
        have hl' : cs'.length = 8 := hl'
        obtain ⟨ky, ko, kr⟩ := openKey g0
        obtain ⟨v', vo, vr⟩ := ih m' (by omega) g1
        have kr : RdL (vis w) ky.dt (cs'.take 3) := kr
        have vr : RdL (vis w) v'.dt ((cs'.drop 3).take 5) := vr
        refine ⟨(ky, v'), ⟨ko, vo⟩, ?_⟩
        have : cs' = cs'.take 3 ++ (cs'.drop 3).take 5 := by
          rw [List.take_of_length_le (l := cs'.drop 3) (by rw [List.length_drop]; omega), List.take_append_drop]
        rw [this]
        exact kr.append vr) h4
      have e4 : [c4] = [v] := e4
      cases e4
      refine ⟨⟨k, q, s, nx, es⟩, ?_, ?_⟩
      · simp only [V.ok]
        refine ⟨b0, b1, b2, b3, hlen, ?_⟩
        have : ∀ l : List (Ky × V), (∀ e ∈ l, e.1.ok ∧ e.2.ok) → V.oks l := by
          intro l
          induction l with
          | nil => intro _; simp only [V.oks]
          | cons e r ihl =>
            intro hall
            obtain ⟨ky, v'⟩ := e
            have := hall (ky, v') (by simp)
            simp only [V.oks]
            exact ⟨this.1.1, this.1.2, this.2, ihl fun e he => hall e (by simp [he])⟩
        exact this es hok
      · exact RdL_val_mk (v := ⟨k, q, s, nx, es⟩) hrd
theorem openV {v0 : Value} {d : DataW H} {ps : List MemPlace} {r : Reach} {b0 : Nat} (hval : Value.okWide Tryz.prog w r b0 24 v0) (h : DataW.Trod enc Tryz.prog w base sp held 24 v0 d ps) :
    ∃ (v : V) (sl : Value), v0 = .agg #[.int .i64 v.kind, .int .i64 v.num, .string v.str, .int .i64 v.next, sl] ∧ v.ok ∧ RdE (vis w) v.items sl := by
  obtain ⟨n, h⟩ := h
  obtain ⟨v, hok, hr⟩ := openV_ n h
  obtain ⟨sl, he, hs⟩ := RdL_val hr
  unfold Value.okWide at hval
  rw [Tryz.underlying24] at hval
  obtain ⟨cs, rfl, _⟩ := hval
  refine ⟨v, sl, ?_, hok, hs⟩
  have : cs.toList = _ := he
  rw [← this]
end
end Go.Proofs.YtpfongmnmcmnaaaGreatDoor
namespace Go.Proofs.YtpfongmnmcmnaaaGreatDoor
set_option maxRecDepth 8000
open Go Go.Sx
theorem dig_byte (k : Nat) : IntKind.u8.wrap (IntKind.i64.wrap (48 + ((k : Nat) : Int).tmod 10)) = (((UInt8.ofNat (48 + k % 10)).toNat : Nat) : Int) := by
  have h1 : ((k : Nat) : Int).tmod 10 = ((k % 10 : Nat) : Int) := by rw [Int.tmod_eq_emod_of_nonneg (by omega)]; rfl
  rw [h1, IntWalk.i64_in _ (by omega)]
  have h2 : (UInt8.ofNat (48 + k % 10)).toNat = 48 + k % 10 := by
    rw [UInt8.toNat_ofNat']; omega
  rw [h2]
  have : k % 10 < 10 := Nat.mod_lt _ (by omega)
  generalize k % 10 = r at *
  have h3 : ∀ r : Nat, r < 10 → IntKind.u8.wrap (48 + (r : Int)) = ((48 + r : Nat) : Int) := by decide
  exact h3 r this
theorem quo10 (k : Nat) (hk : k ≤ 4611686018427387904) : IntKind.i64.wrap (((k : Nat) : Int).tdiv 10) = ((k / 10 : Nat) : Int) := by
  have h1 : ((k : Nat) : Int).tdiv 10 = ((k / 10 : Nat) : Int) := by rw [Int.tdiv_eq_ediv_of_nonneg (by omega)]; rfl
  rw [h1, IntWalk.i64_in _ (by omega)]
theorem markText_c (k : Nat) (hk : k ≤ 4611686018427387904) (h : Hp) : ACalls Tryz.prog 74 #[.int .i64 (k : Nat)] h (Is (.string (mtext k)) h) := by
  (refine enter Tryz.func74 rfl rfl (by kernel_rfl) [] ?_; simp only [go_sem, Nat.reduceBEq])
  refine Br.intro (fun hb => ?_) (fun hb => ?_) <;> (try simp only [hb, go_sem, Nat.reduceBEq])
  · have hb : k = 0 := by have := of_decide_eq_true hb; omega
    subst hb
    exact ⟨by rw [mtext, if_pos rfl], Ext.refl _⟩
  · have hb : 0 < k := by have := of_decide_eq_false hb; omega
    refine aloop (ι := Nat × List UInt8) (fun x => [(0, .val (.int .i64 (x.1 : Nat))), (3, .val (.string ⟨x.2.toArray⟩))]) (fun _ => []) (fun x h' => mdig x.1 x.2 = mdig k [] ∧ x.2.length + x.1 ≤ k ∧ Ext h h') (fun x => x.1) (k, [])
      ⟨rfl, by simp, Ext.refl _⟩ (by repeat (first | exact wkF_e | refine wkF_c rfl ?_)) wkB_e rfl ?_
    rintro ⟨q, l⟩ h1 ⟨hq, hl, he⟩
    have hl : l.length + q ≤ k := hl
    have hq : mdig q l = mdig k [] := hq
    simp only [go_sem, Nat.reduceBEq]
    refine Br.intro (fun hc => ?_) (fun hc => ?_) <;> (try simp only [hc, go_sem, Nat.reduceBEq, Int.reduceEq, not_false_eq_true])
    · have hc : 0 < q := by have := of_decide_eq_true hc; omega
      simp only [dig_byte, go_sem]
      refine bytes_lit1 slT85 (UInt8.ofNat (48 + q % 10)) fun u2 h2 m2 => ?_
      simp only [go_sem, Nat.reduceBEq]
      refine cvK_bytes bytT85 isStr9 m2.rd ?_
      simp only [quo10 q (by omega), go_sem, Nat.reduceBEq, Int.reduceEq, not_false_eq_true]
      refine ⟨by rw [i64max]; simp; omega, ?_⟩
      exact Again.intro (q / 10, UInt8.ofNat (48 + q % 10) :: l) (by simp only; omega) ⟨by rw [← hq, mdig_step hc], by simp only [List.length_cons]; omega, he.trans m2.ext⟩ (by repeat (first | exact wkF_e | refine wkF_c rfl ?_)) wkB_e rfl
    · have hc : q = 0 := by have := of_decide_eq_false hc; omega
      subst hc
      rw [mdig_zero] at hq
      refine ⟨by rw [i64max]; simp; omega, ?_⟩
      refine ⟨?_, he⟩
      rw [mtext, if_neg (by omega), ← hq]
      rfl
end Go.Proofs.YtpfongmnmcmnaaaGreatDoor
namespace Go.Proofs.YtpfongmnmcmnaaaGreatDoor
set_option maxRecDepth 8000
open Go Go.Sx
def MkEntryS (l : List (Ky × V)) : Prop := ∀ (k : Nat) (_ : k + cntEs l ≤ 4611686018427387904) (sl : Value) (bag : Bag) (h0 h : Hp) (_ : My h0 h ((.row 8 (l.flatMap edt), sl) :: bag)),
    ACalls Tryz.prog 38 #[sl, .int .i64 (k : Nat)] h fun v h' => v = .int .i64 ((k + cntEs l : Nat)) ∧ My h0 h' ((.row 8 ((mkEs l k).flatMap edt), sl) :: bag)
def HdEntryS (l : List (Ky × V)) : Prop := ∀ (k : Nat) (_ : k + cntEs l ≤ 4611686018427387904) (sl : Value) (h : Hp) (_ : Rd h (.row 8 ((mkEs l k).flatMap edt)) sl),
    ACalls Tryz.prog 39 #[sl, .int .i64 (k : Nat)] h (Is (.int .i64 ((k + cntEs l : Nat))) h)
theorem markEntryS_s (l : List (Ky × V)) (k : Nat) (hk : k + cntEs l ≤ 4611686018427387904) (ih : ∀ e ∈ l, MkEntryS (e.2.items)) (sl : Value) (bag : Bag) (h0 h : Hp) (m : My h0 h ((.row 8 (l.flatMap edt), sl) :: bag)) :
    ACalls Tryz.prog 38 #[sl, .int .i64 (k : Nat)] h fun v h' => v = .int .i64 ((k + cntEs l : Nat)) ∧ My h0 h' ((.row 8 ((mkEs l k).flatMap edt), sl) :: bag) := by
  obtain ⟨a, c, rfl, hc, hcm, hat⟩ := m.row_shape (by decide) l.length (fm_len edt_len l)
  have hlm : l.length ≤ maxLen := Nat.le_trans hc hcm
  (refine enter Tryz.func38 rfl rfl (by kernel_rfl) [] ?_; simp only [go_sem])
  refine aloop (ι := Nat) (fun i => [(5, .val (.int .i64 (i : Nat))), (1, .val (.int .i64 ((k + cntEs (l.take i) : Nat)))), (0, .val (.slice a l.length c))]) (fun _ => []) (fun i h' => i ≤ l.length ∧ My h0 h' ((.row 8 ((mkEs (l.take i) k).flatMap edt ++ (l.drop i).flatMap edt), .slice a l.length c) :: bag)) (fun i => l.length - i) 0
    ⟨Nat.zero_le _, m⟩ (by repeat (first | exact wkF_e | refine wkF_c rfl ?_)) wkB_e rfl ?_
  rintro i h1 ⟨hi, m1⟩
  have hi : i ≤ l.length := hi
  simp only [go_sem, Nat.reduceBEq]
  refine Br.intro (fun hb => ?_) (fun hb => ?_) <;> (try simp only [hb, go_sem, Nat.reduceBEq, Int.reduceEq, not_false_eq_true])
  · have hb : i < l.length := by simpa using hb
    obtain ⟨b, rfl⟩ := hat (by omega)
    have hpos : 0 < l.length := by omega
    obtain ⟨e, he, hm⟩ := get_lt hb
    have hsn := cntEs_snoc he
    have hms := mkEs_snoc he k
    have hle := cntEs_le he
    have hA : ((mkEs (l.take i) k).flatMap edt).length = i * 8 := by rw [fm_len edt_len, mkEs_len, List.length_take]; congr 1; omega
    have m1 : My h0 h1 ((.row 8 ((mkEs (l.take i) k).flatMap edt ++ (l.drop i).flatMap edt), .slice (some ⟨b, 0, none⟩) l.length c) :: bag) := m1
    rw [drop_cons he, List.flatMap_cons, edt_eq] at m1
    have fin : ∀ h' , My h0 h' ((.row 8 ((mkEs (l.take i) k).flatMap edt ++ (edt (mkE (k + cntEs (l.take i)) e) ++ (l.drop (i + 1)).flatMap edt)), .slice (some ⟨b, 0, none⟩) l.length c) :: bag) → My h0 h' ((.row 8 ((mkEs (l.take (i + 1)) k).flatMap edt ++ (l.drop (i + 1)).flatMap edt), .slice (some ⟨b, 0, none⟩) l.length c) :: bag) := fun h' m => by
      rw [hms, List.flatMap_append, List.flatMap_cons, List.flatMap_nil, List.append_nil, List.append_assoc]; exact m
    rw [edt_eq] at fin
    have hq0 : k + cntEs (l.take i) ≤ 4611686018427387904 := by omega
    generalize hq : k + cntEs (l.take i) = q at *
    generalize (mkEs (l.take i) k).flatMap edt = A at *
    generalize hR : (l.drop (i + 1)).flatMap edt = R at *
    have wq0 : IntKind.i64.wrap (((q : Nat) : Int) + 1) = ((q + 1 : Nat) : Int) := by rw [IntWalk.i64_in _ (by omega)]; rfl
    have wq1 : IntKind.i64.wrap (((q + 1 : Nat) : Int) + 1) = ((q + 2 : Nat) : Int) := by rw [IntWalk.i64_in _ (by omega)]; rfl
    have wq2 : IntKind.i64.wrap (((q + 2 : Nat) : Int) + 1) = ((q + 3 : Nat) : Int) := by rw [IntWalk.i64_in _ (by omega)]; rfl
    have wq3 : IntKind.i64.wrap (((q + 3 : Nat) : Int) + 1) = ((q + 4 : Nat) : Int) := by rw [IntWalk.i64_in _ (by omega)]; rfl
    have wq4 : IntKind.i64.wrap (((q + 4 : Nat) : Int) + 1) = ((q + 5 : Nat) : Int) := by rw [IntWalk.i64_in _ (by omega)]; rfl
    have wq5 : IntKind.i64.wrap (((q + 5 : Nat) : Int) + 1) = ((q + 6 : Nat) : Int) := by rw [IntWalk.i64_in _ (by omega)]; rfl
    have wq6 : IntKind.i64.wrap (((q + 6 : Nat) : Int) + 1) = ((q + 7 : Nat) : Int) := by rw [IntWalk.i64_in _ (by omega)]; rfl
    have wsu := wrap_succ (i := i) (by unfold maxLen at hlm; omega)
    simp only [ix_nat hb, go_sem, Nat.reduceBEq]
    refine hsem_my_cell (A := A) (R := R) (j := 0) tyS4 rfl m1 hpos (Nat.le_of_ble_eq_true rfl) rfl rfl (by omega) fun h2 m2 => ?_
    simp only [ix_nat hb, wq0, go_sem, Nat.reduceBEq]
    refine hsem_my_cell (A := A) (R := R) (j := 1) tyS3 rfl m2 hpos (Nat.le_of_ble_eq_true rfl) rfl rfl (by omega) fun h3 m3 => ?_
    simp only [wq1, go_sem, Nat.reduceBEq]
    refine (markText_c (q + 2) (by omega) _).mono ?_
    rintro _ h4 ⟨rfl, x4⟩
    have m4 := m3.mono x4
    simp only [ix_nat hb, go_sem, Nat.reduceBEq, Nat.reduceAdd]
    refine hsem_my_cell (A := A) (R := R) (j := 2) tyS9 rfl m4 hpos (Nat.le_of_ble_eq_true rfl) rfl rfl (by omega) fun h5 m5 => ?_
    simp only [ix_nat hb, wq2, go_sem, Nat.reduceBEq, Nat.reduceAdd]
    refine hsem_my_cell (A := A) (R := R) (j := 3) tyS3 rfl m5 hpos (Nat.le_of_ble_eq_true rfl) rfl rfl (by omega) fun h6 m6 => ?_
    simp only [ix_nat hb, wq3, go_sem, Nat.reduceBEq, Nat.reduceAdd]
    refine hsem_my_cell (A := A) (R := R) (j := 4) tyS3 rfl m6 hpos (Nat.le_of_ble_eq_true rfl) rfl rfl (by omega) fun h7 m7 => ?_
    simp only [wq4, go_sem, Nat.reduceBEq]
    refine (markText_c (q + 5) (by omega) _).mono ?_
    rintro _ h8 ⟨rfl, x8⟩
    have m8 := m7.mono x8
    simp only [ix_nat hb, go_sem, Nat.reduceBEq, Nat.reduceAdd]
    refine hsem_my_cell (A := A) (R := R) (j := 5) tyS9 rfl m8 hpos (Nat.le_of_ble_eq_true rfl) rfl rfl (by omega) fun h9 m9 => ?_
    simp only [ix_nat hb, wq5, go_sem, Nat.reduceBEq, Nat.reduceAdd]
    refine hsem_my_cell (A := A) (R := R) (j := 6) tyS3 rfl m9 hpos (Nat.le_of_ble_eq_true rfl) rfl rfl (by omega) fun h10 m10 => ?_
    simp only [ix_nat hb, wq6, go_sem, Nat.reduceBEq, Nat.reduceAdd]
    obtain ⟨u7, m11⟩ := m10.openAt (A := A) (R := R) (j := 7) rfl
    refine hsem_my_get (A := A) (R := R) (j := 7) tyS26 m11.swap hpos (d := .raw u7) rfl (by omega) fun u' hu' => ?_
    obtain ⟨rfl, _⟩ := Rd_raw.1 hu'
    simp only [go_sem, Nat.reduceBEq]
    refine (ih e hm (q + 7) (by omega) _ _ _ _ m11).mono ?_
    rintro _ h11 ⟨rfl, m12⟩
    have m13 := m12.closeAt (A := A) (R := R) (j := 7) rfl
    generalize hq7 : q + 7 + cntEs (e.2.items) = q7 at *
    simp only [go_sem, Nat.reduceBEq]
    rw [wsu]
    have hend : k + cntEs (l.take (i + 1)) = q7 := by omega
    refine Again.intro (i + 1) (by first | omega | (simp only; omega)) ⟨hb, ?_⟩ (by simp only [hend]; exact (by repeat (first | exact wkF_e | refine wkF_c rfl ?_))) wkB_e rfl
    have m14 := fin _ m13
    rw [← hR] at m14
    exact m14
  · have hb : i = l.length := by simp at hb; omega
    subst hb
    have m1 : My h0 h1 ((.row 8 ((mkEs (l.take l.length) k).flatMap edt ++ (l.drop l.length).flatMap edt), .slice a l.length c) :: bag) := m1
    rw [List.take_length, List.drop_length, List.flatMap_nil, List.append_nil] at m1
    rw [List.take_length]
    exact ⟨rfl, m1⟩
theorem heldEntryS_s (l : List (Ky × V)) (k : Nat) (hk : k + cntEs l ≤ 4611686018427387904) (ih : ∀ e ∈ l, HdEntryS (e.2.items)) (sl : Value) (h : Hp) (rd : Rd h (.row 8 ((mkEs l k).flatMap edt)) sl) :
    ACalls Tryz.prog 39 #[sl, .int .i64 (k : Nat)] h (Is (.int .i64 ((k + cntEs l : Nat))) h) := by
  have hml := mkEs_len l k
  obtain ⟨a, c, xs, rfl, hc, hr, hat⟩ := rd.rows (by decide) l.length (by rw [fm_len edt_len, hml])
  (refine enter Tryz.func39 rfl rfl (by kernel_rfl) [] ?_; simp only [go_sem])
  refine aloop (ι := Nat) (fun i => [(5, .val (.int .i64 (i : Nat))), (1, .val (.int .i64 ((k + cntEs (l.take i) : Nat)))), (0, .val (.slice a l.length c))]) (fun _ => []) (fun i h' => i ≤ l.length ∧ Ext h h') (fun i => l.length - i) 0
    ⟨Nat.zero_le _, Ext.refl _⟩ (by repeat (first | exact wkF_e | refine wkF_c rfl ?_)) wkB_e rfl ?_
  rintro i h1 ⟨hi, x1⟩
  have hi : i ≤ l.length := hi
  have x1 : Ext h h1 := x1
  simp only [go_sem, Nat.reduceBEq]
  refine Br.intro (fun hb => ?_) (fun hb => ?_) <;> (try simp only [hb, go_sem, Nat.reduceBEq])
  · have hb : i < l.length := by simpa using hb
    obtain ⟨b, off, rfl, hat0⟩ := hat (by omega)
    have hat1 := hat0.mono x1
    have hr1 := hr.mono x1
    obtain ⟨e, he, hm⟩ := get_lt hb
    have hsn := cntEs_snoc he
    have hge := mkEs_get he k
    have hle := cntEs_le he
    have hq0 : k + cntEs (l.take i) ≤ 4611686018427387904 := by omega
    have hlm : l.length ≤ 4611686018427387904 := by have := cntEs_pos l; omega
    have wsu := wrap_succ (i := i) (by omega)
    generalize hq : k + cntEs (l.take i) = q at *
    have wq0 : IntKind.i64.wrap (((q : Nat) : Int) + 1) = ((q + 1 : Nat) : Int) := by rw [IntWalk.i64_in _ (by omega)]; rfl
    have wq1 : IntKind.i64.wrap (((q + 1 : Nat) : Int) + 1) = ((q + 2 : Nat) : Int) := by rw [IntWalk.i64_in _ (by omega)]; rfl
    have wq2 : IntKind.i64.wrap (((q + 2 : Nat) : Int) + 1) = ((q + 3 : Nat) : Int) := by rw [IntWalk.i64_in _ (by omega)]; rfl
    have wq3 : IntKind.i64.wrap (((q + 3 : Nat) : Int) + 1) = ((q + 4 : Nat) : Int) := by rw [IntWalk.i64_in _ (by omega)]; rfl
    have wq4 : IntKind.i64.wrap (((q + 4 : Nat) : Int) + 1) = ((q + 5 : Nat) : Int) := by rw [IntWalk.i64_in _ (by omega)]; rfl
    have wq5 : IntKind.i64.wrap (((q + 5 : Nat) : Int) + 1) = ((q + 6 : Nat) : Int) := by rw [IntWalk.i64_in _ (by omega)]; rfl
    have wq6 : IntKind.i64.wrap (((q + 6 : Nat) : Int) + 1) = ((q + 7 : Nat) : Int) := by rw [IntWalk.i64_in _ (by omega)]; rfl
    simp only [ix_nat hb, go_sem, Nat.reduceBEq]
    refine hsem_cell (f := edt) (o := 0) edt_len tyS4 hat1 hr1 hge (by decide) (by rw [edt_eq]; rfl) ?_ fun y0 r0 => ?_
    · omega
    obtain ⟨rfl, _⟩ := Rd_raw.1 r0
    simp only [go_sem, Nat.reduceBEq, Int.reduceEq, not_false_eq_true]
    simp only [mkE, mbit, decide_true, Bool.not_true, go_sem]
    simp only [ix_nat hb, wq0, go_sem, Nat.reduceBEq]
    refine hsem_cell (f := edt) (o := 1) edt_len tyS3 hat1 hr1 hge (by decide) (by rw [edt_eq]; rfl) ?_ fun y1 r1 => ?_
    · omega
    obtain ⟨rfl, _⟩ := Rd_raw.1 r1
    simp only [go_sem, Nat.reduceBEq]
    simp only [mkE, decide_true, Bool.not_true, wq1, go_sem, Nat.reduceBEq]
    refine regionD_still (lb := []) (pl := [39]) h1 (Ext.refl _) (by kernel_rfl) ?_
    simp only [ix_nat hb, go_sem, Nat.reduceBEq, Nat.reduceAdd]
    refine hsem_cell (f := edt) (o := 2) edt_len tyS9 hat1 hr1 hge (by decide) (by rw [edt_eq]; rfl) ?_ fun y2 r2 => ?_
    · omega
    obtain ⟨rfl, _⟩ := Rd_raw.1 r2
    simp only [go_sem, Nat.reduceBEq]
    refine (markText_c (q + 2) (by omega) _).mono ?_
    rintro _ h2 ⟨rfl, x2⟩
    simp only [go_sem, Nat.reduceBEq]
    refine ⟨x2, ?_⟩
    have hat2 := hat1.mono x2
    have hr2 := hr1.mono x2
    have X2 := x1.trans x2
    simp only [mkE, decide_true, Bool.not_true, ix_nat hb, wq2, go_sem, Nat.reduceBEq, Nat.reduceAdd]
    refine hsem_cell (f := edt) (o := 3) edt_len tyS3 hat2 hr2 hge (by decide) (by rw [edt_eq]; rfl) ?_ fun y3 r3 => ?_
    · omega
    obtain ⟨rfl, _⟩ := Rd_raw.1 r3
    simp only [go_sem, Nat.reduceBEq]
    simp only [mkE, decide_true, Bool.not_true, ix_nat hb, wq3, go_sem, Nat.reduceBEq, Nat.reduceAdd]
    refine hsem_cell (f := edt) (o := 4) edt_len tyS3 hat2 hr2 hge (by decide) (by rw [edt_eq]; rfl) ?_ fun y4 r4 => ?_
    · omega
    obtain ⟨rfl, _⟩ := Rd_raw.1 r4
    simp only [go_sem, Nat.reduceBEq]
    simp only [mkE, decide_true, Bool.not_true, wq4, go_sem, Nat.reduceBEq]
    refine regionD_still (lb := []) (pl := [70]) h2 (Ext.refl _) (by kernel_rfl) ?_
    simp only [ix_nat hb, go_sem, Nat.reduceBEq, Nat.reduceAdd]
    refine hsem_cell (f := edt) (o := 5) edt_len tyS9 hat2 hr2 hge (by decide) (by rw [edt_eq]; rfl) ?_ fun y5 r5 => ?_
    · omega
    obtain ⟨rfl, _⟩ := Rd_raw.1 r5
    simp only [go_sem, Nat.reduceBEq]
    refine (markText_c (q + 5) (by omega) _).mono ?_
    rintro _ h3 ⟨rfl, x3⟩
    simp only [go_sem, Nat.reduceBEq]
    refine ⟨x3, ?_⟩
    have hat3 := hat2.mono x3
    have hr3 := hr2.mono x3
    have X3 := X2.trans x3
    simp only [mkE, decide_true, Bool.not_true, ix_nat hb, wq5, go_sem, Nat.reduceBEq, Nat.reduceAdd]
    refine hsem_cell (f := edt) (o := 6) edt_len tyS3 hat3 hr3 hge (by decide) (by rw [edt_eq]; rfl) ?_ fun y6 r6 => ?_
    · omega
    obtain ⟨rfl, _⟩ := Rd_raw.1 r6
    simp only [go_sem, Nat.reduceBEq]
    simp only [mkE, decide_true, Bool.not_true, ix_nat hb, wq6, go_sem, Nat.reduceBEq, Nat.reduceAdd]
    refine hsem_cell (f := edt) (o := 7) edt_len tyS26 hat3 hr3 hge (by decide) (by rw [edt_eq]; rfl) ?_ fun y7 r7 => ?_
    · omega
    simp only [go_sem, Nat.reduceBEq]
    refine (ih e hm (q + 7) (by omega) _ _ r7).mono ?_
    rintro _ h4 ⟨rfl, x4⟩
    have hat4 := hat3.mono x4
    have hr4 := hr3.mono x4
    have X4 := X3.trans x4
    generalize hq7 : q + 7 + cntEs (e.2.items) = q7 at *
    have hneg7 : decide (((q7 : Nat) : Int) < 0) = false := decide_eq_false (by omega)
    simp only [hneg7, go_sem, Nat.reduceBEq]
    rw [wsu]
    have hend : k + cntEs (l.take (i + 1)) = q7 := by omega
    exact Again.intro (i + 1) (by first | omega | (simp only; omega)) ⟨hb, X4⟩ (by simp only [hend]; exact (by repeat (first | exact wkF_e | refine wkF_c rfl ?_))) wkB_e rfl
  · have hb : i = l.length := by simp at hb; omega
    subst hb
    rw [List.take_length]
    exact ⟨rfl, x1⟩
theorem markV_c : ∀ v : V, MkEntryS v.items := V.ind fun v ih k hk sl bag h0 h m => markEntryS_s v.items k hk ih sl bag h0 h m
theorem heldV_c : ∀ v : V, HdEntryS v.items := V.ind fun v ih k hk sl h rd => heldEntryS_s v.items k hk ih sl h rd
theorem markEntryS_c (l : List (Ky × V)) (k : Nat) (hk : k + cntEs l ≤ 4611686018427387904) (sl : Value) (bag : Bag) (h0 h : Hp) (m : My h0 h ((.row 8 (l.flatMap edt), sl) :: bag)) :
    ACalls Tryz.prog 38 #[sl, .int .i64 (k : Nat)] h fun v h' => v = .int .i64 ((k + cntEs l : Nat)) ∧ My h0 h' ((.row 8 ((mkEs l k).flatMap edt), sl) :: bag) := markEntryS_s l k hk (fun e _ => markV_c e.2) sl bag h0 h m
theorem heldEntryS_c (l : List (Ky × V)) (k : Nat) (hk : k + cntEs l ≤ 4611686018427387904) (sl : Value) (h : Hp) (rd : Rd h (.row 8 ((mkEs l k).flatMap edt)) sl) :
    ACalls Tryz.prog 39 #[sl, .int .i64 (k : Nat)] h (Is (.int .i64 ((k + cntEs l : Nat))) h) := heldEntryS_s l k hk (fun e _ => heldV_c e.2) sl h rd
theorem markValue_c (v : V) (k : Nat) (hk : k + cntEs v.items ≤ 4611686018427387904) (sl : Value) (bag : Bag) (h0 h : Hp) (m : My h0 h ((.row 8 (v.items.flatMap edt), sl) :: bag)) :
    ACalls Tryz.prog 10 #[.agg #[.int .i64 v.kind, .int .i64 v.num, .string v.str, .int .i64 v.next, sl], .int .i64 (k : Nat)] h fun u h' => u = .int .i64 ((k + cntEs v.items : Nat)) ∧ My h0 h' ((.row 8 ((mkEs v.items k).flatMap edt), sl) :: bag) := by
  (refine enter Tryz.func10 rfl rfl (by kernel_rfl) [] ?_; simp only [go_sem, Nat.reduceBEq])
  refine (markEntryS_c v.items k hk _ _ _ _ m).mono ?_
  rintro _ h1 ⟨rfl, m1⟩
  simp only [go_sem, Nat.reduceBEq]
  first | exact m1 | exact ⟨rfl, m1⟩
theorem heldValue_c (v : V) (a b x : Int) (s : ByteArray) (k : Nat) (hk : k + cntEs v.items ≤ 4611686018427387904) (sl : Value) (h : Hp) (rd : Rd h (.row 8 ((mkEs v.items k).flatMap edt)) sl) :
    ACalls Tryz.prog 11 #[.agg #[.int .i64 a, .int .i64 b, .string s, .int .i64 x, sl], .int .i64 (k : Nat)] h (Is (.int .i64 ((k + cntEs v.items : Nat))) h) := by
  (refine enter Tryz.func11 rfl rfl (by kernel_rfl) [] ?_; simp only [go_sem, Nat.reduceBEq])
  refine (heldEntryS_c v.items k hk _ _ rd).mono ?_
  rintro _ h1 ⟨rfl, x1⟩
  have hneg : decide (((k + cntEs v.items : Nat) : Int) < 0) = false := decide_eq_false (by omega)
  simp only [hneg, go_sem, Nat.reduceBEq]
  exact ⟨rfl, x1⟩
end Go.Proofs.YtpfongmnmcmnaaaGreatDoor
namespace Go.Proofs.YtpfongmnmcmnaaaGreatDoor
set_option maxRecDepth 8000
open Go Go.Sx Go.ChangeShapes Go.WideShapes Go.ChangeAt Go.RowKit Go.ChangeMaps
theorem own : ownKnob Tryz.prog.godebug = none := by kernel_rfl
theorem laidOut : laidOutB Tryz.prog = true := by kernel_rfl
theorem FnExactUnaryOp_law (op : Int) (ok0 : IntKind.i64.min ≤ op ∧ op ≤ IntKind.i64.max) (v : V) (ok1 : v.ok) (s1 : Value) (h : Hp) (r1 : RdE h v.items s1) (hE : Env h) : ACalls Tryz.prog 4 #[.int .i64 op, .agg #[.int .i64 v.kind, .int .i64 v.num, .string v.str, .int .i64 v.next, s1]] h (Is (.bool true) h) := by
  obtain ⟨sa1, sc1, _, rfl, _⟩ := r1.rows (by decide) v.items.length (fm_len edt_len _)
  (refine enter Tryz.func4 rfl rfl (by kernel_rfl) [] ?_; simp only [go_sem, Nat.reduceBEq, Nat.reduceAdd, Nat.reduceLeDiff])
  (refine (szValue_c v ok1 _ _ _ r1 (by decide) (by decide)).mono ?_; rintro _ _ ⟨rfl, rfl⟩; simp only [go_sem, Nat.reduceBEq])
  refine Br.intro (fun hb => ?_) (fun hb => ?_) <;> (try simp only [hb, go_sem, Nat.reduceBEq, Nat.reduceAdd, Nat.reduceLeDiff])
  · exact ⟨rfl, Ext.refl _⟩
  have f : 0 ≤ less 1048576 (v.bulk) := by simpa using hb
  have f : (v.bulk) ≤ 1048576 := by unfold less at f; split at f <;> omega
  have hb1 : v.bulk ≤ 1048576 := by omega
  have hB1 := V.bulk_eq v
  have hC1 := cntEs_bulk v.items
  have hW := un_bulk op v
  have hWb := V.bulk_eq (unOf op v).1
  have hR0 := cntEs_bulk (unOf op v).1.items
  refine (toV_c v hb1 _ _ r1).mono ?_
  rintro _ h1 ⟨a1, c1, rfl, m1⟩
  have M1 := m1
  simp only [go_sem, Nat.reduceBEq]
  refine (sUnary op v ok1 (by omega) _ _ M1.rd (hE.ext M1.ext)).mono ?_
  rintro _ h2 ⟨a2_0, c2_0,  rfl, m2⟩
  have M2 := M1.add m2
  simp only [go_sem, Nat.reduceBEq, Nat.reduceAdd, Nat.reduceLeDiff]
  have M3 := M2.swap
  have M4 := M3.drop
  refine (toV_c v hb1 _ _ (r1.mono M4.ext)).mono ?_
  rintro _ h5 ⟨a5, c5, rfl, m5⟩
  have M5 := M4.add m5
  simp only [go_sem, Nat.reduceBEq, Nat.reduceAdd, Nat.reduceLeDiff]
  refine (iUnary op v ok1 (by omega) _ _ M5.rd (hE.ext M5.ext)).mono ?_
  rintro _ h6 ⟨a6_0, c6_0,  rfl, m6⟩
  have M6 := M5.add m6
  simp only [go_sem, Nat.reduceBEq, Nat.reduceAdd, Nat.reduceLeDiff]
  (refine (eqValue_c (unOf op v).1 (by omega) _ _ _ M6.rd (M6.drop.drop).rd).mono ?_; rintro _ _ ⟨rfl, rfl⟩; simp only [go_sem, Nat.reduceBEq])
  refine regionD_intro (lb := [45, 46]) (by kernel_rfl) ?_
  simp only [go_sem, Nat.reduceBEq, Nat.reduceAdd, Nat.reduceLeDiff]
  refine (toV_c v hb1 _ _ (r1.mono M6.ext)).mono ?_
  rintro _ h7 ⟨a7, c7, rfl, m7⟩
  have M7 := M6.add m7
  simp only [go_sem, Nat.reduceBEq]
  (refine (eqValue_c v (by omega) _ _ _ (M7.drop.drop).rd M7.rd).mono ?_; rintro _ _ ⟨rfl, rfl⟩; simp only [go_sem, Nat.reduceBEq, Nat.reduceAdd, Nat.reduceLeDiff])
  have M8 := M7.drop
  have M9 := M8.swap
  refine (markValue_c v 1 (by omega) _ _ _ _ M9).mono ?_
  rintro _ h10 ⟨rfl, M10⟩
  simp only [nat_neg, go_sem, Nat.reduceBEq, Nat.reduceAdd, Nat.reduceLeDiff]
  (refine (eqValue_c (unOf op v).1 (by omega) _ _ _ (M10.drop).rd (M10.drop.drop).rd).mono ?_; rintro _ _ ⟨rfl, rfl⟩; simp only [go_sem, Nat.reduceBEq, Nat.reduceAdd, Nat.reduceLeDiff])
  have M11 := M10.swap
  refine (markValue_c (unOf op v).1 1 (by omega) _ _ _ _ M11).mono ?_
  rintro _ h12 ⟨rfl, M12⟩
  simp only [go_sem, Nat.reduceBEq, Nat.reduceAdd, Nat.reduceLeDiff]
  refine (heldValue_c (unOf op v).1 _ _ _ _ 1 (by omega) _ _ M12.rd).mono ?_
  rintro _ h13 ⟨rfl, e13⟩
  have M14 := M12.mono e13
  simp only [go_sem, Nat.reduceBEq]
  rw [nat_neg]
  simp only [go_sem, Nat.reduceBEq, Nat.reduceAdd, Nat.reduceLeDiff]
  refine (toV_c v hb1 _ _ (r1.mono M14.ext)).mono ?_
  rintro _ h15 ⟨a15, c15, rfl, m15⟩
  have M15 := M14.add m15
  simp only [go_sem, Nat.reduceBEq]
  refine (iUnary op v ok1 (by omega) _ _ M15.rd (hE.ext M15.ext)).mono ?_
  rintro _ h16 ⟨a16_0, c16_0,  rfl, m16⟩
  have M16 := M15.add m16
  simp only [go_sem, Nat.reduceBEq, Nat.reduceAdd, Nat.reduceLeDiff]
  have M17 := M16.swap
  have M18 := M17.drop
  (refine (eqValue_c (unOf op v).1 (by omega) _ _ _ M18.rd (M18.drop.drop.drop).rd).mono ?_; rintro _ _ ⟨rfl, rfl⟩; simp only [go_sem, Nat.reduceBEq, Nat.reduceAdd, Nat.reduceLeDiff])
  refine (heldValue_c (unOf op v).1 _ _ _ _ 1 (by omega) _ _ (M18.drop).rd).mono ?_
  rintro _ h19 ⟨rfl, e19⟩
  have M20 := M18.mono e19
  simp only [go_sem, Nat.reduceBEq]
  rw [nat_neg]
  simp only [go_sem, Nat.reduceBEq]
  exact ⟨rfl, M20.ext⟩
theorem FnExactUnaryOp_met (os : Os) (args : Array Value) : laidMetH Tryz.prog Rows.fnExactUnaryOpRow.laid ((World.doorLaid Tryz.prog 400 os).forCall (fun _ _ => 0) ⟨#[], args, []⟩).memory :=
  laidMetH_of_parts3 (fuel := 8) (laidMet_of_run' 8 (by kernel_rfl) (by kernel_rfl)) (by kernel_rfl) (by kernel_rfl)
set_option maxRecDepth 100000 in
theorem FnExactUnaryOp_lifted (os : Os) (started : os.Started) (H : Type) (enc : TypeId × Value → H) :
    ReturnsInHanded {} Tryz.checked os 4 .any (fun w args => (Rows.fnExactUnaryOpSpec.pre enc Tryz.prog Tryz.f4 Rows.fnExactUnaryOpRow.domain false w args ∧ laidMetH Tryz.prog Rows.fnExactUnaryOpRow.laid w) ∧ sizedMet enc Tryz.prog Tryz.f4 (OpenSpec.ofChange Rows.fnExactUnaryOpSpec) false w args) (Rows.fnExactUnaryOpSpec.post enc Tryz.prog Tryz.f4 false true false false) := by
  refine returnsInHanded_of_change_and (C := Tryz.checked) (X := fun w _ => laidMetH Tryz.prog Rows.fnExactUnaryOpRow.laid w) (fun _ _ _ hh h => h.of_heap hh) own started (by kernel_rfl) Tryz.func4
    (ChangeSpec.witness_shaped (enc := enc) (C := Tryz.checked) (os := os) (X := fun w _ => laidMetH Tryz.prog Rows.fnExactUnaryOpRow.laid w) false (World.doorLaid Tryz.prog 400 os) #[.int .i64 0, .agg #[.int .i64 0, .int .i64 0, .string ⟨#[]⟩, .int .i64 0, .slice none 0 0]] 8 rfl (World.shaped_of_RefB (by kernel_rfl) (by kernel_rfl)) (by kernel_rfl) (by kernel_rfl) (by kernel_rfl) (FnExactUnaryOp_met os _)) ?_
  intro W base args ds gs before hval0 hW _ _ hL _
  have hT : Pow (vis W) := pow_of (by kernel_rfl) (by rw [MakeChecks.laidMetH_plain _ _ _ (by kernel_rfl)] at hL; exact hL)
  have hE : Env (vis W) := env_of hT (by kernel_rfl) (by kernel_rfl) (by rw [MakeChecks.laidMetH_plain _ _ _ (by kernel_rfl)] at hL; exact hL)
  have hval : ∀ (j : Nat) t v, Tryz.f4.params[j]? = some t → args[j]? = some v → Value.okWide Tryz.prog W .any base t v := hval0
  have hW' := hW
  obtain ⟨p, q, hA0, hV, rfl, _, _⟩ := hW
  have hA : DataW.TrodAll enc Tryz.prog W 0 (fun _ => true) true Tryz.f4.params.toList args.toList ds p := hA0
  rw [Tryz.params4] at hA hval
  obtain ⟨v0, vs0, d0, ds0, p0, q0, hargs, rfl, rfl, h0, r0⟩ := trodAll_cons hA
  obtain ⟨v1, vs1, d1, ds1, p1, q1, rfl, rfl, rfl, h1, r1⟩ := trodAll_cons r0
  obtain ⟨rfl, rfl, rfl⟩ := trodAll_nil r1
  obtain rfl : args = #[v0, v1] := by cases args; simp_all
  obtain ⟨rfl, rfl⟩ := trodVars_none hV
  obtain ⟨a0, rfl, rfl, rfl, w0⟩ := open_int Tryz.underlying3 (hval 0 3 v0 rfl rfl) h0
  obtain ⟨a1, s1, rfl, w1, e1⟩ := openV (hval 1 24 v1 rfl rfl) h1
  clear hA0 hval0
  simp only [List.append_nil] at hW'
  exact (to_below (FnExactUnaryOp_law a0 (by simpa only [Lit.wf, Bool.and_eq_true, decide_eq_true_eq] using w0) a1 w1 s1 _ e1 hE)).mono fun e W' ⟨he, hb⟩ => ⟨_, he, law_post laidOut (by kernel_rfl) rfl Tryz.underlying4 rfl hW' rfl rfl rfl hb⟩
theorem FnExactUnaryOp_proved : Rows.FnExactUnaryOpSaid :=
  OpenClaim.holds_of_wide 4 Tryz.f4 rfl rfl rfl rfl rfl rfl rfl ⟨rfl, rfl, rfl, rfl, rfl⟩ rfl rfl rfl rfl rfl (by kernel_rfl) Tryz.func4 (by kernel_rfl)
    (of_decide_eq_true (by kernel_rfl)) (by unfold Func.isWrapper; first | (rw [if_pos (by decide +kernel)]; kernel_rfl) | (rw [if_neg (by decide +kernel)]; exact ⟨rfl, rfl⟩))
    (fun os started H enc _ => FnExactUnaryOp_lifted os started H enc)
theorem FnExactUnaryOp_card : Rows.FnExactUnaryOpCardSaid :=
  Claim7.holds_tied_plain_at .later [] Rows.fnExactUnaryOpCard.laidKinds true Rows.fnExactUnaryOpCard.stood.harness Rows.fnExactUnaryOpCard.stood.looks
    FnExactUnaryOp_proved (fun _ h => by cases h) (by kernel_rfl) (fun _ h => by cases h) fnExactUnaryOp_row_tie rfl ⟨rfl, rfl⟩ (by kernel_rfl) rfl
    (fun f fn hf hfn => by
      obtain rfl : f = 4 := Option.some.inj ((show Tryz.prog.funcNamed Rows.fnExactUnaryOpRow.func = some 4 by kernel_rfl).symm.trans hf) |>.symm
      obtain rfl : fn = Tryz.f4 := (Option.some.inj (Tryz.func4.symm.trans hfn)).symm
      exact ⟨by kernel_rfl, fun j t ht => by
        rw [Tryz.params4] at ht
        have hm : t ∈ [3, 24] := by simpa using Array.mem_of_getElem? ht
        have hall : ([3, 24].all fun u => !Tryz.prog.wantsStandIn u) = true := by kernel_rfl
        exact (show Tryz.prog.wantsStandIn t = false by simpa using List.all_eq_true.1 hall t hm)⟩)
    (by kernel_rfl)
end Go.Proofs.YtpfongmnmcmnaaaGreatDoor
