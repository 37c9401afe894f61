/-
  What the draws of numbers, words, keys and values return.
-/
import Derived.Test.YtconhonjkfpfmaaDoorCur
import Derived.Test.YtconhonjkfpfmaaDoorFind
import Derived.Test.YtconhonjkfpfmaaDoorCopy
import Derived.Test.YtconhonjkfpfmaaDoorSxDataV
namespace Go.Proofs.YtconhonjkfpfmaaDoor
set_option maxRecDepth 8000
open Go Go.Sx
section
variable {h0 h : Hp} {bag : Bag} {l : List UInt8} {p : Nat}
theorem i64_lo : IntKind.i64.min = -9223372036854775808 := by decide
theorem i64_hi : IntKind.i64.max = 9223372036854775807 := by decide
theorem wrap_ok (x : Int) : IntKind.i64.min ≤ IntKind.i64.wrap x ∧ IntKind.i64.wrap x ≤ IntKind.i64.max := by
  rw [i64_lo, i64_hi]
  unfold IntKind.wrap
  have hb : IntKind.i64.bits = 64 := rfl
  have hs : IntKind.i64.signed = true := rfl
  have hp : (2 : Int) ^ 64 = 18446744073709551616 := by decide
  have hq : (2 : Int) ^ (64 - 1) = 9223372036854775808 := by decide
  simp only [hb, hs, hp, hq, Bool.true_and, decide_eq_true_eq]
  split <;> omega
def AnyP (h0 : Hp) (l : List UInt8) (p : Nat) (bag : Bag) (u : Value) (h' : Hp) : Prop := ∃ n : Int, u = .int .i64 n ∧ (IntKind.i64.min ≤ n ∧ n ≤ IntKind.i64.max) ∧ CurM h0 h' l p bag
theorem l1Odd_c (hl : l.length ≤ 1048576) (m : CurM h0 h l p bag) : ACalls Tryd.prog 82 #[pv p] h (AnyP h0 l p bag) := by
  (refine enter Tryd.func82 rfl rfl (by kernel_rfl) [] ?_; simp only [go_sem, Nat.reduceBEq])
  refine cur_ints [-1, 0, 1, 2, 255, 256, 65535, 2147483647, 2147483648, 4294967295, 4294967296, -2147483648, 9223372036854775807, -9223372036854775808] slT99 rfl rfl rfl (by decide) (by decide) m fun v h1 m1 => ?_
  simp only [go_sem, Nat.reduceBEq]
  refine (l1Int_c hl m1 (by decide) (by decide)).mono ?_
  rintro _ h2 ⟨n, hn, rfl, m2⟩
  simp only [go_sem, Nat.reduceBEq]
  have hr : ∀ n ∈ ([-1, 0, 1, 2, 255, 256, 65535, 2147483647, 2147483648, 4294967295, 4294967296, -2147483648, 9223372036854775807, -9223372036854775808] : List Int), IntKind.i64.min ≤ n ∧ n ≤ IntKind.i64.max := by decide
  exact ⟨n, rfl, hr n hn, m2.drop⟩
theorem l1Num_c (hl : l.length ≤ 1048576) (m : CurM h0 h l p bag) : ACalls Tryd.prog 88 #[pv p] h (NumP 0 1000000000000 h0 l p bag) := by
  (refine enter Tryd.func88 rfl rfl (by kernel_rfl) [] ?_; simp only [go_sem, Nat.reduceBEq])
  refine (l1Below_c hl m 4 (by decide) (by decide)).mono ?_
  rintro _ h1 ⟨x, rfl, x0, x1, m1⟩
  simp only [go_sem, Nat.reduceBEq]
  by_cases c0 : x = 0
  · simp only [decide_eq_true c0, go_sem, Nat.reduceBEq]
    refine (l1Below_c hl m1 2000 (by decide) (by decide)).mono ?_
    rintro _ h2 ⟨y, rfl, y0, y1, m2⟩
    simp only [go_sem, Nat.reduceBEq]
    exact ⟨y, rfl, y0, by omega, m2⟩
  simp only [decide_eq_false c0, go_sem, Nat.reduceBEq]
  by_cases c1 : x = 1
  · simp only [decide_eq_true c1, go_sem, Nat.reduceBEq]
    refine cur_ints [0, 1, 127, 128, 999999999, 1000000000, 1000000001, 2147483647, 1000000000000] slT99 rfl rfl rfl (by decide) (by decide) m1 fun v h2 m2 => ?_
    simp only [go_sem, Nat.reduceBEq]
    refine (l1Int_c hl m2 (by decide) (by decide)).mono ?_
    rintro _ h3 ⟨n, hn, rfl, m3⟩
    simp only [go_sem, Nat.reduceBEq]
    have hr : ∀ n ∈ ([0, 1, 127, 128, 999999999, 1000000000, 1000000001, 2147483647, 1000000000000] : List Int), 0 ≤ n ∧ n ≤ 1000000000000 := by decide
    exact ⟨n, rfl, (hr n hn).1, (hr n hn).2, m3.drop⟩
  simp only [decide_eq_false c1, go_sem, Nat.reduceBEq]
  by_cases c2 : x = 2
  · simp only [decide_eq_true c2, go_sem, Nat.reduceBEq]
    refine (l1Below_c hl m1 1000000 (by decide) (by decide)).mono ?_
    rintro _ h2 ⟨y, rfl, y0, y1, m2⟩
    simp only [go_sem, Nat.reduceBEq]
    refine (l1Below_c hl m2 1000000 (by decide) (by decide)).mono ?_
    rintro _ h3 ⟨z, rfl, z0, z1, m3⟩
    have q0 : 0 ≤ y * z := Int.mul_nonneg y0 z0
    have q1 : y * z ≤ 1000000 * 1000000 := Int.mul_le_mul (by omega) (by omega) z0 (by decide)
    have w : IntKind.i64.wrap (y * z) = y * z := IntWalk.i64_in _ (by omega)
    simp only [w, go_sem, Nat.reduceBEq]
    exact ⟨y * z, rfl, q0, by omega, m3⟩
  simp only [decide_eq_false c2, go_sem, Nat.reduceBEq]
  refine (l1Below_c hl m1 20 (by decide) (by decide)).mono ?_
  rintro _ h2 ⟨y, rfl, y0, y1, m2⟩
  simp only [go_sem, Nat.reduceBEq]
  exact ⟨y, rfl, y0, by omega, m2⟩
theorem l1One_c (hl : l.length ≤ 1048576) (m : CurM h0 h l p bag) : ACalls Tryd.prog 54 #[pv p] h (AnyP h0 l p bag) := by
  have lo := i64_lo
  have hi := i64_hi
  (refine enter Tryd.func54 rfl rfl (by kernel_rfl) [] ?_; simp only [go_sem, Nat.reduceBEq])
  refine (l1Below_c hl m 8 (by decide) (by decide)).mono ?_
  rintro _ h1 ⟨x, rfl, x0, x1, m1⟩
  simp only [go_sem, Nat.reduceBEq]
  by_cases c0 : x = 0
  · simp only [decide_eq_true c0, go_sem, Nat.reduceBEq]
    refine (l1Odd_c hl m1).mono ?_
    rintro _ h2 ⟨y, rfl, y0, m2⟩
    simp only [go_sem, Nat.reduceBEq]
    exact ⟨y, rfl, y0, m2⟩
  simp only [decide_eq_false c0, go_sem, Nat.reduceBEq]
  by_cases c1 : x = 1
  · simp only [decide_eq_true c1, go_sem, Nat.reduceBEq]
    refine (l1Num_c hl m1).mono ?_
    rintro _ h2 ⟨y, rfl, y0, y1, m2⟩
    simp only [go_sem, Nat.reduceBEq]
    exact ⟨_, rfl, wrap_ok _, m2⟩
  simp only [decide_eq_false c1, go_sem, Nat.reduceBEq]
  refine (l1Num_c hl m1).mono ?_
  rintro _ h2 ⟨y, rfl, y0, y1, m2⟩
  simp only [go_sem, Nat.reduceBEq]
  exact ⟨y, rfl, by omega, m2⟩
def WordP (h0 : Hp) (l : List UInt8) (p : Nat) (bag : Bag) (u : Value) (h' : Hp) : Prop := ∃ s : ByteArray, u = .string s ∧ s.size ≤ 16 ∧ CurM h0 h' l p bag
theorem l5Word_c (hl : l.length ≤ 1048576) (m : CurM h0 h l p bag) : ACalls Tryd.prog 105 #[pv p] h (WordP h0 l p bag) := by
  (refine enter Tryd.func105 rfl rfl (by kernel_rfl) [] ?_; simp only [go_sem, Nat.reduceBEq])
  refine cur_strs [⟨#[]⟩, ⟨#[97]⟩, ⟨#[98]⟩, ⟨#[120, 49]⟩, ⟨#[48]⟩, ⟨#[53]⟩, ⟨#[45, 53]⟩, ⟨#[48, 53]⟩, ⟨#[45, 48]⟩, ⟨#[49, 50, 97]⟩, ⟨#[48, 48, 55]⟩, ⟨#[49, 48, 48, 48, 48, 48, 48, 48, 48, 48]⟩, ⟨#[49, 48, 48, 48, 48, 48, 48, 48, 48, 49]⟩, ⟨#[32, 49]⟩, ⟨#[105, 116, 39, 115]⟩, ⟨#[10]⟩, ⟨#[60, 105, 62]⟩, ⟨#[255, 59]⟩, ⟨#[110, 97, 109, 101]⟩, ⟨#[115, 58, 49, 58]⟩] slT80 rfl rfl rfl (by decide) (by decide) m fun v h1 m1 => ?_
  simp only [go_sem, Nat.reduceBEq]
  refine (l1Str_c hl m1 (by decide) (by decide)).mono ?_
  rintro _ h2 ⟨s, hs, rfl, m2⟩
  simp only [go_sem, Nat.reduceBEq]
  refine ⟨s, rfl, ?_, m2.drop⟩
  simp only [List.mem_cons, List.not_mem_nil, or_false] at hs
  rcases hs with h | h | h | h | h | h | h | h | h | h | h | h | h | h | h | h | h | h | h | h <;> (rw [h]; decide)
def KeyP (h0 : Hp) (l : List UInt8) (p : Nat) (bag : Bag) (u : Value) (h' : Hp) : Prop := ∃ k : Ky, u = .agg #[.bool k.text, .int .i64 k.num, .string k.str] ∧ k.ok ∧ k.str.size ≤ 4 ∧ CurM h0 h' l p bag
theorem l5Key_c (hl : l.length ≤ 1048576) (m : CurM h0 h l p bag) : ACalls Tryd.prog 84 #[pv p] h (KeyP h0 l p bag) := by
  have lo := i64_lo
  have hi := i64_hi
  (refine enter Tryd.func84 rfl rfl (by kernel_rfl) [] ?_; simp only [go_sem, Nat.reduceBEq])
  refine (l1Once_c hl m 3 (by decide) (by decide)).mono ?_
  rintro _ h1 ⟨b, rfl, m1⟩
  simp only [go_sem, Nat.reduceBEq]
  cases b with
  | true =>
    simp only [go_sem, Nat.reduceBEq]
    refine cur_strs [⟨#[97]⟩, ⟨#[98]⟩, ⟨#[99]⟩, ⟨#[]⟩, ⟨#[48, 53]⟩, ⟨#[120]⟩] slT80 rfl rfl rfl (by decide) (by decide) m1 fun v h2 m2 => ?_
    simp only [go_sem, Nat.reduceBEq]
    refine (l1Str_c hl m2 (by decide) (by decide)).mono ?_
    rintro _ h3 ⟨s, hs, rfl, m3⟩
    simp only [go_sem, Nat.reduceBEq, Nat.reduceAdd, Nat.reduceLeDiff]
    have hsz : s.size ≤ 4 := by
      simp only [List.mem_cons, List.not_mem_nil, or_false] at hs
      rcases hs with h | h | h | h | h | h <;> (rw [h]; decide)
    exact ⟨⟨true, 0, s⟩, rfl, ⟨by show IntKind.i64.min ≤ 0 ∧ 0 ≤ IntKind.i64.max; omega, by show s.size ≤ maxLen; unfold maxLen; omega⟩, hsz, m3.drop⟩
  | false =>
    simp only [go_sem, Nat.reduceBEq]
    refine cur_ints [0, 1, 2, 3, 4, -1, 7, 1000000000, -1000000000] slT99 rfl rfl rfl (by decide) (by decide) m1 fun v h2 m2 => ?_
    simp only [go_sem, Nat.reduceBEq]
    refine (l1Int_c hl m2 (by decide) (by decide)).mono ?_
    rintro _ h3 ⟨n, hn, rfl, m3⟩
    simp only [go_sem, Nat.reduceBEq, Nat.reduceAdd, Nat.reduceLeDiff]
    have hr : ∀ n ∈ ([0, 1, 2, 3, 4, -1, 7, 1000000000, -1000000000] : List Int), IntKind.i64.min ≤ n ∧ n ≤ IntKind.i64.max := by decide
    exact ⟨⟨false, n, ⟨#[]⟩⟩, rfl, ⟨hr n hn, Nat.zero_le _⟩, Nat.zero_le _, m3.drop⟩
/-- A draw of a value. -/
def ValP (B : Nat) (h0 : Hp) (l : List UInt8) (p : Nat) (bag : Bag) (u : Value) (h' : Hp) : Prop := ∃ (v : V) (a : Option Addr) (c : Nat), u = .agg #[.int .i64 v.kind, .int .i64 v.num, .string v.str, .int .i64 v.next, .slice a v.items.length c] ∧ v.ok ∧ v.bulk ≤ B ∧ CurM h0 h' l p ((.row 8 (v.items.flatMap edt), .slice a v.items.length c) :: bag)
theorem ValP.plain {B : Nat} {h' : Hp} (k n : Int) (s : ByteArray) (hk : IntKind.i64.min ≤ k ∧ k ≤ IntKind.i64.max) (hn : IntKind.i64.min ≤ n ∧ n ≤ IntKind.i64.max) (hs : s.size ≤ B) (hB : B ≤ 1000000) (m : CurM h0 h' l p bag) : ValP B h0 l p bag (.agg #[.int .i64 k, .int .i64 n, .string s, .int .i64 0, .slice none 0 0]) h' := by
  refine ⟨⟨k, n, s, 0, []⟩, none, 0, rfl, ?_, by rw [V.bulk_eq]; simpa [V.bulks, V.items, V.str] using hs, m.upd fun d m => (m.nilrow).swap⟩
  simp only [V.ok, V.oks, and_true]
  exact ⟨hk, hn, by unfold maxLen; omega, by decide, Nat.zero_le _⟩
theorem dBoolV (b : Bool) (h : Hp) : ACalls Tryd.prog 104 #[.bool b] h (Pu (.agg #[.int .i64 1, .int .i64 (if b then 1 else 0), .string ⟨#[]⟩, .int .i64 0, .slice none 0 0]) h) := by
  cases b with
  | false =>
    (refine enter Tryd.func104 rfl rfl (by kernel_rfl) [] ?_; simp only [go_sem, Nat.reduceBEq, Nat.reduceAdd, Nat.reduceLeDiff])
    exact ⟨rfl, rfl⟩
  | true =>
    (refine enter Tryd.func104 rfl rfl (by kernel_rfl) [] ?_; simp only [go_sem, Nat.reduceBEq, Nat.reduceAdd, Nat.reduceLeDiff])
    exact ⟨rfl, rfl⟩
theorem dIntV (n : Int) (h : Hp) : ACalls Tryd.prog 106 #[.int .i64 n] h (Pu (.agg #[.int .i64 2, .int .i64 n, .string ⟨#[]⟩, .int .i64 0, .slice none 0 0]) h) := by
  (refine enter Tryd.func106 rfl rfl (by kernel_rfl) [] ?_; simp only [go_sem, Nat.reduceBEq, Nat.reduceAdd, Nat.reduceLeDiff])
  exact ⟨rfl, rfl⟩
theorem dTextV (s : ByteArray) (h : Hp) : ACalls Tryd.prog 57 #[.string s] h (Pu (.agg #[.int .i64 3, .int .i64 0, .string s, .int .i64 0, .slice none 0 0]) h) := by
  (refine enter Tryd.func57 rfl rfl (by kernel_rfl) [] ?_; simp only [go_sem, Nat.reduceBEq, Nat.reduceAdd, Nat.reduceLeDiff])
  exact ⟨rfl, rfl⟩
theorem dArrV (h : Hp) : ACalls Tryd.prog 109 #[] h (Pu (.agg #[.int .i64 4, .int .i64 0, .string ⟨#[]⟩, .int .i64 0, .slice none 0 0]) h) := by
  (refine enter Tryd.func109 rfl rfl (by kernel_rfl) [] ?_; simp only [go_sem, Nat.reduceBEq, Nat.reduceAdd, Nat.reduceLeDiff])
  exact ⟨rfl, rfl⟩
theorem l5Scalar_c (hl : l.length ≤ 1048576) (m : CurM h0 h l p bag) : ACalls Tryd.prog 75 #[pv p] h (ValP 16 h0 l p bag) := by
  have lo := i64_lo
  have hi := i64_hi
  (refine enter Tryd.func75 rfl rfl (by kernel_rfl) [] ?_; simp only [go_sem, Nat.reduceBEq])
  refine (l1Below_c hl m 8 (by decide) (by decide)).mono ?_
  rintro _ h1 ⟨x, rfl, x0, x1, m1⟩
  simp only [go_sem, Nat.reduceBEq]
  by_cases c0 : x = 0
  · simp only [decide_eq_true c0, go_sem, Nat.reduceBEq, Nat.reduceAdd, Nat.reduceLeDiff]
    exact .plain 0 0 _ (by decide) (by decide) (by decide) (by decide) m1
  simp only [decide_eq_false c0, go_sem, Nat.reduceBEq]
  by_cases c1 : x = 1
  · simp only [decide_eq_true c1, go_sem, Nat.reduceBEq]
    refine (l1Once_c hl m1 2 (by decide) (by decide)).mono ?_
    rintro _ h2 ⟨b, rfl, m2⟩
    simp only [go_sem, Nat.reduceBEq]
    (refine (dBoolV b _).mono ?_; rintro _ _ ⟨rfl, rfl⟩; simp only [go_sem, Nat.reduceBEq, Nat.reduceAdd, Nat.reduceLeDiff])
    exact .plain 1 _ _ (by decide) (by split <;> decide) (by decide) (by decide) m2
  simp only [decide_eq_false c1, go_sem, Nat.reduceBEq]
  by_cases c2 : x = 2
  · simp only [decide_eq_true c2, go_sem, Nat.reduceBEq]
    refine (l5Word_c hl m1).mono ?_
    rintro _ h2 ⟨s, rfl, hs, m2⟩
    simp only [go_sem, Nat.reduceBEq]
    (refine (dTextV s _).mono ?_; rintro _ _ ⟨rfl, rfl⟩; simp only [go_sem, Nat.reduceBEq, Nat.reduceAdd, Nat.reduceLeDiff])
    exact .plain 3 0 s (by decide) (by decide) hs (by decide) m2
  simp only [decide_eq_false c2, go_sem, Nat.reduceBEq]
  by_cases c3 : x = 3
  · simp only [decide_eq_true c3, go_sem, Nat.reduceBEq]
    refine (l5Word_c hl m1).mono ?_
    rintro _ h2 ⟨s, rfl, hs, m2⟩
    simp only [go_sem, Nat.reduceBEq]
    (refine (dTextV s _).mono ?_; rintro _ _ ⟨rfl, rfl⟩; simp only [go_sem, Nat.reduceBEq, Nat.reduceAdd, Nat.reduceLeDiff])
    exact .plain 3 0 s (by decide) (by decide) hs (by decide) m2
  simp only [decide_eq_false c3, go_sem, Nat.reduceBEq]
  by_cases c4 : x = 4
  · simp only [decide_eq_true c4, go_sem, Nat.reduceBEq]
    refine cur_ints [0, 1, -1, 5, 10, 999999999, 1000000000, -1000000000] slT99 rfl rfl rfl (by decide) (by decide) m1 fun v h2 m2 => ?_
    simp only [go_sem, Nat.reduceBEq]
    refine (l1Int_c hl m2 (by decide) (by decide)).mono ?_
    rintro _ h3 ⟨n, hn, rfl, m3⟩
    simp only [go_sem, Nat.reduceBEq]
    have hr : ∀ n ∈ ([0, 1, -1, 5, 10, 999999999, 1000000000, -1000000000] : List Int), IntKind.i64.min ≤ n ∧ n ≤ IntKind.i64.max := by decide
    (refine (dIntV n _).mono ?_; rintro _ _ ⟨rfl, rfl⟩; simp only [go_sem, Nat.reduceBEq, Nat.reduceAdd, Nat.reduceLeDiff])
    exact .plain 2 n _ (by decide) (hr n hn) (by decide) (by decide) m3.drop
  simp only [decide_eq_false c4, go_sem, Nat.reduceBEq]
  refine (l1Below_c hl m1 20 (by decide) (by decide)).mono ?_
  rintro _ h2 ⟨y, rfl, y0, y1, m2⟩
  simp only [go_sem, Nat.reduceBEq]
  (refine (dIntV (IntKind.i64.wrap (y - 5)) _).mono ?_; rintro _ _ ⟨rfl, rfl⟩; simp only [go_sem, Nat.reduceBEq, Nat.reduceAdd, Nat.reduceLeDiff])
  exact .plain 2 _ _ (by decide) (wrap_ok _) (by decide) (by decide) m2
end
end Go.Proofs.YtconhonjkfpfmaaDoor
