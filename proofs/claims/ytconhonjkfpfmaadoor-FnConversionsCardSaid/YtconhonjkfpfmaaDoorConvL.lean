/-
  Integers that are written and read back.
-/
import Derived.Test.YtconhonjkfpfmaaDoorKey
import Derived.Test.YtconhonjkfpfmaaDoorToV
import Derived.Test.YtconhonjkfpfmaaDoorToText
namespace Go.Proofs.YtconhonjkfpfmaaDoor
set_option maxRecDepth 8000
open Go Go.Sx
theorem rd_nil (h : Hp) : RdE h [] (.slice none 0 0) := ((My.nil (Ext.refl h)).nilrow (z := 8)).rd
theorem sat_dec {M : Int} (hM : 0 ≤ M) : ∀ (l r : List UInt8) (acc v k : Nat), Lib.decFrom acc l = some v → sat M (l ++ r) (min (acc : Int) M) k = sat M r (min (v : Int) M) (k + l.length)
  | [], r, acc, v, k, h => by
    simp only [Lib.decFrom, Option.some.injEq] at h
    rw [h]
    rfl
  | c :: l, r, acc, v, k, h => by
    simp only [Lib.decFrom] at h
    cases hd : Lib.digitVal c with
    | none => rw [hd] at h; cases h
    | some d =>
      rw [hd] at h
      have ih := sat_dec hM l r (acc * 10 + d) v (k + 1) h
      unfold Lib.digitVal at hd
      split at hd
      · rename_i hc
        cases hd
        have hg : isDig c = true := by
          unfold isDig
          exact decide_eq_true (by omega)
        rw [List.cons_append, sat, if_pos hg, show min (10 * min (acc : Int) M + ((c.toNat : Int) - 48)) M = min ((acc * 10 + (c.toNat - 48) : Nat) : Int) M by omega, ih, List.length_cons]
        rw [show k + 1 + l.length = k + (l.length + 1) by omega]
      · cases hd
/-- what stands behind the digits holds none in front -/
def noDig (r : List UInt8) : Prop := ∀ c, r.head? = some c → isDig c = false
theorem sat_stop {M : Int} {r : List UInt8} (h : noDig r) (n : Int) (k : Nat) : sat M r n k = (n, k) := by
  cases r with
  | nil => rfl
  | cons c r =>
    rw [sat, if_neg]
    have := h c rfl
    simp [this]
theorem itoa_parts (n : Int) (r : List UInt8) : isNeg (Lib.itoa n ++ r) = decide (n < 0) ∧ (Lib.itoa n ++ r).drop (at_ (Lib.itoa n ++ r)) = Lib.decDigits n.natAbs ++ r := by
  have h1 : isNeg (Lib.itoa n ++ r) = decide (n < 0) := by
    unfold Lib.itoa isNeg
    by_cases hn : n < 0
    · rw [if_pos hn, decide_eq_true hn]
      rfl
    · rw [if_neg hn, decide_eq_false hn]
      obtain ⟨b, q, hb, h3, h4⟩ := dec_head n.toNat
      rw [hb]
      refine decide_eq_false fun e => ?_
      simp only [List.cons_append, List.head?_cons, Option.some.injEq] at e
      rw [e] at h3
      exact absurd h3 (by decide)
  refine ⟨h1, ?_⟩
  unfold at_
  rw [h1]
  unfold Lib.itoa
  by_cases hn : n < 0
  · rw [if_pos hn, decide_eq_true hn]
    rfl
  · rw [if_neg hn, decide_eq_false hn]
    show Lib.decDigits n.toNat ++ r = _
    rw [show n.toNat = n.natAbs by omega]
theorem lead_itoa (n : Int) {r : List UInt8} (hr : noDig r) : lead ⟨(Lib.itoa n ++ r).toArray⟩ = max (-1000000000) (min 1000000000 n) := by
  obtain ⟨h1, h2⟩ := itoa_parts n r
  have h3 := sat_dec (M := 1000000000) (by decide) (Lib.decDigits n.natAbs) r 0 n.natAbs (at_ (Lib.itoa n ++ r)) (decFrom_dec _)
  rw [sat_stop hr] at h3
  unfold lead leadN
  simp only [h1, h2]
  have h4 : min ((0 : Nat) : Int) 1000000000 = 0 := rfl
  rw [h4] at h3
  rw [h3]
  simp only
  by_cases hn : n < 0
  · rw [decide_eq_true hn, if_pos rfl]
    omega
  · rw [decide_eq_false hn]
    simp only [Bool.false_eq_true, if_false]
    omega
theorem lead_itoa0 (n : Int) : lead ⟨(Lib.itoa n).toArray⟩ = max (-1000000000) (min 1000000000 n) := by
  have := lead_itoa n (r := []) (fun c h => by cases h)
  rwa [List.append_nil] at this
theorem numer_itoa {n : Int} (h0 : -1000000000 ≤ n) (h1 : n ≤ 1000000000) : isNumer ⟨(Lib.itoa n).toArray⟩ = true := by
  obtain ⟨h2, h3⟩ := itoa_parts n []
  rw [List.append_nil, List.append_nil] at h3
  unfold isNumer numOK
  have h4 := sat_dec (M := big) (by decide) (Lib.decDigits n.natAbs) [] 0 n.natAbs 0 (decFrom_dec _)
  rw [List.append_nil] at h4
  have h5 : min ((0 : Nat) : Int) big = 0 := rfl
  rw [h5] at h4
  have h6 := nDigits_le 9 n.natAbs (by omega)
  have h7 := Lib.decDigits_length n.natAbs
  have h8 := dec_ne n.natAbs
  have h9 : 1 ≤ (Lib.decDigits n.natAbs).length := by
    cases hd : Lib.decDigits n.natAbs with
    | nil => exact absurd hd h8
    | cons a b => simp
  simp only [h3, h4]
  refine decide_eq_true ⟨h9, by omega, ?_, ?_⟩
  · simp [sat]
  · simp only [sat, big]
    omega
theorem itoa_naught (n : Int) : (⟨(Lib.itoa n).toArray⟩ : ByteArray) = ⟨#[48]⟩ ↔ n = 0 := by
  constructor
  · intro h
    have h1 : Lib.itoa n = [48] := by
      have := congrArg (fun s : ByteArray => s.data.toList) h
      simpa using this
    exact itoa_inj (h1.trans (by rw [Lib.itoa, if_neg (by decide), Lib.decDigits_one (by decide)]; rfl))
  · rintro rfl
    rw [Lib.itoa, if_neg (by decide), Lib.decDigits_one (by decide)]
    rfl
theorem itoa_some (n : Int) : (⟨(Lib.itoa n).toArray⟩ : ByteArray) ≠ ⟨#[]⟩ := by
  intro h
  have h1 : Lib.itoa n = [] := by
    have := congrArg (fun s : ByteArray => s.data.toList) h
    simpa using this
  have := itoa_pos_len n
  rw [h1] at this
  exact absurd this (by decide)
/-- the text is an integer's, within the bounds -/
theorem iParseItoa {n : Int} (h0 : -1000000000 ≤ n) (h1 : n ≤ 1000000000) (s : ByteArray) (hs : s.data.toList = Lib.itoa n) (h : Hp) (hE : Env h) : ACalls Tryd.prog 86 #[.string s] h (Is (.tuple #[.int .i64 n, .bool true]) h) := by
  have hif : isIfc Tryd.prog 122 = true := by kernel_rfl
  have hlen := (itoa_len (n := n) (k := 9) (by omega)).1
  have hsz := size_list s
  rw [hs] at hsz
  have hin : IntKind.i64.min ≤ n ∧ n ≤ IntKind.i64.max := by
    rw [i64max, show IntKind.i64.min = -9223372036854775808 by decide]
    omega
  have hb : (⟨(Lib.itoa n).toArray⟩ : ByteArray) = s := (ba_of hs).symm
  (refine enter Tryd.func86 rfl rfl (by kernel_rfl) [] ?_; simp only [go_sem, Nat.reduceBEq])
  refine ACalls.mono (K := Is (.tuple #[.int .i64 n, .bool true]) h) ?_ ?_
  · (refine enter Tryd.func111 rfl rfl (by kernel_rfl) [] ?_; simp only [go_sem, Nat.reduceBEq])
    simp only [show decide ((20 : Int) < (s.size : Nat)) = false from decide_eq_false (by omega), go_sem, Nat.reduceBEq]
    refine (atoi_c _ (by omega) _ hE).mono ?_
    rintro v _ ⟨hv, rfl⟩
    rcases hv with ⟨m, hx, rfl⟩ | ⟨hx, m, t, p, rfl⟩
    · have hm : m = n := canon_atoi hs (by omega) hx
      subst hm
      simp only [hif, go_sem, Nat.reduceBEq]
      (refine (itoa_c m hin _ hE.pow).mono ?_; rintro _ _ ⟨rfl, rfl⟩; simp only [go_sem, Nat.reduceBEq])
      simp only [hb, show decide (m < -1000000000) = false from decide_eq_false (by omega), show decide (1000000000 < m) = false from decide_eq_false (by omega), decide_true, Bool.not_true, go_sem, Nat.reduceBEq]
      exact ⟨rfl, Ext.refl _⟩
    · exact absurd (by rw [hs]; exact atoiAll_itoa (by omega)) (hx n)
  · rintro _ h2 ⟨rfl, e2⟩
    simp only [go_sem, Nat.reduceBEq]
    exact ⟨rfl, e2⟩
theorem iKeyOfItoa {n : Int} (h0 : -1000000000 ≤ n) (h1 : n ≤ 1000000000) (s : ByteArray) (hs : s.data.toList = Lib.itoa n) (h : Hp) (hE : Env h) : ACalls Tryd.prog 20 #[.agg #[.int .i64 3, .int .i64 0, .string s, .int .i64 0, .slice none 0 0]] h (Is (.tuple #[.agg #[.bool false, .int .i64 n, .string ⟨#[]⟩], .bool true]) h) := by
  (refine enter Tryd.func20 rfl rfl (by kernel_rfl) [] ?_; simp only [go_sem, Nat.reduceBEq, Int.reduceEq])
  refine ACalls.mono (K := Is (.agg #[.bool false, .int .i64 n, .string ⟨#[]⟩]) h) ?_ ?_
  · (refine enter Tryd.func51 rfl rfl (by kernel_rfl) [] ?_; simp only [go_sem, Nat.reduceBEq])
    refine (iParseItoa h0 h1 s hs _ hE).mono ?_
    rintro _ h2 ⟨rfl, e2⟩
    simp only [go_sem, Nat.reduceBEq]
    refine ACalls.mono (K := Pu (.agg #[.bool false, .int .i64 n, .string ⟨#[]⟩]) h2) ?_ ?_
    · (refine enter Tryd.func50 rfl rfl (by kernel_rfl) [] ?_; simp only [go_sem, Nat.reduceBEq, Nat.reduceAdd, Nat.reduceLeDiff])
      exact ⟨rfl, rfl⟩
    · rintro _ _ ⟨rfl, rfl⟩
      simp only [go_sem, Nat.reduceBEq, Nat.reduceAdd, Nat.reduceLeDiff]
      exact ⟨rfl, e2⟩
  · rintro _ h2 ⟨rfl, e2⟩
    simp only [go_sem, Nat.reduceBEq, Nat.reduceAdd, Nat.reduceLeDiff]
    exact ⟨rfl, e2⟩
theorem cIntV (n : Int) (h : Hp) : ACalls Tryd.prog 19 #[.int .i64 n] h (Pu (.agg #[.int .i64 2, .int .i64 n, .string ⟨#[]⟩, .int .i64 0, .slice none 0 0]) h) := by
  (refine enter Tryd.func19 rfl rfl (by kernel_rfl) [] ?_; simp only [go_sem, Nat.reduceBEq, Nat.reduceAdd, Nat.reduceLeDiff])
  exact ⟨rfl, rfl⟩
theorem cTextV (s : ByteArray) (h : Hp) : ACalls Tryd.prog 21 #[.string s] h (Pu (.agg #[.int .i64 3, .int .i64 0, .string s, .int .i64 0, .slice none 0 0]) h) := by
  (refine enter Tryd.func21 rfl rfl (by kernel_rfl) [] ?_; simp only [go_sem, Nat.reduceBEq, Nat.reduceAdd, Nat.reduceLeDiff])
  exact ⟨rfl, rfl⟩
end Go.Proofs.YtconhonjkfpfmaaDoor
