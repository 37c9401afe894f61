/-
  A part of the abstract machine over the model's Code, or of the proof that what it shows holds of the model; no program is in sight, and nothing is assumed.
-/
import Derived.Test.YtconhonjkfpfmaaDoorSxLib
import Derived.Test.YtconhonjkfpfmaaDoorSxDataV
import Derived.Lib.AtoiTie
/-! Canonical decimal numerals: a numeral read is the numeral written. -/
namespace Go.Sx
open Go
theorem decFrom_snoc : ∀ (l : List UInt8) (acc m d : Nat) (b : UInt8), Lib.decFrom acc l = some m → Lib.digitVal b = some d → Lib.decFrom acc (l ++ [b]) = some (m * 10 + d)
  | [], acc, m, d, b, h, hd => by
    simp only [Lib.decFrom, Option.some.injEq] at h
    subst h
    simp [Lib.decFrom, hd]
  | a :: r, acc, m, d, b, h, hd => by
    simp only [List.cons_append, Lib.decFrom] at h ⊢
    cases ha : Lib.digitVal a with
    | none => rw [ha] at h; cases h
    | some e =>
      rw [ha] at h
      simp only at h ⊢
      exact decFrom_snoc r _ m d b h hd
theorem digitVal_of {d : Nat} (h : d < 10) : Lib.digitVal (UInt8.ofNat (48 + d)) = some d := by
  have : ∀ d : Nat, d < 10 → Lib.digitVal (UInt8.ofNat (48 + d)) = some d := by decide
  exact this d h
theorem decFrom_dec (u : Nat) : Lib.decFrom 0 (Lib.decDigits u) = some u := by
  induction u using Nat.strongRecOn with
  | _ u ih =>
    rw [Lib.decDigits]
    by_cases h : u < 10
    · rw [dif_pos h]
      simp only [Lib.decFrom, digitVal_of h, Nat.zero_mul, Nat.zero_add]
    · rw [dif_neg h, decFrom_snoc _ _ _ (u % 10) _ (ih (u / 10) (by omega)) (digitVal_of (by omega))]
      congr 1
      omega
theorem dec_ne (u : Nat) : Lib.decDigits u ≠ [] := by
  rw [Lib.decDigits]
  split <;> simp
theorem dec_head (u : Nat) : ∃ b r, Lib.decDigits u = b :: r ∧ 48 ≤ b.toNat ∧ b.toNat ≤ 57 := by
  cases h : Lib.decDigits u with
  | nil => exact absurd h (dec_ne u)
  | cons b r =>
    obtain ⟨d, hd⟩ := Lib.digit_of_decFrom _ _ _ (decFrom_dec u) 0 b (by rw [h]; rfl)
    unfold Lib.digitVal at hd
    split at hd
    · rename_i hb; exact ⟨b, r, rfl, hb⟩
    · cases hd
theorem atoi_itoa (n : Int) : Lib.atoi (Lib.itoa n) = some n := by
  have hd : ∀ u, Lib.decNat (Lib.decDigits u) = some u := fun u => by
    unfold Lib.decNat
    rw [if_neg (by simpa using dec_ne u), decFrom_dec]
  unfold Lib.itoa
  by_cases h : n < 0
  · rw [if_pos h]
    simp only [Lib.atoi, hd]
    simp
    omega
  · rw [if_neg h]
    obtain ⟨b, r, hb, h1, h2⟩ := dec_head n.toNat
    rw [hb]
    have e45 : (b == 45) = false := by
      rw [beq_eq_false_iff_ne]; rintro rfl; exact absurd h1 (by decide)
    have e43 : (b == 43) = false := by
      rw [beq_eq_false_iff_ne]; rintro rfl; exact absurd h1 (by decide)
    simp only [Lib.atoi, e45, e43, Bool.false_eq_true, if_false]
    rw [← hb, hd]
    simp
    omega
theorem itoa_inj {a b : Int} (h : Lib.itoa a = Lib.itoa b) : a = b := by
  have := atoi_itoa a
  rw [h, atoi_itoa b] at this
  exact (Option.some.inj this).symm
theorem nDigits_le : ∀ (k u : Nat), u < 10 ^ (k + 1) → Lib.nDigits u ≤ k + 1
  | 0, u, h => by rw [Lib.nDigits_small (by simpa using h)]; exact Nat.le_refl _
  | k + 1, u, h => by
    by_cases hu : u < 10
    · rw [Lib.nDigits_small hu]; omega
    · rw [Lib.nDigits_big hu]
      have := nDigits_le k (u / 10) (by rw [Nat.pow_succ] at h; omega)
      omega
theorem itoa_len {n : Int} {k : Nat} (h : n.natAbs < 10 ^ (k + 1)) : (Lib.itoa n).length ≤ k + 2 ∧ (0 ≤ n → (Lib.itoa n).length ≤ k + 1) := by
  unfold Lib.itoa
  by_cases hn : n < 0
  · rw [if_pos hn]
    have := nDigits_le k n.natAbs h
    rw [List.length_cons, Lib.decDigits_length]
    exact ⟨by omega, by omega⟩
  · rw [if_neg hn]
    have := nDigits_le k n.toNat (by rw [show n.toNat = n.natAbs by omega]; exact h)
    rw [Lib.decDigits_length]
    exact ⟨by omega, fun _ => this⟩
theorem itoa_pos_len (n : Int) : 1 ≤ (Lib.itoa n).length := by
  unfold Lib.itoa
  split
  · simp
  · have := dec_ne n.toNat
    cases h : Lib.decDigits n.toNat with
    | nil => exact absurd h this
    | cons => simp
theorem atoiAll_itoa {n : Int} (h : n.natAbs < 10 ^ 17) : Lib.atoiAll (Lib.itoa n) = .ok n := by
  rw [Lib.atoiAll_short _ (by have := (itoa_len (k := 16) h).1; omega), atoi_itoa]
  rfl
/-- The canonical numeral of a number of at most nine zeros. -/
def canonP (s : ByteArray) : Prop := ∃ n : Int, -1000000000 ≤ n ∧ n ≤ 1000000000 ∧ s.data.toList = Lib.itoa n
def canonB (s : ByteArray) : Bool := match Lib.atoiAll s.data.toList with
  | .ok n => decide (-1000000000 ≤ n ∧ n ≤ 1000000000) && decide (s.data.toList = Lib.itoa n)
  | _ => false
theorem canonB_iff {s : ByteArray} : canonB s = true ↔ canonP s := by
  unfold canonB
  constructor
  · intro h
    split at h
    · rename_i n hn
      simp only [Bool.and_eq_true, decide_eq_true_eq] at h
      exact ⟨n, h.1.1, h.1.2, h.2⟩
    · cases h
  · rintro ⟨n, h1, h2, h3⟩
    rw [h3, atoiAll_itoa (by omega)]
    simp [h1, h2]
theorem canonB_true {s : ByteArray} (h : canonP s) : canonB s = true := canonB_iff.2 h
theorem canonB_false {s : ByteArray} (h : ¬ canonP s) : canonB s = false := by
  cases hb : canonB s with
  | false => rfl
  | true => exact absurd (canonB_iff.1 hb) h
def keyOk (k : Ky) : Bool := if k.text then decide (k.num = 0) && (decide (k.str.size ≤ 400) && !canonB k.str) else decide (k.str = ⟨#[]⟩) && decide (-1000000000 ≤ k.num ∧ k.num ≤ 1000000000)
theorem ba_of {s : ByteArray} {l : List UInt8} (h : s.data.toList = l) : s = ⟨l.toArray⟩ := by
  cases s
  subst h
  simp
end Go.Sx
