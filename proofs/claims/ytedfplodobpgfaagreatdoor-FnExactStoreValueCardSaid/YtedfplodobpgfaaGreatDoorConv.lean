/-
  What LeadingInt and IsNumeric of the program and of the reference return; the text has at most 2^60 bytes.
-/
import Derived.Test.YtedfplodobpgfaaGreatDoorNum
namespace Go.Proofs.YtedfplodobpgfaaGreatDoor
set_option maxRecDepth 8000
open Go Go.Sx
/-- the digits in front, the number held at M; how many -/
def sat (M : Int) : List UInt8 → Int → Nat → Int × Nat
  | [], n, k => (n, k)
  | c :: r, n, k => if isDig c then sat M r (min (10 * n + ((c.toNat : Int) - 48)) M) (k + 1) else (n, k)
theorem sat_count (M M' : Int) : ∀ (l : List UInt8) (n n' : Int) (k : Nat), (sat M l n k).2 = (sat M' l n' k).2
  | [], _, _, _ => rfl
  | c :: r, n, n', k => by
    simp only [sat]
    split
    · exact sat_count M M' r _ _ _
    · rfl
theorem sat_min {M : Int} (hM : 0 ≤ M) : ∀ (l : List UInt8) (n n' : Int) (k : Nat), 0 ≤ n → n ≤ M + 1 → n' = min n M → (sat M l n' k).1 = min (sat (M + 1) l n k).1 M
  | [], n, n', k, _, _, h => h
  | c :: r, n, n', k, h0, h1, h => by
    simp only [sat]
    split
    · rename_i hc
      simp only [isDig, decide_eq_true_eq] at hc
      exact sat_min hM r _ _ _ (by omega) (by omega) (by omega)
    · exact h
theorem sat_bounds {M : Int} (hM : 0 ≤ M) : ∀ (l : List UInt8) (n : Int) (k : Nat), 0 ≤ n → n ≤ M → 0 ≤ (sat M l n k).1 ∧ (sat M l n k).1 ≤ M ∧ k ≤ (sat M l n k).2 ∧ (sat M l n k).2 ≤ k + l.length
  | [], n, k, h0, h1 => ⟨h0, h1, Nat.le_refl _, by simp [sat]⟩
  | c :: r, n, k, h0, h1 => by
    simp only [sat, List.length_cons]
    split
    · rename_i hc
      simp only [isDig, decide_eq_true_eq] at hc
      have := sat_bounds hM r (min (10 * n + ((c.toNat : Int) - 48)) M) (k + 1) (by omega) (by omega)
      omega
    · simp only; omega
def isNeg (l : List UInt8) : Bool := decide (l.head? = some 45)
def at_ (l : List UInt8) : Nat := if isNeg l then 1 else 0
def leadN (M : Int) (l : List UInt8) : Int := (sat M (l.drop (at_ l)) 0 (at_ l)).1
def lead (s : ByteArray) : Int := if isNeg s.data.toList then -leadN 1000000000 s.data.toList else leadN 1000000000 s.data.toList
theorem u8sub {c : UInt8} (hc : isDig c = true) : IntKind.i64.wrap (IntKind.u8.wrap ((c.toNat : Int) - 48)) = (c.toNat : Int) - 48 := by
  simp only [isDig, decide_eq_true_eq] at hc
  have h3 : ∀ r : Nat, r < 10 → IntKind.u8.wrap (r : Int) = (r : Int) := by decide
  have h4 := h3 (c.toNat - 48) (by omega)
  rw [show ((c.toNat : Int) - 48) = ((c.toNat - 48 : Nat) : Int) by omega, h4, IntWalk.i64_in _ (by omega)]
theorem str_empty {s : ByteArray} : s = ⟨#[]⟩ ↔ s.size = 0 := ⟨fun e => by subst e; rfl, fun e => by
  cases s with
  | mk d => have : d = #[] := Array.eq_empty_of_size_eq_zero e
            rw [this]⟩
theorem neg_nil {s : ByteArray} (h : s.size = 0) : isNeg s.data.toList = false := by
  have : s = ⟨#[]⟩ := str_empty.2 h
  subst this; rfl
theorem neg_get {s : ByteArray} {c : UInt8} (h : s.data.toList[0]? = some c) : isNeg s.data.toList = decide (c = 45) := by
  unfold isNeg
  rw [List.head?_eq_getElem?, h]
  simp
theorem byte_dec (c k : UInt8) : decide ((c.toNat : Int) = (k.toNat : Int)) = decide (c = k) := by
  apply decide_eq_decide.2
  exact ⟨fun h => UInt8.toNat_inj.1 (Int.ofNat.inj h), fun h => by rw [h]⟩
theorem drop_at {l : List UInt8} {i : Nat} {c : UInt8} (h : l[i]? = some c) : l.drop i = c :: l.drop (i + 1) := drop_cons h
theorem sat_min2 {M M2 : Int} (hM : 0 ≤ M) (h2 : M ≤ M2) : ∀ (l : List UInt8) (n n' : Int) (k : Nat), 0 ≤ n → n ≤ M2 → n' = min n M → (sat M l n' k).1 = min (sat M2 l n k).1 M
  | [], n, n', k, _, _, h => h
  | c :: r, n, n', k, h0, h1, h => by
    simp only [sat]
    split
    · rename_i hc
      simp only [isDig, decide_eq_true_eq] at hc
      exact sat_min2 hM h2 r _ _ _ (by omega) (by omega) (by omega)
    · exact h
theorem sat_shift (M : Int) (j : Nat) : ∀ (l : List UInt8) (n : Int) (k : Nat), sat M l n (k + j) = ((sat M l n k).1, (sat M l n k).2 + j)
  | [], _, _ => rfl
  | c :: r, n, k => by
    simp only [sat]
    split
    · rw [show k + j + 1 = (k + 1) + j by omega, sat_shift M j r]
    · rfl
theorem sat_none (M : Int) : ∀ (l : List UInt8) (n : Int) (k : Nat), (∀ q : Nat, k ≤ q → (sat M l n k).2 = k → (sat M l n k).1 = n)
  | [], _, _, _, _, _ => rfl
  | c :: r, n, k, q, hq, h => by
    simp only [sat] at h ⊢
    split at h
    · rename_i hc
      exfalso
      have h1 := sat_shift M 1 r (min (10 * n + ((c.toNat : Int) - 48)) M) k
      rw [h1] at h
      have h2 : ∀ (l : List UInt8) (n : Int) (k : Nat), k ≤ (sat M l n k).2 := by
        intro l
        induction l with
        | nil => intro n k; exact Nat.le_refl _
        | cons c r ih =>
          intro n k
          simp only [sat]
          split
          · have := ih (min (10 * n + ((c.toNat : Int) - 48)) M) (k + 1); omega
          · exact Nat.le_refl _
      have := h2 r (min (10 * n + ((c.toNat : Int) - 48)) M) k
      simp only at h
      omega
    · rename_i hc; rw [if_neg hc]
def big : Int := 100000000000
def numOK (l : List UInt8) : Bool := decide (1 ≤ l.length ∧ l.length ≤ 10 ∧ (sat big l 0 0).2 = l.length ∧ (sat big l 0 0).1 ≤ 1000000000)
def isNumer (s : ByteArray) : Bool := numOK (s.data.toList.drop (at_ s.data.toList))
theorem ext_one (s : ByteArray) : (s.extract 1 s.size).data.toList = s.data.toList.drop 1 := by
  rw [ByteArray.data_extract, Array.toList_extract, List.extract_eq_take_drop]
  exact List.take_of_length_le (by rw [List.length_drop, ← size_list]; exact Nat.le_refl _)
def scanP (l : List UInt8) : Int × Nat := sat 1000000001 (l.drop (at_ l)) 0 (at_ l)
def scan8 (s : ByteArray) : Int × Nat := if (scanP s.data.toList).2 = at_ s.data.toList then (0, 0) else (if isNeg s.data.toList then -(scanP s.data.toList).1 else (scanP s.data.toList).1, (scanP s.data.toList).2)
theorem scanP_facts (l : List UInt8) : 0 ≤ (scanP l).1 ∧ (scanP l).1 ≤ 1000000001 ∧ at_ l ≤ (scanP l).2 ∧ ((scanP l).2 = at_ l → (scanP l).1 = 0) ∧ leadN 1000000000 l = min (scanP l).1 1000000000 ∧ (at_ l ≤ l.length → (scanP l).2 ≤ l.length) ∧
    ((scanP l).2 = l.length ∧ at_ l < (scanP l).2 ∧ (scanP l).2 ≤ at_ l + 10 ∧ (scanP l).1 ≤ 1000000000 ↔ numOK (l.drop (at_ l)) = true) := by
  have h1 := sat_bounds (M := 1000000001) (by decide) (l.drop (at_ l)) 0 (at_ l) (Int.le_refl _) (by decide)
  have h2 := sat_none 1000000001 (l.drop (at_ l)) 0 (at_ l) (at_ l) (Nat.le_refl _)
  have h3 := sat_min2 (M := 1000000000) (M2 := 1000000001) (by decide) (by decide) (l.drop (at_ l)) 0 0 (at_ l) (Int.le_refl _) (by decide) (by decide)
  have h4 := sat_count big 1000000001 (l.drop (at_ l)) 0 0 (at_ l)
  have h5 := sat_shift big (at_ l) (l.drop (at_ l)) 0 0
  have h6 := sat_min2 (M := 1000000001) (M2 := big) (by decide) (by decide) (l.drop (at_ l)) 0 0 (at_ l) (Int.le_refl _) (by decide) (by decide)
  rw [Nat.zero_add] at h5
  rw [List.length_drop] at h1
  refine ⟨h1.1, h1.2.1, h1.2.2.1, h2, h3, fun h => ?_, ?_⟩
  · have := h1.2.2.2
    show (sat 1000000001 (l.drop (at_ l)) 0 (at_ l)).2 ≤ _
    omega
  · have e1 : (scanP l).2 = (sat big (l.drop (at_ l)) 0 0).2 + at_ l := by
      show (sat 1000000001 (l.drop (at_ l)) 0 (at_ l)).2 = _
      rw [← h4, h5]
    have e2 : (scanP l).1 = min (sat big (l.drop (at_ l)) 0 0).1 1000000001 := by
      show (sat 1000000001 (l.drop (at_ l)) 0 (at_ l)).1 = _
      rw [h6, h5]
    unfold numOK
    rw [decide_eq_true_eq, List.length_drop, e1, e2]
    omega
theorem lead_scan (s : ByteArray) : max (-1000000000) (min 1000000000 (scan8 s).1) = lead s := by
  obtain ⟨f1, f2, f3, f4, f5, f6, f7⟩ := scanP_facts s.data.toList
  unfold scan8 lead
  rw [f5]
  split
  · rename_i hk
    rw [f4 hk]
    split <;> decide
  · split <;> simp only <;> omega
end Go.Proofs.YtedfplodobpgfaaGreatDoor
