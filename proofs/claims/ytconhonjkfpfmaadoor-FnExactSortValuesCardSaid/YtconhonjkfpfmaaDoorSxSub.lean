/-
  A part of the abstract machine over the model's Code, or of the proof that what it shows holds of the model; no program is in sight, and nothing is assumed.
-/
import Derived.Test.YtconhonjkfpfmaaDoorSxDataV
/-! Parts of slices that are only read; rows whose cells are shared. -/
namespace Go.Sx
open Go
section
variable {α : Type} {f : α → List Dt} {z : Nat}
theorem fm_drop (hf : ∀ a, (f a).length = z) (l : List α) (i : Nat) : (l.flatMap f).drop (i * z) = (l.drop i).flatMap f := by
  by_cases hi : i ≤ l.length
  · have e : l.flatMap f = (l.take i).flatMap f ++ (l.drop i).flatMap f := by rw [← List.flatMap_append, List.take_append_drop]
    rw [e, List.drop_append_of_le_length (by rw [fm_len hf, List.length_take, Nat.min_eq_left hi]; exact Nat.le_refl _), List.drop_of_length_le (by rw [fm_len hf, List.length_take, Nat.min_eq_left hi]; exact Nat.le_refl _), List.nil_append]
  · rw [List.drop_of_length_le (by rw [fm_len hf]; exact Nat.mul_le_mul_right _ (by omega)), List.drop_of_length_le (by omega)]
    rfl
theorem fm_takeN (hf : ∀ a, (f a).length = z) (l : List α) (i : Nat) : (l.flatMap f).take (i * z) = (l.take i).flatMap f := by
  by_cases hi : i ≤ l.length
  · have e : l.flatMap f = (l.take i).flatMap f ++ (l.drop i).flatMap f := by rw [← List.flatMap_append, List.take_append_drop]
    rw [e, List.take_append_of_le_length (by rw [fm_len hf, List.length_take, Nat.min_eq_left hi]; exact Nat.le_refl _), List.take_of_length_le (by rw [fm_len hf, List.length_take, Nat.min_eq_left hi]; exact Nat.le_refl _)]
  · rw [List.take_of_length_le (by rw [fm_len hf]; exact Nat.mul_le_mul_right _ (by omega)), List.take_of_length_le (by omega)]
variable {h : Hp}
theorem one_take {xs : List Value} (h1 : oneCells xs = true) (k : Nat) : oneCells (xs.take k) = true := by
  rw [← List.take_append_drop k xs, oneCells_append] at h1
  exact (Bool.and_eq_true _ _ ▸ h1).1
theorem one_drop {xs : List Value} (h1 : oneCells xs = true) (k : Nat) : oneCells (xs.drop k) = true := by
  rw [← List.take_append_drop k xs, oneCells_append] at h1
  exact (Bool.and_eq_true _ _ ▸ h1).2
/-- A slice expression over a slice that is read. -/
theorem RdS.sub {a : Option Addr} {n c : Nat} {xs : List Value} (rd : RdS h z (.slice a n c) xs) (i j : Nat) (hij : i ≤ j) (hj : j ≤ n) :
    ∃ a', slA (some z) a n c (i : Int) (j : Int) = some (.slice a' (j - i) (c - i)) ∧ RdS h z (.slice a' (j - i) (c - i)) ((xs.drop (i * z)).take ((j - i) * z)) := by
  obtain ⟨⟨a0, n0, c0, e0, hc, hl, hat⟩, h1⟩ := rd
  cases e0
  refine ⟨if c = i then a else a.map (·.add (i * z)), ?_, ⟨⟨_, _, _, rfl, by omega, ?_, ?_⟩, one_take (one_drop h1 _) _⟩⟩
  · rw [slA_, if_pos (by omega)]
    simp only [Int.toNat_natCast]
  · rw [List.length_take, List.length_drop, hl, ← Nat.sub_mul]
    exact Nat.min_eq_left (Nat.mul_le_mul_right _ (by omega))
  · rcases hat with rfl | ⟨ad, rfl, cur, t, fz, hb, hs, hv⟩
    · left; simp
    · by_cases hji : j = i
      · left; subst hji; simp
      · right
        rw [if_neg (by omega)]
        obtain ⟨b, o, sp⟩ := ad
        have hs : sp = none := hs
        subst hs
        have ea : (Addr.mk b o none).add (i * z) = ⟨b, o + i * z, none⟩ := by
          unfold Addr.add
          split
          · rename_i h0; rw [h0]; rfl
          · rfl
        refine ⟨⟨b, o + i * z, none⟩, by rw [← ea]; rfl, cur, t, fz, hb, rfl, fun q u hq => ?_⟩
        have hq2 : xs[i * z + q]? = some u := by
          have hlt := (List.getElem?_eq_some_iff.1 hq).1
          rw [List.length_take] at hlt
          rw [List.getElem?_take_of_lt (by omega), List.getElem?_drop] at hq
          exact hq
        have := hv _ _ hq2
        show cur[o + i * z + q]? = some u
        rw [Nat.add_assoc]
        exact this
/-- .. of a row of things. -/
theorem Rd.sub (hf : ∀ a, (f a).length = z) {a : Option Addr} {n c : Nat} {l : List α} (rd : Rd h (.row z (l.flatMap f)) (.slice a n c)) (i j : Nat) (hij : i ≤ j) (hj : j ≤ n) :
    ∃ a' ys, slA (some z) a n c (i : Int) (j : Int) = some (.slice a' (j - i) (c - i)) ∧ RdS h z (.slice a' (j - i) (c - i)) ys ∧ RdL h (((l.drop i).take (j - i)).flatMap f) ys := by
  simp only [Rd] at rd
  obtain ⟨xs, h1, h2⟩ := rd
  obtain ⟨a', h3, h4⟩ := h1.sub i j hij hj
  refine ⟨a', _, h3, h4, ?_⟩
  rw [← fm_takeN hf, ← fm_drop hf]
  exact (h2.drop _).take _
/-- A row of the walk's own whose cells are shared with what is read. -/
theorem Rd.of_raws {cs : List Dt} {us : List Value} {v : Value} (m : Rd h (.row z (us.map .raw)) v) (r : RdL h cs us) : Rd h (.row z cs) v := by
  simp only [Rd] at m ⊢
  obtain ⟨xs, h1, h2⟩ := m
  rw [RdL.of_raws h2] at h1
  exact ⟨us, h1, r⟩
end
end Go.Sx
