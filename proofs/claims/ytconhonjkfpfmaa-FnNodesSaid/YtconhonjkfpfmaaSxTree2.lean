/-
  A part of the abstract machine over the model's Code, or of the proof that what it shows holds of the model; no program is in sight, and nothing is assumed.
-/
import Derived.Test.YtconhonjkfpfmaaSxTree
import Derived.Lib.IndexMore
import Derived.Lib.IndexBytes
/-! Texts in syntax trees: a class and its member, divided; what plain text must not hold. -/
namespace Go.Sx
open Go
def cc : ByteArray := ⟨#[58, 58]⟩
def lq : ByteArray := ⟨#[60, 63]⟩
def occB (s sub : ByteArray) (i : Nat) : Bool := Lib.occAt s.data.toList sub.data.toList i
theorem size_data (s : ByteArray) : s.data.toList.length = s.size := by rw [Array.length_toList]; rfl
theorem ba_eq {a b : ByteArray} : a = b ↔ a.data.toList = b.data.toList := by
  constructor
  · intro h; rw [h]
  · intro h
    obtain ⟨⟨a⟩⟩ := a
    obtain ⟨⟨b⟩⟩ := b
    simp only at h
    subst h
    rfl
theorem ext_list (s : ByteArray) (a b : Nat) : (s.extract a b).data.toList = (s.data.toList.take b).drop a := by
  rw [ByteArray.data_extract, Array.toList_extract, List.extract_eq_take_drop, List.drop_take]
theorem occ_piece (s sub : ByteArray) (i : Nat) (hi : i + sub.size ≤ s.size) : decide (s.extract i (i + sub.size) = sub) = occB s sub i := by
  unfold occB
  rw [Lib.occAt_iff_take _ _ _ (by rw [size_data, size_data]; exact hi)]
  have e : (s.extract i (i + sub.size)).data.toList = (s.data.toList.drop i).take sub.data.toList.length := by
    rw [ext_list, List.drop_take, show i + sub.size - i = sub.size by omega, size_data]
  cases hb : ((s.data.toList.drop i).take sub.data.toList.length == sub.data.toList) with
  | true => exact decide_eq_true (ba_eq.2 (by rw [e]; exact eq_of_beq hb))
  | false =>
    refine decide_eq_false fun q => ?_
    have h := ba_eq.1 q
    rw [e] at h
    rw [h] at hb
    simp at hb
theorem occ_far {s sub : ByteArray} {i : Nat} (h0 : 0 < sub.size) (hi : s.size < i + sub.size) : occB s sub i = false := by
  cases h : occB s sub i with
  | false => rfl
  | true =>
    rcases Lib.occAt_room h with q | q
    · rw [size_data, size_data] at q; omega
    · have := size_data sub
      rw [q] at this
      simp at this
      omega
def cutB (s : ByteArray) : ByteArray × ByteArray × Bool := (⟨(Lib.cut s.data.toList cc.data.toList).1.toArray⟩, ⟨(Lib.cut s.data.toList cc.data.toList).2.1.toArray⟩, (Lib.cut s.data.toList cc.data.toList).2.2)
/-- a class's name and a member's -/
def stcB (nm : ByteArray → Bool) (s : ByteArray) : Bool := (cutB s).2.2 && ((decide ((cutB s).1 = sTic) || nm (cutB s).1) && nm (cutB s).2.1)
def inlB (s : ByteArray) : Bool := !Lib.contains s.data.toList lq.data.toList
/-- the two parts, none where nothing divides them -/
def splitB (s : ByteArray) : ByteArray × ByteArray := if (cutB s).2.2 then ((cutB s).1, (cutB s).2.1) else (⟨#[]⟩, ⟨#[]⟩)
theorem cut_hit {s : ByteArray} {i : Nat} (hi : i + 2 ≤ s.size) (hn : ∀ j, j < i → occB s cc j = false) (h : occB s cc i = true) : splitB s = (s.extract 0 i, s.extract (i + 2) s.size) := by
  have hx : Lib.index s.data.toList cc.data.toList = i := Lib.index_first (by rw [size_data]; omega) h hn
  have hc : Lib.cut s.data.toList cc.data.toList = (s.data.toList.take i, s.data.toList.drop (i + 2), true) := by
    unfold Lib.cut
    rw [hx, if_pos (by omega)]
    rfl
  unfold splitB cutB
  rw [hc]
  simp only [if_true]
  congr 1
  · rw [ba_eq, ext_list, List.drop_zero]
  · rw [ba_eq, ext_list, List.take_of_length_le (by rw [size_data]; exact Nat.le_refl _)]
theorem cut_miss {s : ByteArray} (hn : ∀ j, j + 2 ≤ s.size → occB s cc j = false) : splitB s = (⟨#[]⟩, ⟨#[]⟩) := by
  have hx : Lib.index s.data.toList cc.data.toList = -1 := Lib.index_none fun j hj => by
    by_cases h : j + 2 ≤ s.size
    · exact hn j h
    · exact occ_far (sub := cc) (by decide) (by show s.size < j + 2; omega)
  have hc : (Lib.cut s.data.toList cc.data.toList).2.2 = false := by
    unfold Lib.cut
    rw [hx, if_neg (by decide)]
  unfold splitB cutB
  rw [hc]
  rfl
theorem stc_split {nm : ByteArray → Bool} (h0 : nm ⟨#[]⟩ = false) (s : ByteArray) : ((nm (splitB s).1 || decide ((splitB s).1 = sTic)) && nm (splitB s).2) = stcB nm s := by
  unfold stcB splitB
  cases (cutB s).2.2 with
  | true =>
    simp only [if_true, Bool.true_and]
    rw [Bool.or_comm]
  | false =>
    simp only [Bool.false_eq_true, if_false, Bool.false_and]
    rw [h0, Bool.and_false]
/-- no instance up to a place -/
def noOcc (s sub : ByteArray) : Nat → Bool
  | 0 => true
  | n + 1 => noOcc s sub n && !occB s sub n
theorem noOcc_iff {s sub : ByteArray} : ∀ {n : Nat}, noOcc s sub n = true ↔ ∀ j, j < n → occB s sub j = false
  | 0 => ⟨fun _ j h => by omega, fun _ => rfl⟩
  | n + 1 => by
    rw [noOcc, Bool.and_eq_true, noOcc_iff]
    constructor
    · rintro ⟨h1, h2⟩ j hj
      by_cases he : j = n
      · subst he; simpa using h2
      · exact h1 j (by omega)
    · intro h
      exact ⟨fun j hj => h j (by omega), by simpa using h n (by omega)⟩
theorem inl_all (s : ByteArray) : noOcc s lq s.size = inlB s := by
  unfold inlB Lib.contains
  cases h : noOcc s lq s.size with
  | true =>
    have hx : Lib.index s.data.toList lq.data.toList = -1 := Lib.index_none fun j hj => by
      by_cases hj : j < s.size
      · exact noOcc_iff.1 h j hj
      · exact occ_far (sub := lq) (by decide) (by show s.size < j + 2; omega)
    rw [hx]
    decide
  | false =>
    rcases Lib.index_spec s.data.toList lq.data.toList with ⟨h1, h2⟩ | ⟨i, h1, h2, h3, h4⟩
    · exfalso
      have : noOcc s lq s.size = true := noOcc_iff.2 fun j hj => h2 j (by rw [size_data]; omega)
      rw [h] at this
      cases this
    · rw [h1, decide_eq_true (show (0 : Int) ≤ (i : Nat) by omega)]
      rfl
end Go.Sx
