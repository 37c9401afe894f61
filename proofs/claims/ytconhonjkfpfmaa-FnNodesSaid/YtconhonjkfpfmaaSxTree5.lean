/-
  A part of the abstract machine over the model's Code, or of the proof that what it shows holds of the model; no program is in sight, and nothing is assumed.
-/
import Derived.Test.YtconhonjkfpfmaaSxTree4
/-! What stands at the top of a script, as the reference reads it and as the program does. -/
namespace Go.Sx
open Go
section
variable (nm stc inl : ByteArray → Bool) (E B : Nd → Bool)
/-- the members of a class from the i-th on -/
def sCls (n : Nd) : Nat → Int → List Nd → Bool
  | _, _, [] => true
  | i, st, x :: r => fNum x && (fTxt nm stc inl x && (if x.kind = 52 then (decide (i = 0) && (decide (n.kind = 50) && decide (x.kids.length = 0))) && (!decide ((0 : Int) < st) && sCls n (i + 1) 0 r)
    else if x.kind = 53 then decide (x.kids.length = 0) && (!decide ((1 : Int) < st) && sCls n (i + 1) 1 r)
    else if x.kind = 54 then (decide (x.kids.length = 1) && (decide (1 ≤ (kid x.kids 0).kind ∧ (kid x.kids 0).kind ≤ 3) && E (kid x.kids 0))) && (!decide ((2 : Int) < st) && sCls n (i + 1) 2 r)
    else if x.kind = 55 then sUses nm B false x.kids && (!decide ((2 : Int) < st) && sCls n (i + 1) 2 r)
    else false))
def tpS (S : Nd → Bool) (x : Nd) : Bool :=
  if x.kind = 49 then fNum x && (fTxt nm stc inl x && sUses nm B false x.kids)
  else if x.kind = 50 ∨ x.kind = 51 then fNum x && (fTxt nm stc inl x && sCls nm stc inl E B x 0 0 x.kids)
  else S x
end
def clR (i : Nat) (st part : Int) : Prop := (i = 0 ∧ st = 0 ∧ part = 0) ∨ (1 ≤ i ∧ (((st = 0 ∨ st = 1) ∧ part = 1) ∨ (st = 2 ∧ part = 2)))
section
variable (nm stc inl : ByteArray → Bool)
theorem two_num (v : Nd) : decide (0 ≤ v.num ∧ v.num ≤ 1) = (decide (v.num = 0) || decide (v.num = 1)) := by
  by_cases h0 : v.num = 0
  · simp [h0]
  · by_cases h1 : v.num = 1
    · simp [h1]
    · rw [decide_eq_false h0, decide_eq_false h1, decide_eq_false (by omega)]
      rfl
theorem cls_eq {n : Nd} (hn : n.kind = 50 ∨ n.kind = 51) : ∀ (l : List Nd) (i : Nat) (st part : Int), clR i st part → sCls nm stc inl (xpB nm stc inl) (nBlk (smB nm stc inl)) n i st l = nPart nm (xpB nm stc inl) (smB nm stc inl) n part l
  | [], i, st, part, _ => rfl
  | x :: r, i, st, part, h => by
    rw [sCls, nPart]
    by_cases h2 : x.kind = 52
    · have e1 : fNum x = decide (x.num = 0) := by unfold fNum; simp [h2]
      have e2 : fTxt nm stc inl x = nm x.text := by unfold fTxt nmK; simp [h2]
      rw [e1, e2, if_pos h2, if_pos h2]
      rcases h with ⟨rfl, rfl, rfl⟩ | ⟨hi, hs⟩
      · have ih := cls_eq hn r 1 0 1 (.inr ⟨Nat.le_refl _, .inl ⟨.inl rfl, rfl⟩⟩)
        rw [Nat.zero_add, ih]
        generalize nPart nm (xpB nm stc inl) (smB nm stc inl) n 1 r = q
        generalize nm x.text = a
        generalize decide (x.num = 0) = b
        generalize decide (x.kids.length = 0) = c
        rcases hn with hn | hn
        · rw [hn]
          cases a <;> cases b <;> cases c <;> cases q <;> rfl
        · rw [hn]
          cases a <;> cases b <;> cases c <;> cases q <;> rfl
      · have p0 : decide (0 < part) = true := decide_eq_true (by omega)
        have i0 : decide (i = 0) = false := decide_eq_false (by omega)
        rw [p0, i0]
        simp
    by_cases h3 : x.kind = 53
    · have e1 : fNum x = decide (x.num = 0) := by unfold fNum; simp [h3]
      have e2 : fTxt nm stc inl x = nm x.text := by unfold fTxt nmK; simp [h3]
      rw [e1, e2, if_neg h2, if_pos h3, if_neg h2, if_pos h3]
      have ih := cls_eq hn r (i + 1) 1 1 (.inr ⟨by omega, .inl ⟨.inr rfl, rfl⟩⟩)
      have e3 : decide ((1 : Int) < st) = decide (1 < part) := decide_eq_decide.2 (by
        rcases h with ⟨rfl, rfl, rfl⟩ | ⟨hi, hs⟩ <;> omega)
      rw [ih, e3]
      generalize nPart nm (xpB nm stc inl) (smB nm stc inl) n 1 r = q
      generalize nm x.text = a
      generalize decide (x.num = 0) = b
      generalize decide (x.kids.length = 0) = c
      generalize decide (1 < part) = d
      cases a <;> cases b <;> cases c <;> cases d <;> cases q <;> rfl
    have e4 : decide ((2 : Int) < st) = false := decide_eq_false (by
      rcases h with ⟨rfl, rfl, rfl⟩ | ⟨hi, hs⟩ <;> omega)
    have ih := cls_eq hn r (i + 1) 2 2 (.inr ⟨by omega, .inr ⟨rfl, rfl⟩⟩)
    by_cases h4 : x.kind = 54
    · have e1 : fNum x = decide (0 ≤ x.num ∧ x.num ≤ 1) := by unfold fNum; simp [h4]
      have e2 : fTxt nm stc inl x = nm x.text := by unfold fTxt nmK; simp [h4]
      rw [e1, e2, if_neg h2, if_neg h3, if_pos h4, if_neg h2, if_neg h3, if_pos h4, ih, e4, two_num]
      generalize nPart nm (xpB nm stc inl) (smB nm stc inl) n 2 r = q
      generalize nm x.text = a
      generalize (decide (x.num = 0) || decide (x.num = 1)) = b
      generalize decide (x.kids.length = 1) = c
      generalize decide (1 ≤ (kid x.kids 0).kind ∧ (kid x.kids 0).kind ≤ 3) = d
      generalize xpB nm stc inl (kid x.kids 0) = e
      cases a <;> cases b <;> cases c <;> cases d <;> cases e <;> cases q <;> rfl
    by_cases h5 : x.kind = 55
    · have e1 : fNum x = decide (0 ≤ x.num ∧ x.num ≤ 3) := by unfold fNum; simp [h5]
      have e2 : fTxt nm stc inl x = nm x.text := by unfold fTxt nmK; simp [h5]
      rw [e1, e2, if_neg h2, if_neg h3, if_neg h4, if_pos h5, if_neg h2, if_neg h3, if_neg h4, if_pos h5, ih, e4, uses_fun]
      generalize nPart nm (xpB nm stc inl) (smB nm stc inl) n 2 r = q
      generalize nm x.text = a
      generalize decide (0 ≤ x.num ∧ x.num ≤ 3) = b
      generalize nFun nm (smB nm stc inl) false x.kids = c
      cases a <;> cases b <;> cases c <;> cases q <;> rfl
    · rw [if_neg h2, if_neg h3, if_neg h4, if_neg h5, if_neg h2, if_neg h3, if_neg h4, if_neg h5]
      simp
theorem top_no {x : Nd} (h : x.kind = 49 ∨ x.kind = 50 ∨ x.kind = 51) : smB nm stc inl x = false := by
  rw [smB_fix]
  unfold stF
  rcases h with h | h | h <;> simp [h]
theorem top_eq (x : Nd) : tpS nm stc inl (xpB nm stc inl) (nBlk (smB nm stc inl)) (smB nm stc inl) x = (topF nm (xpB nm stc inl) (smB nm stc inl) x || smB nm stc inl x) := by
  unfold tpS topF
  by_cases h1 : x.kind = 49
  · rw [if_pos h1, if_pos h1, top_no nm stc inl (.inl h1), Bool.or_false, uses_fun]
    have e1 : fNum x = decide (x.num = 0) := by unfold fNum; simp [h1]
    have e2 : fTxt nm stc inl x = nm x.text := by unfold fTxt nmK; simp [h1]
    rw [e1, e2]
  by_cases h2 : x.kind = 50 ∨ x.kind = 51
  · have e1 : fNum x = decide (x.num = 0) := by unfold fNum; rcases h2 with h | h <;> simp [h]
    have e2 : fTxt nm stc inl x = nm x.text := by unfold fTxt nmK; rcases h2 with h | h <;> simp [h]
    rw [if_neg h1, if_pos h2, if_neg h1, if_pos h2, top_no nm stc inl (.inr h2), Bool.or_false, e1, e2, cls_eq nm stc inl h2 x.kids 0 0 0 (.inl ⟨rfl, rfl, rfl⟩)]
  · rw [if_neg h1, if_neg h2, if_neg h1, if_neg h2]
    simp
end
end Go.Sx
namespace Go.Sx
open Go
theorem take_len (l : List UInt8) (i : Nat) : (l.take i).length ≤ l.length := by rw [List.length_take]; exact Nat.min_le_right _ _
theorem cut_size (s : ByteArray) : (cutB s).1.size ≤ s.size ∧ (cutB s).2.1.size ≤ s.size := by
  have e : ∀ l : List UInt8, (⟨l.toArray⟩ : ByteArray).size = l.length := fun l => by rw [← size_data]
  have key : (Lib.cut s.data.toList cc.data.toList).1.length ≤ s.data.toList.length ∧ (Lib.cut s.data.toList cc.data.toList).2.1.length ≤ s.data.toList.length := by
    unfold Lib.cut
    split
    · refine ⟨take_len _ _, ?_⟩
      simp only [List.length_drop]
      exact Nat.sub_le _ _
    · exact ⟨Nat.le_refl _, Nat.zero_le _⟩
  rw [size_data s] at key
  exact ⟨Nat.le_trans (Nat.le_of_eq (e _)) key.1, Nat.le_trans (Nat.le_of_eq (e _)) key.2⟩
theorem hsem_kind {P : Program} {h : Hp} {K : Value → Hp → Prop} {t n b off i j : Nat} {es : List Nd} {e : Nd} {xs : List Value} (ht : tyS P t = some (false, n)) (hat : At h ⟨b, off, none⟩ xs) (hr : RdL h (es.flatMap Nd.dt) xs) (hi : es[i]? = some e) (hj : j = off + i * 4)
    (k : K (.int .i64 e.kind) h) : HPure P (ldI t (.pointer (some ⟨b, j, none⟩))) h K :=
  hsem_cell (f := Nd.dt) (o := 0) (d := .raw (.int .i64 e.kind)) Nd.dt_len ht hat hr hi (by decide) (by rw [Nd.dt_eq]; rfl) (by simpa using hj) fun v rv => by
    obtain ⟨rfl, _⟩ := Rd_raw.1 rv
    exact k
end Go.Sx
namespace Go.Sx
open Go
theorem drop_bulks (l : List Nd) (i : Nat) : Nd.bulks (l.drop i) ≤ Nd.bulks l := by
  rw [Nd.bulks_eq, Nd.bulks_eq]
  induction l generalizing i with
  | nil => simp
  | cons a r ih =>
    cases i with
    | zero => exact Nat.le_refl _
    | succ i =>
      have := ih i
      have e : szG Nd.bulk (a :: r) = 1 + Nd.bulk a + szG Nd.bulk r := by simp [szG, gsum]; omega
      rw [List.drop_succ_cons, e]
      omega
theorem take_bulks (l : List Nd) (i : Nat) : Nd.bulks (l.take i) ≤ Nd.bulks l := by
  rw [Nd.bulks_eq, Nd.bulks_eq]
  induction l generalizing i with
  | nil => simp
  | cons a r ih =>
    cases i with
    | zero => simp [szG, gsum]
    | succ i =>
      have := ih i
      have e : ∀ q : List Nd, szG Nd.bulk (a :: q) = 1 + Nd.bulk a + szG Nd.bulk q := fun q => by simp [szG, gsum]; omega
      rw [List.take_succ_cons, e, e]
      omega
section
variable {nm : ByteArray → Bool} {B S : Nd → Bool} {l : List Nd}
theorem drop1_all (h : 2 ≤ l.length ∧ l.length ≤ 3) : (l.drop 1).all B = (B (kid l 1) && B (kid l (l.length - 1))) := by
  match l, h with
  | [a, b], _ => simp [kid]
  | [a, b, c], _ => simp [kid]
theorem drop_last {i : Nat} (h : l.length = i + 1) : (l.drop i).all B = B (kid l i) := by
  have hi : i < l.length := by omega
  rw [drop_cons (kid_get hi), List.drop_eq_nil_of_le (by omega)]
  simp
theorem take1_all (h : 0 < l.length) : (l.take 1).all B = B (kid l 0) := by
  match l, h with
  | a :: r, _ => simp [kid]
theorem try_catch (h2 : 2 ≤ l.length) (hb : nBlk S (kid l 0) = true) (k : (kid l 1).kind = 44) : nTry nm S l = (nCatch nm S (kid l 1) && (decide (l.length = 2) || (decide (l.length = 3) && nFin S (kid l 2)))) := by
  have e : nFin S (kid l 1) = false := by unfold nFin; simp [k]
  unfold nTry
  rw [decide_eq_true h2, hb, e]
  generalize nFin S (kid l 2) = q
  generalize nCatch nm S (kid l 1) = p
  generalize decide (l.length = 2) = a
  generalize decide (l.length = 3) = b
  cases a <;> cases b <;> cases p <;> cases q <;> rfl
theorem try_fin (h2 : 2 ≤ l.length) (hb : nBlk S (kid l 0) = true) (k : ¬ (kid l 1).kind = 44) : nTry nm S l = (decide (l.length = 2) && nFin S (kid l 1)) := by
  have e : nCatch nm S (kid l 1) = false := by unfold nCatch; simp [k]
  unfold nTry
  rw [decide_eq_true h2, hb, e]
  generalize nFin S (kid l 1) = p
  generalize nFin S (kid l 2) = q
  generalize decide (l.length = 2) = a
  generalize decide (l.length = 3) = b
  cases a <;> cases b <;> cases p <;> cases q <;> rfl
end
end Go.Sx
namespace Go.Sx
open Go
theorem drop_take (l : List Nd) (i : Nat) : (l.drop i).take (l.length - i) = l.drop i := List.take_of_length_le (by rw [List.length_drop]; exact Nat.le_refl _)
theorem drop_take2 (l : List Nd) : ((l.drop 1).drop 1).take (l.length - 1 - 1) = l.drop 2 := by
  rw [List.drop_drop]
  exact List.take_of_length_le (by rw [List.length_drop]; omega)
end Go.Sx
