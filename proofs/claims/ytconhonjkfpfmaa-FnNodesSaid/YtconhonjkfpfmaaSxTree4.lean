/-
  A part of the abstract machine over the model's Code, or of the proof that what it shows holds of the model; no program is in sight, and nothing is assumed.
-/
import Derived.Test.YtconhonjkfpfmaaSxTree3
/-! Syntax trees as the reference reads them, and as the program does: the same. -/
namespace Go.Sx
open Go
section
variable (nm stc inl : ByteArray → Bool)
theorem exS_eq (v : Nd) : exS nm stc inl (xpB nm stc inl) (nBlk (smB nm stc inl)) v = xpB nm stc inl v := by
  rw [xpB_fix]
  unfold exS exT exF fNum fTxt nmK
  by_cases h1 : v.kind = 1
  · simp [h1]
  by_cases h2 : v.kind = 2
  · simp [h2]
  by_cases h3 : v.kind = 3
  · simp [h3]
  by_cases h4 : v.kind = 4
  · simp [h4, nVar]
  by_cases h5 : v.kind = 5
  · simp [h5]
  by_cases h7 : v.kind = 7
  · simp [h7]
  by_cases h8 : v.kind = 8
  · by_cases hl : v.kids.length = 1
    · simp [h8, hl, all_one hl]
    · simp [h8, hl]
  by_cases h9 : v.kind = 9
  · by_cases hl : v.kids.length = 1
    · simp [h9, hl, all_one hl]
    · simp [h9, hl]
  by_cases h10 : v.kind = 10
  · simp [h10]
  by_cases h11 : v.kind = 11
  · simp [h11]
  by_cases h12 : v.kind = 12
  · simp [h12]
  by_cases h13 : v.kind = 13
  · simp [h13]
  by_cases h14 : v.kind = 14
  · simp [h14]
  by_cases h15 : v.kind = 15
  · by_cases hl : v.kids.length = 2
    · have := aim_all nm stc inl (l := v.kids) (by omega)
      simp [h15, hl, this]
    · simp [h15, hl]
  by_cases h16 : v.kind = 16
  · by_cases hl : v.kids.length = 2
    · have := aim_all nm stc inl (l := v.kids) (by omega)
      simp [h16, hl, this]
    · simp [h16, hl]
  by_cases h17 : v.kind = 17
  · simp [h17, ← var_xp nm stc inl]
  by_cases h18 : v.kind = 18
  · simp [h18]
  by_cases h19 : v.kind = 19
  · simp [h19]
  by_cases h20 : v.kind = 20
  · simp [h20]
  by_cases h21 : v.kind = 21
  · simp [h21]
  by_cases h22 : v.kind = 22
  · simp [h22, Bool.or_comm]
  by_cases h23 : v.kind = 23
  · simp [h23, uses_fun]
  simp [h1, h2, h3, h4, h5, h7, h8, h9, h10, h11, h12, h13, h14, h15, h16, h17, h18, h19, h20, h21, h22, h23]
theorem sPart_eq (k i : Nat) (x : Nd) : sPart nm stc inl (xpB nm stc inl) (nBlk (smB nm stc inl)) k i x = ((decide (i = 1) && nCatch nm (smB nm stc inl) x) || (decide (i = k - 1) && nFin (smB nm stc inl) x)) := by
  unfold sPart nCatch nFin
  rw [← var_xp nm stc inl]
  unfold fNum fTxt nmK
  by_cases h : x.kind = 44
  · simp [h]
    cases decide (i = 1) <;> simp
    simp only [Bool.and_assoc]
  by_cases h5 : x.kind = 45
  · simp [h5]
    cases decide (i = k - 1) <;> simp
  · simp [h, h5]
theorem try_eq (l : List Nd) : (decide (2 ≤ l.length ∧ l.length ≤ 3) && (nBlk (smB nm stc inl) (kid l 0) && sParts nm stc inl (xpB nm stc inl) (nBlk (smB nm stc inl)) l.length 1 (l.drop 1))) = nTry nm (smB nm stc inl) l := by
  unfold nTry
  match l with
  | [] => rfl
  | [a] => simp
  | [a, b] => simp [sParts, sPart_eq, kid]
  | [a, b, c] => simp [sParts, sPart_eq, kid]
  | a :: b :: c :: d :: r =>
    have h1 : ¬ (a :: b :: c :: d :: r).length ≤ 3 := by simp
    have h2 : ¬ (a :: b :: c :: d :: r).length = 2 := by simp
    have h3 : ¬ (a :: b :: c :: d :: r).length = 3 := by simp
    rw [decide_eq_false (fun h => h1 h.2), decide_eq_false h2, decide_eq_false h3]
    simp
theorem each_eq {l : List Nd} (h : 3 ≤ l.length ∧ l.length ≤ 4) (b : Bool) : ((l.take (l.length - 1)).all (xpB nm stc inl) && (decide ((kid l 1).kind = 4) && (decide ((kid l (l.length - 2)).kind = 4) && b))) = (xpB nm stc inl (kid l 0) && (nVar nm (kid l 1) && (nVar nm (kid l (l.length - 2)) && b))) := by
  simp only [← var_xp nm stc inl]
  match l, h with
  | [x, y, z], _ =>
    simp [kid]
    generalize xpB nm stc inl x = p
    generalize xpB nm stc inl y = q
    generalize decide (y.kind = 4) = r
    cases p <;> cases q <;> cases r <;> rfl
  | [x, y, z, w], _ =>
    simp [kid]
    generalize xpB nm stc inl x = p
    generalize xpB nm stc inl y = q
    generalize xpB nm stc inl z = s
    generalize decide (y.kind = 4) = r
    generalize decide (z.kind = 4) = t
    cases p <;> cases q <;> cases r <;> cases s <;> cases t <;> rfl
theorem yield_eq {l : List Nd} (h : 1 ≤ l.length ∧ l.length ≤ 2) : (l.all (xpB nm stc inl) && (decide (l.length = 1) || decide ((kid l 0).kind = 4))) = ((decide (l.length = 1) || (decide (l.length = 2) && nVar nm (kid l 0))) && xpB nm stc inl (kid l (l.length - 1))) := by
  simp only [← var_xp nm stc inl]
  match l, h with
  | [x], _ => simp [kid]
  | [x, y], _ =>
    simp [kid]
    generalize xpB nm stc inl x = p
    generalize xpB nm stc inl y = q
    generalize decide (x.kind = 4) = r
    cases p <;> cases q <;> cases r <;> rfl
theorem stS_eq (v : Nd) : stS nm stc inl (xpB nm stc inl) (nBlk (smB nm stc inl)) v = smB nm stc inl v := by
  rw [smB_fix]
  unfold stS stT stF fNum fTxt nmK
  by_cases h31 : v.kind = 31
  · simp [h31, Bool.and_assoc]
  by_cases h32 : v.kind = 32
  · simp [h32]
  by_cases h33 : v.kind = 33
  · simp [h33]
  by_cases h34 : v.kind = 34
  · simp [h34]
  by_cases h35 : v.kind = 35
  · simp [h35]
  by_cases h36 : v.kind = 36
  · by_cases hl : 3 ≤ v.kids.length ∧ v.kids.length ≤ 4
    · simp [h36, hl, each_eq nm stc inl hl]
    · simp [h36, hl]
  by_cases h37 : v.kind = 37
  · simp [h37]
  by_cases h38 : v.kind = 38
  · simp [h38]
  by_cases h39 : v.kind = 39
  · simp [h39]
  by_cases h40 : v.kind = 40
  · simp [h40]
  by_cases h41 : v.kind = 41
  · simp [h41]
    cases hx : xpB nm stc inl (kid v.kids 0) with
    | false => simp
    | true => rw [ex_aim nm stc inl _ hx]
  by_cases h42 : v.kind = 42
  · simp [h42]
  by_cases h43 : v.kind = 43
  · rw [← try_eq]
    simp [h43]
  by_cases h46 : v.kind = 46
  · by_cases hl : 1 ≤ v.kids.length ∧ v.kids.length ≤ 2
    · simp [h46, hl, yield_eq nm stc inl hl]
    · have h1 : ¬ v.kids.length = 1 := by omega
      have h2 : ¬ v.kids.length = 2 := by omega
      simp [h46, hl, h1, h2]
  by_cases h47 : v.kind = 47
  · simp [h47]
  by_cases h48 : v.kind = 48
  · rw [← bl_stm nm stc inl v]
    unfold blS
    simp [h48]
    cases decide (v.num = 0) <;> cases decide (v.text = ⟨#[]⟩) <;> simp
  simp [h31, h32, h33, h34, h35, h36, h37, h38, h39, h40, h41, h42, h43, h46, h47, h48]
end
end Go.Sx
