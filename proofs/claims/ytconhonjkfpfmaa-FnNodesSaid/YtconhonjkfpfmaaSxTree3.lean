/-
  A part of the abstract machine over the model's Code, or of the proof that what it shows holds of the model; no program is in sight, and nothing is assumed.
-/
import Derived.Test.YtconhonjkfpfmaaSxTree2
/-! Syntax trees as the reference reads them: the same nodes are right. -/
namespace Go.Sx
open Go
theorem all_congr {l : List Nd} {f g : Nd → Bool} (h : ∀ e ∈ l, f e = g e) : l.all f = l.all g := by
  induction l with
  | nil => rfl
  | cons a r ih => rw [List.all_cons, List.all_cons, h a (by simp), ih fun e he => h e (by simp [he])]
theorem Nd.size_pos (v : Nd) : 1 ≤ v.size := by rw [Nd.size_eq]; omega
theorem kid_out {l : List Nd} {i : Nat} (h : l.length ≤ i) : kid l i = nd0 := by
  unfold kid
  rw [List.getD_eq_getElem?_getD, List.getElem?_eq_none h]
  rfl
theorem kid_lt {v : Nd} (i : Nat) (h : ¬ v.kids = []) : (kid v.kids i).size < v.size := by
  by_cases hi : i < v.kids.length
  · exact Nd.size_lt (kid_mem hi)
  · rw [kid_out (by omega)]
    have h1 : nd0.size = 1 := by rw [Nd.size_eq]; rfl
    obtain ⟨a, ha⟩ : ∃ a, a ∈ v.kids := by
      cases hk : v.kids with
      | nil => exact absurd hk h
      | cons a r => exact ⟨a, by simp⟩
    have h2 := Nd.size_lt ha
    have h3 := Nd.size_pos a
    omega
section
variable {nm stc inl : ByteArray → Bool} {E E' S S' : Nd → Bool}
theorem nFun_congr {clo : Bool} {l : List Nd} (h : ∀ k ∈ l, S k = S' k) : nFun nm S clo l = nFun nm S' clo l := by
  unfold nFun nBlk
  by_cases h0 : 0 < l.length
  · rw [h _ (kid_mem (by omega))]
  · simp [h0]
theorem exF_congr {v : Nd} (h : ∀ k : Nd, k.size < v.size → E k = E' k ∧ S k = S' k) : exF nm stc E S v = exF nm stc E' S' v := by
  have h1 : v.kids.all E = v.kids.all E' := all_congr fun e he => (h e (Nd.size_lt he)).1
  have h2 : v.kids.all (nItem E) = v.kids.all (nItem E') := all_congr fun e he => by
    have hs := Nd.size_lt he
    have : e.kids.all E = e.kids.all E' := all_congr fun u hu => (h u (by have := Nd.size_lt hu; omega)).1
    unfold nItem
    rw [this]
  have h3 : nFun nm S true v.kids = nFun nm S' true v.kids := nFun_congr fun k hk => (h k (Nd.size_lt hk)).2
  unfold exF
  rw [h1, h2, h3]
theorem nCatch_congr {c : Nd} (h : ∀ k : Nd, k.size < c.size → S k = S' k) : nCatch nm S c = nCatch nm S' c := by
  unfold nCatch nBlk
  by_cases hk : c.kids = []
  · simp [hk]
  · rw [h _ (kid_lt 1 hk)]
theorem nFin_congr {c : Nd} (h : ∀ k : Nd, k.size < c.size → S k = S' k) : nFin S c = nFin S' c := by
  unfold nFin nBlk
  by_cases hk : c.kids = []
  · simp [hk]
  · rw [h _ (kid_lt 0 hk)]
theorem stF_congr {v : Nd} (h : ∀ k : Nd, k.size < v.size → E k = E' k ∧ S k = S' k) : stF nm inl E S v = stF nm inl E' S' v := by
  by_cases hk : v.kids = []
  · unfold stF nTry
    simp [hk]
  have hE : ∀ i, E (kid v.kids i) = E' (kid v.kids i) := fun i => (h _ (kid_lt i hk)).1
  have hS : ∀ i, S (kid v.kids i) = S' (kid v.kids i) := fun i => (h _ (kid_lt i hk)).2
  have hC : ∀ i, nCatch nm S (kid v.kids i) = nCatch nm S' (kid v.kids i) := fun i => nCatch_congr fun k hs => (h k (by have := kid_lt i hk; omega)).2
  have hF : ∀ i, nFin S (kid v.kids i) = nFin S' (kid v.kids i) := fun i => nFin_congr fun k hs => (h k (by have := kid_lt i hk; omega)).2
  have h1 : v.kids.all E = v.kids.all E' := all_congr fun e he => (h e (Nd.size_lt he)).1
  have h2 : v.kids.all S = v.kids.all S' := all_congr fun e he => (h e (Nd.size_lt he)).2
  unfold stF nTry nBlk
  simp only [hE, hS, hC, hF, h1, h2]
variable (nm stc inl)
theorem xpB_fix (v : Nd) : xpB nm stc inl v = exF nm stc (xpB nm stc inl) (smB nm stc inl) v := by
  rw [xpB_eq]
  exact exF_congr fun k hk => ⟨xpG_eq nm stc inl hk, smG_eq nm stc inl hk⟩
theorem smB_fix (v : Nd) : smB nm stc inl v = stF nm inl (xpB nm stc inl) (smB nm stc inl) v := by
  rw [smB_eq]
  exact stF_congr fun k hk => ⟨xpG_eq nm stc inl hk, smG_eq nm stc inl hk⟩
/-! the reference's order -/
def fNum (v : Nd) : Bool :=
  if v.kind = 1 then decide (0 ≤ v.num ∧ v.num ≤ 1000000000)
  else if v.kind = 3 then decide (0 ≤ v.num ∧ v.num ≤ 2)
  else if v.kind = 9 then decide (1 ≤ v.num ∧ v.num ≤ 2)
  else if v.kind = 10 then decide (1 ≤ v.num ∧ v.num ≤ 15)
  else if v.kind = 54 then decide (0 ≤ v.num ∧ v.num ≤ 1)
  else if v.kind = 55 then decide (0 ≤ v.num ∧ v.num ≤ 3)
  else decide (v.num = 0)
def nmK (k : Int) : Prop := k = 4 ∨ k = 8 ∨ k = 17 ∨ k = 18 ∨ k = 20 ∨ k = 40 ∨ k = 44 ∨ k = 49 ∨ k = 50 ∨ k = 51 ∨ k = 52 ∨ k = 53
instance (k : Int) : Decidable (nmK k) := by unfold nmK; infer_instance
def fTxt (v : Nd) : Bool :=
  if v.kind = 2 ∨ v.kind = 47 then decide (v.text.size ≤ 400)
  else if nmK v.kind then nm v.text
  else if v.kind = 22 then nm v.text || decide (v.text = sTic)
  else if v.kind = 54 ∨ v.kind = 55 then nm v.text
  else if v.kind = 21 then stc v.text
  else if v.kind = 31 then !decide (v.text = ⟨#[]⟩) && inl v.text
  else decide (v.text = ⟨#[]⟩)
variable (E S B : Nd → Bool)
def sUses (clo : Bool) (l : List Nd) : Bool := nPars nm clo false (l.take (l.length - 1)) && (decide (0 < l.length) && B (kid l (l.length - 1)))
def exT (v : Nd) : Bool :=
  if v.kind = 1 ∨ v.kind = 2 ∨ v.kind = 3 ∨ v.kind = 4 then decide (v.kids.length = 0)
  else if v.kind = 5 then v.kids.all (nItem E)
  else if v.kind = 8 ∨ v.kind = 9 then decide (v.kids.length = 1) && E (kid v.kids 0)
  else if v.kind = 7 ∨ v.kind = 10 ∨ v.kind = 11 ∨ v.kind = 12 ∨ v.kind = 13 then decide (v.kids.length = 2) && v.kids.all E
  else if v.kind = 14 then decide (v.kids.length = 3) && v.kids.all E
  else if v.kind = 15 ∨ v.kind = 16 then decide (v.kids.length = 2) && ((kid v.kids 0).aim2 && v.kids.all E)
  else if v.kind = 17 then decide (v.kids.length = 1) && (decide ((kid v.kids 0).kind = 4) && E (kid v.kids 0))
  else if v.kind = 18 ∨ v.kind = 21 ∨ v.kind = 22 then v.kids.all E
  else if v.kind = 19 ∨ v.kind = 20 then decide (1 ≤ v.kids.length) && v.kids.all E
  else if v.kind = 23 then sUses nm B true v.kids
  else false
def exS (v : Nd) : Bool := fNum v && (fTxt nm stc inl v && exT nm E B v)
def blS (v : Nd) : Bool := decide (v.kind = 48) && (decide (v.num = 0) && (decide (v.text = ⟨#[]⟩) && v.kids.all S))
/-- a part of a try, the i-th of k -/
def sPart (k i : Nat) (x : Nd) : Bool := fNum x && (fTxt nm stc inl x && ((decide (x.kind = 44) && (decide (i = 1) && (decide (x.kids.length = 2) && (decide ((kid x.kids 0).kind = 4) && (E (kid x.kids 0) && B (kid x.kids 1)))))) || (decide (x.kind = 45) && (decide (i = k - 1) && (decide (x.kids.length = 1) && B (kid x.kids 0))))))
/-- the parts of a try from the i-th on -/
def sParts (k : Nat) : Nat → List Nd → Bool
  | _, [] => true
  | i, x :: r => sPart nm stc inl E B k i x && sParts k (i + 1) r
def stT (v : Nd) : Bool :=
  if v.kind = 31 ∨ v.kind = 37 ∨ v.kind = 38 ∨ v.kind = 40 ∨ v.kind = 47 then decide (v.kids.length = 0)
  else if v.kind = 32 ∨ v.kind = 33 ∨ v.kind = 42 then decide (v.kids.length = 1) && E (kid v.kids 0)
  else if v.kind = 39 then decide (v.kids.length ≤ 1) && v.kids.all E
  else if v.kind = 41 then decide (v.kids.length = 1) && ((kid v.kids 0).aim2 && E (kid v.kids 0))
  else if v.kind = 34 then decide (2 ≤ v.kids.length ∧ v.kids.length ≤ 3) && (E (kid v.kids 0) && (B (kid v.kids 1) && B (kid v.kids (v.kids.length - 1))))
  else if v.kind = 35 then decide (v.kids.length = 2) && (E (kid v.kids 0) && B (kid v.kids 1))
  else if v.kind = 36 then decide (3 ≤ v.kids.length ∧ v.kids.length ≤ 4) && ((v.kids.take (v.kids.length - 1)).all E && (decide ((kid v.kids 1).kind = 4) && (decide ((kid v.kids (v.kids.length - 2)).kind = 4) && B (kid v.kids (v.kids.length - 1)))))
  else if v.kind = 46 then decide (1 ≤ v.kids.length ∧ v.kids.length ≤ 2) && (v.kids.all E && (decide (v.kids.length = 1) || decide ((kid v.kids 0).kind = 4)))
  else if v.kind = 48 then B v
  else if v.kind = 43 then decide (2 ≤ v.kids.length ∧ v.kids.length ≤ 3) && (B (kid v.kids 0) && sParts nm stc inl E B v.kids.length 1 (v.kids.drop 1))
  else false
def stS (v : Nd) : Bool := fNum v && (fTxt nm stc inl v && stT nm stc inl E B v)
end
section
variable (nm stc inl : ByteArray → Bool)
/-- a block is a statement of its kind -/
theorem bl_stm (v : Nd) : blS (smB nm stc inl) v = nBlk (smB nm stc inl) v := by
  unfold blS nBlk
  by_cases h : v.kind = 48
  · rw [decide_eq_true h, Bool.true_and, Bool.true_and, smB_fix]
    unfold stF
    simp [h]
  · rw [decide_eq_false h, Bool.false_and, Bool.false_and]
theorem var_xp (v : Nd) : (decide (v.kind = 4) && xpB nm stc inl v) = nVar nm v := by
  unfold nVar
  by_cases h : v.kind = 4
  · rw [xpB_fix]
    unfold exF nVar
    simp [h]
  · rw [decide_eq_false h, Bool.false_and, Bool.false_and]
theorem uses_fun (clo : Bool) (l : List Nd) : sUses nm (nBlk (smB nm stc inl)) clo l = nFun nm (smB nm stc inl) clo l := by
  unfold sUses nFun
  generalize nPars nm clo false (l.take (l.length - 1)) = p
  generalize nBlk (smB nm stc inl) (kid l (l.length - 1)) = q
  generalize decide (0 < l.length) = d
  cases p <;> cases q <;> cases d <;> rfl
theorem aim_all {l : List Nd} (h : 0 < l.length) : (l.all (xpB nm stc inl) && (kid l 0).aim) = ((kid l 0).aim2 && l.all (xpB nm stc inl)) := by
  cases ha : l.all (xpB nm stc inl) with
  | false => simp
  | true =>
    rw [List.all_eq_true] at ha
    rw [ex_aim nm stc inl _ (ha _ (kid_mem h))]
    simp
end
end Go.Sx
