/-
  A part of the abstract machine over the model's Code, or of the proof that what it shows holds of the model; no program is in sight, and nothing is assumed.
-/
import Derived.Test.YtconhonjkfpfmaaSxDataT
/-! Syntax trees: which nodes are expressions, statements, scripts. -/
namespace Go.Sx
open Go
theorem Nd.size_mem : ∀ {l : List Nd} {e : Nd}, e ∈ l → e.size ≤ Nd.sizes l
  | v :: r, e, he => by
    simp only [Nd.sizes]
    cases he with
    | head => omega
    | tail _ he => have := Nd.size_mem he; omega
theorem Nd.size_lt {v e : Nd} (h : e ∈ v.kids) : e.size < v.size := by
  have := Nd.size_mem h
  rw [Nd.size_eq v]
  omega
def nd0 : Nd := ⟨0, 0, ⟨#[]⟩, []⟩
def kid (l : List Nd) (i : Nat) : Nd := l.getD i nd0
theorem kid_get {l : List Nd} {i : Nat} (h : i < l.length) : l[i]? = some (kid l i) := by
  unfold kid
  rw [List.getD_eq_getElem?_getD, List.getElem?_eq_getElem h]
  rfl
theorem kid_mem {l : List Nd} {i : Nat} (h : i < l.length) : kid l i ∈ l := List.mem_of_getElem? (kid_get h)
theorem all_one {l : List Nd} {f : Nd → Bool} (h : l.length = 1) : l.all f = f (kid l 0) := by
  match l, h with
  | [a], _ => simp [kid]
theorem all_two {l : List Nd} {f : Nd → Bool} (h : l.length = 2) : l.all f = (f (kid l 0) && f (kid l 1)) := by
  match l, h with
  | [a, b], _ => simp [kid]
theorem all_three {l : List Nd} {f : Nd → Bool} (h : l.length = 3) : l.all f = (f (kid l 0) && (f (kid l 1) && f (kid l 2))) := by
  match l, h with
  | [a, b, c], _ => simp [kid]
theorem all_four {l : List Nd} {f : Nd → Bool} (h : l.length = 4) : l.all f = (f (kid l 0) && (f (kid l 1) && (f (kid l 2) && f (kid l 3)))) := by
  match l, h with
  | [a, b, c, d], _ => simp [kid]
theorem kid_drop (l : List Nd) (i j : Nat) : kid (l.drop i) j = kid l (i + j) := by
  unfold kid
  rw [List.getD_eq_getElem?_getD, List.getD_eq_getElem?_getD, List.getElem?_drop]
/-- what can be assigned to: down the first kids of indices -/
def Nd.aim (v : Nd) : Bool := if v.kind = 7 then (if h : 0 < v.kids.length then Nd.aim (kid v.kids 0) else false) else decide (v.kind = 4) || decide (v.kind = 8)
termination_by v.size
decreasing_by exact Nd.size_lt (kid_mem h)
def Nd.aim2 (v : Nd) : Bool := if v.kind = 7 then (if h : v.kids.length = 2 then Nd.aim2 (kid v.kids 0) else false) else decide (v.kind = 4) || decide (v.kind = 8)
termination_by v.size
decreasing_by exact Nd.size_lt (kid_mem (by omega))
theorem Nd.aim_down {v : Nd} (h : v.kind = 7) (h0 : 0 < v.kids.length) : v.aim = (kid v.kids 0).aim := by rw [Nd.aim, if_pos h, dif_pos h0]
theorem Nd.aim2_down {v : Nd} (h : v.kind = 7) (h0 : v.kids.length = 2) : v.aim2 = (kid v.kids 0).aim2 := by rw [Nd.aim2, if_pos h, dif_pos h0]
theorem Nd.aim_stop {v : Nd} (h : ¬ (v.kind = 7 ∧ 0 < v.kids.length)) : v.aim = (decide (v.kind = 4) || decide (v.kind = 8)) := by
  rw [Nd.aim]
  by_cases h7 : v.kind = 7
  · rw [if_pos h7, dif_neg (fun k => h ⟨h7, k⟩), h7]; rfl
  · rw [if_neg h7]
theorem Nd.aim2_stop {v : Nd} (h : ¬ (v.kind = 7 ∧ v.kids.length = 2)) : v.aim2 = (decide (v.kind = 4) || decide (v.kind = 8)) := by
  rw [Nd.aim2]
  by_cases h7 : v.kind = 7
  · rw [if_pos h7, dif_neg (fun k => h ⟨h7, k⟩), h7]; rfl
  · rw [if_neg h7]
section
variable (nm stc inl : ByteArray → Bool)
def nVar (v : Nd) : Bool := decide (v.kind = 4) && (decide (v.num = 0) && (nm v.text && decide (v.kids.length = 0)))
variable (E S : Nd → Bool)
def nBlk (k : Nd) : Bool := decide (k.kind = 48) && S k
def sTic : ByteArray := ⟨#[115, 116, 97, 116, 105, 99]⟩
/-- the kids of a function but for the last one: params, then uses -/
def nPars (clo : Bool) : Bool → List Nd → Bool
  | _, [] => true
  | uses, k :: r => ((decide (k.kind = 25) && clo) || (decide (k.kind = 24) && !uses)) && (decide (0 ≤ k.num ∧ k.num ≤ 1) && (nm k.text && (decide (k.kids.length = 0) && nPars clo (uses || (decide (k.kind = 25) && clo)) r)))
def nFun (clo : Bool) (l : List Nd) : Bool := decide (0 < l.length) && (nBlk S (kid l (l.length - 1)) && nPars nm clo false (l.take (l.length - 1)))
def nItem (k : Nd) : Bool := decide (k.kind = 6) && (decide (k.num = 0) && (decide (k.text = ⟨#[]⟩) && (decide (1 ≤ k.kids.length ∧ k.kids.length ≤ 2) && k.kids.all E)))
/-- which nodes are expressions, the kids given -/
def exF (v : Nd) : Bool :=
  if v.kind = 1 then decide (0 ≤ v.num ∧ v.num ≤ 1000000000) && (decide (v.text = ⟨#[]⟩) && decide (v.kids.length = 0))
  else if v.kind = 2 then decide (v.num = 0) && (decide (v.text.size ≤ 400) && decide (v.kids.length = 0))
  else if v.kind = 3 then decide (0 ≤ v.num ∧ v.num ≤ 2) && (decide (v.text = ⟨#[]⟩) && decide (v.kids.length = 0))
  else if v.kind = 4 then nVar nm v
  else if v.kind = 5 then decide (v.num = 0) && (decide (v.text = ⟨#[]⟩) && v.kids.all (nItem E))
  else if v.kind = 7 ∨ v.kind = 11 ∨ v.kind = 12 ∨ v.kind = 13 then decide (v.num = 0) && (decide (v.text = ⟨#[]⟩) && (decide (v.kids.length = 2) && v.kids.all E))
  else if v.kind = 8 then decide (v.num = 0) && (nm v.text && (decide (v.kids.length = 1) && v.kids.all E))
  else if v.kind = 9 then decide (1 ≤ v.num ∧ v.num ≤ 2) && (decide (v.text = ⟨#[]⟩) && (decide (v.kids.length = 1) && v.kids.all E))
  else if v.kind = 10 then decide (1 ≤ v.num ∧ v.num ≤ 15) && (decide (v.text = ⟨#[]⟩) && (decide (v.kids.length = 2) && v.kids.all E))
  else if v.kind = 14 then decide (v.num = 0) && (decide (v.text = ⟨#[]⟩) && (decide (v.kids.length = 3) && v.kids.all E))
  else if v.kind = 15 ∨ v.kind = 16 then decide (v.num = 0) && (decide (v.text = ⟨#[]⟩) && (decide (v.kids.length = 2) && (v.kids.all E && (kid v.kids 0).aim)))
  else if v.kind = 17 then decide (v.num = 0) && (nm v.text && (decide (v.kids.length = 1) && nVar nm (kid v.kids 0)))
  else if v.kind = 18 then decide (v.num = 0) && (nm v.text && v.kids.all E)
  else if v.kind = 19 then decide (v.num = 0) && (decide (v.text = ⟨#[]⟩) && (decide (1 ≤ v.kids.length) && v.kids.all E))
  else if v.kind = 20 then decide (v.num = 0) && (nm v.text && (decide (1 ≤ v.kids.length) && v.kids.all E))
  else if v.kind = 21 then decide (v.num = 0) && (stc v.text && v.kids.all E)
  else if v.kind = 22 then decide (v.num = 0) && ((decide (v.text = sTic) || nm v.text) && v.kids.all E)
  else if v.kind = 23 then decide (v.num = 0) && (decide (v.text = ⟨#[]⟩) && nFun nm S true v.kids)
  else false
def nCatch (c : Nd) : Bool := decide (c.kind = 44) && (decide (c.num = 0) && (nm c.text && (decide (c.kids.length = 2) && (nVar nm (kid c.kids 0) && nBlk S (kid c.kids 1)))))
def nFin (f : Nd) : Bool := decide (f.kind = 45) && (decide (f.num = 0) && (decide (f.text = ⟨#[]⟩) && (decide (f.kids.length = 1) && nBlk S (kid f.kids 0))))
def nTry (l : List Nd) : Bool := decide (2 ≤ l.length) && (nBlk S (kid l 0) && ((decide (l.length = 2) && (nCatch nm S (kid l 1) || nFin S (kid l 1))) || (decide (l.length = 3) && (nCatch nm S (kid l 1) && nFin S (kid l 2)))))
/-- which nodes are statements, the kids given -/
def stF (v : Nd) : Bool := decide (v.num = 0) &&
  (if v.kind = 31 then !decide (v.text = ⟨#[]⟩) && (inl v.text && decide (v.kids.length = 0))
  else if v.kind = 32 ∨ v.kind = 33 ∨ v.kind = 42 then decide (v.text = ⟨#[]⟩) && (decide (v.kids.length = 1) && E (kid v.kids 0))
  else if v.kind = 34 then decide (v.text = ⟨#[]⟩) && (decide (2 ≤ v.kids.length ∧ v.kids.length ≤ 3) && (E (kid v.kids 0) && (nBlk S (kid v.kids 1) && nBlk S (kid v.kids (v.kids.length - 1)))))
  else if v.kind = 35 then decide (v.text = ⟨#[]⟩) && (decide (v.kids.length = 2) && (E (kid v.kids 0) && nBlk S (kid v.kids 1)))
  else if v.kind = 36 then decide (v.text = ⟨#[]⟩) && (decide (3 ≤ v.kids.length ∧ v.kids.length ≤ 4) && (E (kid v.kids 0) && (nVar nm (kid v.kids 1) && (nVar nm (kid v.kids (v.kids.length - 2)) && nBlk S (kid v.kids (v.kids.length - 1))))))
  else if v.kind = 37 ∨ v.kind = 38 then decide (v.text = ⟨#[]⟩) && decide (v.kids.length = 0)
  else if v.kind = 39 then decide (v.text = ⟨#[]⟩) && (decide (v.kids.length ≤ 1) && v.kids.all E)
  else if v.kind = 40 then nm v.text && decide (v.kids.length = 0)
  else if v.kind = 41 then decide (v.text = ⟨#[]⟩) && (decide (v.kids.length = 1) && ((kid v.kids 0).aim && E (kid v.kids 0)))
  else if v.kind = 46 then decide (v.text = ⟨#[]⟩) && ((decide (v.kids.length = 1) || (decide (v.kids.length = 2) && nVar nm (kid v.kids 0))) && E (kid v.kids (v.kids.length - 1)))
  else if v.kind = 47 then decide (v.text.size ≤ 400) && decide (v.kids.length = 0)
  else if v.kind = 48 then decide (v.text = ⟨#[]⟩) && v.kids.all S
  else if v.kind = 43 then decide (v.text = ⟨#[]⟩) && nTry nm S v.kids
  else false)
/-- the members of a class or a trait -/
def nPart (n : Nd) : Int → List Nd → Bool
  | _, [] => true
  | part, k :: r => nm k.text &&
    (if k.kind = 52 then !decide (n.kind = 51) && (!decide (0 < part) && (decide (k.num = 0) && (decide (k.kids.length = 0) && nPart n 1 r)))
    else if k.kind = 53 then !decide (1 < part) && (decide (k.num = 0) && (decide (k.kids.length = 0) && nPart n 1 r))
    else if k.kind = 54 then (decide (k.num = 0) || decide (k.num = 1)) && (decide (k.kids.length = 1) && (decide (1 ≤ (kid k.kids 0).kind ∧ (kid k.kids 0).kind ≤ 3) && (E (kid k.kids 0) && nPart n 2 r)))
    else if k.kind = 55 then decide (0 ≤ k.num ∧ k.num ≤ 3) && (nFun nm S false k.kids && nPart n 2 r)
    else false)
def topF (n : Nd) : Bool := decide (n.num = 0) && (nm n.text && (if n.kind = 49 then nFun nm S false n.kids else if n.kind = 50 ∨ n.kind = 51 then nPart nm E S n 0 n.kids else false))
def scriptF (n : Nd) : Bool := decide (n.kind = 56) && (decide (n.num = 0) && (decide (n.text = ⟨#[]⟩) && n.kids.all fun k => topF nm E S k || S k))
/-- expression; statement -/
def chk (v : Nd) : Bool × Bool :=
  (exF nm stc (fun k => if k.size < v.size then (chk k).1 else false) (fun k => if k.size < v.size then (chk k).2 else false) v,
   stF nm inl (fun k => if k.size < v.size then (chk k).1 else false) (fun k => if k.size < v.size then (chk k).2 else false) v)
termination_by v.size
def xpB (v : Nd) : Bool := (chk nm stc inl v).1
def smB (v : Nd) : Bool := (chk nm stc inl v).2
def xpG (v k : Nd) : Bool := if k.size < v.size then xpB nm stc inl k else false
def smG (v k : Nd) : Bool := if k.size < v.size then smB nm stc inl k else false
theorem xpB_eq (v : Nd) : xpB nm stc inl v = exF nm stc (xpG nm stc inl v) (smG nm stc inl v) v := by
  unfold xpB
  rw [chk]
  rfl
theorem smB_eq (v : Nd) : smB nm stc inl v = stF nm inl (xpG nm stc inl v) (smG nm stc inl v) v := by
  unfold smB
  rw [chk]
  rfl
theorem xpG_eq {v k : Nd} (h : k.size < v.size) : xpG nm stc inl v k = xpB nm stc inl k := if_pos h
theorem smG_eq {v k : Nd} (h : k.size < v.size) : smG nm stc inl v k = smB nm stc inl k := if_pos h
end
/-- Of expressions both readings of what can be assigned to are the same. -/
theorem ex_aim (nm stc inl : ByteArray → Bool) : ∀ v : Nd, xpB nm stc inl v = true → v.aim = v.aim2 := Nd.ind fun v ih h => by
  by_cases h7 : v.kind = 7
  · rw [xpB_eq] at h
    unfold exF at h
    rw [if_neg (by omega), if_neg (by omega), if_neg (by omega), if_neg (by omega), if_neg (by omega), if_pos (.inl h7)] at h
    simp only [Bool.and_eq_true, decide_eq_true_eq, List.all_eq_true] at h
    have hm : kid v.kids 0 ∈ v.kids := kid_mem (by omega)
    have hk := h.2.2.2 _ hm
    rw [xpG_eq nm stc inl (Nd.size_lt hm)] at hk
    rw [Nd.aim_down h7 (by omega), Nd.aim2_down h7 h.2.2.1]
    exact ih _ hm hk
  · rw [Nd.aim_stop (fun k => h7 k.1), Nd.aim2_stop (fun k => h7 k.1)]
end Go.Sx
