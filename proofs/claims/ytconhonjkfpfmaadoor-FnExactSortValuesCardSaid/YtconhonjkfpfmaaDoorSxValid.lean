/-
  A part of the abstract machine over the model's Code, or of the proof that what it shows holds of the model; no program is in sight, and nothing is assumed.
-/
import Derived.Test.YtconhonjkfpfmaaDoorSxCanon
import Derived.Test.YtconhonjkfpfmaaDoorSxMathV
/-! The weight of a value; what a value must be like. -/
namespace Go.Sx
open Go
mutual
def V.weight : V → Nat
  | ⟨k, _, _, _, es⟩ => if k = 4 then 1 + V.weights es else 1
def V.weights : List (Ky × V) → Nat
  | [] => 0
  | (_, v) :: r => V.weight v + V.weights r
end
theorem V.weight_eq (v : V) : v.weight = if v.kind = 4 then 1 + V.weights v.items else 1 := by cases v; simp only [V.weight]; rfl
theorem V.weights_cons (e : Ky × V) (r : List (Ky × V)) : V.weights (e :: r) = e.2.weight + V.weights r := by obtain ⟨k, v⟩ := e; simp only [V.weights]
theorem V.weights_nil : V.weights [] = 0 := by simp only [V.weights]
theorem V.weights_append : ∀ p q : List (Ky × V), V.weights (p ++ q) = V.weights p + V.weights q
  | [], q => by simp [V.weights_nil]
  | e :: p, q => by rw [List.cons_append, V.weights_cons, V.weights_cons, V.weights_append p q]; omega
theorem V.weights_snoc {es : List (Ky × V)} {i : Nat} {e : Ky × V} (hi : es[i]? = some e) : V.weights (es.take (i + 1)) = V.weights (es.take i) + e.2.weight := by
  rw [take_snoc hi, V.weights_append, V.weights_cons, V.weights_nil]; omega
theorem V.weights_take (es : List (Ky × V)) (i : Nat) : V.weights (es.take i) ≤ V.weights es := by
  conv => rhs; rw [← List.take_append_drop i es, V.weights_append]
  omega
mutual
theorem V.weight_bulk : ∀ v : V, v.weight ≤ 1 + v.bulk
  | ⟨k, _, s, _, es⟩ => by
    have := V.weights_bulk es
    simp only [V.weight, V.bulk]
    split <;> omega
theorem V.weights_bulk : ∀ es : List (Ky × V), V.weights es ≤ V.bulks es
  | [] => by simp [V.weights]
  | (k, v) :: r => by
    have := V.weight_bulk v
    have := V.weights_bulk r
    simp only [V.weights, V.bulks]
    omega
end
/-- whether the parts of a value are right, the array's entries given -/
def wf0 (v : V) (arr : Bool) : Bool :=
  (!(decide (¬ v.kind = 3) && decide (¬ v.str = ⟨#[]⟩)) && !(decide (¬ v.kind = 4) && (decide (¬ v.next = 0) || decide (0 < v.items.length)))) &&
  (if v.kind = 0 then decide (v.num = 0) else if v.kind = 1 then decide (0 ≤ v.num ∧ v.num ≤ 1) else if v.kind = 2 then decide (-1000000000 ≤ v.num ∧ v.num ≤ 1000000000)
    else if v.kind = 3 then decide (v.num = 0) && decide (v.str.size ≤ 400) else if v.kind = 6 ∨ v.kind = 7 ∨ v.kind = 8 then decide (0 ≤ v.num ∧ v.num ≤ 255)
    else if v.kind = 4 then decide (v.num = 0) && (decide (0 ≤ v.next ∧ v.next ≤ 1000000001) && arr) else false)
mutual
def V.wf : V → Bool
  | ⟨k, n, s, x, es⟩ => wf0 ⟨k, n, s, x, es⟩ (wfEs x es [])
def wfEs : Int → List (Ky × V) → List Ky → Bool
  | _, [], _ => true
  | x, (k, v) :: r, seen => keyOk k && (!decide (k ∈ seen) && (!(!k.text && decide (x ≤ k.num)) && (V.wf v && wfEs x r (seen ++ [k]))))
end
theorem V.wf_eq (v : V) : v.wf = wf0 v (wfEs v.next v.items []) := by cases v; rw [V.wf]; rfl
theorem wfEs_nil (x : Int) (seen : List Ky) : wfEs x [] seen = true := by rw [wfEs]
theorem wfEs_cons (x : Int) (e : Ky × V) (r : List (Ky × V)) (seen : List Ky) : wfEs x (e :: r) seen = (keyOk e.1 && (!decide (e.1 ∈ seen) && (!(!e.1.text && decide (x ≤ e.1.num)) && (e.2.wf && wfEs x r (seen ++ [e.1]))))) := by
  obtain ⟨k, v⟩ := e
  rw [wfEs]
def V.valid (v : V) : Bool := decide (v.weight ≤ 200) && v.wf
/-- where a key stands first -/
theorem fk_first : ∀ (es : List (Ky × V)) (k : Ky) (n : Nat), (k ∈ es.map (·.1) → ∃ j, j < es.length ∧ fk es k n = some (n + j) ∧ k ∉ (es.take j).map (·.1)) ∧ (k ∉ es.map (·.1) → fk es k n = none)
  | [], k, n => ⟨by simp, by simp [fk]⟩
  | e :: r, k, n => by
    obtain ⟨h1, h2⟩ := fk_first r k (n + 1)
    by_cases he : e.1 = k
    · refine ⟨fun _ => ⟨0, by simp, by simp [fk, he], by simp⟩, fun hn => absurd (by simp [he]) hn⟩
    · constructor
      · intro hm
        simp only [List.map_cons, List.mem_cons] at hm
        obtain ⟨j, q1, q2, q3⟩ := h1 (hm.resolve_left fun k => he k.symm)
        refine ⟨j + 1, by simp; omega, by rw [fk, if_neg he, q2]; congr 1; omega, ?_⟩
        simp only [List.take_succ_cons, List.map_cons, List.mem_cons, not_or]
        exact ⟨fun k => he k.symm, q3⟩
      · intro hn
        rw [fk, if_neg he]
        exact h2 fun hm => hn (by simp only [List.map_cons, List.mem_cons]; exact .inr hm)
/-- An entry's key stands first there, and only if no entry before has it. -/
theorem fk_at {es : List (Ky × V)} {i : Nat} {e : Ky × V} (he : es[i]? = some e) : ∃ j, fk es e.1 0 = some j ∧ (j = i ↔ e.1 ∉ (es.take i).map (·.1)) := by
  obtain ⟨h1, _⟩ := fk_first es e.1 0
  obtain ⟨j, q1, q2, q3⟩ := h1 (List.mem_map.2 ⟨e, List.mem_of_getElem? he, rfl⟩)
  rw [Nat.zero_add] at q2
  refine ⟨j, q2, fun h => by subst h; exact q3, fun hn => ?_⟩
  obtain ⟨_, x, hx⟩ := fk_spec _ _ _ _ q2
  rw [Nat.sub_zero] at hx
  rcases Nat.lt_trichotomy i j with h | h | h
  · exact absurd (List.mem_map.2 ⟨e, List.mem_of_getElem? (i := i) (by rw [List.getElem?_take, if_pos h]; exact he), rfl⟩) q3
  · exact h.symm
  · exact absurd (List.mem_map.2 ⟨(e.1, x), List.mem_of_getElem? (i := j) (by rw [List.getElem?_take, if_pos h]; exact hx), rfl⟩) hn
end Go.Sx
