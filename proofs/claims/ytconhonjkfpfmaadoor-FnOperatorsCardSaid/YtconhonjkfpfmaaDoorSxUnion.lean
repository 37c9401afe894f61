/-
  A part of the abstract machine over the model's Code, or of the proof that what it shows holds of the model; no program is in sight, and nothing is assumed.
-/
import Derived.Test.YtconhonjkfpfmaaDoorSxValid
import Derived.Test.YtconhonjkfpfmaaDoorSxMathW
/-! The union of two arrays, in plain Lean. -/
namespace Go.Sx
open Go
namespace V
/-- the entries of a second array that the first lacks are added, one after the other -/
def addTo (a : V) : V → List (Ky × V) → V
  | o, [] => o
  | o, e :: r => addTo a (if (a.find e.1).isNone then o.setKey e.1 e.2 else o) r
/-- .. by what the growing array lacks -/
def addOn : V → List (Ky × V) → V
  | o, [] => o
  | o, e :: r => addOn (if (o.find e.1).isNone then o.setKey e.1 e.2 else o) r
def withNext (v : V) (n : Int) : V := ⟨v.kind, v.num, v.str, n, v.items⟩
def uni (a b : V) : V := (addTo a a b.items).withNext (max a.next b.next)
end V
theorem fk_append_none {p q : List (Ky × V)} {k : Ky} : ∀ {n : Nat}, fk p k n = none → fk (p ++ q) k n = fk q k (n + p.length) := by
  induction p with
  | nil => intro n _; rfl
  | cons e r ih =>
    intro n h
    rw [fk] at h
    split at h
    · cases h
    · rename_i hne
      rw [List.cons_append, fk, if_neg hne, ih h, List.length_cons]
      congr 1
      omega
theorem fk_append_some {p q : List (Ky × V)} {k : Ky} {j : Nat} : ∀ {n : Nat}, fk p k n = some j → fk (p ++ q) k n = some j := by
  induction p with
  | nil => intro n h; cases h
  | cons e r ih =>
    intro n h
    rw [fk] at h
    rw [List.cons_append, fk]
    split
    · rename_i he
      rw [if_pos he] at h
      exact h
    · rename_i hne
      rw [if_neg hne] at h
      exact ih h
theorem V.setKey_new {o : V} {k : Ky} {x : V} (h : o.find k = none) : o.setKey k x = ⟨o.kind, o.num, o.str, if k.text then o.next else max o.next (IntKind.i64.wrap (k.num + 1)), o.items ++ [(k, x)]⟩ := by
  unfold V.setKey
  rw [h]
theorem V.find_add {o : V} {k q : Ky} {x : V} (h : o.find k = none) (hne : ¬ k = q) : ((o.setKey k x).find q).isNone = (o.find q).isNone := by
  rw [V.setKey_new h]
  unfold V.find
  show Option.isNone (if o.kind = 4 then fk (o.items ++ [(k, x)]) q 0 else none) = _
  by_cases hk : o.kind = 4
  · rw [if_pos hk, if_pos hk]
    cases hf : fk o.items q 0 with
    | some j => rw [fk_append_some hf]
    | none =>
      rw [fk_append_none hf]
      simp only [fk, if_neg hne]
  · rw [if_neg hk, if_neg hk]
/-- no key stands twice -/
def dkeys : List (Ky × V) → Prop
  | [] => True
  | e :: r => (∀ q ∈ r, ¬ e.1 = q.1) ∧ dkeys r
theorem addOn_eq (a : V) : ∀ (l : List (Ky × V)) (o : V), dkeys l → (∀ e ∈ l, (o.find e.1).isNone = (a.find e.1).isNone) → V.addOn o l = V.addTo a o l
  | [], o, _, _ => rfl
  | e :: r, o, hd, hf => by
    have he := hf e (by simp)
    rw [V.addOn, V.addTo, he]
    cases hb : (a.find e.1).isNone with
    | true =>
      simp only [if_true]
      refine addOn_eq a r _ hd.2 fun q hq => ?_
      have h0 : o.find e.1 = none := by
        rw [hb] at he
        simpa using he
      rw [V.find_add h0 (hd.1 q hq)]
      exact hf q (by simp [hq])
    | false =>
      simp only [Bool.false_eq_true, if_false]
      exact addOn_eq a r o hd.2 fun q hq => hf q (by simp [hq])
theorem wfEs_dkeys {x : Int} : ∀ (es : List (Ky × V)) (seen : List Ky), wfEs x es seen = true → dkeys es ∧ ∀ e ∈ es, e.1 ∉ seen
  | [], _, _ => ⟨trivial, by simp⟩
  | e :: r, seen, h => by
    rw [wfEs_cons] at h
    simp only [Bool.and_eq_true, Bool.not_eq_true', decide_eq_false_iff_not] at h
    obtain ⟨h1, h2⟩ := wfEs_dkeys r _ h.2.2.2.2
    refine ⟨⟨fun q hq he => h2 q hq (by simp [he]), h1⟩, fun q hq => ?_⟩
    rcases List.mem_cons.1 hq with rfl | hq
    · exact h.2.1
    · exact fun hm => h2 q hq (by simp [hm])
theorem V.wf_entries {v : V} (h : v.wf = true) (hk : v.kind = 4) : wfEs v.next v.items [] = true ∧ 0 ≤ v.next ∧ v.next ≤ 1000000001 := by
  rw [V.wf_eq] at h
  unfold wf0 at h
  rw [if_neg (by omega), if_neg (by omega), if_neg (by omega), if_neg (by omega), if_neg (by omega), if_pos hk] at h
  simp only [Bool.and_eq_true, decide_eq_true_eq] at h
  exact ⟨h.2.2.2, h.2.2.1⟩
theorem bulks_append : ∀ p q : List (Ky × V), V.bulks (p ++ q) = V.bulks p + V.bulks q
  | [], q => by simp [V.bulks]
  | (k, v) :: r, q => by simp only [List.cons_append, V.bulks, bulks_append r q]; omega
theorem setKey_bulk (o : V) (k : Ky) (x : V) : V.bulks (o.setKey k x).items ≤ V.bulks o.items + (1 + (k.str.size + x.bulk)) ∧ (o.setKey k x).str = o.str ∧ (o.setKey k x).items.length ≤ o.items.length + 1 ∧ (o.setKey k x).kind = o.kind := by
  unfold V.setKey
  cases hf : o.find k with
  | none =>
    refine ⟨?_, rfl, ?_, rfl⟩
    · show V.bulks (o.items ++ [(k, x)]) ≤ _
      rw [bulks_append]
      simp only [V.bulks]
      omega
    · show (o.items ++ [(k, x)]).length ≤ _
      simp
  | some i =>
    simp only [V.setAt]
    cases hi : o.items[i]? with
    | none => exact ⟨by simp only; omega, rfl, by simp only; omega, rfl⟩
    | some e =>
      obtain ⟨y, hy, hg, hlt⟩ := V.find_get hf
      have e1 : e = (k, y) := by rw [hi] at hy; exact Option.some.inj hy
      subst e1
      refine ⟨?_, rfl, ?_, rfl⟩
      · have hs : V.bulks o.items = V.bulks (o.items.take i) + (1 + (k.str.size + y.bulk) + V.bulks (o.items.drop (i + 1))) := by
          conv => lhs; rw [← List.take_append_drop i o.items, drop_cons hi, bulks_append]
          simp only [V.bulks]
        show V.bulks (o.items.take i ++ (k, x) :: o.items.drop (i + 1)) ≤ _
        rw [bulks_append]
        simp only [V.bulks]
        omega
      · show (o.items.take i ++ (k, x) :: o.items.drop (i + 1)).length ≤ _
        rw [List.length_append, List.length_cons, List.length_take, List.length_drop]
        omega
theorem addTo_bulk (a : V) : ∀ (l : List (Ky × V)) (o : V), V.bulks (V.addTo a o l).items ≤ V.bulks o.items + V.bulks l ∧ (V.addTo a o l).str = o.str ∧ (V.addTo a o l).kind = o.kind
  | [], o => ⟨by rw [V.addTo]; simp [V.bulks], rfl, rfl⟩
  | e :: r, o => by
    obtain ⟨k, x⟩ := e
    rw [V.addTo]
    have h1 := setKey_bulk o k x
    simp only [V.bulks]
    split
    · have h2 := addTo_bulk a r (o.setKey k x)
      rw [h1.2.1, h1.2.2.2] at h2
      exact ⟨by omega, h2.2⟩
    · have h2 := addTo_bulk a r o
      exact ⟨by omega, h2.2⟩
end Go.Sx
