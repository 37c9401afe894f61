/-
  A part of the abstract machine over the model's Code, or of the proof that what it shows holds of the model; no program is in sight, and nothing is assumed.
-/
import Derived.Test.YtedfplodobpgfaaGreatDoorSxUnion
/-! A value written where a path leads, in plain Lean. -/
namespace Go.Sx
open Go
namespace V
def arr : V := ⟨4, 0, ⟨#[]⟩, 0, []⟩
def asArr (v : V) : V := if v.kind = 0 then arr else v
def put : V → List Ky → Bool → V → V × Int
  | v, [], push, x => if push then (if ¬ v.asArr.kind = 4 then (v.asArr, 6) else if ¬ (0 ≤ v.asArr.next ∧ v.asArr.next ≤ 1000000000) then (v.asArr, 7) else (v.asArr.setKey ⟨false, v.asArr.next, ⟨#[]⟩⟩ x, 0)) else (x, 0)
  | v, k :: r, push, x => if ¬ v.asArr.kind = 4 then (v.asArr, 6) else if (put ((v.asArr.get k).getD null) r push x).2 = 0 then (v.asArr.setKey k (put ((v.asArr.get k).getD null) r push x).1, 0) else (v.asArr, (put ((v.asArr.get k).getD null) r push x).2)
theorem asArr_null {v : V} (h : v.kind = 0) : v.asArr = arr := by unfold asArr; rw [if_pos h]
theorem asArr_other {v : V} (h : ¬ v.kind = 0) : v.asArr = v := by unfold asArr; rw [if_neg h]
theorem put_nil_f (v x : V) : v.put [] false x = (x, 0) := by rw [put]; rfl
theorem put_nil_t (v x : V) : v.put [] true x = if ¬ v.asArr.kind = 4 then (v.asArr, 6) else if ¬ (0 ≤ v.asArr.next ∧ v.asArr.next ≤ 1000000000) then (v.asArr, 7) else (v.asArr.setKey ⟨false, v.asArr.next, ⟨#[]⟩⟩ x, 0) := by rw [put]; rfl
theorem put_cons (v : V) (k : Ky) (r : List Ky) (push : Bool) (x : V) : v.put (k :: r) push x = if ¬ v.asArr.kind = 4 then (v.asArr, 6) else if (put ((v.asArr.get k).getD null) r push x).2 = 0 then (v.asArr.setKey k (put ((v.asArr.get k).getD null) r push x).1, 0) else (v.asArr, (put ((v.asArr.get k).getD null) r push x).2) := by rw [put]
end V
theorem wf_null : V.null.wf = true := by decide
theorem wf_arr : V.arr.wf = true := by decide
theorem wfEs_mem {x : Int} : ∀ (es : List (Ky × V)) (seen : List Ky), wfEs x es seen = true → ∀ e ∈ es, e.2.wf = true
  | [], _, _, e, he => by cases he
  | q :: r, seen, h, e, he => by
    rw [wfEs_cons] at h
    simp only [Bool.and_eq_true] at h
    cases he with
    | head => exact h.2.2.2.1
    | tail _ he => exact wfEs_mem r _ h.2.2.2.2 e he
theorem wf_get {v x : V} {k : Ky} (h : v.wf = true) (hg : v.get k = some x) : x.wf = true := by
  have hg0 := hg
  unfold V.get at hg
  cases hf : v.find k with
  | none => simp [hf] at hg
  | some i =>
    obtain ⟨y, hy, hg2, _⟩ := V.find_get hf
    rw [hg0] at hg2
    cases hg2
    have hk : v.kind = 4 := by
      unfold V.find at hf
      split at hf
      · assumption
      · cases hf
    exact wfEs_mem _ _ (V.wf_entries h hk).1 _ (List.mem_of_getElem? hy)
theorem wf_getD {v : V} {k : Ky} (h : v.wf = true) : ((v.get k).getD V.null).wf = true := by
  cases hg : v.get k with
  | none => exact wf_null
  | some x => exact wf_get h hg
theorem wf_asArr {v : V} (h : v.wf = true) : v.asArr.wf = true := by
  unfold V.asArr
  split
  · exact wf_arr
  · exact h
theorem wf_next {v : V} (h : v.wf = true) (hk : v.kind = 4) : 0 ≤ v.next := (V.wf_entries h hk).2.1
theorem getD_bulk (v : V) (k : Ky) : V.bulks ((v.get k).getD V.null).items ≤ V.bulks v.items := by
  cases hg : v.get k with
  | none => exact Nat.zero_le _
  | some x => exact V.get_bulk hg
theorem asArr_bulk (v : V) : V.bulks v.asArr.items ≤ V.bulks v.items ∧ v.asArr.bulk ≤ v.bulk := by
  unfold V.asArr
  split
  · exact ⟨Nat.zero_le _, Nat.zero_le _⟩
  · exact ⟨Nat.le_refl _, Nat.le_refl _⟩
def kbulk (p : List Ky) : Nat := (p.map fun k => 1 + k.str.size).sum
theorem kbulk_eq : ∀ p : List Ky, kbulk p = szG (fun e : Ky => e.str.size) p
  | [] => rfl
  | k :: r => by
    have := kbulk_eq r
    simp only [kbulk, szG, gsum, List.length_cons, List.map_cons, List.sum_cons] at this ⊢
    omega
theorem setKey_bulk2 (o : V) (k : Ky) (x : V) : V.bulks (o.setKey k x).items + ((o.get k).getD V.null).bulk ≤ V.bulks o.items + (1 + (k.str.size + x.bulk)) := by
  unfold V.setKey
  cases hf : o.find k with
  | none =>
    rw [V.find_none hf]
    show V.bulks (o.items ++ [(k, x)]) + V.null.bulk ≤ _
    have h0 : V.null.bulk = 0 := rfl
    rw [bulks_append, h0]
    simp only [V.bulks]
    omega
  | some i =>
    obtain ⟨y, hy, hg, hlt⟩ := V.find_get hf
    rw [hg]
    simp only [V.setAt, hy, Option.getD_some]
    have hs : V.bulks o.items = V.bulks (o.items.take i) + (1 + (k.str.size + y.bulk) + V.bulks (o.items.drop (i + 1))) := by
      conv => lhs; rw [← List.take_append_drop i o.items, drop_cons hy, bulks_append]
      simp only [V.bulks]
    show V.bulks (o.items.take i ++ (k, x) :: o.items.drop (i + 1)) + _ ≤ _
    rw [bulks_append]
    simp only [V.bulks]
    omega
theorem put_bulk : ∀ (p : List Ky) (v : V) (push : Bool) (x : V), (v.put p push x).1.bulk ≤ v.bulk + kbulk p + (1 + x.bulk)
  | [], v, push, x => by
    have ha := (asArr_bulk v).2
    cases push with
    | false => rw [V.put_nil_f]; simp only; omega
    | true =>
      rw [V.put_nil_t]
      have hs := setKey_bulk v.asArr ⟨false, v.asArr.next, ⟨#[]⟩⟩ x
      have e0 : (⟨#[]⟩ : ByteArray).size = 0 := rfl
      simp only [e0] at hs
      split
      · simp only; omega
      · split
        · simp only; omega
        · have h1 := V.bulk_eq (v.asArr.setKey ⟨false, v.asArr.next, ⟨#[]⟩⟩ x)
          have h2 := V.bulk_eq v.asArr
          rw [hs.2.1] at h1
          simp only
          omega
  | k :: r, v, push, x => by
    rw [V.put_cons]
    have ha := (asArr_bulk v).2
    have hk : kbulk (k :: r) = 1 + k.str.size + kbulk r := by simp [kbulk]
    split
    · simp only; omega
    · have ih := put_bulk r ((v.asArr.get k).getD V.null) push x
      split
      · have h1 := setKey_bulk2 v.asArr k (V.put ((v.asArr.get k).getD V.null) r push x).1
        have h2 := V.bulk_eq (v.asArr.setKey k (V.put ((v.asArr.get k).getD V.null) r push x).1)
        have h3 := V.bulk_eq v.asArr
        rw [(setKey_bulk v.asArr k (V.put ((v.asArr.get k).getD V.null) r push x).1).2.1] at h2
        simp only
        omega
      · simp only; omega
end Go.Sx
