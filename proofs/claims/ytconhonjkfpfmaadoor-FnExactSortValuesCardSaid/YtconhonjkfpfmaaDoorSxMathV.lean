/-
  A part of the abstract machine over the model's Code, or of the proof that what it shows holds of the model; no program is in sight, and nothing is assumed.
-/
import Derived.Test.YtconhonjkfpfmaaDoorSxDataT
/-! What the functions on values compute, in plain Lean. -/
namespace Go.Sx
open Go
/-- where the key stands -/
def fk : List (Ky × V) → Ky → Nat → Option Nat
  | [], _, _ => none
  | e :: r, k, i => if e.1 = k then some i else fk r k (i + 1)
def V.find (v : V) (k : Ky) : Option Nat := if v.kind = 4 then fk v.items k 0 else none
def ixI : Option Nat → Int
  | some i => (i : Nat)
  | none => -1
def V.null : V := ⟨0, 0, ⟨#[]⟩, 0, []⟩
theorem fk_spec : ∀ (es : List (Ky × V)) (k : Ky) (i j : Nat), fk es k i = some j → i ≤ j ∧ ∃ v, es[j - i]? = some (k, v)
  | [], _, _, _, h => by simp [fk] at h
  | e :: r, k, i, j, h => by
    simp only [fk] at h
    split at h
    · rename_i he
      simp at h
      subst h
      exact ⟨Nat.le_refl _, e.2, by simp [← he]⟩
    · obtain ⟨h1, v, h2⟩ := fk_spec r k (i + 1) j h
      refine ⟨by omega, v, ?_⟩
      rw [show j - i = (j - (i + 1)) + 1 by omega]
      simpa using h2
def V.get (v : V) (k : Ky) : Option V := (v.find k).bind fun i => (v.items[i]?).map (·.2)
theorem V.find_get {v : V} {k : Ky} {i : Nat} (h : v.find k = some i) : ∃ x, v.items[i]? = some (k, x) ∧ v.get k = some x ∧ i < v.items.length := by
  have h0 := h
  unfold V.find at h
  split at h
  · obtain ⟨_, x, hx⟩ := fk_spec _ _ _ _ h
    have hx : v.items[i]? = some (k, x) := hx
    exact ⟨x, hx, by unfold V.get; rw [h0]; simp [hx], (List.getElem?_eq_some_iff.1 hx).1⟩
  · simp at h
theorem V.find_none {v : V} {k : Ky} (h : v.find k = none) : v.get k = none := by unfold V.get; rw [h]; rfl
theorem key_dec (a b : Ky) : decide (a.text = b.text ∧ a.num = b.num ∧ a.str = b.str) = decide (a = b) := by
  apply decide_eq_decide.2
  cases a; cases b
  simp
theorem ixI_neg (o : Option Nat) : decide (ixI o < 0) = o.isNone := by
  cases o with
  | none => rfl
  | some i =>
    apply decide_eq_false
    show ¬ ((i : Nat) : Int) < 0
    omega
theorem ixI_some (i : Nat) : ixI (some i) = (i : Int) := rfl
theorem ixI_none : ixI none = -1 := rfl
def V.getPath : V → List Ky → Option V
  | v, [] => some v
  | v, k :: r => (v.get k).bind fun x => V.getPath x r
theorem V.bulk_mem : ∀ {es : List (Ky × V)} {e : Ky × V}, e ∈ es → V.bulks e.2.items + 1 ≤ V.bulks es
  | (k, v) :: r, e, he => by
    simp only [V.bulks, V.bulk_eq]
    cases he with
    | head => simp only; omega
    | tail _ he => have := V.bulk_mem he; omega
theorem V.bulks_len : ∀ es : List (Ky × V), es.length ≤ V.bulks es
  | [] => Nat.le_refl _
  | (k, v) :: r => by
    have := V.bulks_len r
    simp only [V.bulks, List.length_cons]
    omega
theorem V.get_bulk {v x : V} {k : Ky} (h : v.get k = some x) : V.bulks x.items ≤ V.bulks v.items := by
  unfold V.get at h
  cases hf : v.find k with
  | none => simp [hf] at h
  | some i =>
    obtain ⟨y, hy, hg, _⟩ := V.find_get hf
    unfold V.get at hg
    rw [h] at hg
    simp at hg
    subst hg
    have := V.bulk_mem (List.mem_of_getElem? hy)
    simp only at this
    omega
end Go.Sx
