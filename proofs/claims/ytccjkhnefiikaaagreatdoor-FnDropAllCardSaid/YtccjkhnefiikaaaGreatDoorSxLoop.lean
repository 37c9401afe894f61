/-
  A part of the abstract machine over the model's Code, or of the proof that what it shows holds of the model; no program is in sight, and nothing is assumed.
-/
import Derived.Test.YtccjkhnefiikaaaGreatDoorSxHeap
/-! Loops. -/
namespace Go.Sx
open Go
section
variable {P : Program} {fr : Fr} {bx : Bx} {h : Hp} {Q : Post}
/-- The frame holds what the list says. -/
def wkF (fr : Fr) : List (Nat × AV) → Prop
  | [] => True
  | (k, v) :: r => lk fr k = some v ∧ wkF fr r
def wkB (bx : Bx) : List (Nat × List Value) → Prop
  | [] => True
  | (k, c) :: r => lkb bx k = some c ∧ wkB bx r
/-- Each box that a slot names is one of these. -/
def wkR (X : Bx) : List (Nat × AV) → Bool
  | [] => true
  | (_, .box k _) :: r => (lkb X k).isSome && wkR X r
  | (_, .val _) :: r => wkR X r
theorem wkF_lk : ∀ {L : Fr}, wkF fr L → ∀ i v, lk L i = some v → lk fr i = some v
  | [], _, i, v, hv => by simp [lk] at hv
  | (k, u) :: r, hw, i, v, hv => by
    simp only [lk] at hv
    cases hk : k == i with
    | true => rw [hk] at hv; simp at hv; subst hv; have := beq_iff_eq.1 hk; subst this; exact hw.1
    | false => rw [hk] at hv; exact wkF_lk hw.2 i v hv
theorem wkB_lk : ∀ {L : Bx}, wkB bx L → ∀ i v, lkb L i = some v → lkb bx i = some v
  | [], _, i, v, hv => by simp [lkb] at hv
  | (k, u) :: r, hw, i, v, hv => by
    simp only [lkb] at hv
    cases hk : k == i with
    | true => rw [hk] at hv; simp at hv; subst hv; have := beq_iff_eq.1 hk; subst this; exact hw.1
    | false => rw [hk] at hv; exact wkB_lk hw.2 i v hv
theorem wkR_lk {X : Bx} : ∀ {L : Fr}, wkR X L = true → ∀ i k off, lk L i = some (.box k off) → ∃ c, lkb X k = some c
  | [], _, i, k, off, hv => by simp [lk] at hv
  | (j, u) :: r, hw, i, k, off, hv => by
    simp only [lk] at hv
    have hr : wkR X r = true := by cases u <;> simp_all [wkR]
    cases hk : j == i with
    | true =>
      rw [hk] at hv
      simp at hv
      subst hv
      simp only [wkR, Bool.and_eq_true] at hw
      exact Option.isSome_iff_exists.1 hw.1
    | false => rw [hk] at hv; exact wkR_lk hr i k off hv
theorem wk_of {L : Fr} {X : Bx} (h1 : wkF fr L) (h2 : wkB bx X) (h3 : wkR X L = true) : Wk fr bx L X := ⟨wkF_lk h1, wkB_lk h2, wkR_lk h3⟩

/-- The next round: another state of the loop, nearer to its end. -/
def Again {ι : Type} (L : ι → Fr) (X : ι → Bx) (A : ι → Hp → Prop) (μ : ι → Nat) (x : ι) (fr : Fr) (bx : Bx) (h : Hp) : Prop :=
  ∃ k fr1 bx1, k < μ x ∧ Wk fr bx fr1 bx1 ∧ ∃ y, k = μ y ∧ A y h ∧ fr1 = L y ∧ bx1 = X y
theorem Again.intro {ι : Type} {L : ι → Fr} {X : ι → Bx} {A : ι → Hp → Prop} {μ : ι → Nat} {x : ι} (y : ι) (hm : μ y < μ x) (ha : A y h) (hf : wkF fr (L y)) (hb : wkB bx (X y)) (hr : wkR (X y) (L y) = true) : Again L X A μ x fr bx h :=
  ⟨μ y, L y, X y, hm, wk_of hf hb hr, y, rfl, ha, rfl, rfl⟩

/-- **A loop**: a family of states 'L x' (the slots that live), 'X x' (the boxes), 'A x' (of the heap), with a measure. -/
theorem aloop {step : Post → Fr → Bx → Hp → Prop} {ι : Type} (L : ι → Fr) (X : ι → Bx) (A : ι → Hp → Prop) (μ : ι → Nat) (x : ι) (hA : A x h) (hf : wkF fr (L x)) (hb : wkB bx (X x)) (hr : wkR (X x) (L x) = true)
    (hs : ∀ x h, A x h → step (thn (Again L X A μ x) Q) (L x) (X x) h) : loopW step Q fr bx h := by
  refine ⟨fun n fr bx h => ∃ x, n = μ x ∧ A x h ∧ fr = L x ∧ bx = X x, ⟨μ x, L x, X x, wk_of hf hb hr, x, rfl, hA, rfl, rfl⟩, ?_⟩
  rintro n fr bx h ⟨x, rfl, ha, rfl, rfl⟩
  exact hs x h ha
theorem wkF_nil : wkF fr [] = True := (rfl)
theorem wkF_cons {k : Nat} {v : AV} {r : Fr} : wkF fr ((k, v) :: r) = (lk fr k = some v ∧ wkF fr r) := (rfl)
theorem wkB_nil : wkB bx [] = True := (rfl)
theorem wkB_cons {k : Nat} {v : List Value} {r : Bx} : wkB bx ((k, v) :: r) = (lkb bx k = some v ∧ wkB bx r) := (rfl)
theorem wkF_c {k : Nat} {v : AV} {r : Fr} (hk : lk fr k = some v) (hr : wkF fr r) : wkF fr ((k, v) :: r) := ⟨hk, hr⟩
theorem wkF_e : wkF fr [] := trivial
theorem wkB_c {k : Nat} {v : List Value} {r : Bx} (hk : lkb bx k = some v) (hr : wkB bx r) : wkB bx ((k, v) :: r) := ⟨hk, hr⟩
theorem wkB_e : wkB bx [] := trivial
theorem some_val {a b : Value} : (some (AV.val a) = some (AV.val b)) = (a = b) := by simp
end
attribute [go_sem] if_true wkF_nil wkF_cons wkB_nil wkB_cons some_val true_and and_true
end Go.Sx
