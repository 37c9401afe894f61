/-
  What spec.OpOf and impl.OpOf return: the operator whose symbol the text is, and 0 if it is none; nothing is assumed.
-/
import Derived.Test.YtnlkjbpbkbhpnaaOps
namespace Go.Proofs.Ytnlkjbpbkbhpnaa
open Go Go.Sx
/-- The first of the numbers from k on, n of them, whose symbol is s. -/
def opFrom (s : ByteArray) : Nat → Nat → Nat
  | _, 0 => 0
  | k, n + 1 => if opSym k = s then k else opFrom s (k + 1) n
def opOf (s : ByteArray) : Int := (opFrom s 1 15 : Nat)
theorem opFrom_hit {s : ByteArray} (i : Nat) (hs : opSym i = s) : ∀ (n k : Nat), k ≤ i → i < k + n → (∀ j : Nat, k ≤ j → j < i → opSym j ≠ s) → opFrom s k n = i
  | 0, k, _, _, _ => by omega
  | n + 1, k, h1, h2, hno => by
    unfold opFrom
    by_cases hk : k = i
    · subst hk; rw [if_pos hs]
    · rw [if_neg (hno k (Nat.le_refl _) (by omega))]
      exact opFrom_hit i hs n (k + 1) (by omega) (by omega) fun j h3 h4 => hno j (by omega) h4
theorem opFrom_miss {s : ByteArray} : ∀ (n k : Nat), (∀ j : Nat, k ≤ j → j < k + n → opSym j ≠ s) → opFrom s k n = 0
  | 0, _, _ => rfl
  | n + 1, k, hno => by
    unfold opFrom
    rw [if_neg (hno k (Nat.le_refl _) (by omega))]
    exact opFrom_miss n (k + 1) fun j h3 h4 => hno j (by omega) (by omega)
theorem opOf_hit {s : ByteArray} (i : Nat) (h1 : 1 ≤ i) (h2 : i < 16) (hs : opSym i = s) (hno : ∀ j : Nat, 1 ≤ j → j < i → opSym j ≠ s) : opOf s = i := by
  unfold opOf; rw [opFrom_hit i hs 15 1 h1 (by omega) hno]
theorem opOf_miss {s : ByteArray} (hno : ∀ j : Nat, 1 ≤ j → j < 16 → opSym j ≠ s) : opOf s = 0 := by
  unfold opOf; rw [opFrom_miss 15 1 fun j h1 h2 => hno j h1 (by omega)]; rfl
theorem iOpOf (s : ByteArray) (h : Hp) : ACalls Try.prog 18 #[.string s] h (Is (.int .i64 (opOf s)) h) := by
  refine enter Try.func18 rfl rfl (by kernel_rfl) [] ?_
  simp only [go_sem, Nat.reduceBEq]
  refine aloop (ι := Nat) (fun x => [(3, .val (.int .i64 (x : Nat))), (0, .val (.string s))]) (fun _ => []) (fun x h' => 1 ≤ x ∧ x ≤ 16 ∧ (∀ j : Nat, 1 ≤ j → j < x → opSym j ≠ s) ∧ Ext h h') (fun x => 16 - x) 1
    ⟨by decide, by decide, by intro j hj; omega, Ext.refl _⟩ (by repeat (first | exact wkF_e | refine wkF_c rfl ?_)) wkB_e rfl ?_
  rintro i h2 ⟨hi1, hi, hno, ext⟩
  simp only [go_sem, Nat.reduceBEq]
  refine Br.intro (fun hb => ?_) (fun hb => ?_) <;> simp only [go_sem, Nat.reduceBEq]
  · have hi' : i < 16 := by simp at hb; omega
    have hw : IntKind.i64.wrap ((i : Int) + 1) = ((i + 1 : Nat) : Int) := by rw [IntWalk.i64_in _ (by omega)]; rfl
    refine (iOpSymbol _ _).mono ?_
    rintro _ h3 ⟨rfl, e3⟩
    simp only [hw, go_sem, Nat.reduceBEq]
    refine Br.intro (fun hs => ?_) (fun hs => ?_) <;> (try simp only [hs, hw, go_sem, Nat.reduceBEq])

    · exact ⟨by rw [opOf_hit i hi1 hi' (of_decide_eq_true hs) hno], ext.trans e3⟩
    · have hs := of_decide_eq_false hs
      refine Again.intro (i + 1) (by first | omega | (simp only; omega)) ⟨by omega, by omega, fun j hj1 hj => ?_, ext.trans e3⟩ (by repeat (first | exact wkF_e | refine wkF_c rfl ?_)) wkB_e rfl
      by_cases hji : j = i
      · subst hji; exact hs
      · exact hno j hj1 (by omega)
  · have hi' : i = 16 := by simp at hb; omega
    subst hi'
    exact ⟨by rw [opOf_miss hno], ext⟩
theorem sOpOf (s : ByteArray) (h : Hp) : ACalls Try.prog 17 #[.string s] h (Is (.int .i64 (opOf s)) h) := by
  refine enter Try.func17 rfl rfl (by kernel_rfl) [] ?_
  simp only [go_sem, Nat.reduceBEq]
  refine aloop (ι := Nat) (fun x => [(3, .val (.int .i64 (x : Nat))), (0, .val (.string s))]) (fun _ => []) (fun x h' => 1 ≤ x ∧ x ≤ 16 ∧ (∀ j : Nat, 1 ≤ j → j < x → opSym j ≠ s) ∧ Ext h h') (fun x => 16 - x) 1
    ⟨by decide, by decide, by intro j hj; omega, Ext.refl _⟩ (by repeat (first | exact wkF_e | refine wkF_c rfl ?_)) wkB_e rfl ?_
  rintro i h2 ⟨hi1, hi, hno, ext⟩
  simp only [go_sem, Nat.reduceBEq]
  refine Br.intro (fun hb => ?_) (fun hb => ?_) <;> simp only [go_sem, Nat.reduceBEq]
  · have hi' : i < 16 := by simp at hb; omega
    have hw : IntKind.i64.wrap ((i : Int) + 1) = ((i + 1 : Nat) : Int) := by rw [IntWalk.i64_in _ (by omega)]; rfl
    refine (sOpSymbol _ _).mono ?_
    rintro _ h3 ⟨rfl, e3⟩
    simp only [hw, go_sem, Nat.reduceBEq]
    refine Br.intro (fun hs => ?_) (fun hs => ?_) <;> (try simp only [hs, hw, go_sem, Nat.reduceBEq])

    · exact ⟨by rw [opOf_hit i hi1 hi' (of_decide_eq_true hs) hno], ext.trans e3⟩
    · have hs := of_decide_eq_false hs
      refine Again.intro (i + 1) (by first | omega | (simp only; omega)) ⟨by omega, by omega, fun j hj1 hj => ?_, ext.trans e3⟩ (by repeat (first | exact wkF_e | refine wkF_c rfl ?_)) wkB_e rfl
      by_cases hji : j = i
      · subst hji; exact hs
      · exact hno j hj1 (by omega)
  · have hi' : i = 16 := by simp at hb; omega
    subst hi'
    exact ⟨by rw [opOf_miss hno], ext⟩
end Go.Proofs.Ytnlkjbpbkbhpnaa
