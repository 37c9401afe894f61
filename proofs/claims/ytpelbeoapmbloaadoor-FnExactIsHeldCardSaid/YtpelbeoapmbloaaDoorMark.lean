/-
  What the laws' markText returns.
-/
import Derived.Test.YtpelbeoapmbloaaDoorFacts
import Derived.Test.YtpelbeoapmbloaaDoorSxLaw
import Derived.Test.YtpelbeoapmbloaaDoorSxDataV
namespace Go.Proofs.YtpelbeoapmbloaaDoor
set_option maxRecDepth 8000
open Go Go.Sx
theorem dig_byte (k : Nat) : IntKind.u8.wrap (IntKind.i64.wrap (48 + ((k : Nat) : Int).tmod 10)) = (((UInt8.ofNat (48 + k % 10)).toNat : Nat) : Int) := by
  have h1 : ((k : Nat) : Int).tmod 10 = ((k % 10 : Nat) : Int) := by rw [Int.tmod_eq_emod_of_nonneg (by omega)]; rfl
  rw [h1, IntWalk.i64_in _ (by omega)]
  have h2 : (UInt8.ofNat (48 + k % 10)).toNat = 48 + k % 10 := by
    rw [UInt8.toNat_ofNat']; omega
  rw [h2]
  have : k % 10 < 10 := Nat.mod_lt _ (by omega)
  generalize k % 10 = r at *
  have h3 : ∀ r : Nat, r < 10 → IntKind.u8.wrap (48 + (r : Int)) = ((48 + r : Nat) : Int) := by decide
  exact h3 r this
theorem quo10 (k : Nat) (hk : k ≤ 4611686018427387904) : IntKind.i64.wrap (((k : Nat) : Int).tdiv 10) = ((k / 10 : Nat) : Int) := by
  have h1 : ((k : Nat) : Int).tdiv 10 = ((k / 10 : Nat) : Int) := by rw [Int.tdiv_eq_ediv_of_nonneg (by omega)]; rfl
  rw [h1, IntWalk.i64_in _ (by omega)]
theorem markText_c (k : Nat) (hk : k ≤ 4611686018427387904) (h : Hp) : ACalls Tryd.prog 109 #[.int .i64 (k : Nat)] h (Is (.string (mtext k)) h) := by
  (refine enter Tryd.func109 rfl rfl (by kernel_rfl) [] ?_; simp only [go_sem, Nat.reduceBEq])
  refine Br.intro (fun hb => ?_) (fun hb => ?_) <;> (try simp only [hb, go_sem, Nat.reduceBEq])
  · have hb : k = 0 := by have := of_decide_eq_true hb; omega
    subst hb
    exact ⟨by rw [mtext, if_pos rfl], Ext.refl _⟩
  · have hb : 0 < k := by have := of_decide_eq_false hb; omega
    refine aloop (ι := Nat × List UInt8) (fun x => [(0, .val (.int .i64 (x.1 : Nat))), (3, .val (.string ⟨x.2.toArray⟩))]) (fun _ => []) (fun x h' => mdig x.1 x.2 = mdig k [] ∧ x.2.length + x.1 ≤ k ∧ Ext h h') (fun x => x.1) (k, [])
      ⟨rfl, by simp, Ext.refl _⟩ (by repeat (first | exact wkF_e | refine wkF_c rfl ?_)) wkB_e rfl ?_
    rintro ⟨q, l⟩ h1 ⟨hq, hl, he⟩
    have hl : l.length + q ≤ k := hl
    have hq : mdig q l = mdig k [] := hq
    simp only [go_sem, Nat.reduceBEq]
    refine Br.intro (fun hc => ?_) (fun hc => ?_) <;> (try simp only [hc, go_sem, Nat.reduceBEq, Int.reduceEq, not_false_eq_true])
    · have hc : 0 < q := by have := of_decide_eq_true hc; omega
      simp only [dig_byte, go_sem]
      refine bytes_lit1 slT131 (UInt8.ofNat (48 + q % 10)) fun u2 h2 m2 => ?_
      simp only [go_sem, Nat.reduceBEq]
      refine cvK_bytes bytT131 isStr9 m2.rd ?_
      simp only [quo10 q (by omega), go_sem, Nat.reduceBEq, Int.reduceEq, not_false_eq_true]
      refine ⟨by rw [i64max]; simp; omega, ?_⟩
      exact Again.intro (q / 10, UInt8.ofNat (48 + q % 10) :: l) (by simp only; omega) ⟨by rw [← hq, mdig_step hc], by simp only [List.length_cons]; omega, he.trans m2.ext⟩ (by repeat (first | exact wkF_e | refine wkF_c rfl ?_)) wkB_e rfl
    · have hc : q = 0 := by have := of_decide_eq_false hc; omega
      subst hc
      rw [mdig_zero] at hq
      refine ⟨by rw [i64max]; simp; omega, ?_⟩
      refine ⟨?_, he⟩
      rw [mtext, if_neg (by omega), ← hq]
      rfl
end Go.Proofs.YtpelbeoapmbloaaDoor
