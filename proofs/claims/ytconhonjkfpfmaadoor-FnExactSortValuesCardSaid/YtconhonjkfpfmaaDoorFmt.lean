/-
  What FormatInt of the program and of the reference return: the decimal numeral.
-/
import Derived.Test.YtconhonjkfpfmaaDoorDoor
import Derived.Test.YtconhonjkfpfmaaDoorNum
import Derived.Test.YtconhonjkfpfmaaDoorSxDataV
namespace Go.Proofs.YtconhonjkfpfmaaDoor
set_option maxRecDepth 8000
open Go Go.Sx
theorem mdig_dec : ∀ (u : Nat) (acc : List UInt8), 0 < u → mdig u acc = Lib.decDigits u ++ acc := by
  intro u
  induction u using Nat.strongRecOn with
  | _ u ih =>
    intro acc h
    rw [mdig_step h, Lib.decDigits]
    by_cases h10 : u < 10
    · rw [dif_pos h10, show u / 10 = 0 by omega, mdig_zero, show u % 10 = u by omega]
      rfl
    · rw [dif_neg h10, ih (u / 10) (by omega) _ (by omega), List.append_assoc]
      rfl
theorem dig8 (d : Int) (r : Nat) (hd : d = (r : Int)) (hr : r < 10) : IntKind.u8.wrap (IntKind.i64.wrap (48 + d)) = (((UInt8.ofNat (48 + r)).toNat : Nat) : Int) := by
  subst hd
  have : ∀ r : Nat, r < 10 → IntKind.u8.wrap (IntKind.i64.wrap (48 + (r : Int))) = (((UInt8.ofNat (48 + r)).toNat : Nat) : Int) := by decide
  exact this r hr
theorem itoa_zero : Lib.itoa 0 = [48] := by
  unfold Lib.itoa
  rw [if_neg (by decide), Lib.decDigits, dif_pos (by decide)]
  rfl
theorem itoa_pos {n : Int} (h : 0 < n) : Lib.itoa n = mdig n.natAbs [] := by
  unfold Lib.itoa
  rw [if_neg (by omega), mdig_dec _ _ (by omega), List.append_nil, show n.toNat = n.natAbs by omega]
theorem itoa_neg {n : Int} (h : n < 0) : Lib.itoa n = 45 :: mdig n.natAbs [] := by
  unfold Lib.itoa
  rw [if_pos h, mdig_dec _ _ (by omega), List.append_nil]
theorem iFormatInt (n : Int) (hn : IntKind.i64.min ≤ n ∧ n ≤ IntKind.i64.max) (h : Hp) (hT : Pow h) : ACalls Tryd.prog 49 #[.int .i64 n] h (Is (.string ⟨(Lib.itoa n).toArray⟩) h) := by
  (refine enter Tryd.func49 rfl rfl (by kernel_rfl) [] ?_; simp only [go_sem, Nat.reduceBEq])
  (refine (itoa_c n hn _ hT).mono ?_; rintro _ _ ⟨rfl, rfl⟩; simp only [go_sem, Nat.reduceBEq])
  exact ⟨rfl, Ext.refl _⟩
theorem sFormatInt (n : Int) (hn : IntKind.i64.min ≤ n ∧ n ≤ IntKind.i64.max) (h : Hp) : ACalls Tryd.prog 15 #[.int .i64 n] h (Is (.string ⟨(Lib.itoa n).toArray⟩) h) := by
  have hi : IntKind.i64.min = -9223372036854775808 := by decide
  rw [hi, i64max] at hn
  (refine enter Tryd.func15 rfl rfl (by kernel_rfl) [] ?_; simp only [go_sem, Nat.reduceBEq])
  refine Br.intro (fun h0 => ?_) (fun h0 => ?_) <;> (try simp only [h0, go_sem, Nat.reduceBEq])
  · have h0 := of_decide_eq_true h0
    subst h0
    exact ⟨by rw [itoa_zero], Ext.refl _⟩
  have h0 := of_decide_eq_false h0
  refine aloop (ι := Int × List UInt8) (fun x => [(4, .val (.int .i64 x.1)), (3, .val (.string ⟨x.2.toArray⟩)), (0, .val (.int .i64 n))]) (fun _ => [])
    (fun x h' => mdig x.1.natAbs x.2 = mdig n.natAbs [] ∧ (x.1 = n ∧ x.2 = [] ∨ x.2.length + x.1.natAbs ≤ 4611686018427387904) ∧ Ext h h') (fun x => x.1.natAbs) (n, [])
    ⟨rfl, .inl ⟨rfl, rfl⟩, Ext.refl _⟩ (by repeat (first | exact wkF_e | refine wkF_c rfl ?_)) wkB_e rfl ?_
  rintro ⟨x, l⟩ h1 ⟨hq, hl, he⟩
  have hl : x = n ∧ l = [] ∨ l.length + x.natAbs ≤ 4611686018427387904 := hl
  have hq : mdig x.natAbs l = mdig n.natAbs [] := hq
  have hll : l.length ≤ 4611686018427387904 := by
    rcases hl with ⟨_, rfl⟩ | hl
    · simp
    · omega
  have hxn : x.natAbs ≤ 9223372036854775808 := by
    rcases hl with ⟨rfl, _⟩ | hl <;> omega
  have hr : (x.tmod 10).natAbs = x.natAbs % 10 := Int.natAbs_tmod x 10
  have hd : (x.tdiv 10).natAbs = x.natAbs / 10 := Int.natAbs_tdiv x 10
  have hr10 : x.natAbs % 10 < 10 := Nat.mod_lt _ (by omega)
  have wd : IntKind.i64.wrap (x.tdiv 10) = x.tdiv 10 := IntWalk.i64_in _ (by omega)
  have wr : IntKind.i64.wrap (0 - x.tmod 10) = 0 - x.tmod 10 := IntWalk.i64_in _ (by omega)
  simp only [go_sem, Nat.reduceBEq]
  refine Br.intro (fun hc => ?_) (fun hc => ?_) <;> (try simp only [hc, go_sem, Nat.reduceBEq, Int.reduceEq, not_false_eq_true])
  · have hc : ¬ x = 0 := by simpa using hc
    have next : ∀ h' : Hp, Ext h h' → mdig (x.tdiv 10).natAbs (UInt8.ofNat (48 + x.natAbs % 10) :: l) = mdig n.natAbs [] ∧ (x.tdiv 10 = n ∧ UInt8.ofNat (48 + x.natAbs % 10) :: l = [] ∨ (UInt8.ofNat (48 + x.natAbs % 10) :: l).length + (x.tdiv 10).natAbs ≤ 4611686018427387904) ∧ Ext h h' := fun h' e' => by
      refine ⟨by rw [← hq, hd, ← mdig_step (by omega)], .inr ?_, e'⟩
      rw [List.length_cons, hd]
      rcases hl with ⟨rfl, rfl⟩ | hl
      · simp only [List.length_nil]; omega
      · omega
    refine Br.intro (fun hs => ?_) (fun hs => ?_) <;> (try simp only [hs, go_sem, Nat.reduceBEq])
    · have hs := of_decide_eq_true hs
      simp only [wr, dig8 (0 - x.tmod 10) (x.natAbs % 10) (by omega) hr10, go_sem]
      refine bytes_lit1 slT22 (UInt8.ofNat (48 + x.natAbs % 10)) fun u2 h2 m2 => ?_
      simp only [go_sem, Nat.reduceBEq]
      refine cvK_bytes bytT22 isStr9 m2.rd ?_
      simp only [wd, go_sem, Nat.reduceBEq, Int.reduceEq, not_false_eq_true]
      refine ⟨by rw [i64max]; simp; omega, ?_⟩
      exact Again.intro (x.tdiv 10, UInt8.ofNat (48 + x.natAbs % 10) :: l) (by simp only; omega) (next _ (he.trans m2.ext)) (by repeat (first | exact wkF_e | refine wkF_c rfl ?_)) wkB_e rfl
    · have hs := of_decide_eq_false hs
      simp only [dig8 (x.tmod 10) (x.natAbs % 10) (by omega) hr10, go_sem]
      refine bytes_lit1 slT22 (UInt8.ofNat (48 + x.natAbs % 10)) fun u2 h2 m2 => ?_
      simp only [go_sem, Nat.reduceBEq]
      refine cvK_bytes bytT22 isStr9 m2.rd ?_
      simp only [wd, go_sem, Nat.reduceBEq, Int.reduceEq, not_false_eq_true]
      refine ⟨by rw [i64max]; simp; omega, ?_⟩
      exact Again.intro (x.tdiv 10, UInt8.ofNat (48 + x.natAbs % 10) :: l) (by simp only; omega) (next _ (he.trans m2.ext)) (by repeat (first | exact wkF_e | refine wkF_c rfl ?_)) wkB_e rfl
  · have hc : x = 0 := by simpa using hc
    subst hc
    have hq : l = mdig n.natAbs [] := by rw [← hq]; exact (mdig_zero l).symm
    refine Br.intro (fun hs => ?_) (fun hs => ?_) <;> (try simp only [hs, go_sem, Nat.reduceBEq])
    · have hs := of_decide_eq_true hs
      refine ⟨by rw [i64max]; simp; omega, ?_⟩
      exact ⟨by rw [itoa_neg hs, hq]; rfl, he⟩
    · have hs := of_decide_eq_false hs
      exact ⟨by rw [itoa_pos (by omega), hq], he⟩
end Go.Proofs.YtconhonjkfpfmaaDoor
