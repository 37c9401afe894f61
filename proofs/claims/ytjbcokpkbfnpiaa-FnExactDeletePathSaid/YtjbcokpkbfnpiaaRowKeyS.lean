/-
  What the laws' markKeyS and heldKeyS do: the marks are written, and found again.
-/
import Derived.Test.YtjbcokpkbfnpiaaMark
import Derived.Test.YtjbcokpkbfnpiaaSxDataT
namespace Go.Proofs.Ytjbcokpkbfnpiaa
open Go Go.Sx
theorem markKeyS_c (l : List (Ky)) (k : Nat) (hk : k + cntG cK l ≤ 4611686018427387904) (sl : Value) (bag : Bag) (h0 h : Hp) (m : My h0 h ((.row 3 (l.flatMap Ky.dt), sl) :: bag)) :
    ACalls Try.prog 23 #[sl, .int .i64 (k : Nat)] h fun v h' => v = .int .i64 ((k + cntG cK l : Nat)) ∧ My h0 h' ((.row 3 ((mkG cK mkK l k).flatMap Ky.dt), sl) :: bag) := by
  obtain ⟨a, c, rfl, hc, hcm, hat⟩ := m.row_shape (by decide) l.length (fm_len Ky.dt_len l)
  have hlm : l.length ≤ maxLen := Nat.le_trans hc hcm
  (refine enter Try.func23 rfl rfl (by kernel_rfl) [] ?_; simp only [go_sem])
  refine aloop (ι := Nat) (fun i => [(5, .val (.int .i64 (i : Nat))), (1, .val (.int .i64 ((k + cntG cK (l.take i) : Nat)))), (0, .val (.slice a l.length c))]) (fun _ => []) (fun i h' => i ≤ l.length ∧ My h0 h' ((.row 3 ((mkG cK mkK (l.take i) k).flatMap Ky.dt ++ (l.drop i).flatMap Ky.dt), .slice a l.length c) :: bag)) (fun i => l.length - i) 0
    ⟨Nat.zero_le _, m⟩ (by repeat (first | exact wkF_e | refine wkF_c rfl ?_)) wkB_e rfl ?_
  rintro i h1 ⟨hi, m1⟩
  have hi : i ≤ l.length := hi
  simp only [go_sem, Nat.reduceBEq]
  refine Br.intro (fun hb => ?_) (fun hb => ?_) <;> (try simp only [hb, go_sem, Nat.reduceBEq, Int.reduceEq, not_false_eq_true])
  · have hb : i < l.length := by simpa using hb
    obtain ⟨b, rfl⟩ := hat (by omega)
    have hpos : 0 < l.length := by omega
    obtain ⟨e, he, hm⟩ := get_lt hb
    have hsn := cntG_snoc (c := cK) he
    rw [cK] at hsn
    have hms := mkG_snoc (c := cK) (m := mkK) he k
    have hle := cntG_le (c := cK) he
    rw [cK] at hle
    have hA : ((mkG cK mkK (l.take i) k).flatMap Ky.dt).length = i * 3 := by rw [fm_len Ky.dt_len, mkG_len, List.length_take]; congr 1; omega
    have m1 : My h0 h1 ((.row 3 ((mkG cK mkK (l.take i) k).flatMap Ky.dt ++ (l.drop i).flatMap Ky.dt), .slice (some ⟨b, 0, none⟩) l.length c) :: bag) := m1
    rw [drop_cons he, List.flatMap_cons, Ky.dt_eq] at m1
    have fin : ∀ h' , My h0 h' ((.row 3 ((mkG cK mkK (l.take i) k).flatMap Ky.dt ++ (Ky.dt (mkK (k + cntG cK (l.take i)) e) ++ (l.drop (i + 1)).flatMap Ky.dt)), .slice (some ⟨b, 0, none⟩) l.length c) :: bag) → My h0 h' ((.row 3 ((mkG cK mkK (l.take (i + 1)) k).flatMap Ky.dt ++ (l.drop (i + 1)).flatMap Ky.dt), .slice (some ⟨b, 0, none⟩) l.length c) :: bag) := fun h' m => by
      rw [hms, List.flatMap_append, List.flatMap_cons, List.flatMap_nil, List.append_nil, List.append_assoc]; exact m
    rw [Ky.dt_eq] at fin
    have hq0 : k + cntG cK (l.take i) ≤ 4611686018427387904 := by omega
    generalize hq : k + cntG cK (l.take i) = q at *
    generalize (mkG cK mkK (l.take i) k).flatMap Ky.dt = A at *
    generalize hR : (l.drop (i + 1)).flatMap Ky.dt = R at *
    have wq0 : IntKind.i64.wrap (((q : Nat) : Int) + 1) = ((q + 1 : Nat) : Int) := by rw [IntWalk.i64_in _ (by omega)]; rfl
    have wq1 : IntKind.i64.wrap (((q + 1 : Nat) : Int) + 1) = ((q + 2 : Nat) : Int) := by rw [IntWalk.i64_in _ (by omega)]; rfl
    have wq2 : IntKind.i64.wrap (((q + 2 : Nat) : Int) + 1) = ((q + 3 : Nat) : Int) := by rw [IntWalk.i64_in _ (by omega)]; rfl
    have wsu := wrap_succ (i := i) (by unfold maxLen at hlm; omega)
    simp only [ix_nat hb, go_sem, Nat.reduceBEq]
    refine hsem_my_cell (A := A) (R := R) (j := 0) tyS4 rfl m1 hpos (Nat.le_of_ble_eq_true rfl) rfl rfl (by omega) fun h2 m2 => ?_
    simp only [ix_nat hb, wq0, go_sem, Nat.reduceBEq]
    refine hsem_my_cell (A := A) (R := R) (j := 1) tyS3 rfl m2 hpos (Nat.le_of_ble_eq_true rfl) rfl rfl (by omega) fun h3 m3 => ?_
    simp only [wq1, go_sem, Nat.reduceBEq]
    refine (markText_c (q + 2) (by omega) _).mono ?_
    rintro _ h4 ⟨rfl, x4⟩
    have m4 := m3.mono x4
    simp only [ix_nat hb, go_sem, Nat.reduceBEq, Nat.reduceAdd]
    refine hsem_my_cell (A := A) (R := R) (j := 2) tyS9 rfl m4 hpos (Nat.le_of_ble_eq_true rfl) rfl rfl (by omega) fun h5 m5 => ?_
    simp only [wq2, go_sem, Nat.reduceBEq]
    rw [wsu]
    have hend : k + cntG cK (l.take (i + 1)) = q + 3 := by omega
    refine Again.intro (i + 1) (by first | omega | (simp only; omega)) ⟨hb, ?_⟩ (by simp only [hend]; exact (by repeat (first | exact wkF_e | refine wkF_c rfl ?_))) wkB_e rfl
    have m6 := fin _ m5
    rw [← hR] at m6
    exact m6
  · have hb : i = l.length := by simp at hb; omega
    subst hb
    have m1 : My h0 h1 ((.row 3 ((mkG cK mkK (l.take l.length) k).flatMap Ky.dt ++ (l.drop l.length).flatMap Ky.dt), .slice a l.length c) :: bag) := m1
    rw [List.take_length, List.drop_length, List.flatMap_nil, List.append_nil] at m1
    rw [List.take_length]
    exact ⟨rfl, m1⟩
end Go.Proofs.Ytjbcokpkbfnpiaa
