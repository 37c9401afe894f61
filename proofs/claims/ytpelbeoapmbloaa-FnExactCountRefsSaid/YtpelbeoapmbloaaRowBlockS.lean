/-
  What the laws' markBlockS and heldBlockS do: the marks are written, and found again.
-/
import Derived.Test.YtpelbeoapmbloaaRowSlotS
import Derived.Test.YtpelbeoapmbloaaRowIntS
import Derived.Test.YtpelbeoapmbloaaSxDataT
namespace Go.Proofs.Ytpelbeoapmbloaa
set_option maxRecDepth 8000
open Go Go.Sx
theorem markBlockS_c (l : List (Bk)) (k : Nat) (hk : k + cntG cB l ≤ 4611686018427387904) (sl : Value) (bag : Bag) (h0 h : Hp) (m : My h0 h ((.row 6 (l.flatMap Bk.dt), sl) :: bag)) :
    ACalls Try.prog 48 #[sl, .int .i64 (k : Nat)] h fun v h' => v = .int .i64 ((k + cntG cB l : Nat)) ∧ My h0 h' ((.row 6 ((mkG cB mkB l k).flatMap Bk.dt), sl) :: bag) := by
  obtain ⟨a, c, rfl, hc, hcm, hat⟩ := m.row_shape (by decide) l.length (fm_len Bk.dt_len l)
  have hlm : l.length ≤ maxLen := Nat.le_trans hc hcm
  (refine enter Try.func48 rfl rfl (by kernel_rfl) [] ?_; simp only [go_sem])
  refine aloop (ι := Nat) (fun i => [(5, .val (.int .i64 (i : Nat))), (1, .val (.int .i64 ((k + cntG cB (l.take i) : Nat)))), (0, .val (.slice a l.length c))]) (fun _ => []) (fun i h' => i ≤ l.length ∧ My h0 h' ((.row 6 ((mkG cB mkB (l.take i) k).flatMap Bk.dt ++ (l.drop i).flatMap Bk.dt), .slice a l.length c) :: bag)) (fun i => l.length - i) 0
    ⟨Nat.zero_le _, m⟩ (by repeat (first | exact wkF_e | refine wkF_c rfl ?_)) wkB_e rfl ?_
  rintro i h1 ⟨hi, m1⟩
  have hi : i ≤ l.length := hi
  simp only [go_sem, Nat.reduceBEq]
  refine Br.intro (fun hb => ?_) (fun hb => ?_) <;> (try simp only [hb, go_sem, Nat.reduceBEq])
  · have hb : i < l.length := by simpa using hb
    obtain ⟨b, rfl⟩ := hat (by omega)
    have hpos : 0 < l.length := by omega
    obtain ⟨e, he, hm⟩ := get_lt hb
    have hsn := cntG_snoc (c := cB) he
    rw [cB] at hsn
    have hms := mkG_snoc (c := cB) (m := mkB) he k
    have hle := cntG_le (c := cB) he
    rw [cB] at hle
    have hA : ((mkG cB mkB (l.take i) k).flatMap Bk.dt).length = i * 6 := by rw [fm_len Bk.dt_len, mkG_len, List.length_take]; congr 1; omega
    have m1 : My h0 h1 ((.row 6 ((mkG cB mkB (l.take i) k).flatMap Bk.dt ++ (l.drop i).flatMap Bk.dt), .slice (some ⟨b, 0, none⟩) l.length c) :: bag) := m1
    rw [drop_cons he, List.flatMap_cons, Bk.dt_eq] at m1
    have fin : ∀ h' , My h0 h' ((.row 6 ((mkG cB mkB (l.take i) k).flatMap Bk.dt ++ (Bk.dt (mkB (k + cntG cB (l.take i)) e) ++ (l.drop (i + 1)).flatMap Bk.dt)), .slice (some ⟨b, 0, none⟩) l.length c) :: bag) → My h0 h' ((.row 6 ((mkG cB mkB (l.take (i + 1)) k).flatMap Bk.dt ++ (l.drop (i + 1)).flatMap Bk.dt), .slice (some ⟨b, 0, none⟩) l.length c) :: bag) := fun h' m => by
      rw [hms, List.flatMap_append, List.flatMap_cons, List.flatMap_nil, List.append_nil, List.append_assoc]; exact m
    rw [Bk.dt_eq] at fin
    simp only [mkB] at fin
    have hq0 : k + cntG cB (l.take i) ≤ 4611686018427387904 := by omega
    generalize hq : k + cntG cB (l.take i) = q at *
    generalize (mkG cB mkB (l.take i) k).flatMap Bk.dt = A at *
    generalize hR : (l.drop (i + 1)).flatMap Bk.dt = R at *
    have wq0 : IntKind.i64.wrap (((q : Nat) : Int) + 1) = ((q + 1 : Nat) : Int) := by rw [IntWalk.i64_in _ (by omega)]; rfl
    have wq1 : IntKind.i64.wrap (((q + 1 : Nat) : Int) + 1) = ((q + 2 : Nat) : Int) := by rw [IntWalk.i64_in _ (by omega)]; rfl
    have wsu := wrap_succ (i := i) (by unfold maxLen at hlm; omega)
    simp only [ix_nat hb, go_sem, Nat.reduceBEq]
    refine hsem_my_cell (A := A) (R := R) (j := 0) tyS3 rfl m1 hpos (Nat.le_of_ble_eq_true rfl) rfl rfl (by omega) fun h2 m2 => ?_
    simp only [ix_nat hb, wq0, go_sem, Nat.reduceBEq, Int.reduceEq, not_false_eq_true]
    refine hsem_my_cell (A := A) (R := R) (j := 1) tyS4 rfl m2 hpos (Nat.le_of_ble_eq_true rfl) rfl rfl (by omega) fun h3 m3 => ?_
    simp only [ix_nat hb, wq1, go_sem, Nat.reduceBEq]
    obtain ⟨u2, m4⟩ := m3.openAt (A := A) (R := R) (j := 2) rfl
    refine hsem_my_get (A := A) (R := R) (j := 2) tyS22 m4.swap hpos (d := .raw u2) rfl (by omega) fun u' hu' => ?_
    obtain ⟨rfl, _⟩ := Rd_raw.1 hu'
    simp only [go_sem, Nat.reduceBEq]
    refine (markIntS_c (e.tab.heads) (q + 2) (by omega) _ _ _ _ m4).mono ?_
    rintro _ h4 ⟨rfl, m5⟩
    have m6 := m5.closeAt (A := A) (R := R) (j := 2) rfl
    generalize hq2 : q + 2 + cntG cI (e.tab.heads) = q2 at *
    simp only [ix_nat hb, go_sem, Nat.reduceBEq, Nat.reduceAdd]
    obtain ⟨u3, m7⟩ := m6.openAt (A := A) (R := R) (j := 3) rfl
    refine hsem_my_get (A := A) (R := R) (j := 3) tyS31 m7.swap hpos (d := .raw u3) rfl (by omega) fun u' hu' => ?_
    obtain ⟨rfl, _⟩ := Rd_raw.1 hu'
    simp only [go_sem, Nat.reduceBEq]
    refine (markSlotS_c (e.tab.slots) (q2) (by omega) _ _ _ _ m7).mono ?_
    rintro _ h5 ⟨rfl, m8⟩
    have m9 := m8.closeAt (A := A) (R := R) (j := 3) rfl
    generalize hq3 : q2 + cntG cS (e.tab.slots) = q3 at *
    have wq30 : IntKind.i64.wrap (((q3 : Nat) : Int) + 1) = ((q3 + 1 : Nat) : Int) := by rw [IntWalk.i64_in _ (by omega)]; rfl
    have wq31 : IntKind.i64.wrap (((q3 + 1 : Nat) : Int) + 1) = ((q3 + 2 : Nat) : Int) := by rw [IntWalk.i64_in _ (by omega)]; rfl
    simp only [ix_nat hb, go_sem, Nat.reduceBEq, Nat.reduceAdd]
    refine hsem_my_cell (A := A) (R := R) (j := 4) tyS3 rfl m9 hpos (Nat.le_of_ble_eq_true rfl) rfl rfl (by omega) fun h6 m10 => ?_
    simp only [ix_nat hb, wq30, go_sem, Nat.reduceBEq, Nat.reduceAdd]
    refine hsem_my_cell (A := A) (R := R) (j := 5) tyS3 rfl m10 hpos (Nat.le_of_ble_eq_true rfl) rfl rfl (by omega) fun h7 m11 => ?_
    simp only [wq31, go_sem, Nat.reduceBEq]
    rw [wsu]
    have hend : k + cntG cB (l.take (i + 1)) = q3 + 2 := by omega
    refine Again.intro (i + 1) (by first | omega | (simp only; omega)) ⟨hb, ?_⟩ (by simp only [hend]; exact (by repeat (first | exact wkF_e | refine wkF_c rfl ?_))) wkB_e rfl
    have m12 := fin _ m11
    rw [← hR] at m12
    exact m12
  · have hb : i = l.length := by simp at hb; omega
    subst hb
    have m1 : My h0 h1 ((.row 6 ((mkG cB mkB (l.take l.length) k).flatMap Bk.dt ++ (l.drop l.length).flatMap Bk.dt), .slice a l.length c) :: bag) := m1
    rw [List.take_length, List.drop_length, List.flatMap_nil, List.append_nil] at m1
    rw [List.take_length]
    exact ⟨rfl, m1⟩
end Go.Proofs.Ytpelbeoapmbloaa
