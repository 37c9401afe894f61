/-
  What the laws' markSlotS and heldSlotS do: the marks are written, and found again.
-/
import Derived.Test.YtpelbeoapmbloaaRowEntryS
import Derived.Test.YtpelbeoapmbloaaSxDataT
namespace Go.Proofs.Ytpelbeoapmbloaa
set_option maxRecDepth 8000
open Go Go.Sx
theorem markSlotS_c (l : List (Sl)) (k : Nat) (hk : k + cntG cS l ≤ 4611686018427387904) (sl : Value) (bag : Bag) (h0 h : Hp) (m : My h0 h ((.row 10 (l.flatMap Sl.dt), sl) :: bag)) :
    ACalls Try.prog 37 #[sl, .int .i64 (k : Nat)] h fun v h' => v = .int .i64 ((k + cntG cS l : Nat)) ∧ My h0 h' ((.row 10 ((mkG cS mkS l k).flatMap Sl.dt), sl) :: bag) := by
  obtain ⟨a, c, rfl, hc, hcm, hat⟩ := m.row_shape (by decide) l.length (fm_len Sl.dt_len l)
  have hlm : l.length ≤ maxLen := Nat.le_trans hc hcm
  (refine enter Try.func37 rfl rfl (by kernel_rfl) [] ?_; simp only [go_sem])
  refine aloop (ι := Nat) (fun i => [(5, .val (.int .i64 (i : Nat))), (1, .val (.int .i64 ((k + cntG cS (l.take i) : Nat)))), (0, .val (.slice a l.length c))]) (fun _ => []) (fun i h' => i ≤ l.length ∧ My h0 h' ((.row 10 ((mkG cS mkS (l.take i) k).flatMap Sl.dt ++ (l.drop i).flatMap Sl.dt), .slice a l.length c) :: bag)) (fun i => l.length - i) 0
    ⟨Nat.zero_le _, m⟩ (by repeat (first | exact wkF_e | refine wkF_c rfl ?_)) wkB_e rfl ?_
  rintro i h1 ⟨hi, m1⟩
  have hi : i ≤ l.length := hi
  simp only [go_sem, Nat.reduceBEq]
  refine Br.intro (fun hb => ?_) (fun hb => ?_) <;> (try simp only [hb, go_sem, Nat.reduceBEq, Int.reduceEq, not_false_eq_true])
  · have hb : i < l.length := by simpa using hb
    obtain ⟨b, rfl⟩ := hat (by omega)
    have hpos : 0 < l.length := by omega
    obtain ⟨e, he, hm⟩ := get_lt hb
    have hsn := cntG_snoc (c := cS) he
    rw [cS] at hsn
    have hms := mkG_snoc (c := cS) (m := mkS) he k
    have hle := cntG_le (c := cS) he
    rw [cS] at hle
    have hA : ((mkG cS mkS (l.take i) k).flatMap Sl.dt).length = i * 10 := by rw [fm_len Sl.dt_len, mkG_len, List.length_take]; congr 1; omega
    have m1 : My h0 h1 ((.row 10 ((mkG cS mkS (l.take i) k).flatMap Sl.dt ++ (l.drop i).flatMap Sl.dt), .slice (some ⟨b, 0, none⟩) l.length c) :: bag) := m1
    rw [drop_cons he, List.flatMap_cons, Sl.dt_eq] at m1
    have fin : ∀ h' , My h0 h' ((.row 10 ((mkG cS mkS (l.take i) k).flatMap Sl.dt ++ (Sl.dt (mkS (k + cntG cS (l.take i)) e) ++ (l.drop (i + 1)).flatMap Sl.dt)), .slice (some ⟨b, 0, none⟩) l.length c) :: bag) → My h0 h' ((.row 10 ((mkG cS mkS (l.take (i + 1)) k).flatMap Sl.dt ++ (l.drop (i + 1)).flatMap Sl.dt), .slice (some ⟨b, 0, none⟩) l.length c) :: bag) := fun h' m => by
      rw [hms, List.flatMap_append, List.flatMap_cons, List.flatMap_nil, List.append_nil, List.append_assoc]; exact m
    rw [Sl.dt_eq] at fin
    simp only [mkS, V.kind_mk, V.num_mk, V.str_mk, V.next_mk, V.items_mk] at fin
    have hq0 : k + cntG cS (l.take i) ≤ 4611686018427387904 := by omega
    generalize hq : k + cntG cS (l.take i) = q at *
    generalize (mkG cS mkS (l.take i) k).flatMap Sl.dt = A at *
    generalize hR : (l.drop (i + 1)).flatMap Sl.dt = R at *
    have wq0 : IntKind.i64.wrap (((q : Nat) : Int) + 1) = ((q + 1 : Nat) : Int) := by rw [IntWalk.i64_in _ (by omega)]; rfl
    have wq1 : IntKind.i64.wrap (((q + 1 : Nat) : Int) + 1) = ((q + 2 : Nat) : Int) := by rw [IntWalk.i64_in _ (by omega)]; rfl
    have wq2 : IntKind.i64.wrap (((q + 2 : Nat) : Int) + 1) = ((q + 3 : Nat) : Int) := by rw [IntWalk.i64_in _ (by omega)]; rfl
    have wq3 : IntKind.i64.wrap (((q + 3 : Nat) : Int) + 1) = ((q + 4 : Nat) : Int) := by rw [IntWalk.i64_in _ (by omega)]; rfl
    have wq4 : IntKind.i64.wrap (((q + 4 : Nat) : Int) + 1) = ((q + 5 : Nat) : Int) := by rw [IntWalk.i64_in _ (by omega)]; rfl
    have wq5 : IntKind.i64.wrap (((q + 5 : Nat) : Int) + 1) = ((q + 6 : Nat) : Int) := by rw [IntWalk.i64_in _ (by omega)]; rfl
    have wq6 : IntKind.i64.wrap (((q + 6 : Nat) : Int) + 1) = ((q + 7 : Nat) : Int) := by rw [IntWalk.i64_in _ (by omega)]; rfl
    have wsu := wrap_succ (i := i) (by unfold maxLen at hlm; omega)
    simp only [ix_nat hb, go_sem, Nat.reduceBEq]
    refine hsem_my_cell (A := A) (R := R) (j := 0) tyS4 rfl m1 hpos (Nat.le_of_ble_eq_true rfl) rfl rfl (by omega) fun h2 m2 => ?_
    simp only [ix_nat hb, wq0, go_sem, Nat.reduceBEq]
    refine hsem_my_cell (A := A) (R := R) (j := 1) tyS3 rfl m2 hpos (Nat.le_of_ble_eq_true rfl) rfl rfl (by omega) fun h3 m3 => ?_
    simp only [wq1, go_sem, Nat.reduceBEq]
    refine (markText_c (q + 2) (by omega) _).mono ?_
    rintro _ h4 ⟨rfl, x4⟩
    have m4 := m3.mono x4
    simp only [ix_nat hb, go_sem, Nat.reduceBEq, Nat.reduceAdd]
    refine hsem_my_cell (A := A) (R := R) (j := 2) tyS9 rfl m4 hpos (Nat.le_of_ble_eq_true rfl) rfl rfl (by omega) fun h5 m5 => ?_
    simp only [ix_nat hb, wq2, go_sem, Nat.reduceBEq, Nat.reduceAdd]
    refine hsem_my_cell (A := A) (R := R) (j := 3) tyS3 rfl m5 hpos (Nat.le_of_ble_eq_true rfl) rfl rfl (by omega) fun h6 m6 => ?_
    simp only [ix_nat hb, wq3, go_sem, Nat.reduceBEq, Nat.reduceAdd]
    refine hsem_my_cell (A := A) (R := R) (j := 4) tyS3 rfl m6 hpos (Nat.le_of_ble_eq_true rfl) rfl rfl (by omega) fun h7 m7 => ?_
    simp only [wq4, go_sem, Nat.reduceBEq]
    refine (markText_c (q + 5) (by omega) _).mono ?_
    rintro _ h8 ⟨rfl, x8⟩
    have m8 := m7.mono x8
    simp only [ix_nat hb, go_sem, Nat.reduceBEq, Nat.reduceAdd]
    refine hsem_my_cell (A := A) (R := R) (j := 5) tyS9 rfl m8 hpos (Nat.le_of_ble_eq_true rfl) rfl rfl (by omega) fun h9 m9 => ?_
    simp only [ix_nat hb, wq5, go_sem, Nat.reduceBEq, Nat.reduceAdd]
    refine hsem_my_cell (A := A) (R := R) (j := 6) tyS3 rfl m9 hpos (Nat.le_of_ble_eq_true rfl) rfl rfl (by omega) fun h10 m10 => ?_
    simp only [ix_nat hb, wq6, go_sem, Nat.reduceBEq, Nat.reduceAdd]
    obtain ⟨u7, m11⟩ := m10.openAt (A := A) (R := R) (j := 7) rfl
    refine hsem_my_get (A := A) (R := R) (j := 7) tyS27 m11.swap hpos (d := .raw u7) rfl (by omega) fun u' hu' => ?_
    obtain ⟨rfl, _⟩ := Rd_raw.1 hu'
    simp only [go_sem, Nat.reduceBEq]
    refine (markEntryS_c (e.val.items) (q + 7) (by omega) _ _ _ _ m11).mono ?_
    rintro _ h11 ⟨rfl, m12⟩
    have m13 := m12.closeAt (A := A) (R := R) (j := 7) rfl
    generalize hq7 : q + 7 + cntEs (e.val.items) = q7 at *
    have wq70 : IntKind.i64.wrap (((q7 : Nat) : Int) + 1) = ((q7 + 1 : Nat) : Int) := by rw [IntWalk.i64_in _ (by omega)]; rfl
    have wq71 : IntKind.i64.wrap (((q7 + 1 : Nat) : Int) + 1) = ((q7 + 2 : Nat) : Int) := by rw [IntWalk.i64_in _ (by omega)]; rfl
    simp only [ix_nat hb, go_sem, Nat.reduceBEq, Nat.reduceAdd, Int.reduceEq, not_false_eq_true]
    refine hsem_my_cell (A := A) (R := R) (j := 8) tyS4 rfl m13 hpos (Nat.le_of_ble_eq_true rfl) rfl rfl (by omega) fun h12 m14 => ?_
    simp only [ix_nat hb, wq70, go_sem, Nat.reduceBEq, Nat.reduceAdd]
    refine hsem_my_cell (A := A) (R := R) (j := 9) tyS3 rfl m14 hpos (Nat.le_of_ble_eq_true rfl) rfl rfl (by omega) fun h13 m15 => ?_
    simp only [wq71, go_sem, Nat.reduceBEq]
    rw [wsu]
    have hend : k + cntG cS (l.take (i + 1)) = q7 + 2 := by omega
    refine Again.intro (i + 1) (by first | omega | (simp only; omega)) ⟨hb, ?_⟩ (by simp only [hend]; exact (by repeat (first | exact wkF_e | refine wkF_c rfl ?_))) wkB_e rfl
    have m16 := fin _ m15
    rw [← hR] at m16
    exact m16
  · have hb : i = l.length := by simp at hb; omega
    subst hb
    have m1 : My h0 h1 ((.row 10 ((mkG cS mkS (l.take l.length) k).flatMap Sl.dt ++ (l.drop l.length).flatMap Sl.dt), .slice a l.length c) :: bag) := m1
    rw [List.take_length, List.drop_length, List.flatMap_nil, List.append_nil] at m1
    rw [List.take_length]
    exact ⟨rfl, m1⟩
end Go.Proofs.Ytpelbeoapmbloaa
