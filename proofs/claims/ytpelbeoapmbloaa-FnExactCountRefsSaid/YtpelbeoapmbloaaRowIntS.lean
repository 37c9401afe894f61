/-
  What the laws' markIntS and heldIntS do: the marks are written, and found again.
-/
import Derived.Test.YtpelbeoapmbloaaMark
import Derived.Test.YtpelbeoapmbloaaSxDataT
namespace Go.Proofs.Ytpelbeoapmbloaa
set_option maxRecDepth 8000
open Go Go.Sx
theorem markIntS_c (l : List (Int)) (k : Nat) (hk : k + cntG cI l ≤ 4611686018427387904) (sl : Value) (bag : Bag) (h0 h : Hp) (m : My h0 h ((.row 1 (l.flatMap idt), sl) :: bag)) :
    ACalls Try.prog 25 #[sl, .int .i64 (k : Nat)] h fun v h' => v = .int .i64 ((k + cntG cI l : Nat)) ∧ My h0 h' ((.row 1 ((mkG cI mkI l k).flatMap idt), sl) :: bag) := by
  obtain ⟨a, c, rfl, hc, hcm, hat⟩ := m.row_shape (by decide) l.length (fm_len idt_len l)
  have hlm : l.length ≤ maxLen := Nat.le_trans hc hcm
  (refine enter Try.func25 rfl rfl (by kernel_rfl) [] ?_; simp only [go_sem])
  refine aloop (ι := Nat) (fun i => [(5, .val (.int .i64 (i : Nat))), (1, .val (.int .i64 ((k + cntG cI (l.take i) : Nat)))), (0, .val (.slice a l.length c))]) (fun _ => []) (fun i h' => i ≤ l.length ∧ My h0 h' ((.row 1 ((mkG cI mkI (l.take i) k).flatMap idt ++ (l.drop i).flatMap idt), .slice a l.length c) :: bag)) (fun i => l.length - i) 0
    ⟨Nat.zero_le _, m⟩ (by repeat (first | exact wkF_e | refine wkF_c rfl ?_)) wkB_e rfl ?_
  rintro i h1 ⟨hi, m1⟩
  have hi : i ≤ l.length := hi
  simp only [go_sem, Nat.reduceBEq]
  refine Br.intro (fun hb => ?_) (fun hb => ?_) <;> (try simp only [hb, go_sem, Nat.reduceBEq])
  · have hb : i < l.length := by simpa using hb
    obtain ⟨b, rfl⟩ := hat (by omega)
    have hpos : 0 < l.length := by omega
    obtain ⟨e, he, hm⟩ := get_lt hb
    have hsn := cntG_snoc (c := cI) he
    rw [cI] at hsn
    have hms := mkG_snoc (c := cI) (m := mkI) he k
    have hle := cntG_le (c := cI) he
    rw [cI] at hle
    have hA : ((mkG cI mkI (l.take i) k).flatMap idt).length = i * 1 := by rw [fm_len idt_len, mkG_len, List.length_take]; congr 1; omega
    have m1 : My h0 h1 ((.row 1 ((mkG cI mkI (l.take i) k).flatMap idt ++ (l.drop i).flatMap idt), .slice (some ⟨b, 0, none⟩) l.length c) :: bag) := m1
    rw [drop_cons he, List.flatMap_cons, idt_eq] at m1
    have fin : ∀ h' , My h0 h' ((.row 1 ((mkG cI mkI (l.take i) k).flatMap idt ++ (idt (mkI (k + cntG cI (l.take i)) e) ++ (l.drop (i + 1)).flatMap idt)), .slice (some ⟨b, 0, none⟩) l.length c) :: bag) → My h0 h' ((.row 1 ((mkG cI mkI (l.take (i + 1)) k).flatMap idt ++ (l.drop (i + 1)).flatMap idt), .slice (some ⟨b, 0, none⟩) l.length c) :: bag) := fun h' m => by
      rw [hms, List.flatMap_append, List.flatMap_cons, List.flatMap_nil, List.append_nil, List.append_assoc]; exact m
    rw [idt_eq] at fin
    have hq0 : k + cntG cI (l.take i) ≤ 4611686018427387904 := by omega
    generalize hq : k + cntG cI (l.take i) = q at *
    generalize (mkG cI mkI (l.take i) k).flatMap idt = A at *
    generalize hR : (l.drop (i + 1)).flatMap idt = R at *
    have wq0 : IntKind.i64.wrap (((q : Nat) : Int) + 1) = ((q + 1 : Nat) : Int) := by rw [IntWalk.i64_in _ (by omega)]; rfl
    have wsu := wrap_succ (i := i) (by unfold maxLen at hlm; omega)
    simp only [ix_nat hb, go_sem, Nat.reduceBEq]
    refine hsem_my_cell (A := A) (R := R) (j := 0) tyS3 rfl m1 hpos (Nat.le_of_ble_eq_true rfl) rfl rfl (by omega) fun h2 m2 => ?_
    simp only [wq0, go_sem, Nat.reduceBEq]
    rw [wsu]
    have hend : k + cntG cI (l.take (i + 1)) = q + 1 := by omega
    refine Again.intro (i + 1) (by first | omega | (simp only; omega)) ⟨hb, ?_⟩ (by simp only [hend]; exact (by repeat (first | exact wkF_e | refine wkF_c rfl ?_))) wkB_e rfl
    have m3 := fin _ m2
    rw [← hR] at m3
    exact m3
  · have hb : i = l.length := by simp at hb; omega
    subst hb
    have m1 : My h0 h1 ((.row 1 ((mkG cI mkI (l.take l.length) k).flatMap idt ++ (l.drop l.length).flatMap idt), .slice a l.length c) :: bag) := m1
    rw [List.take_length, List.drop_length, List.flatMap_nil, List.append_nil] at m1
    rw [List.take_length]
    exact ⟨rfl, m1⟩
theorem heldIntS_c (l : List (Int)) (k : Nat) (hk : k + cntG cI l ≤ 4611686018427387904) (sl : Value) (h : Hp) (rd : Rd h (.row 1 ((mkG cI mkI l k).flatMap idt)) sl) :
    ACalls Try.prog 26 #[sl, .int .i64 (k : Nat)] h (Is (.int .i64 ((k + cntG cI l : Nat))) h) := by
  have hml := mkG_len (c := cI) (m := mkI) l k
  obtain ⟨a, c, xs, rfl, hc, hr, hat⟩ := rd.rows (by decide) l.length (by rw [fm_len idt_len, hml])
  (refine enter Try.func26 rfl rfl (by kernel_rfl) [] ?_; simp only [go_sem])
  refine aloop (ι := Nat) (fun i => [(5, .val (.int .i64 (i : Nat))), (1, .val (.int .i64 ((k + cntG cI (l.take i) : Nat)))), (0, .val (.slice a l.length c))]) (fun _ => []) (fun i h' => i ≤ l.length ∧ Ext h h') (fun i => l.length - i) 0
    ⟨Nat.zero_le _, Ext.refl _⟩ (by repeat (first | exact wkF_e | refine wkF_c rfl ?_)) wkB_e rfl ?_
  rintro i h1 ⟨hi, x1⟩
  have hi : i ≤ l.length := hi
  have x1 : Ext h h1 := x1
  simp only [go_sem, Nat.reduceBEq]
  refine Br.intro (fun hb => ?_) (fun hb => ?_) <;> (try simp only [hb, go_sem, Nat.reduceBEq])
  · have hb : i < l.length := by simpa using hb
    obtain ⟨b, off, rfl, hat0⟩ := hat (by omega)
    have hat1 := hat0.mono x1
    have hr1 := hr.mono x1
    obtain ⟨e, he, hm⟩ := get_lt hb
    have hsn := cntG_snoc (c := cI) he
    rw [cI] at hsn
    have hge := mkG_get (c := cI) (m := mkI) he k
    have hle := cntG_le (c := cI) he
    rw [cI] at hle
    have hq0 : k + cntG cI (l.take i) ≤ 4611686018427387904 := by omega
    have hlm : l.length ≤ 4611686018427387904 := by have := cntG_pos (c := cI) (fun _ => Nat.le_refl 1) l; omega
    have wsu := wrap_succ (i := i) (by omega)
    generalize hq : k + cntG cI (l.take i) = q at *
    have wq0 : IntKind.i64.wrap (((q : Nat) : Int) + 1) = ((q + 1 : Nat) : Int) := by rw [IntWalk.i64_in _ (by omega)]; rfl
    simp only [ix_nat hb, go_sem, Nat.reduceBEq]
    refine hsem_cell (f := idt) (o := 0) idt_len tyS3 hat1 hr1 hge (by decide) (by rw [idt_eq]; rfl) ?_ fun y0 r0 => ?_
    · omega
    obtain ⟨rfl, _⟩ := Rd_raw.1 r0
    simp only [go_sem, Nat.reduceBEq]
    simp only [mkI, decide_true, Bool.not_true, wq0, go_sem, Nat.reduceBEq]
    rw [wsu]
    have hend : k + cntG cI (l.take (i + 1)) = q + 1 := by omega
    exact Again.intro (i + 1) (by first | omega | (simp only; omega)) ⟨hb, x1⟩ (by simp only [hend]; exact (by repeat (first | exact wkF_e | refine wkF_c rfl ?_))) wkB_e rfl
  · have hb : i = l.length := by simp at hb; omega
    subst hb
    rw [List.take_length]
    exact ⟨rfl, x1⟩
end Go.Proofs.Ytpelbeoapmbloaa
