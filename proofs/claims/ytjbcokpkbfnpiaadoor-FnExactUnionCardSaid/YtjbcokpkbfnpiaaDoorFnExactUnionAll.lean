/-
  The statement FnExactUnion is proved: for each argument the law returns true; nothing is assumed.
-/
import Derived.Test.YtjbcokpkbfnpiaaDoorMark
import Derived.Test.YtjbcokpkbfnpiaaDoorSxDataT
import Derived.Test.YtjbcokpkbfnpiaaDoorUnion
import Derived.Test.YtjbcokpkbfnpiaaDoorValEq
import Derived.Test.YtjbcokpkbfnpiaaDoorValSz
import Derived.Test.YtjbcokpkbfnpiaaDoorOpenV
import Derived.Test.YtjbcokpkbfnpiaaDoorRows
import Derived.Test.YtjbcokpkbfnpiaaDoorTie
import Derived.Test.YtjbcokpkbfnpiaaDoorCards
import Derived.ProofKit
import Derived.LaidMore
import Derived.OpenShut
import Derived.Stop.Joined
import Derived.SevenTiedAt
namespace Go.Proofs.YtjbcokpkbfnpiaaDoor
set_option maxRecDepth 8000
open Go Go.Sx
def MkEntryS (l : List (Ky × V)) : Prop := ∀ (k : Nat) (_ : k + cntEs l ≤ 4611686018427387904) (sl : Value) (bag : Bag) (h0 h : Hp) (_ : My h0 h ((.row 8 (l.flatMap edt), sl) :: bag)),
    ACalls Tryd.prog 60 #[sl, .int .i64 (k : Nat)] h fun v h' => v = .int .i64 ((k + cntEs l : Nat)) ∧ My h0 h' ((.row 8 ((mkEs l k).flatMap edt), sl) :: bag)
def HdEntryS (l : List (Ky × V)) : Prop := ∀ (k : Nat) (_ : k + cntEs l ≤ 4611686018427387904) (sl : Value) (h : Hp) (_ : Rd h (.row 8 ((mkEs l k).flatMap edt)) sl),
    ACalls Tryd.prog 61 #[sl, .int .i64 (k : Nat)] h (Is (.int .i64 ((k + cntEs l : Nat))) h)
theorem markEntryS_s (l : List (Ky × V)) (k : Nat) (hk : k + cntEs l ≤ 4611686018427387904) (ih : ∀ e ∈ l, MkEntryS (e.2.items)) (sl : Value) (bag : Bag) (h0 h : Hp) (m : My h0 h ((.row 8 (l.flatMap edt), sl) :: bag)) :
    ACalls Tryd.prog 60 #[sl, .int .i64 (k : Nat)] h fun v h' => v = .int .i64 ((k + cntEs l : Nat)) ∧ My h0 h' ((.row 8 ((mkEs l k).flatMap edt), sl) :: bag) := by
  obtain ⟨a, c, rfl, hc, hcm, hat⟩ := m.row_shape (by decide) l.length (fm_len edt_len l)
  have hlm : l.length ≤ maxLen := Nat.le_trans hc hcm
  (refine enter Tryd.func60 rfl rfl (by kernel_rfl) [] ?_; simp only [go_sem])
  refine aloop (ι := Nat) (fun i => [(5, .val (.int .i64 (i : Nat))), (1, .val (.int .i64 ((k + cntEs (l.take i) : Nat)))), (0, .val (.slice a l.length c))]) (fun _ => []) (fun i h' => i ≤ l.length ∧ My h0 h' ((.row 8 ((mkEs (l.take i) k).flatMap edt ++ (l.drop i).flatMap edt), .slice a l.length c) :: bag)) (fun i => l.length - i) 0
    ⟨Nat.zero_le _, m⟩ (by repeat (first | exact wkF_e | refine wkF_c rfl ?_)) wkB_e rfl ?_
  rintro i h1 ⟨hi, m1⟩
  have hi : i ≤ l.length := hi
  simp only [go_sem, Nat.reduceBEq]
  refine Br.intro (fun hb => ?_) (fun hb => ?_) <;> (try simp only [hb, go_sem, Nat.reduceBEq, Int.reduceEq, not_false_eq_true])
  · have hb : i < l.length := by simpa using hb
    obtain ⟨b, rfl⟩ := hat (by omega)
    have hpos : 0 < l.length := by omega
    obtain ⟨e, he, hm⟩ := get_lt hb
    have hsn := cntEs_snoc he
    have hms := mkEs_snoc he k
    have hle := cntEs_le he
    have hA : ((mkEs (l.take i) k).flatMap edt).length = i * 8 := by rw [fm_len edt_len, mkEs_len, List.length_take]; congr 1; omega
    have m1 : My h0 h1 ((.row 8 ((mkEs (l.take i) k).flatMap edt ++ (l.drop i).flatMap edt), .slice (some ⟨b, 0, none⟩) l.length c) :: bag) := m1
    rw [drop_cons he, List.flatMap_cons, edt_eq] at m1
    have fin : ∀ h' , My h0 h' ((.row 8 ((mkEs (l.take i) k).flatMap edt ++ (edt (mkE (k + cntEs (l.take i)) e) ++ (l.drop (i + 1)).flatMap edt)), .slice (some ⟨b, 0, none⟩) l.length c) :: bag) → My h0 h' ((.row 8 ((mkEs (l.take (i + 1)) k).flatMap edt ++ (l.drop (i + 1)).flatMap edt), .slice (some ⟨b, 0, none⟩) l.length c) :: bag) := fun h' m => by
      rw [hms, List.flatMap_append, List.flatMap_cons, List.flatMap_nil, List.append_nil, List.append_assoc]; exact m
    rw [edt_eq] at fin
    have hq0 : k + cntEs (l.take i) ≤ 4611686018427387904 := by omega
    generalize hq : k + cntEs (l.take i) = q at *
    generalize (mkEs (l.take i) k).flatMap edt = A at *
    generalize hR : (l.drop (i + 1)).flatMap edt = R at *
    have wq0 : IntKind.i64.wrap (((q : Nat) : Int) + 1) = ((q + 1 : Nat) : Int) := by rw [IntWalk.i64_in _ (by omega)]; rfl
    have wq1 : IntKind.i64.wrap (((q + 1 : Nat) : Int) + 1) = ((q + 2 : Nat) : Int) := by rw [IntWalk.i64_in _ (by omega)]; rfl
    have wq2 : IntKind.i64.wrap (((q + 2 : Nat) : Int) + 1) = ((q + 3 : Nat) : Int) := by rw [IntWalk.i64_in _ (by omega)]; rfl
    have wq3 : IntKind.i64.wrap (((q + 3 : Nat) : Int) + 1) = ((q + 4 : Nat) : Int) := by rw [IntWalk.i64_in _ (by omega)]; rfl
    have wq4 : IntKind.i64.wrap (((q + 4 : Nat) : Int) + 1) = ((q + 5 : Nat) : Int) := by rw [IntWalk.i64_in _ (by omega)]; rfl
    have wq5 : IntKind.i64.wrap (((q + 5 : Nat) : Int) + 1) = ((q + 6 : Nat) : Int) := by rw [IntWalk.i64_in _ (by omega)]; rfl
    have wq6 : IntKind.i64.wrap (((q + 6 : Nat) : Int) + 1) = ((q + 7 : Nat) : Int) := by rw [IntWalk.i64_in _ (by omega)]; rfl
    have wsu := wrap_succ (i := i) (by unfold maxLen at hlm; omega)
    simp only [ix_nat hb, go_sem, Nat.reduceBEq]
    refine hsem_my_cell (A := A) (R := R) (j := 0) tyS4 rfl m1 hpos (Nat.le_of_ble_eq_true rfl) rfl rfl (by omega) fun h2 m2 => ?_
    simp only [ix_nat hb, wq0, go_sem, Nat.reduceBEq]
    refine hsem_my_cell (A := A) (R := R) (j := 1) tyS3 rfl m2 hpos (Nat.le_of_ble_eq_true rfl) rfl rfl (by omega) fun h3 m3 => ?_
    simp only [wq1, go_sem, Nat.reduceBEq]
    refine (markText_c (q + 2) (by omega) _).mono ?_
    rintro _ h4 ⟨rfl, x4⟩
    have m4 := m3.mono x4
    simp only [ix_nat hb, go_sem, Nat.reduceBEq, Nat.reduceAdd]
    refine hsem_my_cell (A := A) (R := R) (j := 2) tyS9 rfl m4 hpos (Nat.le_of_ble_eq_true rfl) rfl rfl (by omega) fun h5 m5 => ?_
    simp only [ix_nat hb, wq2, go_sem, Nat.reduceBEq, Nat.reduceAdd]
    refine hsem_my_cell (A := A) (R := R) (j := 3) tyS3 rfl m5 hpos (Nat.le_of_ble_eq_true rfl) rfl rfl (by omega) fun h6 m6 => ?_
    simp only [ix_nat hb, wq3, go_sem, Nat.reduceBEq, Nat.reduceAdd]
    refine hsem_my_cell (A := A) (R := R) (j := 4) tyS3 rfl m6 hpos (Nat.le_of_ble_eq_true rfl) rfl rfl (by omega) fun h7 m7 => ?_
    simp only [wq4, go_sem, Nat.reduceBEq]
    refine (markText_c (q + 5) (by omega) _).mono ?_
    rintro _ h8 ⟨rfl, x8⟩
    have m8 := m7.mono x8
    simp only [ix_nat hb, go_sem, Nat.reduceBEq, Nat.reduceAdd]
    refine hsem_my_cell (A := A) (R := R) (j := 5) tyS9 rfl m8 hpos (Nat.le_of_ble_eq_true rfl) rfl rfl (by omega) fun h9 m9 => ?_
    simp only [ix_nat hb, wq5, go_sem, Nat.reduceBEq, Nat.reduceAdd]
    refine hsem_my_cell (A := A) (R := R) (j := 6) tyS3 rfl m9 hpos (Nat.le_of_ble_eq_true rfl) rfl rfl (by omega) fun h10 m10 => ?_
    simp only [ix_nat hb, wq6, go_sem, Nat.reduceBEq, Nat.reduceAdd]
    obtain ⟨u7, m11⟩ := m10.openAt (A := A) (R := R) (j := 7) rfl
    refine hsem_my_get (A := A) (R := R) (j := 7) tyS28 m11.swap hpos (d := .raw u7) rfl (by omega) fun u' hu' => ?_
    obtain ⟨rfl, _⟩ := Rd_raw.1 hu'
    simp only [go_sem, Nat.reduceBEq]
    refine (ih e hm (q + 7) (by omega) _ _ _ _ m11).mono ?_
    rintro _ h11 ⟨rfl, m12⟩
    have m13 := m12.closeAt (A := A) (R := R) (j := 7) rfl
    generalize hq7 : q + 7 + cntEs (e.2.items) = q7 at *
    simp only [go_sem, Nat.reduceBEq]
    rw [wsu]
    have hend : k + cntEs (l.take (i + 1)) = q7 := by omega
    refine Again.intro (i + 1) (by first | omega | (simp only; omega)) ⟨hb, ?_⟩ (by simp only [hend]; exact (by repeat (first | exact wkF_e | refine wkF_c rfl ?_))) wkB_e rfl
    have m14 := fin _ m13
    rw [← hR] at m14
    exact m14
  · have hb : i = l.length := by simp at hb; omega
    subst hb
    have m1 : My h0 h1 ((.row 8 ((mkEs (l.take l.length) k).flatMap edt ++ (l.drop l.length).flatMap edt), .slice a l.length c) :: bag) := m1
    rw [List.take_length, List.drop_length, List.flatMap_nil, List.append_nil] at m1
    rw [List.take_length]
    exact ⟨rfl, m1⟩
theorem heldEntryS_s (l : List (Ky × V)) (k : Nat) (hk : k + cntEs l ≤ 4611686018427387904) (ih : ∀ e ∈ l, HdEntryS (e.2.items)) (sl : Value) (h : Hp) (rd : Rd h (.row 8 ((mkEs l k).flatMap edt)) sl) :
    ACalls Tryd.prog 61 #[sl, .int .i64 (k : Nat)] h (Is (.int .i64 ((k + cntEs l : Nat))) h) := by
  have hml := mkEs_len l k
  obtain ⟨a, c, xs, rfl, hc, hr, hat⟩ := rd.rows (by decide) l.length (by rw [fm_len edt_len, hml])
  (refine enter Tryd.func61 rfl rfl (by kernel_rfl) [] ?_; simp only [go_sem])
  refine aloop (ι := Nat) (fun i => [(5, .val (.int .i64 (i : Nat))), (1, .val (.int .i64 ((k + cntEs (l.take i) : Nat)))), (0, .val (.slice a l.length c))]) (fun _ => []) (fun i h' => i ≤ l.length ∧ Ext h h') (fun i => l.length - i) 0
    ⟨Nat.zero_le _, Ext.refl _⟩ (by repeat (first | exact wkF_e | refine wkF_c rfl ?_)) wkB_e rfl ?_
  rintro i h1 ⟨hi, x1⟩
  have hi : i ≤ l.length := hi
  have x1 : Ext h h1 := x1
  simp only [go_sem, Nat.reduceBEq]
  refine Br.intro (fun hb => ?_) (fun hb => ?_) <;> (try simp only [hb, go_sem, Nat.reduceBEq])
  · have hb : i < l.length := by simpa using hb
    obtain ⟨b, off, rfl, hat0⟩ := hat (by omega)
    have hat1 := hat0.mono x1
    have hr1 := hr.mono x1
    obtain ⟨e, he, hm⟩ := get_lt hb
    have hsn := cntEs_snoc he
    have hge := mkEs_get he k
    have hle := cntEs_le he
    have hq0 : k + cntEs (l.take i) ≤ 4611686018427387904 := by omega
    have hlm : l.length ≤ 4611686018427387904 := by have := cntEs_pos l; omega
    have wsu := wrap_succ (i := i) (by omega)
    generalize hq : k + cntEs (l.take i) = q at *
    have wq0 : IntKind.i64.wrap (((q : Nat) : Int) + 1) = ((q + 1 : Nat) : Int) := by rw [IntWalk.i64_in _ (by omega)]; rfl
    have wq1 : IntKind.i64.wrap (((q + 1 : Nat) : Int) + 1) = ((q + 2 : Nat) : Int) := by rw [IntWalk.i64_in _ (by omega)]; rfl
    have wq2 : IntKind.i64.wrap (((q + 2 : Nat) : Int) + 1) = ((q + 3 : Nat) : Int) := by rw [IntWalk.i64_in _ (by omega)]; rfl
    have wq3 : IntKind.i64.wrap (((q + 3 : Nat) : Int) + 1) = ((q + 4 : Nat) : Int) := by rw [IntWalk.i64_in _ (by omega)]; rfl
    have wq4 : IntKind.i64.wrap (((q + 4 : Nat) : Int) + 1) = ((q + 5 : Nat) : Int) := by rw [IntWalk.i64_in _ (by omega)]; rfl
    have wq5 : IntKind.i64.wrap (((q + 5 : Nat) : Int) + 1) = ((q + 6 : Nat) : Int) := by rw [IntWalk.i64_in _ (by omega)]; rfl
    have wq6 : IntKind.i64.wrap (((q + 6 : Nat) : Int) + 1) = ((q + 7 : Nat) : Int) := by rw [IntWalk.i64_in _ (by omega)]; rfl
    simp only [ix_nat hb, go_sem, Nat.reduceBEq]
    refine hsem_cell (f := edt) (o := 0) edt_len tyS4 hat1 hr1 hge (by decide) (by rw [edt_eq]; rfl) ?_ fun y0 r0 => ?_
    · omega
    obtain ⟨rfl, _⟩ := Rd_raw.1 r0
    simp only [go_sem, Nat.reduceBEq, Int.reduceEq, not_false_eq_true]
    simp only [mkE, mbit, decide_true, Bool.not_true, go_sem]
    simp only [ix_nat hb, wq0, go_sem, Nat.reduceBEq]
    refine hsem_cell (f := edt) (o := 1) edt_len tyS3 hat1 hr1 hge (by decide) (by rw [edt_eq]; rfl) ?_ fun y1 r1 => ?_
    · omega
    obtain ⟨rfl, _⟩ := Rd_raw.1 r1
    simp only [go_sem, Nat.reduceBEq]
    simp only [mkE, decide_true, Bool.not_true, wq1, go_sem, Nat.reduceBEq]
    refine regionD_still (lb := []) (pl := [39]) h1 (Ext.refl _) (by kernel_rfl) ?_
    simp only [ix_nat hb, go_sem, Nat.reduceBEq, Nat.reduceAdd]
    refine hsem_cell (f := edt) (o := 2) edt_len tyS9 hat1 hr1 hge (by decide) (by rw [edt_eq]; rfl) ?_ fun y2 r2 => ?_
    · omega
    obtain ⟨rfl, _⟩ := Rd_raw.1 r2
    simp only [go_sem, Nat.reduceBEq]
    refine (markText_c (q + 2) (by omega) _).mono ?_
    rintro _ h2 ⟨rfl, x2⟩
    simp only [go_sem, Nat.reduceBEq]
    refine ⟨x2, ?_⟩
    have hat2 := hat1.mono x2
    have hr2 := hr1.mono x2
    have X2 := x1.trans x2
    simp only [mkE, decide_true, Bool.not_true, ix_nat hb, wq2, go_sem, Nat.reduceBEq, Nat.reduceAdd]
    refine hsem_cell (f := edt) (o := 3) edt_len tyS3 hat2 hr2 hge (by decide) (by rw [edt_eq]; rfl) ?_ fun y3 r3 => ?_
    · omega
    obtain ⟨rfl, _⟩ := Rd_raw.1 r3
    simp only [go_sem, Nat.reduceBEq]
    simp only [mkE, decide_true, Bool.not_true, ix_nat hb, wq3, go_sem, Nat.reduceBEq, Nat.reduceAdd]
    refine hsem_cell (f := edt) (o := 4) edt_len tyS3 hat2 hr2 hge (by decide) (by rw [edt_eq]; rfl) ?_ fun y4 r4 => ?_
    · omega
    obtain ⟨rfl, _⟩ := Rd_raw.1 r4
    simp only [go_sem, Nat.reduceBEq]
    simp only [mkE, decide_true, Bool.not_true, wq4, go_sem, Nat.reduceBEq]
    refine regionD_still (lb := []) (pl := [70]) h2 (Ext.refl _) (by kernel_rfl) ?_
    simp only [ix_nat hb, go_sem, Nat.reduceBEq, Nat.reduceAdd]
    refine hsem_cell (f := edt) (o := 5) edt_len tyS9 hat2 hr2 hge (by decide) (by rw [edt_eq]; rfl) ?_ fun y5 r5 => ?_
    · omega
    obtain ⟨rfl, _⟩ := Rd_raw.1 r5
    simp only [go_sem, Nat.reduceBEq]
    refine (markText_c (q + 5) (by omega) _).mono ?_
    rintro _ h3 ⟨rfl, x3⟩
    simp only [go_sem, Nat.reduceBEq]
    refine ⟨x3, ?_⟩
    have hat3 := hat2.mono x3
    have hr3 := hr2.mono x3
    have X3 := X2.trans x3
    simp only [mkE, decide_true, Bool.not_true, ix_nat hb, wq5, go_sem, Nat.reduceBEq, Nat.reduceAdd]
    refine hsem_cell (f := edt) (o := 6) edt_len tyS3 hat3 hr3 hge (by decide) (by rw [edt_eq]; rfl) ?_ fun y6 r6 => ?_
    · omega
    obtain ⟨rfl, _⟩ := Rd_raw.1 r6
    simp only [go_sem, Nat.reduceBEq]
    simp only [mkE, decide_true, Bool.not_true, ix_nat hb, wq6, go_sem, Nat.reduceBEq, Nat.reduceAdd]
    refine hsem_cell (f := edt) (o := 7) edt_len tyS28 hat3 hr3 hge (by decide) (by rw [edt_eq]; rfl) ?_ fun y7 r7 => ?_
    · omega
    simp only [go_sem, Nat.reduceBEq]
    refine (ih e hm (q + 7) (by omega) _ _ r7).mono ?_
    rintro _ h4 ⟨rfl, x4⟩
    have hat4 := hat3.mono x4
    have hr4 := hr3.mono x4
    have X4 := X3.trans x4
    generalize hq7 : q + 7 + cntEs (e.2.items) = q7 at *
    have hneg7 : decide (((q7 : Nat) : Int) < 0) = false := decide_eq_false (by omega)
    simp only [hneg7, go_sem, Nat.reduceBEq]
    rw [wsu]
    have hend : k + cntEs (l.take (i + 1)) = q7 := by omega
    exact Again.intro (i + 1) (by first | omega | (simp only; omega)) ⟨hb, X4⟩ (by simp only [hend]; exact (by repeat (first | exact wkF_e | refine wkF_c rfl ?_))) wkB_e rfl
  · have hb : i = l.length := by simp at hb; omega
    subst hb
    rw [List.take_length]
    exact ⟨rfl, x1⟩
theorem markV_c : ∀ v : V, MkEntryS v.items := V.ind fun v ih k hk sl bag h0 h m => markEntryS_s v.items k hk ih sl bag h0 h m
theorem heldV_c : ∀ v : V, HdEntryS v.items := V.ind fun v ih k hk sl h rd => heldEntryS_s v.items k hk ih sl h rd
theorem markEntryS_c (l : List (Ky × V)) (k : Nat) (hk : k + cntEs l ≤ 4611686018427387904) (sl : Value) (bag : Bag) (h0 h : Hp) (m : My h0 h ((.row 8 (l.flatMap edt), sl) :: bag)) :
    ACalls Tryd.prog 60 #[sl, .int .i64 (k : Nat)] h fun v h' => v = .int .i64 ((k + cntEs l : Nat)) ∧ My h0 h' ((.row 8 ((mkEs l k).flatMap edt), sl) :: bag) := markEntryS_s l k hk (fun e _ => markV_c e.2) sl bag h0 h m
theorem heldEntryS_c (l : List (Ky × V)) (k : Nat) (hk : k + cntEs l ≤ 4611686018427387904) (sl : Value) (h : Hp) (rd : Rd h (.row 8 ((mkEs l k).flatMap edt)) sl) :
    ACalls Tryd.prog 61 #[sl, .int .i64 (k : Nat)] h (Is (.int .i64 ((k + cntEs l : Nat))) h) := heldEntryS_s l k hk (fun e _ => heldV_c e.2) sl h rd
theorem markValue_c (v : V) (k : Nat) (hk : k + cntEs v.items ≤ 4611686018427387904) (sl : Value) (bag : Bag) (h0 h : Hp) (m : My h0 h ((.row 8 (v.items.flatMap edt), sl) :: bag)) :
    ACalls Tryd.prog 30 #[.agg #[.int .i64 v.kind, .int .i64 v.num, .string v.str, .int .i64 v.next, sl], .int .i64 (k : Nat)] h fun u h' => u = .int .i64 ((k + cntEs v.items : Nat)) ∧ My h0 h' ((.row 8 ((mkEs v.items k).flatMap edt), sl) :: bag) := by
  (refine enter Tryd.func30 rfl rfl (by kernel_rfl) [] ?_; simp only [go_sem, Nat.reduceBEq])
  refine (markEntryS_c v.items k hk _ _ _ _ m).mono ?_
  rintro _ h1 ⟨rfl, m1⟩
  simp only [go_sem, Nat.reduceBEq]
  first | exact m1 | exact ⟨rfl, m1⟩
theorem heldValue_c (v : V) (a b x : Int) (s : ByteArray) (k : Nat) (hk : k + cntEs v.items ≤ 4611686018427387904) (sl : Value) (h : Hp) (rd : Rd h (.row 8 ((mkEs v.items k).flatMap edt)) sl) :
    ACalls Tryd.prog 31 #[.agg #[.int .i64 a, .int .i64 b, .string s, .int .i64 x, sl], .int .i64 (k : Nat)] h (Is (.int .i64 ((k + cntEs v.items : Nat))) h) := by
  (refine enter Tryd.func31 rfl rfl (by kernel_rfl) [] ?_; simp only [go_sem, Nat.reduceBEq])
  refine (heldEntryS_c v.items k hk _ _ rd).mono ?_
  rintro _ h1 ⟨rfl, x1⟩
  have hneg : decide (((k + cntEs v.items : Nat) : Int) < 0) = false := decide_eq_false (by omega)
  simp only [hneg, go_sem, Nat.reduceBEq]
  exact ⟨rfl, x1⟩
end Go.Proofs.YtjbcokpkbfnpiaaDoor
namespace Go.Proofs.YtjbcokpkbfnpiaaDoor
set_option maxRecDepth 8000
open Go Go.Sx Go.ChangeShapes Go.WideShapes Go.ChangeAt Go.RowKit Go.ChangeMaps
theorem own : ownKnob Tryd.prog.godebug = none := by kernel_rfl
theorem laidOut : laidOutB Tryd.prog = true := by kernel_rfl
theorem FnExactUnion_law (v : V) (ok0 : v.ok) (s0 : Value) (u : V) (ok1 : u.ok) (s1 : Value) (h : Hp) (r0 : RdE h v.items s0) (r1 : RdE h u.items s1) (hE : Env h) : ACalls Tryd.prog 8 #[.agg #[.int .i64 v.kind, .int .i64 v.num, .string v.str, .int .i64 v.next, s0], .agg #[.int .i64 u.kind, .int .i64 u.num, .string u.str, .int .i64 u.next, s1]] h (Is (.bool true) h) := by
  obtain ⟨sa0, sc0, _, rfl, _⟩ := r0.rows (by decide) v.items.length (fm_len edt_len _)
  obtain ⟨sa1, sc1, _, rfl, _⟩ := r1.rows (by decide) u.items.length (fm_len edt_len _)
  (refine enter Tryd.func8 rfl rfl (by kernel_rfl) [] ?_; simp only [go_sem, Nat.reduceBEq, Nat.reduceAdd, Nat.reduceLeDiff])
  (refine (szValue_c v ok0 _ _ _ r0 (by decide) (by decide)).mono ?_; rintro _ _ ⟨rfl, rfl⟩; simp only [go_sem, Nat.reduceBEq])
  refine Br.intro (fun hb => ?_) (fun hb => ?_) <;> (try simp only [hb, go_sem, Nat.reduceBEq, Nat.reduceAdd, Nat.reduceLeDiff])
  · exact ⟨rfl, Ext.refl _⟩
  have f : 0 ≤ less 1048576 (v.bulk) := by simpa using hb
  (refine (szValue_c u ok1 _ _ _ r1 f (less_le (by decide))).mono ?_; rintro _ _ ⟨rfl, rfl⟩; simp only [go_sem, Nat.reduceBEq])
  rw [less_add f]
  refine Br.intro (fun hb => ?_) (fun hb => ?_) <;> (try simp only [hb, go_sem, Nat.reduceBEq])
  · exact ⟨rfl, Ext.refl _⟩
  have f : 0 ≤ less 1048576 ((v.bulk) + u.bulk) := by simpa using hb
  have f : ((v.bulk) + u.bulk) ≤ 1048576 := by unfold less at f; split at f <;> omega
  have hb0 : v.bulk ≤ 1048576 := by omega
  have hB0 := V.bulk_eq v
  have hC0 := cntEs_bulk v.items
  have hb1 : u.bulk ≤ 1048576 := by omega
  have hB1 := V.bulk_eq u
  have hC1 := cntEs_bulk u.items
  have hW := union_bulk v u
  have hR0 := cntEs_bulk (unionOf v u).1.items
  refine regionD_intro (lb := [28, 30]) (by kernel_rfl) ?_
  simp only [go_sem, Nat.reduceBEq, Nat.reduceAdd, Nat.reduceLeDiff]
  refine (toV_c v hb0 _ _ r0).mono ?_
  rintro _ h1 ⟨a1, c1, rfl, m1⟩
  have M1 := m1
  simp only [go_sem, Nat.reduceBEq, Nat.reduceAdd, Nat.reduceLeDiff]
  refine (toV_c u hb1 _ _ (r1.mono M1.ext)).mono ?_
  rintro _ h2 ⟨a2, c2, rfl, m2⟩
  have M2 := M1.add m2
  simp only [go_sem, Nat.reduceBEq]
  refine (sUnion v u (by omega) (by omega) _ _ _ (M2.drop).rd M2.rd).mono ?_
  rintro _ h3 ⟨a3_0, c3_0,  rfl, m3⟩
  have M3 := M2.add m3
  simp only [go_sem, Nat.reduceBEq, Nat.reduceAdd, Nat.reduceLeDiff]
  have M4 := M3.third
  have M5 := M4.drop
  have M6 := M5.swap
  have M7 := M6.drop
  refine (toV_c v hb0 _ _ (r0.mono M7.ext)).mono ?_
  rintro _ h8 ⟨a8, c8, rfl, m8⟩
  have M8 := M7.add m8
  simp only [go_sem, Nat.reduceBEq, Nat.reduceAdd, Nat.reduceLeDiff]
  refine (toV_c u hb1 _ _ (r1.mono M8.ext)).mono ?_
  rintro _ h9 ⟨a9, c9, rfl, m9⟩
  have M9 := M8.add m9
  simp only [go_sem, Nat.reduceBEq, Nat.reduceAdd, Nat.reduceLeDiff]
  refine (iUnion v u (by omega) (by omega) _ _ _ (M9.drop).rd M9.rd (hE.ext M9.ext)).mono ?_
  rintro _ h10 ⟨a10_0, c10_0,  rfl, m10⟩
  have M10 := M9.add m10
  simp only [go_sem, Nat.reduceBEq, Nat.reduceAdd, Nat.reduceLeDiff]
  (refine (eqValue_c (unionOf v u).1 (by omega) _ _ _ M10.rd (M10.drop.drop.drop).rd).mono ?_; rintro _ _ ⟨rfl, rfl⟩; simp only [go_sem, Nat.reduceBEq])
  refine regionD_intro (lb := [54, 55]) (by kernel_rfl) ?_
  simp only [go_sem, Nat.reduceBEq, Nat.reduceAdd, Nat.reduceLeDiff]
  refine (toV_c v hb0 _ _ (r0.mono M10.ext)).mono ?_
  rintro _ h11 ⟨a11, c11, rfl, m11⟩
  have M11 := M10.add m11
  simp only [go_sem, Nat.reduceBEq]
  (refine (eqValue_c v (by omega) _ _ _ (M11.drop.drop.drop).rd M11.rd).mono ?_; rintro _ _ ⟨rfl, rfl⟩; simp only [go_sem, Nat.reduceBEq])
  have M12 := M11.drop
  refine regionD_intro (lb := [59, 60]) (by kernel_rfl) ?_
  simp only [go_sem, Nat.reduceBEq, Nat.reduceAdd, Nat.reduceLeDiff]
  refine (toV_c u hb1 _ _ (r1.mono M12.ext)).mono ?_
  rintro _ h13 ⟨a13, c13, rfl, m13⟩
  have M13 := M12.add m13
  simp only [go_sem, Nat.reduceBEq]
  (refine (eqValue_c u (by omega) _ _ _ (M13.drop.drop).rd M13.rd).mono ?_; rintro _ _ ⟨rfl, rfl⟩; simp only [go_sem, Nat.reduceBEq, Nat.reduceAdd, Nat.reduceLeDiff])
  have M14 := M13.drop
  have M15 := M14.third
  refine (markValue_c v 1 (by omega) _ _ _ _ M15).mono ?_
  rintro _ h16 ⟨rfl, M16⟩
  simp only [go_sem, Nat.reduceBEq, Nat.reduceAdd, Nat.reduceLeDiff]
  have M17 := M16.third
  refine (markValue_c u (1 + cntEs v.items) (by omega) _ _ _ _ M17).mono ?_
  rintro _ h18 ⟨rfl, M18⟩
  simp only [nat_neg, go_sem, Nat.reduceBEq, Nat.reduceAdd, Nat.reduceLeDiff]
  (refine (eqValue_c (unionOf v u).1 (by omega) _ _ _ (M18.drop.drop).rd (M18.drop.drop.drop).rd).mono ?_; rintro _ _ ⟨rfl, rfl⟩; simp only [go_sem, Nat.reduceBEq, Nat.reduceAdd, Nat.reduceLeDiff])
  have M19 := M18.third
  refine (markValue_c (unionOf v u).1 1 (by omega) _ _ _ _ M19).mono ?_
  rintro _ h20 ⟨rfl, M20⟩
  simp only [go_sem, Nat.reduceBEq, Nat.reduceAdd, Nat.reduceLeDiff]
  refine (heldValue_c (unionOf v u).1 _ _ _ _ 1 (by omega) _ _ M20.rd).mono ?_
  rintro _ h21 ⟨rfl, e21⟩
  have M22 := M20.mono e21
  simp only [go_sem, Nat.reduceBEq]
  rw [nat_neg]
  simp only [go_sem, Nat.reduceBEq]
  refine regionD_intro (lb := [95, 97]) (by kernel_rfl) ?_
  simp only [go_sem, Nat.reduceBEq, Nat.reduceAdd, Nat.reduceLeDiff]
  refine (toV_c v hb0 _ _ (r0.mono M22.ext)).mono ?_
  rintro _ h23 ⟨a23, c23, rfl, m23⟩
  have M23 := M22.add m23
  simp only [go_sem, Nat.reduceBEq, Nat.reduceAdd, Nat.reduceLeDiff]
  refine (toV_c u hb1 _ _ (r1.mono M23.ext)).mono ?_
  rintro _ h24 ⟨a24, c24, rfl, m24⟩
  have M24 := M23.add m24
  simp only [go_sem, Nat.reduceBEq]
  refine (iUnion v u (by omega) (by omega) _ _ _ (M24.drop).rd M24.rd (hE.ext M24.ext)).mono ?_
  rintro _ h25 ⟨a25_0, c25_0,  rfl, m25⟩
  have M25 := M24.add m25
  simp only [go_sem, Nat.reduceBEq, Nat.reduceAdd, Nat.reduceLeDiff]
  have M26 := M25.third
  have M27 := M26.drop
  have M28 := M27.swap
  have M29 := M28.drop
  (refine (eqValue_c (unionOf v u).1 (by omega) _ _ _ M29.rd (M29.drop.drop.drop.drop).rd).mono ?_; rintro _ _ ⟨rfl, rfl⟩; simp only [go_sem, Nat.reduceBEq, Nat.reduceAdd, Nat.reduceLeDiff])
  refine (heldValue_c (unionOf v u).1 _ _ _ _ 1 (by omega) _ _ (M29.drop).rd).mono ?_
  rintro _ h30 ⟨rfl, e30⟩
  have M31 := M29.mono e30
  simp only [go_sem, Nat.reduceBEq]
  rw [nat_neg]
  simp only [go_sem, Nat.reduceBEq]
  exact ⟨rfl, M31.ext⟩
theorem FnExactUnion_met (os : Os) (args : Array Value) : laidMetH Tryd.prog Rows.fnExactUnionRow.laid ((World.doorLaid Tryd.prog 400 os).forCall (fun _ _ => 0) ⟨#[], args, []⟩).memory :=
  laidMetH_of_parts3 (fuel := 8) (laidMet_of_run' 8 (by kernel_rfl) (by kernel_rfl)) (by kernel_rfl) (by kernel_rfl)
set_option maxRecDepth 100000 in
theorem FnExactUnion_lifted (os : Os) (started : os.Started) (H : Type) (enc : TypeId × Value → H) :
    ReturnsInHanded {} Tryd.checked os 8 .any (fun w args => (Rows.fnExactUnionSpec.pre enc Tryd.prog Tryd.f8 Rows.fnExactUnionRow.domain false w args ∧ laidMetH Tryd.prog Rows.fnExactUnionRow.laid w) ∧ sizedMet enc Tryd.prog Tryd.f8 (OpenSpec.ofChange Rows.fnExactUnionSpec) false w args) (Rows.fnExactUnionSpec.post enc Tryd.prog Tryd.f8 false true false false) := by
  refine returnsInHanded_of_change_and (C := Tryd.checked) (X := fun w _ => laidMetH Tryd.prog Rows.fnExactUnionRow.laid w) (fun _ _ _ hh h => h.of_heap hh) own started (by kernel_rfl) Tryd.func8
    (ChangeSpec.witness_shaped (enc := enc) (C := Tryd.checked) (os := os) (X := fun w _ => laidMetH Tryd.prog Rows.fnExactUnionRow.laid w) false (World.doorLaid Tryd.prog 400 os) #[.agg #[.int .i64 0, .int .i64 0, .string ⟨#[]⟩, .int .i64 0, .slice none 0 0], .agg #[.int .i64 0, .int .i64 0, .string ⟨#[]⟩, .int .i64 0, .slice none 0 0]] 8 rfl (World.shaped_of_RefB (by kernel_rfl) (by kernel_rfl)) (by kernel_rfl) (by kernel_rfl) (by kernel_rfl) (FnExactUnion_met os _)) ?_
  intro W base args ds gs before hval0 hW _ _ hL _
  have hT : Pow (vis W) := pow_of (by kernel_rfl) (by rw [MakeChecks.laidMetH_plain _ _ _ (by kernel_rfl)] at hL; exact hL)
  have hE : Env (vis W) := env_of hT (by kernel_rfl) (by kernel_rfl) (by rw [MakeChecks.laidMetH_plain _ _ _ (by kernel_rfl)] at hL; exact hL)
  have hval : ∀ (j : Nat) t v, Tryd.f8.params[j]? = some t → args[j]? = some v → Value.okWide Tryd.prog W .any base t v := hval0
  have hW' := hW
  obtain ⟨p, q, hA0, hV, rfl, _, _⟩ := hW
  have hA : DataW.TrodAll enc Tryd.prog W 0 (fun _ => true) true Tryd.f8.params.toList args.toList ds p := hA0
  rw [Tryd.params8] at hA hval
  obtain ⟨v0, vs0, d0, ds0, p0, q0, hargs, rfl, rfl, h0, r0⟩ := trodAll_cons hA
  obtain ⟨v1, vs1, d1, ds1, p1, q1, rfl, rfl, rfl, h1, r1⟩ := trodAll_cons r0
  obtain ⟨rfl, rfl, rfl⟩ := trodAll_nil r1
  obtain rfl : args = #[v0, v1] := by cases args; simp_all
  obtain ⟨rfl, rfl⟩ := trodVars_none hV
  obtain ⟨a0, s0, rfl, w0, e0⟩ := openV (hval 0 24 v0 rfl rfl) h0
  obtain ⟨a1, s1, rfl, w1, e1⟩ := openV (hval 1 24 v1 rfl rfl) h1
  clear hA0 hval0
  simp only [List.append_nil] at hW'
  exact (to_below (FnExactUnion_law a0 w0 s0 a1 w1 s1 _ e0 e1 hE)).mono fun e W' ⟨he, hb⟩ => ⟨_, he, law_post laidOut (by kernel_rfl) rfl Tryd.underlying4 rfl hW' rfl rfl rfl hb⟩
theorem FnExactUnion_proved : Rows.FnExactUnionSaid :=
  OpenClaim.holds_of_wide 8 Tryd.f8 rfl rfl rfl rfl rfl rfl rfl ⟨rfl, rfl, rfl, rfl, rfl⟩ rfl rfl rfl rfl rfl (by kernel_rfl) Tryd.func8 (by kernel_rfl)
    (of_decide_eq_true (by kernel_rfl)) (by unfold Func.isWrapper; first | (rw [if_pos (by decide +kernel)]; kernel_rfl) | (rw [if_neg (by decide +kernel)]; exact ⟨rfl, rfl⟩))
    (fun os started H enc _ => FnExactUnion_lifted os started H enc)
theorem FnExactUnion_card : Rows.FnExactUnionCardSaid :=
  Claim7.holds_tied_plain_at .later [] Rows.fnExactUnionCard.laidKinds true Rows.fnExactUnionCard.stood.harness Rows.fnExactUnionCard.stood.looks
    FnExactUnion_proved (fun _ h => by cases h) (by kernel_rfl) (fun _ h => by cases h) fnExactUnion_row_tie rfl ⟨rfl, rfl⟩ (by kernel_rfl) rfl
    (fun f fn hf hfn => by
      obtain rfl : f = 8 := Option.some.inj ((show Tryd.prog.funcNamed Rows.fnExactUnionRow.func = some 8 by kernel_rfl).symm.trans hf) |>.symm
      obtain rfl : fn = Tryd.f8 := (Option.some.inj (Tryd.func8.symm.trans hfn)).symm
      exact ⟨by kernel_rfl, fun j t ht => by
        rw [Tryd.params8] at ht
        have hm : t ∈ [24, 24] := by simpa using Array.mem_of_getElem? ht
        have hall : ([24, 24].all fun u => !Tryd.prog.wantsStandIn u) = true := by kernel_rfl
        exact (show Tryd.prog.wantsStandIn t = false by simpa using List.all_eq_true.1 hall t hm)⟩)
    (by kernel_rfl)
end Go.Proofs.YtjbcokpkbfnpiaaDoor
