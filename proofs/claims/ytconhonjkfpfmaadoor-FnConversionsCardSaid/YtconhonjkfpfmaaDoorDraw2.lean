/-
  What the draws of values return.
-/
import Derived.Test.YtconhonjkfpfmaaDoorDraw
import Derived.Test.YtconhonjkfpfmaaDoorVar
import Derived.Test.YtconhonjkfpfmaaDoorSxCurV
import Derived.Test.YtconhonjkfpfmaaDoorSxStill
namespace Go.Proofs.YtconhonjkfpfmaaDoor
set_option maxRecDepth 8000
open Go Go.Sx
section
variable {h0 h : Hp} {bag : Bag} {l : List UInt8} {p : Nat}
/-- how much a value drawn to some depth holds -/
def bD : Nat → Nat
  | 0 => 16
  | d + 1 => 4 * (5 + bD d)
theorem bD_pos : ∀ d, 16 ≤ bD d
  | 0 => Nat.le_refl _
  | d + 1 => by
    have := bD_pos d
    unfold bD
    omega
theorem max_ok {a b : Int} (ha : IntKind.i64.min ≤ a ∧ a ≤ IntKind.i64.max) (hb : IntKind.i64.min ≤ b ∧ b ≤ IntKind.i64.max) : IntKind.i64.min ≤ max a b ∧ max a b ≤ IntKind.i64.max := by omega
theorem ValP.up {B C : Nat} (hBC : B ≤ C) {u : Value} {h' : Hp} (k : ValP B h0 l p bag u h') : ValP C h0 l p bag u h' := by
  obtain ⟨v, a, c, e, h1, h2, h3⟩ := k
  exact ⟨v, a, c, e, h1, Nat.le_trans h2 hBC, h3⟩
/-- what is known of the array so far -/
def InD (d : Nat) (h0 : Hp) (l : List UInt8) (p : Nat) (bag : Bag) (x : Nat × List (Ky × V) × Int × Value) (h' : Hp) : Prop :=
  x.2.1.length + x.1 ≤ 4 ∧ V.oks x.2.1 ∧ V.bulks x.2.1 ≤ x.2.1.length * (5 + bD d) ∧ (IntKind.i64.min ≤ x.2.2.1 ∧ x.2.2.1 ≤ IntKind.i64.max) ∧ ∃ a c, x.2.2.2 = .slice a x.2.1.length c ∧ CurM h0 h' l p ((.row 8 (x.2.1.flatMap edt), .slice a x.2.1.length c) :: bag)
theorem l5Draw_c (hl : l.length ≤ 1048576) : ∀ (d : Nat), d ≤ 1000 → ∀ {h0 h : Hp} {bag : Bag}, CurM h0 h l p bag → ACalls Tryd.prog 81 #[pv p, .int .i64 (d : Nat)] h (ValP (bD d) h0 l p bag)
  | 0, _, h0, h, bag, m => by
    (refine enter Tryd.func81 rfl rfl (by kernel_rfl) [] ?_; simp only [go_sem, Nat.reduceBEq])
    simp only [show decide (((0 : Nat) : Int) ≤ 0) = true from rfl, go_sem, Nat.reduceBEq]
    refine (l5Scalar_c hl m).mono ?_
    rintro _ h1 ⟨v, a, c, rfl, hv, hb, m1⟩
    simp only [go_sem, Nat.reduceBEq, Nat.reduceAdd, Nat.reduceLeDiff]
    exact ⟨v, a, c, rfl, hv, hb, m1⟩
  | d + 1, hd, h0, h, bag, m => by
    have ih := fun hd {h0 h : Hp} {bag : Bag} m => l5Draw_c hl d hd (h0 := h0) (h := h) (bag := bag) m
    have hp := bD_pos d
    have wd : IntKind.i64.wrap (((d + 1 : Nat) : Int) - 1) = ((d : Nat) : Int) := by rw [IntWalk.i64_in _ (by omega)]; omega
    (refine enter Tryd.func81 rfl rfl (by kernel_rfl) [] ?_; simp only [go_sem, Nat.reduceBEq])
    simp only [show decide (((d + 1 : Nat) : Int) ≤ 0) = false from decide_eq_false (by omega), go_sem, Nat.reduceBEq]
    refine (l1Once_c hl m 3 (by decide) (by decide)).mono ?_
    rintro _ h1 ⟨b, rfl, m1⟩
    simp only [go_sem, Nat.reduceBEq]
    cases b with
    | false =>
      simp only [go_sem, Nat.reduceBEq]
      refine (l5Scalar_c hl m1).mono ?_
      rintro _ h2 ⟨v, a, c, rfl, hv, hb, m2⟩
      simp only [go_sem, Nat.reduceBEq, Nat.reduceAdd, Nat.reduceLeDiff]
      exact ⟨v, a, c, rfl, hv, by unfold bD; omega, m2⟩
    | true =>
    simp only [go_sem]
    (refine (dArrV _).mono ?_; rintro _ _ ⟨rfl, rfl⟩; simp only [go_sem, Nat.reduceBEq, Nat.reduceAdd, Nat.reduceLeDiff])
    try simp only [go_sem, Nat.reduceBEq, Nat.reduceAdd, Nat.reduceLeDiff, Nat.reduceEqDiff, Int.reduceEq, not_false_eq_true, Int.reduceToNat]
    refine (l1Below_c hl m1 5 (by decide) (by decide)).mono ?_
    rintro _ h2 ⟨x, rfl, x0, x1, m2⟩
    obtain ⟨k0, rfl⟩ := Int.eq_ofNat_of_zero_le x0
    simp only [go_sem, Nat.reduceBEq]
    refine aloop (ι := Nat × List (Ky × V) × Int × Value) (fun x => [(6, .val (.int .i64 (x.1 : Nat))), (5, .box 5 0), (4, .box 4 0), (1, .val (.int .i64 ((d + 1 : Nat) : Int))), (0, .val (pv p))])
      (fun x => [(5, [.int .i64 4, .int .i64 0, .string ⟨#[]⟩, .int .i64 x.2.2.1, x.2.2.2]), (4, [.int .i64 0, .int .i64 0, .string ⟨#[]⟩, .int .i64 0, .slice none 0 0])])
      (InD d h0 l p bag) (fun x => x.1) (k0, [], 0, .slice none 0 0) ⟨by show 0 + k0 ≤ 4; omega, by simp only [V.oks], Nat.zero_le _, (show IntKind.i64.min ≤ 0 ∧ 0 ≤ IntKind.i64.max by decide), none, 0, rfl, m2.upd fun d m => (m.nilrow).swap⟩ (by repeat (first | exact wkF_e | refine wkF_c rfl ?_)) (wkB_c rfl (wkB_c rfl wkB_e)) rfl ?_
    rintro ⟨kk, es, nx, sl⟩ h3 ⟨hk, ho, hb, hx, a, c, hsl, m3⟩
    have hsl : sl = .slice a es.length c := hsl
    subst hsl
    have hk : es.length + kk ≤ 4 := hk
    have ho : V.oks es := ho
    have hb : V.bulks es ≤ es.length * (5 + bD d) := hb
    have hx : IntKind.i64.min ≤ nx ∧ nx ≤ IntKind.i64.max := hx
    have m3 : CurM h0 h3 l p ((.row 8 (es.flatMap edt), .slice a es.length c) :: bag) := m3
    simp only [go_sem, Nat.reduceBEq]
    cases kk with
    | zero =>
      simp only [show decide (0 < ((0 : Nat) : Int)) = false from rfl, go_sem, Nat.reduceBEq, Nat.reduceAdd, Nat.reduceLeDiff]
      refine ⟨V.mk 4 0 ⟨#[]⟩ nx es, a, c, rfl, V.ok_mk (by decide) (by decide) (by decide) hx (by omega) ho, ?_, m3⟩
      rw [V.bulk_eq]
      show 0 + V.bulks es ≤ bD (d + 1)
      have h4 : es.length * (5 + bD d) ≤ 4 * (5 + bD d) := Nat.mul_le_mul_right _ (by omega)
      unfold bD
      omega
    | succ k =>
    have wk : IntKind.i64.wrap (((k + 1 : Nat) : Int) - 1) = ((k : Nat) : Int) := by rw [IntWalk.i64_in _ (by omega)]; omega
    simp only [show decide (0 < ((k + 1 : Nat) : Int)) = true from decide_eq_true (by omega), go_sem, Nat.reduceBEq]
    refine (l5Key_c hl m3).mono ?_
    rintro _ h4 ⟨key, rfl, hkey, hks, m4⟩
    try simp only [go_sem, Nat.reduceBEq, Nat.reduceAdd, Nat.reduceLeDiff]
    refine (l1Once_c hl m4 2 (by decide) (by decide)).mono ?_
    rintro _ h5 ⟨b, rfl, m5⟩
    try simp only [go_sem, Nat.reduceBEq]
    cases b with
    | false =>
      try simp only [go_sem, Nat.reduceBEq, Nat.reduceAdd, Nat.reduceLeDiff]
      try simp only [go_sem, Nat.reduceBEq, Nat.reduceAdd, Nat.reduceLeDiff, Nat.reduceEqDiff, Int.reduceEq, not_false_eq_true, Int.reduceToNat]
      refine (sFind (V.mk 4 0 ⟨#[]⟩ nx es) key (by show es.length ≤ _; omega) _ _ m5.my.rd).mono ?_
      rintro _ _ ⟨rfl, rfl⟩
      simp only [ixI_neg, go_sem, Nat.reduceBEq]
      cases hf : (V.mk 4 0 ⟨#[]⟩ nx es).find key with
      | some j =>
        simp only [Option.isNone_some, go_sem, Nat.reduceBEq]
        try simp only [go_sem, Nat.reduceBEq, Nat.reduceAdd, Nat.reduceLeDiff, Nat.reduceEqDiff, Int.reduceEq, not_false_eq_true, Int.reduceToNat]
        simp only [wk, go_sem]
        exact Again.intro (k, es, nx, .slice a es.length c) (by first | omega | (simp only; omega)) ⟨(show es.length + k ≤ 4 by omega), ho, hb, hx, a, c, rfl, m5⟩ (by repeat (first | exact wkF_e | refine wkF_c rfl ?_)) (wkB_c rfl (wkB_c rfl wkB_e)) rfl
      | none =>
      simp only [Option.isNone_none, go_sem]
      refine regionD_intro (lb := [41, 42]) (by kernel_rfl) ?_
      simp only [wd, go_sem, Nat.reduceBEq, Nat.reduceAdd, Nat.reduceLeDiff]
      refine (ih (by omega) m5).mono ?_
      rintro _ h9 ⟨w, aw, cw, rfl, hw, hwb, m9⟩
      try simp only [go_sem, Nat.reduceBEq, Nat.reduceAdd, Nat.reduceLeDiff]
      refine cur_ent (k := key) slT24 rfl m9 fun v10 h10 m10 => ?_
      try simp only [go_sem, Nat.reduceBEq]
      refine cur_push slT24 rfl rfl (by decide) m10 (by omega) fun a11 c11 h11 m11 => ?_
      try simp only [go_sem, Nat.reduceBEq, Nat.reduceAdd, Nat.reduceLeDiff]
      have hl11 : (es ++ [(key, w)]).length = es.length + 1 := by rw [List.length_append]; rfl
      have hb11 : V.bulks (es ++ [(key, w)]) ≤ (es ++ [(key, w)]).length * (5 + bD d) := by
        have hsz := hks
        rw [bulks_snoc, hl11, Nat.add_mul]
        omega
      have ho11 : V.oks (es ++ [(key, w)]) := oks_snoc ho hkey hw
      cases ht : key.text with
      | true =>
        try simp only [go_sem, Nat.reduceBEq]
        simp only [wk, go_sem]
        exact Again.intro (k, es ++ [(key, w)], nx, .slice a11 (es ++ [(key, w)]).length c11) (by first | omega | (simp only; omega)) ⟨(show (es ++ [(key, w)]).length + k ≤ 4 by omega), ho11, hb11, hx, a11, c11, rfl, m11⟩ (by repeat (first | exact wkF_e | refine wkF_c rfl ?_)) (wkB_c rfl (wkB_c rfl wkB_e)) rfl
      | false =>
      try simp only [go_sem, Nat.reduceBEq]
      (refine (sMax nx (IntKind.i64.wrap (key.num + 1)) _).mono ?_; rintro _ _ ⟨rfl, rfl⟩; simp only [go_sem, Nat.reduceBEq, Nat.reduceAdd, Nat.reduceLeDiff])
      try simp only [go_sem, Nat.reduceBEq, Nat.reduceAdd, Nat.reduceLeDiff, Nat.reduceEqDiff, Int.reduceEq, not_false_eq_true, Int.reduceToNat]
      simp only [wk, go_sem]
      exact Again.intro (k, es ++ [(key, w)], max nx (IntKind.i64.wrap (key.num + 1)), .slice a11 (es ++ [(key, w)]).length c11) (by first | omega | (simp only; omega)) ⟨(show (es ++ [(key, w)]).length + k ≤ 4 by omega), ho11, hb11, max_ok hx (wrap_ok _), a11, c11, rfl, m11⟩ (by repeat (first | exact wkF_e | refine wkF_c rfl ?_)) (wkB_c rfl (wkB_c rfl wkB_e)) rfl
    | true =>
    try simp only [go_sem, Nat.reduceBEq]
    by_cases hn : nx ≤ 1000000000
    case neg =>
      simp only [decide_eq_false hn, go_sem, Nat.reduceBEq, Nat.reduceAdd, Nat.reduceLeDiff]
      try simp only [go_sem, Nat.reduceBEq, Nat.reduceAdd, Nat.reduceLeDiff, Nat.reduceEqDiff, Int.reduceEq, not_false_eq_true, Int.reduceToNat]
      refine (sFind (V.mk 4 0 ⟨#[]⟩ nx es) key (by show es.length ≤ _; omega) _ _ m5.my.rd).mono ?_
      rintro _ _ ⟨rfl, rfl⟩
      simp only [ixI_neg, go_sem, Nat.reduceBEq]
      cases hf : (V.mk 4 0 ⟨#[]⟩ nx es).find key with
      | some j =>
        simp only [Option.isNone_some, go_sem, Nat.reduceBEq]
        try simp only [go_sem, Nat.reduceBEq, Nat.reduceAdd, Nat.reduceLeDiff, Nat.reduceEqDiff, Int.reduceEq, not_false_eq_true, Int.reduceToNat]
        simp only [wk, go_sem]
        exact Again.intro (k, es, nx, .slice a es.length c) (by first | omega | (simp only; omega)) ⟨(show es.length + k ≤ 4 by omega), ho, hb, hx, a, c, rfl, m5⟩ (by repeat (first | exact wkF_e | refine wkF_c rfl ?_)) (wkB_c rfl (wkB_c rfl wkB_e)) rfl
      | none =>
      simp only [Option.isNone_none, go_sem]
      refine regionD_intro (lb := [41, 42]) (by kernel_rfl) ?_
      simp only [wd, go_sem, Nat.reduceBEq, Nat.reduceAdd, Nat.reduceLeDiff]
      refine (ih (by omega) m5).mono ?_
      rintro _ h9 ⟨w, aw, cw, rfl, hw, hwb, m9⟩
      try simp only [go_sem, Nat.reduceBEq, Nat.reduceAdd, Nat.reduceLeDiff]
      refine cur_ent (k := key) slT24 rfl m9 fun v10 h10 m10 => ?_
      try simp only [go_sem, Nat.reduceBEq]
      refine cur_push slT24 rfl rfl (by decide) m10 (by omega) fun a11 c11 h11 m11 => ?_
      try simp only [go_sem, Nat.reduceBEq, Nat.reduceAdd, Nat.reduceLeDiff]
      have hl11 : (es ++ [(key, w)]).length = es.length + 1 := by rw [List.length_append]; rfl
      have hb11 : V.bulks (es ++ [(key, w)]) ≤ (es ++ [(key, w)]).length * (5 + bD d) := by
        have hsz := hks
        rw [bulks_snoc, hl11, Nat.add_mul]
        omega
      have ho11 : V.oks (es ++ [(key, w)]) := oks_snoc ho hkey hw
      cases ht : key.text with
      | true =>
        try simp only [go_sem, Nat.reduceBEq]
        simp only [wk, go_sem]
        exact Again.intro (k, es ++ [(key, w)], nx, .slice a11 (es ++ [(key, w)]).length c11) (by first | omega | (simp only; omega)) ⟨(show (es ++ [(key, w)]).length + k ≤ 4 by omega), ho11, hb11, hx, a11, c11, rfl, m11⟩ (by repeat (first | exact wkF_e | refine wkF_c rfl ?_)) (wkB_c rfl (wkB_c rfl wkB_e)) rfl
      | false =>
      try simp only [go_sem, Nat.reduceBEq]
      (refine (sMax nx (IntKind.i64.wrap (key.num + 1)) _).mono ?_; rintro _ _ ⟨rfl, rfl⟩; simp only [go_sem, Nat.reduceBEq, Nat.reduceAdd, Nat.reduceLeDiff])
      try simp only [go_sem, Nat.reduceBEq, Nat.reduceAdd, Nat.reduceLeDiff, Nat.reduceEqDiff, Int.reduceEq, not_false_eq_true, Int.reduceToNat]
      simp only [wk, go_sem]
      exact Again.intro (k, es ++ [(key, w)], max nx (IntKind.i64.wrap (key.num + 1)), .slice a11 (es ++ [(key, w)]).length c11) (by first | omega | (simp only; omega)) ⟨(show (es ++ [(key, w)]).length + k ≤ 4 by omega), ho11, hb11, max_ok hx (wrap_ok _), a11, c11, rfl, m11⟩ (by repeat (first | exact wkF_e | refine wkF_c rfl ?_)) (wkB_c rfl (wkB_c rfl wkB_e)) rfl
    simp only [decide_eq_true hn, go_sem, Nat.reduceBEq, Nat.reduceAdd, Nat.reduceLeDiff]
    try simp only [go_sem, Nat.reduceBEq, Nat.reduceAdd, Nat.reduceLeDiff, Nat.reduceEqDiff, Int.reduceEq, not_false_eq_true, Int.reduceToNat]
    refine (sFind (V.mk 4 0 ⟨#[]⟩ nx es) (⟨false, nx, ⟨#[]⟩⟩ : Ky) (by show es.length ≤ _; omega) _ _ m5.my.rd).mono ?_
    rintro _ _ ⟨rfl, rfl⟩
    simp only [ixI_neg, go_sem, Nat.reduceBEq]
    cases hf : (V.mk 4 0 ⟨#[]⟩ nx es).find (⟨false, nx, ⟨#[]⟩⟩ : Ky) with
    | some j =>
      simp only [Option.isNone_some, go_sem, Nat.reduceBEq]
      try simp only [go_sem, Nat.reduceBEq, Nat.reduceAdd, Nat.reduceLeDiff, Nat.reduceEqDiff, Int.reduceEq, not_false_eq_true, Int.reduceToNat]
      simp only [wk, go_sem]
      exact Again.intro (k, es, nx, .slice a es.length c) (by first | omega | (simp only; omega)) ⟨(show es.length + k ≤ 4 by omega), ho, hb, hx, a, c, rfl, m5⟩ (by repeat (first | exact wkF_e | refine wkF_c rfl ?_)) (wkB_c rfl (wkB_c rfl wkB_e)) rfl
    | none =>
    simp only [Option.isNone_none, go_sem]
    refine regionD_intro (lb := [41, 42]) (by kernel_rfl) ?_
    simp only [wd, go_sem, Nat.reduceBEq, Nat.reduceAdd, Nat.reduceLeDiff]
    refine (ih (by omega) m5).mono ?_
    rintro _ h9 ⟨w, aw, cw, rfl, hw, hwb, m9⟩
    try simp only [go_sem, Nat.reduceBEq, Nat.reduceAdd, Nat.reduceLeDiff]
    refine cur_ent (k := (⟨false, nx, ⟨#[]⟩⟩ : Ky)) slT24 rfl m9 fun v10 h10 m10 => ?_
    try simp only [go_sem, Nat.reduceBEq]
    refine cur_push slT24 rfl rfl (by decide) m10 (by omega) fun a11 c11 h11 m11 => ?_
    try simp only [go_sem, Nat.reduceBEq, Nat.reduceAdd, Nat.reduceLeDiff]
    have hl11 : (es ++ [((⟨false, nx, ⟨#[]⟩⟩ : Ky), w)]).length = es.length + 1 := by rw [List.length_append]; rfl
    have hb11 : V.bulks (es ++ [((⟨false, nx, ⟨#[]⟩⟩ : Ky), w)]) ≤ (es ++ [((⟨false, nx, ⟨#[]⟩⟩ : Ky), w)]).length * (5 + bD d) := by
      have hsz := (show (⟨false, nx, ⟨#[]⟩⟩ : Ky).str.size ≤ 4 from Nat.zero_le _)
      rw [bulks_snoc, hl11, Nat.add_mul]
      omega
    have ho11 : V.oks (es ++ [((⟨false, nx, ⟨#[]⟩⟩ : Ky), w)]) := oks_snoc ho (show (⟨false, nx, ⟨#[]⟩⟩ : Ky).ok from ⟨hx, Nat.zero_le _⟩) hw
    (refine (sMax nx (IntKind.i64.wrap (nx + 1)) _).mono ?_; rintro _ _ ⟨rfl, rfl⟩; simp only [go_sem, Nat.reduceBEq, Nat.reduceAdd, Nat.reduceLeDiff])
    try simp only [go_sem, Nat.reduceBEq, Nat.reduceAdd, Nat.reduceLeDiff, Nat.reduceEqDiff, Int.reduceEq, not_false_eq_true, Int.reduceToNat]
    simp only [wk, go_sem]
    exact Again.intro (k, es ++ [((⟨false, nx, ⟨#[]⟩⟩ : Ky), w)], max nx (IntKind.i64.wrap (nx + 1)), .slice a11 (es ++ [((⟨false, nx, ⟨#[]⟩⟩ : Ky), w)]).length c11) (by first | omega | (simp only; omega)) ⟨(show (es ++ [((⟨false, nx, ⟨#[]⟩⟩ : Ky), w)]).length + k ≤ 4 by omega), ho11, hb11, max_ok hx (wrap_ok _), a11, c11, rfl, m11⟩ (by repeat (first | exact wkF_e | refine wkF_c rfl ?_)) (wkB_c rfl (wkB_c rfl wkB_e)) rfl
theorem l5Any_c (hl : l.length ≤ 1048576) (m : CurM h0 h l p bag) : ACalls Tryd.prog 46 #[pv p] h (ValP 1500 h0 l p bag) := by
  have lo := i64_lo
  have hi := i64_hi
  have hD : bD 3 = 1444 := rfl
  (refine enter Tryd.func46 rfl rfl (by kernel_rfl) [] ?_; simp only [go_sem, Nat.reduceBEq])
  refine (l5Draw_c hl 3 (by decide) m).mono ?_
  rintro _ h1 ⟨v, a, c, rfl, hv, hb, m1⟩
  have hB := V.bulk_eq v
  have hbl := bulks_len' v.items
  have o1 := V.ok_kind hv
  have o2 := V.ok_num hv
  have o3 := V.ok_next hv
  have o4 := V.ok_items hv
  simp only [go_sem, Nat.reduceBEq, Nat.reduceAdd, Nat.reduceLeDiff]
  refine (l1Below_c hl m1 14 (by decide) (by decide)).mono ?_
  rintro _ h2 ⟨x, rfl, x0, x1, m2⟩
  simp only [go_sem, Nat.reduceBEq]
  by_cases c0 : x = 0
  · simp only [decide_eq_true c0, go_sem, Nat.reduceBEq]
    refine (l1Odd_c hl m2).mono ?_
    rintro _ h3 ⟨n, rfl, hn, m3⟩
    simp only [go_sem, Nat.reduceBEq, Nat.reduceAdd, Nat.reduceLeDiff]
    exact ⟨V.mk v.kind n v.str v.next v.items, a, c, rfl, V.ok_mk o1 hn (by omega) o3 (by omega) o4, by rw [V.bulk_eq]; show v.str.size + V.bulks v.items ≤ 1500; omega, m3⟩
  simp only [decide_eq_false c0, go_sem, Nat.reduceBEq]
  by_cases c1 : x = 1
  · simp only [decide_eq_true c1, go_sem, Nat.reduceBEq]
    refine (l1Odd_c hl m2).mono ?_
    rintro _ h3 ⟨n, rfl, hn, m3⟩
    simp only [go_sem, Nat.reduceBEq, Nat.reduceAdd, Nat.reduceLeDiff]
    exact ⟨V.mk v.kind v.num v.str n v.items, a, c, rfl, V.ok_mk o1 o2 (by omega) hn (by omega) o4, by rw [V.bulk_eq]; show v.str.size + V.bulks v.items ≤ 1500; omega, m3⟩
  simp only [decide_eq_false c1, go_sem, Nat.reduceBEq]
  by_cases c2 : x = 2
  · simp only [decide_eq_true c2, go_sem, Nat.reduceBEq]
    refine cur_ints [-1, 4, 5, 6, 7, 8, 9] slT99 rfl rfl rfl (by decide) (by decide) m2 fun v3 h3 m3 => ?_
    simp only [go_sem, Nat.reduceBEq]
    refine (l1Int_c hl m3 (by decide) (by decide)).mono ?_
    rintro _ h4 ⟨n, hn, rfl, m4⟩
    simp only [go_sem, Nat.reduceBEq, Nat.reduceAdd, Nat.reduceLeDiff]
    have hr : ∀ n ∈ ([-1, 4, 5, 6, 7, 8, 9] : List Int), IntKind.i64.min ≤ n ∧ n ≤ IntKind.i64.max := by decide
    exact ⟨V.mk n v.num v.str v.next v.items, a, c, rfl, V.ok_mk (hr n hn) o2 (by omega) o3 (by omega) o4, by rw [V.bulk_eq]; show v.str.size + V.bulks v.items ≤ 1500; omega, m4.drop⟩
  simp only [decide_eq_false c2, go_sem, Nat.reduceBEq]
  by_cases c3 : x = 3
  · simp only [decide_eq_true c3, go_sem]
    refine regionD_intro (lb := [27]) (by kernel_rfl) ?_
    simp only [go_sem, Nat.reduceBEq]
    refine (l5Key_c hl m2).mono ?_
    rintro _ h3 ⟨key, rfl, hkey, hks, m3⟩
    simp only [go_sem, Nat.reduceBEq]
    refine (l5Scalar_c hl m3).mono ?_
    rintro _ h4 ⟨w, aw, cw, rfl, hw, hwb, m4⟩
    simp only [go_sem, Nat.reduceBEq, Nat.reduceAdd, Nat.reduceLeDiff]
    refine cur_ent (k := key) slT24 rfl m4 fun v5 h5 m5 => ?_
    simp only [go_sem, Nat.reduceBEq]
    refine cur_push slT24 rfl rfl (by decide) m5 (by omega) fun a6 c6 h6 m6 => ?_
    simp only [go_sem, Nat.reduceBEq, Nat.reduceAdd, Nat.reduceLeDiff]
    have hbs := bulks_snoc v.items key w
    have hls : (v.items ++ [(key, w)]).length = v.items.length + 1 := by rw [List.length_append]; rfl
    exact ⟨V.mk v.kind v.num v.str v.next (v.items ++ [(key, w)]), a6, c6, rfl, V.ok_mk o1 o2 (by omega) o3 (by omega) (oks_snoc o4 hkey hw), by rw [V.bulk_eq]; show v.str.size + V.bulks (v.items ++ [(key, w)]) ≤ 1500; omega, m6⟩
  simp only [decide_eq_false c3, go_sem, Nat.reduceBEq]
  by_cases c4 : x = 4
  · simp only [decide_eq_true c4, go_sem, Nat.reduceBEq]
    refine (l1Below_c hl m2 3 (by decide) (by decide)).mono ?_
    rintro _ h3 ⟨y, rfl, y0, y1, m3⟩
    simp only [go_sem, Nat.reduceBEq]
    refine (l1Below_c hl m3 3 (by decide) (by decide)).mono ?_
    rintro _ h4 ⟨z, rfl, z0, z1, m4⟩
    simp only [go_sem, Nat.reduceBEq, Nat.reduceAdd, Nat.reduceLeDiff]
    exact .plain (IntKind.i64.wrap (6 + y)) z _ (wrap_ok _) (by omega) (by decide) (by decide) m4.drop
  simp only [decide_eq_false c4, go_sem, Nat.reduceBEq, Nat.reduceAdd, Nat.reduceLeDiff]
  exact ⟨v, a, c, rfl, hv, by omega, m2⟩
/-- A draw of two values. -/
def TwoP (B : Nat) (h0 : Hp) (l : List UInt8) (p : Nat) (bag : Bag) (u : Value) (h' : Hp) : Prop := ∃ (v w : V) (a b : Option Addr) (c d : Nat), u = .tuple #[.agg #[.int .i64 v.kind, .int .i64 v.num, .string v.str, .int .i64 v.next, .slice a v.items.length c], .agg #[.int .i64 w.kind, .int .i64 w.num, .string w.str, .int .i64 w.next, .slice b w.items.length d]] ∧ v.ok ∧ w.ok ∧ v.bulk ≤ B ∧ w.bulk ≤ B ∧ CurM h0 h' l p ((.row 8 (w.items.flatMap edt), .slice b w.items.length d) :: (.row 8 (v.items.flatMap edt), .slice a v.items.length c) :: bag)
theorem l9Two_c (hl : l.length ≤ 1048576) (m : CurM h0 h l p bag) : ACalls Tryd.prog 38 #[pv p] h (TwoP 1600 h0 l p bag) := by
  (refine enter Tryd.func38 rfl rfl (by kernel_rfl) [] ?_; simp only [go_sem, Nat.reduceBEq])
  refine (l5Any_c hl m).mono ?_
  rintro _ h1 ⟨v, a, c, rfl, hv, hb, m1⟩
  have hB := V.bulk_eq v
  simp only [go_sem, Nat.reduceBEq, Nat.reduceAdd, Nat.reduceLeDiff]
  refine (l1Once_c hl m1 3 (by decide) (by decide)).mono ?_
  rintro _ h2 ⟨b, rfl, m2⟩
  simp only [go_sem, Nat.reduceBEq]
  cases b with
  | false =>
    simp only [go_sem]
    refine regionD_intro (lb := [32]) (by kernel_rfl) ?_
    simp only [go_sem, Nat.reduceBEq, Nat.reduceAdd, Nat.reduceLeDiff]
    refine (l5Any_c hl m2).mono ?_
    rintro _ h3 ⟨w, aw, cw, rfl, hw, hwb, m3⟩
    simp only [go_sem, Nat.reduceBEq, Nat.reduceAdd, Nat.reduceLeDiff]
    exact ⟨v, w, a, aw, c, cw, rfl, hv, hw, by omega, by omega, m3⟩
  | true =>
  simp only [go_sem, Nat.reduceBEq, Nat.reduceAdd, Nat.reduceLeDiff]
  refine (l5Copy_c v (by omega) _ _ m2.my.rd).mono ?_
  rintro _ h3 ⟨a3, c3, rfl, q3⟩
  have m3 := m2.add q3
  have m3 : CurM h0 h3 l p ((.row 8 (v.items.flatMap edt), .slice a3 v.items.length c3) :: (.row 8 (v.items.flatMap edt), .slice a v.items.length c) :: bag) := m3
  simp only [go_sem, Nat.reduceBEq, Nat.reduceAdd, Nat.reduceLeDiff]
  by_cases hl0 : 0 < v.items.length
  case neg =>
    simp only [show decide ((0 : Int) < (v.items.length : Nat)) = false from decide_eq_false (by omega), go_sem, Nat.reduceBEq]
    refine regionQ_intro (lb := [30]) (pl := [31]) 5 rfl (by kernel_rfl) fun b6 T6 hb6 => ?_
    obtain ⟨y6, my6, back6⟩ := (cur_val (w := v) m3 hb6 T6).fst
    simp only [proF_v, proF_b, proF_e, delb_c, delb_e, go_sem, Nat.reduceBEq, Nat.reduceAdd, Nat.reduceLeDiff]
    refine var_take (Hold.ptr (p := []) (q := [])) my6 rfl fun a7 n7 m7 => ?_
    simp only [go_sem, Nat.reduceBEq, Nat.reduceAdd, Nat.reduceLeDiff]
    exact ⟨v, v, a, a7, c, n7, rfl, hv, hv, by omega, by omega, back6 _ [_] m7⟩
  simp only [show decide ((0 : Int) < (v.items.length : Nat)) = true from decide_eq_true (by omega), go_sem, Nat.reduceBEq]
  refine (l1Once_c hl m3 2 (by decide) (by decide)).mono ?_
  rintro _ h4 ⟨b, rfl, m4⟩
  simp only [go_sem, Nat.reduceBEq]
  cases b with
  | false =>
    try simp only [go_sem]
    refine regionQ_intro (lb := [30]) (pl := [31]) 5 rfl (by kernel_rfl) fun b6 T6 hb6 => ?_
    obtain ⟨y6, my6, back6⟩ := (cur_val (w := v) m4 hb6 T6).fst
    simp only [proF_v, proF_b, proF_e, delb_c, delb_e, go_sem, Nat.reduceBEq, Nat.reduceAdd, Nat.reduceLeDiff]
    refine var_take (Hold.ptr (p := []) (q := [])) my6 rfl fun a7 n7 m7 => ?_
    simp only [go_sem, Nat.reduceBEq, Nat.reduceAdd, Nat.reduceLeDiff]
    exact ⟨v, v, a, a7, c, n7, rfl, hv, hv, by omega, by omega, back6 _ [_] m7⟩
  | true =>
  try simp only [go_sem]
  obtain ⟨b3, k3, e3⟩ := m4.row0 hl0 (fm_len edt_len _)
  cases e3
  have hil : v.items.length - 1 < v.items.length := by omega
  have w1 : IntKind.i64.wrap ((v.items.length : Nat) - 1) = ((v.items.length - 1 : Nat) : Int) := by rw [IntWalk.i64_in _ (by have := bulks_len' v.items; omega)]; omega
  have hix : ixA (some 8) (some ⟨b3, 0, none⟩) v.items.length (((v.items.length - 1 : Nat) : Int)) = some (.pointer (some ⟨b3, 0 + (v.items.length - 1) * 8, none⟩)) := ix_nat hil
  refine regionD_intro (lb := [21, 23]) (by kernel_rfl) ?_
  simp only [w1, go_sem, Nat.reduceBEq]
  refine (l5Scalar_c hl m4).mono ?_
  rintro _ h5 ⟨w, aw, cw, rfl, hw, hwb, m5⟩
  simp only [hix, go_sem, Nat.reduceBEq, Nat.reduceAdd]
  obtain ⟨e, he, _⟩ := get_lt hil
  obtain ⟨C, hC, eC⟩ := hold_item (cap := c3) (b := b3) he
  obtain ⟨y, my, back⟩ := m5.two
  have own : C e.2.dt = .row 8 (v.items.flatMap edt) := by rw [eC, ← drop_cons he, List.take_append_drop]
  have my : My h0 h5 ((.row 8 (w.items.flatMap edt), .slice aw w.items.length cw) :: (C e.2.dt, .slice (some ⟨b3, 0, none⟩) v.items.length c3) :: y :: (.row 8 (v.items.flatMap edt), .slice a v.items.length c) :: bag) := by
    rw [own]
    exact my
  refine var_store hC (V.dt_len _) my (by omega) fun h6 m6 => ?_
  rw [eC] at m6
  have m7 := back h6 [_] m6
  have m7 : CurM h0 h6 l p ((.row 8 ((setE v.items (v.items.length - 1) e w).flatMap edt), .slice (some ⟨b3, 0, none⟩) v.items.length c3) :: (.row 8 (v.items.flatMap edt), .slice a v.items.length c) :: bag) := m7
  try refine ⟨trivial, ?_⟩
  simp only [go_sem]
  have hsl := setE_len (w := w) he
  have hsb := setE_bulks (w := w) he
  have hso := setE_oks he (V.ok_items hv) hw
  have hlb := bulks_len' v.items
  have W2 : ∃ x : V, x = V.mk v.kind v.num v.str v.next (setE v.items (v.items.length - 1) e w) := ⟨_, rfl⟩
  obtain ⟨x, hx⟩ := W2
  have ox : x.ok := by rw [hx]; exact V.ok_mk (V.ok_kind hv) (V.ok_num hv) (by omega) (V.ok_next hv) (by omega) hso
  have bx : x.bulk ≤ 1600 := by
    rw [hx, V.bulk_eq]
    show v.str.size + V.bulks (setE v.items (v.items.length - 1) e w) ≤ 1600
    omega
  have m8 : CurM h0 h6 l p ((.row 8 (x.items.flatMap edt), .slice (some ⟨b3, 0, none⟩) v.items.length c3) :: (.row 8 (v.items.flatMap edt), .slice a v.items.length c) :: bag) := by rw [hx]; exact m7
  have k1 : x.kind = v.kind := by rw [hx]; rfl
  have k2 : x.num = v.num := by rw [hx]; rfl
  have k3 : x.str = v.str := by rw [hx]; rfl
  have k4 : x.next = v.next := by rw [hx]; rfl
  clear hx m7
  refine regionQ_intro (lb := [30]) (pl := [31]) 5 rfl (by kernel_rfl) fun b6 T6 hb6 => ?_
  have m9 := cur_val (w := x) m8 hb6 T6
  rw [k1, k2, k3, k4] at m9
  obtain ⟨y6, my6, back6⟩ := m9.fst
  simp only [proF_v, proF_b, proF_e, delb_c, delb_e, go_sem, Nat.reduceBEq, Nat.reduceAdd, Nat.reduceLeDiff]
  refine var_take (Hold.ptr (p := []) (q := [])) my6 rfl fun a7 n7 m7 => ?_
  simp only [go_sem, Nat.reduceBEq, Nat.reduceAdd, Nat.reduceLeDiff]
  exact ⟨v, x, a, a7, c, n7, rfl, hv, ox, by omega, bx, back6 _ [_] m7⟩
theorem drawToNumber_c (hl : l.length ≤ 1048576) {sl : Value} (rd : RdS h0 1 sl (bcells l)) (m : My h0 h bag) : ACalls Tryd.prog 13 #[sl] h (fun u h' => ∃ p, ValP 1500 h0 l p bag u h') := by
  (refine enter Tryd.func13 rfl rfl (by kernel_rfl) [] ?_; simp only [go_sem, Nat.reduceBEq])
  refine (l1New_c hl rd m).mono ?_
  rintro _ h1 ⟨p, rfl, m1⟩
  simp only [go_sem, Nat.reduceBEq]
  refine (l5Any_c hl m1).mono ?_
  rintro _ h2 ⟨v, a, c, rfl, hv, hb, m2⟩
  simp only [go_sem, Nat.reduceBEq, Nat.reduceAdd, Nat.reduceLeDiff]
  exact ⟨p, v, a, c, rfl, hv, hb, m2⟩
theorem drawCompare_c (hl : l.length ≤ 1048576) {sl : Value} (rd : RdS h0 1 sl (bcells l)) (m : My h0 h bag) : ACalls Tryd.prog 8 #[sl] h (fun u h' => ∃ p, TwoP 1600 h0 l p bag u h') := by
  (refine enter Tryd.func8 rfl rfl (by kernel_rfl) [] ?_; simp only [go_sem, Nat.reduceBEq])
  refine (l1New_c hl rd m).mono ?_
  rintro _ h1 ⟨p, rfl, m1⟩
  simp only [go_sem, Nat.reduceBEq]
  refine (l9Two_c hl m1).mono ?_
  rintro _ h2 ⟨v, w, a, b, c, d, rfl, hv, hw, hb, hwb, m2⟩
  simp only [go_sem, Nat.reduceBEq, Nat.reduceAdd, Nat.reduceLeDiff]
  exact ⟨p, v, w, a, b, c, d, rfl, hv, hw, hb, hwb, m2⟩
def ArithP (h0 : Hp) (l : List UInt8) (bag : Bag) (u : Value) (h' : Hp) : Prop := ∃ (p : Nat) (x y z : Int), u = .tuple #[.int .i64 x, .int .i64 y, .int .i64 z] ∧ CurM h0 h' l p bag
theorem drawArith_c (hl : l.length ≤ 1048576) {sl : Value} (rd : RdS h0 1 sl (bcells l)) (m : My h0 h bag) : ACalls Tryd.prog 25 #[sl] h (ArithP h0 l bag) := by
  (refine enter Tryd.func25 rfl rfl (by kernel_rfl) [] ?_; simp only [go_sem, Nat.reduceBEq])
  refine (l1New_c hl rd m).mono ?_
  rintro _ h1 ⟨p, rfl, m1⟩
  simp only [go_sem, Nat.reduceBEq]
  refine (l1Below_c hl m1 7 (by decide) (by decide)).mono ?_
  rintro _ h2 ⟨x, rfl, x0, x1, m2⟩
  simp only [go_sem, Nat.reduceBEq]
  refine (l1One_c hl m2).mono ?_
  rintro _ h3 ⟨y, rfl, y0, m3⟩
  simp only [go_sem, Nat.reduceBEq]
  refine (l1One_c hl m3).mono ?_
  rintro _ h4 ⟨z, rfl, z0, m4⟩
  simp only [go_sem, Nat.reduceBEq]
  refine (l1Below_c hl m4 3 (by decide) (by decide)).mono ?_
  rintro _ h5 ⟨t, rfl, t0, t1, m5⟩
  simp only [go_sem, Nat.reduceBEq]
  exact ⟨p, _, _, _, rfl, m5⟩
/-- A draw of an operation and two values. -/
def OpP (h0 : Hp) (l : List UInt8) (bag : Bag) (u : Value) (h' : Hp) : Prop := ∃ (p : Nat) (op : Int) (v w : V) (a b : Option Addr) (c d : Nat), u = .tuple #[.int .i64 op, .agg #[.int .i64 v.kind, .int .i64 v.num, .string v.str, .int .i64 v.next, .slice a v.items.length c], .agg #[.int .i64 w.kind, .int .i64 w.num, .string w.str, .int .i64 w.next, .slice b w.items.length d]] ∧ 0 ≤ op ∧ op ≤ 16 ∧ v.ok ∧ w.ok ∧ v.bulk ≤ 1600 ∧ w.bulk ≤ 1600 ∧ CurM h0 h' l p ((.row 8 (w.items.flatMap edt), .slice b w.items.length d) :: (.row 8 (v.items.flatMap edt), .slice a v.items.length c) :: bag)
theorem drawBinary_c (hl : l.length ≤ 1048576) {sl : Value} (rd : RdS h0 1 sl (bcells l)) (m : My h0 h bag) : ACalls Tryd.prog 27 #[sl] h (OpP h0 l bag) := by
  (refine enter Tryd.func27 rfl rfl (by kernel_rfl) [] ?_; simp only [go_sem, Nat.reduceBEq])
  refine (l1New_c hl rd m).mono ?_
  rintro _ h1 ⟨p, rfl, m1⟩
  simp only [go_sem, Nat.reduceBEq]
  refine (l1Below_c hl m1 17 (by decide) (by decide)).mono ?_
  rintro _ h2 ⟨op, rfl, x0, x1, m2⟩
  simp only [go_sem, Nat.reduceBEq]
  refine (l1Once_c hl m2 9 (by decide) (by decide)).mono ?_
  rintro _ h3 ⟨b, rfl, m3⟩
  simp only [go_sem, Nat.reduceBEq]
  cases b with
  | false =>
    simp only [go_sem, Nat.reduceBEq]
    refine (l9Two_c hl m3).mono ?_
    rintro _ h4 ⟨v, w, a, b, c, d, rfl, hv, hw, hb, hwb, m4⟩
    simp only [go_sem, Nat.reduceBEq, Nat.reduceAdd, Nat.reduceLeDiff]
    refine regionQ_intro (lb := [34]) (pl := [35]) 9 rfl (by kernel_rfl) fun b6 T6 hb6 => ?_
    obtain ⟨y6, my6, back6⟩ := (cur_val (w := w) m4 hb6 T6).fst
    simp only [proF_v, proF_b, proF_e, delb_c, delb_e, go_sem, Nat.reduceBEq, Nat.reduceAdd, Nat.reduceLeDiff]
    refine var_take (Hold.ptr (p := []) (q := [])) my6 rfl fun a7 n7 m7 => ?_
    simp only [go_sem, Nat.reduceBEq, Nat.reduceAdd, Nat.reduceLeDiff]
    exact ⟨p, op, v, w, a, a7, c, n7, rfl, x0, by omega, hv, hw, hb, hwb, back6 _ [_] m7⟩
  | true =>
  simp only [go_sem]
  refine aloop (ι := ByteArray) (fun s => [(7, .val (.string s)), (6, .val (.int .i64 op)), (5, .val (pv p)), (4, .box 4 0), (3, .box 3 0)])
    (fun _ => [(4, [.int .i64 0, .int .i64 0, .string ⟨#[]⟩, .int .i64 0, .slice none 0 0]), (3, [.int .i64 0, .int .i64 0, .string ⟨#[]⟩, .int .i64 0, .slice none 0 0])])
    (fun s h' => s.size ≤ 400 ∧ h' = h3) (fun s => 401 - s.size) ⟨#[]⟩ ⟨by decide, rfl⟩ (by repeat (first | exact wkF_e | refine wkF_c rfl ?_)) (wkB_c rfl (wkB_c rfl wkB_e)) rfl ?_
  rintro s _ ⟨hs, rfl⟩
  have hs : s.size ≤ 400 := hs
  simp only [go_sem, Nat.reduceBEq]
  by_cases hc : s.size < 396
  · simp only [show decide ((s.size : Int) < 396) = true from decide_eq_true (by omega), go_sem, Nat.reduceBEq]
    have hz : (s ++ ⟨#[97, 98, 99, 100, 101]⟩).size = s.size + 5 := by simp [ByteArray.size_append]; rfl
    refine ⟨by rw [i64max]; show ((s.size + 5 : Nat) : Int) ≤ _; omega, ?_⟩
    try simp only [go_sem, Nat.reduceBEq, Nat.reduceAdd, Nat.reduceLeDiff, Nat.reduceEqDiff, Int.reduceEq, not_false_eq_true, Int.reduceToNat]
    exact Again.intro (s ++ ⟨#[97, 98, 99, 100, 101]⟩) (by rw [hz]; omega) ⟨by rw [hz]; omega, rfl⟩ (by repeat (first | exact wkF_e | refine wkF_c rfl ?_)) (wkB_c rfl (wkB_c rfl wkB_e)) rfl
  simp only [show decide ((s.size : Int) < 396) = false from decide_eq_false (by omega), go_sem, Nat.reduceBEq]
  (refine (dTextV s _).mono ?_; rintro _ _ ⟨rfl, rfl⟩; simp only [go_sem, Nat.reduceBEq])
  try simp only [go_sem, Nat.reduceBEq, Nat.reduceAdd, Nat.reduceLeDiff, Nat.reduceEqDiff, Int.reduceEq, not_false_eq_true, Int.reduceToNat]
  refine cur_strs [⟨#[]⟩, ⟨#[97, 98, 99]⟩, ⟨#[97, 98, 99, 100]⟩, ⟨#[97, 98, 99, 100, 101]⟩] slT80 rfl rfl rfl (by decide) (by decide) m3 fun v4 h4 m4 => ?_
  simp only [go_sem, Nat.reduceBEq]
  refine (l1Str_c hl m4 (by decide) (by decide)).mono ?_
  rintro _ h5 ⟨r, hr, rfl, m5⟩
  have hrs : r.size ≤ 5 := by
    simp only [List.mem_cons, List.not_mem_nil, or_false] at hr
    rcases hr with h | h | h | h <;> (rw [h]; decide)
  simp only [go_sem, Nat.reduceBEq]
  (refine (dTextV r _).mono ?_; rintro _ _ ⟨rfl, rfl⟩; simp only [go_sem, Nat.reduceBEq, Nat.reduceAdd, Nat.reduceLeDiff])
  try simp only [go_sem, Nat.reduceBEq, Nat.reduceAdd, Nat.reduceLeDiff, Nat.reduceEqDiff, Int.reduceEq, not_false_eq_true, Int.reduceToNat]
  refine ⟨p, op, V.mk 3 0 s 0 [], V.mk 3 0 r 0 [], none, none, 0, 0, rfl, x0, by omega, V.ok_mk (by decide) (by decide) (by omega) (by decide) (Nat.zero_le _) (by simp only [V.oks]), V.ok_mk (by decide) (by decide) (by omega) (by decide) (Nat.zero_le _) (by simp only [V.oks]), by rw [V.bulk_eq]; show s.size + 0 ≤ 1600; omega, by rw [V.bulk_eq]; show r.size + 0 ≤ 1600; omega, ?_⟩
  have m6 := m5.drop
  exact (m6.upd fun d m => (m.nilrow).swap).upd fun d m => (m.nilrow).swap
end
end Go.Proofs.YtconhonjkfpfmaaDoor
