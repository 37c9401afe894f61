/-
  What TableValue of the program and of the reference returns.
-/
import Derived.Test.YtpelbeoapmbloaaCopy
import Derived.Test.YtpelbeoapmbloaaSxTabV
namespace Go.Proofs.Ytpelbeoapmbloaa
set_option maxRecDepth 8000
open Go Go.Sx
theorem arrI_c (h : Hp) : ACalls Try.prog 33 #[] h (Pu (.agg #[.int .i64 4, .int .i64 0, .string ⟨#[]⟩, .int .i64 0, .slice none 0 0]) h) := by
  (refine enter Try.func33 rfl rfl (by kernel_rfl) [] ?_; simp only [go_sem, Nat.reduceBEq, Nat.reduceAdd, Nat.reduceLeDiff])
  exact ⟨rfl, rfl⟩
theorem arrS_c (h : Hp) : ACalls Try.prog 29 #[] h (Pu (.agg #[.int .i64 4, .int .i64 0, .string ⟨#[]⟩, .int .i64 0, .slice none 0 0]) h) := by
  (refine enter Try.func29 rfl rfl (by kernel_rfl) [] ?_; simp only [go_sem, Nat.reduceBEq, Nat.reduceAdd, Nat.reduceLeDiff])
  exact ⟨rfl, rfl⟩
theorem iTableValue (t : Tb) (hb : t.bulk ≤ 1099511627776) (s u : Value) (h : Hp) (r1 : RdI h t.heads s) (r2 : RdT h t.slots u) : ACalls Try.prog 8 #[.agg #[.bool t.hashed, s, u, .int .i64 t.next, .int .i64 t.count]] h (Made h t.value) := by
  obtain ⟨a1, c1, xs1, rfl, hc1, hr1, hat1⟩ := r1.rows (by decide) t.heads.length (fm_len idt_len _)
  obtain ⟨a2, c2, xs2, rfl, hc2, hr2, hat2⟩ := r2.rows (by decide) t.slots.length (fm_len Sl.dt_len _)
  obtain ⟨hsl, hsv⟩ := tab_slots t
  (refine enter Try.func8 rfl rfl (by kernel_rfl) [] ?_; simp only [go_sem, Nat.reduceBEq])
  (refine (arrI_c _).mono ?_; rintro _ _ ⟨rfl, rfl⟩; simp only [go_sem, Nat.reduceBEq, Nat.reduceAdd, Nat.reduceLeDiff])
  refine aloop (ι := Nat × Value) (fun x => [(13, .val (.int .i64 (x.1 : Nat))), (12, .val (.int .i64 (t.slots.length : Nat))), (11, .val (.slice a2 t.slots.length c2)), (3, .box 3 0), (2, .box 2 0)])
    (fun x => [(3, [.int .i64 4, .int .i64 0, .string ⟨#[]⟩, .int .i64 t.next, x.2]), (2, [.int .i64 0, .int .i64 0, .string ⟨#[]⟩, .int .i64 0, .slice none 0 0])])
    (fun x h' => x.1 ≤ t.slots.length ∧ My h h' [(.row 8 ((vent (t.slots.take x.1)).flatMap edt), x.2)]) (fun x => t.slots.length - x.1) (0, .slice none 0 0)
    ⟨Nat.zero_le _, (My.nil (Ext.refl h)).nilrow⟩ (by repeat (first | exact wkF_e | refine wkF_c rfl ?_)) (wkB_c rfl (wkB_c rfl wkB_e)) rfl ?_
  rintro ⟨i, o⟩ h1 ⟨hi, m1⟩
  have hi : i ≤ t.slots.length := hi
  have m1 : My h h1 [(.row 8 ((vent (t.slots.take i)).flatMap edt), o)] := m1
  have hvl := vent_le t.slots i
  have htl : ((vent (t.slots.take i)).flatMap edt).length = (vent (t.slots.take i)).length * 8 := fm_len edt_len _
  obtain ⟨ao, co, rfl, _⟩ := m1.row_shape (by decide) _ htl
  simp only [go_sem, Nat.reduceBEq]
  refine Br.intro (fun hq => ?_) (fun hq => ?_) <;> (try simp only [hq, go_sem, Nat.reduceBEq, Nat.reduceAdd, Nat.reduceLeDiff])
  · have hq : i < t.slots.length := by simpa using hq
    obtain ⟨b, off, rfl, hat'⟩ := hat2 (by omega)
    have hat1 := hat'.mono m1.ext
    have hr1 := hr2.mono m1.ext
    obtain ⟨e, he, hm⟩ := get_lt hq
    have hve := hsv e hm
    have hvb := V.bulk_eq e.val
    have wsu := wrap_succ (i := i) (by omega)
    simp only [ix_nat hq, go_sem, Nat.reduceBEq]
    refine hsem_slot tyS65 hat1 hr1 he rfl fun s2 rd2 => ?_
    obtain ⟨a2, c2, _, rfl, _⟩ := rd2.rows (by decide) e.val.items.length (fm_len edt_len _)
    cases hv : e.live with
    | false =>
      simp only [wsu, go_sem, Nat.reduceBEq, Nat.reduceAdd, Nat.reduceLeDiff]
      exact Again.intro (i + 1, .slice ao (vent (t.slots.take i)).length co) (by first | omega | (simp only; omega)) ⟨hq, by rw [vent_snoc he, hv]; exact m1⟩ (by repeat (first | exact wkF_e | refine wkF_c rfl ?_)) (wkB_c rfl (wkB_c rfl wkB_e)) rfl
    | true =>
    try simp only [go_sem, Nat.reduceBEq, Nat.reduceAdd, Nat.reduceLeDiff]
    refine regionD_intro (lb := [20, 22, 24]) (by kernel_rfl) ?_
    simp only [go_sem, Nat.reduceBEq, Nat.reduceAdd, Nat.reduceLeDiff]
    refine (copyValue_c e.val (by omega) _ _ rd2).mono ?_
    rintro _ h2 ⟨a3, c3, rfl, m2⟩
    simp only [go_sem, Nat.reduceBEq, Nat.reduceAdd, Nat.reduceLeDiff]
    have m3 := (m1.add m2)
    refine hsem_my_lit (h0 := h) (es := edt (e.key, e.val)) (parts := [(0, .agg #[.bool e.key.text, .int .i64 e.key.num, .string e.key.str, .int .i64 e.val.kind, .int .i64 e.val.num, .string e.val.str, .int .i64 e.val.next, .slice a3 e.val.items.length c3])]) slT27 (by decide) (by decide) (by decide) rfl rfl (by simp [Value.cells]) (bag := [(.row 8 ((vent (t.slots.take i)).flatMap edt), .slice ao (vent (t.slots.take i)).length co)]) ?_ rfl (edt_len _) fun l4 h4 m4 => ?_
    · simp only [edt_eq, flat, List.flatMap_cons, List.flatMap_nil, List.append_nil, cells_agg, List.zip_cons_cons, List.zip_nil_right, List.cons_append, List.nil_append, My.raw_iff, one_bool, one_int, one_str, and_self, true_and]
      exact m3
    simp only [go_sem, Nat.reduceBEq]
    refine hsem_my_append slT27 (by decide) rfl (vent (t.slots.take i)).length 1 m4.swap htl (edt_len _) (by show ((vent (t.slots.take i)).length + 1) * 96 ≤ _; omega) (by omega) fun l5 h5 m5 => ?_
    have m5 : My h h5 [(.row 8 ((vent (t.slots.take i)).flatMap edt ++ edt (e.key, e.val)), l5)] := m5
    have e5 : (vent (t.slots.take i)).flatMap edt ++ edt (e.key, e.val) = (vent (t.slots.take (i + 1))).flatMap edt := by rw [vent_snoc he, hv, if_pos rfl, List.flatMap_append, List.flatMap_cons, List.flatMap_nil, List.append_nil]
    rw [e5] at m5
    obtain ⟨a6, c6, rfl, _⟩ := m5.row_shape (by decide) _ (fm_len edt_len _)
    simp only [wsu, go_sem, Nat.reduceBEq, Nat.reduceAdd, Nat.reduceLeDiff]
    exact Again.intro (i + 1, .slice a6 (vent (t.slots.take (i + 1))).length c6) (by first | omega | (simp only; omega)) ⟨hq, m5⟩ (by repeat (first | exact wkF_e | refine wkF_c rfl ?_)) (wkB_c rfl (wkB_c rfl wkB_e)) rfl
  · have hq : i = t.slots.length := by simp at hq; omega
    subst hq
    rw [List.take_length] at m1
    simp only [List.take_length, go_sem]
    try simp only [go_sem, Nat.reduceBEq, Nat.reduceAdd, Nat.reduceLeDiff, Nat.reduceEqDiff, Int.reduceEq, not_false_eq_true, Int.reduceToNat]
    exact ⟨_, _, rfl, m1⟩
theorem sTableValue (t : Tb) (hb : t.bulk ≤ 1099511627776) (s u : Value) (h : Hp) (r1 : RdI h t.heads s) (r2 : RdT h t.slots u) : ACalls Try.prog 6 #[.agg #[.bool t.hashed, s, u, .int .i64 t.next, .int .i64 t.count]] h (Made h t.value) := by
  obtain ⟨a1, c1, xs1, rfl, hc1, hr1, hat1⟩ := r1.rows (by decide) t.heads.length (fm_len idt_len _)
  obtain ⟨a2, c2, xs2, rfl, hc2, hr2, hat2⟩ := r2.rows (by decide) t.slots.length (fm_len Sl.dt_len _)
  obtain ⟨hsl, hsv⟩ := tab_slots t
  (refine enter Try.func6 rfl rfl (by kernel_rfl) [] ?_; simp only [go_sem, Nat.reduceBEq])
  (refine (arrS_c _).mono ?_; rintro _ _ ⟨rfl, rfl⟩; simp only [go_sem, Nat.reduceBEq, Nat.reduceAdd, Nat.reduceLeDiff])
  refine aloop (ι := Nat × Value) (fun x => [(4, .val (.int .i64 (x.1 : Nat))), (1, .box 1 0), (3, .box 3 0), (2, .box 2 0)])
    (fun x => [(3, [.int .i64 4, .int .i64 0, .string ⟨#[]⟩, .int .i64 t.next, x.2]), (1, [.bool t.hashed, .slice a1 t.heads.length c1, .slice a2 t.slots.length c2, .int .i64 t.next, .int .i64 t.count]), (2, [.int .i64 0, .int .i64 0, .string ⟨#[]⟩, .int .i64 0, .slice none 0 0])])
    (fun x h' => x.1 ≤ t.slots.length ∧ My h h' [(.row 8 ((vent (t.slots.take x.1)).flatMap edt), x.2)]) (fun x => t.slots.length - x.1) (0, .slice none 0 0)
    ⟨Nat.zero_le _, (My.nil (Ext.refl h)).nilrow⟩ (by repeat (first | exact wkF_e | refine wkF_c rfl ?_)) (wkB_c rfl (wkB_c rfl (wkB_c rfl wkB_e))) rfl ?_
  rintro ⟨i, o⟩ h1 ⟨hi, m1⟩
  have hi : i ≤ t.slots.length := hi
  have m1 : My h h1 [(.row 8 ((vent (t.slots.take i)).flatMap edt), o)] := m1
  have hvl := vent_le t.slots i
  have htl : ((vent (t.slots.take i)).flatMap edt).length = (vent (t.slots.take i)).length * 8 := fm_len edt_len _
  obtain ⟨ao, co, rfl, _⟩ := m1.row_shape (by decide) _ htl
  simp only [go_sem, Nat.reduceBEq]
  refine Br.intro (fun hq => ?_) (fun hq => ?_) <;> (try simp only [hq, go_sem, Nat.reduceBEq, Nat.reduceAdd, Nat.reduceLeDiff])
  · have hq : i < t.slots.length := by simpa using hq
    obtain ⟨b, off, rfl, hat'⟩ := hat2 (by omega)
    have hat1 := hat'.mono m1.ext
    have hr1 := hr2.mono m1.ext
    obtain ⟨e, he, hm⟩ := get_lt hq
    have hve := hsv e hm
    have hvb := V.bulk_eq e.val
    have wsu := wrap_succ (i := i) (by omega)
    simp only [ix_nat hq, go_sem, Nat.reduceBEq, Nat.reduceAdd]
    refine hsem_slive tyS4 hat1 hr1 he rfl ?_
    cases hv : e.live with
    | false =>
      simp only [wsu, go_sem, Nat.reduceBEq]
      exact Again.intro (i + 1, .slice ao (vent (t.slots.take i)).length co) (by first | omega | (simp only; omega)) ⟨hq, by rw [vent_snoc he, hv]; exact m1⟩ (by repeat (first | exact wkF_e | refine wkF_c rfl ?_)) (wkB_c rfl (wkB_c rfl (wkB_c rfl wkB_e))) rfl
    | true =>
    try simp only [go_sem, Nat.reduceBEq]
    refine regionD_still (lb := [23, 25, 31]) (pl := [29]) h m1.ext (by kernel_rfl) ?_
    simp only [ix_nat hq, go_sem, Nat.reduceBEq]
    refine hsem_skey tyS63 hat' hr2 he rfl ?_
    simp only [ix_nat hq, go_sem, Nat.reduceBEq, Nat.reduceAdd]
    refine hsem_sval tyS29 hat1 hr1 he rfl fun s2 rd2 => ?_
    simp only [go_sem, Nat.reduceBEq]
    refine (l5Copy_c e.val (by omega) _ _ rd2).mono ?_
    rintro _ h2 ⟨a3, c3, rfl, m2⟩
    simp only [go_sem, Nat.reduceBEq, Nat.reduceAdd, Nat.reduceLeDiff]
    refine ⟨m1.ext.trans m2.ext, ?_⟩
    have m3 := (m1.add m2)
    refine hsem_my_lit (h0 := h) (es := edt (e.key, e.val)) (parts := [(0, .agg #[.bool e.key.text, .int .i64 e.key.num, .string e.key.str, .int .i64 e.val.kind, .int .i64 e.val.num, .string e.val.str, .int .i64 e.val.next, .slice a3 e.val.items.length c3])]) slT27 (by decide) (by decide) (by decide) rfl rfl (by simp [Value.cells]) (bag := [(.row 8 ((vent (t.slots.take i)).flatMap edt), .slice ao (vent (t.slots.take i)).length co)]) ?_ rfl (edt_len _) fun l4 h4 m4 => ?_
    · simp only [edt_eq, flat, List.flatMap_cons, List.flatMap_nil, List.append_nil, cells_agg, List.zip_cons_cons, List.zip_nil_right, List.cons_append, List.nil_append, My.raw_iff, one_bool, one_int, one_str, and_self, true_and]
      exact m3
    simp only [go_sem, Nat.reduceBEq]
    refine ⟨m4.ext, ?_⟩
    refine hsem_my_append slT27 (by decide) rfl (vent (t.slots.take i)).length 1 m4.swap htl (edt_len _) (by show ((vent (t.slots.take i)).length + 1) * 96 ≤ _; omega) (by omega) fun l5 h5 m5 => ?_
    have m5 : My h h5 [(.row 8 ((vent (t.slots.take i)).flatMap edt ++ edt (e.key, e.val)), l5)] := m5
    have e5 : (vent (t.slots.take i)).flatMap edt ++ edt (e.key, e.val) = (vent (t.slots.take (i + 1))).flatMap edt := by rw [vent_snoc he, hv, if_pos rfl, List.flatMap_append, List.flatMap_cons, List.flatMap_nil, List.append_nil]
    rw [e5] at m5
    obtain ⟨a6, c6, rfl, _⟩ := m5.row_shape (by decide) _ (fm_len edt_len _)
    simp only [wsu, go_sem, Nat.reduceBEq, Nat.reduceAdd, Nat.reduceLeDiff]
    refine ⟨m5.ext, ?_⟩
    exact Again.intro (i + 1, .slice a6 (vent (t.slots.take (i + 1))).length c6) (by first | omega | (simp only; omega)) ⟨hq, m5⟩ (by repeat (first | exact wkF_e | refine wkF_c rfl ?_)) (wkB_c rfl (wkB_c rfl (wkB_c rfl wkB_e))) rfl
  · have hq : i = t.slots.length := by simp at hq; omega
    subst hq
    rw [List.take_length] at m1
    simp only [List.take_length, go_sem]
    try simp only [go_sem, Nat.reduceBEq, Nat.reduceAdd, Nat.reduceLeDiff, Nat.reduceEqDiff, Int.reduceEq, not_false_eq_true, Int.reduceToNat]
    exact ⟨_, _, rfl, m1⟩
end Go.Proofs.Ytpelbeoapmbloaa
