/-
  What the copies of tables are, and the small functions over values and numbers that tables need.
-/
import Derived.Test.YtedfplodobpgfaaGreatDoorCopy
import Derived.Test.YtedfplodobpgfaaGreatDoorSxTabI
namespace Go.Proofs.YtedfplodobpgfaaGreatDoor
set_option maxRecDepth 8000
open Go Go.Sx
def MadeT (h : Hp) (t : Tb) (u : Value) (h' : Hp) : Prop := ∃ a c a' c', u = .agg #[.bool t.hashed, .slice a t.heads.length c, .slice a' t.slots.length c', .int .i64 t.next, .int .i64 t.count] ∧ My h h' [(.row 1 (t.heads.flatMap idt), .slice a t.heads.length c), (.row 10 (t.slots.flatMap Sl.dt), .slice a' t.slots.length c')]
theorem slot_bulk {t : Tb} {e : Sl} (h : e ∈ t.slots) : V.bulks e.val.items ≤ t.bulk := by
  have h1 := szG_mem (w := Sl.bulk) h
  have h2 := V.bulk_eq e.val
  have e1 : Sl.bulk e = e.key.str.size + e.val.bulk := rfl
  unfold Tb.bulk
  omega
theorem copyTable_c (t : Tb) (hb : t.bulk ≤ 1099511627776) (s u : Value) (h : Hp) (r1 : RdI h t.heads s) (r2 : RdT h t.slots u) : ACalls Tryz.prog 60 #[.agg #[.bool t.hashed, s, u, .int .i64 t.next, .int .i64 t.count]] h (MadeT h t) := by
  obtain ⟨a1, c1, xs1, rfl, hc1, hr1, hat1⟩ := r1.rows (by decide) t.heads.length (fm_len idt_len _)
  obtain ⟨a2, c2, xs2, rfl, hc2, hr2, hat2⟩ := r2.rows (by decide) t.slots.length (fm_len Sl.dt_len _)
  have hlh : t.heads.length ≤ 1099511627776 := by unfold Tb.bulk at hb; omega
  have hls : t.slots.length ≤ 1099511627776 := by have := szG_len (w := Sl.bulk) t.slots; unfold Tb.bulk at hb; omega
  (refine enter Tryz.func60 rfl rfl (by kernel_rfl) [] ?_; simp only [go_sem, Nat.reduceBEq])
  refine regionD_intro (lb := [7, 10, 13, 15]) (by kernel_rfl) ?_
  simp only [go_sem, Nat.reduceBEq]
  refine hsem_my_lit0 slT22 (My.nil (Ext.refl h)) fun v1 h1 m1 => ?_
  obtain ⟨a0, c0, rfl, _⟩ := m1.row_shape (by decide) 0 rfl
  simp only [go_sem, Nat.reduceBEq]
  refine hsem_copyI slT22 m1 (r1.mono m1.ext) hlh fun v2 h2 m2 => ?_
  obtain ⟨a3, c3, rfl, _⟩ := m2.row_shape (by decide) t.heads.length (fm_len idt_len _)
  simp only [go_sem, Nat.reduceBEq, Nat.reduceAdd, Nat.reduceLeDiff]
  refine aloop (ι := Nat × Value) (fun x => [(20, .val (.int .i64 (x.1 : Nat))), (19, .val (.int .i64 (t.slots.length : Nat))), (18, .val (.slice a2 t.slots.length c2)), (3, .box 3 0), (2, .box 2 0)])
    (fun x => [(3, [.bool t.hashed, .slice a3 t.heads.length c3, x.2, .int .i64 t.next, .int .i64 t.count]), (2, [.bool false, .slice none 0 0, .slice none 0 0, .int .i64 0, .int .i64 0])])
    (fun x h' => x.1 ≤ t.slots.length ∧ My h h' [(.row 10 ((t.slots.take x.1).flatMap Sl.dt), x.2), (.row 1 (t.heads.flatMap idt), .slice a3 t.heads.length c3)]) (fun x => t.slots.length - x.1) (0, .slice none 0 0)
    ⟨Nat.zero_le _, m2.nilrow⟩ (by repeat (first | exact wkF_e | refine wkF_c rfl ?_)) (wkB_c rfl (wkB_c rfl wkB_e)) rfl ?_
  rintro ⟨i, o⟩ h1 ⟨hi, m1⟩
  have hi : i ≤ t.slots.length := hi
  have m1 : My h h1 [(.row 10 ((t.slots.take i).flatMap Sl.dt), o), (.row 1 (t.heads.flatMap idt), .slice a3 t.heads.length c3)] := m1
  have htl : ((t.slots.take i).flatMap Sl.dt).length = i * 10 := by rw [fm_len Sl.dt_len, List.length_take, Nat.min_eq_left hi]
  obtain ⟨ao, co, rfl, _⟩ := m1.row_shape (by decide) i htl
  simp only [go_sem, Nat.reduceBEq]
  refine Br.intro (fun hb => ?_) (fun hb => ?_) <;> (try simp only [hb, go_sem, Nat.reduceBEq, Nat.reduceAdd, Nat.reduceLeDiff])
  · have hb : i < t.slots.length := by simpa using hb
    obtain ⟨b, off, rfl, hat'⟩ := hat2 (by omega)
    have hat1 := hat'.mono m1.ext
    have hr1 := hr2.mono m1.ext
    obtain ⟨e, he, hm⟩ := get_lt hb
    have hbe := slot_bulk hm
    have wsu := wrap_succ (i := i) (by omega)
    simp only [ix_nat hb, go_sem, Nat.reduceBEq]
    refine hsem_slot tyS134 hat1 hr1 he rfl fun s2 rd2 => ?_
    obtain ⟨a5, c5, _, rfl, _⟩ := rd2.rows (by decide) e.val.items.length (fm_len edt_len _)
    simp only [go_sem, Nat.reduceBEq, Nat.reduceAdd, Nat.reduceLeDiff]
    refine (copyValue_c e.val (by omega) _ _ rd2).mono ?_
    rintro _ h2 ⟨a6, c6, rfl, m2⟩
    simp only [go_sem, Nat.reduceBEq, Nat.reduceAdd, Nat.reduceLeDiff]
    have m3 := m1.add m2
    refine hsem_my_lit (h0 := h) (es := Sl.dt e) (parts := [(0, .agg #[.bool e.key.text, .int .i64 e.key.num, .string e.key.str, .int .i64 e.val.kind, .int .i64 e.val.num, .string e.val.str, .int .i64 e.val.next, .slice a6 e.val.items.length c6, .bool e.live, .int .i64 e.link])]) slT34 (by decide) (by decide) (by decide) rfl rfl (by simp [Value.cells]) (bag := [(.row 10 ((t.slots.take i).flatMap Sl.dt), .slice ao i co), (.row 1 (t.heads.flatMap idt), .slice a3 t.heads.length c3)]) ?_ rfl (Sl.dt_len e) fun l4 h4 m4 => ?_
    · simp only [flat, List.flatMap_cons, List.flatMap_nil, List.append_nil, cells_agg]
      exact slot_zip e m3
    simp only [go_sem, Nat.reduceBEq]
    refine hsem_my_append slT34 (by decide) rfl i 1 m4.swap htl (Sl.dt_len e) (by show (i + 1) * 112 ≤ _; omega) (by omega) fun l5 h5 m5 => ?_
    have m5 : My h h5 [(.row 10 ((t.slots.take i).flatMap Sl.dt ++ Sl.dt e), l5), (.row 1 (t.heads.flatMap idt), .slice a3 t.heads.length c3)] := m5
    have e5 : (t.slots.take i).flatMap Sl.dt ++ Sl.dt e = (t.slots.take (i + 1)).flatMap Sl.dt := by rw [take_snoc he, List.flatMap_append, List.flatMap_cons, List.flatMap_nil, List.append_nil]
    rw [e5] at m5
    obtain ⟨a7, c7, rfl, _⟩ := m5.row_shape (by decide) (i + 1) (by rw [fm_len Sl.dt_len, List.length_take, Nat.min_eq_left hb])
    simp only [wsu, go_sem, Nat.reduceBEq, Nat.reduceAdd, Nat.reduceLeDiff]
    exact Again.intro (i + 1, .slice a7 (i + 1) c7) (by first | omega | (simp only; omega)) ⟨hb, m5⟩ (by repeat (first | exact wkF_e | refine wkF_c rfl ?_)) (wkB_c rfl (wkB_c rfl wkB_e)) rfl
  · have hb : i = t.slots.length := by simp at hb; omega
    subst hb
    rw [List.take_length] at m1
    try simp only [go_sem, Nat.reduceBEq, Nat.reduceAdd, Nat.reduceLeDiff, Nat.reduceEqDiff, Int.reduceEq, not_false_eq_true, Int.reduceToNat]
    exact ⟨_, _, _, _, rfl, m1.swap⟩
theorem l7Copy_c (t : Tb) (hb : t.bulk ≤ 1099511627776) (s u : Value) (h : Hp) (r1 : RdI h t.heads s) (r2 : RdT h t.slots u) : ACalls Tryz.prog 52 #[.agg #[.bool t.hashed, s, u, .int .i64 t.next, .int .i64 t.count]] h (MadeT h t) := by
  obtain ⟨a1, c1, xs1, rfl, hc1, hr1, hat1⟩ := r1.rows (by decide) t.heads.length (fm_len idt_len _)
  obtain ⟨a2, c2, xs2, rfl, hc2, hr2, hat2⟩ := r2.rows (by decide) t.slots.length (fm_len Sl.dt_len _)
  have hlh : t.heads.length ≤ 1099511627776 := by unfold Tb.bulk at hb; omega
  have hls : t.slots.length ≤ 1099511627776 := by have := szG_len (w := Sl.bulk) t.slots; unfold Tb.bulk at hb; omega
  (refine enter Tryz.func52 rfl rfl (by kernel_rfl) [] ?_; simp only [go_sem, Nat.reduceBEq, Nat.reduceAdd, Nat.reduceLeDiff])
  refine hsem_my_lit0 slT22 (My.nil (Ext.refl h)) fun v1 h1 m1 => ?_
  obtain ⟨a0, c0, rfl, _⟩ := m1.row_shape (by decide) 0 rfl
  simp only [go_sem, Nat.reduceBEq]
  refine hsem_copyI slT22 m1 (r1.mono m1.ext) hlh fun v2 h2 m2 => ?_
  obtain ⟨a3, c3, rfl, _⟩ := m2.row_shape (by decide) t.heads.length (fm_len idt_len _)
  simp only [go_sem, Nat.reduceBEq, Nat.reduceAdd, Nat.reduceLeDiff]
  refine hsem_my_lit0 slT34 m2 fun v3 h3 m3 => ?_
  obtain ⟨a4, c4, rfl, _⟩ := m3.row_shape (by decide) 0 rfl
  simp only [go_sem, Nat.reduceBEq, Nat.reduceAdd, Nat.reduceLeDiff]
  refine aloop (ι := Nat × Value) (fun x => [(4, .val (.int .i64 (x.1 : Nat))), (1, .box 1 0), (3, .box 3 0), (2, .box 2 0)])
    (fun x => [(3, [.bool t.hashed, .slice a3 t.heads.length c3, x.2, .int .i64 t.next, .int .i64 t.count]), (1, [.bool t.hashed, .slice a1 t.heads.length c1, .slice a2 t.slots.length c2, .int .i64 t.next, .int .i64 t.count]), (2, [.bool false, .slice none 0 0, .slice none 0 0, .int .i64 0, .int .i64 0])])
    (fun x h' => x.1 ≤ t.slots.length ∧ My h h' [(.row 10 ((t.slots.take x.1).flatMap Sl.dt), x.2), (.row 1 (t.heads.flatMap idt), .slice a3 t.heads.length c3)]) (fun x => t.slots.length - x.1) (0, .slice a4 0 c4)
    ⟨Nat.zero_le _, m3⟩ (by repeat (first | exact wkF_e | refine wkF_c rfl ?_)) (wkB_c rfl (wkB_c rfl (wkB_c rfl wkB_e))) rfl ?_
  rintro ⟨i, o⟩ h1 ⟨hi, m1⟩
  have hi : i ≤ t.slots.length := hi
  have m1 : My h h1 [(.row 10 ((t.slots.take i).flatMap Sl.dt), o), (.row 1 (t.heads.flatMap idt), .slice a3 t.heads.length c3)] := m1
  have htl : ((t.slots.take i).flatMap Sl.dt).length = i * 10 := by rw [fm_len Sl.dt_len, List.length_take, Nat.min_eq_left hi]
  obtain ⟨ao, co, rfl, _⟩ := m1.row_shape (by decide) i htl
  simp only [go_sem, Nat.reduceBEq]
  refine Br.intro (fun hb => ?_) (fun hb => ?_) <;> (try simp only [hb, go_sem, Nat.reduceBEq, Nat.reduceAdd, Nat.reduceLeDiff])
  · have hb : i < t.slots.length := by simpa using hb
    obtain ⟨b, off, rfl, hat'⟩ := hat2 (by omega)
    have hat1 := hat'.mono m1.ext
    have hr1 := hr2.mono m1.ext
    obtain ⟨e, he, hm⟩ := get_lt hb
    have hbe := slot_bulk hm
    have wsu := wrap_succ (i := i) (by omega)
    simp only [ix_nat hb, go_sem, Nat.reduceBEq]
    refine hsem_slot tyS134 hat1 hr1 he rfl fun s2 rd2 => ?_
    obtain ⟨a5, c5, _, rfl, _⟩ := rd2.rows (by decide) e.val.items.length (fm_len edt_len _)
    simp only [go_sem, Nat.reduceBEq, Nat.reduceAdd, Nat.reduceLeDiff]
    refine (l5Copy_c e.val (by omega) _ _ rd2).mono ?_
    rintro _ h2 ⟨a6, c6, rfl, m2⟩
    simp only [go_sem, Nat.reduceBEq, Nat.reduceAdd, Nat.reduceLeDiff]
    have m3 := m1.add m2
    refine hsem_my_lit (h0 := h) (es := Sl.dt e) (parts := [(0, .agg #[.bool e.key.text, .int .i64 e.key.num, .string e.key.str, .int .i64 e.val.kind, .int .i64 e.val.num, .string e.val.str, .int .i64 e.val.next, .slice a6 e.val.items.length c6, .bool e.live, .int .i64 e.link])]) slT34 (by decide) (by decide) (by decide) rfl rfl (by simp [Value.cells]) (bag := [(.row 10 ((t.slots.take i).flatMap Sl.dt), .slice ao i co), (.row 1 (t.heads.flatMap idt), .slice a3 t.heads.length c3)]) ?_ rfl (Sl.dt_len e) fun l4 h4 m4 => ?_
    · simp only [flat, List.flatMap_cons, List.flatMap_nil, List.append_nil, cells_agg]
      exact slot_zip e m3
    simp only [go_sem, Nat.reduceBEq]
    refine hsem_my_append slT34 (by decide) rfl i 1 m4.swap htl (Sl.dt_len e) (by show (i + 1) * 112 ≤ _; omega) (by omega) fun l5 h5 m5 => ?_
    have m5 : My h h5 [(.row 10 ((t.slots.take i).flatMap Sl.dt ++ Sl.dt e), l5), (.row 1 (t.heads.flatMap idt), .slice a3 t.heads.length c3)] := m5
    have e5 : (t.slots.take i).flatMap Sl.dt ++ Sl.dt e = (t.slots.take (i + 1)).flatMap Sl.dt := by rw [take_snoc he, List.flatMap_append, List.flatMap_cons, List.flatMap_nil, List.append_nil]
    rw [e5] at m5
    obtain ⟨a7, c7, rfl, _⟩ := m5.row_shape (by decide) (i + 1) (by rw [fm_len Sl.dt_len, List.length_take, Nat.min_eq_left hb])
    simp only [wsu, go_sem, Nat.reduceBEq, Nat.reduceAdd, Nat.reduceLeDiff]
    exact Again.intro (i + 1, .slice a7 (i + 1) c7) (by first | omega | (simp only; omega)) ⟨hb, m5⟩ (by repeat (first | exact wkF_e | refine wkF_c rfl ?_)) (wkB_c rfl (wkB_c rfl (wkB_c rfl wkB_e))) rfl
  · have hb : i = t.slots.length := by simp at hb; omega
    subst hb
    rw [List.take_length] at m1
    try simp only [go_sem, Nat.reduceBEq, Nat.reduceAdd, Nat.reduceLeDiff, Nat.reduceEqDiff, Int.reduceEq, not_false_eq_true, Int.reduceToNat]
    exact ⟨_, _, _, _, rfl, m1.swap⟩
theorem iZero (v : V) (sl : Value) (h : Hp) (rd : RdE h v.items sl) : ACalls Tryz.prog 120 #[.agg #[.int .i64 v.kind, .int .i64 v.num, .string v.str, .int .i64 v.next, sl]] h (Pu (.bool v.isZero) h) := by
  obtain ⟨a, c, _, rfl, _⟩ := rd.rows (by decide) v.items.length (fm_len edt_len _)
  (refine enter Tryz.func120 rfl rfl (by kernel_rfl) [] ?_; simp only [go_sem, Nat.reduceBEq])
  unfold V.isZero
  by_cases h1 : v.kind = 0
  case neg => simp only [decide_eq_false h1, Bool.false_and, go_sem, Nat.reduceBEq]; exact ⟨rfl, rfl⟩
  by_cases h2 : v.num = 0
  case neg => simp only [decide_eq_true h1, decide_eq_false h2, Bool.false_and, Bool.true_and, go_sem, Nat.reduceBEq]; exact ⟨rfl, rfl⟩
  by_cases h3 : v.str = ⟨#[]⟩
  case neg => simp only [decide_eq_true h1, decide_eq_true h2, decide_eq_false h3, Bool.false_and, Bool.true_and, go_sem, Nat.reduceBEq]; exact ⟨rfl, rfl⟩
  by_cases h4 : v.next = 0
  case neg => simp only [decide_eq_true h1, decide_eq_true h2, decide_eq_true h3, decide_eq_false h4, Bool.false_and, Bool.true_and, go_sem, Nat.reduceBEq]; exact ⟨rfl, rfl⟩
  simp only [decide_eq_true h1, decide_eq_true h2, decide_eq_true h3, decide_eq_true h4, Bool.true_and, go_sem, Nat.reduceBEq]
  exact ⟨by rw [show decide (((v.items.length : Nat) : Int) = 0) = decide (v.items.length = 0) from decide_eq_decide.2 (by omega)], rfl⟩
theorem sZero (v : V) (sl : Value) (h : Hp) (rd : RdE h v.items sl) : ACalls Tryz.prog 112 #[.agg #[.int .i64 v.kind, .int .i64 v.num, .string v.str, .int .i64 v.next, sl]] h (Pu (.bool v.isZero) h) := by
  obtain ⟨a, c, _, rfl, _⟩ := rd.rows (by decide) v.items.length (fm_len edt_len _)
  (refine enter Tryz.func112 rfl rfl (by kernel_rfl) [] ?_; simp only [go_sem, Nat.reduceBEq])
  unfold V.isZero
  by_cases h1 : v.kind = 0
  case neg => simp only [decide_eq_false h1, Bool.false_and, go_sem, Nat.reduceBEq]; exact ⟨rfl, rfl⟩
  by_cases h2 : v.num = 0
  case neg => simp only [decide_eq_true h1, decide_eq_false h2, Bool.false_and, Bool.true_and, go_sem, Nat.reduceBEq]; exact ⟨rfl, rfl⟩
  by_cases h3 : v.str = ⟨#[]⟩
  case neg => simp only [decide_eq_true h1, decide_eq_true h2, decide_eq_false h3, Bool.false_and, Bool.true_and, go_sem, Nat.reduceBEq]; exact ⟨rfl, rfl⟩
  by_cases h4 : v.next = 0
  case neg => simp only [decide_eq_true h1, decide_eq_true h2, decide_eq_true h3, decide_eq_false h4, Bool.false_and, Bool.true_and, go_sem, Nat.reduceBEq]; exact ⟨rfl, rfl⟩
  simp only [decide_eq_true h1, decide_eq_true h2, decide_eq_true h3, decide_eq_true h4, Bool.true_and, go_sem, Nat.reduceBEq]
  exact ⟨by rw [show decide (((v.items.length : Nat) : Int) = 0) = decide (v.items.length = 0) from decide_eq_decide.2 (by omega)], rfl⟩
theorem iIntKey (n : Int) (h : Hp) : ACalls Tryz.prog 122 #[.int .i64 n] h (Pu (.agg #[.bool false, .int .i64 n, .string ⟨#[]⟩]) h) := by
  (refine enter Tryz.func122 rfl rfl (by kernel_rfl) [] ?_; simp only [go_sem, Nat.reduceBEq, Nat.reduceAdd, Nat.reduceLeDiff])
  exact ⟨rfl, rfl⟩
theorem noHeads_c (n : Nat) (hn : n ≤ 1048576) (h : Hp) : ACalls Tryz.prog 123 #[.int .i64 (n : Nat)] h (fun u h' => ∃ a c, u = .slice a n c ∧ My h h' [(.row 1 ((List.replicate n (-1)).flatMap idt), .slice a n c)]) := by
  (refine enter Tryz.func123 rfl rfl (by kernel_rfl) [] ?_; simp only [go_sem, Nat.reduceBEq])
  refine hsem_my_make slT22 (by decide) rfl rfl hn (by decide) (My.nil (Ext.refl h)) fun bo h1 m1 => ?_
  simp only [go_sem, Nat.reduceBEq]
  generalize hzz : SlT.zero _ = zz at m1
  refine aloop (ι := Nat) (fun i => [(9, .val (.int .i64 (i : Nat))), (8, .val (.int .i64 (n : Nat))), (3, .val (.slice (some ⟨bo, 0, none⟩) n n))]) (fun _ => []) (fun i h' => i ≤ n ∧ My h h' [(.row 1 ((List.replicate i (-1)).flatMap idt ++ zeros zz (n - i)), .slice (some ⟨bo, 0, none⟩) n n)]) (fun i => n - i) 0
    ⟨Nat.zero_le _, m1⟩ (by repeat (first | exact wkF_e | refine wkF_c rfl ?_)) wkB_e rfl ?_
  rintro i h2 ⟨hi, m2⟩
  have hi : i ≤ n := hi
  have m2 : My h h2 [(.row 1 ((List.replicate i (-1)).flatMap idt ++ zeros zz (n - i)), .slice (some ⟨bo, 0, none⟩) n n)] := m2
  simp only [go_sem, Nat.reduceBEq]
  refine Br.intro (fun hb => ?_) (fun hb => ?_) <;> (try simp only [hb, go_sem, Nat.reduceBEq])
  · have hb : i < n := by simpa using hb
    have wsu := wrap_succ (i := i) (by omega)
    simp only [ix_nat hb, go_sem, Nat.reduceBEq]
    rw [zeros_sub zz hb] at m2
    have m3 : My h h2 ((.raw (.int .i64 (-1)), .int .i64 (-1)) :: [(.row 1 ((List.replicate i (-1)).flatMap idt ++ (zz.map .raw ++ zeros zz (n - (i + 1)))), .slice (some ⟨bo, 0, none⟩) n n)]) := m2.raw rfl
    refine hsem_my_put (es := idt (-1)) tyS3 m3 (by omega) (by rw [List.length_map, ← hzz]; rfl) rfl rfl ?_ fun h4 m4 => ?_
    · rw [fm_len idt_len, List.length_replicate]
    simp only [wsu, go_sem, Nat.reduceBEq]
    refine Again.intro (i + 1) (by first | omega | (simp only; omega)) ⟨hb, ?_⟩ (by repeat (first | exact wkF_e | refine wkF_c rfl ?_)) wkB_e rfl
    rw [List.replicate_succ', List.flatMap_append, List.flatMap_cons, List.flatMap_nil, List.append_nil, List.append_assoc]
    exact m4
  · have hb : i = n := by simp at hb; omega
    subst hb
    rw [Nat.sub_self] at m2
    try simp only [go_sem, Nat.reduceBEq, Nat.reduceAdd, Nat.reduceLeDiff, Nat.reduceEqDiff, Int.reduceEq, not_false_eq_true, Int.reduceToNat]
    exact ⟨_, _, rfl, by simpa [zeros] using m2⟩
end Go.Proofs.YtedfplodobpgfaaGreatDoor
