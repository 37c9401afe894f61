/-
  What copyValue and l5Copy do: a copy, all its memory new; the value holds at most 2^40 entries and letters.
-/
import Derived.Test.YtconhonjkfpfmaaDoorNum
namespace Go.Proofs.YtconhonjkfpfmaaDoor
set_option maxRecDepth 8000
open Go Go.Sx
theorem bulks_mem' : ∀ {es : List (Ky × V)} {e : Ky × V}, e ∈ es → V.bulks e.2.items ≤ V.bulks es
  | (k, v) :: r, e, he => by
    simp only [V.bulks, V.bulk_eq]
    cases he with
    | head => simp only; omega
    | tail _ he => have := bulks_mem' he; omega
theorem bulks_len' : ∀ es : List (Ky × V), es.length ≤ V.bulks es
  | [] => Nat.le_refl _
  | (k, v) :: r => by
    have := bulks_len' r
    simp only [V.bulks, List.length_cons]
    omega
def Made (h : Hp) (v : V) (u : Value) (h' : Hp) : Prop := ∃ a c, u = .agg #[.int .i64 v.kind, .int .i64 v.num, .string v.str, .int .i64 v.next, .slice a v.items.length c] ∧ My h h' [(.row 8 (v.items.flatMap edt), .slice a v.items.length c)]
def CopyI (v : V) : Prop := V.bulks v.items ≤ 1099511627776 → ∀ (h : Hp) (sl : Value), RdE h v.items sl →
  ACalls Tryd.prog 69 #[.agg #[.int .i64 v.kind, .int .i64 v.num, .string v.str, .int .i64 v.next, sl]] h (Made h v)
theorem copyValue_c : ∀ v, CopyI v := V.ind fun v ih hbk h sl rd => by
  have hlen := bulks_len' v.items
  obtain ⟨a, c, xs, rfl, hc, hr, hat⟩ := rd.rows (by decide) v.items.length (fm_len edt_len _)
  (refine enter Tryd.func69 rfl rfl (by kernel_rfl) [] ?_; simp only [go_sem, Nat.reduceBEq, Nat.reduceAdd, Nat.reduceLeDiff])
  refine aloop (ι := Nat × Value) (fun x => [(11, .val (.int .i64 (x.1 : Nat))), (10, .val (.int .i64 (v.items.length : Nat))), (9, .val (.slice a v.items.length c)), (3, .box 3 0), (2, .box 2 0)])
    (fun x => [(3, [.int .i64 v.kind, .int .i64 v.num, .string v.str, .int .i64 v.next, x.2]), (2, [.int .i64 0, .int .i64 0, .string ⟨#[]⟩, .int .i64 0, .slice none 0 0])])
    (fun x h' => x.1 ≤ v.items.length ∧ My h h' [(.row 8 ((v.items.take x.1).flatMap edt), x.2)]) (fun x => v.items.length - x.1) (0, .slice none 0 0)
    ⟨Nat.zero_le _, (My.nil (Ext.refl h)).nilrow⟩ (by repeat (first | exact wkF_e | refine wkF_c rfl ?_)) (wkB_c rfl (wkB_c rfl wkB_e)) rfl ?_
  rintro ⟨i, o⟩ h1 ⟨hi, m1⟩
  have hi : i ≤ v.items.length := hi
  have m1 : My h h1 [(.row 8 ((v.items.take i).flatMap edt), o)] := m1
  have htl : ((v.items.take i).flatMap edt).length = i * 8 := by rw [fm_len edt_len, List.length_take, Nat.min_eq_left hi]
  obtain ⟨ao, co, rfl, _⟩ := m1.row_shape (by decide) i htl
  simp only [go_sem, Nat.reduceBEq]
  refine Br.intro (fun hb => ?_) (fun hb => ?_) <;> (try simp only [hb, go_sem, Nat.reduceBEq, Nat.reduceAdd, Nat.reduceLeDiff])
  · have hb : i < v.items.length := by simpa using hb
    obtain ⟨b, off, rfl, hat'⟩ := hat (by omega)
    have hat1 := hat'.mono m1.ext
    have hr1 := hr.mono m1.ext
    obtain ⟨e, he, hm⟩ := get_lt hb
    have wsu := wrap_succ (i := i) (by omega)
    simp only [ix_nat hb, go_sem, Nat.reduceBEq]
    refine hsem_entry tyS69 hat1 hr1 he rfl fun s2 rd2 => ?_
    obtain ⟨a2, c2, _, rfl, _⟩ := rd2.rows (by decide) e.2.items.length (fm_len edt_len _)
    simp only [go_sem, Nat.reduceBEq, Nat.reduceAdd, Nat.reduceLeDiff]
    refine regionD_intro (lb := [16, 18, 20]) (by kernel_rfl) ?_
    simp only [go_sem, Nat.reduceBEq, Nat.reduceAdd, Nat.reduceLeDiff]
    refine (ih e hm (by have := bulks_mem' hm; omega) _ _ rd2).mono ?_
    rintro _ h2 ⟨a3, c3, rfl, m2⟩
    simp only [go_sem, Nat.reduceBEq, Nat.reduceAdd, Nat.reduceLeDiff]
    have m3 := (m1.add m2)
    refine hsem_my_lit (h0 := h) (es := edt e) (parts := [(0, .agg #[.bool e.1.text, .int .i64 e.1.num, .string e.1.str, .int .i64 e.2.kind, .int .i64 e.2.num, .string e.2.str, .int .i64 e.2.next, .slice a3 e.2.items.length c3])]) slT24 (by decide) (by decide) (by decide) rfl rfl (by simp [Value.cells]) (bag := [(.row 8 ((v.items.take i).flatMap edt), .slice ao i co)]) ?_ rfl (edt_len e) fun l4 h4 m4 => ?_
    · simp only [edt_eq, flat, List.flatMap_cons, List.flatMap_nil, List.append_nil, cells_agg, List.zip_cons_cons, List.zip_nil_right, List.cons_append, List.nil_append, My.raw_iff, one_bool, one_int, one_str, and_self, true_and]
      exact m3
    simp only [go_sem, Nat.reduceBEq]
    refine hsem_my_append slT24 (by decide) rfl i 1 m4.swap htl (edt_len e) (by show (i + 1) * 96 ≤ _; omega) (by omega) fun l5 h5 m5 => ?_
    have m5 : My h h5 [(.row 8 ((v.items.take i).flatMap edt ++ edt e), l5)] := m5
    have e5 : (v.items.take i).flatMap edt ++ edt e = (v.items.take (i + 1)).flatMap edt := by rw [take_snoc he, List.flatMap_append, List.flatMap_cons, List.flatMap_nil, List.append_nil]
    rw [e5] at m5
    obtain ⟨a6, c6, rfl, _⟩ := m5.row_shape (by decide) (i + 1) (by rw [fm_len edt_len, List.length_take, Nat.min_eq_left hb])
    simp only [wsu, go_sem, Nat.reduceBEq, Nat.reduceAdd, Nat.reduceLeDiff]
    exact Again.intro (i + 1, .slice a6 (i + 1) c6) (by first | omega | (simp only; omega)) ⟨hb, m5⟩ (by repeat (first | exact wkF_e | refine wkF_c rfl ?_)) (wkB_c rfl (wkB_c rfl wkB_e)) rfl
  · have hb : i = v.items.length := by simp at hb; omega
    subst hb
    rw [List.take_length] at m1
    try simp only [go_sem, Nat.reduceBEq, Nat.reduceAdd, Nat.reduceLeDiff, Nat.reduceEqDiff, Int.reduceEq, not_false_eq_true, Int.reduceToNat]
    exact ⟨_, _, rfl, m1⟩
def CopyS (v : V) : Prop := V.bulks v.items ≤ 1099511627776 → ∀ (h : Hp) (sl : Value), RdE h v.items sl →
  ACalls Tryd.prog 74 #[.agg #[.int .i64 v.kind, .int .i64 v.num, .string v.str, .int .i64 v.next, sl]] h (Made h v)
theorem l5Copy_c : ∀ v, CopyS v := V.ind fun v ih hbk h sl rd => by
  have hlen := bulks_len' v.items
  obtain ⟨a, c, xs, rfl, hc, hr, hat⟩ := rd.rows (by decide) v.items.length (fm_len edt_len _)
  (refine enter Tryd.func74 rfl rfl (by kernel_rfl) [] ?_; simp only [go_sem, Nat.reduceBEq, Nat.reduceAdd, Nat.reduceLeDiff])
  refine aloop (ι := Nat × Value) (fun x => [(4, .val (.int .i64 (x.1 : Nat))), (1, .box 1 0), (3, .box 3 0), (2, .box 2 0)])
    (fun x => [(3, [.int .i64 v.kind, .int .i64 v.num, .string v.str, .int .i64 v.next, x.2]), (1, [.int .i64 v.kind, .int .i64 v.num, .string v.str, .int .i64 v.next, .slice a v.items.length c]), (2, [.int .i64 0, .int .i64 0, .string ⟨#[]⟩, .int .i64 0, .slice none 0 0])])
    (fun x h' => x.1 ≤ v.items.length ∧ My h h' [(.row 8 ((v.items.take x.1).flatMap edt), x.2)]) (fun x => v.items.length - x.1) (0, .slice none 0 0)
    ⟨Nat.zero_le _, (My.nil (Ext.refl h)).nilrow⟩ (by repeat (first | exact wkF_e | refine wkF_c rfl ?_)) (wkB_c rfl (wkB_c rfl (wkB_c rfl wkB_e))) rfl ?_
  rintro ⟨i, o⟩ h1 ⟨hi, m1⟩
  have hi : i ≤ v.items.length := hi
  have m1 : My h h1 [(.row 8 ((v.items.take i).flatMap edt), o)] := m1
  have htl : ((v.items.take i).flatMap edt).length = i * 8 := by rw [fm_len edt_len, List.length_take, Nat.min_eq_left hi]
  obtain ⟨ao, co, rfl, _⟩ := m1.row_shape (by decide) i htl
  simp only [go_sem, Nat.reduceBEq]
  refine Br.intro (fun hb => ?_) (fun hb => ?_) <;> (try simp only [hb, go_sem, Nat.reduceBEq, Nat.reduceAdd, Nat.reduceLeDiff])
  · have hb : i < v.items.length := by simpa using hb
    obtain ⟨b, off, rfl, hat'⟩ := hat (by omega)
    have hat1 := hat'.mono m1.ext
    have hr1 := hr.mono m1.ext
    obtain ⟨e, he, hm⟩ := get_lt hb
    have wsu := wrap_succ (i := i) (by omega)
    refine regionD_still (lb := [15, 17, 23]) (pl := [21]) h m1.ext (by kernel_rfl) ?_
    simp only [ix_nat hb, go_sem, Nat.reduceBEq]
    refine hsem_ekey tyS40 hat' hr he rfl ?_
    simp only [ix_nat hb, go_sem, Nat.reduceBEq, Nat.reduceAdd]
    refine hsem_eval tyS26 hat1 hr1 he rfl fun s2 rd2 => ?_
    simp only [go_sem, Nat.reduceBEq]
    refine (ih e hm (by have := bulks_mem' hm; omega) _ _ rd2).mono ?_
    rintro _ h2 ⟨a3, c3, rfl, m2⟩
    simp only [go_sem, Nat.reduceBEq, Nat.reduceAdd, Nat.reduceLeDiff]
    refine ⟨m1.ext.trans m2.ext, ?_⟩
    have m3 := (m1.add m2)
    refine hsem_my_lit (h0 := h) (es := edt e) (parts := [(0, .agg #[.bool e.1.text, .int .i64 e.1.num, .string e.1.str, .int .i64 e.2.kind, .int .i64 e.2.num, .string e.2.str, .int .i64 e.2.next, .slice a3 e.2.items.length c3])]) slT24 (by decide) (by decide) (by decide) rfl rfl (by simp [Value.cells]) (bag := [(.row 8 ((v.items.take i).flatMap edt), .slice ao i co)]) ?_ rfl (edt_len e) fun l4 h4 m4 => ?_
    · simp only [edt_eq, flat, List.flatMap_cons, List.flatMap_nil, List.append_nil, cells_agg, List.zip_cons_cons, List.zip_nil_right, List.cons_append, List.nil_append, My.raw_iff, one_bool, one_int, one_str, and_self, true_and]
      exact m3
    simp only [go_sem, Nat.reduceBEq]
    refine ⟨m4.ext, ?_⟩
    refine hsem_my_append slT24 (by decide) rfl i 1 m4.swap htl (edt_len e) (by show (i + 1) * 96 ≤ _; omega) (by omega) fun l5 h5 m5 => ?_
    have m5 : My h h5 [(.row 8 ((v.items.take i).flatMap edt ++ edt e), l5)] := m5
    have e5 : (v.items.take i).flatMap edt ++ edt e = (v.items.take (i + 1)).flatMap edt := by rw [take_snoc he, List.flatMap_append, List.flatMap_cons, List.flatMap_nil, List.append_nil]
    rw [e5] at m5
    obtain ⟨a6, c6, rfl, _⟩ := m5.row_shape (by decide) (i + 1) (by rw [fm_len edt_len, List.length_take, Nat.min_eq_left hb])
    simp only [wsu, go_sem, Nat.reduceBEq, Nat.reduceAdd, Nat.reduceLeDiff]
    refine ⟨m5.ext, ?_⟩
    exact Again.intro (i + 1, .slice a6 (i + 1) c6) (by first | omega | (simp only; omega)) ⟨hb, m5⟩ (by repeat (first | exact wkF_e | refine wkF_c rfl ?_)) (wkB_c rfl (wkB_c rfl (wkB_c rfl wkB_e))) rfl
  · have hb : i = v.items.length := by simp at hb; omega
    subst hb
    rw [List.take_length] at m1
    try simp only [go_sem, Nat.reduceBEq, Nat.reduceAdd, Nat.reduceLeDiff, Nat.reduceEqDiff, Int.reduceEq, not_false_eq_true, Int.reduceToNat]
    exact ⟨_, _, rfl, m1⟩
end Go.Proofs.YtconhonjkfpfmaaDoor
