/-
  What SortValues of the program and of the reference return: the values put in their places one after the other.
-/
import Derived.Test.YtconhonjkfpfmaaDoorOrd
import Derived.Test.YtconhonjkfpfmaaDoorCopy
import Derived.Test.YtconhonjkfpfmaaDoorInsert
import Derived.Test.YtconhonjkfpfmaaDoorSxStill
namespace Go.Proofs.YtconhonjkfpfmaaDoor
set_option maxRecDepth 8000
open Go Go.Sx
/-- where the value goes, looking at the first i from the last one on -/
def posV (l : List V) (v : V) : Nat → Nat
  | 0 => 0
  | i + 1 => if V.cmp (l.getD i V.null) v = 1 then posV l v i else i + 1
theorem posV_le (l : List V) (v : V) : ∀ i, posV l v i ≤ i
  | 0 => Nat.le_refl _
  | i + 1 => by
    have := posV_le l v i
    rw [posV]
    split <;> omega
def insV (l : List V) (v : V) : List V := l.take (posV l v l.length) ++ v :: l.drop (posV l v l.length)
def sortV (l : List V) : List V := l.foldl insV []
theorem sortV_snoc {l : List V} {i : Nat} {v : V} (h : l[i]? = some v) : sortV (l.take (i + 1)) = insV (sortV (l.take i)) v := by
  rw [take_snoc h]
  unfold sortV
  rw [List.foldl_append]
  rfl
theorem insV_perm (l : List V) (v : V) : (insV l v).Perm (v :: l) := by
  unfold insV
  refine List.perm_middle.trans (List.Perm.cons v ?_)
  rw [List.take_append_drop]
theorem fold_perm : ∀ (l acc : List V), (l.foldl insV acc).Perm (acc ++ l)
  | [], acc => by rw [List.append_nil]; exact List.Perm.refl _
  | v :: r, acc => by
    refine (fold_perm r (insV acc v)).trans ?_
    refine ((insV_perm acc v).append_right r).trans ?_
    exact (List.perm_middle (l₁ := acc) (l₂ := r) (a := v)).symm
theorem sortV_perm (l : List V) : (sortV l).Perm l := fold_perm l []
theorem sortV_len (l : List V) : (sortV l).length = l.length := (sortV_perm l).length_eq
theorem gsum_perm {α : Type} {w : α → Nat} {p q : List α} (h : p.Perm q) : gsum w p = gsum w q := by
  induction h with
  | nil => rfl
  | cons a _ ih => simp only [gsum, List.map_cons, List.sum_cons] at ih ⊢; omega
  | swap a b l => simp only [gsum, List.map_cons, List.sum_cons]; omega
  | trans _ _ h1 h2 => exact h1.trans h2
theorem sortV_bulk (l : List V) : szG V.bulk (sortV l) = szG V.bulk l := by
  unfold szG
  rw [gsum_perm (sortV_perm l), sortV_len]
theorem take_sort_len {l : List V} {i : Nat} (h : i ≤ l.length) : (sortV (l.take i)).length = i := by rw [sortV_len, List.length_take]; omega
theorem take_sort_mem {l : List V} {i : Nat} {e : V} (h : e ∈ sortV (l.take i)) : e ∈ l := List.mem_of_mem_take ((sortV_perm _).mem_iff.1 h)
def MadeL (h : Hp) (l : List V) (u : Value) (h' : Hp) : Prop := ∃ a c, u = .slice a l.length c ∧ My h h' [(.row 5 (l.flatMap V.dt), .slice a l.length c)]
theorem getD_at {l : List V} {i : Nat} {e : V} (h : l[i]? = some e) : l.getD i V.null = e := by rw [List.getD_eq_getElem?_getD, h]; rfl
theorem dt_take5 (v : V) : (v.dt.drop 0).take 5 = v.dt := by rw [List.drop_zero, List.take_of_length_le (by rw [V.dt_len]; exact Nat.le_refl _)]
set_option maxHeartbeats 3200000 in
theorem iSort (l : List V) (ok : ∀ v ∈ l, v.ok) (hl : szG V.bulk l ≤ 1048576) (sl : Value) (h : Hp) (rd : Rd h (.row 5 (l.flatMap V.dt)) sl) (hT : Pow h) : ACalls Tryd.prog 33 #[sl] h (MadeL h (sortV l)) := by
  have hlen : l.length ≤ 1048576 := by unfold szG at hl; omega
  obtain ⟨a, c, xs, rfl, hc, hr, hat⟩ := rd.rows (by decide) l.length (fm_len V.dt_len _)
  (refine enter Tryd.func33 rfl rfl (by kernel_rfl) [] ?_; simp only [go_sem])
  refine hsem_my_lit0 slT56 (My.nil (Ext.refl h)) fun v0 hh0 m0 => ?_
  obtain ⟨a0, c0, rfl, _⟩ := m0.row_shape (by decide) 0 rfl
  try simp only [go_sem, Nat.reduceBEq]
  refine aloop (ι := Nat × Option Addr × Nat) (fun x => [(10, .val (.int .i64 (x.1 : Nat))), (9, .val (.int .i64 (l.length : Nat))), (8, .val (.slice a l.length c)), (3, .val (.slice x.2.1 x.1 x.2.2))]) (fun _ => [])
    (fun x h' => x.1 ≤ l.length ∧ My h h' [(.row 5 ((sortV (l.take x.1)).flatMap V.dt), .slice x.2.1 x.1 x.2.2)]) (fun x => l.length - x.1) (0, a0, c0) ⟨Nat.zero_le _, m0⟩ (by repeat (first | exact wkF_e | refine wkF_c rfl ?_)) wkB_e rfl ?_
  rintro ⟨i, a1, c1⟩ h1 ⟨hi, m1⟩
  have hi : i ≤ l.length := hi
  have m1 : My h h1 [(.row 5 ((sortV (l.take i)).flatMap V.dt), .slice a1 i c1)] := m1
  try simp only [go_sem, Nat.reduceBEq]
  by_cases hlt : i < l.length
  case neg =>
    obtain rfl : i = l.length := by omega
    simp only [show decide (((l.length : Nat) : Int) < (l.length : Nat)) = false from decide_eq_false (by omega), go_sem, Nat.reduceBEq]
    rw [List.take_length] at m1
    refine ⟨a1, c1, by rw [sortV_len], ?_⟩
    rw [sortV_len]
    exact m1
  simp only [show decide ((i : Int) < (l.length : Nat)) = true from decide_eq_true (by omega), go_sem, Nat.reduceBEq]
  obtain ⟨b, off, rfl, hat'⟩ := hat (by omega)
  obtain ⟨v, hv, hvm⟩ := get_lt hlt
  have hvb := vbulk_mem hvm
  have wsu := wrap_succ (i := i) (by omega)
  simp only [ix_nat hlt, go_sem, Nat.reduceBEq]
  refine hsem_row (f := V.dt) (o := 0) (ds := v.dt) V.dt_len tyS26 (hat'.mono m1.ext) (hr.mono m1.ext) hv (Nat.le_refl _) (dt_take5 v) (by omega) fun ys q1 => ?_
  obtain ⟨s1, rfl, rv⟩ := RdL_val q1
  obtain ⟨av, cv, _, rfl, _⟩ := rv.rows (by decide) v.items.length (fm_len edt_len _)
  try simp only [go_sem, Nat.reduceBEq, Nat.reduceAdd, Nat.reduceLeDiff]
  refine aloop (ι := Nat) (fun k => [(6, .val (.int .i64 (k : Nat))), (10, .val (.int .i64 (i : Nat))), (9, .val (.int .i64 (l.length : Nat))), (8, .val (.slice (some ⟨b, off, none⟩) l.length c)), (5, .box 5 0), (3, .val (.slice a1 i c1))])
    (fun _ => [(5, [.int .i64 v.kind, .int .i64 v.num, .string v.str, .int .i64 v.next, .slice av v.items.length cv])])
    (fun k h' => k ≤ i ∧ Ext h1 h' ∧ posV (sortV (l.take i)) v k = posV (sortV (l.take i)) v i) (fun k => k) i ⟨Nat.le_refl _, Ext.refl _, rfl⟩ (by repeat (first | exact wkF_e | refine wkF_c rfl ?_)) (wkB_c rfl wkB_e) rfl ?_
  rintro k h3 ⟨hk, e3, hp⟩
  have hk : k ≤ i := hk
  try simp only [go_sem]
  cases k with
  | zero =>
    try simp only [show decide ((0 : Int) < ((0 : Nat) : Int)) = false from rfl, go_sem, Nat.reduceBEq, Nat.reduceAdd, Nat.reduceLeDiff, Nat.reduceEqDiff, Int.reduceEq, not_false_eq_true, Int.reduceToNat]
    try (refine regionD_intro (lb := [24]) (by kernel_rfl) ?_)
    try simp only [go_sem, Nat.reduceBEq]
    try simp only [show decide ((0 : Int) < ((0 : Nat) : Int)) = false from rfl, go_sem, Nat.reduceBEq, Nat.reduceAdd, Nat.reduceLeDiff, Nat.reduceEqDiff]
    refine (copyValue_c v (by have := V.bulk_eq v; omega) _ _ (rv.mono e3)).mono ?_
    rintro _ h4 ⟨a4, c4, rfl, m4⟩
    have m4 := (m1.mono e3).add m4
    try simp only [go_sem, Nat.reduceBEq]
    refine hsem_my_lit (h0 := h) (es := v.dt) (parts := [(0, .agg #[.int .i64 v.kind, .int .i64 v.num, .string v.str, .int .i64 v.next, .slice a4 v.items.length c4])]) slT56 (by decide) (by decide) (by decide) rfl rfl (by simp [Value.cells]) (bag := [(.row 5 ((sortV (l.take i)).flatMap V.dt), .slice a1 i c1)]) ?_ rfl (V.dt_len v) fun v5 h5 m5 => ?_
    · simp only [V.dt_eq, flat, List.flatMap_cons, List.flatMap_nil, List.append_nil, cells_agg, List.zip_cons_cons, List.zip_nil_right, List.cons_append, List.nil_append, My.raw_iff, one_int, one_str, and_self, true_and]
      exact m4
    try simp only [go_sem, Nat.reduceBEq]
    refine (insert_c (i := 0) (n := i) m5.swap (by rw [fm_len V.dt_len, take_sort_len hi]) (V.dt_len v) (by omega) (by omega)).mono ?_
    rintro _ h6 ⟨a6, c6, rfl, m6⟩
    have e6 : ((sortV (l.take i)).flatMap V.dt).take (0 * 5) ++ (v.dt ++ ((sortV (l.take i)).flatMap V.dt).drop (0 * 5)) = (sortV (l.take (i + 1))).flatMap V.dt := by
      rw [fm_takeN V.dt_len, fm_drop V.dt_len, sortV_snoc hv]
      unfold insV
      rw [take_sort_len hi, ← hp, show posV (sortV (l.take i)) v 0 = 0 from rfl, List.flatMap_append, List.flatMap_cons]
    rw [e6] at m6
    try simp only [go_sem, Nat.reduceBEq]
    simp only [wsu, go_sem]
    exact Again.intro (i + 1, a6, c6) (by first | omega | (simp only; omega)) ⟨by omega, m6⟩ (by repeat (first | exact wkF_e | refine wkF_c rfl ?_)) wkB_e rfl
  | succ j =>
  have hjl : j < (sortV (l.take i)).length := by rw [take_sort_len hi]; omega
  obtain ⟨e, he, hem⟩ := get_lt hjl
  have heb := vbulk_mem (take_sort_mem hem)
  have wpr := wrap_pred (n := j + 1) (by omega) (by omega)
  rw [Nat.add_sub_cancel] at wpr
  have m3 := m1.mono e3
  obtain ⟨_, _, xs2, eq2, _, hr2, hat2⟩ := m3.rd.rows (by decide) i (by rw [fm_len V.dt_len, take_sort_len hi])
  cases eq2
  obtain ⟨b2, off2, eq3, hat2'⟩ := hat2 (by omega)
  subst eq3
  have hix : ixA (some 5) (some ⟨b2, off2, none⟩) i ((j : Nat) : Int) = some (.pointer (some ⟨b2, off2 + j * 5, none⟩)) := ix_nat (by omega)
  have hps : posV (sortV (l.take i)) v (j + 1) = if V.cmp e v = 1 then posV (sortV (l.take i)) v j else j + 1 := by rw [posV, getD_at he]
  rw [hps] at hp
  refine regionD_intro (lb := [24]) (by kernel_rfl) ?_
  simp only [show decide ((0 : Int) < ((j + 1 : Nat) : Int)) = true from decide_eq_true (by omega), wpr, hix, go_sem, Nat.reduceBEq]
  refine hsem_row (f := V.dt) (o := 0) (ds := e.dt) V.dt_len tyS26 hat2' hr2 he (Nat.le_refl _) (dt_take5 e) (by omega) fun ys q2 => ?_
  obtain ⟨s2, rfl, re⟩ := RdL_val q2
  try simp only [go_sem, Nat.reduceBEq, Nat.reduceAdd, Nat.reduceLeDiff]
  refine (iCompare e v (ok e (take_sort_mem hem)) (ok v hvm) (by omega) (by omega) _ _ _ re (rv.mono e3) (hT.ext (m1.ext.trans e3))).mono ?_
  rintro _ h9 ⟨rfl, e9⟩
  have e3 := e3.trans e9
  try simp only [go_sem, Nat.reduceBEq]
  by_cases hcmp : V.cmp e v = 1
  · rw [if_pos hcmp] at hp
    simp only [decide_eq_true hcmp, wpr, go_sem, Nat.reduceBEq]
    exact Again.intro j (by first | omega | (simp only; omega)) ⟨by omega, e3, hp⟩ (by repeat (first | exact wkF_e | refine wkF_c rfl ?_)) (wkB_c rfl wkB_e) rfl
  rw [if_neg hcmp] at hp
  simp only [decide_eq_false hcmp, go_sem, Nat.reduceBEq, Nat.reduceAdd, Nat.reduceLeDiff, Nat.reduceEqDiff]
  refine (copyValue_c v (by have := V.bulk_eq v; omega) _ _ (rv.mono e3)).mono ?_
  rintro _ h4 ⟨a4, c4, rfl, m4⟩
  have m4 := (m1.mono e3).add m4
  try simp only [go_sem, Nat.reduceBEq]
  refine hsem_my_lit (h0 := h) (es := v.dt) (parts := [(0, .agg #[.int .i64 v.kind, .int .i64 v.num, .string v.str, .int .i64 v.next, .slice a4 v.items.length c4])]) slT56 (by decide) (by decide) (by decide) rfl rfl (by simp [Value.cells]) (bag := [(.row 5 ((sortV (l.take i)).flatMap V.dt), .slice (some ⟨b2, off2, none⟩) i c1)]) ?_ rfl (V.dt_len v) fun v5 h5 m5 => ?_
  · simp only [V.dt_eq, flat, List.flatMap_cons, List.flatMap_nil, List.append_nil, cells_agg, List.zip_cons_cons, List.zip_nil_right, List.cons_append, List.nil_append, My.raw_iff, one_int, one_str, and_self, true_and]
    exact m4
  try simp only [go_sem, Nat.reduceBEq]
  refine (insert_c (i := j + 1) (n := i) m5.swap (by rw [fm_len V.dt_len, take_sort_len hi]) (V.dt_len v) (by omega) (by omega)).mono ?_
  rintro _ h6 ⟨a6, c6, rfl, m6⟩
  have e6 : ((sortV (l.take i)).flatMap V.dt).take ((j + 1) * 5) ++ (v.dt ++ ((sortV (l.take i)).flatMap V.dt).drop ((j + 1) * 5)) = (sortV (l.take (i + 1))).flatMap V.dt := by
    rw [fm_takeN V.dt_len, fm_drop V.dt_len, sortV_snoc hv]
    unfold insV
    rw [take_sort_len hi, ← hp, List.flatMap_append, List.flatMap_cons]
  rw [e6] at m6
  try simp only [go_sem, Nat.reduceBEq]
  simp only [wsu, go_sem]
  exact Again.intro (i + 1, a6, c6) (by first | omega | (simp only; omega)) ⟨by omega, m6⟩ (by repeat (first | exact wkF_e | refine wkF_c rfl ?_)) wkB_e rfl
theorem l5All_c (l : List V) (hl : szG V.bulk l ≤ 1048576) (sl : Value) (h : Hp) (rd : Rd h (.row 5 (l.flatMap V.dt)) sl) : ACalls Tryd.prog 66 #[sl] h (MadeL h l) := by
  have hlen : l.length ≤ 1048576 := by unfold szG at hl; omega
  obtain ⟨a, c, xs, rfl, hc, hr, hat⟩ := rd.rows (by decide) l.length (fm_len V.dt_len _)
  (refine enter Tryd.func66 rfl rfl (by kernel_rfl) [] ?_; simp only [go_sem])
  refine hsem_my_lit0 slT56 (My.nil (Ext.refl h)) fun v0 hh0 m0 => ?_
  obtain ⟨a0, c0, rfl, _⟩ := m0.row_shape (by decide) 0 rfl
  try simp only [go_sem, Nat.reduceBEq]
  refine aloop (ι := Nat × Option Addr × Nat) (fun x => [(4, .val (.int .i64 (x.1 : Nat))), (3, .val (.slice x.2.1 x.1 x.2.2)), (0, .val (.slice a l.length c))]) (fun _ => [])
    (fun x h' => x.1 ≤ l.length ∧ My h h' [(.row 5 ((l.take x.1).flatMap V.dt), .slice x.2.1 x.1 x.2.2)]) (fun x => l.length - x.1) (0, a0, c0) ⟨Nat.zero_le _, m0⟩ (by repeat (first | exact wkF_e | refine wkF_c rfl ?_)) wkB_e rfl ?_
  rintro ⟨i, a1, c1⟩ h1 ⟨hi, m1⟩
  have hi : i ≤ l.length := hi
  have m1 : My h h1 [(.row 5 ((l.take i).flatMap V.dt), .slice a1 i c1)] := m1
  try simp only [go_sem, Nat.reduceBEq]
  by_cases hlt : i < l.length
  case neg =>
    obtain rfl : i = l.length := by omega
    simp only [show decide (((l.length : Nat) : Int) < (l.length : Nat)) = false from decide_eq_false (by omega), go_sem, Nat.reduceBEq]
    rw [List.take_length] at m1
    exact ⟨a1, c1, rfl, m1⟩
  simp only [show decide ((i : Int) < (l.length : Nat)) = true from decide_eq_true (by omega), go_sem, Nat.reduceBEq]
  obtain ⟨b, off, rfl, hat'⟩ := hat (by omega)
  obtain ⟨v, hv, hvm⟩ := get_lt hlt
  have hvb := vbulk_mem hvm
  have wsu := wrap_succ (i := i) (by omega)
  simp only [ix_nat hlt, go_sem, Nat.reduceBEq]
  refine hsem_row (f := V.dt) (o := 0) (ds := v.dt) V.dt_len tyS26 (hat'.mono m1.ext) (hr.mono m1.ext) hv (Nat.le_refl _) (dt_take5 v) (by omega) fun ys q1 => ?_
  obtain ⟨s1, rfl, rv⟩ := RdL_val q1
  try simp only [go_sem, Nat.reduceBEq]
  refine (l5Copy_c v (by have := V.bulk_eq v; omega) _ _ rv).mono ?_
  rintro _ h4 ⟨a4, c4, rfl, m4⟩
  have m4 := m1.add m4
  try simp only [go_sem, Nat.reduceBEq]
  refine hsem_my_lit (h0 := h) (es := v.dt) (parts := [(0, .agg #[.int .i64 v.kind, .int .i64 v.num, .string v.str, .int .i64 v.next, .slice a4 v.items.length c4])]) slT56 (by decide) (by decide) (by decide) rfl rfl (by simp [Value.cells]) (bag := [(.row 5 ((l.take i).flatMap V.dt), .slice a1 i c1)]) ?_ rfl (V.dt_len v) fun v5 h5 m5 => ?_
  · simp only [V.dt_eq, flat, List.flatMap_cons, List.flatMap_nil, List.append_nil, cells_agg, List.zip_cons_cons, List.zip_nil_right, List.cons_append, List.nil_append, My.raw_iff, one_int, one_str, and_self, true_and]
    exact m4
  try simp only [go_sem, Nat.reduceBEq]
  have hz64 : (i + 1) * 64 ≤ 140737488355328 := by omega
  refine hsem_my_append slT56 (by decide) rfl i 1 m5.swap (by rw [fm_len V.dt_len, List.length_take, Nat.min_eq_left hi]) (V.dt_len v) hz64 (by omega) fun v6 h6 m6 => ?_
  have e6 : (l.take i).flatMap V.dt ++ v.dt = (l.take (i + 1)).flatMap V.dt := by rw [take_snoc hv, List.flatMap_append, List.flatMap_cons, List.flatMap_nil, List.append_nil]
  rw [e6] at m6
  have m6 : My h h6 [(.row 5 ((l.take (i + 1)).flatMap V.dt), v6)] := m6
  obtain ⟨a7, c7, rfl, _⟩ := m6.row_shape (by decide) (i + 1) (by rw [fm_len V.dt_len, List.length_take, Nat.min_eq_left hlt])
  try simp only [go_sem, Nat.reduceBEq]
  simp only [wsu, go_sem]
  exact Again.intro (i + 1, a7, c7) (by first | omega | (simp only; omega)) ⟨hlt, m6⟩ (by repeat (first | exact wkF_e | refine wkF_c rfl ?_)) wkB_e rfl
/-- the load of a value of a slice -/
theorem rdv_get {P : Program} {h0 h : Hp} {K : Value → Hp → Prop} {t b off i j : Nat} {es : List V} {e : V} {xs : List Value} (ht : tyS P t = some (true, 5)) (hat : At h ⟨b, off, none⟩ xs) (hr : RdL h0 (es.flatMap V.dt) xs) (hi : es[i]? = some e) (hj : j = off + i * 5)
    (k : ∀ sl, RdE h0 e.items sl → K (.agg #[.int .i64 e.kind, .int .i64 e.num, .string e.str, .int .i64 e.next, sl]) h) : HPure P (ldI t (.pointer (some ⟨b, j, none⟩))) h K := by
  have r1 := (hr.drop (i * 5)).take 5
  have e1 : ((es.flatMap V.dt).drop (i * 5)).take 5 = e.dt := by
    have := fm_take V.dt_len hi 0 5 (Nat.le_refl _)
    rw [Nat.add_zero] at this
    rw [this, dt_take5]
  rw [e1] at r1
  obtain ⟨sl, h1, h2⟩ := RdL_val r1
  refine hsem_atN ht hat (us := [.int .i64 e.kind, .int .i64 e.num, .string e.str, .int .i64 e.next, sl]) rfl h1 hj ?_
  exact k sl h2
theorem RdL_val_mk {h : Hp} {v : V} {sl : Value} (hs : RdE h v.items sl) : RdL h v.dt [.int .i64 v.kind, .int .i64 v.num, .string v.str, .int .i64 v.next, sl] := by
  simp only [V.dt_eq, RdL_cc, Rd_raw, RdL_nil, true_and, and_true]
  exact ⟨rfl, rfl, rfl, rfl, hs⟩
set_option maxHeartbeats 6400000 in
theorem sSort (l : List V) (ok : ∀ v ∈ l, v.ok) (hl : szG V.bulk l ≤ 1048576) (sl : Value) (h : Hp) (rd : Rd h (.row 5 (l.flatMap V.dt)) sl) (hT : Pow h) : ACalls Tryd.prog 31 #[sl] h (MadeL h (sortV l)) := by
  have hlen : l.length ≤ 1048576 := by unfold szG at hl; omega
  obtain ⟨a, c, xs, rfl, hc, hr, hat⟩ := rd.rows (by decide) l.length (fm_len V.dt_len _)
  (refine enter Tryd.func31 rfl rfl (by kernel_rfl) [] ?_; simp only [go_sem])
  refine hsem_my_lit0 slT56 (My.nil (Ext.refl h)) fun v0 hh0 m0 => ?_
  obtain ⟨a0, c0, rfl, _⟩ := m0.row_shape (by decide) 0 rfl
  try simp only [go_sem, Nat.reduceBEq]
  refine aloop (ι := Nat × List Value × Option Addr × Nat) (fun x => [(4, .val (.int .i64 (x.1 : Nat))), (3, .val (.slice x.2.2.1 x.1 x.2.2.2)), (0, .val (.slice a l.length c))]) (fun _ => [])
    (fun x h' => x.1 ≤ l.length ∧ RdL h ((sortV (l.take x.1)).flatMap V.dt) x.2.1 ∧ My h h' [(.row 5 (x.2.1.map .raw), .slice x.2.2.1 x.1 x.2.2.2)]) (fun x => l.length - x.1) (0, [], a0, c0) ⟨Nat.zero_le _, (RdL_nil.2 rfl), m0⟩ (by repeat (first | exact wkF_e | refine wkF_c rfl ?_)) wkB_e rfl ?_
  rintro ⟨i, us, a1, c1⟩ h1 ⟨hi, hu, m1⟩
  have hi : i ≤ l.length := hi
  have hu : RdL h ((sortV (l.take i)).flatMap V.dt) us := hu
  have m1 : My h h1 [(.row 5 (us.map .raw), .slice a1 i c1)] := m1
  have lus : us.length = i * 5 := by rw [hu.len, fm_len V.dt_len, take_sort_len hi]
  try simp only [go_sem, Nat.reduceBEq]
  by_cases hlt : i < l.length
  case neg =>
    obtain rfl : i = l.length := by omega
    simp only [show decide (((l.length : Nat) : Int) < (l.length : Nat)) = false from decide_eq_false (by omega), go_sem, Nat.reduceBEq]
    rw [List.take_length] at hu
    refine (l5All_c (sortV l) (by rw [sortV_bulk]; exact hl) _ _ (Rd.of_raws m1.rd (hu.mono m1.ext))).mono ?_
    rintro _ h2 ⟨a2, c2, rfl, m2⟩
    try simp only [go_sem, Nat.reduceBEq]
    exact ⟨a2, c2, rfl, m2.base m1.ext⟩
  simp only [show decide ((i : Int) < (l.length : Nat)) = true from decide_eq_true (by omega), go_sem, Nat.reduceBEq]
  obtain ⟨b, off, rfl, hat'⟩ := hat (by omega)
  obtain ⟨v, hv, hvm⟩ := get_lt hlt
  have hvb := vbulk_mem hvm
  have wsu := wrap_succ (i := i) (by omega)
  refine aloop (ι := Nat) (fun k => [(5, .val (.int .i64 (k : Nat))), (4, .val (.int .i64 (i : Nat))), (3, .val (.slice a1 i c1)), (0, .val (.slice (some ⟨b, off, none⟩) l.length c))]) (fun _ => [])
    (fun k h' => k ≤ i ∧ Ext h1 h' ∧ posV (sortV (l.take i)) v k = posV (sortV (l.take i)) v i) (fun k => k) i ⟨Nat.le_refl _, Ext.refl _, rfl⟩ (by repeat (first | exact wkF_e | refine wkF_c rfl ?_)) wkB_e rfl ?_
  rintro k h3 ⟨hk, e3, hp⟩
  have hk : k ≤ i := hk
  have rs : RdS h3 5 (.slice a1 i c1) us := by
    have := (m1.mono e3).rd
    simp only [Rd] at this
    obtain ⟨ws, q1, q2⟩ := this
    rw [RdL.of_raws q2] at q1
    exact q1
  try simp only [go_sem]
  cases k with
  | zero =>
    try simp only [show decide ((0 : Int) < ((0 : Nat) : Int)) = false from rfl, go_sem, Nat.reduceBEq, Nat.reduceAdd, Nat.reduceLeDiff, Nat.reduceEqDiff, Int.reduceEq, not_false_eq_true, Int.reduceToNat]
    refine regionD_intro (lb := []) (by kernel_rfl) ?_
    try simp only [show decide ((0 : Int) < ((0 : Nat) : Int)) = false from rfl, go_sem, Nat.reduceBEq, Nat.reduceEqDiff]
    obtain ⟨a7, e7, r7⟩ := rs.sub 0 0 (by omega) (by omega)
    obtain ⟨a8, e8, r8⟩ := rs.sub 0 i (by omega) (by omega)
    have e7 : slA (some 5) a1 i c1 0 (((0 : Nat) : Int) : Int) = some (.slice a7 (0 - 0) (c1 - 0)) := e7
    have e8 : slA (some 5) a1 i c1 (((0 : Nat) : Int) : Int) (i : Int) = some (.slice a8 (i - 0) (c1 - 0)) := e8
    rw [Nat.zero_mul, List.drop_zero] at r7
    have r8 : RdS h3 5 (.slice a8 (i - 0) (c1 - 0)) (us.drop (0 * 5)) := by
      rw [List.take_of_length_le (by rw [List.length_drop, lus, Nat.sub_mul]; exact Nat.le_refl _)] at r8
      exact r8
    have l7 : (us.take ((0 - 0) * 5)).length = 0 * 5 := by rw [List.length_take, lus, Nat.sub_zero]; exact Nat.min_eq_left (Nat.mul_le_mul_right _ (by omega))
    have l8 : (us.drop (0 * 5)).length = (i - 0) * 5 := by rw [List.length_drop, lus, Nat.sub_mul]
    have z1 : (0 + 0) * 64 ≤ 140737488355328 := Nat.le_trans (Nat.mul_le_mul_right 64 (show 0 + 0 ≤ 2097152 by omega)) (by decide)
    have z2 : (0 + 1) * 64 ≤ 140737488355328 := Nat.le_trans (Nat.mul_le_mul_right 64 (show 0 + 1 ≤ 2097152 by omega)) (by decide)
    have z3 : (0 + 1 + (i - 0)) * 64 ≤ 140737488355328 := Nat.le_trans (Nat.mul_le_mul_right 64 (show 0 + 1 + (i - 0) ≤ 2097152 by omega)) (by decide)
    have E0 := Ext.refl h3
    refine regionT_still (lb := []) (pl := [40]) h3 E0 (.two [1, 2, 3, 5, 6, 7, 8, 11, 12, 13] 0 (.two [] 4 (.one [9, 10, 14, 15]) 9 (.one [4, 10, 14, 15])) 9 (.one [0, 4, 10, 14, 15])) (by kernel_rfl) ?_
    simp only [e7, ix_nat hlt, runPlan_two, runPlan_one, plk_c, plk_n, plk_s, List.getElem?_toArray, List.getElem?_cons_succ, List.getElem?_cons_zero, go_sem, Nat.reduceBEq]
    refine rdv_get tyS26 (hat'.mono (m1.ext.trans e3)) hr hv rfl fun s4 rv4 => ?_
    have hone4 := (RdL_val_mk rv4).one
    simp only [e8, go_sem, Nat.reduceBEq]
    refine bothK_mk ?_ ?_
    · try simp only [go_sem]
      refine hsem_my_lit0 slT56 (My.nil (Ext.refl h3)) fun v5 h5 N5 => ?_
      refine ⟨N5.ext, ?_⟩
      try simp only [go_sem]
      refine bothK_mk ?_ ?_
      · try simp only [go_sem, Nat.reduceBEq]
        refine hsem_my_appendR slT56 (by decide) rfl 0 0 N5 (r7.mono N5.ext) rfl l7 z1 (by omega) fun v7 h7 N7 => ?_
        refine ⟨N7.ext, ?_⟩
        try simp only [go_sem, Nat.reduceBEq]
        refine hsem_my_lit (h0 := h3) (es := ([.int .i64 v.kind, .int .i64 v.num, .string v.str, .int .i64 v.next, s4] : List Value).map .raw) (parts := [(0, .agg #[.int .i64 v.kind, .int .i64 v.num, .string v.str, .int .i64 v.next, s4])]) slT56 (by decide) (by decide) (by decide) rfl rfl (by simp [Value.cells]) (raws_zip hone4 N7) rfl rfl fun v6 h6 N6 => ?_
        refine ⟨N6.ext, ?_⟩
        try simp only [go_sem, Nat.reduceBEq]
        refine hsem_my_append slT56 (by decide) rfl 0 1 N6.swap (by rw [List.length_append, List.length_map, l7]; simp) rfl z2 (by omega) fun v8 h8 N8 => ?_
        refine ⟨N8.ext, ?_⟩
        try simp only [go_sem, Nat.reduceBEq]
        refine hsem_my_appendR slT56 (by decide) rfl (0 + 1) (i - 0) N8 (r8.mono N8.ext) (by simp [l7] <;> omega) l8 z3 (by omega) fun v9 h9 N9 => ?_
        refine ⟨N9.ext, ?_⟩
        have N9 : My h3 h9 [(.row 5 ((us.take ((0 - 0) * 5) ++ ([.int .i64 v.kind, .int .i64 v.num, .string v.str, .int .i64 v.next, s4] ++ us.drop (0 * 5))).map .raw), v9)] := by simpa using N9
        have r9 : RdL h ((sortV (l.take (i + 1))).flatMap V.dt) (us.take ((0 - 0) * 5) ++ ([.int .i64 v.kind, .int .i64 v.num, .string v.str, .int .i64 v.next, s4] ++ us.drop (0 * 5))) := by
          rw [sortV_snoc hv]
          unfold insV
          rw [take_sort_len hi, ← hp, show posV (sortV (l.take i)) v 0 = 0 from rfl, List.flatMap_append, List.flatMap_cons, ← fm_takeN V.dt_len, ← fm_drop V.dt_len, Nat.sub_zero]
          exact (hu.take _).append ((RdL_val_mk rv4).append (hu.drop _))
        obtain ⟨a9, c9, rfl, _⟩ := N9.row_shape (by decide) (i + 1) (by rw [List.length_map, r9.len, fm_len V.dt_len, take_sort_len hlt])
        try simp only [go_sem, Nat.reduceBEq]
        simp only [wsu, go_sem]
        exact Again.intro (i + 1, us.take ((0 - 0) * 5) ++ ([.int .i64 v.kind, .int .i64 v.num, .string v.str, .int .i64 v.next, s4] ++ us.drop (0 * 5)), a9, c9) (by first | omega | (simp only; omega)) ⟨hlt, r9, N9.base (m1.ext.trans e3)⟩ (by repeat (first | exact wkF_e | refine wkF_c rfl ?_)) wkB_e rfl
      · try simp only [go_sem, Nat.reduceBEq]
        refine hsem_my_lit (h0 := h3) (es := ([.int .i64 v.kind, .int .i64 v.num, .string v.str, .int .i64 v.next, s4] : List Value).map .raw) (parts := [(0, .agg #[.int .i64 v.kind, .int .i64 v.num, .string v.str, .int .i64 v.next, s4])]) slT56 (by decide) (by decide) (by decide) rfl rfl (by simp [Value.cells]) (raws_zip hone4 N5) rfl rfl fun v6 h6 N6 => ?_
        refine ⟨N6.ext, ?_⟩
        try simp only [go_sem, Nat.reduceBEq]
        refine hsem_my_appendR slT56 (by decide) rfl 0 0 N6.swap (r7.mono N6.ext) rfl l7 z1 (by omega) fun v7 h7 N7 => ?_
        refine ⟨N7.ext, ?_⟩
        try simp only [go_sem, Nat.reduceBEq]
        refine hsem_my_append slT56 (by decide) rfl 0 1 N7 (by rw [List.length_append, List.length_map, l7]; simp) rfl z2 (by omega) fun v8 h8 N8 => ?_
        refine ⟨N8.ext, ?_⟩
        try simp only [go_sem, Nat.reduceBEq]
        refine hsem_my_appendR slT56 (by decide) rfl (0 + 1) (i - 0) N8 (r8.mono N8.ext) (by simp [l7] <;> omega) l8 z3 (by omega) fun v9 h9 N9 => ?_
        refine ⟨N9.ext, ?_⟩
        have N9 : My h3 h9 [(.row 5 ((us.take ((0 - 0) * 5) ++ ([.int .i64 v.kind, .int .i64 v.num, .string v.str, .int .i64 v.next, s4] ++ us.drop (0 * 5))).map .raw), v9)] := by simpa using N9
        have r9 : RdL h ((sortV (l.take (i + 1))).flatMap V.dt) (us.take ((0 - 0) * 5) ++ ([.int .i64 v.kind, .int .i64 v.num, .string v.str, .int .i64 v.next, s4] ++ us.drop (0 * 5))) := by
          rw [sortV_snoc hv]
          unfold insV
          rw [take_sort_len hi, ← hp, show posV (sortV (l.take i)) v 0 = 0 from rfl, List.flatMap_append, List.flatMap_cons, ← fm_takeN V.dt_len, ← fm_drop V.dt_len, Nat.sub_zero]
          exact (hu.take _).append ((RdL_val_mk rv4).append (hu.drop _))
        obtain ⟨a9, c9, rfl, _⟩ := N9.row_shape (by decide) (i + 1) (by rw [List.length_map, r9.len, fm_len V.dt_len, take_sort_len hlt])
        try simp only [go_sem, Nat.reduceBEq]
        simp only [wsu, go_sem]
        exact Again.intro (i + 1, us.take ((0 - 0) * 5) ++ ([.int .i64 v.kind, .int .i64 v.num, .string v.str, .int .i64 v.next, s4] ++ us.drop (0 * 5)), a9, c9) (by first | omega | (simp only; omega)) ⟨hlt, r9, N9.base (m1.ext.trans e3)⟩ (by repeat (first | exact wkF_e | refine wkF_c rfl ?_)) wkB_e rfl
    · try simp only [go_sem, Nat.reduceBEq]
      refine hsem_my_lit (h0 := h3) (es := ([.int .i64 v.kind, .int .i64 v.num, .string v.str, .int .i64 v.next, s4] : List Value).map .raw) (parts := [(0, .agg #[.int .i64 v.kind, .int .i64 v.num, .string v.str, .int .i64 v.next, s4])]) slT56 (by decide) (by decide) (by decide) rfl rfl (by simp [Value.cells]) (raws_zip hone4 (My.nil (Ext.refl h3))) rfl rfl fun v6 h6 N6 => ?_
      refine ⟨N6.ext, ?_⟩
      try simp only [go_sem]
      refine hsem_my_lit0 slT56 N6 fun v5 h5 N5 => ?_
      refine ⟨N5.ext, ?_⟩
      try simp only [go_sem, Nat.reduceBEq]
      refine hsem_my_appendR slT56 (by decide) rfl 0 0 N5 (r7.mono N5.ext) rfl l7 z1 (by omega) fun v7 h7 N7 => ?_
      refine ⟨N7.ext, ?_⟩
      try simp only [go_sem, Nat.reduceBEq]
      refine hsem_my_append slT56 (by decide) rfl 0 1 N7 (by rw [List.length_append, List.length_map, l7]; simp) rfl z2 (by omega) fun v8 h8 N8 => ?_
      refine ⟨N8.ext, ?_⟩
      try simp only [go_sem, Nat.reduceBEq]
      refine hsem_my_appendR slT56 (by decide) rfl (0 + 1) (i - 0) N8 (r8.mono N8.ext) (by simp [l7] <;> omega) l8 z3 (by omega) fun v9 h9 N9 => ?_
      refine ⟨N9.ext, ?_⟩
      have N9 : My h3 h9 [(.row 5 ((us.take ((0 - 0) * 5) ++ ([.int .i64 v.kind, .int .i64 v.num, .string v.str, .int .i64 v.next, s4] ++ us.drop (0 * 5))).map .raw), v9)] := by simpa using N9
      have r9 : RdL h ((sortV (l.take (i + 1))).flatMap V.dt) (us.take ((0 - 0) * 5) ++ ([.int .i64 v.kind, .int .i64 v.num, .string v.str, .int .i64 v.next, s4] ++ us.drop (0 * 5))) := by
        rw [sortV_snoc hv]
        unfold insV
        rw [take_sort_len hi, ← hp, show posV (sortV (l.take i)) v 0 = 0 from rfl, List.flatMap_append, List.flatMap_cons, ← fm_takeN V.dt_len, ← fm_drop V.dt_len, Nat.sub_zero]
        exact (hu.take _).append ((RdL_val_mk rv4).append (hu.drop _))
      obtain ⟨a9, c9, rfl, _⟩ := N9.row_shape (by decide) (i + 1) (by rw [List.length_map, r9.len, fm_len V.dt_len, take_sort_len hlt])
      try simp only [go_sem, Nat.reduceBEq]
      simp only [wsu, go_sem]
      exact Again.intro (i + 1, us.take ((0 - 0) * 5) ++ ([.int .i64 v.kind, .int .i64 v.num, .string v.str, .int .i64 v.next, s4] ++ us.drop (0 * 5)), a9, c9) (by first | omega | (simp only; omega)) ⟨hlt, r9, N9.base (m1.ext.trans e3)⟩ (by repeat (first | exact wkF_e | refine wkF_c rfl ?_)) wkB_e rfl
  | succ j =>
  have hjl : j < (sortV (l.take i)).length := by rw [take_sort_len hi]; omega
  obtain ⟨e, he, hem⟩ := get_lt hjl
  have heb := vbulk_mem (take_sort_mem hem)
  have wpr := wrap_pred (n := j + 1) (by omega) (by omega)
  rw [Nat.add_sub_cancel] at wpr
  obtain ⟨_, _, eq2, _, hat2⟩ := rs.slice i (by decide) lus
  cases eq2
  obtain ⟨b2, off2, eq3, hat2'⟩ := hat2 (by omega)
  subst eq3
  have hix : ixA (some 5) (some ⟨b2, off2, none⟩) i ((j : Nat) : Int) = some (.pointer (some ⟨b2, off2 + j * 5, none⟩)) := ix_nat (by omega)
  have hps : posV (sortV (l.take i)) v (j + 1) = if V.cmp e v = 1 then posV (sortV (l.take i)) v j else j + 1 := by rw [posV, getD_at he]
  rw [hps] at hp
  refine regionD_intro (lb := []) (by kernel_rfl) ?_
  simp only [show decide ((0 : Int) < ((j + 1 : Nat) : Int)) = true from decide_eq_true (by omega), wpr, hix, go_sem, Nat.reduceBEq]
  refine rdv_get tyS26 hat2' hu he rfl fun s2 re => ?_
  try simp only [ix_nat hlt, go_sem, Nat.reduceBEq]
  refine rdv_get tyS26 (hat'.mono (m1.ext.trans e3)) hr hv rfl fun s3 rv => ?_
  try simp only [go_sem, Nat.reduceBEq]
  refine (sCompare e v (ok e (take_sort_mem hem)) (ok v hvm) (by omega) (by omega) _ _ _ (re.mono (m1.ext.trans e3)) (rv.mono (m1.ext.trans e3)) (hT.ext (m1.ext.trans e3))).mono ?_
  rintro _ hB ⟨rfl, e9⟩
  have rs := rs.mono e9
  have e3 := e3.trans e9
  clear hat2 hat2' e9
  try simp only [go_sem, Nat.reduceBEq]
  by_cases hcmp : V.cmp e v = 1
  · rw [if_pos hcmp] at hp
    simp only [decide_eq_true hcmp, wpr, go_sem, Nat.reduceBEq]
    exact Again.intro j (by first | omega | (simp only; omega)) ⟨by omega, e3, hp⟩ (by repeat (first | exact wkF_e | refine wkF_c rfl ?_)) wkB_e rfl
  rw [if_neg hcmp] at hp
  simp only [decide_eq_false hcmp, go_sem, Nat.reduceBEq, Nat.reduceEqDiff]
  obtain ⟨a7, e7, r7⟩ := rs.sub 0 (j + 1) (by omega) (by omega)
  obtain ⟨a8, e8, r8⟩ := rs.sub (j + 1) i (by omega) (by omega)
  have e7 : slA (some 5) (some ⟨b2, off2, none⟩) i c1 0 (((j + 1 : Nat) : Int) : Int) = some (.slice a7 ((j + 1) - 0) (c1 - 0)) := e7
  have e8 : slA (some 5) (some ⟨b2, off2, none⟩) i c1 (((j + 1 : Nat) : Int) : Int) (i : Int) = some (.slice a8 (i - (j + 1)) (c1 - (j + 1))) := e8
  rw [Nat.zero_mul, List.drop_zero] at r7
  have r8 : RdS hB 5 (.slice a8 (i - (j + 1)) (c1 - (j + 1))) (us.drop ((j + 1) * 5)) := by
    rw [List.take_of_length_le (by rw [List.length_drop, lus, Nat.sub_mul]; exact Nat.le_refl _)] at r8
    exact r8
  have l7 : (us.take (((j + 1) - 0) * 5)).length = (j + 1) * 5 := by rw [List.length_take, lus, Nat.sub_zero]; exact Nat.min_eq_left (Nat.mul_le_mul_right _ (by omega))
  have l8 : (us.drop ((j + 1) * 5)).length = (i - (j + 1)) * 5 := by rw [List.length_drop, lus, Nat.sub_mul]
  have z1 : (0 + (j + 1)) * 64 ≤ 140737488355328 := Nat.le_trans (Nat.mul_le_mul_right 64 (show 0 + (j + 1) ≤ 2097152 by omega)) (by decide)
  have z2 : ((j + 1) + 1) * 64 ≤ 140737488355328 := Nat.le_trans (Nat.mul_le_mul_right 64 (show (j + 1) + 1 ≤ 2097152 by omega)) (by decide)
  have z3 : ((j + 1) + 1 + (i - (j + 1))) * 64 ≤ 140737488355328 := Nat.le_trans (Nat.mul_le_mul_right 64 (show (j + 1) + 1 + (i - (j + 1)) ≤ 2097152 by omega)) (by decide)
  have E0 := Ext.refl hB
  refine regionT_still (lb := []) (pl := [40]) hB E0 (.two [1, 2, 3, 5, 6, 7, 8, 11, 12, 13] 0 (.two [] 4 (.one [9, 10, 14, 15]) 9 (.one [4, 10, 14, 15])) 9 (.one [0, 4, 10, 14, 15])) (by kernel_rfl) ?_
  simp only [e7, ix_nat hlt, runPlan_two, runPlan_one, plk_c, plk_n, plk_s, List.getElem?_toArray, List.getElem?_cons_succ, List.getElem?_cons_zero, go_sem, Nat.reduceBEq]
  refine rdv_get tyS26 (hat'.mono (m1.ext.trans e3)) hr hv rfl fun s4 rv4 => ?_
  have hone4 := (RdL_val_mk rv4).one
  simp only [e8, go_sem, Nat.reduceBEq]
  refine bothK_mk ?_ ?_
  · try simp only [go_sem]
    refine hsem_my_lit0 slT56 (My.nil (Ext.refl hB)) fun v5 h5 N5 => ?_
    refine ⟨N5.ext, ?_⟩
    try simp only [go_sem]
    refine bothK_mk ?_ ?_
    · try simp only [go_sem, Nat.reduceBEq]
      refine hsem_my_appendR slT56 (by decide) rfl 0 (j + 1) N5 (r7.mono N5.ext) rfl l7 z1 (by omega) fun v7 h7 N7 => ?_
      refine ⟨N7.ext, ?_⟩
      try simp only [go_sem, Nat.reduceBEq]
      refine hsem_my_lit (h0 := hB) (es := ([.int .i64 v.kind, .int .i64 v.num, .string v.str, .int .i64 v.next, s4] : List Value).map .raw) (parts := [(0, .agg #[.int .i64 v.kind, .int .i64 v.num, .string v.str, .int .i64 v.next, s4])]) slT56 (by decide) (by decide) (by decide) rfl rfl (by simp [Value.cells]) (raws_zip hone4 N7) rfl rfl fun v6 h6 N6 => ?_
      refine ⟨N6.ext, ?_⟩
      try simp only [go_sem, Nat.reduceBEq]
      refine hsem_my_append slT56 (by decide) rfl (j + 1) 1 N6.swap (by rw [List.length_append, List.length_map, l7]; simp) rfl z2 (by omega) fun v8 h8 N8 => ?_
      refine ⟨N8.ext, ?_⟩
      try simp only [go_sem, Nat.reduceBEq]
      refine hsem_my_appendR slT56 (by decide) rfl ((j + 1) + 1) (i - (j + 1)) N8 (r8.mono N8.ext) (by simp [l7] <;> omega) l8 z3 (by omega) fun v9 h9 N9 => ?_
      refine ⟨N9.ext, ?_⟩
      have N9 : My hB h9 [(.row 5 ((us.take (((j + 1) - 0) * 5) ++ ([.int .i64 v.kind, .int .i64 v.num, .string v.str, .int .i64 v.next, s4] ++ us.drop ((j + 1) * 5))).map .raw), v9)] := by simpa using N9
      have r9 : RdL h ((sortV (l.take (i + 1))).flatMap V.dt) (us.take (((j + 1) - 0) * 5) ++ ([.int .i64 v.kind, .int .i64 v.num, .string v.str, .int .i64 v.next, s4] ++ us.drop ((j + 1) * 5))) := by
        rw [sortV_snoc hv]
        unfold insV
        rw [take_sort_len hi, ← hp, List.flatMap_append, List.flatMap_cons, ← fm_takeN V.dt_len, ← fm_drop V.dt_len, Nat.sub_zero]
        exact (hu.take _).append ((RdL_val_mk rv4).append (hu.drop _))
      obtain ⟨a9, c9, rfl, _⟩ := N9.row_shape (by decide) (i + 1) (by rw [List.length_map, r9.len, fm_len V.dt_len, take_sort_len hlt])
      try simp only [go_sem, Nat.reduceBEq]
      simp only [wsu, go_sem]
      exact Again.intro (i + 1, us.take (((j + 1) - 0) * 5) ++ ([.int .i64 v.kind, .int .i64 v.num, .string v.str, .int .i64 v.next, s4] ++ us.drop ((j + 1) * 5)), a9, c9) (by first | omega | (simp only; omega)) ⟨hlt, r9, N9.base (m1.ext.trans e3)⟩ (by repeat (first | exact wkF_e | refine wkF_c rfl ?_)) wkB_e rfl
    · try simp only [go_sem, Nat.reduceBEq]
      refine hsem_my_lit (h0 := hB) (es := ([.int .i64 v.kind, .int .i64 v.num, .string v.str, .int .i64 v.next, s4] : List Value).map .raw) (parts := [(0, .agg #[.int .i64 v.kind, .int .i64 v.num, .string v.str, .int .i64 v.next, s4])]) slT56 (by decide) (by decide) (by decide) rfl rfl (by simp [Value.cells]) (raws_zip hone4 N5) rfl rfl fun v6 h6 N6 => ?_
      refine ⟨N6.ext, ?_⟩
      try simp only [go_sem, Nat.reduceBEq]
      refine hsem_my_appendR slT56 (by decide) rfl 0 (j + 1) N6.swap (r7.mono N6.ext) rfl l7 z1 (by omega) fun v7 h7 N7 => ?_
      refine ⟨N7.ext, ?_⟩
      try simp only [go_sem, Nat.reduceBEq]
      refine hsem_my_append slT56 (by decide) rfl (j + 1) 1 N7 (by rw [List.length_append, List.length_map, l7]; simp) rfl z2 (by omega) fun v8 h8 N8 => ?_
      refine ⟨N8.ext, ?_⟩
      try simp only [go_sem, Nat.reduceBEq]
      refine hsem_my_appendR slT56 (by decide) rfl ((j + 1) + 1) (i - (j + 1)) N8 (r8.mono N8.ext) (by simp [l7] <;> omega) l8 z3 (by omega) fun v9 h9 N9 => ?_
      refine ⟨N9.ext, ?_⟩
      have N9 : My hB h9 [(.row 5 ((us.take (((j + 1) - 0) * 5) ++ ([.int .i64 v.kind, .int .i64 v.num, .string v.str, .int .i64 v.next, s4] ++ us.drop ((j + 1) * 5))).map .raw), v9)] := by simpa using N9
      have r9 : RdL h ((sortV (l.take (i + 1))).flatMap V.dt) (us.take (((j + 1) - 0) * 5) ++ ([.int .i64 v.kind, .int .i64 v.num, .string v.str, .int .i64 v.next, s4] ++ us.drop ((j + 1) * 5))) := by
        rw [sortV_snoc hv]
        unfold insV
        rw [take_sort_len hi, ← hp, List.flatMap_append, List.flatMap_cons, ← fm_takeN V.dt_len, ← fm_drop V.dt_len, Nat.sub_zero]
        exact (hu.take _).append ((RdL_val_mk rv4).append (hu.drop _))
      obtain ⟨a9, c9, rfl, _⟩ := N9.row_shape (by decide) (i + 1) (by rw [List.length_map, r9.len, fm_len V.dt_len, take_sort_len hlt])
      try simp only [go_sem, Nat.reduceBEq]
      simp only [wsu, go_sem]
      exact Again.intro (i + 1, us.take (((j + 1) - 0) * 5) ++ ([.int .i64 v.kind, .int .i64 v.num, .string v.str, .int .i64 v.next, s4] ++ us.drop ((j + 1) * 5)), a9, c9) (by first | omega | (simp only; omega)) ⟨hlt, r9, N9.base (m1.ext.trans e3)⟩ (by repeat (first | exact wkF_e | refine wkF_c rfl ?_)) wkB_e rfl
  · try simp only [go_sem, Nat.reduceBEq]
    refine hsem_my_lit (h0 := hB) (es := ([.int .i64 v.kind, .int .i64 v.num, .string v.str, .int .i64 v.next, s4] : List Value).map .raw) (parts := [(0, .agg #[.int .i64 v.kind, .int .i64 v.num, .string v.str, .int .i64 v.next, s4])]) slT56 (by decide) (by decide) (by decide) rfl rfl (by simp [Value.cells]) (raws_zip hone4 (My.nil (Ext.refl hB))) rfl rfl fun v6 h6 N6 => ?_
    refine ⟨N6.ext, ?_⟩
    try simp only [go_sem]
    refine hsem_my_lit0 slT56 N6 fun v5 h5 N5 => ?_
    refine ⟨N5.ext, ?_⟩
    try simp only [go_sem, Nat.reduceBEq]
    refine hsem_my_appendR slT56 (by decide) rfl 0 (j + 1) N5 (r7.mono N5.ext) rfl l7 z1 (by omega) fun v7 h7 N7 => ?_
    refine ⟨N7.ext, ?_⟩
    try simp only [go_sem, Nat.reduceBEq]
    refine hsem_my_append slT56 (by decide) rfl (j + 1) 1 N7 (by rw [List.length_append, List.length_map, l7]; simp) rfl z2 (by omega) fun v8 h8 N8 => ?_
    refine ⟨N8.ext, ?_⟩
    try simp only [go_sem, Nat.reduceBEq]
    refine hsem_my_appendR slT56 (by decide) rfl ((j + 1) + 1) (i - (j + 1)) N8 (r8.mono N8.ext) (by simp [l7] <;> omega) l8 z3 (by omega) fun v9 h9 N9 => ?_
    refine ⟨N9.ext, ?_⟩
    have N9 : My hB h9 [(.row 5 ((us.take (((j + 1) - 0) * 5) ++ ([.int .i64 v.kind, .int .i64 v.num, .string v.str, .int .i64 v.next, s4] ++ us.drop ((j + 1) * 5))).map .raw), v9)] := by simpa using N9
    have r9 : RdL h ((sortV (l.take (i + 1))).flatMap V.dt) (us.take (((j + 1) - 0) * 5) ++ ([.int .i64 v.kind, .int .i64 v.num, .string v.str, .int .i64 v.next, s4] ++ us.drop ((j + 1) * 5))) := by
      rw [sortV_snoc hv]
      unfold insV
      rw [take_sort_len hi, ← hp, List.flatMap_append, List.flatMap_cons, ← fm_takeN V.dt_len, ← fm_drop V.dt_len, Nat.sub_zero]
      exact (hu.take _).append ((RdL_val_mk rv4).append (hu.drop _))
    obtain ⟨a9, c9, rfl, _⟩ := N9.row_shape (by decide) (i + 1) (by rw [List.length_map, r9.len, fm_len V.dt_len, take_sort_len hlt])
    try simp only [go_sem, Nat.reduceBEq]
    simp only [wsu, go_sem]
    exact Again.intro (i + 1, us.take (((j + 1) - 0) * 5) ++ ([.int .i64 v.kind, .int .i64 v.num, .string v.str, .int .i64 v.next, s4] ++ us.drop ((j + 1) * 5)), a9, c9) (by first | omega | (simp only; omega)) ⟨hlt, r9, N9.base (m1.ext.trans e3)⟩ (by repeat (first | exact wkF_e | refine wkF_c rfl ?_)) wkB_e rfl
end Go.Proofs.YtconhonjkfpfmaaDoor
