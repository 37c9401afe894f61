/-
  What the laws' sz.., eq.., to.., mark.., held.. functions over numbers, slots and tables do.
-/
import Derived.Test.YtpelbeoapmbloaaSzSlotS
import Derived.Test.YtpelbeoapmbloaaEqToSlotS
import Derived.Test.YtpelbeoapmbloaaValEq
import Derived.Test.YtpelbeoapmbloaaValSz
import Derived.Test.YtpelbeoapmbloaaRowSlotS
import Derived.Test.YtpelbeoapmbloaaRowIntS
import Derived.Test.YtpelbeoapmbloaaSxTab
namespace Go.Proofs.Ytpelbeoapmbloaa
set_option maxRecDepth 8000
open Go Go.Sx
theorem szIntS_c (l : List Int) (hl : l.length ≤ maxLen) (sl : Value) (n : Int) (h : Hp) (rd : RdI h l sl) (l0 : 0 ≤ n) (l1 : n ≤ 1048576) : ACalls Try.prog 27 #[sl, .int .i64 n] h (Pu (.int .i64 (less n l.length)) h) := by
  obtain ⟨a, c, xs, rfl, _⟩ := rd.rows (by decide) l.length (fm_len idt_len l)
  (refine enter Try.func27 rfl rfl (by kernel_rfl) [] ?_; simp only [go_sem, Nat.reduceBEq])
  simp only [less_wrap l0 l1 hl, go_sem]
  refine Br.intro (fun hb => ?_) (fun hb => ?_) <;> (try simp only [hb, go_sem, Nat.reduceBEq])
  · have hb : n - (l.length : Int) < 0 := by simpa using hb
    exact ⟨by unfold less; rw [if_neg (by omega)], rfl⟩
  · have hb : ¬ n - (l.length : Int) < 0 := by simpa using hb
    exact ⟨by unfold less; rw [if_pos (by omega)], rfl⟩
theorem szSlot_c (s : Sl) (ok : s.ok) : SzSlot s := by
  intro ys l h r l0 l1
  obtain ⟨sl, rfl, rd⟩ := RdL_slot r
  (refine enter Try.func50 rfl rfl (by kernel_rfl) [] ?_; simp only [go_sem, Nat.reduceBEq, Nat.reduceAdd, Nat.reduceLeDiff])
  (refine (szKey_c s.key ok.1 l l0 l1 _).mono ?_; rintro _ _ ⟨rfl, rfl⟩; simp only [go_sem, Nat.reduceBEq])
  refine Br.intro (fun hb => ?_) (fun hb => ?_) <;> (try simp only [hb, go_sem, Nat.reduceBEq, Nat.reduceAdd, Nat.reduceLeDiff])
  · have hb : less l s.key.str.size < 0 := by simpa using hb
    exact ⟨by unfold Sl.bulk; rw [less_neg hb], rfl⟩
  · have hb : 0 ≤ less l s.key.str.size := by simpa using hb
    (refine (szValue_c s.val ok.2.1 _ _ _ rd hb (less_le l1)).mono ?_; rintro _ _ ⟨rfl, rfl⟩; simp only [go_sem, Nat.reduceBEq])
    rw [less_add hb]
    refine Br.intro (fun hc => ?_) (fun hc => ?_) <;> (try simp only [hc, go_sem, Nat.reduceBEq])
    · have hc : less l (s.key.str.size + s.val.bulk) < 0 := by simpa using hc
      exact ⟨by unfold Sl.bulk; rw [less_is hc], rfl⟩
    · exact ⟨rfl, rfl⟩
theorem szTable_c (t : Tb) (ok : t.ok) (s u : Value) (l : Int) (h : Hp) (r1 : RdI h t.heads s) (r2 : RdT h t.slots u) (l0 : 0 ≤ l) (l1 : l ≤ 1048576) :
    ACalls Try.prog 5 #[.agg #[.bool t.hashed, s, u, .int .i64 t.next, .int .i64 t.count], .int .i64 l] h (Pu (.int .i64 (less l t.bulk)) h) := by
  obtain ⟨a1, c1, _, rfl, _⟩ := r1.rows (by decide) t.heads.length (fm_len idt_len _)
  obtain ⟨a2, c2, _, rfl, _⟩ := r2.rows (by decide) t.slots.length (fm_len Sl.dt_len _)
  (refine enter Try.func5 rfl rfl (by kernel_rfl) [] ?_; simp only [go_sem, Nat.reduceBEq])
  (refine (szIntS_c t.heads ok.lh _ _ _ r1 l0 l1).mono ?_; rintro _ _ ⟨rfl, rfl⟩; simp only [go_sem, Nat.reduceBEq])
  refine Br.intro (fun hb => ?_) (fun hb => ?_) <;> (try simp only [hb, go_sem, Nat.reduceBEq])
  · have hb : less l t.heads.length < 0 := by simpa using hb
    exact ⟨by unfold Tb.bulk; rw [less_neg hb], rfl⟩
  · have hb : 0 ≤ less l t.heads.length := by simpa using hb
    (refine (szSlotS_s t.slots (fun e he => szSlot_c e (ok.slots e he)) ok.ls _ _ _ r2 hb (less_le l1)).mono ?_; rintro _ _ ⟨rfl, rfl⟩; simp only [go_sem, Nat.reduceBEq])
    rw [less_add hb]
    refine Br.intro (fun hc => ?_) (fun hc => ?_) <;> (try simp only [hc, go_sem, Nat.reduceBEq])
    · have hc : less l (t.heads.length + szG Sl.bulk t.slots) < 0 := by simpa using hc
      exact ⟨by unfold Tb.bulk; rw [less_is hc], rfl⟩
    · exact ⟨rfl, rfl⟩
theorem eqIntS_c (l : List Int) (hl : l.length ≤ 4611686018427387904) (s1 s2 : Value) (h : Hp) (r1 : RdI h l s1) (r2 : RdI h l s2) : ACalls Try.prog 20 #[s1, s2] h (Pu (.bool true) h) := by
  obtain ⟨a1, c1, xs1, rfl, hc1, hr1, hat1⟩ := r1.rows (by decide) l.length (fm_len idt_len l)
  obtain ⟨a2, c2, xs2, rfl, hc2, hr2, hat2⟩ := r2.rows (by decide) l.length (fm_len idt_len l)
  (refine enter Try.func20 rfl rfl (by kernel_rfl) [] ?_; simp only [go_sem, Nat.reduceBEq])
  refine aloop (ι := Nat) (fun i => [(5, .val (.int .i64 (i : Nat))), (0, .val (.slice a1 l.length c1)), (1, .val (.slice a2 l.length c2))]) (fun _ => []) (fun i h' => i ≤ l.length ∧ h' = h) (fun i => l.length - i) 0 ⟨Nat.zero_le _, rfl⟩ (by repeat (first | exact wkF_e | refine wkF_c rfl ?_)) wkB_e rfl ?_
  rintro i _ ⟨hi, rfl⟩
  simp only [go_sem, Nat.reduceBEq]
  refine Br.intro (fun hb => ?_) (fun hb => ?_) <;> (try simp only [hb, go_sem, Nat.reduceBEq])
  · have hb : i < l.length := by simpa using hb
    obtain ⟨b1, o1, rfl, hat1'⟩ := hat1 (by omega)
    obtain ⟨b2, o2, rfl, hat2'⟩ := hat2 (by omega)
    obtain ⟨e, he, hm⟩ := get_lt hb
    have wsu := wrap_succ (i := i) (by omega)
    first | (refine regionD_intro (lb := []) (by kernel_rfl) ?_) | skip
    simp only [ix_nat hb, go_sem, Nat.reduceBEq]
    refine hsem_num tyS3 hat1' hr1 he rfl ?_
    simp only [ix_nat hb, go_sem, Nat.reduceBEq]
    refine hsem_num tyS3 hat2' hr2 he rfl ?_
    simp only [decide_true, Bool.not_true, wsu, go_sem, Nat.reduceBEq]
    exact Again.intro (i + 1) (by first | omega | (simp only; omega)) ⟨hb, rfl⟩ (by repeat (first | exact wkF_e | refine wkF_c rfl ?_)) wkB_e rfl
  · exact ⟨rfl, rfl⟩
theorem eqSlot_c (s : Sl) (hb : V.bulks s.val.items ≤ 4611686018427387904) : EqSlot s := by
  intro h ys zs r1 r2
  obtain ⟨s1, rfl, q1⟩ := RdL_slot r1
  obtain ⟨s2, rfl, q2⟩ := RdL_slot r2
  (refine enter Try.func53 rfl rfl (by kernel_rfl) [] ?_; simp only [go_sem, Nat.reduceBEq, Nat.reduceAdd, Nat.reduceLeDiff])
  (refine (eqKey_c s.key _).mono ?_; rintro _ _ ⟨rfl, rfl⟩; simp only [go_sem, Nat.reduceBEq, Nat.reduceAdd, Nat.reduceLeDiff])
  try simp only [Bool.not_true, go_sem, Nat.reduceBEq, Nat.reduceAdd, Nat.reduceLeDiff, Nat.reduceEqDiff, Int.reduceEq, not_false_eq_true, Int.reduceToNat]
  (refine (eqValue_c s.val hb _ _ _ q1 q2).mono ?_; rintro _ _ ⟨rfl, rfl⟩; simp only [go_sem, Nat.reduceBEq])
  try simp only [decide_true, Bool.not_true, go_sem, Nat.reduceBEq, Nat.reduceAdd, Nat.reduceLeDiff, Nat.reduceEqDiff, Int.reduceEq, not_false_eq_true, Int.reduceToNat]
  exact ⟨rfl, rfl⟩
theorem eqTable_c (t : Tb) (hb : t.bulk ≤ 4611686018427387904) (s u s' u' : Value) (h : Hp) (r1 : RdI h t.heads s) (r2 : RdT h t.slots u) (r3 : RdI h t.heads s') (r4 : RdT h t.slots u') :
    ACalls Try.prog 10 #[.agg #[.bool t.hashed, s, u, .int .i64 t.next, .int .i64 t.count], .agg #[.bool t.hashed, s', u', .int .i64 t.next, .int .i64 t.count]] h (Pu (.bool true) h) := by
  obtain ⟨a1, c1, _, rfl, _⟩ := r1.rows (by decide) t.heads.length (fm_len idt_len _)
  obtain ⟨a2, c2, _, rfl, _⟩ := r2.rows (by decide) t.slots.length (fm_len Sl.dt_len _)
  obtain ⟨a3, c3, _, rfl, _⟩ := r3.rows (by decide) t.heads.length (fm_len idt_len _)
  obtain ⟨a4, c4, _, rfl, _⟩ := r4.rows (by decide) t.slots.length (fm_len Sl.dt_len _)
  have hb1 : szG Sl.bulk t.slots ≤ 4611686018427387904 := by unfold Tb.bulk at hb; omega
  (refine enter Try.func10 rfl rfl (by kernel_rfl) [] ?_; simp only [go_sem, Nat.reduceBEq])
  try simp only [decide_true, Bool.not_true, go_sem, Nat.reduceBEq, Nat.reduceAdd, Nat.reduceLeDiff, Nat.reduceEqDiff, Int.reduceEq, not_false_eq_true, Int.reduceToNat]
  (refine (eqIntS_c t.heads (by unfold Tb.bulk at hb; omega) _ _ _ r1 r3).mono ?_; rintro _ _ ⟨rfl, rfl⟩; simp only [go_sem, Nat.reduceBEq])
  try simp only [Bool.not_true, go_sem, Nat.reduceBEq, Nat.reduceAdd, Nat.reduceLeDiff, Nat.reduceEqDiff, Int.reduceEq, not_false_eq_true, Int.reduceToNat]
  (refine (eqSlotS_s t.slots (fun e he => eqSlot_c e (by have := szG_mem (w := Sl.bulk) he; have := V.bulk_eq e.val; have e1 : Sl.bulk e = e.key.str.size + e.val.bulk := rfl; omega)) (by have := szG_len (w := Sl.bulk) t.slots; omega) _ _ _ r2 r4).mono ?_; rintro _ _ ⟨rfl, rfl⟩; simp only [go_sem, Nat.reduceBEq])
  try simp only [decide_true, Bool.not_true, go_sem, Nat.reduceBEq, Nat.reduceAdd, Nat.reduceLeDiff, Nat.reduceEqDiff, Int.reduceEq, not_false_eq_true, Int.reduceToNat]
  exact ⟨rfl, rfl⟩
theorem toIntS_c (l : List Int) (hl : l.length ≤ 1048576) (sl : Value) (h : Hp) (rd : RdI h l sl) : ACalls Try.prog 31 #[sl] h fun u h' => My h h' [(.row 1 (l.flatMap idt), u)] := by
  obtain ⟨a, c, xs, rfl, hc, hr, hat⟩ := rd.rows (by decide) l.length (fm_len idt_len l)
  (refine enter Try.func31 rfl rfl (by kernel_rfl) [] ?_; simp only [go_sem, Nat.reduceBEq])
  refine hsem_my_make slT22 (by decide) rfl rfl hl (by decide) (My.nil (Ext.refl h)) fun bo h1 m1 => ?_
  simp only [go_sem, Nat.reduceBEq]
  generalize hzz : SlT.zero _ = zz at m1
  refine aloop (ι := Nat) (fun i => [(4, .val (.int .i64 (i : Nat))), (3, .val (.slice (some ⟨bo, 0, none⟩) l.length l.length)), (0, .val (.slice a l.length c))]) (fun _ => []) (fun i h' => i ≤ l.length ∧ My h h' [(.row 1 ((l.take i).flatMap idt ++ zeros zz (l.length - i)), .slice (some ⟨bo, 0, none⟩) l.length l.length)]) (fun i => l.length - i) 0
    ⟨Nat.zero_le _, m1⟩ (by repeat (first | exact wkF_e | refine wkF_c rfl ?_)) wkB_e rfl ?_
  rintro i h2 ⟨hi, m2⟩
  have hi : i ≤ l.length := hi
  have m2 : My h h2 [(.row 1 ((l.take i).flatMap idt ++ zeros zz (l.length - i)), .slice (some ⟨bo, 0, none⟩) l.length l.length)] := m2
  simp only [go_sem, Nat.reduceBEq]
  refine Br.intro (fun hb => ?_) (fun hb => ?_) <;> (try simp only [hb, go_sem, Nat.reduceBEq])
  · have hb : i < l.length := by simpa using hb
    obtain ⟨b, o, rfl, hat'⟩ := hat (by omega)
    have hat2 := hat'.mono m2.ext
    have hr2 := hr.mono m2.ext
    obtain ⟨e, he, hm⟩ := get_lt hb
    have wsu := wrap_succ (i := i) (by omega)
    first | (refine regionD_intro (lb := []) (by kernel_rfl) ?_) | skip
    simp only [ix_nat hb, go_sem, Nat.reduceBEq]
    refine hsem_num tyS3 hat2 hr2 he rfl ?_
    simp only [ix_nat hb, go_sem, Nat.reduceBEq]
    rw [zeros_sub zz hb] at m2
    have m3 : My h h2 ((.raw (.int .i64 e), .int .i64 e) :: [(.row 1 ((l.take i).flatMap idt ++ (zz.map .raw ++ zeros zz (l.length - (i + 1)))), .slice (some ⟨bo, 0, none⟩) l.length l.length)]) := m2.raw rfl
    refine hsem_my_put (es := idt e) tyS3 m3 (by omega) (by rw [List.length_map, ← hzz]; rfl) rfl rfl ?_ fun h4 m4 => ?_
    · rw [fm_len idt_len, List.length_take, Nat.min_eq_left hi]
    simp only [wsu, go_sem, Nat.reduceBEq]
    refine Again.intro (i + 1) (by first | omega | (simp only; omega)) ⟨hb, ?_⟩ (by repeat (first | exact wkF_e | refine wkF_c rfl ?_)) wkB_e rfl
    rw [take_snoc he, List.flatMap_append, List.flatMap_cons, List.flatMap_nil, List.append_nil, List.append_assoc]
    exact m4
  · have hb : i = l.length := by simp at hb; omega
    subst hb
    rw [List.take_length, Nat.sub_self] at m2
    simpa [zeros] using m2
theorem toSlot_c (s : Sl) (hb : s.val.bulk ≤ 1048576) : ToSlot s := by
  intro h ys r
  obtain ⟨s1, rfl, q1⟩ := RdL_slot r
  (refine enter Try.func51 rfl rfl (by kernel_rfl) [] ?_; simp only [go_sem, Nat.reduceBEq, Nat.reduceAdd, Nat.reduceLeDiff])
  (refine (toKey_c s.key _).mono ?_; rintro _ _ ⟨rfl, rfl⟩; simp only [go_sem, Nat.reduceBEq, Nat.reduceAdd, Nat.reduceLeDiff])
  refine (toV_c s.val hb _ _ q1).mono ?_
  rintro _ h2 ⟨a, c, rfl, m⟩
  simp only [go_sem, Nat.reduceBEq, Nat.reduceAdd, Nat.reduceLeDiff]
  refine ⟨_, rfl, rfl, ?_⟩
  simp only [Sl.dt_eq, List.zip_cons_cons, List.zip_nil_right, My.raw_iff, one_bool, one_int, one_str, and_self, true_and]
  exact ((m.raw (u := .int .i64 s.link) rfl).raw (u := .bool s.live) rfl).third
theorem toTable_c (t : Tb) (hb : t.bulk ≤ 1048576) (s u : Value) (h : Hp) (r1 : RdI h t.heads s) (r2 : RdT h t.slots u) :
    ACalls Try.prog 7 #[.agg #[.bool t.hashed, s, u, .int .i64 t.next, .int .i64 t.count]] h fun v h' => ∃ a c a' c', v = .agg #[.bool t.hashed, .slice a t.heads.length c, .slice a' t.slots.length c', .int .i64 t.next, .int .i64 t.count] ∧
      My h h' [(.row 1 (t.heads.flatMap idt), .slice a t.heads.length c), (.row 10 (t.slots.flatMap Sl.dt), .slice a' t.slots.length c')] := by
  obtain ⟨a1, c1, _, rfl, _⟩ := r1.rows (by decide) t.heads.length (fm_len idt_len _)
  obtain ⟨a2, c2, _, rfl, _⟩ := r2.rows (by decide) t.slots.length (fm_len Sl.dt_len _)
  have hb1 : szG Sl.bulk t.slots ≤ 1048576 := by unfold Tb.bulk at hb; omega
  (refine enter Try.func7 rfl rfl (by kernel_rfl) [] ?_; simp only [go_sem, Nat.reduceBEq, Nat.reduceAdd, Nat.reduceLeDiff])
  refine (toIntS_c t.heads (by unfold Tb.bulk at hb; omega) _ _ r1).mono ?_
  rintro _ h1 m1
  obtain ⟨a3, c3, rfl, _⟩ := m1.row_shape (by decide) t.heads.length (fm_len idt_len _)
  simp only [go_sem, Nat.reduceBEq, Nat.reduceAdd, Nat.reduceLeDiff]
  refine (toSlotS_s t.slots (fun e he => toSlot_c e (by have := szG_mem (w := Sl.bulk) he; have e1 : Sl.bulk e = e.key.str.size + e.val.bulk := rfl; omega)) (by have := szG_len (w := Sl.bulk) t.slots; omega) _ _ (r2.mono m1.ext)).mono ?_
  rintro _ h2 m2
  obtain ⟨a4, c4, rfl, _⟩ := m2.row_shape (by decide) t.slots.length (fm_len Sl.dt_len _)
  simp only [go_sem, Nat.reduceBEq, Nat.reduceAdd, Nat.reduceLeDiff]
  exact ⟨_, _, _, _, rfl, (m1.add m2).swap⟩
theorem markTable_c (t : Tb) (k : Nat) (hk : k + cntG cI t.heads + cntG cS t.slots ≤ 4611686018427387904) (s u : Value) (bag : Bag) (h0 h : Hp) (m : My h0 h ((.row 1 (t.heads.flatMap idt), s) :: (.row 10 (t.slots.flatMap Sl.dt), u) :: bag)) :
    ACalls Try.prog 11 #[.agg #[.bool t.hashed, s, u, .int .i64 t.next, .int .i64 t.count], .int .i64 (k : Nat)] h fun v h' => v = .int .i64 ((k + cntG cI t.heads + cntG cS t.slots : Nat)) ∧
      My h0 h' ((.row 1 ((mkG cI mkI t.heads k).flatMap idt), s) :: (.row 10 ((mkG cS mkS t.slots (k + cntG cI t.heads)).flatMap Sl.dt), u) :: bag) := by
  obtain ⟨a1, c1, rfl, _⟩ := m.row_shape (by decide) t.heads.length (fm_len idt_len _)
  obtain ⟨a2, c2, rfl, _⟩ := m.swap.row_shape (by decide) t.slots.length (fm_len Sl.dt_len _)
  (refine enter Try.func11 rfl rfl (by kernel_rfl) [] ?_; simp only [go_sem, Nat.reduceBEq])
  refine (markIntS_c t.heads k (by omega) _ _ _ _ m).mono ?_
  rintro _ h1 ⟨rfl, m1⟩
  simp only [go_sem, Nat.reduceBEq]
  refine (markSlotS_c t.slots (k + cntG cI t.heads) (by omega) _ _ _ _ m1.swap).mono ?_
  rintro _ h2 ⟨rfl, m2⟩
  simp only [go_sem, Nat.reduceBEq]
  first | exact m2.swap | exact ⟨rfl, m2.swap⟩
end Go.Proofs.Ytpelbeoapmbloaa
