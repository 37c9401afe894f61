/-
  The statement FnExactSetShared is proved: for each argument the law returns true; nothing is assumed.
-/
import Derived.Test.YtedfplodobpgfaaGreatDoorFnExactSetSharedAllD
import Derived.Test.YtedfplodobpgfaaGreatDoorSxLaw
import Derived.Test.YtedfplodobpgfaaGreatDoorSxDataT
import Derived.Deep.Slices
import Derived.Deep.Strs
import Derived.Test.YtedfplodobpgfaaGreatDoorRows
import Derived.Test.YtedfplodobpgfaaGreatDoorTie
import Derived.Test.YtedfplodobpgfaaGreatDoorCards
import Derived.ProofKit
import Derived.LaidMore
import Derived.OpenShut
import Derived.Stop.Joined
import Derived.SevenTiedAt
namespace Go.Proofs.YtedfplodobpgfaaGreatDoor
set_option maxRecDepth 8000
open Go Go.Sx
theorem szIntS_c (l : List Int) (hl : l.length ≤ maxLen) (sl : Value) (n : Int) (h : Hp) (rd : RdI h l sl) (l0 : 0 ≤ n) (l1 : n ≤ 1048576) : ACalls Tryz.prog 49 #[sl, .int .i64 n] h (Pu (.int .i64 (less n l.length)) h) := by
  obtain ⟨a, c, xs, rfl, _⟩ := rd.rows (by decide) l.length (fm_len idt_len l)
  (refine enter Tryz.func49 rfl rfl (by kernel_rfl) [] ?_; simp only [go_sem, Nat.reduceBEq])
  simp only [less_wrap l0 l1 hl, go_sem]
  refine Br.intro (fun hb => ?_) (fun hb => ?_) <;> (try simp only [hb, go_sem, Nat.reduceBEq])
  · have hb : n - (l.length : Int) < 0 := by simpa using hb
    exact ⟨by unfold less; rw [if_neg (by omega)], rfl⟩
  · have hb : ¬ n - (l.length : Int) < 0 := by simpa using hb
    exact ⟨by unfold less; rw [if_pos (by omega)], rfl⟩
theorem szSlot_c (s : Sl) (ok : s.ok) : SzSlot s := by
  intro ys l h r l0 l1
  obtain ⟨sl, rfl, rd⟩ := RdL_slot r
  (refine enter Tryz.func109 rfl rfl (by kernel_rfl) [] ?_; simp only [go_sem, Nat.reduceBEq, Nat.reduceAdd, Nat.reduceLeDiff])
  (refine (szKey_c s.key ok.1 l l0 l1 _).mono ?_; rintro _ _ ⟨rfl, rfl⟩; simp only [go_sem, Nat.reduceBEq])
  refine Br.intro (fun hb => ?_) (fun hb => ?_) <;> (try simp only [hb, go_sem, Nat.reduceBEq, Nat.reduceAdd, Nat.reduceLeDiff])
  · have hb : less l s.key.str.size < 0 := by simpa using hb
    exact ⟨by unfold Sl.bulk; rw [less_neg hb], rfl⟩
  · have hb : 0 ≤ less l s.key.str.size := by simpa using hb
    (refine (szValue_c s.val ok.2.1 _ _ _ rd hb (less_le l1)).mono ?_; rintro _ _ ⟨rfl, rfl⟩; simp only [go_sem, Nat.reduceBEq])
    rw [less_add hb]
    refine Br.intro (fun hc => ?_) (fun hc => ?_) <;> (try simp only [hc, go_sem, Nat.reduceBEq])
    · have hc : less l (s.key.str.size + s.val.bulk) < 0 := by simpa using hc
      exact ⟨by unfold Sl.bulk; rw [less_is hc], rfl⟩
    · exact ⟨rfl, rfl⟩
theorem szTable_c (t : Tb) (ok : t.ok) (s u : Value) (l : Int) (h : Hp) (r1 : RdI h t.heads s) (r2 : RdT h t.slots u) (l0 : 0 ≤ l) (l1 : l ≤ 1048576) :
    ACalls Tryz.prog 10 #[.agg #[.bool t.hashed, s, u, .int .i64 t.next, .int .i64 t.count], .int .i64 l] h (Pu (.int .i64 (less l t.bulk)) h) := by
  obtain ⟨a1, c1, _, rfl, _⟩ := r1.rows (by decide) t.heads.length (fm_len idt_len _)
  obtain ⟨a2, c2, _, rfl, _⟩ := r2.rows (by decide) t.slots.length (fm_len Sl.dt_len _)
  (refine enter Tryz.func10 rfl rfl (by kernel_rfl) [] ?_; simp only [go_sem, Nat.reduceBEq])
  (refine (szIntS_c t.heads ok.lh _ _ _ r1 l0 l1).mono ?_; rintro _ _ ⟨rfl, rfl⟩; simp only [go_sem, Nat.reduceBEq])
  refine Br.intro (fun hb => ?_) (fun hb => ?_) <;> (try simp only [hb, go_sem, Nat.reduceBEq])
  · have hb : less l t.heads.length < 0 := by simpa using hb
    exact ⟨by unfold Tb.bulk; rw [less_neg hb], rfl⟩
  · have hb : 0 ≤ less l t.heads.length := by simpa using hb
    (refine (szSlotS_s t.slots (fun e he => szSlot_c e (ok.slots e he)) ok.ls _ _ _ r2 hb (less_le l1)).mono ?_; rintro _ _ ⟨rfl, rfl⟩; simp only [go_sem, Nat.reduceBEq])
    rw [less_add hb]
    refine Br.intro (fun hc => ?_) (fun hc => ?_) <;> (try simp only [hc, go_sem, Nat.reduceBEq])
    · have hc : less l (t.heads.length + szG Sl.bulk t.slots) < 0 := by simpa using hc
      exact ⟨by unfold Tb.bulk; rw [less_is hc], rfl⟩
    · exact ⟨rfl, rfl⟩
theorem eqIntS_c (l : List Int) (hl : l.length ≤ 4611686018427387904) (s1 s2 : Value) (h : Hp) (r1 : RdI h l s1) (r2 : RdI h l s2) : ACalls Tryz.prog 66 #[s1, s2] h (Pu (.bool true) h) := by
  obtain ⟨a1, c1, xs1, rfl, hc1, hr1, hat1⟩ := r1.rows (by decide) l.length (fm_len idt_len l)
  obtain ⟨a2, c2, xs2, rfl, hc2, hr2, hat2⟩ := r2.rows (by decide) l.length (fm_len idt_len l)
  (refine enter Tryz.func66 rfl rfl (by kernel_rfl) [] ?_; simp only [go_sem, Nat.reduceBEq])
  refine aloop (ι := Nat) (fun i => [(5, .val (.int .i64 (i : Nat))), (0, .val (.slice a1 l.length c1)), (1, .val (.slice a2 l.length c2))]) (fun _ => []) (fun i h' => i ≤ l.length ∧ h' = h) (fun i => l.length - i) 0 ⟨Nat.zero_le _, rfl⟩ (by repeat (first | exact wkF_e | refine wkF_c rfl ?_)) wkB_e rfl ?_
  rintro i _ ⟨hi, rfl⟩
  simp only [go_sem, Nat.reduceBEq]
  refine Br.intro (fun hb => ?_) (fun hb => ?_) <;> (try simp only [hb, go_sem, Nat.reduceBEq])
  · have hb : i < l.length := by simpa using hb
    obtain ⟨b1, o1, rfl, hat1'⟩ := hat1 (by omega)
    obtain ⟨b2, o2, rfl, hat2'⟩ := hat2 (by omega)
    obtain ⟨e, he, hm⟩ := get_lt hb
    have wsu := wrap_succ (i := i) (by omega)
    first | (refine regionD_intro (lb := []) (by kernel_rfl) ?_) | skip
    simp only [ix_nat hb, go_sem, Nat.reduceBEq]
    refine hsem_num tyS3 hat1' hr1 he rfl ?_
    simp only [ix_nat hb, go_sem, Nat.reduceBEq]
    refine hsem_num tyS3 hat2' hr2 he rfl ?_
    simp only [decide_true, Bool.not_true, wsu, go_sem, Nat.reduceBEq]
    exact Again.intro (i + 1) (by first | omega | (simp only; omega)) ⟨hb, rfl⟩ (by repeat (first | exact wkF_e | refine wkF_c rfl ?_)) wkB_e rfl
  · exact ⟨rfl, rfl⟩
theorem eqSlot_c (s : Sl) (hb : V.bulks s.val.items ≤ 4611686018427387904) : EqSlot s := by
  intro h ys zs r1 r2
  obtain ⟨s1, rfl, q1⟩ := RdL_slot r1
  obtain ⟨s2, rfl, q2⟩ := RdL_slot r2
  (refine enter Tryz.func131 rfl rfl (by kernel_rfl) [] ?_; simp only [go_sem, Nat.reduceBEq, Nat.reduceAdd, Nat.reduceLeDiff])
  (refine (eqKey_c s.key _).mono ?_; rintro _ _ ⟨rfl, rfl⟩; simp only [go_sem, Nat.reduceBEq, Nat.reduceAdd, Nat.reduceLeDiff])
  try simp only [Bool.not_true, go_sem, Nat.reduceBEq, Nat.reduceAdd, Nat.reduceLeDiff, Nat.reduceEqDiff, Int.reduceEq, not_false_eq_true, Int.reduceToNat]
  (refine (eqValue_c s.val hb _ _ _ q1 q2).mono ?_; rintro _ _ ⟨rfl, rfl⟩; simp only [go_sem, Nat.reduceBEq])
  try simp only [decide_true, Bool.not_true, go_sem, Nat.reduceBEq, Nat.reduceAdd, Nat.reduceLeDiff, Nat.reduceEqDiff, Int.reduceEq, not_false_eq_true, Int.reduceToNat]
  exact ⟨rfl, rfl⟩
theorem eqTable_c (t : Tb) (hb : t.bulk ≤ 4611686018427387904) (s u s' u' : Value) (h : Hp) (r1 : RdI h t.heads s) (r2 : RdT h t.slots u) (r3 : RdI h t.heads s') (r4 : RdT h t.slots u') :
    ACalls Tryz.prog 18 #[.agg #[.bool t.hashed, s, u, .int .i64 t.next, .int .i64 t.count], .agg #[.bool t.hashed, s', u', .int .i64 t.next, .int .i64 t.count]] h (Pu (.bool true) h) := by
  obtain ⟨a1, c1, _, rfl, _⟩ := r1.rows (by decide) t.heads.length (fm_len idt_len _)
  obtain ⟨a2, c2, _, rfl, _⟩ := r2.rows (by decide) t.slots.length (fm_len Sl.dt_len _)
  obtain ⟨a3, c3, _, rfl, _⟩ := r3.rows (by decide) t.heads.length (fm_len idt_len _)
  obtain ⟨a4, c4, _, rfl, _⟩ := r4.rows (by decide) t.slots.length (fm_len Sl.dt_len _)
  have hb1 : szG Sl.bulk t.slots ≤ 4611686018427387904 := by unfold Tb.bulk at hb; omega
  (refine enter Tryz.func18 rfl rfl (by kernel_rfl) [] ?_; simp only [go_sem, Nat.reduceBEq])
  try simp only [decide_true, Bool.not_true, go_sem, Nat.reduceBEq, Nat.reduceAdd, Nat.reduceLeDiff, Nat.reduceEqDiff, Int.reduceEq, not_false_eq_true, Int.reduceToNat]
  (refine (eqIntS_c t.heads (by unfold Tb.bulk at hb; omega) _ _ _ r1 r3).mono ?_; rintro _ _ ⟨rfl, rfl⟩; simp only [go_sem, Nat.reduceBEq])
  try simp only [Bool.not_true, go_sem, Nat.reduceBEq, Nat.reduceAdd, Nat.reduceLeDiff, Nat.reduceEqDiff, Int.reduceEq, not_false_eq_true, Int.reduceToNat]
  (refine (eqSlotS_s t.slots (fun e he => eqSlot_c e (by have := szG_mem (w := Sl.bulk) he; have := V.bulk_eq e.val; have e1 : Sl.bulk e = e.key.str.size + e.val.bulk := rfl; omega)) (by have := szG_len (w := Sl.bulk) t.slots; omega) _ _ _ r2 r4).mono ?_; rintro _ _ ⟨rfl, rfl⟩; simp only [go_sem, Nat.reduceBEq])
  try simp only [decide_true, Bool.not_true, go_sem, Nat.reduceBEq, Nat.reduceAdd, Nat.reduceLeDiff, Nat.reduceEqDiff, Int.reduceEq, not_false_eq_true, Int.reduceToNat]
  exact ⟨rfl, rfl⟩
theorem toIntS_c (l : List Int) (hl : l.length ≤ 1048576) (sl : Value) (h : Hp) (rd : RdI h l sl) : ACalls Tryz.prog 57 #[sl] h fun u h' => My h h' [(.row 1 (l.flatMap idt), u)] := by
  obtain ⟨a, c, xs, rfl, hc, hr, hat⟩ := rd.rows (by decide) l.length (fm_len idt_len l)
  (refine enter Tryz.func57 rfl rfl (by kernel_rfl) [] ?_; simp only [go_sem, Nat.reduceBEq])
  refine hsem_my_make slT22 (by decide) rfl rfl hl (by decide) (My.nil (Ext.refl h)) fun bo h1 m1 => ?_
  simp only [go_sem, Nat.reduceBEq]
  generalize hzz : SlT.zero _ = zz at m1
  refine aloop (ι := Nat) (fun i => [(4, .val (.int .i64 (i : Nat))), (3, .val (.slice (some ⟨bo, 0, none⟩) l.length l.length)), (0, .val (.slice a l.length c))]) (fun _ => []) (fun i h' => i ≤ l.length ∧ My h h' [(.row 1 ((l.take i).flatMap idt ++ zeros zz (l.length - i)), .slice (some ⟨bo, 0, none⟩) l.length l.length)]) (fun i => l.length - i) 0
    ⟨Nat.zero_le _, m1⟩ (by repeat (first | exact wkF_e | refine wkF_c rfl ?_)) wkB_e rfl ?_
  rintro i h2 ⟨hi, m2⟩
  have hi : i ≤ l.length := hi
  have m2 : My h h2 [(.row 1 ((l.take i).flatMap idt ++ zeros zz (l.length - i)), .slice (some ⟨bo, 0, none⟩) l.length l.length)] := m2
  simp only [go_sem, Nat.reduceBEq]
  refine Br.intro (fun hb => ?_) (fun hb => ?_) <;> (try simp only [hb, go_sem, Nat.reduceBEq])
  · have hb : i < l.length := by simpa using hb
    obtain ⟨b, o, rfl, hat'⟩ := hat (by omega)
    have hat2 := hat'.mono m2.ext
    have hr2 := hr.mono m2.ext
    obtain ⟨e, he, hm⟩ := get_lt hb
    have wsu := wrap_succ (i := i) (by omega)
    first | (refine regionD_intro (lb := []) (by kernel_rfl) ?_) | skip
    simp only [ix_nat hb, go_sem, Nat.reduceBEq]
    refine hsem_num tyS3 hat2 hr2 he rfl ?_
    simp only [ix_nat hb, go_sem, Nat.reduceBEq]
    rw [zeros_sub zz hb] at m2
    have m3 : My h h2 ((.raw (.int .i64 e), .int .i64 e) :: [(.row 1 ((l.take i).flatMap idt ++ (zz.map .raw ++ zeros zz (l.length - (i + 1)))), .slice (some ⟨bo, 0, none⟩) l.length l.length)]) := m2.raw rfl
    refine hsem_my_put (es := idt e) tyS3 m3 (by omega) (by rw [List.length_map, ← hzz]; rfl) rfl rfl ?_ fun h4 m4 => ?_
    · rw [fm_len idt_len, List.length_take, Nat.min_eq_left hi]
    simp only [wsu, go_sem, Nat.reduceBEq]
    refine Again.intro (i + 1) (by first | omega | (simp only; omega)) ⟨hb, ?_⟩ (by repeat (first | exact wkF_e | refine wkF_c rfl ?_)) wkB_e rfl
    rw [take_snoc he, List.flatMap_append, List.flatMap_cons, List.flatMap_nil, List.append_nil, List.append_assoc]
    exact m4
  · have hb : i = l.length := by simp at hb; omega
    subst hb
    rw [List.take_length, Nat.sub_self] at m2
    simpa [zeros] using m2
theorem toSlot_c (s : Sl) (hb : s.val.bulk ≤ 1048576) : ToSlot s := by
  intro h ys r
  obtain ⟨s1, rfl, q1⟩ := RdL_slot r
  (refine enter Tryz.func118 rfl rfl (by kernel_rfl) [] ?_; simp only [go_sem, Nat.reduceBEq, Nat.reduceAdd, Nat.reduceLeDiff])
  (refine (toKey_c s.key _).mono ?_; rintro _ _ ⟨rfl, rfl⟩; simp only [go_sem, Nat.reduceBEq, Nat.reduceAdd, Nat.reduceLeDiff])
  refine (toV_c s.val hb _ _ q1).mono ?_
  rintro _ h2 ⟨a, c, rfl, m⟩
  simp only [go_sem, Nat.reduceBEq, Nat.reduceAdd, Nat.reduceLeDiff]
  refine ⟨_, rfl, rfl, ?_⟩
  simp only [Sl.dt_eq, List.zip_cons_cons, List.zip_nil_right, My.raw_iff, one_bool, one_int, one_str, and_self, true_and]
  exact ((m.raw (u := .int .i64 s.link) rfl).raw (u := .bool s.live) rfl).third
theorem toTable_c (t : Tb) (hb : t.bulk ≤ 1048576) (s u : Value) (h : Hp) (r1 : RdI h t.heads s) (r2 : RdT h t.slots u) :
    ACalls Tryz.prog 14 #[.agg #[.bool t.hashed, s, u, .int .i64 t.next, .int .i64 t.count]] h fun v h' => ∃ a c a' c', v = .agg #[.bool t.hashed, .slice a t.heads.length c, .slice a' t.slots.length c', .int .i64 t.next, .int .i64 t.count] ∧
      My h h' [(.row 1 (t.heads.flatMap idt), .slice a t.heads.length c), (.row 10 (t.slots.flatMap Sl.dt), .slice a' t.slots.length c')] := by
  obtain ⟨a1, c1, _, rfl, _⟩ := r1.rows (by decide) t.heads.length (fm_len idt_len _)
  obtain ⟨a2, c2, _, rfl, _⟩ := r2.rows (by decide) t.slots.length (fm_len Sl.dt_len _)
  have hb1 : szG Sl.bulk t.slots ≤ 1048576 := by unfold Tb.bulk at hb; omega
  (refine enter Tryz.func14 rfl rfl (by kernel_rfl) [] ?_; simp only [go_sem, Nat.reduceBEq, Nat.reduceAdd, Nat.reduceLeDiff])
  refine (toIntS_c t.heads (by unfold Tb.bulk at hb; omega) _ _ r1).mono ?_
  rintro _ h1 m1
  obtain ⟨a3, c3, rfl, _⟩ := m1.row_shape (by decide) t.heads.length (fm_len idt_len _)
  simp only [go_sem, Nat.reduceBEq, Nat.reduceAdd, Nat.reduceLeDiff]
  refine (toSlotS_s t.slots (fun e he => toSlot_c e (by have := szG_mem (w := Sl.bulk) he; have e1 : Sl.bulk e = e.key.str.size + e.val.bulk := rfl; omega)) (by have := szG_len (w := Sl.bulk) t.slots; omega) _ _ (r2.mono m1.ext)).mono ?_
  rintro _ h2 m2
  obtain ⟨a4, c4, rfl, _⟩ := m2.row_shape (by decide) t.slots.length (fm_len Sl.dt_len _)
  simp only [go_sem, Nat.reduceBEq, Nat.reduceAdd, Nat.reduceLeDiff]
  exact ⟨_, _, _, _, rfl, (m1.add m2).swap⟩
end Go.Proofs.YtedfplodobpgfaaGreatDoor
namespace Go.Proofs.YtedfplodobpgfaaGreatDoor
set_option maxRecDepth 8000
open Go Go.Sx
def SzBlock (e : Bk) : Prop := ∀ (ys : List Value) (l : Int) (h : Hp), RdL h (Bk.dt e) ys → 0 ≤ l → l ≤ 1048576 → ACalls Tryz.prog 133 #[.agg ys.toArray, .int .i64 l] h (Pu (.int .i64 (less l (Bk.bulk e))) h)
theorem szBlockS_s (es : List Bk) (ih : ∀ e ∈ es, SzBlock e) (hl : es.length ≤ maxLen) (sl : Value) (l : Int) (h : Hp) (rd : Rd h (.row 6 (es.flatMap Bk.dt)) sl) (l0 : 0 ≤ l) (l1 : l ≤ 1048576) :
    ACalls Tryz.prog 74 #[sl, .int .i64 l] h (Pu (.int .i64 (less l (szG Bk.bulk es))) h) := by
  obtain ⟨a, c, xs, rfl, hc, hr, hat⟩ := rd.rows (by decide) es.length (fm_len Bk.dt_len es)
  (refine enter Tryz.func74 rfl rfl (by kernel_rfl) [] ?_; simp only [go_sem, Nat.reduceBEq])
  simp only [less_wrap l0 l1 hl, go_sem]
  refine Br.intro (fun hb => ?_) (fun hb => ?_) <;> (try simp only [hb, go_sem, Nat.reduceBEq])
  · have hb : l - (es.length : Int) < 0 := by simpa using hb
    exact ⟨by unfold szG; rw [less_neg (by unfold less; split <;> omega)], rfl⟩
  · have hb : ¬ l - (es.length : Int) < 0 := by simpa using hb
    have e0 : l - (es.length : Int) = less l (es.length + gsum Bk.bulk (es.take 0)) := by unfold less; simp [gsum]; omega
    rw [e0]
    refine aloop (ι := Nat) (fun i => [(5, .val (.int .i64 (i : Nat))), (1, .val (.int .i64 (less l (es.length + gsum Bk.bulk (es.take i))))), (0, .val (.slice a es.length c))]) (fun _ => []) (fun i h' => i ≤ es.length ∧ 0 ≤ less l (es.length + gsum Bk.bulk (es.take i)) ∧ h = h') (fun i => es.length - i) 0
      ⟨Nat.zero_le _, by rw [← e0]; omega, rfl⟩ (by repeat (first | exact wkF_e | refine wkF_c rfl ?_)) wkB_e rfl ?_
    intro i h1 hx
    have hx : i ≤ es.length ∧ 0 ≤ less l (es.length + gsum Bk.bulk (es.take i)) ∧ h = h1 := hx
    have hi := hx.1
    have hf := hx.2.1
    have he := hx.2.2
    clear hx
    subst he
    simp only [go_sem, Nat.reduceBEq]
    refine Br.intro (fun hb => ?_) (fun hb => ?_) <;> (try simp only [hb, go_sem, Nat.reduceBEq])
    · have hb : i < es.length := by simpa using hb
      obtain ⟨b, off, rfl, hat'⟩ := hat (by omega)
      obtain ⟨e, he, hm⟩ := get_lt hb
      simp only [ix_nat hb, go_sem, Nat.reduceBEq]
      refine hsem_row (f := Bk.dt) (o := 0) (ds := Bk.dt e) Bk.dt_len tyS154 hat' hr he (Nat.le_refl _) (by rw [List.drop_zero, List.take_of_length_le (by rw [Bk.dt_len]; exact Nat.le_refl _)]) ?_ fun ys r1 => ?_
      · omega
      simp only [go_sem, Nat.reduceBEq]
      (refine (ih e hm _ _ _ r1 hf (less_le l1)).mono ?_; rintro _ _ ⟨rfl, rfl⟩; simp only [go_sem, Nat.reduceBEq])
      rw [less_add hf, Nat.add_assoc, ← gsum_snoc he]
      refine Br.intro (fun hc => ?_) (fun hc => ?_) <;> (try simp only [hc, go_sem, Nat.reduceBEq])
      · have hc : less l (es.length + gsum Bk.bulk (es.take (i + 1))) < 0 := by simpa using hc
        refine ⟨?_, rfl⟩
        unfold szG
        rw [gsum_split Bk.bulk es (i + 1), ← Nat.add_assoc, less_neg hc]
      · have hc : 0 ≤ less l (es.length + gsum Bk.bulk (es.take (i + 1))) := by simpa using hc
        rw [wrap_succ (i := i) (by unfold maxLen at hl; omega)]
        exact Again.intro (i + 1) (by first | omega | (simp only; omega)) ⟨hb, hc, rfl⟩ (by repeat (first | exact wkF_e | refine wkF_c rfl ?_)) wkB_e rfl
    · have hb : i = es.length := by simp at hb; omega
      subst hb
      refine ⟨?_, rfl⟩
      rw [List.take_length]
      rfl
end Go.Proofs.YtedfplodobpgfaaGreatDoor
namespace Go.Proofs.YtedfplodobpgfaaGreatDoor
set_option maxRecDepth 8000
open Go Go.Sx
def EqBlock (e : Bk) : Prop := ∀ (h : Hp) (ys zs : List Value), RdL h (Bk.dt e) ys → RdL h (Bk.dt e) zs → ACalls Tryz.prog 141 #[.agg ys.toArray, .agg zs.toArray] h (Pu (.bool true) h)
theorem eqBlockS_s (l : List (Bk)) (ih : ∀ e ∈ l, EqBlock e) (hl : l.length ≤ 4611686018427387904) (s1 s2 : Value) (h : Hp) (r1 : Rd h (.row 6 (l.flatMap Bk.dt)) s1) (r2 : Rd h (.row 6 (l.flatMap Bk.dt)) s2) :
    ACalls Tryz.prog 82 #[s1, s2] h (Pu (.bool true) h) := by
  obtain ⟨a1, c1, xs1, rfl, hc1, hr1, hat1⟩ := r1.rows (by decide) l.length (fm_len Bk.dt_len l)
  obtain ⟨a2, c2, xs2, rfl, hc2, hr2, hat2⟩ := r2.rows (by decide) l.length (fm_len Bk.dt_len l)
  (refine enter Tryz.func82 rfl rfl (by kernel_rfl) [] ?_; simp only [go_sem, Nat.reduceBEq])
  refine aloop (ι := Nat) (fun i => [(5, .val (.int .i64 (i : Nat))), (0, .val (.slice a1 l.length c1)), (1, .val (.slice a2 l.length c2))]) (fun _ => []) (fun i h' => i ≤ l.length ∧ h' = h) (fun i => l.length - i) 0 ⟨Nat.zero_le _, rfl⟩ (by repeat (first | exact wkF_e | refine wkF_c rfl ?_)) wkB_e rfl ?_
  rintro i _ ⟨hi, rfl⟩
  simp only [go_sem, Nat.reduceBEq]
  refine Br.intro (fun hb => ?_) (fun hb => ?_) <;> (try simp only [hb, go_sem, Nat.reduceBEq])
  · have hb : i < l.length := by simpa using hb
    obtain ⟨b1, o1, rfl, hat1'⟩ := hat1 (by omega)
    obtain ⟨b2, o2, rfl, hat2'⟩ := hat2 (by omega)
    obtain ⟨e, he, hm⟩ := get_lt hb
    have wsu := wrap_succ (i := i) (by omega)
    refine regionD_intro (lb := []) (by kernel_rfl) ?_
    simp only [ix_nat hb, go_sem, Nat.reduceBEq]
    refine hsem_row (f := Bk.dt) (o := 0) (ds := Bk.dt e) Bk.dt_len tyS107 hat1' hr1 he (Nat.le_refl _) (by rw [List.drop_zero, List.take_of_length_le (Nat.le_of_eq (Bk.dt_len e))]) ?_ fun ys1 q1 => ?_
    · omega
    simp only [ix_nat hb, go_sem, Nat.reduceBEq]
    refine hsem_row (f := Bk.dt) (o := 0) (ds := Bk.dt e) Bk.dt_len tyS107 hat2' hr2 he (Nat.le_refl _) (by rw [List.drop_zero, List.take_of_length_le (Nat.le_of_eq (Bk.dt_len e))]) ?_ fun ys2 q2 => ?_
    · omega
    simp only [go_sem, Nat.reduceBEq]
    (refine (ih e hm _ _ _ q1 q2).mono ?_; rintro _ _ ⟨rfl, rfl⟩; simp only [go_sem, Nat.reduceBEq])
    simp only [wsu, go_sem]
    exact Again.intro (i + 1) (by first | omega | (simp only; omega)) ⟨hb, rfl⟩ (by repeat (first | exact wkF_e | refine wkF_c rfl ?_)) wkB_e rfl
  · exact ⟨rfl, rfl⟩
def ToBlock (e : Bk) : Prop := ∀ (h : Hp) (ys : List Value), RdL h (Bk.dt e) ys → ACalls Tryz.prog 138 #[.agg ys.toArray] h fun u h' => ∃ us, u = .agg us.toArray ∧ us.length = 6 ∧ My h h' ((Bk.dt e).zip us)
theorem toBlockS_s (l : List (Bk)) (ih : ∀ e ∈ l, ToBlock e) (hl : l.length ≤ 1048576) (sl : Value) (h : Hp) (rd : Rd h (.row 6 (l.flatMap Bk.dt)) sl) :
    ACalls Tryz.prog 78 #[sl] h fun u h' => My h h' [(.row 6 (l.flatMap Bk.dt), u)] := by
  obtain ⟨a, c, xs, rfl, hc, hr, hat⟩ := rd.rows (by decide) l.length (fm_len Bk.dt_len l)
  (refine enter Tryz.func78 rfl rfl (by kernel_rfl) [] ?_; simp only [go_sem, Nat.reduceBEq])
  refine hsem_my_make slT58 (by decide) rfl rfl hl (by decide) (My.nil (Ext.refl h)) fun bo h1 m1 => ?_
  simp only [go_sem, Nat.reduceBEq]
  generalize hzz : SlT.zero _ = zz at m1
  refine aloop (ι := Nat) (fun i => [(4, .val (.int .i64 (i : Nat))), (3, .val (.slice (some ⟨bo, 0, none⟩) l.length l.length)), (0, .val (.slice a l.length c))]) (fun _ => []) (fun i h' => i ≤ l.length ∧ My h h' [(.row 6 ((l.take i).flatMap Bk.dt ++ zeros zz (l.length - i)), .slice (some ⟨bo, 0, none⟩) l.length l.length)]) (fun i => l.length - i) 0
    ⟨Nat.zero_le _, m1⟩ (by repeat (first | exact wkF_e | refine wkF_c rfl ?_)) wkB_e rfl ?_
  rintro i h2 ⟨hi, m2⟩
  have hi : i ≤ l.length := hi
  have m2 : My h h2 [(.row 6 ((l.take i).flatMap Bk.dt ++ zeros zz (l.length - i)), .slice (some ⟨bo, 0, none⟩) l.length l.length)] := m2
  simp only [go_sem, Nat.reduceBEq]
  refine Br.intro (fun hb => ?_) (fun hb => ?_) <;> (try simp only [hb, go_sem, Nat.reduceBEq])
  · have hb : i < l.length := by simpa using hb
    obtain ⟨b, o, rfl, hat'⟩ := hat (by omega)
    have hat2 := hat'.mono m2.ext
    have hr2 := hr.mono m2.ext
    obtain ⟨e, he, hm⟩ := get_lt hb
    have wsu := wrap_succ (i := i) (by omega)
    simp only [ix_nat hb, go_sem, Nat.reduceBEq]
    refine hsem_row (f := Bk.dt) (o := 0) (ds := Bk.dt e) Bk.dt_len tyS154 hat2 hr2 he (Nat.le_refl _) (by rw [List.drop_zero, List.take_of_length_le (Nat.le_of_eq (Bk.dt_len e))]) ?_ fun ys1 q1 => ?_
    · omega
    simp only [go_sem, Nat.reduceBEq]
    refine (ih e hm _ _ q1).mono ?_
    rintro _ h3 ⟨us, rfl, hus, n3⟩
    simp only [ix_nat hb, go_sem, Nat.reduceBEq]
    have m3 := m2.add n3
    rw [zeros_sub zz hb] at m3
    refine hsem_my_put tyS107 m3 (by omega) (by rw [List.length_map, ← hzz]; rfl) (Bk.dt_len e) hus ?_ fun h4 m4 => ?_
    · rw [fm_len Bk.dt_len, List.length_take, Nat.min_eq_left hi]
    simp only [wsu, go_sem, Nat.reduceBEq]
    refine Again.intro (i + 1) (by first | omega | (simp only; omega)) ⟨hb, ?_⟩ (by repeat (first | exact wkF_e | refine wkF_c rfl ?_)) wkB_e rfl
    rw [take_snoc he, List.flatMap_append, List.flatMap_cons, List.flatMap_nil, List.append_nil, List.append_assoc]
    exact m4
  · have hb : i = l.length := by simp at hb; omega
    subst hb
    rw [List.take_length, Nat.sub_self] at m2
    simpa [zeros] using m2
end Go.Proofs.YtedfplodobpgfaaGreatDoor
namespace Go.Proofs.YtedfplodobpgfaaGreatDoor
set_option maxRecDepth 8000
open Go Go.Sx
theorem szBlock_c (b : Bk) (ok : b.ok) : SzBlock b := by
  intro ys l h r l0 l1
  obtain ⟨s, u, rfl, r1, r2⟩ := RdL_blk r
  (refine enter Tryz.func133 rfl rfl (by kernel_rfl) [] ?_; simp only [go_sem, Nat.reduceBEq, Nat.reduceAdd, Nat.reduceLeDiff])
  (refine (szTable_c b.tab ok.tab _ _ _ _ r1 r2 l0 l1).mono ?_; rintro _ _ ⟨rfl, rfl⟩; simp only [go_sem, Nat.reduceBEq])
  refine Br.intro (fun hb => ?_) (fun hb => ?_) <;> (try simp only [hb, go_sem, Nat.reduceBEq])
  · have hb : less l b.tab.bulk < 0 := by simpa using hb
    exact ⟨by unfold Bk.bulk; rw [less_is hb], rfl⟩
  · exact ⟨rfl, rfl⟩
theorem szHeap_c (l : List Bk) (ok : ∀ b ∈ l, b.ok) (hl : l.length ≤ maxLen) (s : Value) (n : Int) (h : Hp) (r : RdB h l s) (l0 : 0 ≤ n) (l1 : n ≤ 1048576) : ACalls Tryz.prog 23 #[.agg #[s], .int .i64 n] h (Pu (.int .i64 (less n (szG Bk.bulk l))) h) := by
  obtain ⟨a, c, _, rfl, _⟩ := r.rows (by decide) l.length (fm_len Bk.dt_len _)
  (refine enter Tryz.func23 rfl rfl (by kernel_rfl) [] ?_; simp only [go_sem, Nat.reduceBEq])
  (refine (szBlockS_s l (fun e he => szBlock_c e (ok e he)) hl _ _ _ r l0 l1).mono ?_; rintro _ _ ⟨rfl, rfl⟩; simp only [go_sem, Nat.reduceBEq])
  refine Br.intro (fun hb => ?_) (fun hb => ?_) <;> (try simp only [hb, go_sem, Nat.reduceBEq])
  · have hb : less n (szG Bk.bulk l) < 0 := by simpa using hb
    exact ⟨by rw [less_is hb], rfl⟩
  · exact ⟨rfl, rfl⟩
theorem eqBlock_c (b : Bk) (hb : b.tab.bulk ≤ 4611686018427387904) : EqBlock b := by
  intro h ys zs r1 r2
  obtain ⟨s1, u1, rfl, p1, q1⟩ := RdL_blk r1
  obtain ⟨s2, u2, rfl, p2, q2⟩ := RdL_blk r2
  (refine enter Tryz.func141 rfl rfl (by kernel_rfl) [] ?_; simp only [go_sem, Nat.reduceBEq, Nat.reduceAdd, Nat.reduceLeDiff])
  try simp only [decide_true, Bool.not_true, go_sem, Nat.reduceBEq, Nat.reduceAdd, Nat.reduceLeDiff, Nat.reduceEqDiff, Int.reduceEq, not_false_eq_true, Int.reduceToNat]
  (refine (eqTable_c b.tab hb _ _ _ _ _ p1 q1 p2 q2).mono ?_; rintro _ _ ⟨rfl, rfl⟩; simp only [go_sem, Nat.reduceBEq])
  try simp only [Bool.not_true, go_sem, Nat.reduceBEq, Nat.reduceAdd, Nat.reduceLeDiff, Nat.reduceEqDiff, Int.reduceEq, not_false_eq_true, Int.reduceToNat]
  exact ⟨rfl, rfl⟩
theorem eqHeap_c (l : List Bk) (hb : szG Bk.bulk l ≤ 4611686018427387904) (s s' : Value) (h : Hp) (r1 : RdB h l s) (r2 : RdB h l s') : ACalls Tryz.prog 29 #[.agg #[s], .agg #[s']] h (Pu (.bool true) h) := by
  obtain ⟨a1, c1, _, rfl, _⟩ := r1.rows (by decide) l.length (fm_len Bk.dt_len _)
  obtain ⟨a2, c2, _, rfl, _⟩ := r2.rows (by decide) l.length (fm_len Bk.dt_len _)
  (refine enter Tryz.func29 rfl rfl (by kernel_rfl) [] ?_; simp only [go_sem, Nat.reduceBEq])
  (refine (eqBlockS_s l (fun e he => eqBlock_c e (by have := szG_mem (w := Bk.bulk) he; have e1 : Bk.bulk e = e.tab.bulk := rfl; omega)) (by have := szG_len (w := Bk.bulk) l; omega) _ _ _ r1 r2).mono ?_; rintro _ _ ⟨rfl, rfl⟩; simp only [go_sem, Nat.reduceBEq])
  try simp only [Bool.not_true, go_sem, Nat.reduceBEq, Nat.reduceAdd, Nat.reduceLeDiff, Nat.reduceEqDiff, Int.reduceEq, not_false_eq_true, Int.reduceToNat]
  exact ⟨rfl, rfl⟩
theorem toBlock_c (b : Bk) (hb : b.tab.bulk ≤ 1048576) : ToBlock b := by
  intro h ys r
  obtain ⟨s, u, rfl, r1, r2⟩ := RdL_blk r
  (refine enter Tryz.func138 rfl rfl (by kernel_rfl) [] ?_; simp only [go_sem, Nat.reduceBEq, Nat.reduceAdd, Nat.reduceLeDiff])
  refine (toTable_c b.tab hb _ _ _ r1 r2).mono ?_
  rintro _ h2 ⟨a, c, a', c', rfl, m⟩
  simp only [go_sem, Nat.reduceBEq, Nat.reduceAdd, Nat.reduceLeDiff]
  refine ⟨_, rfl, rfl, ?_⟩
  simp only [Bk.dt_eq, List.zip_cons_cons, List.zip_nil_right, My.raw_iff, one_bool, one_int, and_self, true_and]
  exact ((m.raw (u := .int .i64 b.tab.count) rfl).raw (u := .int .i64 b.tab.next) rfl).fourth.fourth
theorem toHeap_c (l : List Bk) (hb : szG Bk.bulk l ≤ 1048576) (s : Value) (h : Hp) (r : RdB h l s) :
    ACalls Tryz.prog 26 #[.agg #[s]] h fun v h' => ∃ a c, v = .agg #[.slice a l.length c] ∧ My h h' [(.row 6 (l.flatMap Bk.dt), .slice a l.length c)] := by
  obtain ⟨a1, c1, _, rfl, _⟩ := r.rows (by decide) l.length (fm_len Bk.dt_len _)
  (refine enter Tryz.func26 rfl rfl (by kernel_rfl) [] ?_; simp only [go_sem, Nat.reduceBEq])
  refine (toBlockS_s l (fun e he => toBlock_c e (by have := szG_mem (w := Bk.bulk) he; have e1 : Bk.bulk e = e.tab.bulk := rfl; omega)) (by have := szG_len (w := Bk.bulk) l; omega) _ _ r).mono ?_
  rintro _ h1 m1
  obtain ⟨a3, c3, rfl, _⟩ := m1.row_shape (by decide) l.length (fm_len Bk.dt_len _)
  simp only [go_sem, Nat.reduceBEq, Nat.reduceLeDiff]
  exact ⟨_, _, rfl, m1⟩
end Go.Proofs.YtedfplodobpgfaaGreatDoor
namespace Go.Proofs.YtedfplodobpgfaaGreatDoor
set_option maxRecDepth 8000
open Go Go.Sx
theorem markBlockS_c (l : List (Bk)) (k : Nat) (hk : k + cntG cB l ≤ 4611686018427387904) (sl : Value) (bag : Bag) (h0 h : Hp) (m : My h0 h ((.row 6 (l.flatMap Bk.dt), sl) :: bag)) :
    ACalls Tryz.prog 86 #[sl, .int .i64 (k : Nat)] h fun v h' => v = .int .i64 ((k + cntG cB l : Nat)) ∧ My h0 h' ((.row 6 ((mkG cB mkB l k).flatMap Bk.dt), sl) :: bag) := by
  obtain ⟨a, c, rfl, hc, hcm, hat⟩ := m.row_shape (by decide) l.length (fm_len Bk.dt_len l)
  have hlm : l.length ≤ maxLen := Nat.le_trans hc hcm
  (refine enter Tryz.func86 rfl rfl (by kernel_rfl) [] ?_; simp only [go_sem])
  refine aloop (ι := Nat) (fun i => [(5, .val (.int .i64 (i : Nat))), (1, .val (.int .i64 ((k + cntG cB (l.take i) : Nat)))), (0, .val (.slice a l.length c))]) (fun _ => []) (fun i h' => i ≤ l.length ∧ My h0 h' ((.row 6 ((mkG cB mkB (l.take i) k).flatMap Bk.dt ++ (l.drop i).flatMap Bk.dt), .slice a l.length c) :: bag)) (fun i => l.length - i) 0
    ⟨Nat.zero_le _, m⟩ (by repeat (first | exact wkF_e | refine wkF_c rfl ?_)) wkB_e rfl ?_
  rintro i h1 ⟨hi, m1⟩
  have hi : i ≤ l.length := hi
  simp only [go_sem, Nat.reduceBEq]
  refine Br.intro (fun hb => ?_) (fun hb => ?_) <;> (try simp only [hb, go_sem, Nat.reduceBEq])
  · have hb : i < l.length := by simpa using hb
    obtain ⟨b, rfl⟩ := hat (by omega)
    have hpos : 0 < l.length := by omega
    obtain ⟨e, he, hm⟩ := get_lt hb
    have hsn := cntG_snoc (c := cB) he
    rw [cB] at hsn
    have hms := mkG_snoc (c := cB) (m := mkB) he k
    have hle := cntG_le (c := cB) he
    rw [cB] at hle
    have hA : ((mkG cB mkB (l.take i) k).flatMap Bk.dt).length = i * 6 := by rw [fm_len Bk.dt_len, mkG_len, List.length_take]; congr 1; omega
    have m1 : My h0 h1 ((.row 6 ((mkG cB mkB (l.take i) k).flatMap Bk.dt ++ (l.drop i).flatMap Bk.dt), .slice (some ⟨b, 0, none⟩) l.length c) :: bag) := m1
    rw [drop_cons he, List.flatMap_cons, Bk.dt_eq] at m1
    have fin : ∀ h' , My h0 h' ((.row 6 ((mkG cB mkB (l.take i) k).flatMap Bk.dt ++ (Bk.dt (mkB (k + cntG cB (l.take i)) e) ++ (l.drop (i + 1)).flatMap Bk.dt)), .slice (some ⟨b, 0, none⟩) l.length c) :: bag) → My h0 h' ((.row 6 ((mkG cB mkB (l.take (i + 1)) k).flatMap Bk.dt ++ (l.drop (i + 1)).flatMap Bk.dt), .slice (some ⟨b, 0, none⟩) l.length c) :: bag) := fun h' m => by
      rw [hms, List.flatMap_append, List.flatMap_cons, List.flatMap_nil, List.append_nil, List.append_assoc]; exact m
    rw [Bk.dt_eq] at fin
    simp only [mkB] at fin
    have hq0 : k + cntG cB (l.take i) ≤ 4611686018427387904 := by omega
    generalize hq : k + cntG cB (l.take i) = q at *
    generalize (mkG cB mkB (l.take i) k).flatMap Bk.dt = A at *
    generalize hR : (l.drop (i + 1)).flatMap Bk.dt = R at *
    have wq0 : IntKind.i64.wrap (((q : Nat) : Int) + 1) = ((q + 1 : Nat) : Int) := by rw [IntWalk.i64_in _ (by omega)]; rfl
    have wq1 : IntKind.i64.wrap (((q + 1 : Nat) : Int) + 1) = ((q + 2 : Nat) : Int) := by rw [IntWalk.i64_in _ (by omega)]; rfl
    have wsu := wrap_succ (i := i) (by unfold maxLen at hlm; omega)
    simp only [ix_nat hb, go_sem, Nat.reduceBEq]
    refine hsem_my_cell (A := A) (R := R) (j := 0) tyS3 rfl m1 hpos (Nat.le_of_ble_eq_true rfl) rfl rfl (by omega) fun h2 m2 => ?_
    simp only [ix_nat hb, wq0, go_sem, Nat.reduceBEq, Int.reduceEq, not_false_eq_true]
    refine hsem_my_cell (A := A) (R := R) (j := 1) tyS4 rfl m2 hpos (Nat.le_of_ble_eq_true rfl) rfl rfl (by omega) fun h3 m3 => ?_
    simp only [ix_nat hb, wq1, go_sem, Nat.reduceBEq]
    obtain ⟨u2, m4⟩ := m3.openAt (A := A) (R := R) (j := 2) rfl
    refine hsem_my_get (A := A) (R := R) (j := 2) tyS22 m4.swap hpos (d := .raw u2) rfl (by omega) fun u' hu' => ?_
    obtain ⟨rfl, _⟩ := Rd_raw.1 hu'
    simp only [go_sem, Nat.reduceBEq]
    refine (markIntS_c (e.tab.heads) (q + 2) (by omega) _ _ _ _ m4).mono ?_
    rintro _ h4 ⟨rfl, m5⟩
    have m6 := m5.closeAt (A := A) (R := R) (j := 2) rfl
    generalize hq2 : q + 2 + cntG cI (e.tab.heads) = q2 at *
    simp only [ix_nat hb, go_sem, Nat.reduceBEq, Nat.reduceAdd]
    obtain ⟨u3, m7⟩ := m6.openAt (A := A) (R := R) (j := 3) rfl
    refine hsem_my_get (A := A) (R := R) (j := 3) tyS34 m7.swap hpos (d := .raw u3) rfl (by omega) fun u' hu' => ?_
    obtain ⟨rfl, _⟩ := Rd_raw.1 hu'
    simp only [go_sem, Nat.reduceBEq]
    refine (markSlotS_c (e.tab.slots) (q2) (by omega) _ _ _ _ m7).mono ?_
    rintro _ h5 ⟨rfl, m8⟩
    have m9 := m8.closeAt (A := A) (R := R) (j := 3) rfl
    generalize hq3 : q2 + cntG cS (e.tab.slots) = q3 at *
    have wq30 : IntKind.i64.wrap (((q3 : Nat) : Int) + 1) = ((q3 + 1 : Nat) : Int) := by rw [IntWalk.i64_in _ (by omega)]; rfl
    have wq31 : IntKind.i64.wrap (((q3 + 1 : Nat) : Int) + 1) = ((q3 + 2 : Nat) : Int) := by rw [IntWalk.i64_in _ (by omega)]; rfl
    simp only [ix_nat hb, go_sem, Nat.reduceBEq, Nat.reduceAdd]
    refine hsem_my_cell (A := A) (R := R) (j := 4) tyS3 rfl m9 hpos (Nat.le_of_ble_eq_true rfl) rfl rfl (by omega) fun h6 m10 => ?_
    simp only [ix_nat hb, wq30, go_sem, Nat.reduceBEq, Nat.reduceAdd]
    refine hsem_my_cell (A := A) (R := R) (j := 5) tyS3 rfl m10 hpos (Nat.le_of_ble_eq_true rfl) rfl rfl (by omega) fun h7 m11 => ?_
    simp only [wq31, go_sem, Nat.reduceBEq]
    rw [wsu]
    have hend : k + cntG cB (l.take (i + 1)) = q3 + 2 := by omega
    refine Again.intro (i + 1) (by first | omega | (simp only; omega)) ⟨hb, ?_⟩ (by simp only [hend]; exact (by repeat (first | exact wkF_e | refine wkF_c rfl ?_))) wkB_e rfl
    have m12 := fin _ m11
    rw [← hR] at m12
    exact m12
  · have hb : i = l.length := by simp at hb; omega
    subst hb
    have m1 : My h0 h1 ((.row 6 ((mkG cB mkB (l.take l.length) k).flatMap Bk.dt ++ (l.drop l.length).flatMap Bk.dt), .slice a l.length c) :: bag) := m1
    rw [List.take_length, List.drop_length, List.flatMap_nil, List.append_nil] at m1
    rw [List.take_length]
    exact ⟨rfl, m1⟩
theorem heldBlockS_c (l : List (Bk)) (k : Nat) (hk : k + cntG cB l ≤ 4611686018427387904) (sl : Value) (h : Hp) (rd : Rd h (.row 6 ((mkG cB mkB l k).flatMap Bk.dt)) sl) :
    ACalls Tryz.prog 92 #[sl, .int .i64 (k : Nat)] h (Is (.int .i64 ((k + cntG cB l : Nat))) h) := by
  have hml := mkG_len (c := cB) (m := mkB) l k
  obtain ⟨a, c, xs, rfl, hc, hr, hat⟩ := rd.rows (by decide) l.length (by rw [fm_len Bk.dt_len, hml])
  (refine enter Tryz.func92 rfl rfl (by kernel_rfl) [] ?_; simp only [go_sem])
  refine aloop (ι := Nat) (fun i => [(5, .val (.int .i64 (i : Nat))), (1, .val (.int .i64 ((k + cntG cB (l.take i) : Nat)))), (0, .val (.slice a l.length c))]) (fun _ => []) (fun i h' => i ≤ l.length ∧ Ext h h') (fun i => l.length - i) 0
    ⟨Nat.zero_le _, Ext.refl _⟩ (by repeat (first | exact wkF_e | refine wkF_c rfl ?_)) wkB_e rfl ?_
  rintro i h1 ⟨hi, x1⟩
  have hi : i ≤ l.length := hi
  have x1 : Ext h h1 := x1
  simp only [go_sem, Nat.reduceBEq]
  refine Br.intro (fun hb => ?_) (fun hb => ?_) <;> (try simp only [hb, go_sem, Nat.reduceBEq])
  · have hb : i < l.length := by simpa using hb
    obtain ⟨b, off, rfl, hat0⟩ := hat (by omega)
    have hat1 := hat0.mono x1
    have hr1 := hr.mono x1
    obtain ⟨e, he, hm⟩ := get_lt hb
    have hsn := cntG_snoc (c := cB) he
    rw [cB] at hsn
    have hge := mkG_get (c := cB) (m := mkB) he k
    have hle := cntG_le (c := cB) he
    rw [cB] at hle
    have hq0 : k + cntG cB (l.take i) ≤ 4611686018427387904 := by omega
    have hlm : l.length ≤ 4611686018427387904 := by have := cntG_pos (c := cB) cB_pos l; omega
    have wsu := wrap_succ (i := i) (by omega)
    generalize hq : k + cntG cB (l.take i) = q at *
    have wq0 : IntKind.i64.wrap (((q : Nat) : Int) + 1) = ((q + 1 : Nat) : Int) := by rw [IntWalk.i64_in _ (by omega)]; rfl
    have wq1 : IntKind.i64.wrap (((q + 1 : Nat) : Int) + 1) = ((q + 2 : Nat) : Int) := by rw [IntWalk.i64_in _ (by omega)]; rfl
    simp only [ix_nat hb, go_sem, Nat.reduceBEq]
    refine hsem_cell (f := Bk.dt) (o := 0) Bk.dt_len tyS3 hat1 hr1 hge (by decide) (by rw [Bk.dt_eq]; rfl) ?_ fun y0 r0 => ?_
    · omega
    obtain ⟨rfl, _⟩ := Rd_raw.1 r0
    simp only [go_sem, Nat.reduceBEq]
    simp only [mkB, decide_true, Bool.not_true, ix_nat hb, wq0, go_sem, Nat.reduceBEq]
    refine hsem_cell (f := Bk.dt) (o := 1) Bk.dt_len tyS4 hat1 hr1 hge (by decide) (by rw [Bk.dt_eq]; rfl) ?_ fun y1 r1 => ?_
    · omega
    obtain ⟨rfl, _⟩ := Rd_raw.1 r1
    simp only [go_sem, Nat.reduceBEq, Int.reduceEq, not_false_eq_true]
    simp only [mkB, mbit, decide_true, Bool.not_true, go_sem]
    simp only [ix_nat hb, wq1, go_sem, Nat.reduceBEq]
    refine hsem_cell (f := Bk.dt) (o := 2) Bk.dt_len tyS22 hat1 hr1 hge (by decide) (by rw [Bk.dt_eq]; rfl) ?_ fun y2 r2 => ?_
    · omega
    simp only [go_sem, Nat.reduceBEq]
    refine (heldIntS_c (e.tab.heads) (q + 2) (by omega) _ _ r2).mono ?_
    rintro _ h2 ⟨rfl, x2⟩
    have hat2 := hat1.mono x2
    have hr2 := hr1.mono x2
    have X2 := x1.trans x2
    generalize hq2 : q + 2 + cntG cI (e.tab.heads) = q2 at *
    have hneg2 : decide (((q2 : Nat) : Int) < 0) = false := decide_eq_false (by omega)
    simp only [hneg2, ix_nat hb, go_sem, Nat.reduceBEq, Nat.reduceAdd]
    refine hsem_cell (f := Bk.dt) (o := 3) Bk.dt_len tyS34 hat2 hr2 hge (by decide) (by rw [Bk.dt_eq]; rfl) ?_ fun y3 r3 => ?_
    · omega
    simp only [go_sem, Nat.reduceBEq]
    have fr3 : (mkB q e).tab.slots = mkG cS mkS (e.tab.slots) (q2) := by rw [← hq2]; rfl
    rw [fr3] at r3
    refine (heldSlotS_c (e.tab.slots) (q2) (by omega) _ _ r3).mono ?_
    rintro _ h3 ⟨rfl, x3⟩
    have hat3 := hat2.mono x3
    have hr3 := hr2.mono x3
    have X3 := X2.trans x3
    generalize hq3 : q2 + cntG cS (e.tab.slots) = q3 at *
    have wq30 : IntKind.i64.wrap (((q3 : Nat) : Int) + 1) = ((q3 + 1 : Nat) : Int) := by rw [IntWalk.i64_in _ (by omega)]; rfl
    have wq31 : IntKind.i64.wrap (((q3 + 1 : Nat) : Int) + 1) = ((q3 + 2 : Nat) : Int) := by rw [IntWalk.i64_in _ (by omega)]; rfl
    have hneg3 : decide (((q3 : Nat) : Int) < 0) = false := decide_eq_false (by omega)
    simp only [hneg3, ix_nat hb, go_sem, Nat.reduceBEq, Nat.reduceAdd]
    refine hsem_cell (f := Bk.dt) (o := 4) Bk.dt_len tyS3 hat3 hr3 hge (by decide) (by rw [Bk.dt_eq]; rfl) ?_ fun y4 r4 => ?_
    · omega
    have fv4 : (mkB q e).tab.next = ((q3 : Nat) : Int) := by rw [← hq3, ← hq2]; rfl
    rw [fv4] at r4
    obtain ⟨rfl, _⟩ := Rd_raw.1 r4
    simp only [ix_nat hb, wq30, go_sem, Nat.reduceBEq, Nat.reduceAdd]
    try simp only [decide_true, Bool.not_true, ix_nat hb, wq30, wq31, go_sem, Nat.reduceBEq, Nat.reduceAdd, Nat.reduceLeDiff, Nat.reduceEqDiff, Int.reduceEq, not_false_eq_true]
    refine hsem_cell (f := Bk.dt) (o := 5) Bk.dt_len tyS3 hat3 hr3 hge (by decide) (by rw [Bk.dt_eq]; rfl) ?_ fun y5 r5 => ?_
    · omega
    have fv5 : (mkB q e).tab.count = ((q3 + 1 : Nat) : Int) := by rw [← hq3, ← hq2]; rfl
    rw [fv5] at r5
    obtain ⟨rfl, _⟩ := Rd_raw.1 r5
    simp only [wq31, go_sem, Nat.reduceBEq]
    try simp only [decide_true, Bool.not_true, ix_nat hb, wq30, wq31, go_sem, Nat.reduceBEq, Nat.reduceAdd, Nat.reduceLeDiff, Nat.reduceEqDiff, Int.reduceEq, not_false_eq_true]
    rw [wsu]
    have hend : k + cntG cB (l.take (i + 1)) = q3 + 2 := by omega
    exact Again.intro (i + 1) (by first | omega | (simp only; omega)) ⟨hb, X3⟩ (by simp only [hend]; exact (by repeat (first | exact wkF_e | refine wkF_c rfl ?_))) wkB_e rfl
  · have hb : i = l.length := by simp at hb; omega
    subst hb
    rw [List.take_length]
    exact ⟨rfl, x1⟩
end Go.Proofs.YtedfplodobpgfaaGreatDoor
namespace Go.Proofs.YtedfplodobpgfaaGreatDoor
set_option maxRecDepth 8000
open Go Go.Sx
theorem markHeap_c (l : List Bk) (k : Nat) (hk : k + cntG cB l ≤ 4611686018427387904) (s : Value) (bag : Bag) (h0 h : Hp) (m : My h0 h ((.row 6 (l.flatMap Bk.dt), s) :: bag)) :
    ACalls Tryz.prog 33 #[.agg #[s], .int .i64 (k : Nat)] h fun v h' => v = .int .i64 ((k + cntG cB l : Nat)) ∧ My h0 h' ((.row 6 ((mkG cB mkB l k).flatMap Bk.dt), s) :: bag) := by
  obtain ⟨a1, c1, rfl, _⟩ := m.row_shape (by decide) l.length (fm_len Bk.dt_len _)
  (refine enter Tryz.func33 rfl rfl (by kernel_rfl) [] ?_; simp only [go_sem, Nat.reduceBEq])
  refine (markBlockS_c l k (by omega) _ _ _ _ m).mono ?_
  rintro _ h1 ⟨rfl, m1⟩
  simp only [go_sem, Nat.reduceBEq]
  first | exact m1 | exact ⟨rfl, m1⟩
theorem heldHeap_c (l : List Bk) (k : Nat) (hk : k + cntG cB l ≤ 4611686018427387904) (s : Value) (h : Hp) (r : RdB h (mkG cB mkB l k) s) :
    ACalls Tryz.prog 37 #[.agg #[s], .int .i64 (k : Nat)] h (Is (.int .i64 ((k + cntG cB l : Nat))) h) := by
  obtain ⟨a1, c1, _, rfl, _⟩ := r.rows (by decide) _ (fm_len Bk.dt_len _)
  (refine enter Tryz.func37 rfl rfl (by kernel_rfl) [] ?_; simp only [go_sem, Nat.reduceBEq])
  refine (heldBlockS_c l k (by omega) _ _ r).mono ?_
  rintro _ h1 ⟨rfl, x1⟩
  simp only [nat_neg, go_sem, Nat.reduceBEq]
  exact ⟨rfl, x1⟩
end Go.Proofs.YtedfplodobpgfaaGreatDoor
namespace Go.Proofs.YtedfplodobpgfaaGreatDoor
set_option maxRecDepth 8000
open Go Go.Sx
theorem markValueS_c (l : List (V)) (k : Nat) (hk : k + cntG cV l ≤ 4611686018427387904) (sl : Value) (bag : Bag) (h0 h : Hp) (m : My h0 h ((.row 5 (l.flatMap V.dt), sl) :: bag)) :
    ACalls Tryz.prog 40 #[sl, .int .i64 (k : Nat)] h fun v h' => v = .int .i64 ((k + cntG cV l : Nat)) ∧ My h0 h' ((.row 5 ((mkG cV mkV1 l k).flatMap V.dt), sl) :: bag) := by
  obtain ⟨a, c, rfl, hc, hcm, hat⟩ := m.row_shape (by decide) l.length (fm_len V.dt_len l)
  have hlm : l.length ≤ maxLen := Nat.le_trans hc hcm
  (refine enter Tryz.func40 rfl rfl (by kernel_rfl) [] ?_; simp only [go_sem])
  refine aloop (ι := Nat) (fun i => [(5, .val (.int .i64 (i : Nat))), (1, .val (.int .i64 ((k + cntG cV (l.take i) : Nat)))), (0, .val (.slice a l.length c))]) (fun _ => []) (fun i h' => i ≤ l.length ∧ My h0 h' ((.row 5 ((mkG cV mkV1 (l.take i) k).flatMap V.dt ++ (l.drop i).flatMap V.dt), .slice a l.length c) :: bag)) (fun i => l.length - i) 0
    ⟨Nat.zero_le _, m⟩ (by repeat (first | exact wkF_e | refine wkF_c rfl ?_)) wkB_e rfl ?_
  rintro i h1 ⟨hi, m1⟩
  have hi : i ≤ l.length := hi
  simp only [go_sem, Nat.reduceBEq]
  refine Br.intro (fun hb => ?_) (fun hb => ?_) <;> (try simp only [hb, go_sem, Nat.reduceBEq])
  · have hb : i < l.length := by simpa using hb
    obtain ⟨b, rfl⟩ := hat (by omega)
    have hpos : 0 < l.length := by omega
    obtain ⟨e, he, hm⟩ := get_lt hb
    have hsn := cntG_snoc (c := cV) he
    rw [cV] at hsn
    have hms := mkG_snoc (c := cV) (m := mkV1) he k
    have hle := cntG_le (c := cV) he
    rw [cV] at hle
    have hA : ((mkG cV mkV1 (l.take i) k).flatMap V.dt).length = i * 5 := by rw [fm_len V.dt_len, mkG_len, List.length_take]; congr 1; omega
    have m1 : My h0 h1 ((.row 5 ((mkG cV mkV1 (l.take i) k).flatMap V.dt ++ (l.drop i).flatMap V.dt), .slice (some ⟨b, 0, none⟩) l.length c) :: bag) := m1
    rw [drop_cons he, List.flatMap_cons, V.dt_eq] at m1
    have fin : ∀ h' , My h0 h' ((.row 5 ((mkG cV mkV1 (l.take i) k).flatMap V.dt ++ (V.dt (mkV1 (k + cntG cV (l.take i)) e) ++ (l.drop (i + 1)).flatMap V.dt)), .slice (some ⟨b, 0, none⟩) l.length c) :: bag) → My h0 h' ((.row 5 ((mkG cV mkV1 (l.take (i + 1)) k).flatMap V.dt ++ (l.drop (i + 1)).flatMap V.dt), .slice (some ⟨b, 0, none⟩) l.length c) :: bag) := fun h' m => by
      rw [hms, List.flatMap_append, List.flatMap_cons, List.flatMap_nil, List.append_nil, List.append_assoc]; exact m
    rw [V.dt_eq] at fin
    have hq0 : k + cntG cV (l.take i) ≤ 4611686018427387904 := by omega
    generalize hq : k + cntG cV (l.take i) = q at *
    generalize (mkG cV mkV1 (l.take i) k).flatMap V.dt = A at *
    generalize hR : (l.drop (i + 1)).flatMap V.dt = R at *
    have wq0 : IntKind.i64.wrap (((q : Nat) : Int) + 1) = ((q + 1 : Nat) : Int) := by rw [IntWalk.i64_in _ (by omega)]; rfl
    have wq1 : IntKind.i64.wrap (((q + 1 : Nat) : Int) + 1) = ((q + 2 : Nat) : Int) := by rw [IntWalk.i64_in _ (by omega)]; rfl
    have wq2 : IntKind.i64.wrap (((q + 2 : Nat) : Int) + 1) = ((q + 3 : Nat) : Int) := by rw [IntWalk.i64_in _ (by omega)]; rfl
    have wq3 : IntKind.i64.wrap (((q + 3 : Nat) : Int) + 1) = ((q + 4 : Nat) : Int) := by rw [IntWalk.i64_in _ (by omega)]; rfl
    have wsu := wrap_succ (i := i) (by unfold maxLen at hlm; omega)
    simp only [ix_nat hb, go_sem, Nat.reduceBEq]
    refine hsem_my_cell (A := A) (R := R) (j := 0) tyS3 rfl m1 hpos (Nat.le_of_ble_eq_true rfl) rfl rfl (by omega) fun h2 m2 => ?_
    simp only [ix_nat hb, wq0, go_sem, Nat.reduceBEq]
    refine hsem_my_cell (A := A) (R := R) (j := 1) tyS3 rfl m2 hpos (Nat.le_of_ble_eq_true rfl) rfl rfl (by omega) fun h3 m3 => ?_
    simp only [wq1, go_sem, Nat.reduceBEq]
    refine (markText_c (q + 2) (by omega) _).mono ?_
    rintro _ h4 ⟨rfl, x4⟩
    have m4 := m3.mono x4
    simp only [ix_nat hb, go_sem, Nat.reduceBEq, Nat.reduceAdd]
    refine hsem_my_cell (A := A) (R := R) (j := 2) tyS9 rfl m4 hpos (Nat.le_of_ble_eq_true rfl) rfl rfl (by omega) fun h5 m5 => ?_
    simp only [ix_nat hb, wq2, go_sem, Nat.reduceBEq, Nat.reduceAdd]
    refine hsem_my_cell (A := A) (R := R) (j := 3) tyS3 rfl m5 hpos (Nat.le_of_ble_eq_true rfl) rfl rfl (by omega) fun h6 m6 => ?_
    simp only [ix_nat hb, wq3, go_sem, Nat.reduceBEq, Nat.reduceAdd]
    obtain ⟨u4, m7⟩ := m6.openAt (A := A) (R := R) (j := 4) rfl
    refine hsem_my_get (A := A) (R := R) (j := 4) tyS42 m7.swap hpos (d := .raw u4) rfl (by omega) fun u' hu' => ?_
    obtain ⟨rfl, _⟩ := Rd_raw.1 hu'
    simp only [go_sem, Nat.reduceBEq]
    refine (markEntryS_c (e.items) (q + 4) (by omega) _ _ _ _ m7).mono ?_
    rintro _ h7 ⟨rfl, m8⟩
    have m9 := m8.closeAt (A := A) (R := R) (j := 4) rfl
    generalize hq4 : q + 4 + cntEs (e.items) = q4 at *
    simp only [go_sem, Nat.reduceBEq]
    rw [wsu]
    have hend : k + cntG cV (l.take (i + 1)) = q4 := by omega
    refine Again.intro (i + 1) (by first | omega | (simp only; omega)) ⟨hb, ?_⟩ (by simp only [hend]; exact (by repeat (first | exact wkF_e | refine wkF_c rfl ?_))) wkB_e rfl
    have m10 := fin _ m9
    rw [← hR] at m10
    exact m10
  · have hb : i = l.length := by simp at hb; omega
    subst hb
    have m1 : My h0 h1 ((.row 5 ((mkG cV mkV1 (l.take l.length) k).flatMap V.dt ++ (l.drop l.length).flatMap V.dt), .slice a l.length c) :: bag) := m1
    rw [List.take_length, List.drop_length, List.flatMap_nil, List.append_nil] at m1
    rw [List.take_length]
    exact ⟨rfl, m1⟩
end Go.Proofs.YtedfplodobpgfaaGreatDoor
namespace Go.Proofs.YtedfplodobpgfaaGreatDoor
set_option maxRecDepth 8000
open Go Go.Sx
theorem markKeyS_c (l : List (Ky)) (k : Nat) (hk : k + cntG cK l ≤ 4611686018427387904) (sl : Value) (bag : Bag) (h0 h : Hp) (m : My h0 h ((.row 3 (l.flatMap Ky.dt), sl) :: bag)) :
    ACalls Tryz.prog 48 #[sl, .int .i64 (k : Nat)] h fun v h' => v = .int .i64 ((k + cntG cK l : Nat)) ∧ My h0 h' ((.row 3 ((mkG cK mkK l k).flatMap Ky.dt), sl) :: bag) := by
  obtain ⟨a, c, rfl, hc, hcm, hat⟩ := m.row_shape (by decide) l.length (fm_len Ky.dt_len l)
  have hlm : l.length ≤ maxLen := Nat.le_trans hc hcm
  (refine enter Tryz.func48 rfl rfl (by kernel_rfl) [] ?_; simp only [go_sem])
  refine aloop (ι := Nat) (fun i => [(5, .val (.int .i64 (i : Nat))), (1, .val (.int .i64 ((k + cntG cK (l.take i) : Nat)))), (0, .val (.slice a l.length c))]) (fun _ => []) (fun i h' => i ≤ l.length ∧ My h0 h' ((.row 3 ((mkG cK mkK (l.take i) k).flatMap Ky.dt ++ (l.drop i).flatMap Ky.dt), .slice a l.length c) :: bag)) (fun i => l.length - i) 0
    ⟨Nat.zero_le _, m⟩ (by repeat (first | exact wkF_e | refine wkF_c rfl ?_)) wkB_e rfl ?_
  rintro i h1 ⟨hi, m1⟩
  have hi : i ≤ l.length := hi
  simp only [go_sem, Nat.reduceBEq]
  refine Br.intro (fun hb => ?_) (fun hb => ?_) <;> (try simp only [hb, go_sem, Nat.reduceBEq, Int.reduceEq, not_false_eq_true])
  · have hb : i < l.length := by simpa using hb
    obtain ⟨b, rfl⟩ := hat (by omega)
    have hpos : 0 < l.length := by omega
    obtain ⟨e, he, hm⟩ := get_lt hb
    have hsn := cntG_snoc (c := cK) he
    rw [cK] at hsn
    have hms := mkG_snoc (c := cK) (m := mkK) he k
    have hle := cntG_le (c := cK) he
    rw [cK] at hle
    have hA : ((mkG cK mkK (l.take i) k).flatMap Ky.dt).length = i * 3 := by rw [fm_len Ky.dt_len, mkG_len, List.length_take]; congr 1; omega
    have m1 : My h0 h1 ((.row 3 ((mkG cK mkK (l.take i) k).flatMap Ky.dt ++ (l.drop i).flatMap Ky.dt), .slice (some ⟨b, 0, none⟩) l.length c) :: bag) := m1
    rw [drop_cons he, List.flatMap_cons, Ky.dt_eq] at m1
    have fin : ∀ h' , My h0 h' ((.row 3 ((mkG cK mkK (l.take i) k).flatMap Ky.dt ++ (Ky.dt (mkK (k + cntG cK (l.take i)) e) ++ (l.drop (i + 1)).flatMap Ky.dt)), .slice (some ⟨b, 0, none⟩) l.length c) :: bag) → My h0 h' ((.row 3 ((mkG cK mkK (l.take (i + 1)) k).flatMap Ky.dt ++ (l.drop (i + 1)).flatMap Ky.dt), .slice (some ⟨b, 0, none⟩) l.length c) :: bag) := fun h' m => by
      rw [hms, List.flatMap_append, List.flatMap_cons, List.flatMap_nil, List.append_nil, List.append_assoc]; exact m
    rw [Ky.dt_eq] at fin
    have hq0 : k + cntG cK (l.take i) ≤ 4611686018427387904 := by omega
    generalize hq : k + cntG cK (l.take i) = q at *
    generalize (mkG cK mkK (l.take i) k).flatMap Ky.dt = A at *
    generalize hR : (l.drop (i + 1)).flatMap Ky.dt = R at *
    have wq0 : IntKind.i64.wrap (((q : Nat) : Int) + 1) = ((q + 1 : Nat) : Int) := by rw [IntWalk.i64_in _ (by omega)]; rfl
    have wq1 : IntKind.i64.wrap (((q + 1 : Nat) : Int) + 1) = ((q + 2 : Nat) : Int) := by rw [IntWalk.i64_in _ (by omega)]; rfl
    have wq2 : IntKind.i64.wrap (((q + 2 : Nat) : Int) + 1) = ((q + 3 : Nat) : Int) := by rw [IntWalk.i64_in _ (by omega)]; rfl
    have wsu := wrap_succ (i := i) (by unfold maxLen at hlm; omega)
    simp only [ix_nat hb, go_sem, Nat.reduceBEq]
    refine hsem_my_cell (A := A) (R := R) (j := 0) tyS4 rfl m1 hpos (Nat.le_of_ble_eq_true rfl) rfl rfl (by omega) fun h2 m2 => ?_
    simp only [ix_nat hb, wq0, go_sem, Nat.reduceBEq]
    refine hsem_my_cell (A := A) (R := R) (j := 1) tyS3 rfl m2 hpos (Nat.le_of_ble_eq_true rfl) rfl rfl (by omega) fun h3 m3 => ?_
    simp only [wq1, go_sem, Nat.reduceBEq]
    refine (markText_c (q + 2) (by omega) _).mono ?_
    rintro _ h4 ⟨rfl, x4⟩
    have m4 := m3.mono x4
    simp only [ix_nat hb, go_sem, Nat.reduceBEq, Nat.reduceAdd]
    refine hsem_my_cell (A := A) (R := R) (j := 2) tyS9 rfl m4 hpos (Nat.le_of_ble_eq_true rfl) rfl rfl (by omega) fun h5 m5 => ?_
    simp only [wq2, go_sem, Nat.reduceBEq]
    rw [wsu]
    have hend : k + cntG cK (l.take (i + 1)) = q + 3 := by omega
    refine Again.intro (i + 1) (by first | omega | (simp only; omega)) ⟨hb, ?_⟩ (by simp only [hend]; exact (by repeat (first | exact wkF_e | refine wkF_c rfl ?_))) wkB_e rfl
    have m6 := fin _ m5
    rw [← hR] at m6
    exact m6
  · have hb : i = l.length := by simp at hb; omega
    subst hb
    have m1 : My h0 h1 ((.row 3 ((mkG cK mkK (l.take l.length) k).flatMap Ky.dt ++ (l.drop l.length).flatMap Ky.dt), .slice a l.length c) :: bag) := m1
    rw [List.take_length, List.drop_length, List.flatMap_nil, List.append_nil] at m1
    rw [List.take_length]
    exact ⟨rfl, m1⟩
end Go.Proofs.YtedfplodobpgfaaGreatDoor
namespace Go.Proofs.YtedfplodobpgfaaGreatDoor
set_option maxRecDepth 8000
open Go Go.Sx
def EqValue (e : V) : Prop := ∀ (h : Hp) (ys zs : List Value), RdL h (V.dt e) ys → RdL h (V.dt e) zs → ACalls Tryz.prog 19 #[.agg ys.toArray, .agg zs.toArray] h (Pu (.bool true) h)
theorem eqValueS_s (l : List (V)) (ih : ∀ e ∈ l, EqValue e) (hl : l.length ≤ 4611686018427387904) (s1 s2 : Value) (h : Hp) (r1 : Rd h (.row 5 (l.flatMap V.dt)) s1) (r2 : Rd h (.row 5 (l.flatMap V.dt)) s2) :
    ACalls Tryz.prog 30 #[s1, s2] h (Pu (.bool true) h) := by
  obtain ⟨a1, c1, xs1, rfl, hc1, hr1, hat1⟩ := r1.rows (by decide) l.length (fm_len V.dt_len l)
  obtain ⟨a2, c2, xs2, rfl, hc2, hr2, hat2⟩ := r2.rows (by decide) l.length (fm_len V.dt_len l)
  (refine enter Tryz.func30 rfl rfl (by kernel_rfl) [] ?_; simp only [go_sem, Nat.reduceBEq])
  refine aloop (ι := Nat) (fun i => [(5, .val (.int .i64 (i : Nat))), (0, .val (.slice a1 l.length c1)), (1, .val (.slice a2 l.length c2))]) (fun _ => []) (fun i h' => i ≤ l.length ∧ h' = h) (fun i => l.length - i) 0 ⟨Nat.zero_le _, rfl⟩ (by repeat (first | exact wkF_e | refine wkF_c rfl ?_)) wkB_e rfl ?_
  rintro i _ ⟨hi, rfl⟩
  simp only [go_sem, Nat.reduceBEq]
  refine Br.intro (fun hb => ?_) (fun hb => ?_) <;> (try simp only [hb, go_sem, Nat.reduceBEq])
  · have hb : i < l.length := by simpa using hb
    obtain ⟨b1, o1, rfl, hat1'⟩ := hat1 (by omega)
    obtain ⟨b2, o2, rfl, hat2'⟩ := hat2 (by omega)
    obtain ⟨e, he, hm⟩ := get_lt hb
    have wsu := wrap_succ (i := i) (by omega)
    refine regionD_intro (lb := []) (by kernel_rfl) ?_
    simp only [ix_nat hb, go_sem, Nat.reduceBEq]
    refine hsem_row (f := V.dt) (o := 0) (ds := V.dt e) V.dt_len tyS44 hat1' hr1 he (Nat.le_refl _) (by rw [List.drop_zero, List.take_of_length_le (Nat.le_of_eq (V.dt_len e))]) ?_ fun ys1 q1 => ?_
    · omega
    simp only [ix_nat hb, go_sem, Nat.reduceBEq]
    refine hsem_row (f := V.dt) (o := 0) (ds := V.dt e) V.dt_len tyS44 hat2' hr2 he (Nat.le_refl _) (by rw [List.drop_zero, List.take_of_length_le (Nat.le_of_eq (V.dt_len e))]) ?_ fun ys2 q2 => ?_
    · omega
    simp only [go_sem, Nat.reduceBEq]
    (refine (ih e hm _ _ _ q1 q2).mono ?_; rintro _ _ ⟨rfl, rfl⟩; simp only [go_sem, Nat.reduceBEq])
    simp only [wsu, go_sem]
    exact Again.intro (i + 1) (by first | omega | (simp only; omega)) ⟨hb, rfl⟩ (by repeat (first | exact wkF_e | refine wkF_c rfl ?_)) wkB_e rfl
  · exact ⟨rfl, rfl⟩
def ToValue (e : V) : Prop := ∀ (h : Hp) (ys : List Value), RdL h (V.dt e) ys → ACalls Tryz.prog 16 #[.agg ys.toArray] h fun u h' => ∃ us, u = .agg us.toArray ∧ us.length = 5 ∧ My h h' ((V.dt e).zip us)
theorem toValueS_s (l : List (V)) (ih : ∀ e ∈ l, ToValue e) (hl : l.length ≤ 1048576) (sl : Value) (h : Hp) (rd : Rd h (.row 5 (l.flatMap V.dt)) sl) :
    ACalls Tryz.prog 27 #[sl] h fun u h' => My h h' [(.row 5 (l.flatMap V.dt), u)] := by
  obtain ⟨a, c, xs, rfl, hc, hr, hat⟩ := rd.rows (by decide) l.length (fm_len V.dt_len l)
  (refine enter Tryz.func27 rfl rfl (by kernel_rfl) [] ?_; simp only [go_sem, Nat.reduceBEq])
  refine hsem_my_make slT62 (by decide) rfl rfl hl (by decide) (My.nil (Ext.refl h)) fun bo h1 m1 => ?_
  simp only [go_sem, Nat.reduceBEq]
  generalize hzz : SlT.zero _ = zz at m1
  refine aloop (ι := Nat) (fun i => [(4, .val (.int .i64 (i : Nat))), (3, .val (.slice (some ⟨bo, 0, none⟩) l.length l.length)), (0, .val (.slice a l.length c))]) (fun _ => []) (fun i h' => i ≤ l.length ∧ My h h' [(.row 5 ((l.take i).flatMap V.dt ++ zeros zz (l.length - i)), .slice (some ⟨bo, 0, none⟩) l.length l.length)]) (fun i => l.length - i) 0
    ⟨Nat.zero_le _, m1⟩ (by repeat (first | exact wkF_e | refine wkF_c rfl ?_)) wkB_e rfl ?_
  rintro i h2 ⟨hi, m2⟩
  have hi : i ≤ l.length := hi
  have m2 : My h h2 [(.row 5 ((l.take i).flatMap V.dt ++ zeros zz (l.length - i)), .slice (some ⟨bo, 0, none⟩) l.length l.length)] := m2
  simp only [go_sem, Nat.reduceBEq]
  refine Br.intro (fun hb => ?_) (fun hb => ?_) <;> (try simp only [hb, go_sem, Nat.reduceBEq])
  · have hb : i < l.length := by simpa using hb
    obtain ⟨b, o, rfl, hat'⟩ := hat (by omega)
    have hat2 := hat'.mono m2.ext
    have hr2 := hr.mono m2.ext
    obtain ⟨e, he, hm⟩ := get_lt hb
    have wsu := wrap_succ (i := i) (by omega)
    simp only [ix_nat hb, go_sem, Nat.reduceBEq]
    refine hsem_row (f := V.dt) (o := 0) (ds := V.dt e) V.dt_len tyS30 hat2 hr2 he (Nat.le_refl _) (by rw [List.drop_zero, List.take_of_length_le (Nat.le_of_eq (V.dt_len e))]) ?_ fun ys1 q1 => ?_
    · omega
    simp only [go_sem, Nat.reduceBEq]
    refine (ih e hm _ _ q1).mono ?_
    rintro _ h3 ⟨us, rfl, hus, n3⟩
    simp only [ix_nat hb, go_sem, Nat.reduceBEq]
    have m3 := m2.add n3
    rw [zeros_sub zz hb] at m3
    refine hsem_my_put tyS44 m3 (by omega) (by rw [List.length_map, ← hzz]; rfl) (V.dt_len e) hus ?_ fun h4 m4 => ?_
    · rw [fm_len V.dt_len, List.length_take, Nat.min_eq_left hi]
    simp only [wsu, go_sem, Nat.reduceBEq]
    refine Again.intro (i + 1) (by first | omega | (simp only; omega)) ⟨hb, ?_⟩ (by repeat (first | exact wkF_e | refine wkF_c rfl ?_)) wkB_e rfl
    rw [take_snoc he, List.flatMap_append, List.flatMap_cons, List.flatMap_nil, List.append_nil, List.append_assoc]
    exact m4
  · have hb : i = l.length := by simp at hb; omega
    subst hb
    rw [List.take_length, Nat.sub_self] at m2
    simpa [zeros] using m2
end Go.Proofs.YtedfplodobpgfaaGreatDoor
namespace Go.Proofs.YtedfplodobpgfaaGreatDoor
set_option maxRecDepth 8000
open Go Go.Sx
theorem vsz_in {l : List V} {e : V} (h : e ∈ l) : e.bulk ≤ szG V.bulk l := by have := gsum_mem (w := V.bulk) h; unfold szG; omega
theorem toValueS_c (l : List V) (hb : szG V.bulk l ≤ 1048576) (sl : Value) (h : Hp) (rd : Rd h (.row 5 (l.flatMap V.dt)) sl) :
    ACalls Tryz.prog 27 #[sl] h fun u h' => My h h' [(.row 5 (l.flatMap V.dt), u)] := by
  refine toValueS_s l (fun e he h ys r => ?_) (by unfold szG at hb; omega) sl h rd
  have hbe := vsz_in he
  obtain ⟨s1, rfl, q1⟩ := RdL_val r
  refine (toV_c e (by omega) h s1 q1).mono ?_
  rintro _ h2 ⟨a, c, rfl, m⟩
  refine ⟨_, rfl, rfl, ?_⟩
  simp only [V.dt_eq, List.zip_cons_cons, List.zip_nil_right, My.raw_iff, one_int, one_str, and_self, true_and]
  exact m
theorem eqValueS_c (l : List V) (hb : szG V.bulk l ≤ 1048576) (s1 s2 : Value) (h : Hp) (r1 : Rd h (.row 5 (l.flatMap V.dt)) s1) (r2 : Rd h (.row 5 (l.flatMap V.dt)) s2) :
    ACalls Tryz.prog 30 #[s1, s2] h (Pu (.bool true) h) := by
  refine eqValueS_s l (fun e he h ys zs q1 q2 => ?_) (by unfold szG at hb; omega) s1 s2 h r1 r2
  have hbe := vsz_in he
  exact eqVal_c e (by omega) h ys zs q1 q2
end Go.Proofs.YtedfplodobpgfaaGreatDoor
namespace Go.Proofs.YtedfplodobpgfaaGreatDoor
set_option maxRecDepth 8000
open Go Go.Sx
def SzKey (e : Ky) : Prop := ∀ (ys : List Value) (l : Int) (h : Hp), RdL h (Ky.dt e) ys → 0 ≤ l → l ≤ 1048576 → ACalls Tryz.prog 11 #[.agg ys.toArray, .int .i64 l] h (Pu (.int .i64 (less l ((fun e : Ky => e.str.size) e))) h)
theorem szKeyS_s (es : List Ky) (ih : ∀ e ∈ es, SzKey e) (hl : es.length ≤ maxLen) (sl : Value) (l : Int) (h : Hp) (rd : Rd h (.row 3 (es.flatMap Ky.dt)) sl) (l0 : 0 ≤ l) (l1 : l ≤ 1048576) :
    ACalls Tryz.prog 43 #[sl, .int .i64 l] h (Pu (.int .i64 (less l (szG (fun e : Ky => e.str.size) es))) h) := by
  obtain ⟨a, c, xs, rfl, hc, hr, hat⟩ := rd.rows (by decide) es.length (fm_len Ky.dt_len es)
  (refine enter Tryz.func43 rfl rfl (by kernel_rfl) [] ?_; simp only [go_sem, Nat.reduceBEq])
  simp only [less_wrap l0 l1 hl, go_sem]
  refine Br.intro (fun hb => ?_) (fun hb => ?_) <;> (try simp only [hb, go_sem, Nat.reduceBEq])
  · have hb : l - (es.length : Int) < 0 := by simpa using hb
    exact ⟨by unfold szG; rw [less_neg (by unfold less; split <;> omega)], rfl⟩
  · have hb : ¬ l - (es.length : Int) < 0 := by simpa using hb
    have e0 : l - (es.length : Int) = less l (es.length + gsum (fun e : Ky => e.str.size) (es.take 0)) := by unfold less; simp [gsum]; omega
    rw [e0]
    refine aloop (ι := Nat) (fun i => [(5, .val (.int .i64 (i : Nat))), (1, .val (.int .i64 (less l (es.length + gsum (fun e : Ky => e.str.size) (es.take i))))), (0, .val (.slice a es.length c))]) (fun _ => []) (fun i h' => i ≤ es.length ∧ 0 ≤ less l (es.length + gsum (fun e : Ky => e.str.size) (es.take i)) ∧ h = h') (fun i => es.length - i) 0
      ⟨Nat.zero_le _, by rw [← e0]; omega, rfl⟩ (by repeat (first | exact wkF_e | refine wkF_c rfl ?_)) wkB_e rfl ?_
    intro i h1 hx
    have hx : i ≤ es.length ∧ 0 ≤ less l (es.length + gsum (fun e : Ky => e.str.size) (es.take i)) ∧ h = h1 := hx
    have hi := hx.1
    have hf := hx.2.1
    have he := hx.2.2
    clear hx
    subst he
    simp only [go_sem, Nat.reduceBEq]
    refine Br.intro (fun hb => ?_) (fun hb => ?_) <;> (try simp only [hb, go_sem, Nat.reduceBEq])
    · have hb : i < es.length := by simpa using hb
      obtain ⟨b, off, rfl, hat'⟩ := hat (by omega)
      obtain ⟨e, he, hm⟩ := get_lt hb
      simp only [ix_nat hb, go_sem, Nat.reduceBEq]
      refine hsem_row (f := Ky.dt) (o := 0) (ds := Ky.dt e) Ky.dt_len tyS27 hat' hr he (Nat.le_refl _) (by rw [List.drop_zero, List.take_of_length_le (by rw [Ky.dt_len]; exact Nat.le_refl _)]) ?_ fun ys r1 => ?_
      · omega
      simp only [go_sem, Nat.reduceBEq]
      (refine (ih e hm _ _ _ r1 hf (less_le l1)).mono ?_; rintro _ _ ⟨rfl, rfl⟩; simp only [go_sem, Nat.reduceBEq])
      rw [less_add hf, Nat.add_assoc, ← gsum_snoc he]
      refine Br.intro (fun hc => ?_) (fun hc => ?_) <;> (try simp only [hc, go_sem, Nat.reduceBEq])
      · have hc : less l (es.length + gsum (fun e : Ky => e.str.size) (es.take (i + 1))) < 0 := by simpa using hc
        refine ⟨?_, rfl⟩
        unfold szG
        rw [gsum_split (fun e : Ky => e.str.size) es (i + 1), ← Nat.add_assoc, less_neg hc]
      · have hc : 0 ≤ less l (es.length + gsum (fun e : Ky => e.str.size) (es.take (i + 1))) := by simpa using hc
        rw [wrap_succ (i := i) (by unfold maxLen at hl; omega)]
        exact Again.intro (i + 1) (by first | omega | (simp only; omega)) ⟨hb, hc, rfl⟩ (by repeat (first | exact wkF_e | refine wkF_c rfl ?_)) wkB_e rfl
    · have hb : i = es.length := by simp at hb; omega
      subst hb
      refine ⟨?_, rfl⟩
      rw [List.take_length]
      rfl
theorem szKeyS_c (es : List Ky) (ok : ∀ e ∈ es, e.ok) (hl : es.length ≤ maxLen) (sl : Value) (l : Int) (h : Hp) (rd : Rd h (.row 3 (es.flatMap Ky.dt)) sl) (l0 : 0 ≤ l) (l1 : l ≤ 1048576) :
    ACalls Tryz.prog 43 #[sl, .int .i64 l] h (Pu (.int .i64 (less l (szG (fun e : Ky => e.str.size) es))) h) := szKeyS_s es (fun e he ys l h r l0 l1 => by rw [RdL_key r]; exact szKey_c e (ok e he) l l0 l1 h) hl sl l h rd l0 l1
end Go.Proofs.YtedfplodobpgfaaGreatDoor
namespace Go.Proofs.YtedfplodobpgfaaGreatDoor
set_option maxRecDepth 8000
open Go Go.Sx
def SzValue (e : V) : Prop := ∀ (ys : List Value) (l : Int) (h : Hp), RdL h (V.dt e) ys → 0 ≤ l → l ≤ 1048576 → ACalls Tryz.prog 12 #[.agg ys.toArray, .int .i64 l] h (Pu (.int .i64 (less l (V.bulk e))) h)
theorem szValueS_s (es : List V) (ih : ∀ e ∈ es, SzValue e) (hl : es.length ≤ maxLen) (sl : Value) (l : Int) (h : Hp) (rd : Rd h (.row 5 (es.flatMap V.dt)) sl) (l0 : 0 ≤ l) (l1 : l ≤ 1048576) :
    ACalls Tryz.prog 24 #[sl, .int .i64 l] h (Pu (.int .i64 (less l (szG V.bulk es))) h) := by
  obtain ⟨a, c, xs, rfl, hc, hr, hat⟩ := rd.rows (by decide) es.length (fm_len V.dt_len es)
  (refine enter Tryz.func24 rfl rfl (by kernel_rfl) [] ?_; simp only [go_sem, Nat.reduceBEq])
  simp only [less_wrap l0 l1 hl, go_sem]
  refine Br.intro (fun hb => ?_) (fun hb => ?_) <;> (try simp only [hb, go_sem, Nat.reduceBEq])
  · have hb : l - (es.length : Int) < 0 := by simpa using hb
    exact ⟨by unfold szG; rw [less_neg (by unfold less; split <;> omega)], rfl⟩
  · have hb : ¬ l - (es.length : Int) < 0 := by simpa using hb
    have e0 : l - (es.length : Int) = less l (es.length + gsum V.bulk (es.take 0)) := by unfold less; simp [gsum]; omega
    rw [e0]
    refine aloop (ι := Nat) (fun i => [(5, .val (.int .i64 (i : Nat))), (1, .val (.int .i64 (less l (es.length + gsum V.bulk (es.take i))))), (0, .val (.slice a es.length c))]) (fun _ => []) (fun i h' => i ≤ es.length ∧ 0 ≤ less l (es.length + gsum V.bulk (es.take i)) ∧ h = h') (fun i => es.length - i) 0
      ⟨Nat.zero_le _, by rw [← e0]; omega, rfl⟩ (by repeat (first | exact wkF_e | refine wkF_c rfl ?_)) wkB_e rfl ?_
    intro i h1 hx
    have hx : i ≤ es.length ∧ 0 ≤ less l (es.length + gsum V.bulk (es.take i)) ∧ h = h1 := hx
    have hi := hx.1
    have hf := hx.2.1
    have he := hx.2.2
    clear hx
    subst he
    simp only [go_sem, Nat.reduceBEq]
    refine Br.intro (fun hb => ?_) (fun hb => ?_) <;> (try simp only [hb, go_sem, Nat.reduceBEq])
    · have hb : i < es.length := by simpa using hb
      obtain ⟨b, off, rfl, hat'⟩ := hat (by omega)
      obtain ⟨e, he, hm⟩ := get_lt hb
      simp only [ix_nat hb, go_sem, Nat.reduceBEq]
      refine hsem_row (f := V.dt) (o := 0) (ds := V.dt e) V.dt_len tyS30 hat' hr he (Nat.le_refl _) (by rw [List.drop_zero, List.take_of_length_le (by rw [V.dt_len]; exact Nat.le_refl _)]) ?_ fun ys r1 => ?_
      · omega
      simp only [go_sem, Nat.reduceBEq]
      (refine (ih e hm _ _ _ r1 hf (less_le l1)).mono ?_; rintro _ _ ⟨rfl, rfl⟩; simp only [go_sem, Nat.reduceBEq])
      rw [less_add hf, Nat.add_assoc, ← gsum_snoc he]
      refine Br.intro (fun hc => ?_) (fun hc => ?_) <;> (try simp only [hc, go_sem, Nat.reduceBEq])
      · have hc : less l (es.length + gsum V.bulk (es.take (i + 1))) < 0 := by simpa using hc
        refine ⟨?_, rfl⟩
        unfold szG
        rw [gsum_split V.bulk es (i + 1), ← Nat.add_assoc, less_neg hc]
      · have hc : 0 ≤ less l (es.length + gsum V.bulk (es.take (i + 1))) := by simpa using hc
        rw [wrap_succ (i := i) (by unfold maxLen at hl; omega)]
        exact Again.intro (i + 1) (by first | omega | (simp only; omega)) ⟨hb, hc, rfl⟩ (by repeat (first | exact wkF_e | refine wkF_c rfl ?_)) wkB_e rfl
    · have hb : i = es.length := by simp at hb; omega
      subst hb
      refine ⟨?_, rfl⟩
      rw [List.take_length]
      rfl
theorem szValueS_c (es : List V) (ok : ∀ e ∈ es, e.ok) (hl : es.length ≤ maxLen) (sl : Value) (l : Int) (h : Hp) (rd : Rd h (.row 5 (es.flatMap V.dt)) sl) (l0 : 0 ≤ l) (l1 : l ≤ 1048576) :
    ACalls Tryz.prog 24 #[sl, .int .i64 l] h (Pu (.int .i64 (less l (szG V.bulk es))) h) := szValueS_s es (fun e he ys l h r l0 l1 => by obtain ⟨s, rfl, q⟩ := RdL_val r; exact szValue_c e (ok e he) s l h q l0 l1) hl sl l h rd l0 l1
end Go.Proofs.YtedfplodobpgfaaGreatDoor
/-! What can be read as data reads as data of the abstract machine. -/
namespace Go.Sx
open Go Go.ChangeShapes Go.WideShapes Go.RowKit Go.ChangeMaps
section
variable {H : Type} {enc : TypeId × Value → H} {P : Program} {w : World} {base : Nat} {sp : Nat → Bool} {held : Bool}
theorem mapM_all {α β : Type} {g : α → Option β} : ∀ (l : List α) (r : List β), l.mapM g = some r → r.length = l.length ∧ ∀ (i : Nat) (a : α), l[i]? = some a → g a = r[i]?
  | [], r, h => by
    simp at h
    subst h
    simp
  | a :: l, r, h => by
    simp only [List.mapM_cons, Option.bind_eq_bind, Option.bind_eq_some_iff, Option.pure_def, Option.some.injEq] at h
    obtain ⟨b, hb, r', hr, rfl⟩ := h
    obtain ⟨h1, h2⟩ := mapM_all l r' hr
    refine ⟨by simp [h1], fun i x hx => ?_⟩
    cases i with
    | zero => simp at hx; subst hx; simpa using hb
    | succ i => simpa using h2 i x (by simpa using hx)
theorem cells_at {a : Addr} {n : Nat} {cs : List Value} (h : w.cells? base a n = some cs) : cs.length = n ∧ ∀ i, i < n → w.cell? (a.add i) = cs[i]? := by
  unfold World.cells? at h
  split at h
  · obtain ⟨h1, h2⟩ := mapM_all _ _ h
    refine ⟨by simpa using h1, fun i hi => ?_⟩
    exact h2 i i (by simp [hi])
  · simp at h
theorem cell_vis {a : Addr} {v : Value} (h : w.cell? a = some v) : ∃ c e f, vis w a.block = some (.cells c e f) ∧ a.spot = none ∧ c[a.off]? = some v := by
  unfold World.cell? at h
  split at h
  · rename_i c e f hb
    split at h
    · simp at h
    · rename_i hs
      exact ⟨c, e, f, hb, by simpa using hs, h⟩
  · simp at h
theorem addr_add_add (a : Addr) (i j : Nat) : (a.add i).add j = a.add (i + j) := by
  unfold Addr.add
  by_cases hi : i = 0 <;> by_cases hj : j = 0 <;> simp [hi, hj, Nat.add_assoc]
/-- A slice whose elements read. -/
theorem open_list {α : Type} {f : α → List Dt} {ok : α → Prop} {z : Nat} {t e fuel : Nat} {cs : List Value} {x : DataW H × List MemPlace} (ht : P.underlying t = some (.slice e)) (hz : P.cellsOf e = z) (_ : 0 < z)
    (el : ∀ n cs x, n < fuel → DataW.trod enc P w base sp held n e cs = some x → ∃ a, ok a ∧ RdL (vis w) (f a) cs) (h : DataW.trod enc P w base sp held fuel t cs = some x) :
    ∃ (l : List α) (v : Value), cs = [v] ∧ (∀ a ∈ l, ok a) ∧ l.length ≤ maxLen ∧ Rd (vis w) (.row z (l.flatMap f)) v := by
  rcases DataW.trod_slice ht h with ⟨rfl, _⟩ | ⟨a, len, cap, elems, rest, n, hfu, rfl, _, hb, hlc, hcm, hlen, hel, _, _⟩
  · exact ⟨[], _, rfl, by simp, Nat.zero_le _, by simp only [List.flatMap_nil, Rd]; exact ⟨[], OwS.nil.rd, by simp only [RdL]⟩⟩
  · rw [hz] at hel
    have step : ∀ k, k ≤ len → ∃ (l : List α) (xs : List Value), l.length = k ∧ (∀ a ∈ l, ok a) ∧ RdL (vis w) (l.flatMap f) xs ∧ xs.length = k * z ∧ ∀ j u, xs[j]? = some u → w.cell? (a.add j) = some u := by
      intro k
      induction k with
      | zero => intro _; exact ⟨[], [], rfl, by simp, by simp only [List.flatMap_nil, RdL], by simp, by simp⟩
      | succ k ih =>
        intro hk
        obtain ⟨l, xs, h1, h2, h3, h4, h5⟩ := ih (by omega)
        have hek := hel k (by omega)
        rw [List.getElem?_eq_getElem (by omega)] at hek
        obtain ⟨cs', hc1, hc2⟩ := Option.bind_eq_some_iff.1 hek
        obtain ⟨b, hok, hrd⟩ := el n cs' _ (by omega) hc2
        obtain ⟨hcl, hcc⟩ := cells_at hc1
        have hcl0 : cs'.length = z := hcl
        clear hcl
        refine ⟨l ++ [b], xs ++ cs', by simp [h1], ?_, ?_, by rw [List.length_append, h4, hcl0, Nat.add_mul, Nat.one_mul], fun j u hj => ?_⟩
        · intro q hq
          rcases List.mem_append.1 hq with hq | hq
          · exact h2 q hq
          · simp at hq; subst hq; exact hok
        · rw [List.flatMap_append, List.flatMap_cons, List.flatMap_nil, List.append_nil]
          exact h3.append hrd
        · by_cases hjx : j < xs.length
          · rw [List.getElem?_append_left hjx] at hj
            exact h5 j u hj
          · rw [List.getElem?_append_right (by omega), h4] at hj
            have hlt : j - k * z < z := by have := (List.getElem?_eq_some_iff.1 hj).1; omega
            have := hcc (j - k * z) hlt
            rw [hj, addr_add_add, show k * z + (j - k * z) = j by omega] at this
            exact this
    obtain ⟨l, xs, h1, h2, h3, h4, h5⟩ := step len (Nat.le_refl _)
    refine ⟨l, _, rfl, h2, by omega, ?_⟩
    simp only [Rd]
    refine ⟨xs, ⟨⟨_, len, cap, rfl, hlc, h4, ?_⟩, h3.one⟩, h3⟩
    by_cases hxs : xs = []
    · exact .inl hxs
    · obtain ⟨v0, hv0⟩ : ∃ v, xs[0]? = some v := by
        cases xs with
        | nil => exact absurd rfl hxs
        | cons v r => exact ⟨v, rfl⟩
      have hc0 := h5 0 v0 hv0
      have ha0 : a.add 0 = a := rfl
      rw [ha0] at hc0
      obtain ⟨c, e', f', k1, k2, k3⟩ := cell_vis hc0
      refine .inr ⟨a, rfl, c, e', f', k1, k2, fun j u hj => ?_⟩
      have := h5 j u hj
      obtain ⟨c2, e2, f2, q1, q2, q3⟩ := cell_vis this
      have hbk : (a.add j).block = a.block := by unfold Addr.add; split <;> rfl
      have hof : (a.add j).off = a.off + j := by unfold Addr.add; split <;> simp_all
      rw [hbk] at q1
      rw [k1] at q1
      cases q1
      rw [hof] at q3
      exact q3
theorem trod_one {t n : Nat} {cs : List Value} {x : DataW H × List MemPlace} {k : IntKind} (ht : P.underlying t = some (.int k)) (h : DataW.trod enc P w base sp held n t cs = some x) : ∃ m, cs = [.int k m] ∧ k.min ≤ m ∧ m ≤ k.max := by
  obtain ⟨m, rfl, _, hw⟩ := DataW.trod_int ht h
  simp only [Lit.wf, Bool.and_eq_true, decide_eq_true_eq] at hw
  exact ⟨m, rfl, hw⟩
theorem trod_bool1 {t n : Nat} {cs : List Value} {x : DataW H × List MemPlace} (ht : P.underlying t = some .bool) (h : DataW.trod enc P w base sp held n t cs = some x) : ∃ b, cs = [.bool b] := by
  cases n with
  | zero => simp [DataW.trod] at h
  | succ n =>
    unfold DataW.trod at h
    rw [ht] at h
    split at h <;> simp_all
/-- A struct's fields. -/
theorem trod_fields {t n : Nat} {fs : Array Field} {cs : List Value} {x : DataW H × List MemPlace} (ht : P.underlying t = some (.struct fs)) (h : DataW.trod enc P w base sp held n t cs = some x) :
    cs.length = P.cellsOf t ∧ ∃ m, m < n ∧ ∀ (i : Nat) (f : Field), fs[i]? = some f → ∃ y, DataW.trod enc P w base sp held m f.type ((cs.drop f.offset).take (P.cellsOf f.type)) = some y := by
  obtain ⟨xs, m, rfl, _, hl, hlen, hf⟩ := DataW.trod_struct ht h
  refine ⟨hl, m, Nat.lt_succ_self _, fun i f hi => ?_⟩
  have := hf i f hi
  have hlt := (Array.getElem?_eq_some_iff.1 hi).1
  rw [List.getElem?_eq_getElem (by omega)] at this
  exact ⟨_, this⟩
end
end Go.Sx
namespace Go.Proofs.YtedfplodobpgfaaGreatDoor
set_option maxRecDepth 8000
open Go Go.Sx Go.ChangeShapes Go.WideShapes Go.RowKit Go.ChangeMaps
section
variable {H : Type} {enc : TypeId × Value → H} {w : World} {base : Nat} {sp : Nat → Bool} {held : Bool}
theorem openKey {n : Nat} {cs : List Value} {x : DataW H × List MemPlace} (h : DataW.trod enc Tryz.prog w base sp held n 27 cs = some x) : ∃ k : Ky, k.ok ∧ RdL (vis w) k.dt cs := by
  obtain ⟨hl, m, _, hf⟩ := trod_fields Tryz.underlying27 h
  have hl : cs.length = 3 := hl
  match cs, hl with
  | [c0, c1, c2], _ =>
    obtain ⟨y0, h0⟩ := hf 0 _ rfl
    obtain ⟨y1, h1⟩ := hf 1 _ rfl
    obtain ⟨y2, h2⟩ := hf 2 _ rfl
    obtain ⟨b, e0⟩ := trod_bool1 Tryz.underlying4 h0
    obtain ⟨k, e1, b1⟩ := trod_one Tryz.underlying3 h1
    obtain ⟨s, e2, _, b2⟩ := DataW.trod_string Tryz.underlying9 h2
    have e0 : [c0] = [.bool b] := e0
    have e1 : [c1] = [.int .i64 k] := e1
    have e2 : [c2] = [.string s] := e2
    cases e0; cases e1; cases e2
    exact ⟨⟨b, k, s⟩, ⟨b1, b2⟩, by simp only [Ky.dt, RdL_cc, Rd_raw, RdL_nil, true_and, and_true]; exact ⟨rfl, rfl, rfl⟩⟩
theorem openV_ : ∀ (n : Nat) {cs : List Value} {x : DataW H × List MemPlace}, DataW.trod enc Tryz.prog w base sp held n 30 cs = some x → ∃ v : V, v.ok ∧ RdL (vis w) v.dt cs := by
  intro n
  induction n using Nat.strongRecOn with
  | _ n ih =>
    intro cs x h
    obtain ⟨hl, m, hm, hf⟩ := trod_fields Tryz.underlying30 h
    have hl : cs.length = 5 := hl
    match cs, hl with
    | [c0, c1, c2, c3, c4], _ =>
      obtain ⟨y0, h0⟩ := hf 0 _ rfl
      obtain ⟨y1, h1⟩ := hf 1 _ rfl
      obtain ⟨y2, h2⟩ := hf 2 _ rfl
      obtain ⟨y3, h3⟩ := hf 3 _ rfl
      obtain ⟨y4, h4⟩ := hf 4 _ rfl
      obtain ⟨k, e0, b0⟩ := trod_one Tryz.underlying3 h0
      obtain ⟨q, e1, b1⟩ := trod_one Tryz.underlying3 h1
      obtain ⟨s, e2, _, b2⟩ := DataW.trod_string Tryz.underlying9 h2
      obtain ⟨nx, e3, b3⟩ := trod_one Tryz.underlying3 h3
      have e0 : [c0] = [.int .i64 k] := e0
      have e1 : [c1] = [.int .i64 q] := e1
      have e2 : [c2] = [.string s] := e2
      have e3 : [c3] = [.int .i64 nx] := e3
      cases e0; cases e1; cases e2; cases e3
      obtain ⟨es, v, e4, hok, hlen, hrd⟩ := open_list (α := Ky × V) (f := edt) (ok := fun e => e.1.ok ∧ e.2.ok) (z := 8) Tryz.underlying28 (by kernel_rfl) (by decide) (fun n' cs' x' hn' h' => by
        obtain ⟨hl', m', hm', hf'⟩ := trod_fields Tryz.underlying132 h'
        obtain ⟨z0, g0⟩ := hf' 0 _ rfl
        obtain ⟨z1, g1⟩ := hf' 1 _ rfl
        have hl' : cs'.length = 8 := hl'
        obtain ⟨ky, ko, kr⟩ := openKey g0
        obtain ⟨v', vo, vr⟩ := ih m' (by omega) g1
        have kr : RdL (vis w) ky.dt (cs'.take 3) := kr
        have vr : RdL (vis w) v'.dt ((cs'.drop 3).take 5) := vr
        refine ⟨(ky, v'), ⟨ko, vo⟩, ?_⟩
        have : cs' = cs'.take 3 ++ (cs'.drop 3).take 5 := by
          rw [List.take_of_length_le (l := cs'.drop 3) (by rw [List.length_drop]; omega), List.take_append_drop]
        rw [this]
        exact kr.append vr) h4
      have e4 : [c4] = [v] := e4
      cases e4
      refine ⟨⟨k, q, s, nx, es⟩, ?_, ?_⟩
      · simp only [V.ok]
        refine ⟨b0, b1, b2, b3, hlen, ?_⟩
        have : ∀ l : List (Ky × V), (∀ e ∈ l, e.1.ok ∧ e.2.ok) → V.oks l := by
          intro l
          induction l with
          | nil => intro _; simp only [V.oks]
          | cons e r ihl =>
            intro hall
            obtain ⟨ky, v'⟩ := e
            have := hall (ky, v') (by simp)
            simp only [V.oks]
            exact ⟨this.1.1, this.1.2, this.2, ihl fun e he => hall e (by simp [he])⟩
        exact this es hok
      · exact RdL_val_mk (v := ⟨k, q, s, nx, es⟩) hrd
theorem openValueS {v0 : Value} {d : DataW H} {ps : List MemPlace} (h : DataW.Trod enc Tryz.prog w base sp held 54 v0 d ps) (h1 : oneCell v0 = true) :
    ∃ (l : List V), (∀ k ∈ l, k.ok) ∧ l.length ≤ maxLen ∧ Rd (vis w) (.row 5 (l.flatMap V.dt)) v0 := by
  obtain ⟨n, h⟩ := h
  obtain ⟨l, v, e, hok, hlen, hrd⟩ := open_list (α := V) (f := V.dt) (ok := V.ok) (z := 5) Tryz.underlying54 (by kernel_rfl) (by decide) (fun n' cs' x' _ h' => openV_ n' h') h
  have : v0 = v := by cases v0 <;> first | (simp [Value.cells] at e; exact e) | (simp [oneCell] at h1)
  subst this
  exact ⟨l, hok, hlen, hrd⟩
theorem openKeyS {v0 : Value} {d : DataW H} {ps : List MemPlace} (h : DataW.Trod enc Tryz.prog w base sp held 78 v0 d ps) (h1 : oneCell v0 = true) :
    ∃ (l : List Ky), (∀ k ∈ l, k.ok) ∧ l.length ≤ maxLen ∧ Rd (vis w) (.row 3 (l.flatMap Ky.dt)) v0 := by
  obtain ⟨n, h⟩ := h
  obtain ⟨l, v, e, hok, hlen, hrd⟩ := open_list (α := Ky) (f := Ky.dt) (ok := Ky.ok) (z := 3) Tryz.underlying78 (by kernel_rfl) (by decide) (fun n' cs' x' _ h' => openKey h') h
  have : v0 = v := by cases v0 <;> first | (simp [Value.cells] at e; exact e) | (simp [oneCell] at h1)
  subst this
  exact ⟨l, hok, hlen, hrd⟩
end
end Go.Proofs.YtedfplodobpgfaaGreatDoor
namespace Go.Proofs.YtedfplodobpgfaaGreatDoor
set_option maxRecDepth 8000
open Go Go.Sx Go.ChangeShapes Go.WideShapes Go.RowKit Go.ChangeMaps
section
variable {H : Type} {enc : TypeId × Value → H} {w : World} {base : Nat} {sp : Nat → Bool} {held : Bool}
theorem openSl_ {n : Nat} {cs : List Value} {x : DataW H × List MemPlace} (h : DataW.trod enc Tryz.prog w base sp held n 129 cs = some x) : ∃ s : Sl, s.ok ∧ RdL (vis w) s.dt cs := by
  obtain ⟨hl, m, hm, hf⟩ := trod_fields Tryz.underlying129 h
  have hl : cs.length = 10 := hl
  obtain ⟨z0, g0⟩ := hf 0 _ rfl
  obtain ⟨z1, g1⟩ := hf 1 _ rfl
  obtain ⟨z2, g2⟩ := hf 2 _ rfl
  obtain ⟨z3, g3⟩ := hf 3 _ rfl
  obtain ⟨ky, ko, kr⟩ := openKey g0
  obtain ⟨v, vo, vr⟩ := openV_ _ g1
  obtain ⟨b, e2⟩ := trod_bool1 Tryz.underlying4 g2
  obtain ⟨k, e3, b3⟩ := trod_one Tryz.underlying3 g3
  have kr : RdL (vis w) ky.dt (cs.take 3) := kr
  have vr : RdL (vis w) v.dt ((cs.drop 3).take 5) := vr
  have e2 : (cs.drop 8).take 1 = [.bool b] := e2
  have e3 : (cs.drop 9).take 1 = [.int .i64 k] := e3
  refine ⟨⟨ky, v, b, k⟩, ⟨ko, vo, b3⟩, ?_⟩
  have e : cs = cs.take 3 ++ ((cs.drop 3).take 5 ++ [.bool b, .int .i64 k]) := by
    match cs, hl with
    | [c0, c1, c2, c3, c4, c5, c6, c7, c8, c9], _ =>
      simp at e2 e3
      subst e2
      subst e3
      rfl
  rw [e]
  unfold Sl.dt
  refine kr.append (vr.append ?_)
  simp only [RdL_cc, Rd_raw, RdL_nil, true_and, and_true]
  exact ⟨rfl, rfl⟩
theorem openTb_ {n : Nat} {cs : List Value} {x : DataW H × List MemPlace} (h : DataW.trod enc Tryz.prog w base sp held n 25 cs = some x) : ∃ t : Tb, t.ok ∧ RdL (vis w) t.dt cs := by
  obtain ⟨hl, m, hm, hf⟩ := trod_fields Tryz.underlying25 h
  have hl : cs.length = 5 := hl
  match cs, hl with
  | [c0, c1, c2, c3, c4], _ =>
    obtain ⟨y0, h0⟩ := hf 0 _ rfl
    obtain ⟨y1, h1⟩ := hf 1 _ rfl
    obtain ⟨y2, h2⟩ := hf 2 _ rfl
    obtain ⟨y3, h3⟩ := hf 3 _ rfl
    obtain ⟨y4, h4⟩ := hf 4 _ rfl
    obtain ⟨b, e0⟩ := trod_bool1 Tryz.underlying4 h0
    obtain ⟨nx, e3, b3⟩ := trod_one Tryz.underlying3 h3
    obtain ⟨ct, e4, b4⟩ := trod_one Tryz.underlying3 h4
    have e0 : [c0] = [.bool b] := e0
    have e3 : [c3] = [.int .i64 nx] := e3
    have e4 : [c4] = [.int .i64 ct] := e4
    cases e0; cases e3; cases e4
    obtain ⟨hs, v1, e1, hok, hlen, hrd⟩ := open_list (α := Int) (f := idt) (ok := fun n => IntKind.i64.min ≤ n ∧ n ≤ IntKind.i64.max) (z := 1) Tryz.underlying22 (by kernel_rfl) (by decide) (fun n' cs' x' _ h' => by
      obtain ⟨q, e, b⟩ := trod_one Tryz.underlying3 h'
      subst e
      refine ⟨q, b, ?_⟩
      simp only [idt, RdL_cc, Rd_raw, RdL_nil, true_and, and_true]
      rfl) h1
    have e1 : [c1] = [v1] := e1
    cases e1
    obtain ⟨ss, v2, e2, sok, slen, srd⟩ := open_list (α := Sl) (f := Sl.dt) (ok := Sl.ok) (z := 10) Tryz.underlying23 (by kernel_rfl) (by decide) (fun n' cs' x' _ h' => openSl_ h') h2
    have e2 : [c2] = [v2] := e2
    cases e2
    refine ⟨⟨b, hs, ss, nx, ct⟩, ⟨hok, sok, b3, b4, hlen, slen⟩, ?_⟩
    simp only [Tb.dt, RdL_cc, Rd_raw, RdL_nil, true_and, and_true]
    exact ⟨rfl, hrd, srd, rfl, rfl⟩
theorem openBk_ {n : Nat} {cs : List Value} {x : DataW H × List MemPlace} (h : DataW.trod enc Tryz.prog w base sp held n 154 cs = some x) : ∃ t : Bk, t.ok ∧ RdL (vis w) t.dt cs := by
  obtain ⟨hl, m, hm, hf⟩ := trod_fields Tryz.underlying154 h
  have hl : cs.length = 6 := hl
  obtain ⟨z0, g0⟩ := hf 0 _ rfl
  obtain ⟨z1, g1⟩ := hf 1 _ rfl
  obtain ⟨k, e0, b0⟩ := trod_one Tryz.underlying3 g0
  obtain ⟨t, tok, tr⟩ := openTb_ g1
  have e0 : (cs.drop 0).take 1 = [.int .i64 k] := e0
  have tr : RdL (vis w) t.dt ((cs.drop 1).take 5) := tr
  refine ⟨⟨k, t⟩, ⟨b0, tok⟩, ?_⟩
  have e : cs = .int .i64 k :: (cs.drop 1).take 5 := by
    match cs, hl with
    | [c0, c1, c2, c3, c4, c5], _ =>
      simp at e0
      subst e0
      rfl
  rw [e]
  unfold Bk.dt
  exact RdL_cc.2 ⟨Rd_raw.2 ⟨rfl, rfl⟩, tr⟩
theorem openH {v0 : Value} {d : DataW H} {ps : List MemPlace} {r : Reach} {b0 : Nat} (hval : Value.okWide Tryz.prog w r b0 53 v0) (h : DataW.Trod enc Tryz.prog w base sp held 53 v0 d ps) :
    ∃ (l : List Bk) (s : Value), v0 = .agg #[s] ∧ (∀ b ∈ l, b.ok) ∧ l.length ≤ maxLen ∧ RdB (vis w) l s := by
  obtain ⟨n, h⟩ := h
  unfold Value.okWide at hval
  rw [Tryz.underlying53] at hval
  obtain ⟨cs, rfl, _⟩ := hval
  obtain ⟨hl, m, hm, hf⟩ := trod_fields Tryz.underlying53 h
  have hl : cs.toList.length = 1 := hl
  obtain ⟨z0, g0⟩ := hf 0 _ rfl
  obtain ⟨l, v, e, hok, hlen, hrd⟩ := open_list (α := Bk) (f := Bk.dt) (ok := Bk.ok) (z := 6) Tryz.underlying51 (by kernel_rfl) (by decide) (fun n' cs' x' _ h' => openBk_ h') g0
  have e : (cs.toList.drop 0).take 1 = [v] := e
  have e2 : cs.toList = [v] := by rw [List.drop_zero, List.take_of_length_le (by omega)] at e; exact e
  refine ⟨l, v, ?_, hok, hlen, hrd⟩
  rw [← e2]
end
end Go.Proofs.YtedfplodobpgfaaGreatDoor
namespace Go.Proofs.YtedfplodobpgfaaGreatDoor
set_option maxRecDepth 8000
open Go Go.Sx Go.ChangeShapes Go.WideShapes Go.ChangeAt Go.RowKit Go.ChangeMaps
theorem own : ownKnob Tryz.prog.godebug = none := by kernel_rfl
theorem laidOut : laidOutB Tryz.prog = true := by kernel_rfl
theorem FnExactSetShared_law (l : List Bk) (ok0 : ∀ b ∈ l, b.ok) (l0 : l.length ≤ maxLen) (s0 : Value) (rs : List V) (ok1 : ∀ k ∈ rs, k.ok) (l1 : rs.length ≤ maxLen) (s1 : Value) (i : Int) (_ok2 : IntKind.i64.min ≤ i ∧ i ≤ IntKind.i64.max) (ks : List Ky) (ok3 : ∀ k ∈ ks, k.ok) (l3 : ks.length ≤ maxLen) (s3 : Value) (p : Bool) (j : Int) (_ok5 : IntKind.i64.min ≤ j ∧ j ≤ IntKind.i64.max) (h : Hp) (r0 : RdB h l s0) (r1 : Rd h (.row 5 (rs.flatMap V.dt)) s1) (r3 : Rd h (.row 3 (ks.flatMap Ky.dt)) s3) (hE : Env h) : ACalls Tryz.prog 9 #[.agg #[s0], s1, .int .i64 i, s3, .bool p, .int .i64 j] h (Is (.bool true) h) := by
  obtain ⟨sa0, sc0, _, rfl, _⟩ := r0.rows (by decide) l.length (fm_len Bk.dt_len _)
  obtain ⟨sa1, sc1, _, rfl, _⟩ := r1.rows (by decide) rs.length (fm_len V.dt_len _)
  obtain ⟨sa3, sc3, _, rfl, _⟩ := r3.rows (by decide) ks.length (fm_len Ky.dt_len _)
  (refine enter Tryz.func9 rfl rfl (by kernel_rfl) [] ?_; simp only [go_sem, Nat.reduceBEq, Nat.reduceLeDiff])
  (refine (szHeap_c l ok0 l0 _ _ _ r0 (by decide) (by decide)).mono ?_; rintro _ _ ⟨rfl, rfl⟩; simp only [go_sem, Nat.reduceBEq])
  refine Br.intro (fun hb => ?_) (fun hb => ?_) <;> (try simp only [hb, go_sem, Nat.reduceBEq])
  · exact ⟨rfl, Ext.refl _⟩
  have f : 0 ≤ less 1048576 (szG Bk.bulk l) := by simpa using hb
  (refine (szValueS_c rs ok1 l1 _ _ _ r1 f (less_le (by decide))).mono ?_; rintro _ _ ⟨rfl, rfl⟩; simp only [go_sem, Nat.reduceBEq])
  rw [less_add f]
  refine Br.intro (fun hb => ?_) (fun hb => ?_) <;> (try simp only [hb, go_sem, Nat.reduceBEq])
  · exact ⟨rfl, Ext.refl _⟩
  have f : 0 ≤ less 1048576 ((szG Bk.bulk l) + szG V.bulk rs) := by simpa using hb
  (refine (szKeyS_c ks ok3 l3 _ _ _ r3 f (less_le (by decide))).mono ?_; rintro _ _ ⟨rfl, rfl⟩; simp only [go_sem, Nat.reduceBEq])
  rw [less_add f]
  refine Br.intro (fun hb => ?_) (fun hb => ?_) <;> (try simp only [hb, go_sem, Nat.reduceBEq, Nat.reduceLeDiff])
  · exact ⟨rfl, Ext.refl _⟩
  have f : 0 ≤ less 1048576 (((szG Bk.bulk l) + szG V.bulk rs) + szG (fun e : Ky => e.str.size) ks) := by simpa using hb
  have f : (((szG Bk.bulk l) + szG V.bulk rs) + szG (fun e : Ky => e.str.size) ks) ≤ 1048576 := by unfold less at f; split at f <;> omega
  have hb0 : szG Bk.bulk l ≤ 1048576 := by omega
  have hC0 := cntB_bulk l
  have hb1 : szG V.bulk rs ≤ 1048576 := by omega
  have hC1 := cntV_bulk rs
  have hb3 : ks.length ≤ 1048576 := by unfold szG at f; omega
  have hC3 := cntK_len ks
  have hLn := szG_len (w := Bk.bulk) l
  have hLr := szG_len (w := V.bulk) rs
  have hW := setSh_bulk l rs i ks p j (by omega) (by omega)
  have hWb := V.bulk_eq (setSh l rs i ks p j).2.1
  have hWn := szG_len (w := Bk.bulk) (setSh l rs i ks p j).1
  have hkb := kbulk_eq ks
  have hks : ∀ k ∈ ks, k.str.size ≤ 1152921504606846976 := fun k hk => by
    have := gsum_mem (w := fun e : Ky => e.str.size) hk
    unfold szG at f
    omega
  have hR0 := cntB_bulk (setSh l rs i ks p j).1
  have hR1 := cntEs_bulk (setSh l rs i ks p j).2.1.items
  refine (toHeap_c l hb0 _ _ r0).mono ?_
  rintro _ h1 ⟨a1, c1, rfl, m1⟩
  have M1 := m1
  simp only [go_sem, Nat.reduceBEq]
  refine (toValueS_c rs hb1 _ _ (r1.mono M1.ext)).mono ?_
  rintro _ h2 m2
  obtain ⟨a2, c2, rfl, _⟩ := m2.row_shape (by decide) rs.length (fm_len V.dt_len _)
  have M2 := M1.add m2
  simp only [go_sem, Nat.reduceBEq]
  refine (toKeyS_c ks hb3 _ _ (r3.mono M2.ext)).mono ?_
  rintro _ h3 m3
  obtain ⟨a3, c3, rfl, _⟩ := m3.row_shape (by decide) ks.length (fm_len Ky.dt_len _)
  have M3 := M2.add m3
  simp only [go_sem, Nat.reduceBEq]
  refine (sSetShared l rs i ks p j (by omega) (by omega) (by omega) (by omega) hks _ _ _ _ (M3.drop.drop).rd (M3.drop).rd M3.rd (M3.drop).cap).mono ?_
  rintro _ h4 ⟨a4_0, c4_0, a4_1, c4_1,  rfl, m4⟩
  have M4 := M3.add m4
  simp only [go_sem, Nat.reduceBEq, Nat.reduceAdd, Nat.reduceLeDiff]
  have M5 := M4.fifth
  have M6 := M5.drop
  have M7 := M6.fourth
  have M8 := M7.drop
  have M9 := M8.third
  have M10 := M9.drop
  refine (toHeap_c l hb0 _ _ (r0.mono M10.ext)).mono ?_
  rintro _ h11 ⟨a11, c11, rfl, m11⟩
  have M11 := M10.add m11
  simp only [go_sem, Nat.reduceBEq, Nat.reduceLeDiff]
  refine (toValueS_c rs hb1 _ _ (r1.mono M11.ext)).mono ?_
  rintro _ h12 m12
  obtain ⟨a12, c12, rfl, _⟩ := m12.row_shape (by decide) rs.length (fm_len V.dt_len _)
  have M12 := M11.add m12
  simp only [go_sem, Nat.reduceBEq]
  refine (toKeyS_c ks hb3 _ _ (r3.mono M12.ext)).mono ?_
  rintro _ h13 m13
  obtain ⟨a13, c13, rfl, _⟩ := m13.row_shape (by decide) ks.length (fm_len Ky.dt_len _)
  have M13 := M12.add m13
  simp only [go_sem, Nat.reduceBEq, Nat.reduceLeDiff]
  refine (iSetShared l rs i ks p j (by omega) (by omega) (by omega) (by omega) _ _ _ _ (M13.drop.drop).rd (M13.drop).rd M13.rd (hE.ext M13.ext)).mono ?_
  rintro _ h14 ⟨a14_0, c14_0, a14_1, c14_1,  rfl, m14⟩
  have M14 := M13.add m14
  simp only [go_sem, Nat.reduceBEq, Nat.reduceAdd, Nat.reduceLeDiff]
  (refine (eqHeap_c (setSh l rs i ks p j).1 (by omega) _ _ _ M14.rd (M14.drop.drop.drop.drop.drop).rd).mono ?_; rintro _ _ ⟨rfl, rfl⟩; simp only [go_sem, Nat.reduceBEq, Nat.reduceAdd, Nat.reduceLeDiff])
  (refine (eqValue_c (setSh l rs i ks p j).2.1 (by omega) _ _ _ (M14.drop).rd (M14.drop.drop.drop.drop.drop.drop).rd).mono ?_; rintro _ _ ⟨rfl, rfl⟩; simp only [go_sem, Nat.reduceBEq])
  refine regionD_intro (lb := [90, 91]) (by kernel_rfl) ?_
  simp only [go_sem, Nat.reduceBEq, Nat.reduceLeDiff]
  refine (toHeap_c l hb0 _ _ (r0.mono M14.ext)).mono ?_
  rintro _ h15 ⟨a15, c15, rfl, m15⟩
  have M15 := M14.add m15
  simp only [go_sem, Nat.reduceBEq]
  (refine (eqHeap_c l (by omega) _ _ _ (M15.drop.drop.drop.drop.drop).rd M15.rd).mono ?_; rintro _ _ ⟨rfl, rfl⟩; simp only [go_sem, Nat.reduceBEq])
  have M16 := M15.drop
  refine (toValueS_c rs hb1 _ _ (r1.mono M16.ext)).mono ?_
  rintro _ h17 m17
  obtain ⟨a17, c17, rfl, _⟩ := m17.row_shape (by decide) rs.length (fm_len V.dt_len _)
  have M17 := M16.add m17
  simp only [go_sem, Nat.reduceBEq]
  (refine (eqValueS_c rs (by omega) _ _ _ (M17.drop.drop.drop.drop).rd M17.rd).mono ?_; rintro _ _ ⟨rfl, rfl⟩; simp only [go_sem, Nat.reduceBEq])
  have M18 := M17.drop
  refine (toKeyS_c ks hb3 _ _ (r3.mono M18.ext)).mono ?_
  rintro _ h19 m19
  obtain ⟨a19, c19, rfl, _⟩ := m19.row_shape (by decide) ks.length (fm_len Ky.dt_len _)
  have M19 := M18.add m19
  simp only [go_sem, Nat.reduceBEq]
  (refine (eqKeyS_c ks (by omega) _ _ _ (M19.drop.drop.drop).rd M19.rd).mono ?_; rintro _ _ ⟨rfl, rfl⟩; simp only [go_sem, Nat.reduceBEq, Nat.reduceLeDiff])
  have M20 := M19.drop
  have M21 := M20.fifth
  refine (markHeap_c l 1 (by omega) _ _ _ _ M21).mono ?_
  rintro _ h22 ⟨rfl, M22⟩
  simp only [go_sem, Nat.reduceBEq]
  have M23 := M22.fifth
  refine (markValueS_c rs (1 + cntG cB l) (by omega) _ _ _ _ M23).mono ?_
  rintro _ h24 ⟨rfl, M24⟩
  simp only [go_sem, Nat.reduceBEq]
  have M25 := M24.fifth
  refine (markKeyS_c ks ((1 + cntG cB l) + cntG cV rs) (by omega) _ _ _ _ M25).mono ?_
  rintro _ h26 ⟨rfl, M26⟩
  simp only [nat_neg, go_sem, Nat.reduceBEq, Nat.reduceLeDiff]
  (refine (eqHeap_c (setSh l rs i ks p j).1 (by omega) _ _ _ (M26.drop.drop.drop).rd (M26.drop.drop.drop.drop.drop).rd).mono ?_; rintro _ _ ⟨rfl, rfl⟩; simp only [go_sem, Nat.reduceBEq, Nat.reduceAdd, Nat.reduceLeDiff])
  (refine (eqValue_c (setSh l rs i ks p j).2.1 (by omega) _ _ _ (M26.drop.drop.drop.drop).rd (M26.drop.drop.drop.drop.drop.drop).rd).mono ?_; rintro _ _ ⟨rfl, rfl⟩; simp only [go_sem, Nat.reduceBEq, Nat.reduceLeDiff])
  have M27 := M26.fourth
  refine (markHeap_c (setSh l rs i ks p j).1 1 (by omega) _ _ _ _ M27).mono ?_
  rintro _ h28 ⟨rfl, M28⟩
  simp only [go_sem, Nat.reduceBEq, Nat.reduceAdd, Nat.reduceLeDiff]
  have M29 := M28.fifth
  refine (markValue_c (setSh l rs i ks p j).2.1 (1 + cntG cB (setSh l rs i ks p j).1) (by omega) _ _ _ _ M29).mono ?_
  rintro _ h30 ⟨rfl, M30⟩
  simp only [go_sem, Nat.reduceBEq, Nat.reduceLeDiff]
  refine (heldHeap_c (setSh l rs i ks p j).1 1 (by omega) _ _ (M30.drop).rd).mono ?_
  rintro _ h31 ⟨rfl, e31⟩
  have M32 := M30.mono e31
  simp only [go_sem, Nat.reduceBEq]
  rw [nat_neg]
  simp only [go_sem, Nat.reduceBEq, Nat.reduceAdd, Nat.reduceLeDiff]
  refine (heldValue_c (setSh l rs i ks p j).2.1 _ _ _ _ (1 + cntG cB (setSh l rs i ks p j).1) (by omega) _ _ M32.rd).mono ?_
  rintro _ h33 ⟨rfl, e33⟩
  have M34 := M32.mono e33
  simp only [go_sem, Nat.reduceBEq]
  rw [nat_neg]
  simp only [go_sem, Nat.reduceBEq, Nat.reduceLeDiff]
  refine (toHeap_c l hb0 _ _ (r0.mono M34.ext)).mono ?_
  rintro _ h35 ⟨a35, c35, rfl, m35⟩
  have M35 := M34.add m35
  simp only [go_sem, Nat.reduceBEq]
  refine (toValueS_c rs hb1 _ _ (r1.mono M35.ext)).mono ?_
  rintro _ h36 m36
  obtain ⟨a36, c36, rfl, _⟩ := m36.row_shape (by decide) rs.length (fm_len V.dt_len _)
  have M36 := M35.add m36
  simp only [go_sem, Nat.reduceBEq]
  refine (toKeyS_c ks hb3 _ _ (r3.mono M36.ext)).mono ?_
  rintro _ h37 m37
  obtain ⟨a37, c37, rfl, _⟩ := m37.row_shape (by decide) ks.length (fm_len Ky.dt_len _)
  have M37 := M36.add m37
  simp only [go_sem, Nat.reduceBEq]
  refine (iSetShared l rs i ks p j (by omega) (by omega) (by omega) (by omega) _ _ _ _ (M37.drop.drop).rd (M37.drop).rd M37.rd (hE.ext M37.ext)).mono ?_
  rintro _ h38 ⟨a38_0, c38_0, a38_1, c38_1,  rfl, m38⟩
  have M38 := M37.add m38
  simp only [go_sem, Nat.reduceBEq, Nat.reduceAdd, Nat.reduceLeDiff]
  have M39 := M38.fifth
  have M40 := M39.drop
  have M41 := M40.fourth
  have M42 := M41.drop
  have M43 := M42.third
  have M44 := M43.drop
  (refine (eqHeap_c (setSh l rs i ks p j).1 (by omega) _ _ _ M44.rd (M44.drop.drop.drop.drop.drop.drop.drop).rd).mono ?_; rintro _ _ ⟨rfl, rfl⟩; simp only [go_sem, Nat.reduceBEq, Nat.reduceAdd, Nat.reduceLeDiff])
  (refine (eqValue_c (setSh l rs i ks p j).2.1 (by omega) _ _ _ (M44.drop).rd (M44.drop.drop.drop.drop.drop.drop.drop.drop).rd).mono ?_; rintro _ _ ⟨rfl, rfl⟩; simp only [go_sem, Nat.reduceBEq, Nat.reduceLeDiff])
  refine (heldHeap_c (setSh l rs i ks p j).1 1 (by omega) _ _ (M44.drop.drop.drop).rd).mono ?_
  rintro _ h45 ⟨rfl, e45⟩
  have M46 := M44.mono e45
  simp only [go_sem, Nat.reduceBEq]
  rw [nat_neg]
  simp only [go_sem, Nat.reduceBEq, Nat.reduceAdd, Nat.reduceLeDiff]
  refine (heldValue_c (setSh l rs i ks p j).2.1 _ _ _ _ (1 + cntG cB (setSh l rs i ks p j).1) (by omega) _ _ (M46.drop.drop).rd).mono ?_
  rintro _ h47 ⟨rfl, e47⟩
  have M48 := M46.mono e47
  simp only [go_sem, Nat.reduceBEq]
  rw [nat_neg]
  simp only [go_sem, Nat.reduceBEq]
  exact ⟨rfl, M48.ext⟩
theorem FnExactSetShared_met (os : Os) (args : Array Value) : laidMetH Tryz.prog Rows.fnExactSetSharedRow.laid ((World.doorLaid Tryz.prog 400 os).forCall (fun _ _ => 0) ⟨#[], args, []⟩).memory :=
  laidMetH_of_parts3 (fuel := 8) (laidMet_of_run' 8 (by kernel_rfl) (by kernel_rfl)) (by kernel_rfl) (by kernel_rfl)
set_option maxRecDepth 100000 in
theorem FnExactSetShared_lifted (os : Os) (started : os.Started) (H : Type) (enc : TypeId × Value → H) :
    ReturnsInHanded {} Tryz.checked os 9 .any (fun w args => (Rows.fnExactSetSharedSpec.pre enc Tryz.prog Tryz.f9 Rows.fnExactSetSharedRow.domain false w args ∧ laidMetH Tryz.prog Rows.fnExactSetSharedRow.laid w) ∧ sizedMet enc Tryz.prog Tryz.f9 (OpenSpec.ofChange Rows.fnExactSetSharedSpec) false w args) (Rows.fnExactSetSharedSpec.post enc Tryz.prog Tryz.f9 false true false false) := by
  refine returnsInHanded_of_change_and (C := Tryz.checked) (X := fun w _ => laidMetH Tryz.prog Rows.fnExactSetSharedRow.laid w) (fun _ _ _ hh h => h.of_heap hh) own started (by kernel_rfl) Tryz.func9
    (ChangeSpec.witness_shaped (enc := enc) (C := Tryz.checked) (os := os) (X := fun w _ => laidMetH Tryz.prog Rows.fnExactSetSharedRow.laid w) false (World.doorLaid Tryz.prog 400 os) #[.agg #[.slice none 0 0], .slice none 0 0, .int .i64 0, .slice none 0 0, .bool false, .int .i64 0] 8 rfl (World.shaped_of_RefB (by kernel_rfl) (by kernel_rfl)) (by kernel_rfl) (by kernel_rfl) (by kernel_rfl) (FnExactSetShared_met os _)) ?_
  intro W base args ds gs before hval0 hW _ _ hL _
  have hT : Pow (vis W) := pow_of (by kernel_rfl) (by rw [MakeChecks.laidMetH_plain _ _ _ (by kernel_rfl)] at hL; exact hL)
  have hE : Env (vis W) := env_of hT (by kernel_rfl) (by kernel_rfl) (by rw [MakeChecks.laidMetH_plain _ _ _ (by kernel_rfl)] at hL; exact hL)
  have hval : ∀ (j : Nat) t v, Tryz.f9.params[j]? = some t → args[j]? = some v → Value.okWide Tryz.prog W .any base t v := hval0
  have hW' := hW
  obtain ⟨p, q, hA0, hV, rfl, _, _⟩ := hW
  have hA : DataW.TrodAll enc Tryz.prog W 0 (fun _ => true) true Tryz.f9.params.toList args.toList ds p := hA0
  rw [Tryz.params9] at hA hval
  obtain ⟨v0, vs0, d0, ds0, p0, q0, hargs, rfl, rfl, h0, r0⟩ := trodAll_cons hA
  obtain ⟨v1, vs1, d1, ds1, p1, q1, rfl, rfl, rfl, h1, r1⟩ := trodAll_cons r0
  obtain ⟨v2, vs2, d2, ds2, p2, q2, rfl, rfl, rfl, h2, r2⟩ := trodAll_cons r1
  obtain ⟨v3, vs3, d3, ds3, p3, q3, rfl, rfl, rfl, h3, r3⟩ := trodAll_cons r2
  obtain ⟨v4, vs4, d4, ds4, p4, q4, rfl, rfl, rfl, h4, r4⟩ := trodAll_cons r3
  obtain ⟨v5, vs5, d5, ds5, p5, q5, rfl, rfl, rfl, h5, r5⟩ := trodAll_cons r4
  obtain ⟨rfl, rfl, rfl⟩ := trodAll_nil r5
  obtain rfl : args = #[v0, v1, v2, v3, v4, v5] := by cases args; simp_all
  obtain ⟨rfl, rfl⟩ := trodVars_none hV
  obtain ⟨a0, s0, rfl, w0, l0, e0⟩ := openH (hval 0 53 v0 rfl rfl) h0
  obtain ⟨_, _, _, rfl⟩ := okWide_slice Tryz.underlying54 (hval 1 54 v1 rfl rfl)
  obtain ⟨a1, w1, l1, e1⟩ := openValueS h1 rfl
  obtain ⟨a2, rfl, rfl, rfl, w2⟩ := open_int Tryz.underlying3 (hval 2 3 v2 rfl rfl) h2
  obtain ⟨_, _, _, rfl⟩ := okWide_slice Tryz.underlying78 (hval 3 78 v3 rfl rfl)
  obtain ⟨a3, w3, l3, e3⟩ := openKeyS h3 rfl
  obtain ⟨a4, rfl, rfl, rfl⟩ := open_bool Tryz.underlying4 (hval 4 4 v4 rfl rfl) h4
  obtain ⟨a5, rfl, rfl, rfl, w5⟩ := open_int Tryz.underlying3 (hval 5 3 v5 rfl rfl) h5
  clear hA0 hval0
  simp only [List.append_nil] at hW'
  exact (to_below (FnExactSetShared_law a0 w0 l0 s0 a1 w1 l1 _ a2 (by simpa only [Lit.wf, Bool.and_eq_true, decide_eq_true_eq] using w2) a3 w3 l3 _ a4 a5 (by simpa only [Lit.wf, Bool.and_eq_true, decide_eq_true_eq] using w5) _ e0 e1 e3 hE)).mono fun e W' ⟨he, hb⟩ => ⟨_, he, law_post laidOut (by kernel_rfl) rfl Tryz.underlying4 rfl hW' rfl rfl rfl hb⟩
theorem FnExactSetShared_proved : Rows.FnExactSetSharedSaid :=
  OpenClaim.holds_of_wide 9 Tryz.f9 rfl rfl rfl rfl rfl rfl rfl ⟨rfl, rfl, rfl, rfl, rfl⟩ rfl rfl rfl rfl rfl (by kernel_rfl) Tryz.func9 (by kernel_rfl)
    (of_decide_eq_true (by kernel_rfl)) (by unfold Func.isWrapper; first | (rw [if_pos (by decide +kernel)]; kernel_rfl) | (rw [if_neg (by decide +kernel)]; exact ⟨rfl, rfl⟩))
    (fun os started H enc _ => FnExactSetShared_lifted os started H enc)
theorem FnExactSetShared_card : Rows.FnExactSetSharedCardSaid :=
  Claim7.holds_tied_plain_at .later [] Rows.fnExactSetSharedCard.laidKinds true Rows.fnExactSetSharedCard.stood.harness Rows.fnExactSetSharedCard.stood.looks
    FnExactSetShared_proved (fun _ h => by cases h) (by kernel_rfl) (fun _ h => by cases h) fnExactSetShared_row_tie rfl ⟨rfl, rfl⟩ (by kernel_rfl) rfl
    (fun f fn hf hfn => by
      obtain rfl : f = 9 := Option.some.inj ((show Tryz.prog.funcNamed Rows.fnExactSetSharedRow.func = some 9 by kernel_rfl).symm.trans hf) |>.symm
      obtain rfl : fn = Tryz.f9 := (Option.some.inj (Tryz.func9.symm.trans hfn)).symm
      exact ⟨by kernel_rfl, fun j t ht => by
        rw [Tryz.params9] at ht
        have hm : t ∈ [53, 54, 3, 78, 4, 3] := by simpa using Array.mem_of_getElem? ht
        have hall : ([53, 54, 3, 78, 4, 3].all fun u => !Tryz.prog.wantsStandIn u) = true := by kernel_rfl
        exact (show Tryz.prog.wantsStandIn t = false by simpa using List.all_eq_true.1 hall t hm)⟩)
    (by kernel_rfl)
end Go.Proofs.YtedfplodobpgfaaGreatDoor
