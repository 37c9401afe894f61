/-
  What Union of the program and of the reference does.
-/
import Derived.Test.YtpfongmnmcmnaaaGreatDoorPut
import Derived.Test.YtpfongmnmcmnaaaGreatDoorSet
import Derived.Test.YtpfongmnmcmnaaaGreatDoorIsVal
import Derived.Test.YtpfongmnmcmnaaaGreatDoorSxUnion
namespace Go.Proofs.YtpfongmnmcmnaaaGreatDoor
set_option maxRecDepth 8000
open Go Go.Sx
/-- a value made, and a number -/
def MadeI (h : Hp) (o : V) (n : Int) (u : Value) (h' : Hp) : Prop := ∃ a c, u = .tuple #[.agg #[.int .i64 o.kind, .int .i64 o.num, .string o.str, .int .i64 o.next, .slice a o.items.length c], .int .i64 n] ∧ My h h' [(.row 8 (o.items.flatMap edt), .slice a o.items.length c)]
/-- the union, or why there is none -/
def unionOf (a b : V) : V × Int := if a.valid && b.valid && (decide (a.kind = 4) && decide (b.kind = 4)) then (if (V.uni a b).weight ≤ 200 then (V.uni a b, 0) else (V.null, 9)) else (V.null, 2)
theorem union_bulk (a b : V) : V.bulks (unionOf a b).1.items ≤ V.bulks a.items + V.bulks b.items := by
  unfold unionOf
  split
  · split
    · exact (addTo_bulk a b.items a).1
    · exact Nat.zero_le _
  · exact Nat.zero_le _
theorem valid_dkeys {b : V} (h : b.valid = true) (hk : b.kind = 4) : dkeys b.items := by
  unfold V.valid at h
  rw [Bool.and_eq_true] at h
  exact (wfEs_dkeys _ _ (V.wf_entries h.2 hk).1).1
theorem made_null (h : Hp) (n : Int) : MadeI h V.null n (.tuple #[.agg #[.int .i64 0, .int .i64 0, .string ⟨#[]⟩, .int .i64 0, .slice none 0 0], .int .i64 n]) h := ⟨none, 0, rfl, (My.nil (Ext.refl h)).nilrow⟩
theorem MadeI.of {h h1 h2 : Hp} {o : V} {n : Int} {u : Value} (e : Ext h h1) (m : MadeI h1 o n u h2) : MadeI h o n u h2 := by
  obtain ⟨a, c, h1, h2⟩ := m
  exact ⟨a, c, h1, h2.base e⟩
theorem iUnion (a b : V) (ha : a.bulk ≤ 274877906944) (hb : b.bulk ≤ 274877906944) (sa sb : Value) (h : Hp) (ra : RdE h a.items sa) (rb : RdE h b.items sb) (hE : Env h) :
    ACalls Tryz.prog 26 #[.agg #[.int .i64 a.kind, .int .i64 a.num, .string a.str, .int .i64 a.next, sa], .agg #[.int .i64 b.kind, .int .i64 b.num, .string b.str, .int .i64 b.next, sb]] h (MadeI h (unionOf a b).1 (unionOf a b).2) := by
  have hBa := V.bulk_eq a
  have hBb := V.bulk_eq b
  have hla := V.bulks_len a.items
  have hlb := V.bulks_len b.items
  obtain ⟨aa, ca, xa, rfl, _⟩ := ra.rows (by decide) a.items.length (fm_len edt_len _)
  obtain ⟨ab, cb, xb, rfl, hcb, hrb, hatb⟩ := rb.rows (by decide) b.items.length (fm_len edt_len _)
  (refine enter Tryz.func26 rfl rfl (by kernel_rfl) [6] ?_; simp only [go_sem, Nat.reduceBEq, Nat.reduceAdd, Nat.reduceLeDiff])
  refine (iIsValue a (by omega) _ _ ra hE).mono ?_
  rintro _ h1 ⟨rfl, e1⟩
  cases va : a.valid with
  | false =>
    have e0 : unionOf a b = (V.null, 2) := by unfold unionOf; rw [va]; rfl
    rw [e0]
    simp only [go_sem, Nat.reduceBEq]
    (refine (iNull _).mono ?_; rintro _ _ ⟨rfl, rfl⟩; simp only [go_sem, Nat.reduceBEq, Nat.reduceAdd, Nat.reduceLeDiff])
    exact (made_null _ _).of e1
  | true =>
  simp only [go_sem, Nat.reduceBEq, Nat.reduceAdd, Nat.reduceLeDiff]
  refine (iIsValue b (by omega) _ _ (rb.mono e1) (hE.ext e1)).mono ?_
  rintro _ h2 ⟨rfl, e2⟩
  have e12 := e1.trans e2
  cases vb : b.valid with
  | false =>
    have e0 : unionOf a b = (V.null, 2) := by unfold unionOf; rw [va, vb]; rfl
    rw [e0]
    simp only [go_sem, Nat.reduceBEq]
    (refine (iNull _).mono ?_; rintro _ _ ⟨rfl, rfl⟩; simp only [go_sem, Nat.reduceBEq, Nat.reduceAdd, Nat.reduceLeDiff])
    exact (made_null _ _).of e12
  | true =>
  by_cases ka : a.kind = 4
  case neg =>
    have e0 : unionOf a b = (V.null, 2) := by unfold unionOf; rw [va, vb, decide_eq_false ka]; rfl
    rw [e0]
    simp only [decide_eq_false ka, go_sem, Nat.reduceBEq]
    (refine (iNull _).mono ?_; rintro _ _ ⟨rfl, rfl⟩; simp only [go_sem, Nat.reduceBEq, Nat.reduceAdd, Nat.reduceLeDiff])
    exact (made_null _ _).of e12
  by_cases kb : b.kind = 4
  case neg =>
    have e0 : unionOf a b = (V.null, 2) := by unfold unionOf; rw [va, vb, decide_eq_true ka, decide_eq_false kb]; rfl
    rw [e0]
    simp only [decide_eq_true ka, decide_eq_false kb, go_sem, Nat.reduceBEq]
    (refine (iNull _).mono ?_; rintro _ _ ⟨rfl, rfl⟩; simp only [go_sem, Nat.reduceBEq, Nat.reduceAdd, Nat.reduceLeDiff])
    exact (made_null _ _).of e12
  have e0 : unionOf a b = if (V.uni a b).weight ≤ 200 then (V.uni a b, 0) else (V.null, 9) := by unfold unionOf; rw [va, vb, decide_eq_true ka, decide_eq_true kb]; rfl
  rw [e0]
  simp only [decide_eq_true ka, decide_eq_true kb, go_sem, Nat.reduceBEq, Nat.reduceAdd, Nat.reduceLeDiff]
  refine (copyValue_c a (by omega) _ _ (ra.mono e12)).mono ?_
  rintro _ h3 ⟨a3, c3, rfl, m3⟩
  simp only [go_sem, Nat.reduceBEq]
  refine hsem_my_alloc (z := [.int .i64 0, .int .i64 0, .string ⟨#[]⟩, .int .i64 0, .slice none 0 0]) (by kernel_rfl) rfl m3 fun b0 h4 m4 => ?_
  simp only [go_sem, Nat.reduceBEq]
  refine var_store (w := a) Hold.ptr rfl m4.swap rfl fun h5 m5 => ?_
  have m5 : My h2 h5 [(.ptr [] a.dt [], .pointer (some ⟨b0, 0, none⟩))] := m5
  simp only [go_sem, Nat.reduceBEq]
  refine aloop (ι := Nat × V) (fun x => [(33, .val (.int .i64 (x.1 : Nat))), (32, .val (.int .i64 (b.items.length : Nat))), (31, .val (.slice ab b.items.length cb)), (6, .val (.pointer (some ⟨b0, 0, none⟩))), (2, .box 2 0), (3, .box 3 0), (4, .box 4 0)])
    (fun _ => [(2, [.int .i64 a.kind, .int .i64 a.num, .string a.str, .int .i64 a.next, .slice aa a.items.length ca]), (3, [.int .i64 b.kind, .int .i64 b.num, .string b.str, .int .i64 b.next, .slice ab b.items.length cb]), (4, [.int .i64 0, .int .i64 0, .string ⟨#[]⟩, .int .i64 0, .slice none 0 0])])
    (fun x h' => x.1 ≤ b.items.length ∧ My h2 h' [(.ptr [] x.2.dt [], .pointer (some ⟨b0, 0, none⟩))] ∧ V.bulks x.2.items + V.bulks (b.items.drop x.1) ≤ 549755813888 ∧ V.addOn x.2 (b.items.drop x.1) = V.addOn a b.items) (fun x => b.items.length - x.1) (0, a)
    ⟨Nat.zero_le _, m5, by simp only [List.drop_zero]; omega, rfl⟩ (by repeat (first | exact wkF_e | refine wkF_c rfl ?_)) (wkB_c rfl (wkB_c rfl (wkB_c rfl wkB_e))) rfl ?_
  rintro ⟨i, o⟩ h6 ⟨hi, m6, hbk, hq⟩
  have hi : i ≤ b.items.length := hi
  have m6 : My h2 h6 [(.ptr [] o.dt [], .pointer (some ⟨b0, 0, none⟩))] := m6
  have hbk : V.bulks o.items + V.bulks (b.items.drop i) ≤ 549755813888 := hbk
  have hq : V.addOn o (b.items.drop i) = V.addOn a b.items := hq
  have hlo := V.bulks_len o.items
  have e26 := e12.trans m6.ext
  simp only [go_sem, Nat.reduceBEq]
  refine Br.intro (fun hlt => ?_) (fun hlt => ?_) <;> (try simp only [hlt, go_sem, Nat.reduceBEq])
  · have hlt : i < b.items.length := by simpa using hlt
    obtain ⟨b1, off1, rfl, hatb'⟩ := hatb (by omega)
    obtain ⟨e, he, hm⟩ := get_lt hlt
    have wsu := wrap_succ (i := i) (by omega)
    have hbe := bulk_in hm
    have hBe := V.bulk_eq e.2
    have hdr : V.bulks (b.items.drop i) = 1 + (e.1.str.size + e.2.bulk) + V.bulks (b.items.drop (i + 1)) := by
      rw [drop_cons he]
      obtain ⟨k, x⟩ := e
      simp only [V.bulks]
    rw [drop_cons he, V.addOn] at hq
    simp only [ix_nat hlt, go_sem, Nat.reduceBEq]
    refine hsem_entry tyS64 (hatb'.mono e26) (hrb.mono e26) he rfl fun s2 rd2 => ?_
    obtain ⟨a2, c2, _, rfl, _⟩ := rd2.rows (by decide) e.2.items.length (fm_len edt_len _)
    simp only [go_sem, Nat.reduceBEq, Nat.reduceAdd, Nat.reduceLeDiff]
    refine var_load Hold.ptr m6 rfl fun so ro => ?_
    simp only [go_sem, Nat.reduceBEq, Nat.reduceAdd, Nat.reduceLeDiff]
    (refine (iFindKey o e.1 (by omega) _ _ ro).mono ?_; rintro _ _ ⟨rfl, rfl⟩; simp only [go_sem, Nat.reduceBEq])
    rw [ixI_neg]
    cases hf : o.find e.1 with
    | some j =>
      rw [hf] at hq
      simp only [Option.isNone_some, go_sem, Nat.reduceBEq, wsu]
      exact Again.intro (i + 1, o) (by first | omega | (simp only; omega)) ⟨hlt, m6, by simp only; omega, by simpa using hq⟩ (by repeat (first | exact wkF_e | refine wkF_c rfl ?_)) (wkB_c rfl (wkB_c rfl (wkB_c rfl wkB_e))) rfl
    | none =>
      rw [hf] at hq
      simp only [Option.isNone_none, go_sem]
      refine regionD_intro (lb := [43, 45]) (by kernel_rfl) ?_
      simp only [go_sem, Nat.reduceBEq, Nat.reduceAdd, Nat.reduceLeDiff]
      refine (copyValue_c e.2 (by omega) _ _ rd2).mono ?_
      rintro _ h7 ⟨a7, c7, rfl, m7⟩
      simp only [go_sem, Nat.reduceBEq]
      refine (iPutKey Hold.ptr o e.1 e.2 (by omega) _ _ _ _ _ _ (m6.add m7)).mono ?_
      rintro _ h8 ⟨rfl, m8⟩
      simp only [wsu, go_sem, Nat.reduceBEq]
      have hsb := setKey_bulk o e.1 e.2
      exact Again.intro (i + 1, o.setKey e.1 e.2) (by first | omega | (simp only; omega)) ⟨hlt, m8, by simp only; omega, by simpa using hq⟩ (by repeat (first | exact wkF_e | refine wkF_c rfl ?_)) (wkB_c rfl (wkB_c rfl (wkB_c rfl wkB_e))) rfl
  · have hlt : i = b.items.length := by simp at hlt; omega
    subst hlt
    rw [List.drop_eq_nil_of_le (Nat.le_refl _), V.addOn] at hq
    have hu : V.uni a b = o.withNext (max a.next b.next) := by
      unfold V.uni
      rw [hq, addOn_eq a b.items a (valid_dkeys vb kb) fun _ _ => rfl]
    rw [hu]
    (refine (iMax _ _ _).mono ?_; rintro _ _ ⟨rfl, rfl⟩; simp only [go_sem, Nat.reduceBEq, Nat.reduceAdd])
    refine var_setNext (n := max a.next b.next) Hold.ptr m6 rfl fun h7 m7 => ?_
    have m7 : My h2 h7 [(.ptr [] (o.withNext (max a.next b.next)).dt [], .pointer (some ⟨b0, 0, none⟩))] := m7
    simp only [go_sem, Nat.reduceBEq]
    refine var_load Hold.ptr m7 rfl fun so ro => ?_
    have hbo : (o.withNext (max a.next b.next)).bulk ≤ 1099511627776 := by
      have h1 := V.bulk_eq (o.withNext (max a.next b.next))
      have h2 : (o.withNext (max a.next b.next)).str = a.str := by
        have := (addTo_bulk a b.items a).2.1
        rw [← addOn_eq a b.items a (valid_dkeys vb kb) fun _ _ => rfl, ← hq] at this
        exact this
      have h3 : (o.withNext (max a.next b.next)).items = o.items := rfl
      rw [h2, h3] at h1
      omega
    simp only [go_sem, Nat.reduceBEq]
    (refine (iWeight _ hbo _ _ ro).mono ?_; rintro _ _ ⟨rfl, rfl⟩; simp only [go_sem, Nat.reduceBEq])
    have hd : decide ((200 : Int) < (((o.withNext (max a.next b.next)).weight : Nat) : Int)) = !decide ((o.withNext (max a.next b.next)).weight ≤ 200) := by
      rw [← decide_not]
      exact decide_eq_decide.2 (by omega)
    simp only [hd, go_sem]
    refine Br.intro (fun hw => ?_) (fun hw => ?_) <;> (try simp only [hw, go_sem, Nat.reduceBEq])
    · have hw : ¬ (o.withNext (max a.next b.next)).weight ≤ 200 := by simpa using hw
      rw [if_neg hw]
      (refine (iNull _).mono ?_; rintro _ _ ⟨rfl, rfl⟩; simp only [go_sem, Nat.reduceBEq, Nat.reduceAdd, Nat.reduceLeDiff])
      exact (made_null _ _).of (e12.trans m7.ext)
    · have hw : (o.withNext (max a.next b.next)).weight ≤ 200 := by simpa using hw
      rw [if_pos hw]
      refine var_take Hold.ptr m7 rfl fun a9 c9 m9 => ?_
      simp only [go_sem, Nat.reduceBEq, Nat.reduceAdd, Nat.reduceLeDiff]
      exact ⟨_, _, rfl, m9.base e12⟩
theorem slUnion (a b : V) (ha : a.bulk ≤ 274877906944) (hb : b.bulk ≤ 274877906944) (sa sb : Value) (h : Hp) (ra : RdE h a.items sa) (rb : RdE h b.items sb) :
    ACalls Tryz.prog 45 #[.agg #[.int .i64 a.kind, .int .i64 a.num, .string a.str, .int .i64 a.next, sa], .agg #[.int .i64 b.kind, .int .i64 b.num, .string b.str, .int .i64 b.next, sb]] h (RdV h (V.uni a b)) := by
  have hBa := V.bulk_eq a
  have hBb := V.bulk_eq b
  have hla := V.bulks_len a.items
  have hlb := V.bulks_len b.items
  obtain ⟨aa, ca, xa, rfl, _⟩ := ra.rows (by decide) a.items.length (fm_len edt_len _)
  obtain ⟨ab, cb, xb, rfl, hcb, hrb, hatb⟩ := rb.rows (by decide) b.items.length (fm_len edt_len _)
  (refine enter Tryz.func45 rfl rfl (by kernel_rfl) [] ?_; simp only [go_sem, Nat.reduceBEq, Nat.reduceAdd, Nat.reduceLeDiff])
  refine aloop (ι := Nat × V × Option Addr × Nat) (fun x => [(6, .val (.int .i64 (x.1 : Nat))), (2, .box 2 0), (3, .box 3 0), (4, .box 4 0), (5, .box 5 0)])
    (fun x => [(2, [.int .i64 a.kind, .int .i64 a.num, .string a.str, .int .i64 a.next, .slice aa a.items.length ca]), (3, [.int .i64 b.kind, .int .i64 b.num, .string b.str, .int .i64 b.next, .slice ab b.items.length cb]), (4, [.int .i64 0, .int .i64 0, .string ⟨#[]⟩, .int .i64 0, .slice none 0 0]), (5, [.int .i64 x.2.1.kind, .int .i64 x.2.1.num, .string x.2.1.str, .int .i64 x.2.1.next, .slice x.2.2.1 x.2.1.items.length x.2.2.2])])
    (fun x h' => x.1 ≤ b.items.length ∧ Ext h h' ∧ RdE h' x.2.1.items (.slice x.2.2.1 x.2.1.items.length x.2.2.2) ∧ V.bulks x.2.1.items + V.bulks (b.items.drop x.1) ≤ 549755813888 ∧ V.addTo a x.2.1 (b.items.drop x.1) = V.addTo a a b.items) (fun x => b.items.length - x.1) (0, a, aa, ca)
    ⟨Nat.zero_le _, Ext.refl _, ra, by simp only [List.drop_zero]; omega, rfl⟩ (by repeat (first | exact wkF_e | refine wkF_c rfl ?_)) (wkB_c rfl (wkB_c rfl (wkB_c rfl (wkB_c rfl wkB_e)))) rfl ?_
  rintro ⟨i, o, ao, co⟩ h6 ⟨hi, e6, ro, hbk, hq⟩
  have hi : i ≤ b.items.length := hi
  have ro : RdE h6 o.items (.slice ao o.items.length co) := ro
  have hbk : V.bulks o.items + V.bulks (b.items.drop i) ≤ 549755813888 := hbk
  have hq : V.addTo a o (b.items.drop i) = V.addTo a a b.items := hq
  have hlo := V.bulks_len o.items
  simp only [go_sem, Nat.reduceBEq]
  refine Br.intro (fun hlt => ?_) (fun hlt => ?_) <;> (try simp only [hlt, go_sem, Nat.reduceBEq])
  · have hlt : i < b.items.length := by simpa using hlt
    obtain ⟨b1, off1, rfl, hatb'⟩ := hatb (by omega)
    obtain ⟨e, he, hm⟩ := get_lt hlt
    have wsu := wrap_succ (i := i) (by omega)
    have hbe := bulk_in hm
    have hdr : V.bulks (b.items.drop i) = 1 + (e.1.str.size + e.2.bulk) + V.bulks (b.items.drop (i + 1)) := by
      rw [drop_cons he]
      obtain ⟨k, x⟩ := e
      simp only [V.bulks]
    rw [drop_cons he, V.addTo] at hq
    refine regionD_intro (lb := [15, 17]) (by kernel_rfl) ?_
    simp only [ix_nat hlt, go_sem, Nat.reduceBEq, Nat.reduceAdd, Nat.reduceLeDiff]
    refine hsem_ekey tyS62 (hatb'.mono e6) (hrb.mono e6) he rfl ?_
    simp only [go_sem, Nat.reduceBEq]
    (refine (sFind a e.1 (by omega) _ _ (ra.mono e6)).mono ?_; rintro _ _ ⟨rfl, rfl⟩; simp only [go_sem, Nat.reduceBEq])
    rw [ixI_neg]
    cases hf : a.find e.1 with
    | some j =>
      rw [hf] at hq
      simp only [Option.isNone_some, go_sem, Nat.reduceBEq, wsu]
      exact Again.intro (i + 1, o, ao, co) (by first | omega | (simp only; omega)) ⟨hlt, e6, ro, by simp only; omega, by simpa using hq⟩ (by repeat (first | exact wkF_e | refine wkF_c rfl ?_)) (wkB_c rfl (wkB_c rfl (wkB_c rfl (wkB_c rfl wkB_e)))) rfl
    | none =>
      rw [hf] at hq
      simp only [Option.isNone_none, go_sem]
      refine regionD_intro (lb := [24, 26, 32]) (by kernel_rfl) ?_
      simp only [ix_nat hlt, go_sem, Nat.reduceBEq, Nat.reduceAdd, Nat.reduceLeDiff]
      refine hsem_ekey tyS62 (hatb'.mono e6) (hrb.mono e6) he rfl ?_
      simp only [ix_nat hlt, go_sem, Nat.reduceBEq, Nat.reduceAdd]
      refine hsem_eval tyS28 (hatb'.mono e6) (hrb.mono e6) he rfl fun s2 rd2 => ?_
      obtain ⟨a2, c2, _, rfl, _⟩ := rd2.rows (by decide) e.2.items.length (fm_len edt_len _)
      simp only [go_sem, Nat.reduceBEq]
      refine (sl6Set o e.1 e.2 (by omega) _ _ _ ro rd2).mono ?_
      rintro _ h7 ⟨a7, c7, rfl, e7, r7⟩
      simp only [wsu, go_sem, Nat.reduceBEq, Nat.reduceAdd, Nat.reduceLeDiff]
      have hsb := setKey_bulk o e.1 e.2
      exact Again.intro (i + 1, o.setKey e.1 e.2, a7, c7) (by first | omega | (simp only; omega)) ⟨hlt, e6.trans e7, r7, by simp only; omega, by simpa using hq⟩ (by repeat (first | exact wkF_e | refine wkF_c rfl ?_)) (wkB_c rfl (wkB_c rfl (wkB_c rfl (wkB_c rfl wkB_e)))) rfl
  · have hlt : i = b.items.length := by simp at hlt; omega
    subst hlt
    rw [List.drop_eq_nil_of_le (Nat.le_refl _), V.addTo] at hq
    have hu : V.uni a b = o.withNext (max a.next b.next) := by
      unfold V.uni
      rw [hq]
    rw [hu]
    (refine (sMax _ _ _).mono ?_; rintro _ _ ⟨rfl, rfl⟩; simp only [go_sem, Nat.reduceBEq, Nat.reduceAdd, Nat.reduceLeDiff])
    exact ⟨_, _, rfl, e6, ro⟩
theorem sUnion (a b : V) (ha : a.bulk ≤ 274877906944) (hb : b.bulk ≤ 274877906944) (sa sb : Value) (h : Hp) (ra : RdE h a.items sa) (rb : RdE h b.items sb) :
    ACalls Tryz.prog 15 #[.agg #[.int .i64 a.kind, .int .i64 a.num, .string a.str, .int .i64 a.next, sa], .agg #[.int .i64 b.kind, .int .i64 b.num, .string b.str, .int .i64 b.next, sb]] h (MadeI h (unionOf a b).1 (unionOf a b).2) := by
  have hBa := V.bulk_eq a
  have hBb := V.bulk_eq b
  obtain ⟨aa, ca, xa, rfl, _⟩ := ra.rows (by decide) a.items.length (fm_len edt_len _)
  obtain ⟨ab, cb, xb, rfl, _⟩ := rb.rows (by decide) b.items.length (fm_len edt_len _)
  (refine enter Tryz.func15 rfl rfl (by kernel_rfl) [] ?_; simp only [go_sem, Nat.reduceBEq])
  by_cases ka : a.kind = 4
  case neg =>
    have e0 : unionOf a b = (V.null, 2) := by unfold unionOf; rw [decide_eq_false ka]; simp
    rw [e0]
    simp only [decide_eq_false ka, go_sem, Nat.reduceBEq, Nat.reduceAdd, Nat.reduceLeDiff]
    exact made_null _ _
  by_cases kb : b.kind = 4
  case neg =>
    have e0 : unionOf a b = (V.null, 2) := by unfold unionOf; rw [decide_eq_false kb]; simp
    rw [e0]
    simp only [decide_eq_true ka, decide_eq_false kb, go_sem, Nat.reduceBEq, Nat.reduceAdd, Nat.reduceLeDiff]
    exact made_null _ _
  simp only [decide_eq_true ka, decide_eq_true kb, go_sem, Nat.reduceBEq, Nat.reduceAdd, Nat.reduceLeDiff]
  refine (sIsValue a (by omega) _ _ ra).mono ?_
  rintro _ h1 ⟨rfl, e1⟩
  cases va : a.valid with
  | false =>
    have e0 : unionOf a b = (V.null, 2) := by unfold unionOf; rw [va]; rfl
    rw [e0]
    simp only [go_sem, Nat.reduceBEq, Nat.reduceAdd, Nat.reduceLeDiff]
    exact (made_null _ _).of e1
  | true =>
  simp only [go_sem, Nat.reduceBEq, Nat.reduceAdd, Nat.reduceLeDiff]
  refine (sIsValue b (by omega) _ _ (rb.mono e1)).mono ?_
  rintro _ h2 ⟨rfl, e2⟩
  have e12 := e1.trans e2
  cases vb : b.valid with
  | false =>
    have e0 : unionOf a b = (V.null, 2) := by unfold unionOf; rw [va, vb]; rfl
    rw [e0]
    simp only [go_sem, Nat.reduceBEq, Nat.reduceAdd, Nat.reduceLeDiff]
    exact (made_null _ _).of e12
  | true =>
  have e0 : unionOf a b = if (V.uni a b).weight ≤ 200 then (V.uni a b, 0) else (V.null, 9) := by unfold unionOf; rw [va, vb, decide_eq_true ka, decide_eq_true kb]; rfl
  rw [e0]
  simp only [go_sem, Nat.reduceBEq, Nat.reduceAdd, Nat.reduceLeDiff]
  refine (slUnion a b ha hb _ _ _ (ra.mono e12) (rb.mono e12)).mono ?_
  rintro _ h3 ⟨a3, c3, rfl, e3, r3⟩
  simp only [go_sem, Nat.reduceBEq]
  have hub := addTo_bulk a b.items a
  have hub1 : V.bulks (V.uni a b).items ≤ V.bulks a.items + V.bulks b.items := hub.1
  have hub2 : (V.uni a b).str = a.str := hub.2.1
  have hBu := V.bulk_eq (V.uni a b)
  rw [hub2] at hBu
  refine (l5Copy_c (V.uni a b) (by omega) _ _ r3).mono ?_
  rintro _ h4 ⟨a4, c4, rfl, m4⟩
  simp only [go_sem, Nat.reduceBEq, Nat.reduceAdd, Nat.reduceLeDiff]
  refine (sWeigh (V.uni a b) (by omega) 200 (by decide) _ _ m4.rd).mono ?_
  rintro _ _ ⟨rfl, r, rfl, hr1, hr2⟩
  have hd : decide ((200 : Int) < ((r : Nat) : Int)) = !decide ((V.uni a b).weight ≤ 200) := by
    rw [← decide_not]
    exact decide_eq_decide.2 (by
      constructor
      · intro h; omega
      · intro h
        rcases Nat.lt_or_ge 200 r with hh | hh
        · omega
        · have := hr2 hh; omega)
  simp only [hd, go_sem, Nat.reduceBEq]
  refine Br.intro (fun hw => ?_) (fun hw => ?_) <;> (try simp only [hw, go_sem, Nat.reduceBEq, Nat.reduceAdd, Nat.reduceLeDiff])
  · have hw : ¬ (V.uni a b).weight ≤ 200 := by simpa using hw
    rw [if_neg hw]
    exact (made_null _ _).of (e12.trans (e3.trans m4.ext))
  · have hw : (V.uni a b).weight ≤ 200 := by simpa using hw
    rw [if_pos hw]
    exact ⟨_, _, rfl, m4.base (e12.trans e3)⟩
end Go.Proofs.YtpfongmnmcmnaaaGreatDoor
