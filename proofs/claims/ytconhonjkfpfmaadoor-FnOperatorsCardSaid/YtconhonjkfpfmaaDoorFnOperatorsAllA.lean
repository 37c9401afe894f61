/-
  The statement FnOperators is proved: for each argument the law returns true; nothing is assumed.
-/
import Derived.Test.YtconhonjkfpfmaaDoorPut
import Derived.Test.YtconhonjkfpfmaaDoorSet
import Derived.Test.YtconhonjkfpfmaaDoorIsVal
import Derived.Test.YtconhonjkfpfmaaDoorSxUnion
import Derived.Test.YtconhonjkfpfmaaDoorFmt
import Derived.Test.YtconhonjkfpfmaaDoorSxMathV
import Derived.Test.YtconhonjkfpfmaaDoorConv
import Derived.Test.YtconhonjkfpfmaaDoorDoor
import Derived.Test.YtconhonjkfpfmaaDoorFind
import Derived.Test.YtconhonjkfpfmaaDoorNum
import Derived.Test.YtconhonjkfpfmaaDoorSxSerial
import Derived.Test.YtconhonjkfpfmaaDoorFacts
import Derived.Test.YtconhonjkfpfmaaDoorSxLaw
import Derived.Lib.ItoaLen
import Derived.Test.YtconhonjkfpfmaaDoorSxCur
import Derived.Test.YtconhonjkfpfmaaDoorSxMathW
import Derived.Test.YtconhonjkfpfmaaDoorCopy
import Derived.Test.YtconhonjkfpfmaaDoorSxDataV
import Derived.Test.YtconhonjkfpfmaaDoorVar
import Derived.Test.YtconhonjkfpfmaaDoorSxCurV
import Derived.Test.YtconhonjkfpfmaaDoorSxStill
import Derived.Test.YtconhonjkfpfmaaDoorSxOpen
namespace Go.Proofs.YtconhonjkfpfmaaDoor
set_option maxRecDepth 8000
open Go Go.Sx
/-- a value made, and a number -/
def MadeI (h : Hp) (o : V) (n : Int) (u : Value) (h' : Hp) : Prop := ∃ a c, u = .tuple #[.agg #[.int .i64 o.kind, .int .i64 o.num, .string o.str, .int .i64 o.next, .slice a o.items.length c], .int .i64 n] ∧ My h h' [(.row 8 (o.items.flatMap edt), .slice a o.items.length c)]
/-- the union, or why there is none -/
def unionOf (a b : V) : V × Int := if a.valid && b.valid && (decide (a.kind = 4) && decide (b.kind = 4)) then (if (V.uni a b).weight ≤ 200 then (V.uni a b, 0) else (V.null, 9)) else (V.null, 2)
theorem union_bulk (a b : V) : V.bulks (unionOf a b).1.items ≤ V.bulks a.items + V.bulks b.items := by
  unfold unionOf
  split
  · split
    · exact (addTo_bulk a b.items a).1
    · exact Nat.zero_le _
  · exact Nat.zero_le _
theorem valid_dkeys {b : V} (h : b.valid = true) (hk : b.kind = 4) : dkeys b.items := by
  unfold V.valid at h
  rw [Bool.and_eq_true] at h
  exact (wfEs_dkeys _ _ (V.wf_entries h.2 hk).1).1
theorem made_null (h : Hp) (n : Int) : MadeI h V.null n (.tuple #[.agg #[.int .i64 0, .int .i64 0, .string ⟨#[]⟩, .int .i64 0, .slice none 0 0], .int .i64 n]) h := ⟨none, 0, rfl, (My.nil (Ext.refl h)).nilrow⟩
theorem MadeI.of {h h1 h2 : Hp} {o : V} {n : Int} {u : Value} (e : Ext h h1) (m : MadeI h1 o n u h2) : MadeI h o n u h2 := by
  obtain ⟨a, c, h1, h2⟩ := m
  exact ⟨a, c, h1, h2.base e⟩
theorem iUnion (a b : V) (ha : a.bulk ≤ 274877906944) (hb : b.bulk ≤ 274877906944) (sa sb : Value) (h : Hp) (ra : RdE h a.items sa) (rb : RdE h b.items sb) (hE : Env h) :
    ACalls Tryd.prog 59 #[.agg #[.int .i64 a.kind, .int .i64 a.num, .string a.str, .int .i64 a.next, sa], .agg #[.int .i64 b.kind, .int .i64 b.num, .string b.str, .int .i64 b.next, sb]] h (MadeI h (unionOf a b).1 (unionOf a b).2) := by
  have hBa := V.bulk_eq a
  have hBb := V.bulk_eq b
  have hla := V.bulks_len a.items
  have hlb := V.bulks_len b.items
  obtain ⟨aa, ca, xa, rfl, _⟩ := ra.rows (by decide) a.items.length (fm_len edt_len _)
  obtain ⟨ab, cb, xb, rfl, hcb, hrb, hatb⟩ := rb.rows (by decide) b.items.length (fm_len edt_len _)
  (refine enter Tryd.func59 rfl rfl (by kernel_rfl) [6] ?_; simp only [go_sem, Nat.reduceBEq, Nat.reduceAdd, Nat.reduceLeDiff])
  refine (iIsValue a (by omega) _ _ ra hE).mono ?_
  rintro _ h1 ⟨rfl, e1⟩
  cases va : a.valid with
  | false =>
    have e0 : unionOf a b = (V.null, 2) := by unfold unionOf; rw [va]; rfl
    rw [e0]
    simp only [go_sem, Nat.reduceBEq]
    (refine (iNull _).mono ?_; rintro _ _ ⟨rfl, rfl⟩; simp only [go_sem, Nat.reduceBEq, Nat.reduceAdd, Nat.reduceLeDiff])
    exact (made_null _ _).of e1
  | true =>
  simp only [go_sem, Nat.reduceBEq, Nat.reduceAdd, Nat.reduceLeDiff]
  refine (iIsValue b (by omega) _ _ (rb.mono e1) (hE.ext e1)).mono ?_
  rintro _ h2 ⟨rfl, e2⟩
  have e12 := e1.trans e2
  cases vb : b.valid with
  | false =>
    have e0 : unionOf a b = (V.null, 2) := by unfold unionOf; rw [va, vb]; rfl
    rw [e0]
    simp only [go_sem, Nat.reduceBEq]
    (refine (iNull _).mono ?_; rintro _ _ ⟨rfl, rfl⟩; simp only [go_sem, Nat.reduceBEq, Nat.reduceAdd, Nat.reduceLeDiff])
    exact (made_null _ _).of e12
  | true =>
  by_cases ka : a.kind = 4
  case neg =>
    have e0 : unionOf a b = (V.null, 2) := by unfold unionOf; rw [va, vb, decide_eq_false ka]; rfl
    rw [e0]
    simp only [decide_eq_false ka, go_sem, Nat.reduceBEq]
    (refine (iNull _).mono ?_; rintro _ _ ⟨rfl, rfl⟩; simp only [go_sem, Nat.reduceBEq, Nat.reduceAdd, Nat.reduceLeDiff])
    exact (made_null _ _).of e12
  by_cases kb : b.kind = 4
  case neg =>
    have e0 : unionOf a b = (V.null, 2) := by unfold unionOf; rw [va, vb, decide_eq_true ka, decide_eq_false kb]; rfl
    rw [e0]
    simp only [decide_eq_true ka, decide_eq_false kb, go_sem, Nat.reduceBEq]
    (refine (iNull _).mono ?_; rintro _ _ ⟨rfl, rfl⟩; simp only [go_sem, Nat.reduceBEq, Nat.reduceAdd, Nat.reduceLeDiff])
    exact (made_null _ _).of e12
  have e0 : unionOf a b = if (V.uni a b).weight ≤ 200 then (V.uni a b, 0) else (V.null, 9) := by unfold unionOf; rw [va, vb, decide_eq_true ka, decide_eq_true kb]; rfl
  rw [e0]
  simp only [decide_eq_true ka, decide_eq_true kb, go_sem, Nat.reduceBEq, Nat.reduceAdd, Nat.reduceLeDiff]
  refine (copyValue_c a (by omega) _ _ (ra.mono e12)).mono ?_
  rintro _ h3 ⟨a3, c3, rfl, m3⟩
  simp only [go_sem, Nat.reduceBEq]
  refine hsem_my_alloc (z := [.int .i64 0, .int .i64 0, .string ⟨#[]⟩, .int .i64 0, .slice none 0 0]) (by kernel_rfl) rfl m3 fun b0 h4 m4 => ?_
  simp only [go_sem, Nat.reduceBEq]
  refine var_store (w := a) Hold.ptr rfl m4.swap rfl fun h5 m5 => ?_
  have m5 : My h2 h5 [(.ptr [] a.dt [], .pointer (some ⟨b0, 0, none⟩))] := m5
  simp only [go_sem, Nat.reduceBEq]
  refine aloop (ι := Nat × V) (fun x => [(33, .val (.int .i64 (x.1 : Nat))), (32, .val (.int .i64 (b.items.length : Nat))), (31, .val (.slice ab b.items.length cb)), (6, .val (.pointer (some ⟨b0, 0, none⟩))), (2, .box 2 0), (3, .box 3 0), (4, .box 4 0)])
    (fun _ => [(2, [.int .i64 a.kind, .int .i64 a.num, .string a.str, .int .i64 a.next, .slice aa a.items.length ca]), (3, [.int .i64 b.kind, .int .i64 b.num, .string b.str, .int .i64 b.next, .slice ab b.items.length cb]), (4, [.int .i64 0, .int .i64 0, .string ⟨#[]⟩, .int .i64 0, .slice none 0 0])])
    (fun x h' => x.1 ≤ b.items.length ∧ My h2 h' [(.ptr [] x.2.dt [], .pointer (some ⟨b0, 0, none⟩))] ∧ V.bulks x.2.items + V.bulks (b.items.drop x.1) ≤ 549755813888 ∧ V.addOn x.2 (b.items.drop x.1) = V.addOn a b.items) (fun x => b.items.length - x.1) (0, a)
    ⟨Nat.zero_le _, m5, by simp only [List.drop_zero]; omega, rfl⟩ (by repeat (first | exact wkF_e | refine wkF_c rfl ?_)) (wkB_c rfl (wkB_c rfl (wkB_c rfl wkB_e))) rfl ?_
  rintro ⟨i, o⟩ h6 ⟨hi, m6, hbk, hq⟩
  have hi : i ≤ b.items.length := hi
  have m6 : My h2 h6 [(.ptr [] o.dt [], .pointer (some ⟨b0, 0, none⟩))] := m6
  have hbk : V.bulks o.items + V.bulks (b.items.drop i) ≤ 549755813888 := hbk
  have hq : V.addOn o (b.items.drop i) = V.addOn a b.items := hq
  have hlo := V.bulks_len o.items
  have e26 := e12.trans m6.ext
  simp only [go_sem, Nat.reduceBEq]
  refine Br.intro (fun hlt => ?_) (fun hlt => ?_) <;> (try simp only [hlt, go_sem, Nat.reduceBEq])
  · have hlt : i < b.items.length := by simpa using hlt
    obtain ⟨b1, off1, rfl, hatb'⟩ := hatb (by omega)
    obtain ⟨e, he, hm⟩ := get_lt hlt
    have wsu := wrap_succ (i := i) (by omega)
    have hbe := bulk_in hm
    have hBe := V.bulk_eq e.2
    have hdr : V.bulks (b.items.drop i) = 1 + (e.1.str.size + e.2.bulk) + V.bulks (b.items.drop (i + 1)) := by
      rw [drop_cons he]
      obtain ⟨k, x⟩ := e
      simp only [V.bulks]
    rw [drop_cons he, V.addOn] at hq
    simp only [ix_nat hlt, go_sem, Nat.reduceBEq]
    refine hsem_entry tyS69 (hatb'.mono e26) (hrb.mono e26) he rfl fun s2 rd2 => ?_
    obtain ⟨a2, c2, _, rfl, _⟩ := rd2.rows (by decide) e.2.items.length (fm_len edt_len _)
    simp only [go_sem, Nat.reduceBEq, Nat.reduceAdd, Nat.reduceLeDiff]
    refine var_load Hold.ptr m6 rfl fun so ro => ?_
    simp only [go_sem, Nat.reduceBEq, Nat.reduceAdd, Nat.reduceLeDiff]
    (refine (iFindKey o e.1 (by omega) _ _ ro).mono ?_; rintro _ _ ⟨rfl, rfl⟩; simp only [go_sem, Nat.reduceBEq])
    rw [ixI_neg]
    cases hf : o.find e.1 with
    | some j =>
      rw [hf] at hq
      simp only [Option.isNone_some, go_sem, Nat.reduceBEq, wsu]
      exact Again.intro (i + 1, o) (by first | omega | (simp only; omega)) ⟨hlt, m6, by simp only; omega, by simpa using hq⟩ (by repeat (first | exact wkF_e | refine wkF_c rfl ?_)) (wkB_c rfl (wkB_c rfl (wkB_c rfl wkB_e))) rfl
    | none =>
      rw [hf] at hq
      simp only [Option.isNone_none, go_sem]
      refine regionD_intro (lb := [43, 45]) (by kernel_rfl) ?_
      simp only [go_sem, Nat.reduceBEq, Nat.reduceAdd, Nat.reduceLeDiff]
      refine (copyValue_c e.2 (by omega) _ _ rd2).mono ?_
      rintro _ h7 ⟨a7, c7, rfl, m7⟩
      simp only [go_sem, Nat.reduceBEq]
      refine (iPutKey Hold.ptr o e.1 e.2 (by omega) _ _ _ _ _ _ (m6.add m7)).mono ?_
      rintro _ h8 ⟨rfl, m8⟩
      simp only [wsu, go_sem, Nat.reduceBEq]
      have hsb := setKey_bulk o e.1 e.2
      exact Again.intro (i + 1, o.setKey e.1 e.2) (by first | omega | (simp only; omega)) ⟨hlt, m8, by simp only; omega, by simpa using hq⟩ (by repeat (first | exact wkF_e | refine wkF_c rfl ?_)) (wkB_c rfl (wkB_c rfl (wkB_c rfl wkB_e))) rfl
  · have hlt : i = b.items.length := by simp at hlt; omega
    subst hlt
    rw [List.drop_eq_nil_of_le (Nat.le_refl _), V.addOn] at hq
    have hu : V.uni a b = o.withNext (max a.next b.next) := by
      unfold V.uni
      rw [hq, addOn_eq a b.items a (valid_dkeys vb kb) fun _ _ => rfl]
    rw [hu]
    (refine (iMax _ _ _).mono ?_; rintro _ _ ⟨rfl, rfl⟩; simp only [go_sem, Nat.reduceBEq, Nat.reduceAdd])
    refine var_setNext (n := max a.next b.next) Hold.ptr m6 rfl fun h7 m7 => ?_
    have m7 : My h2 h7 [(.ptr [] (o.withNext (max a.next b.next)).dt [], .pointer (some ⟨b0, 0, none⟩))] := m7
    simp only [go_sem, Nat.reduceBEq]
    refine var_load Hold.ptr m7 rfl fun so ro => ?_
    have hbo : (o.withNext (max a.next b.next)).bulk ≤ 1099511627776 := by
      have h1 := V.bulk_eq (o.withNext (max a.next b.next))
      have h2 : (o.withNext (max a.next b.next)).str = a.str := by
        have := (addTo_bulk a b.items a).2.1
        rw [← addOn_eq a b.items a (valid_dkeys vb kb) fun _ _ => rfl, ← hq] at this
        exact this
      have h3 : (o.withNext (max a.next b.next)).items = o.items := rfl
      rw [h2, h3] at h1
      omega
    simp only [go_sem, Nat.reduceBEq]
    (refine (iWeight _ hbo _ _ ro).mono ?_; rintro _ _ ⟨rfl, rfl⟩; simp only [go_sem, Nat.reduceBEq])
    have hd : decide ((200 : Int) < (((o.withNext (max a.next b.next)).weight : Nat) : Int)) = !decide ((o.withNext (max a.next b.next)).weight ≤ 200) := by
      rw [← decide_not]
      exact decide_eq_decide.2 (by omega)
    simp only [hd, go_sem]
    refine Br.intro (fun hw => ?_) (fun hw => ?_) <;> (try simp only [hw, go_sem, Nat.reduceBEq])
    · have hw : ¬ (o.withNext (max a.next b.next)).weight ≤ 200 := by simpa using hw
      rw [if_neg hw]
      (refine (iNull _).mono ?_; rintro _ _ ⟨rfl, rfl⟩; simp only [go_sem, Nat.reduceBEq, Nat.reduceAdd, Nat.reduceLeDiff])
      exact (made_null _ _).of (e12.trans m7.ext)
    · have hw : (o.withNext (max a.next b.next)).weight ≤ 200 := by simpa using hw
      rw [if_pos hw]
      refine var_take Hold.ptr m7 rfl fun a9 c9 m9 => ?_
      simp only [go_sem, Nat.reduceBEq, Nat.reduceAdd, Nat.reduceLeDiff]
      exact ⟨_, _, rfl, m9.base e12⟩
end Go.Proofs.YtconhonjkfpfmaaDoor
namespace Go.Proofs.YtconhonjkfpfmaaDoor
set_option maxRecDepth 8000
open Go Go.Sx
/-- the text of a value, and an error's number -/
def V.toText (v : V) : ByteArray × Int := if v.kind = 0 then (⟨#[]⟩, 0) else if v.kind = 1 then (if v.num = 0 then (⟨#[]⟩, 0) else (⟨#[49]⟩, 0)) else if v.kind = 2 then (⟨(Lib.itoa v.num).toArray⟩, 0) else if v.kind = 3 then (v.str, 0) else (⟨#[]⟩, 1)
theorem iToText (v : V) (hn : IntKind.i64.min ≤ v.num ∧ v.num ≤ IntKind.i64.max) (sl : Value) (h : Hp) (rd : RdE h v.items sl) (hT : Pow h) : ACalls Tryd.prog 18 #[.agg #[.int .i64 v.kind, .int .i64 v.num, .string v.str, .int .i64 v.next, sl]] h (Is (.tuple #[.string (V.toText v).1, .int .i64 (V.toText v).2]) h) := by
  obtain ⟨a, c, xs, rfl, _⟩ := rd.rows (by decide) v.items.length (fm_len edt_len _)
  clear rd
  (refine enter Tryd.func18 rfl rfl (by kernel_rfl) [] ?_; simp only [go_sem, Nat.reduceBEq])
  refine Br.intro (fun k0 => ?_) (fun k0 => ?_) <;> (try simp only [k0, go_sem, Nat.reduceBEq])
  · exact ⟨by unfold V.toText; rw [if_pos (of_decide_eq_true k0)], Ext.refl _⟩
  have k0 := of_decide_eq_false k0
  refine Br.intro (fun k1 => ?_) (fun k1 => ?_) <;> (try simp only [k1, go_sem, Nat.reduceBEq])
  · have k1 := of_decide_eq_true k1
    refine Br.intro (fun k2 => ?_) (fun k2 => ?_) <;> (try simp only [k2, go_sem, Nat.reduceBEq])
    · have k2 : ¬ v.num = 0 := by simpa using k2
      exact ⟨by unfold V.toText; rw [if_neg k0, if_pos k1, if_neg k2], Ext.refl _⟩
    · have k2 : v.num = 0 := by simpa using k2
      exact ⟨by unfold V.toText; rw [if_neg k0, if_pos k1, if_pos k2], Ext.refl _⟩
  have k1 := of_decide_eq_false k1
  refine Br.intro (fun k2 => ?_) (fun k2 => ?_) <;> (try simp only [k2, go_sem, Nat.reduceBEq])
  · have k2 := of_decide_eq_true k2
    refine (iFormatInt v.num hn _ hT).mono ?_
    rintro _ h1 ⟨rfl, e1⟩
    simp only [go_sem, Nat.reduceBEq]
    exact ⟨by unfold V.toText; rw [if_neg k0, if_neg k1, if_pos k2], e1⟩
  have k2 := of_decide_eq_false k2
  refine Br.intro (fun k3 => ?_) (fun k3 => ?_) <;> (try simp only [k3, go_sem, Nat.reduceBEq])
  · have k3 := of_decide_eq_true k3
    exact ⟨by unfold V.toText; rw [if_neg k0, if_neg k1, if_neg k2, if_pos k3], Ext.refl _⟩
  have k3 := of_decide_eq_false k3
  exact ⟨by unfold V.toText; rw [if_neg k0, if_neg k1, if_neg k2, if_neg k3], Ext.refl _⟩
theorem sToText (v : V) (hn : IntKind.i64.min ≤ v.num ∧ v.num ≤ IntKind.i64.max) (sl : Value) (h : Hp) (rd : RdE h v.items sl) (hT : Pow h) : ACalls Tryd.prog 98 #[.agg #[.int .i64 v.kind, .int .i64 v.num, .string v.str, .int .i64 v.next, sl]] h (Is (.tuple #[.string (V.toText v).1, .int .i64 (V.toText v).2]) h) := by
  obtain ⟨a, c, xs, rfl, _⟩ := rd.rows (by decide) v.items.length (fm_len edt_len _)
  clear rd
  (refine enter Tryd.func98 rfl rfl (by kernel_rfl) [] ?_; simp only [go_sem, Nat.reduceBEq])
  refine Br.intro (fun k0 => ?_) (fun k0 => ?_) <;> (try simp only [k0, go_sem, Nat.reduceBEq])
  · exact ⟨by unfold V.toText; rw [if_pos (of_decide_eq_true k0)], Ext.refl _⟩
  have k0 := of_decide_eq_false k0
  refine Br.intro (fun k1 => ?_) (fun k1 => ?_) <;> (try simp only [k1, go_sem, Nat.reduceBEq])
  · have k1 := of_decide_eq_true k1
    refine Br.intro (fun k2 => ?_) (fun k2 => ?_) <;> (try simp only [k2, go_sem, Nat.reduceBEq])
    · have k2 : ¬ v.num = 0 := by simpa using k2
      exact ⟨by unfold V.toText; rw [if_neg k0, if_pos k1, if_neg k2], Ext.refl _⟩
    · have k2 : v.num = 0 := by simpa using k2
      exact ⟨by unfold V.toText; rw [if_neg k0, if_pos k1, if_pos k2], Ext.refl _⟩
  have k1 := of_decide_eq_false k1
  refine Br.intro (fun k2 => ?_) (fun k2 => ?_) <;> (try simp only [k2, go_sem, Nat.reduceBEq])
  · have k2 := of_decide_eq_true k2
    refine (sFormatInt v.num hn _).mono ?_
    rintro _ h1 ⟨rfl, e1⟩
    simp only [go_sem, Nat.reduceBEq]
    exact ⟨by unfold V.toText; rw [if_neg k0, if_neg k1, if_pos k2], e1⟩
  have k2 := of_decide_eq_false k2
  refine Br.intro (fun k3 => ?_) (fun k3 => ?_) <;> (try simp only [k3, go_sem, Nat.reduceBEq])
  · have k3 := of_decide_eq_true k3
    exact ⟨by unfold V.toText; rw [if_neg k0, if_neg k1, if_neg k2, if_pos k3], Ext.refl _⟩
  have k3 := of_decide_eq_false k3
  exact ⟨by unfold V.toText; rw [if_neg k0, if_neg k1, if_neg k2, if_neg k3], Ext.refl _⟩
end Go.Proofs.YtconhonjkfpfmaaDoor
namespace Go.Proofs.YtconhonjkfpfmaaDoor
set_option maxRecDepth 8000
open Go Go.Sx
def toBool (v : V) : Bool :=
  if v.kind = 0 then false else if v.kind = 1 then decide (v.num ≠ 0) else if v.kind = 2 then decide (v.num ≠ 0) else if v.kind = 3 then (decide (v.str ≠ ⟨#[]⟩) && decide (v.str ≠ ⟨#[48]⟩))
  else if v.kind = 4 then decide (0 < v.items.length) else true
def toInt (v : V) : Int := if v.kind = 2 then v.num else if v.kind = 3 then lead v.str else if toBool v then 1 else 0
def toNum (v : V) : Int × Int := if 0 ≤ v.kind ∧ v.kind ≤ 2 then (toInt v, 0) else if v.kind = 3 ∧ isNumer v.str then (lead v.str, 0) else (0, 2)
theorem gt_nat (n : Nat) : decide ((0 : Int) < (n : Int)) = decide (0 < n) := decide_eq_decide.2 (by omega)
theorem iToBool (v : V) (sl : Value) (h : Hp) (rd : RdE h v.items sl) : ACalls Tryd.prog 24 #[.agg #[.int .i64 v.kind, .int .i64 v.num, .string v.str, .int .i64 v.next, sl]] h (Pu (.bool (toBool v)) h) := by
  obtain ⟨a, c, xs, rfl, hc, hr, hat⟩ := rd.rows (by decide) v.items.length (fm_len edt_len _)
  (refine enter Tryd.func24 rfl rfl (by kernel_rfl) [] ?_; simp only [go_sem, Nat.reduceBEq])
  refine Br.intro (fun h0 => ?_) (fun h0 => ?_) <;> (try simp only [h0, go_sem, Nat.reduceBEq])
  · exact ⟨by rw [toBool, if_pos (of_decide_eq_true h0)], rfl⟩
  have h0 := of_decide_eq_false h0
  refine Br.intro (fun h1 => ?_) (fun h1 => ?_) <;> (try simp only [h1, go_sem, Nat.reduceBEq])
  · have h1 := of_decide_eq_true h1
    exact ⟨by rw [toBool, if_neg h0, if_pos h1]; simp, rfl⟩
  have h1 := of_decide_eq_false h1
  refine Br.intro (fun h2 => ?_) (fun h2 => ?_) <;> (try simp only [h2, go_sem, Nat.reduceBEq])
  · have h2 := of_decide_eq_true h2
    exact ⟨by rw [toBool, if_neg h0, if_neg h1, if_pos h2]; simp, rfl⟩
  have h2 := of_decide_eq_false h2
  refine Br.intro (fun h3 => ?_) (fun h3 => ?_) <;> (try simp only [h3, go_sem, Nat.reduceBEq])
  · have h3 := of_decide_eq_true h3
    have e : toBool v = (decide (v.str ≠ ⟨#[]⟩) && decide (v.str ≠ ⟨#[48]⟩)) := by rw [toBool, if_neg h0, if_neg h1, if_neg h2, if_pos h3]
    rw [e]
    refine Br.intro (fun h4 => ?_) (fun h4 => ?_) <;> (try simp only [h4, go_sem, Nat.reduceBEq])
    · exact ⟨by simp only [Bool.not_eq_true', decide_eq_false_iff_not] at h4; simp [h4], rfl⟩
    · exact ⟨by simp only [Bool.not_eq_false', decide_eq_true_eq] at h4; simp [h4], rfl⟩
  have h3 := of_decide_eq_false h3
  refine Br.intro (fun h4 => ?_) (fun h4 => ?_) <;> (try simp only [h4, go_sem, Nat.reduceBEq])
  · have h4 := of_decide_eq_true h4
    exact ⟨by rw [toBool, if_neg h0, if_neg h1, if_neg h2, if_neg h3, if_pos h4, gt_nat], rfl⟩
  have h4 := of_decide_eq_false h4
  exact ⟨by rw [toBool, if_neg h0, if_neg h1, if_neg h2, if_neg h3, if_neg h4], rfl⟩
theorem iToInt (v : V) (hs : v.str.size ≤ 1152921504606846976) (sl : Value) (h : Hp) (rd : RdE h v.items sl) : ACalls Tryd.prog 52 #[.agg #[.int .i64 v.kind, .int .i64 v.num, .string v.str, .int .i64 v.next, sl]] h (Pu (.int .i64 (toInt v)) h) := by
  (refine enter Tryd.func52 rfl rfl (by kernel_rfl) [] ?_; simp only [go_sem, Nat.reduceBEq])
  refine Br.intro (fun h2 => ?_) (fun h2 => ?_) <;> (try simp only [h2, go_sem, Nat.reduceBEq])
  · exact ⟨by rw [toInt, if_pos (of_decide_eq_true h2)], rfl⟩
  have h2 := of_decide_eq_false h2
  refine Br.intro (fun h3 => ?_) (fun h3 => ?_) <;> (try simp only [h3, go_sem, Nat.reduceBEq, Nat.reduceAdd, Nat.reduceLeDiff])
  · have h3 := of_decide_eq_true h3
    (refine (iLeadingInt v.str hs _).mono ?_; rintro _ _ ⟨rfl, rfl⟩; simp only [go_sem, Nat.reduceBEq])
    exact ⟨by rw [toInt, if_neg h2, if_pos h3], rfl⟩
  have h3 := of_decide_eq_false h3
  (refine (iToBool v sl _ rd).mono ?_; rintro _ _ ⟨rfl, rfl⟩; simp only [go_sem, Nat.reduceBEq])
  refine Br.intro (fun hb => ?_) (fun hb => ?_) <;> (try simp only [hb, go_sem, Nat.reduceBEq])
  · exact ⟨by rw [toInt, if_neg h2, if_neg h3, if_pos hb], rfl⟩
  · exact ⟨by rw [toInt, if_neg h2, if_neg h3, if_neg (by simp [hb])], rfl⟩
theorem sToBool (v : V) (sl : Value) (h : Hp) (rd : RdE h v.items sl) : ACalls Tryd.prog 117 #[.agg #[.int .i64 v.kind, .int .i64 v.num, .string v.str, .int .i64 v.next, sl]] h (Pu (.bool (toBool v)) h) := by
  obtain ⟨a, c, xs, rfl, hc, hr, hat⟩ := rd.rows (by decide) v.items.length (fm_len edt_len _)
  (refine enter Tryd.func117 rfl rfl (by kernel_rfl) [] ?_; simp only [go_sem, Nat.reduceBEq])
  refine Br.intro (fun h0 => ?_) (fun h0 => ?_) <;> (try simp only [h0, go_sem, Nat.reduceBEq])
  · exact ⟨by rw [toBool, if_pos (of_decide_eq_true h0)], rfl⟩
  have h0 := of_decide_eq_false h0
  refine Br.intro (fun h1 => ?_) (fun h1 => ?_) <;> (try simp only [h1, go_sem, Nat.reduceBEq])
  · have h1 := of_decide_eq_true h1
    exact ⟨by rw [toBool, if_neg h0, if_pos h1]; simp, rfl⟩
  have h1 := of_decide_eq_false h1
  refine Br.intro (fun h2 => ?_) (fun h2 => ?_) <;> (try simp only [h2, go_sem, Nat.reduceBEq])
  · have h2 := of_decide_eq_true h2
    exact ⟨by rw [toBool, if_neg h0, if_neg h1, if_pos h2]; simp, rfl⟩
  have h2 := of_decide_eq_false h2
  refine Br.intro (fun h3 => ?_) (fun h3 => ?_) <;> (try simp only [h3, go_sem, Nat.reduceBEq])
  · have h3 := of_decide_eq_true h3
    have e : toBool v = (decide (v.str ≠ ⟨#[]⟩) && decide (v.str ≠ ⟨#[48]⟩)) := by rw [toBool, if_neg h0, if_neg h1, if_neg h2, if_pos h3]
    rw [e]
    refine Br.intro (fun h4 => ?_) (fun h4 => ?_) <;> (try simp only [h4, go_sem, Nat.reduceBEq])
    · exact ⟨by simp only [Bool.not_eq_true', decide_eq_false_iff_not] at h4; simp [h4], rfl⟩
    · exact ⟨by simp only [Bool.not_eq_false', decide_eq_true_eq] at h4; simp [h4], rfl⟩
  have h3 := of_decide_eq_false h3
  refine Br.intro (fun h4 => ?_) (fun h4 => ?_) <;> (try simp only [h4, go_sem, Nat.reduceBEq])
  · have h4 := of_decide_eq_true h4
    exact ⟨by rw [toBool, if_neg h0, if_neg h1, if_neg h2, if_neg h3, if_pos h4, gt_nat], rfl⟩
  have h4 := of_decide_eq_false h4
  exact ⟨by rw [toBool, if_neg h0, if_neg h1, if_neg h2, if_neg h3, if_neg h4], rfl⟩
theorem sToInt (v : V) (hs : v.str.size ≤ 1152921504606846976) (sl : Value) (h : Hp) (rd : RdE h v.items sl) : ACalls Tryd.prog 114 #[.agg #[.int .i64 v.kind, .int .i64 v.num, .string v.str, .int .i64 v.next, sl]] h (Pu (.int .i64 (toInt v)) h) := by
  (refine enter Tryd.func114 rfl rfl (by kernel_rfl) [] ?_; simp only [go_sem, Nat.reduceBEq])
  refine Br.intro (fun h2 => ?_) (fun h2 => ?_) <;> (try simp only [h2, go_sem, Nat.reduceBEq])
  · exact ⟨by rw [toInt, if_pos (of_decide_eq_true h2)], rfl⟩
  have h2 := of_decide_eq_false h2
  refine Br.intro (fun h3 => ?_) (fun h3 => ?_) <;> (try simp only [h3, go_sem, Nat.reduceBEq, Nat.reduceAdd, Nat.reduceLeDiff])
  · have h3 := of_decide_eq_true h3
    (refine (sLeadingInt v.str hs _).mono ?_; rintro _ _ ⟨rfl, rfl⟩; simp only [go_sem, Nat.reduceBEq])
    exact ⟨by rw [toInt, if_neg h2, if_pos h3], rfl⟩
  have h3 := of_decide_eq_false h3
  (refine (sToBool v sl _ rd).mono ?_; rintro _ _ ⟨rfl, rfl⟩; simp only [go_sem, Nat.reduceBEq])
  refine Br.intro (fun hb => ?_) (fun hb => ?_) <;> (try simp only [hb, go_sem, Nat.reduceBEq])
  · exact ⟨by rw [toInt, if_neg h2, if_neg h3, if_pos hb], rfl⟩
  · exact ⟨by rw [toInt, if_neg h2, if_neg h3, if_neg (by simp [hb])], rfl⟩
theorem iToNumber (v : V) (hs : v.str.size ≤ 1152921504606846976) (sl : Value) (h : Hp) (rd : RdE h v.items sl) : ACalls Tryd.prog 22 #[.agg #[.int .i64 v.kind, .int .i64 v.num, .string v.str, .int .i64 v.next, sl]] h (Pu (.tuple #[.int .i64 (toNum v).1, .int .i64 (toNum v).2]) h) := by
  (refine enter Tryd.func22 rfl rfl (by kernel_rfl) [] ?_; simp only [go_sem, Nat.reduceBEq])
  refine Br.intro (fun h0 => ?_) (fun h0 => ?_) <;> (try simp only [h0, go_sem, Nat.reduceBEq, Nat.reduceAdd, Nat.reduceLeDiff])
  · have h0 := of_decide_eq_true h0
    (refine (iToInt v hs sl _ rd).mono ?_; rintro _ _ ⟨rfl, rfl⟩; simp only [go_sem, Nat.reduceBEq])
    exact ⟨by rw [toNum, if_pos (by omega)], rfl⟩
  have h0 := of_decide_eq_false h0
  refine Br.intro (fun h1 => ?_) (fun h1 => ?_) <;> (try simp only [h1, go_sem, Nat.reduceBEq, Nat.reduceAdd, Nat.reduceLeDiff])
  · have h1 := of_decide_eq_true h1
    (refine (iToInt v hs sl _ rd).mono ?_; rintro _ _ ⟨rfl, rfl⟩; simp only [go_sem, Nat.reduceBEq])
    exact ⟨by rw [toNum, if_pos (by omega)], rfl⟩
  have h1 := of_decide_eq_false h1
  refine Br.intro (fun h2 => ?_) (fun h2 => ?_) <;> (try simp only [h2, go_sem, Nat.reduceBEq, Nat.reduceAdd, Nat.reduceLeDiff])
  · have h2 := of_decide_eq_true h2
    (refine (iToInt v hs sl _ rd).mono ?_; rintro _ _ ⟨rfl, rfl⟩; simp only [go_sem, Nat.reduceBEq])
    exact ⟨by rw [toNum, if_pos (by omega)], rfl⟩
  have h2 := of_decide_eq_false h2
  have hn : ¬ (0 ≤ v.kind ∧ v.kind ≤ 2) := by omega
  refine Br.intro (fun h3 => ?_) (fun h3 => ?_) <;> (try simp only [h3, go_sem, Nat.reduceBEq])
  · have h3 := of_decide_eq_true h3
    (refine (iIsNumeric v.str hs _).mono ?_; rintro _ _ ⟨rfl, rfl⟩; simp only [go_sem, Nat.reduceBEq])
    refine Br.intro (fun hb => ?_) (fun hb => ?_) <;> (try simp only [hb, go_sem, Nat.reduceBEq])
    · (refine (iLeadingInt v.str hs _).mono ?_; rintro _ _ ⟨rfl, rfl⟩; simp only [go_sem, Nat.reduceBEq])
      exact ⟨by rw [toNum, if_neg hn, if_pos ⟨h3, hb⟩], rfl⟩
    · exact ⟨by rw [toNum, if_neg hn, if_neg (by simp [hb])], rfl⟩
  · have h3 := of_decide_eq_false h3
    exact ⟨by rw [toNum, if_neg hn, if_neg (fun e => h3 e.1)], rfl⟩
theorem sToNumber (v : V) (hs : v.str.size ≤ 1152921504606846976) (sl : Value) (h : Hp) (rd : RdE h v.items sl) : ACalls Tryd.prog 94 #[.agg #[.int .i64 v.kind, .int .i64 v.num, .string v.str, .int .i64 v.next, sl]] h (Pu (.tuple #[.int .i64 (toNum v).1, .int .i64 (toNum v).2]) h) := by
  (refine enter Tryd.func94 rfl rfl (by kernel_rfl) [] ?_; simp only [go_sem, Nat.reduceBEq])
  (refine (l1In_c _ _ _ _).mono ?_; rintro _ _ ⟨rfl, rfl⟩; simp only [go_sem, Nat.reduceBEq])
  refine Br.intro (fun h0 => ?_) (fun h0 => ?_) <;> (try simp only [h0, go_sem, Nat.reduceBEq, Nat.reduceAdd, Nat.reduceLeDiff])
  · have h0 := of_decide_eq_true h0
    (refine (sToInt v hs sl _ rd).mono ?_; rintro _ _ ⟨rfl, rfl⟩; simp only [go_sem, Nat.reduceBEq])
    exact ⟨by rw [toNum, if_pos h0], rfl⟩
  have hn := of_decide_eq_false h0
  refine Br.intro (fun h3 => ?_) (fun h3 => ?_) <;> (try simp only [h3, go_sem, Nat.reduceBEq])
  · have h3 := of_decide_eq_true h3
    (refine (sIsNumeric v.str hs _).mono ?_; rintro _ _ ⟨rfl, rfl⟩; simp only [go_sem, Nat.reduceBEq])
    refine Br.intro (fun hb => ?_) (fun hb => ?_) <;> (try simp only [hb, go_sem, Nat.reduceBEq])
    · (refine (sLeadingInt v.str hs _).mono ?_; rintro _ _ ⟨rfl, rfl⟩; simp only [go_sem, Nat.reduceBEq])
      exact ⟨by rw [toNum, if_neg hn, if_pos ⟨h3, hb⟩], rfl⟩
    · exact ⟨by rw [toNum, if_neg hn, if_neg (by simp [hb])], rfl⟩
  · have h3 := of_decide_eq_false h3
    exact ⟨by rw [toNum, if_neg hn, if_neg (fun e => h3 e.1)], rfl⟩
end Go.Proofs.YtconhonjkfpfmaaDoor
namespace Go.Proofs.YtconhonjkfpfmaaDoor
set_option maxRecDepth 8000
open Go Go.Sx
def cmpB (a b : ByteArray) : Int := Lib.compareBytes a.data.toList b.data.toList
theorem str_cmp (a b : ByteArray) (h : Hp) : ACalls Tryd.prog 39 #[.string a, .string b] h (Pu (.int .i64 (cmpB a b)) h) :=
  acalls_below (by kernel_rfl) fun w s => (Tryd.strings_Compare a b w).mono fun e w' ⟨he, hw⟩ => ⟨he, by subst hw; exact RowKit.Below.refl _ _⟩
end Go.Proofs.YtconhonjkfpfmaaDoor
namespace Go.Proofs.YtconhonjkfpfmaaDoor
set_option maxRecDepth 8000
open Go Go.Sx
def cmpI (a b : Int) : Int := if a < b then -1 else if b < a then 1 else 0
def bit (b : Bool) : Int := if b then 1 else 0
/-- the comparison, that of two arrays given -/
def cmp0 (a b : V) (arr : Int) : Int :=
  if a.kind = 0 ∧ b.kind = 3 then cmpB ⟨#[]⟩ b.str else if a.kind = 3 ∧ b.kind = 0 then cmpB a.str ⟨#[]⟩
  else if (0 ≤ a.kind ∧ a.kind ≤ 1) ∨ (0 ≤ b.kind ∧ b.kind ≤ 1) then cmpI (bit (toBool a)) (bit (toBool b))
  else if (toNum a).2 = 0 ∧ (toNum b).2 = 0 then cmpI (toNum a).1 (toNum b).1
  else if (2 ≤ a.kind ∧ a.kind ≤ 3) ∧ (2 ≤ b.kind ∧ b.kind ≤ 3) then cmpB (V.toText a).1 (V.toText b).1
  else if a.kind = 4 ∧ b.kind = 4 then arr else if a.kind = 4 then 1 else if b.kind = 4 then -1 else if a.kind = b.kind ∧ a.num = b.num then 0 else 2
mutual
def V.cmp : V → V → Int
  | ⟨k, n, s, x, es⟩, b => cmp0 ⟨k, n, s, x, es⟩ b (if es.length = b.items.length then cmpEs es b else cmpI es.length b.items.length)
def cmpEs : List (Ky × V) → V → Int
  | [], _ => 0
  | (k, v) :: r, b => match b.get k with
    | none => 2
    | some y => if V.cmp v y = 0 then cmpEs r b else V.cmp v y
end
def arrCmp (a b : V) : Int := if a.items.length = b.items.length then cmpEs a.items b else cmpI a.items.length b.items.length
theorem V.cmp_eq (a b : V) : V.cmp a b = cmp0 a b (arrCmp a b) := by cases a; rw [V.cmp]; rfl
theorem cmpEs_nil (b : V) : cmpEs [] b = 0 := by rw [cmpEs]
theorem cmpEs_cons (e : Ky × V) (r : List (Ky × V)) (b : V) : cmpEs (e :: r) b = match b.get e.1 with
    | none => 2
    | some y => if V.cmp e.2 y = 0 then cmpEs r b else V.cmp e.2 y := by obtain ⟨k, v⟩ := e; rw [cmpEs]
theorem cmpI_lt {a b : Int} (h : a < b) : cmpI a b = -1 := by unfold cmpI; rw [if_pos h]
theorem cmpI_gt {a b : Int} (h : b < a) : cmpI a b = 1 := by unfold cmpI; rw [if_neg (by omega), if_pos h]
theorem cmpI_eq {a b : Int} (h : ¬ a < b) (h2 : ¬ b < a) : cmpI a b = 0 := by unfold cmpI; rw [if_neg h, if_neg h2]
theorem less_cmp : ∀ a b : List UInt8, Op.bytesLess a b = decide (Lib.compareBytes a b = -1)
  | [], [] => by decide
  | [], _ :: _ => by simp [Op.bytesLess, Lib.compareBytes]
  | _ :: _, [] => by simp [Op.bytesLess, Lib.compareBytes]
  | a :: x, b :: y => by
    have ih := less_cmp x y
    simp only [Op.bytesLess, Lib.compareBytes, ih]
    by_cases h : a < b
    · simp [h]
    · by_cases h2 : b < a
      · have : ¬ a = b := by rintro rfl; exact h h2
        simp [h, h2, this]
      · have : a = b := by
          have h3 : ¬ a.toNat < b.toNat := fun k => h (UInt8.lt_iff_toNat_lt.2 k)
          have h4 : ¬ b.toNat < a.toNat := fun k => h2 (UInt8.lt_iff_toNat_lt.2 k)
          exact UInt8.toNat_inj.1 (by omega)
        subst this
        simp [h]
theorem cmp_three : ∀ a b : List UInt8, Lib.compareBytes a b = -1 ∨ Lib.compareBytes a b = 0 ∨ Lib.compareBytes a b = 1
  | [], [] => by decide
  | [], _ :: _ => .inl rfl
  | _ :: _, [] => .inr (.inr rfl)
  | a :: x, b :: y => by
    have ih := cmp_three x y
    simp only [Lib.compareBytes]
    split
    · exact .inl rfl
    · split
      · exact .inr (.inr rfl)
      · exact ih
theorem cmp_zero : ∀ a b : List UInt8, Lib.compareBytes a b = 0 ↔ a = b
  | [], [] => by decide
  | [], _ :: _ => by simp [Lib.compareBytes]
  | _ :: _, [] => by simp [Lib.compareBytes]
  | a :: x, b :: y => by
    have ih := cmp_zero x y
    simp only [Lib.compareBytes, List.cons.injEq]
    by_cases h : a < b
    · have : ¬ a = b := by rintro rfl; exact absurd h (by simp)
      simp [h, this]
    · by_cases h2 : b < a
      · have : ¬ a = b := by rintro rfl; exact h h2
        simp [h, h2, this]
      · have : a = b := by
          have h3 : ¬ a.toNat < b.toNat := fun k => h (UInt8.lt_iff_toNat_lt.2 k)
          have h4 : ¬ b.toNat < a.toNat := fun k => h2 (UInt8.lt_iff_toNat_lt.2 k)
          exact UInt8.toNat_inj.1 (by omega)
        subst this
        simp [h, ih]

theorem bulk_mem2 : ∀ {es : List (Ky × V)} {e : Ky × V}, e ∈ es → e.1.str.size + e.2.bulk + 1 ≤ V.bulks es
  | (k, v) :: r, e, he => by
    simp only [V.bulks]
    cases he with
    | head => simp only; omega
    | tail _ he => have := bulk_mem2 he; omega
theorem get_ok {v x : V} {k : Ky} (hv : v.ok) (h : v.get k = some x) : x.ok ∧ x.bulk ≤ v.bulk := by
  unfold V.get at h
  cases hf : v.find k with
  | none => simp [hf] at h
  | some i =>
    obtain ⟨y, hy, hg, _⟩ := V.find_get hf
    unfold V.get at hg
    rw [h] at hg
    simp at hg
    subst hg
    have hm := List.mem_of_getElem? hy
    have := bulk_mem2 hm
    rw [V.bulk_eq v]
    simp only at this
    exact ⟨(V.oks_mem (V.ok_items hv) hm).2, by omega⟩
theorem iOrder (a b : Int) (h : Hp) : ACalls Tryd.prog 40 #[.int .i64 a, .int .i64 b] h (Pu (.int .i64 (cmpI a b)) h) := by
  (refine enter Tryd.func40 rfl rfl (by kernel_rfl) [] ?_; simp only [go_sem, Nat.reduceBEq])
  refine Br.intro (fun h1 => ?_) (fun h1 => ?_) <;> (try simp only [h1, go_sem, Nat.reduceBEq])
  · have h1 := of_decide_eq_true h1
    exact ⟨by rw [cmpI_lt h1], rfl⟩
  have h1 := of_decide_eq_false h1
  refine Br.intro (fun h2 => ?_) (fun h2 => ?_) <;> (try simp only [h2, go_sem, Nat.reduceBEq])
  · have h2 := of_decide_eq_true h2
    exact ⟨by rw [cmpI_gt h2], rfl⟩
  have h2 := of_decide_eq_false h2
  exact ⟨by rw [cmpI_eq h1 h2], rfl⟩
theorem iBoolNum (b : Bool) (h : Hp) : ACalls Tryd.prog 41 #[.bool b] h (Pu (.int .i64 (bit b)) h) := by
  (refine enter Tryd.func41 rfl rfl (by kernel_rfl) [] ?_; simp only [go_sem, Nat.reduceBEq])
  refine Br.intro (fun h1 => ?_) (fun h1 => ?_) <;> (try simp only [h1, go_sem, Nat.reduceBEq])
  · subst h1
    exact ⟨rfl, rfl⟩
  · subst h1
    exact ⟨rfl, rfl⟩
theorem iScalarText (a : V) (sl : Value) (h : Hp) : ACalls Tryd.prog 42 #[.agg #[.int .i64 a.kind, .int .i64 a.num, .string a.str, .int .i64 a.next, sl]] h (Pu (.bool (decide (2 ≤ a.kind ∧ a.kind ≤ 3))) h) := by
  (refine enter Tryd.func42 rfl rfl (by kernel_rfl) [] ?_; simp only [go_sem, Nat.reduceBEq])
  refine Br.intro (fun h1 => ?_) (fun h1 => ?_) <;> (try simp only [h1, go_sem, Nat.reduceBEq])
  · have h1 := of_decide_eq_true h1
    exact ⟨by rw [decide_eq_true (by omega)], rfl⟩
  · have h1 := of_decide_eq_false h1
    exact ⟨by congr 1; apply decide_eq_decide.2; omega, rfl⟩
theorem sOrder (a b : Int) (h : Hp) : ACalls Tryd.prog 96 #[.int .i64 a, .int .i64 b] h (Pu (.int .i64 (cmpI a b)) h) := by
  (refine enter Tryd.func96 rfl rfl (by kernel_rfl) [] ?_; simp only [go_sem, Nat.reduceBEq])
  refine Br.intro (fun h1 => ?_) (fun h1 => ?_) <;> (try simp only [h1, go_sem, Nat.reduceBEq])
  · have h1 := of_decide_eq_true h1
    exact ⟨by rw [cmpI_lt h1], rfl⟩
  have h1 := of_decide_eq_false h1
  refine Br.intro (fun h2 => ?_) (fun h2 => ?_) <;> (try simp only [h2, go_sem, Nat.reduceBEq])
  · have h2 := of_decide_eq_true h2
    exact ⟨by rw [cmpI_gt h2], rfl⟩
  have h2 := of_decide_eq_false h2
  exact ⟨by rw [cmpI_eq h1 h2], rfl⟩
theorem sBytes (a b : ByteArray) (h : Hp) : ACalls Tryd.prog 95 #[.string a, .string b] h (Pu (.int .i64 (cmpB a b)) h) := by
  have e1 := less_cmp a.data.toList b.data.toList
  have e2 := cmp_zero a.data.toList b.data.toList
  have e3 := cmp_three a.data.toList b.data.toList
  have e4 : a = b ↔ a.data.toList = b.data.toList := ⟨fun h => by rw [h], fun h => by cases a; cases b; simp only [ByteArray.mk.injEq]; exact Array.ext' h⟩
  rw [← ByteArray.toList_eq, ← ByteArray.toList_eq] at e1
  have e0 : cmpB a b = Lib.compareBytes a.data.toList b.data.toList := rfl
  rw [e0]
  rw [ByteArray.toList_eq, ByteArray.toList_eq] at e1
  (refine enter Tryd.func95 rfl rfl (by kernel_rfl) [] ?_; simp only [go_sem, Nat.reduceBEq])
  refine Br.intro (fun h1 => ?_) (fun h1 => ?_) <;> (try simp only [h1, go_sem, Nat.reduceBEq])
  · rw [ByteArray.toList_eq, ByteArray.toList_eq, e1] at h1
    exact ⟨by rw [of_decide_eq_true h1], rfl⟩
  rw [ByteArray.toList_eq, ByteArray.toList_eq, e1] at h1
  have h1 := of_decide_eq_false h1
  refine Br.intro (fun h2 => ?_) (fun h2 => ?_) <;> (try simp only [h2, go_sem, Nat.reduceBEq])
  · have h2 : ¬ a = b := by simpa using h2
    have h3 : ¬ Lib.compareBytes a.data.toList b.data.toList = 0 := fun k => h2 (e4.2 (e2.1 k))
    exact ⟨by rw [show Lib.compareBytes a.data.toList b.data.toList = 1 by omega], rfl⟩
  · have h2 : a = b := by simpa using h2
    have h3 : Lib.compareBytes a.data.toList b.data.toList = 0 := e2.2 (e4.1 h2)
    exact ⟨by rw [h3], rfl⟩
theorem sBit (a : V) (sl : Value) (h : Hp) (rd : RdE h a.items sl) : ACalls Tryd.prog 97 #[.agg #[.int .i64 a.kind, .int .i64 a.num, .string a.str, .int .i64 a.next, sl]] h (Pu (.int .i64 (bit (toBool a))) h) := by
  (refine enter Tryd.func97 rfl rfl (by kernel_rfl) [] ?_; simp only [go_sem, Nat.reduceBEq, Nat.reduceAdd, Nat.reduceLeDiff])
  (refine (sToBool a sl _ rd).mono ?_; rintro _ _ ⟨rfl, rfl⟩; simp only [go_sem, Nat.reduceBEq])
  refine Br.intro (fun h1 => ?_) (fun h1 => ?_) <;> (try simp only [h1, go_sem, Nat.reduceBEq])
  · exact ⟨rfl, rfl⟩
  · exact ⟨rfl, rfl⟩
theorem k6 (k : Int) : k = 0 ∨ k = 1 ∨ k = 2 ∨ k = 3 ∨ k = 4 ∨ (¬ k = 0 ∧ ¬ k = 1 ∧ ¬ k = 2 ∧ ¬ k = 3 ∧ ¬ k = 4) := by omega

def CmpI (a : V) : Prop := ∀ (b : V) (_ : a.ok) (_ : b.ok) (_ : a.bulk ≤ 1099511627776) (_ : b.bulk ≤ 1099511627776) (sa sb : Value) (h : Hp) (_ : RdE h a.items sa) (_ : RdE h b.items sb) (_ : Pow h),
    ACalls Tryd.prog 9 #[.agg #[.int .i64 a.kind, .int .i64 a.num, .string a.str, .int .i64 a.next, sa], .agg #[.int .i64 b.kind, .int .i64 b.num, .string b.str, .int .i64 b.next, sb]] h (Is (.int .i64 (V.cmp a b)) h)
theorem iArrays (a : V) (ih : ∀ e ∈ a.items, CmpI e.2) (b : V) (oka : a.ok) (okb : b.ok) (ha : a.bulk ≤ 1099511627776) (hb : b.bulk ≤ 1099511627776) (sa sb : Value) (h : Hp) (ra : RdE h a.items sa) (rb : RdE h b.items sb) (hT : Pow h) :
    ACalls Tryd.prog 43 #[.agg #[.int .i64 a.kind, .int .i64 a.num, .string a.str, .int .i64 a.next, sa], .agg #[.int .i64 b.kind, .int .i64 b.num, .string b.str, .int .i64 b.next, sb]] h (Is (.int .i64 (arrCmp a b)) h) := by
  have hla := V.bulks_len a.items
  have hlb := V.bulks_len b.items
  have hba := V.bulk_eq a
  have hbb := V.bulk_eq b
  obtain ⟨aa, ca, xa, rfl, hca, hra, hata⟩ := ra.rows (by decide) a.items.length (fm_len edt_len _)
  obtain ⟨ab, cb, xb, rfl, hcb, hrb, hatb⟩ := rb.rows (by decide) b.items.length (fm_len edt_len _)
  (refine enter Tryd.func43 rfl rfl (by kernel_rfl) [] ?_; simp only [go_sem, Nat.reduceBEq])
  refine Br.intro (fun hl => ?_) (fun hl => ?_) <;> (try simp only [hl, go_sem, Nat.reduceBEq])
  · have hl : ¬ a.items.length = b.items.length := by simp at hl; omega
    (refine (iOrder _ _ _).mono ?_; rintro _ _ ⟨rfl, rfl⟩; simp only [go_sem, Nat.reduceBEq])
    exact ⟨by unfold arrCmp; rw [if_neg hl], Ext.refl _⟩
  have hl : a.items.length = b.items.length := by simp at hl; omega
  have e0 : arrCmp a b = cmpEs a.items b := by unfold arrCmp; rw [if_pos hl]
  rw [e0]
  refine aloop (ι := Nat) (fun i => [(26, .val (.int .i64 (i : Nat))), (25, .val (.int .i64 (a.items.length : Nat))), (24, .val (.slice aa a.items.length ca)), (3, .box 3 0)]) (fun _ => [(3, [.int .i64 b.kind, .int .i64 b.num, .string b.str, .int .i64 b.next, .slice ab b.items.length cb])])
    (fun i h' => i ≤ a.items.length ∧ Ext h h' ∧ cmpEs (a.items.drop i) b = cmpEs a.items b) (fun i => a.items.length - i) 0 ⟨Nat.zero_le _, Ext.refl _, rfl⟩ (by repeat (first | exact wkF_e | refine wkF_c rfl ?_)) (wkB_c rfl wkB_e) rfl ?_
  rintro i h1 ⟨hi, e1, hq⟩
  have hi : i ≤ a.items.length := hi
  have ra1 := ra.mono e1
  have rb1 := rb.mono e1
  simp only [go_sem, Nat.reduceBEq]
  refine Br.intro (fun hlt => ?_) (fun hlt => ?_) <;> (try simp only [hlt, go_sem, Nat.reduceBEq])
  · have hlt : i < a.items.length := by simpa using hlt
    obtain ⟨b1, off1, rfl, hata'⟩ := hata (by omega)
    obtain ⟨e, he, hm⟩ := get_lt hlt
    have wsu := wrap_succ (i := i) (by omega)
    have hbe := bulk_mem2 hm
    rw [drop_cons he, cmpEs_cons] at hq
    simp only [ix_nat hlt, go_sem, Nat.reduceBEq]
    refine hsem_entry tyS69 (hata'.mono e1) (hra.mono e1) he rfl fun s2 rd2 => ?_
    obtain ⟨a2, c2, _, rfl, _⟩ := rd2.rows (by decide) e.2.items.length (fm_len edt_len _)
    simp only [go_sem, Nat.reduceBEq, Nat.reduceAdd, Nat.reduceLeDiff]
    (refine (iFindKey b e.1 (by omega) _ _ rb1).mono ?_; rintro _ _ ⟨rfl, rfl⟩; simp only [go_sem, Nat.reduceBEq])
    rw [ixI_neg]
    cases hf : b.find e.1 with
    | none =>
      rw [V.find_none hf] at hq
      simp only [Option.isNone_none, go_sem, Nat.reduceBEq]
      exact ⟨by rw [← hq], e1⟩
    | some j =>
      obtain ⟨y, hy, hg, hlj⟩ := V.find_get hf
      rw [hg] at hq
      obtain ⟨b2, off2, rfl, hatb'⟩ := hatb (by omega)
      simp only [Option.isNone_some, ixI_some, go_sem]
      refine regionD_intro (lb := [37, 39]) (by kernel_rfl) ?_
      simp only [ix_nat hlj, go_sem, Nat.reduceBEq, Nat.reduceAdd, Nat.reduceLeDiff]
      refine hsem_eval tyS26 (hatb'.mono e1) (hrb.mono e1) hy rfl fun s3 rd3 => ?_
      obtain ⟨a3, c3, _, rfl, _⟩ := rd3.rows (by decide) y.items.length (fm_len edt_len _)
      simp only [go_sem, Nat.reduceBEq]
      obtain ⟨oky, hby⟩ := get_ok okb hg
      refine (ih e hm y (V.oks_mem (V.ok_items oka) hm).2 oky (by omega) (by omega) _ _ _ rd2 rd3 (hT.ext e1)).mono ?_
      rintro _ h2 ⟨rfl, e2⟩
      simp only [go_sem, Nat.reduceBEq]
      refine Br.intro (fun hz => ?_) (fun hz => ?_) <;> (try simp only [hz, go_sem, Nat.reduceBEq])
      · have hz : ¬ V.cmp e.2 y = 0 := by simpa using hz
        simp only [hz, if_false] at hq
        exact ⟨by rw [← hq], e1.trans e2⟩
      · have hz : V.cmp e.2 y = 0 := by simpa using hz
        simp only [hz, if_true] at hq
        try simp only [wsu, go_sem]
        try rw [wsu]
        exact Again.intro (i + 1) (by first | omega | (simp only; omega)) ⟨hlt, e1.trans e2, hq⟩ (by repeat (first | exact wkF_e | refine wkF_c rfl ?_)) (wkB_c rfl wkB_e) rfl
  · have hlt : i = a.items.length := by simp at hlt; omega
    rw [List.drop_eq_nil_of_le (by omega), cmpEs_nil] at hq
    exact ⟨by rw [← hq], e1⟩
theorem iCompare_0 (a b : V) (hsa : a.str.size ≤ 1152921504606846976) (hsb : b.str.size ≤ 1152921504606846976) (hna : IntKind.i64.min ≤ a.num ∧ a.num ≤ IntKind.i64.max) (hnb : IntKind.i64.min ≤ b.num ∧ b.num ≤ IntKind.i64.max) (sa sb : Value) (h : Hp) (ra : RdE h a.items sa) (rb : RdE h b.items sb) (hT : Pow h) (ar : Int) (harr : ACalls Tryd.prog 43 #[.agg #[.int .i64 a.kind, .int .i64 a.num, .string a.str, .int .i64 a.next, sa], .agg #[.int .i64 b.kind, .int .i64 b.num, .string b.str, .int .i64 b.next, sb]] h (Is (.int .i64 ar) h)) (ha : a.kind = 0) :
    ACalls Tryd.prog 9 #[.agg #[.int .i64 a.kind, .int .i64 a.num, .string a.str, .int .i64 a.next, sa], .agg #[.int .i64 b.kind, .int .i64 b.num, .string b.str, .int .i64 b.next, sb]] h (Is (.int .i64 (cmp0 a b ar)) h) := by
  have d0 : decide (a.kind = 0) = true := decide_eq_true (by omega)
  have d1 : decide (a.kind = 1) = false := decide_eq_false (by omega)
  have d2 : decide (a.kind = 2) = false := decide_eq_false (by omega)
  have d3 : decide (a.kind = 3) = false := decide_eq_false (by omega)
  have d4 : decide (a.kind = 4) = false := decide_eq_false (by omega)
  have d01 : decide (0 ≤ a.kind ∧ a.kind ≤ 1) = true := decide_eq_true (by omega)
  have d23 : decide (2 ≤ a.kind ∧ a.kind ≤ 3) = false := decide_eq_false (by omega)
  have fin : ∀ {x : Int} {h' : Hp}, cmp0 a b ar = x → Ext h h' → Is (.int .i64 (cmp0 a b ar)) h (.int .i64 x) h' := fun e k => ⟨by rw [e], k⟩
  (refine enter Tryd.func9 rfl rfl (by kernel_rfl) [] ?_; simp only [go_sem, Nat.reduceBEq])
  simp only [d0, go_sem, Nat.reduceBEq]
  refine Br.intro (fun hb3r => ?_) (fun hb3r => ?_)
  · have hb3 := of_decide_eq_true hb3r
    simp only [hb3r, go_sem, Nat.reduceBEq]
    refine (str_cmp _ _ _).mono ?_
    rintro _ _ ⟨rfl, rfl⟩
    simp only [go_sem, Nat.reduceBEq]
    exact fin (by unfold cmp0; rw [if_pos (by omega)]) (Ext.refl _)
  · have hb3 := of_decide_eq_false hb3r
    simp only [d0, d3, hb3r, go_sem, Nat.reduceBEq]
    refine regionD_intro (lb := [56, 59]) (by kernel_rfl) ?_
    simp only [go_sem, Nat.reduceBEq, Nat.reduceAdd, Nat.reduceLeDiff]
    refine (iToBool a _ _ ra).mono ?_
    rintro _ _ ⟨rfl, rfl⟩
    simp only [go_sem, Nat.reduceBEq]
    refine (iBoolNum _ _).mono ?_
    rintro _ _ ⟨rfl, rfl⟩
    simp only [go_sem, Nat.reduceBEq, Nat.reduceAdd, Nat.reduceLeDiff]
    refine (iToBool b _ _ rb).mono ?_
    rintro _ _ ⟨rfl, rfl⟩
    simp only [go_sem, Nat.reduceBEq]
    refine (iBoolNum _ _).mono ?_
    rintro _ _ ⟨rfl, rfl⟩
    simp only [go_sem, Nat.reduceBEq]
    refine (iOrder _ _ _).mono ?_
    rintro _ _ ⟨rfl, rfl⟩
    simp only [go_sem, Nat.reduceBEq]
    exact fin (by unfold cmp0; rw [if_neg (by omega)]; rw [if_neg (by omega)]; rw [if_pos (by omega)]) (Ext.refl _)
theorem iCompare_1 (a b : V) (hsa : a.str.size ≤ 1152921504606846976) (hsb : b.str.size ≤ 1152921504606846976) (hna : IntKind.i64.min ≤ a.num ∧ a.num ≤ IntKind.i64.max) (hnb : IntKind.i64.min ≤ b.num ∧ b.num ≤ IntKind.i64.max) (sa sb : Value) (h : Hp) (ra : RdE h a.items sa) (rb : RdE h b.items sb) (hT : Pow h) (ar : Int) (harr : ACalls Tryd.prog 43 #[.agg #[.int .i64 a.kind, .int .i64 a.num, .string a.str, .int .i64 a.next, sa], .agg #[.int .i64 b.kind, .int .i64 b.num, .string b.str, .int .i64 b.next, sb]] h (Is (.int .i64 ar) h)) (ha : a.kind = 1) :
    ACalls Tryd.prog 9 #[.agg #[.int .i64 a.kind, .int .i64 a.num, .string a.str, .int .i64 a.next, sa], .agg #[.int .i64 b.kind, .int .i64 b.num, .string b.str, .int .i64 b.next, sb]] h (Is (.int .i64 (cmp0 a b ar)) h) := by
  have d0 : decide (a.kind = 0) = false := decide_eq_false (by omega)
  have d1 : decide (a.kind = 1) = true := decide_eq_true (by omega)
  have d2 : decide (a.kind = 2) = false := decide_eq_false (by omega)
  have d3 : decide (a.kind = 3) = false := decide_eq_false (by omega)
  have d4 : decide (a.kind = 4) = false := decide_eq_false (by omega)
  have d01 : decide (0 ≤ a.kind ∧ a.kind ≤ 1) = true := decide_eq_true (by omega)
  have d23 : decide (2 ≤ a.kind ∧ a.kind ≤ 3) = false := decide_eq_false (by omega)
  have fin : ∀ {x : Int} {h' : Hp}, cmp0 a b ar = x → Ext h h' → Is (.int .i64 (cmp0 a b ar)) h (.int .i64 x) h' := fun e k => ⟨by rw [e], k⟩
  (refine enter Tryd.func9 rfl rfl (by kernel_rfl) [] ?_; simp only [go_sem, Nat.reduceBEq])
  simp only [d0, d1, d3, go_sem, Nat.reduceBEq]
  refine regionD_intro (lb := [56, 59]) (by kernel_rfl) ?_
  simp only [go_sem, Nat.reduceBEq, Nat.reduceAdd, Nat.reduceLeDiff]
  refine (iToBool a _ _ ra).mono ?_
  rintro _ _ ⟨rfl, rfl⟩
  simp only [go_sem, Nat.reduceBEq]
  refine (iBoolNum _ _).mono ?_
  rintro _ _ ⟨rfl, rfl⟩
  simp only [go_sem, Nat.reduceBEq, Nat.reduceAdd, Nat.reduceLeDiff]
  refine (iToBool b _ _ rb).mono ?_
  rintro _ _ ⟨rfl, rfl⟩
  simp only [go_sem, Nat.reduceBEq]
  refine (iBoolNum _ _).mono ?_
  rintro _ _ ⟨rfl, rfl⟩
  simp only [go_sem, Nat.reduceBEq]
  refine (iOrder _ _ _).mono ?_
  rintro _ _ ⟨rfl, rfl⟩
  simp only [go_sem, Nat.reduceBEq]
  exact fin (by unfold cmp0; rw [if_neg (by omega)]; rw [if_neg (by omega)]; rw [if_pos (by omega)]) (Ext.refl _)
theorem iCompare_2 (a b : V) (hsa : a.str.size ≤ 1152921504606846976) (hsb : b.str.size ≤ 1152921504606846976) (hna : IntKind.i64.min ≤ a.num ∧ a.num ≤ IntKind.i64.max) (hnb : IntKind.i64.min ≤ b.num ∧ b.num ≤ IntKind.i64.max) (sa sb : Value) (h : Hp) (ra : RdE h a.items sa) (rb : RdE h b.items sb) (hT : Pow h) (ar : Int) (harr : ACalls Tryd.prog 43 #[.agg #[.int .i64 a.kind, .int .i64 a.num, .string a.str, .int .i64 a.next, sa], .agg #[.int .i64 b.kind, .int .i64 b.num, .string b.str, .int .i64 b.next, sb]] h (Is (.int .i64 ar) h)) (ha : a.kind = 2) :
    ACalls Tryd.prog 9 #[.agg #[.int .i64 a.kind, .int .i64 a.num, .string a.str, .int .i64 a.next, sa], .agg #[.int .i64 b.kind, .int .i64 b.num, .string b.str, .int .i64 b.next, sb]] h (Is (.int .i64 (cmp0 a b ar)) h) := by
  have d0 : decide (a.kind = 0) = false := decide_eq_false (by omega)
  have d1 : decide (a.kind = 1) = false := decide_eq_false (by omega)
  have d2 : decide (a.kind = 2) = true := decide_eq_true (by omega)
  have d3 : decide (a.kind = 3) = false := decide_eq_false (by omega)
  have d4 : decide (a.kind = 4) = false := decide_eq_false (by omega)
  have d01 : decide (0 ≤ a.kind ∧ a.kind ≤ 1) = false := decide_eq_false (by omega)
  have d23 : decide (2 ≤ a.kind ∧ a.kind ≤ 3) = true := decide_eq_true (by omega)
  have fin : ∀ {x : Int} {h' : Hp}, cmp0 a b ar = x → Ext h h' → Is (.int .i64 (cmp0 a b ar)) h (.int .i64 x) h' := fun e k => ⟨by rw [e], k⟩
  (refine enter Tryd.func9 rfl rfl (by kernel_rfl) [] ?_; simp only [go_sem, Nat.reduceBEq])
  simp only [d0, d1, d3, go_sem, Nat.reduceBEq]
  refine Br.intro (fun hb0r => ?_) (fun hb0r => ?_)
  · have hb0 := of_decide_eq_true hb0r
    simp only [hb0r, go_sem, Nat.reduceBEq]
    refine regionD_intro (lb := [56, 59]) (by kernel_rfl) ?_
    simp only [go_sem, Nat.reduceBEq, Nat.reduceAdd, Nat.reduceLeDiff]
    refine (iToBool a _ _ ra).mono ?_
    rintro _ _ ⟨rfl, rfl⟩
    simp only [go_sem, Nat.reduceBEq]
    refine (iBoolNum _ _).mono ?_
    rintro _ _ ⟨rfl, rfl⟩
    simp only [go_sem, Nat.reduceBEq, Nat.reduceAdd, Nat.reduceLeDiff]
    refine (iToBool b _ _ rb).mono ?_
    rintro _ _ ⟨rfl, rfl⟩
    simp only [go_sem, Nat.reduceBEq]
    refine (iBoolNum _ _).mono ?_
    rintro _ _ ⟨rfl, rfl⟩
    simp only [go_sem, Nat.reduceBEq]
    refine (iOrder _ _ _).mono ?_
    rintro _ _ ⟨rfl, rfl⟩
    simp only [go_sem, Nat.reduceBEq]
    exact fin (by unfold cmp0; rw [if_neg (by omega)]; rw [if_neg (by omega)]; rw [if_pos (by omega)]) (Ext.refl _)
  · have hb0 := of_decide_eq_false hb0r
    simp only [hb0r, go_sem, Nat.reduceBEq]
    refine Br.intro (fun hb1r => ?_) (fun hb1r => ?_)
    · have hb1 := of_decide_eq_true hb1r
      simp only [hb1r, go_sem]
      refine regionD_intro (lb := [56, 59]) (by kernel_rfl) ?_
      simp only [go_sem, Nat.reduceBEq, Nat.reduceAdd, Nat.reduceLeDiff]
      refine (iToBool a _ _ ra).mono ?_
      rintro _ _ ⟨rfl, rfl⟩
      simp only [go_sem, Nat.reduceBEq]
      refine (iBoolNum _ _).mono ?_
      rintro _ _ ⟨rfl, rfl⟩
      simp only [go_sem, Nat.reduceBEq, Nat.reduceAdd, Nat.reduceLeDiff]
      refine (iToBool b _ _ rb).mono ?_
      rintro _ _ ⟨rfl, rfl⟩
      simp only [go_sem, Nat.reduceBEq]
      refine (iBoolNum _ _).mono ?_
      rintro _ _ ⟨rfl, rfl⟩
      simp only [go_sem, Nat.reduceBEq]
      refine (iOrder _ _ _).mono ?_
      rintro _ _ ⟨rfl, rfl⟩
      simp only [go_sem, Nat.reduceBEq]
      exact fin (by unfold cmp0; rw [if_neg (by omega)]; rw [if_neg (by omega)]; rw [if_pos (by omega)]) (Ext.refl _)
    · have hb1 := of_decide_eq_false hb1r
      simp only [hb1r, go_sem, Nat.reduceBEq, Nat.reduceAdd, Nat.reduceLeDiff]
      refine (iToNumber a hsa _ _ ra).mono ?_
      rintro _ _ ⟨rfl, rfl⟩
      simp only [go_sem, Nat.reduceBEq, Nat.reduceAdd, Nat.reduceLeDiff]
      refine (iToNumber b hsb _ _ rb).mono ?_
      rintro _ _ ⟨rfl, rfl⟩
      simp only [go_sem, Nat.reduceBEq]
      refine Br.intro (fun hxr => ?_) (fun hxr => ?_)
      · have hx := of_decide_eq_true hxr
        simp only [hxr, go_sem, Nat.reduceBEq]
        refine Br.intro (fun hyr => ?_) (fun hyr => ?_)
        · have hy := of_decide_eq_true hyr
          simp only [hyr, go_sem, Nat.reduceBEq]
          refine (iOrder _ _ _).mono ?_
          rintro _ _ ⟨rfl, rfl⟩
          simp only [go_sem, Nat.reduceBEq]
          exact fin (by unfold cmp0; rw [if_neg (by omega)]; rw [if_neg (by omega)]; rw [if_neg (by omega)]; rw [if_pos (by omega)]) (Ext.refl _)
        · have hy := of_decide_eq_false hyr
          simp only [hyr, go_sem, Nat.reduceBEq, Nat.reduceAdd, Nat.reduceLeDiff]
          refine (iScalarText a _ _).mono ?_
          rintro _ _ ⟨rfl, rfl⟩
          simp only [d23, go_sem, Nat.reduceBEq, Nat.reduceAdd, Nat.reduceLeDiff]
          refine (iScalarText b _ _).mono ?_
          rintro _ _ ⟨rfl, rfl⟩
          simp only [go_sem, Nat.reduceBEq]
          refine Br.intro (fun hb23r => ?_) (fun hb23r => ?_)
          · have hb23 := of_decide_eq_true hb23r
            simp only [hb23r, go_sem, Nat.reduceBEq, Nat.reduceAdd, Nat.reduceLeDiff]
            refine (iToText a hna _ _ ra hT).mono ?_
            rintro _ h1 ⟨rfl, e1⟩
            simp only [go_sem, Nat.reduceBEq, Nat.reduceAdd, Nat.reduceLeDiff]
            refine (iToText b hnb _ _ (rb.mono e1) (hT.ext e1)).mono ?_
            rintro _ h2 ⟨rfl, e2⟩
            simp only [go_sem, Nat.reduceBEq]
            refine (str_cmp _ _ _).mono ?_
            rintro _ _ ⟨rfl, rfl⟩
            simp only [go_sem, Nat.reduceBEq]
            exact fin (by unfold cmp0; rw [if_neg (by omega)]; rw [if_neg (by omega)]; rw [if_neg (by omega)]; rw [if_neg (by omega)]; rw [if_pos (by omega)]) (e1.trans e2)
          · have hb23 := of_decide_eq_false hb23r
            simp only [d4, hb23r, go_sem, Nat.reduceBEq]
            refine Br.intro (fun hb4r => ?_) (fun hb4r => ?_)
            · have hb4 := of_decide_eq_true hb4r
              simp only [hb4r, go_sem, Nat.reduceBEq]
              exact fin (by unfold cmp0; rw [if_neg (by omega)]; rw [if_neg (by omega)]; rw [if_neg (by omega)]; rw [if_neg (by omega)]; rw [if_neg (by omega)]; rw [if_neg (by omega)]; rw [if_neg (by omega)]; rw [if_pos (by omega)]) (Ext.refl _)
            · have hb4 := of_decide_eq_false hb4r
              simp only [hb4r, go_sem, Nat.reduceBEq]
              refine Br.intro (fun hkr => ?_) (fun hkr => ?_)
              · have hk := of_decide_eq_true hkr
                simp only [hkr, go_sem, Nat.reduceBEq]
                refine Br.intro (fun hnr => ?_) (fun hnr => ?_)
                · have hn := of_decide_eq_true hnr
                  simp only [hnr, go_sem, Nat.reduceBEq]
                  exact fin (by unfold cmp0; rw [if_neg (by omega)]; rw [if_neg (by omega)]; rw [if_neg (by omega)]; rw [if_neg (by omega)]; rw [if_neg (by omega)]; rw [if_neg (by omega)]; rw [if_neg (by omega)]; rw [if_neg (by omega)]; rw [if_pos (by omega)]) (Ext.refl _)
                · have hn := of_decide_eq_false hnr
                  simp only [hnr, go_sem, Nat.reduceBEq]
                  exact fin (by unfold cmp0; rw [if_neg (by omega)]; rw [if_neg (by omega)]; rw [if_neg (by omega)]; rw [if_neg (by omega)]; rw [if_neg (by omega)]; rw [if_neg (by omega)]; rw [if_neg (by omega)]; rw [if_neg (by omega)]; rw [if_neg (by omega)]) (Ext.refl _)
              · have hk := of_decide_eq_false hkr
                simp only [hkr, go_sem, Nat.reduceBEq]
                exact fin (by unfold cmp0; rw [if_neg (by omega)]; rw [if_neg (by omega)]; rw [if_neg (by omega)]; rw [if_neg (by omega)]; rw [if_neg (by omega)]; rw [if_neg (by omega)]; rw [if_neg (by omega)]; rw [if_neg (by omega)]; rw [if_neg (by omega)]) (Ext.refl _)
      · have hx := of_decide_eq_false hxr
        simp only [hxr, go_sem, Nat.reduceBEq, Nat.reduceAdd, Nat.reduceLeDiff]
        refine (iScalarText a _ _).mono ?_
        rintro _ _ ⟨rfl, rfl⟩
        simp only [d23, go_sem, Nat.reduceBEq, Nat.reduceAdd, Nat.reduceLeDiff]
        refine (iScalarText b _ _).mono ?_
        rintro _ _ ⟨rfl, rfl⟩
        simp only [go_sem, Nat.reduceBEq]
        refine Br.intro (fun hb23r => ?_) (fun hb23r => ?_)
        · have hb23 := of_decide_eq_true hb23r
          simp only [hb23r, go_sem, Nat.reduceBEq, Nat.reduceAdd, Nat.reduceLeDiff]
          refine (iToText a hna _ _ ra hT).mono ?_
          rintro _ h1 ⟨rfl, e1⟩
          simp only [go_sem, Nat.reduceBEq, Nat.reduceAdd, Nat.reduceLeDiff]
          refine (iToText b hnb _ _ (rb.mono e1) (hT.ext e1)).mono ?_
          rintro _ h2 ⟨rfl, e2⟩
          simp only [go_sem, Nat.reduceBEq]
          refine (str_cmp _ _ _).mono ?_
          rintro _ _ ⟨rfl, rfl⟩
          simp only [go_sem, Nat.reduceBEq]
          exact fin (by unfold cmp0; rw [if_neg (by omega)]; rw [if_neg (by omega)]; rw [if_neg (by omega)]; rw [if_neg (by omega)]; rw [if_pos (by omega)]) (e1.trans e2)
        · have hb23 := of_decide_eq_false hb23r
          simp only [d4, hb23r, go_sem, Nat.reduceBEq]
          refine Br.intro (fun hb4r => ?_) (fun hb4r => ?_)
          · have hb4 := of_decide_eq_true hb4r
            simp only [hb4r, go_sem, Nat.reduceBEq]
            exact fin (by unfold cmp0; rw [if_neg (by omega)]; rw [if_neg (by omega)]; rw [if_neg (by omega)]; rw [if_neg (by omega)]; rw [if_neg (by omega)]; rw [if_neg (by omega)]; rw [if_neg (by omega)]; rw [if_pos (by omega)]) (Ext.refl _)
          · have hb4 := of_decide_eq_false hb4r
            simp only [hb4r, go_sem, Nat.reduceBEq]
            refine Br.intro (fun hkr => ?_) (fun hkr => ?_)
            · have hk := of_decide_eq_true hkr
              simp only [hkr, go_sem, Nat.reduceBEq]
              refine Br.intro (fun hnr => ?_) (fun hnr => ?_)
              · have hn := of_decide_eq_true hnr
                simp only [hnr, go_sem, Nat.reduceBEq]
                exact fin (by unfold cmp0; rw [if_neg (by omega)]; rw [if_neg (by omega)]; rw [if_neg (by omega)]; rw [if_neg (by omega)]; rw [if_neg (by omega)]; rw [if_neg (by omega)]; rw [if_neg (by omega)]; rw [if_neg (by omega)]; rw [if_pos (by omega)]) (Ext.refl _)
              · have hn := of_decide_eq_false hnr
                simp only [hnr, go_sem, Nat.reduceBEq]
                exact fin (by unfold cmp0; rw [if_neg (by omega)]; rw [if_neg (by omega)]; rw [if_neg (by omega)]; rw [if_neg (by omega)]; rw [if_neg (by omega)]; rw [if_neg (by omega)]; rw [if_neg (by omega)]; rw [if_neg (by omega)]; rw [if_neg (by omega)]) (Ext.refl _)
            · have hk := of_decide_eq_false hkr
              simp only [hkr, go_sem, Nat.reduceBEq]
              exact fin (by unfold cmp0; rw [if_neg (by omega)]; rw [if_neg (by omega)]; rw [if_neg (by omega)]; rw [if_neg (by omega)]; rw [if_neg (by omega)]; rw [if_neg (by omega)]; rw [if_neg (by omega)]; rw [if_neg (by omega)]; rw [if_neg (by omega)]) (Ext.refl _)
theorem iCompare_3 (a b : V) (hsa : a.str.size ≤ 1152921504606846976) (hsb : b.str.size ≤ 1152921504606846976) (hna : IntKind.i64.min ≤ a.num ∧ a.num ≤ IntKind.i64.max) (hnb : IntKind.i64.min ≤ b.num ∧ b.num ≤ IntKind.i64.max) (sa sb : Value) (h : Hp) (ra : RdE h a.items sa) (rb : RdE h b.items sb) (hT : Pow h) (ar : Int) (harr : ACalls Tryd.prog 43 #[.agg #[.int .i64 a.kind, .int .i64 a.num, .string a.str, .int .i64 a.next, sa], .agg #[.int .i64 b.kind, .int .i64 b.num, .string b.str, .int .i64 b.next, sb]] h (Is (.int .i64 ar) h)) (ha : a.kind = 3) :
    ACalls Tryd.prog 9 #[.agg #[.int .i64 a.kind, .int .i64 a.num, .string a.str, .int .i64 a.next, sa], .agg #[.int .i64 b.kind, .int .i64 b.num, .string b.str, .int .i64 b.next, sb]] h (Is (.int .i64 (cmp0 a b ar)) h) := by
  have d0 : decide (a.kind = 0) = false := decide_eq_false (by omega)
  have d1 : decide (a.kind = 1) = false := decide_eq_false (by omega)
  have d2 : decide (a.kind = 2) = false := decide_eq_false (by omega)
  have d3 : decide (a.kind = 3) = true := decide_eq_true (by omega)
  have d4 : decide (a.kind = 4) = false := decide_eq_false (by omega)
  have d01 : decide (0 ≤ a.kind ∧ a.kind ≤ 1) = false := decide_eq_false (by omega)
  have d23 : decide (2 ≤ a.kind ∧ a.kind ≤ 3) = true := decide_eq_true (by omega)
  have fin : ∀ {x : Int} {h' : Hp}, cmp0 a b ar = x → Ext h h' → Is (.int .i64 (cmp0 a b ar)) h (.int .i64 x) h' := fun e k => ⟨by rw [e], k⟩
  (refine enter Tryd.func9 rfl rfl (by kernel_rfl) [] ?_; simp only [go_sem, Nat.reduceBEq])
  simp only [d0, d3, go_sem, Nat.reduceBEq]
  refine Br.intro (fun hb0r => ?_) (fun hb0r => ?_)
  · have hb0 := of_decide_eq_true hb0r
    simp only [hb0r, go_sem, Nat.reduceBEq]
    refine (str_cmp _ _ _).mono ?_
    rintro _ _ ⟨rfl, rfl⟩
    simp only [go_sem, Nat.reduceBEq]
    exact fin (by unfold cmp0; rw [if_neg (by omega)]; rw [if_pos (by omega)]) (Ext.refl _)
  · have hb0 := of_decide_eq_false hb0r
    simp only [d0, d1, hb0r, go_sem, Nat.reduceBEq]
    refine Br.intro (fun hb1r => ?_) (fun hb1r => ?_)
    · have hb1 := of_decide_eq_true hb1r
      simp only [hb1r, go_sem]
      refine regionD_intro (lb := [56, 59]) (by kernel_rfl) ?_
      simp only [go_sem, Nat.reduceBEq, Nat.reduceAdd, Nat.reduceLeDiff]
      refine (iToBool a _ _ ra).mono ?_
      rintro _ _ ⟨rfl, rfl⟩
      simp only [go_sem, Nat.reduceBEq]
      refine (iBoolNum _ _).mono ?_
      rintro _ _ ⟨rfl, rfl⟩
      simp only [go_sem, Nat.reduceBEq, Nat.reduceAdd, Nat.reduceLeDiff]
      refine (iToBool b _ _ rb).mono ?_
      rintro _ _ ⟨rfl, rfl⟩
      simp only [go_sem, Nat.reduceBEq]
      refine (iBoolNum _ _).mono ?_
      rintro _ _ ⟨rfl, rfl⟩
      simp only [go_sem, Nat.reduceBEq]
      refine (iOrder _ _ _).mono ?_
      rintro _ _ ⟨rfl, rfl⟩
      simp only [go_sem, Nat.reduceBEq]
      exact fin (by unfold cmp0; rw [if_neg (by omega)]; rw [if_neg (by omega)]; rw [if_pos (by omega)]) (Ext.refl _)
    · have hb1 := of_decide_eq_false hb1r
      simp only [hb1r, go_sem, Nat.reduceBEq, Nat.reduceAdd, Nat.reduceLeDiff]
      refine (iToNumber a hsa _ _ ra).mono ?_
      rintro _ _ ⟨rfl, rfl⟩
      simp only [go_sem, Nat.reduceBEq, Nat.reduceAdd, Nat.reduceLeDiff]
      refine (iToNumber b hsb _ _ rb).mono ?_
      rintro _ _ ⟨rfl, rfl⟩
      simp only [go_sem, Nat.reduceBEq]
      refine Br.intro (fun hxr => ?_) (fun hxr => ?_)
      · have hx := of_decide_eq_true hxr
        simp only [hxr, go_sem, Nat.reduceBEq]
        refine Br.intro (fun hyr => ?_) (fun hyr => ?_)
        · have hy := of_decide_eq_true hyr
          simp only [hyr, go_sem, Nat.reduceBEq]
          refine (iOrder _ _ _).mono ?_
          rintro _ _ ⟨rfl, rfl⟩
          simp only [go_sem, Nat.reduceBEq]
          exact fin (by unfold cmp0; rw [if_neg (by omega)]; rw [if_neg (by omega)]; rw [if_neg (by omega)]; rw [if_pos (by omega)]) (Ext.refl _)
        · have hy := of_decide_eq_false hyr
          simp only [hyr, go_sem, Nat.reduceBEq, Nat.reduceAdd, Nat.reduceLeDiff]
          refine (iScalarText a _ _).mono ?_
          rintro _ _ ⟨rfl, rfl⟩
          simp only [d23, go_sem, Nat.reduceBEq, Nat.reduceAdd, Nat.reduceLeDiff]
          refine (iScalarText b _ _).mono ?_
          rintro _ _ ⟨rfl, rfl⟩
          simp only [go_sem, Nat.reduceBEq]
          refine Br.intro (fun hb23r => ?_) (fun hb23r => ?_)
          · have hb23 := of_decide_eq_true hb23r
            simp only [hb23r, go_sem, Nat.reduceBEq, Nat.reduceAdd, Nat.reduceLeDiff]
            refine (iToText a hna _ _ ra hT).mono ?_
            rintro _ h1 ⟨rfl, e1⟩
            simp only [go_sem, Nat.reduceBEq, Nat.reduceAdd, Nat.reduceLeDiff]
            refine (iToText b hnb _ _ (rb.mono e1) (hT.ext e1)).mono ?_
            rintro _ h2 ⟨rfl, e2⟩
            simp only [go_sem, Nat.reduceBEq]
            refine (str_cmp _ _ _).mono ?_
            rintro _ _ ⟨rfl, rfl⟩
            simp only [go_sem, Nat.reduceBEq]
            exact fin (by unfold cmp0; rw [if_neg (by omega)]; rw [if_neg (by omega)]; rw [if_neg (by omega)]; rw [if_neg (by omega)]; rw [if_pos (by omega)]) (e1.trans e2)
          · have hb23 := of_decide_eq_false hb23r
            simp only [d4, hb23r, go_sem, Nat.reduceBEq]
            refine Br.intro (fun hb4r => ?_) (fun hb4r => ?_)
            · have hb4 := of_decide_eq_true hb4r
              simp only [hb4r, go_sem, Nat.reduceBEq]
              exact fin (by unfold cmp0; rw [if_neg (by omega)]; rw [if_neg (by omega)]; rw [if_neg (by omega)]; rw [if_neg (by omega)]; rw [if_neg (by omega)]; rw [if_neg (by omega)]; rw [if_neg (by omega)]; rw [if_pos (by omega)]) (Ext.refl _)
            · have hb4 := of_decide_eq_false hb4r
              simp only [hb4r, go_sem, Nat.reduceBEq]
              refine Br.intro (fun hkr => ?_) (fun hkr => ?_)
              · have hk := of_decide_eq_true hkr
                simp only [hkr, go_sem, Nat.reduceBEq]
                refine Br.intro (fun hnr => ?_) (fun hnr => ?_)
                · have hn := of_decide_eq_true hnr
                  simp only [hnr, go_sem, Nat.reduceBEq]
                  exact fin (by unfold cmp0; rw [if_neg (by omega)]; rw [if_neg (by omega)]; rw [if_neg (by omega)]; rw [if_neg (by omega)]; rw [if_neg (by omega)]; rw [if_neg (by omega)]; rw [if_neg (by omega)]; rw [if_neg (by omega)]; rw [if_pos (by omega)]) (Ext.refl _)
                · have hn := of_decide_eq_false hnr
                  simp only [hnr, go_sem, Nat.reduceBEq]
                  exact fin (by unfold cmp0; rw [if_neg (by omega)]; rw [if_neg (by omega)]; rw [if_neg (by omega)]; rw [if_neg (by omega)]; rw [if_neg (by omega)]; rw [if_neg (by omega)]; rw [if_neg (by omega)]; rw [if_neg (by omega)]; rw [if_neg (by omega)]) (Ext.refl _)
              · have hk := of_decide_eq_false hkr
                simp only [hkr, go_sem, Nat.reduceBEq]
                exact fin (by unfold cmp0; rw [if_neg (by omega)]; rw [if_neg (by omega)]; rw [if_neg (by omega)]; rw [if_neg (by omega)]; rw [if_neg (by omega)]; rw [if_neg (by omega)]; rw [if_neg (by omega)]; rw [if_neg (by omega)]; rw [if_neg (by omega)]) (Ext.refl _)
      · have hx := of_decide_eq_false hxr
        simp only [hxr, go_sem, Nat.reduceBEq, Nat.reduceAdd, Nat.reduceLeDiff]
        refine (iScalarText a _ _).mono ?_
        rintro _ _ ⟨rfl, rfl⟩
        simp only [d23, go_sem, Nat.reduceBEq, Nat.reduceAdd, Nat.reduceLeDiff]
        refine (iScalarText b _ _).mono ?_
        rintro _ _ ⟨rfl, rfl⟩
        simp only [go_sem, Nat.reduceBEq]
        refine Br.intro (fun hb23r => ?_) (fun hb23r => ?_)
        · have hb23 := of_decide_eq_true hb23r
          simp only [hb23r, go_sem, Nat.reduceBEq, Nat.reduceAdd, Nat.reduceLeDiff]
          refine (iToText a hna _ _ ra hT).mono ?_
          rintro _ h1 ⟨rfl, e1⟩
          simp only [go_sem, Nat.reduceBEq, Nat.reduceAdd, Nat.reduceLeDiff]
          refine (iToText b hnb _ _ (rb.mono e1) (hT.ext e1)).mono ?_
          rintro _ h2 ⟨rfl, e2⟩
          simp only [go_sem, Nat.reduceBEq]
          refine (str_cmp _ _ _).mono ?_
          rintro _ _ ⟨rfl, rfl⟩
          simp only [go_sem, Nat.reduceBEq]
          exact fin (by unfold cmp0; rw [if_neg (by omega)]; rw [if_neg (by omega)]; rw [if_neg (by omega)]; rw [if_neg (by omega)]; rw [if_pos (by omega)]) (e1.trans e2)
        · have hb23 := of_decide_eq_false hb23r
          simp only [d4, hb23r, go_sem, Nat.reduceBEq]
          refine Br.intro (fun hb4r => ?_) (fun hb4r => ?_)
          · have hb4 := of_decide_eq_true hb4r
            simp only [hb4r, go_sem, Nat.reduceBEq]
            exact fin (by unfold cmp0; rw [if_neg (by omega)]; rw [if_neg (by omega)]; rw [if_neg (by omega)]; rw [if_neg (by omega)]; rw [if_neg (by omega)]; rw [if_neg (by omega)]; rw [if_neg (by omega)]; rw [if_pos (by omega)]) (Ext.refl _)
          · have hb4 := of_decide_eq_false hb4r
            simp only [hb4r, go_sem, Nat.reduceBEq]
            refine Br.intro (fun hkr => ?_) (fun hkr => ?_)
            · have hk := of_decide_eq_true hkr
              simp only [hkr, go_sem, Nat.reduceBEq]
              refine Br.intro (fun hnr => ?_) (fun hnr => ?_)
              · have hn := of_decide_eq_true hnr
                simp only [hnr, go_sem, Nat.reduceBEq]
                exact fin (by unfold cmp0; rw [if_neg (by omega)]; rw [if_neg (by omega)]; rw [if_neg (by omega)]; rw [if_neg (by omega)]; rw [if_neg (by omega)]; rw [if_neg (by omega)]; rw [if_neg (by omega)]; rw [if_neg (by omega)]; rw [if_pos (by omega)]) (Ext.refl _)
              · have hn := of_decide_eq_false hnr
                simp only [hnr, go_sem, Nat.reduceBEq]
                exact fin (by unfold cmp0; rw [if_neg (by omega)]; rw [if_neg (by omega)]; rw [if_neg (by omega)]; rw [if_neg (by omega)]; rw [if_neg (by omega)]; rw [if_neg (by omega)]; rw [if_neg (by omega)]; rw [if_neg (by omega)]; rw [if_neg (by omega)]) (Ext.refl _)
            · have hk := of_decide_eq_false hkr
              simp only [hkr, go_sem, Nat.reduceBEq]
              exact fin (by unfold cmp0; rw [if_neg (by omega)]; rw [if_neg (by omega)]; rw [if_neg (by omega)]; rw [if_neg (by omega)]; rw [if_neg (by omega)]; rw [if_neg (by omega)]; rw [if_neg (by omega)]; rw [if_neg (by omega)]; rw [if_neg (by omega)]) (Ext.refl _)
theorem iCompare_4 (a b : V) (hsa : a.str.size ≤ 1152921504606846976) (hsb : b.str.size ≤ 1152921504606846976) (hna : IntKind.i64.min ≤ a.num ∧ a.num ≤ IntKind.i64.max) (hnb : IntKind.i64.min ≤ b.num ∧ b.num ≤ IntKind.i64.max) (sa sb : Value) (h : Hp) (ra : RdE h a.items sa) (rb : RdE h b.items sb) (hT : Pow h) (ar : Int) (harr : ACalls Tryd.prog 43 #[.agg #[.int .i64 a.kind, .int .i64 a.num, .string a.str, .int .i64 a.next, sa], .agg #[.int .i64 b.kind, .int .i64 b.num, .string b.str, .int .i64 b.next, sb]] h (Is (.int .i64 ar) h)) (ha : a.kind = 4) :
    ACalls Tryd.prog 9 #[.agg #[.int .i64 a.kind, .int .i64 a.num, .string a.str, .int .i64 a.next, sa], .agg #[.int .i64 b.kind, .int .i64 b.num, .string b.str, .int .i64 b.next, sb]] h (Is (.int .i64 (cmp0 a b ar)) h) := by
  have d0 : decide (a.kind = 0) = false := decide_eq_false (by omega)
  have d1 : decide (a.kind = 1) = false := decide_eq_false (by omega)
  have d2 : decide (a.kind = 2) = false := decide_eq_false (by omega)
  have d3 : decide (a.kind = 3) = false := decide_eq_false (by omega)
  have d4 : decide (a.kind = 4) = true := decide_eq_true (by omega)
  have d01 : decide (0 ≤ a.kind ∧ a.kind ≤ 1) = false := decide_eq_false (by omega)
  have d23 : decide (2 ≤ a.kind ∧ a.kind ≤ 3) = false := decide_eq_false (by omega)
  have fin : ∀ {x : Int} {h' : Hp}, cmp0 a b ar = x → Ext h h' → Is (.int .i64 (cmp0 a b ar)) h (.int .i64 x) h' := fun e k => ⟨by rw [e], k⟩
  (refine enter Tryd.func9 rfl rfl (by kernel_rfl) [] ?_; simp only [go_sem, Nat.reduceBEq])
  simp only [d0, d1, d3, go_sem, Nat.reduceBEq]
  refine Br.intro (fun hb0r => ?_) (fun hb0r => ?_)
  · have hb0 := of_decide_eq_true hb0r
    simp only [hb0r, go_sem, Nat.reduceBEq]
    refine regionD_intro (lb := [56, 59]) (by kernel_rfl) ?_
    simp only [go_sem, Nat.reduceBEq, Nat.reduceAdd, Nat.reduceLeDiff]
    refine (iToBool a _ _ ra).mono ?_
    rintro _ _ ⟨rfl, rfl⟩
    simp only [go_sem, Nat.reduceBEq]
    refine (iBoolNum _ _).mono ?_
    rintro _ _ ⟨rfl, rfl⟩
    simp only [go_sem, Nat.reduceBEq, Nat.reduceAdd, Nat.reduceLeDiff]
    refine (iToBool b _ _ rb).mono ?_
    rintro _ _ ⟨rfl, rfl⟩
    simp only [go_sem, Nat.reduceBEq]
    refine (iBoolNum _ _).mono ?_
    rintro _ _ ⟨rfl, rfl⟩
    simp only [go_sem, Nat.reduceBEq]
    refine (iOrder _ _ _).mono ?_
    rintro _ _ ⟨rfl, rfl⟩
    simp only [go_sem, Nat.reduceBEq]
    exact fin (by unfold cmp0; rw [if_neg (by omega)]; rw [if_neg (by omega)]; rw [if_pos (by omega)]) (Ext.refl _)
  · have hb0 := of_decide_eq_false hb0r
    simp only [hb0r, go_sem, Nat.reduceBEq]
    refine Br.intro (fun hb1r => ?_) (fun hb1r => ?_)
    · have hb1 := of_decide_eq_true hb1r
      simp only [hb1r, go_sem]
      refine regionD_intro (lb := [56, 59]) (by kernel_rfl) ?_
      simp only [go_sem, Nat.reduceBEq, Nat.reduceAdd, Nat.reduceLeDiff]
      refine (iToBool a _ _ ra).mono ?_
      rintro _ _ ⟨rfl, rfl⟩
      simp only [go_sem, Nat.reduceBEq]
      refine (iBoolNum _ _).mono ?_
      rintro _ _ ⟨rfl, rfl⟩
      simp only [go_sem, Nat.reduceBEq, Nat.reduceAdd, Nat.reduceLeDiff]
      refine (iToBool b _ _ rb).mono ?_
      rintro _ _ ⟨rfl, rfl⟩
      simp only [go_sem, Nat.reduceBEq]
      refine (iBoolNum _ _).mono ?_
      rintro _ _ ⟨rfl, rfl⟩
      simp only [go_sem, Nat.reduceBEq]
      refine (iOrder _ _ _).mono ?_
      rintro _ _ ⟨rfl, rfl⟩
      simp only [go_sem, Nat.reduceBEq]
      exact fin (by unfold cmp0; rw [if_neg (by omega)]; rw [if_neg (by omega)]; rw [if_pos (by omega)]) (Ext.refl _)
    · have hb1 := of_decide_eq_false hb1r
      simp only [hb1r, go_sem, Nat.reduceBEq, Nat.reduceAdd, Nat.reduceLeDiff]
      refine (iToNumber a hsa _ _ ra).mono ?_
      rintro _ _ ⟨rfl, rfl⟩
      simp only [go_sem, Nat.reduceBEq, Nat.reduceAdd, Nat.reduceLeDiff]
      refine (iToNumber b hsb _ _ rb).mono ?_
      rintro _ _ ⟨rfl, rfl⟩
      simp only [go_sem, Nat.reduceBEq]
      refine Br.intro (fun hxr => ?_) (fun hxr => ?_)
      · have hx := of_decide_eq_true hxr
        simp only [hxr, go_sem, Nat.reduceBEq]
        refine Br.intro (fun hyr => ?_) (fun hyr => ?_)
        · have hy := of_decide_eq_true hyr
          simp only [hyr, go_sem, Nat.reduceBEq]
          refine (iOrder _ _ _).mono ?_
          rintro _ _ ⟨rfl, rfl⟩
          simp only [go_sem, Nat.reduceBEq]
          exact fin (by unfold cmp0; rw [if_neg (by omega)]; rw [if_neg (by omega)]; rw [if_neg (by omega)]; rw [if_pos (by omega)]) (Ext.refl _)
        · have hy := of_decide_eq_false hyr
          simp only [hyr, go_sem, Nat.reduceBEq, Nat.reduceAdd, Nat.reduceLeDiff]
          refine (iScalarText a _ _).mono ?_
          rintro _ _ ⟨rfl, rfl⟩
          simp only [d4, d23, go_sem, Nat.reduceBEq]
          refine Br.intro (fun hb4r => ?_) (fun hb4r => ?_)
          · have hb4 := of_decide_eq_true hb4r
            simp only [hb4r, go_sem, Nat.reduceBEq, Nat.reduceAdd, Nat.reduceLeDiff]
            refine harr.mono ?_
            rintro _ h1 ⟨rfl, e1⟩
            simp only [go_sem, Nat.reduceBEq]
            exact fin (by unfold cmp0; rw [if_neg (by omega)]; rw [if_neg (by omega)]; rw [if_neg (by omega)]; rw [if_neg (by omega)]; rw [if_neg (by omega)]; rw [if_pos (by omega)]) e1
          · have hb4 := of_decide_eq_false hb4r
            simp only [d4, hb4r, go_sem, Nat.reduceBEq]
            exact fin (by unfold cmp0; rw [if_neg (by omega)]; rw [if_neg (by omega)]; rw [if_neg (by omega)]; rw [if_neg (by omega)]; rw [if_neg (by omega)]; rw [if_neg (by omega)]; rw [if_pos (by omega)]) (Ext.refl _)
      · have hx := of_decide_eq_false hxr
        simp only [hxr, go_sem, Nat.reduceBEq, Nat.reduceAdd, Nat.reduceLeDiff]
        refine (iScalarText a _ _).mono ?_
        rintro _ _ ⟨rfl, rfl⟩
        simp only [d4, d23, go_sem, Nat.reduceBEq]
        refine Br.intro (fun hb4r => ?_) (fun hb4r => ?_)
        · have hb4 := of_decide_eq_true hb4r
          simp only [hb4r, go_sem, Nat.reduceBEq, Nat.reduceAdd, Nat.reduceLeDiff]
          refine harr.mono ?_
          rintro _ h1 ⟨rfl, e1⟩
          simp only [go_sem, Nat.reduceBEq]
          exact fin (by unfold cmp0; rw [if_neg (by omega)]; rw [if_neg (by omega)]; rw [if_neg (by omega)]; rw [if_neg (by omega)]; rw [if_neg (by omega)]; rw [if_pos (by omega)]) e1
        · have hb4 := of_decide_eq_false hb4r
          simp only [d4, hb4r, go_sem, Nat.reduceBEq]
          exact fin (by unfold cmp0; rw [if_neg (by omega)]; rw [if_neg (by omega)]; rw [if_neg (by omega)]; rw [if_neg (by omega)]; rw [if_neg (by omega)]; rw [if_neg (by omega)]; rw [if_pos (by omega)]) (Ext.refl _)
theorem iCompare_o (a b : V) (hsa : a.str.size ≤ 1152921504606846976) (hsb : b.str.size ≤ 1152921504606846976) (hna : IntKind.i64.min ≤ a.num ∧ a.num ≤ IntKind.i64.max) (hnb : IntKind.i64.min ≤ b.num ∧ b.num ≤ IntKind.i64.max) (sa sb : Value) (h : Hp) (ra : RdE h a.items sa) (rb : RdE h b.items sb) (hT : Pow h) (ar : Int) (harr : ACalls Tryd.prog 43 #[.agg #[.int .i64 a.kind, .int .i64 a.num, .string a.str, .int .i64 a.next, sa], .agg #[.int .i64 b.kind, .int .i64 b.num, .string b.str, .int .i64 b.next, sb]] h (Is (.int .i64 ar) h)) (ha : ¬ a.kind = 0 ∧ ¬ a.kind = 1 ∧ ¬ a.kind = 2 ∧ ¬ a.kind = 3 ∧ ¬ a.kind = 4) :
    ACalls Tryd.prog 9 #[.agg #[.int .i64 a.kind, .int .i64 a.num, .string a.str, .int .i64 a.next, sa], .agg #[.int .i64 b.kind, .int .i64 b.num, .string b.str, .int .i64 b.next, sb]] h (Is (.int .i64 (cmp0 a b ar)) h) := by
  have d0 : decide (a.kind = 0) = false := decide_eq_false (by omega)
  have d1 : decide (a.kind = 1) = false := decide_eq_false (by omega)
  have d2 : decide (a.kind = 2) = false := decide_eq_false (by omega)
  have d3 : decide (a.kind = 3) = false := decide_eq_false (by omega)
  have d4 : decide (a.kind = 4) = false := decide_eq_false (by omega)
  have d01 : decide (0 ≤ a.kind ∧ a.kind ≤ 1) = false := decide_eq_false (by omega)
  have d23 : decide (2 ≤ a.kind ∧ a.kind ≤ 3) = false := decide_eq_false (by omega)
  have fin : ∀ {x : Int} {h' : Hp}, cmp0 a b ar = x → Ext h h' → Is (.int .i64 (cmp0 a b ar)) h (.int .i64 x) h' := fun e k => ⟨by rw [e], k⟩
  (refine enter Tryd.func9 rfl rfl (by kernel_rfl) [] ?_; simp only [go_sem, Nat.reduceBEq])
  simp only [d0, d1, d3, go_sem, Nat.reduceBEq]
  refine Br.intro (fun hb0r => ?_) (fun hb0r => ?_)
  · have hb0 := of_decide_eq_true hb0r
    simp only [hb0r, go_sem, Nat.reduceBEq]
    refine regionD_intro (lb := [56, 59]) (by kernel_rfl) ?_
    simp only [go_sem, Nat.reduceBEq, Nat.reduceAdd, Nat.reduceLeDiff]
    refine (iToBool a _ _ ra).mono ?_
    rintro _ _ ⟨rfl, rfl⟩
    simp only [go_sem, Nat.reduceBEq]
    refine (iBoolNum _ _).mono ?_
    rintro _ _ ⟨rfl, rfl⟩
    simp only [go_sem, Nat.reduceBEq, Nat.reduceAdd, Nat.reduceLeDiff]
    refine (iToBool b _ _ rb).mono ?_
    rintro _ _ ⟨rfl, rfl⟩
    simp only [go_sem, Nat.reduceBEq]
    refine (iBoolNum _ _).mono ?_
    rintro _ _ ⟨rfl, rfl⟩
    simp only [go_sem, Nat.reduceBEq]
    refine (iOrder _ _ _).mono ?_
    rintro _ _ ⟨rfl, rfl⟩
    simp only [go_sem, Nat.reduceBEq]
    exact fin (by unfold cmp0; rw [if_neg (by omega)]; rw [if_neg (by omega)]; rw [if_pos (by omega)]) (Ext.refl _)
  · have hb0 := of_decide_eq_false hb0r
    simp only [hb0r, go_sem, Nat.reduceBEq]
    refine Br.intro (fun hb1r => ?_) (fun hb1r => ?_)
    · have hb1 := of_decide_eq_true hb1r
      simp only [hb1r, go_sem]
      refine regionD_intro (lb := [56, 59]) (by kernel_rfl) ?_
      simp only [go_sem, Nat.reduceBEq, Nat.reduceAdd, Nat.reduceLeDiff]
      refine (iToBool a _ _ ra).mono ?_
      rintro _ _ ⟨rfl, rfl⟩
      simp only [go_sem, Nat.reduceBEq]
      refine (iBoolNum _ _).mono ?_
      rintro _ _ ⟨rfl, rfl⟩
      simp only [go_sem, Nat.reduceBEq, Nat.reduceAdd, Nat.reduceLeDiff]
      refine (iToBool b _ _ rb).mono ?_
      rintro _ _ ⟨rfl, rfl⟩
      simp only [go_sem, Nat.reduceBEq]
      refine (iBoolNum _ _).mono ?_
      rintro _ _ ⟨rfl, rfl⟩
      simp only [go_sem, Nat.reduceBEq]
      refine (iOrder _ _ _).mono ?_
      rintro _ _ ⟨rfl, rfl⟩
      simp only [go_sem, Nat.reduceBEq]
      exact fin (by unfold cmp0; rw [if_neg (by omega)]; rw [if_neg (by omega)]; rw [if_pos (by omega)]) (Ext.refl _)
    · have hb1 := of_decide_eq_false hb1r
      simp only [hb1r, go_sem, Nat.reduceBEq, Nat.reduceAdd, Nat.reduceLeDiff]
      refine (iToNumber a hsa _ _ ra).mono ?_
      rintro _ _ ⟨rfl, rfl⟩
      simp only [go_sem, Nat.reduceBEq, Nat.reduceAdd, Nat.reduceLeDiff]
      refine (iToNumber b hsb _ _ rb).mono ?_
      rintro _ _ ⟨rfl, rfl⟩
      simp only [go_sem, Nat.reduceBEq]
      refine Br.intro (fun hxr => ?_) (fun hxr => ?_)
      · have hx := of_decide_eq_true hxr
        simp only [hxr, go_sem, Nat.reduceBEq]
        refine Br.intro (fun hyr => ?_) (fun hyr => ?_)
        · have hy := of_decide_eq_true hyr
          simp only [hyr, go_sem, Nat.reduceBEq]
          refine (iOrder _ _ _).mono ?_
          rintro _ _ ⟨rfl, rfl⟩
          simp only [go_sem, Nat.reduceBEq]
          exact fin (by unfold cmp0; rw [if_neg (by omega)]; rw [if_neg (by omega)]; rw [if_neg (by omega)]; rw [if_pos (by omega)]) (Ext.refl _)
        · have hy := of_decide_eq_false hyr
          simp only [hyr, go_sem, Nat.reduceBEq, Nat.reduceAdd, Nat.reduceLeDiff]
          refine (iScalarText a _ _).mono ?_
          rintro _ _ ⟨rfl, rfl⟩
          simp only [d4, d23, go_sem, Nat.reduceBEq]
          refine Br.intro (fun hb4r => ?_) (fun hb4r => ?_)
          · have hb4 := of_decide_eq_true hb4r
            simp only [hb4r, go_sem, Nat.reduceBEq]
            exact fin (by unfold cmp0; rw [if_neg (by omega)]; rw [if_neg (by omega)]; rw [if_neg (by omega)]; rw [if_neg (by omega)]; rw [if_neg (by omega)]; rw [if_neg (by omega)]; rw [if_neg (by omega)]; rw [if_pos (by omega)]) (Ext.refl _)
          · have hb4 := of_decide_eq_false hb4r
            simp only [hb4r, go_sem, Nat.reduceBEq]
            refine Br.intro (fun hkr => ?_) (fun hkr => ?_)
            · have hk := of_decide_eq_true hkr
              simp only [hkr, go_sem, Nat.reduceBEq]
              refine Br.intro (fun hnr => ?_) (fun hnr => ?_)
              · have hn := of_decide_eq_true hnr
                simp only [hnr, go_sem, Nat.reduceBEq]
                exact fin (by unfold cmp0; rw [if_neg (by omega)]; rw [if_neg (by omega)]; rw [if_neg (by omega)]; rw [if_neg (by omega)]; rw [if_neg (by omega)]; rw [if_neg (by omega)]; rw [if_neg (by omega)]; rw [if_neg (by omega)]; rw [if_pos (by omega)]) (Ext.refl _)
              · have hn := of_decide_eq_false hnr
                simp only [hnr, go_sem, Nat.reduceBEq]
                exact fin (by unfold cmp0; rw [if_neg (by omega)]; rw [if_neg (by omega)]; rw [if_neg (by omega)]; rw [if_neg (by omega)]; rw [if_neg (by omega)]; rw [if_neg (by omega)]; rw [if_neg (by omega)]; rw [if_neg (by omega)]; rw [if_neg (by omega)]) (Ext.refl _)
            · have hk := of_decide_eq_false hkr
              simp only [hkr, go_sem, Nat.reduceBEq]
              exact fin (by unfold cmp0; rw [if_neg (by omega)]; rw [if_neg (by omega)]; rw [if_neg (by omega)]; rw [if_neg (by omega)]; rw [if_neg (by omega)]; rw [if_neg (by omega)]; rw [if_neg (by omega)]; rw [if_neg (by omega)]; rw [if_neg (by omega)]) (Ext.refl _)
      · have hx := of_decide_eq_false hxr
        simp only [hxr, go_sem, Nat.reduceBEq, Nat.reduceAdd, Nat.reduceLeDiff]
        refine (iScalarText a _ _).mono ?_
        rintro _ _ ⟨rfl, rfl⟩
        simp only [d4, d23, go_sem, Nat.reduceBEq]
        refine Br.intro (fun hb4r => ?_) (fun hb4r => ?_)
        · have hb4 := of_decide_eq_true hb4r
          simp only [hb4r, go_sem, Nat.reduceBEq]
          exact fin (by unfold cmp0; rw [if_neg (by omega)]; rw [if_neg (by omega)]; rw [if_neg (by omega)]; rw [if_neg (by omega)]; rw [if_neg (by omega)]; rw [if_neg (by omega)]; rw [if_neg (by omega)]; rw [if_pos (by omega)]) (Ext.refl _)
        · have hb4 := of_decide_eq_false hb4r
          simp only [hb4r, go_sem, Nat.reduceBEq]
          refine Br.intro (fun hkr => ?_) (fun hkr => ?_)
          · have hk := of_decide_eq_true hkr
            simp only [hkr, go_sem, Nat.reduceBEq]
            refine Br.intro (fun hnr => ?_) (fun hnr => ?_)
            · have hn := of_decide_eq_true hnr
              simp only [hnr, go_sem, Nat.reduceBEq]
              exact fin (by unfold cmp0; rw [if_neg (by omega)]; rw [if_neg (by omega)]; rw [if_neg (by omega)]; rw [if_neg (by omega)]; rw [if_neg (by omega)]; rw [if_neg (by omega)]; rw [if_neg (by omega)]; rw [if_neg (by omega)]; rw [if_pos (by omega)]) (Ext.refl _)
            · have hn := of_decide_eq_false hnr
              simp only [hnr, go_sem, Nat.reduceBEq]
              exact fin (by unfold cmp0; rw [if_neg (by omega)]; rw [if_neg (by omega)]; rw [if_neg (by omega)]; rw [if_neg (by omega)]; rw [if_neg (by omega)]; rw [if_neg (by omega)]; rw [if_neg (by omega)]; rw [if_neg (by omega)]; rw [if_neg (by omega)]) (Ext.refl _)
          · have hk := of_decide_eq_false hkr
            simp only [hkr, go_sem, Nat.reduceBEq]
            exact fin (by unfold cmp0; rw [if_neg (by omega)]; rw [if_neg (by omega)]; rw [if_neg (by omega)]; rw [if_neg (by omega)]; rw [if_neg (by omega)]; rw [if_neg (by omega)]; rw [if_neg (by omega)]; rw [if_neg (by omega)]; rw [if_neg (by omega)]) (Ext.refl _)
theorem iCompare : ∀ a, CmpI a := V.ind fun a ih b oka okb hba hbb sa sb h ra rb hT => by
  have hsa : a.str.size ≤ 1152921504606846976 := by have := V.bulk_eq a; omega
  have hsb : b.str.size ≤ 1152921504606846976 := by have := V.bulk_eq b; omega
  have harr := iArrays a ih b oka okb hba hbb sa sb h ra rb hT
  rw [V.cmp_eq]
  rcases k6 a.kind with ha | ha | ha | ha | ha | ha
  · exact iCompare_0 a b hsa hsb (V.ok_num oka) (V.ok_num okb) sa sb h ra rb hT _ harr ha
  · exact iCompare_1 a b hsa hsb (V.ok_num oka) (V.ok_num okb) sa sb h ra rb hT _ harr ha
  · exact iCompare_2 a b hsa hsb (V.ok_num oka) (V.ok_num okb) sa sb h ra rb hT _ harr ha
  · exact iCompare_3 a b hsa hsb (V.ok_num oka) (V.ok_num okb) sa sb h ra rb hT _ harr ha
  · exact iCompare_4 a b hsa hsb (V.ok_num oka) (V.ok_num okb) sa sb h ra rb hT _ harr ha
  · exact iCompare_o a b hsa hsb (V.ok_num oka) (V.ok_num okb) sa sb h ra rb hT _ harr ha
def CmpS (a : V) : Prop := ∀ (b : V) (_ : a.ok) (_ : b.ok) (_ : a.bulk ≤ 1099511627776) (_ : b.bulk ≤ 1099511627776) (sa sb : Value) (h : Hp) (_ : RdE h a.items sa) (_ : RdE h b.items sb) (_ : Pow h),
    ACalls Tryd.prog 65 #[.agg #[.int .i64 a.kind, .int .i64 a.num, .string a.str, .int .i64 a.next, sa], .agg #[.int .i64 b.kind, .int .i64 b.num, .string b.str, .int .i64 b.next, sb]] h (Is (.int .i64 (V.cmp a b)) h)
theorem sArrays (a : V) (ih : ∀ e ∈ a.items, CmpS e.2) (b : V) (oka : a.ok) (okb : b.ok) (ha : a.bulk ≤ 1099511627776) (hb : b.bulk ≤ 1099511627776) (sa sb : Value) (h : Hp) (ra : RdE h a.items sa) (rb : RdE h b.items sb) (hT : Pow h) :
    ACalls Tryd.prog 99 #[.agg #[.int .i64 a.kind, .int .i64 a.num, .string a.str, .int .i64 a.next, sa], .agg #[.int .i64 b.kind, .int .i64 b.num, .string b.str, .int .i64 b.next, sb]] h (Is (.int .i64 (arrCmp a b)) h) := by
  have hla := V.bulks_len a.items
  have hlb := V.bulks_len b.items
  have hba := V.bulk_eq a
  have hbb := V.bulk_eq b
  obtain ⟨aa, ca, xa, rfl, hca, hra, hata⟩ := ra.rows (by decide) a.items.length (fm_len edt_len _)
  obtain ⟨ab, cb, xb, rfl, hcb, hrb, hatb⟩ := rb.rows (by decide) b.items.length (fm_len edt_len _)
  (refine enter Tryd.func99 rfl rfl (by kernel_rfl) [] ?_; simp only [go_sem, Nat.reduceBEq])
  refine Br.intro (fun hl => ?_) (fun hl => ?_) <;> (try simp only [hl, go_sem, Nat.reduceBEq])
  · have hl : ¬ a.items.length = b.items.length := by simp at hl; omega
    (refine (sOrder _ _ _).mono ?_; rintro _ _ ⟨rfl, rfl⟩; simp only [go_sem, Nat.reduceBEq])
    exact ⟨by unfold arrCmp; rw [if_neg hl], Ext.refl _⟩
  have hl : a.items.length = b.items.length := by simp at hl; omega
  have e0 : arrCmp a b = cmpEs a.items b := by unfold arrCmp; rw [if_pos hl]
  rw [e0]
  refine aloop (ι := Nat) (fun i => [(5, .val (.int .i64 (i : Nat))), (3, .box 3 0), (2, .box 2 0)]) (fun _ => [(3, [.int .i64 b.kind, .int .i64 b.num, .string b.str, .int .i64 b.next, .slice ab b.items.length cb]), (2, [.int .i64 a.kind, .int .i64 a.num, .string a.str, .int .i64 a.next, .slice aa a.items.length ca])])
    (fun i h' => i ≤ a.items.length ∧ Ext h h' ∧ cmpEs (a.items.drop i) b = cmpEs a.items b) (fun i => a.items.length - i) 0 ⟨Nat.zero_le _, Ext.refl _, rfl⟩ (by repeat (first | exact wkF_e | refine wkF_c rfl ?_)) (wkB_c rfl (wkB_c rfl wkB_e)) rfl ?_
  rintro i h1 ⟨hi, e1, hq⟩
  have hi : i ≤ a.items.length := hi
  have ra1 := ra.mono e1
  have rb1 := rb.mono e1
  simp only [go_sem, Nat.reduceBEq]
  refine Br.intro (fun hlt => ?_) (fun hlt => ?_) <;> (try simp only [hlt, go_sem, Nat.reduceBEq])
  · have hlt : i < a.items.length := by simpa using hlt
    obtain ⟨b1, off1, rfl, hata'⟩ := hata (by omega)
    obtain ⟨e, he, hm⟩ := get_lt hlt
    have wsu := wrap_succ (i := i) (by omega)
    have hbe := bulk_mem2 hm
    rw [drop_cons he, cmpEs_cons] at hq
    refine regionD_intro (lb := [31, 33]) (by kernel_rfl) ?_
    simp only [ix_nat hlt, go_sem, Nat.reduceBEq, Nat.reduceAdd, Nat.reduceLeDiff]
    refine hsem_ekey tyS40 (hata'.mono e1) (hra.mono e1) he rfl ?_
    simp only [go_sem, Nat.reduceBEq]
    refine (sGet b e.1 (by omega) _ _ rb1).mono ?_
    rintro _ _ ⟨rfl, s3, rfl, rd3⟩
    obtain ⟨a3, c3, _, rfl, _⟩ := rd3.rows (by decide) _ (fm_len edt_len _)
    simp only [go_sem, Nat.reduceBEq, Nat.reduceAdd, Nat.reduceLeDiff]
    cases hg : b.get e.1 with
    | none =>
      rw [hg] at hq
      simp only [Option.isSome_none, Bool.not_false, go_sem, Nat.reduceBEq]
      exact ⟨by rw [← hq], e1⟩
    | some y =>
      rw [hg] at hq rd3
      simp only [Option.isSome_some, Option.getD_some, Bool.not_true, go_sem] at rd3 ⊢
      obtain ⟨oky, hby⟩ := get_ok okb hg
      refine regionD_intro (lb := [44, 49]) (by kernel_rfl) ?_
      simp only [ix_nat hlt, go_sem, Nat.reduceBEq, Nat.reduceAdd]
      refine hsem_eval tyS26 (hata'.mono e1) (hra.mono e1) he rfl fun s2 rd2 => ?_
      obtain ⟨a2, c2, _, rfl, _⟩ := rd2.rows (by decide) e.2.items.length (fm_len edt_len _)
      simp only [go_sem, Nat.reduceBEq, Nat.reduceAdd, Nat.reduceLeDiff]
      refine (ih e hm y (V.oks_mem (V.ok_items oka) hm).2 oky (by omega) (by omega) _ _ _ rd2 rd3 (hT.ext e1)).mono ?_
      rintro _ h2 ⟨rfl, e2⟩
      simp only [go_sem, Nat.reduceBEq]
      refine Br.intro (fun hz => ?_) (fun hz => ?_) <;> (try simp only [hz, go_sem, Nat.reduceBEq])
      · have hz : ¬ V.cmp e.2 y = 0 := by simpa using hz
        simp only [hz, if_false] at hq
        exact ⟨by rw [← hq], e1.trans e2⟩
      · have hz : V.cmp e.2 y = 0 := by simpa using hz
        simp only [hz, if_true] at hq
        try simp only [wsu, go_sem]
        try rw [wsu]
        exact Again.intro (i + 1) (by first | omega | (simp only; omega)) ⟨hlt, e1.trans e2, hq⟩ (by repeat (first | exact wkF_e | refine wkF_c rfl ?_)) (wkB_c rfl (wkB_c rfl wkB_e)) rfl
  · have hlt : i = a.items.length := by simp at hlt; omega
    rw [List.drop_eq_nil_of_le (by omega), cmpEs_nil] at hq
    exact ⟨by rw [← hq], e1⟩
theorem sCompare_0 (a b : V) (hsa : a.str.size ≤ 1152921504606846976) (hsb : b.str.size ≤ 1152921504606846976) (hna : IntKind.i64.min ≤ a.num ∧ a.num ≤ IntKind.i64.max) (hnb : IntKind.i64.min ≤ b.num ∧ b.num ≤ IntKind.i64.max) (sa sb : Value) (h : Hp) (ra : RdE h a.items sa) (rb : RdE h b.items sb) (hT : Pow h) (ar : Int) (harr : ACalls Tryd.prog 99 #[.agg #[.int .i64 a.kind, .int .i64 a.num, .string a.str, .int .i64 a.next, sa], .agg #[.int .i64 b.kind, .int .i64 b.num, .string b.str, .int .i64 b.next, sb]] h (Is (.int .i64 ar) h)) (ha : a.kind = 0) :
    ACalls Tryd.prog 65 #[.agg #[.int .i64 a.kind, .int .i64 a.num, .string a.str, .int .i64 a.next, sa], .agg #[.int .i64 b.kind, .int .i64 b.num, .string b.str, .int .i64 b.next, sb]] h (Is (.int .i64 (cmp0 a b ar)) h) := by
  have d0 : decide (a.kind = 0) = true := decide_eq_true (by omega)
  have d1 : decide (a.kind = 1) = false := decide_eq_false (by omega)
  have d2 : decide (a.kind = 2) = false := decide_eq_false (by omega)
  have d3 : decide (a.kind = 3) = false := decide_eq_false (by omega)
  have d4 : decide (a.kind = 4) = false := decide_eq_false (by omega)
  have d01 : decide (0 ≤ a.kind ∧ a.kind ≤ 1) = true := decide_eq_true (by omega)
  have d23 : decide (2 ≤ a.kind ∧ a.kind ≤ 3) = false := decide_eq_false (by omega)
  have fin : ∀ {x : Int} {h' : Hp}, cmp0 a b ar = x → Ext h h' → Is (.int .i64 (cmp0 a b ar)) h (.int .i64 x) h' := fun e k => ⟨by rw [e], k⟩
  (refine enter Tryd.func65 rfl rfl (by kernel_rfl) [] ?_; simp only [go_sem, Nat.reduceBEq, Nat.reduceAdd, Nat.reduceLeDiff])
  refine (sToNumber a hsa _ _ ra).mono ?_
  rintro _ _ ⟨rfl, rfl⟩
  simp only [go_sem, Nat.reduceBEq, Nat.reduceAdd, Nat.reduceLeDiff]
  refine (sToNumber b hsb _ _ rb).mono ?_
  rintro _ _ ⟨rfl, rfl⟩
  simp only [go_sem, Nat.reduceBEq]
  simp only [d0, go_sem, Nat.reduceBEq]
  refine Br.intro (fun hb3r => ?_) (fun hb3r => ?_)
  · have hb3 := of_decide_eq_true hb3r
    simp only [hb3r, go_sem, Nat.reduceBEq]
    refine (sBytes _ _ _).mono ?_
    rintro _ _ ⟨rfl, rfl⟩
    simp only [go_sem, Nat.reduceBEq]
    exact fin (by unfold cmp0; rw [if_pos (by omega)]) (Ext.refl _)
  · have hb3 := of_decide_eq_false hb3r
    simp only [d3, hb3r, go_sem, Nat.reduceBEq]
    refine (l1In_c _ _ _ _).mono ?_
    rintro _ _ ⟨rfl, rfl⟩
    simp only [d01, go_sem, Nat.reduceBEq]
    refine regionD_intro (lb := [56, 58]) (by kernel_rfl) ?_
    simp only [go_sem, Nat.reduceBEq, Nat.reduceAdd, Nat.reduceLeDiff]
    refine (sBit a _ _ ra).mono ?_
    rintro _ _ ⟨rfl, rfl⟩
    simp only [go_sem, Nat.reduceBEq, Nat.reduceAdd, Nat.reduceLeDiff]
    refine (sBit b _ _ rb).mono ?_
    rintro _ _ ⟨rfl, rfl⟩
    simp only [go_sem, Nat.reduceBEq]
    refine (sOrder _ _ _).mono ?_
    rintro _ _ ⟨rfl, rfl⟩
    simp only [go_sem, Nat.reduceBEq]
    exact fin (by unfold cmp0; rw [if_neg (by omega)]; rw [if_neg (by omega)]; rw [if_pos (by omega)]) (Ext.refl _)
theorem sCompare_1 (a b : V) (hsa : a.str.size ≤ 1152921504606846976) (hsb : b.str.size ≤ 1152921504606846976) (hna : IntKind.i64.min ≤ a.num ∧ a.num ≤ IntKind.i64.max) (hnb : IntKind.i64.min ≤ b.num ∧ b.num ≤ IntKind.i64.max) (sa sb : Value) (h : Hp) (ra : RdE h a.items sa) (rb : RdE h b.items sb) (hT : Pow h) (ar : Int) (harr : ACalls Tryd.prog 99 #[.agg #[.int .i64 a.kind, .int .i64 a.num, .string a.str, .int .i64 a.next, sa], .agg #[.int .i64 b.kind, .int .i64 b.num, .string b.str, .int .i64 b.next, sb]] h (Is (.int .i64 ar) h)) (ha : a.kind = 1) :
    ACalls Tryd.prog 65 #[.agg #[.int .i64 a.kind, .int .i64 a.num, .string a.str, .int .i64 a.next, sa], .agg #[.int .i64 b.kind, .int .i64 b.num, .string b.str, .int .i64 b.next, sb]] h (Is (.int .i64 (cmp0 a b ar)) h) := by
  have d0 : decide (a.kind = 0) = false := decide_eq_false (by omega)
  have d1 : decide (a.kind = 1) = true := decide_eq_true (by omega)
  have d2 : decide (a.kind = 2) = false := decide_eq_false (by omega)
  have d3 : decide (a.kind = 3) = false := decide_eq_false (by omega)
  have d4 : decide (a.kind = 4) = false := decide_eq_false (by omega)
  have d01 : decide (0 ≤ a.kind ∧ a.kind ≤ 1) = true := decide_eq_true (by omega)
  have d23 : decide (2 ≤ a.kind ∧ a.kind ≤ 3) = false := decide_eq_false (by omega)
  have fin : ∀ {x : Int} {h' : Hp}, cmp0 a b ar = x → Ext h h' → Is (.int .i64 (cmp0 a b ar)) h (.int .i64 x) h' := fun e k => ⟨by rw [e], k⟩
  (refine enter Tryd.func65 rfl rfl (by kernel_rfl) [] ?_; simp only [go_sem, Nat.reduceBEq, Nat.reduceAdd, Nat.reduceLeDiff])
  refine (sToNumber a hsa _ _ ra).mono ?_
  rintro _ _ ⟨rfl, rfl⟩
  simp only [go_sem, Nat.reduceBEq, Nat.reduceAdd, Nat.reduceLeDiff]
  refine (sToNumber b hsb _ _ rb).mono ?_
  rintro _ _ ⟨rfl, rfl⟩
  simp only [go_sem, Nat.reduceBEq]
  simp only [d0, d3, go_sem, Nat.reduceBEq]
  refine (l1In_c _ _ _ _).mono ?_
  rintro _ _ ⟨rfl, rfl⟩
  simp only [d01, go_sem, Nat.reduceBEq]
  refine regionD_intro (lb := [56, 58]) (by kernel_rfl) ?_
  simp only [go_sem, Nat.reduceBEq, Nat.reduceAdd, Nat.reduceLeDiff]
  refine (sBit a _ _ ra).mono ?_
  rintro _ _ ⟨rfl, rfl⟩
  simp only [go_sem, Nat.reduceBEq, Nat.reduceAdd, Nat.reduceLeDiff]
  refine (sBit b _ _ rb).mono ?_
  rintro _ _ ⟨rfl, rfl⟩
  simp only [go_sem, Nat.reduceBEq]
  refine (sOrder _ _ _).mono ?_
  rintro _ _ ⟨rfl, rfl⟩
  simp only [go_sem, Nat.reduceBEq]
  exact fin (by unfold cmp0; rw [if_neg (by omega)]; rw [if_neg (by omega)]; rw [if_pos (by omega)]) (Ext.refl _)
theorem sCompare_2 (a b : V) (hsa : a.str.size ≤ 1152921504606846976) (hsb : b.str.size ≤ 1152921504606846976) (hna : IntKind.i64.min ≤ a.num ∧ a.num ≤ IntKind.i64.max) (hnb : IntKind.i64.min ≤ b.num ∧ b.num ≤ IntKind.i64.max) (sa sb : Value) (h : Hp) (ra : RdE h a.items sa) (rb : RdE h b.items sb) (hT : Pow h) (ar : Int) (harr : ACalls Tryd.prog 99 #[.agg #[.int .i64 a.kind, .int .i64 a.num, .string a.str, .int .i64 a.next, sa], .agg #[.int .i64 b.kind, .int .i64 b.num, .string b.str, .int .i64 b.next, sb]] h (Is (.int .i64 ar) h)) (ha : a.kind = 2) :
    ACalls Tryd.prog 65 #[.agg #[.int .i64 a.kind, .int .i64 a.num, .string a.str, .int .i64 a.next, sa], .agg #[.int .i64 b.kind, .int .i64 b.num, .string b.str, .int .i64 b.next, sb]] h (Is (.int .i64 (cmp0 a b ar)) h) := by
  have d0 : decide (a.kind = 0) = false := decide_eq_false (by omega)
  have d1 : decide (a.kind = 1) = false := decide_eq_false (by omega)
  have d2 : decide (a.kind = 2) = true := decide_eq_true (by omega)
  have d3 : decide (a.kind = 3) = false := decide_eq_false (by omega)
  have d4 : decide (a.kind = 4) = false := decide_eq_false (by omega)
  have d01 : decide (0 ≤ a.kind ∧ a.kind ≤ 1) = false := decide_eq_false (by omega)
  have d23 : decide (2 ≤ a.kind ∧ a.kind ≤ 3) = true := decide_eq_true (by omega)
  have fin : ∀ {x : Int} {h' : Hp}, cmp0 a b ar = x → Ext h h' → Is (.int .i64 (cmp0 a b ar)) h (.int .i64 x) h' := fun e k => ⟨by rw [e], k⟩
  (refine enter Tryd.func65 rfl rfl (by kernel_rfl) [] ?_; simp only [go_sem, Nat.reduceBEq, Nat.reduceAdd, Nat.reduceLeDiff])
  refine (sToNumber a hsa _ _ ra).mono ?_
  rintro _ _ ⟨rfl, rfl⟩
  simp only [go_sem, Nat.reduceBEq, Nat.reduceAdd, Nat.reduceLeDiff]
  refine (sToNumber b hsb _ _ rb).mono ?_
  rintro _ _ ⟨rfl, rfl⟩
  simp only [go_sem, Nat.reduceBEq]
  simp only [d0, d3, go_sem, Nat.reduceBEq]
  refine (l1In_c _ _ _ _).mono ?_
  rintro _ _ ⟨rfl, rfl⟩
  simp only [d01, go_sem, Nat.reduceBEq]
  refine (l1In_c _ _ _ _).mono ?_
  rintro _ _ ⟨rfl, rfl⟩
  simp only [go_sem, Nat.reduceBEq]
  refine Br.intro (fun hb01r => ?_) (fun hb01r => ?_)
  · have hb01 := of_decide_eq_true hb01r
    simp only [hb01r, go_sem]
    refine regionD_intro (lb := [56, 58]) (by kernel_rfl) ?_
    simp only [go_sem, Nat.reduceBEq, Nat.reduceAdd, Nat.reduceLeDiff]
    refine (sBit a _ _ ra).mono ?_
    rintro _ _ ⟨rfl, rfl⟩
    simp only [go_sem, Nat.reduceBEq, Nat.reduceAdd, Nat.reduceLeDiff]
    refine (sBit b _ _ rb).mono ?_
    rintro _ _ ⟨rfl, rfl⟩
    simp only [go_sem, Nat.reduceBEq]
    refine (sOrder _ _ _).mono ?_
    rintro _ _ ⟨rfl, rfl⟩
    simp only [go_sem, Nat.reduceBEq]
    exact fin (by unfold cmp0; rw [if_neg (by omega)]; rw [if_neg (by omega)]; rw [if_pos (by omega)]) (Ext.refl _)
  · have hb01 := of_decide_eq_false hb01r
    simp only [hb01r, go_sem, Nat.reduceBEq]
    refine Br.intro (fun hxr => ?_) (fun hxr => ?_)
    · have hx := of_decide_eq_true hxr
      simp only [hxr, go_sem, Nat.reduceBEq]
      refine Br.intro (fun hyr => ?_) (fun hyr => ?_)
      · have hy := of_decide_eq_true hyr
        simp only [hyr, go_sem, Nat.reduceBEq]
        refine (sOrder _ _ _).mono ?_
        rintro _ _ ⟨rfl, rfl⟩
        simp only [go_sem, Nat.reduceBEq]
        exact fin (by unfold cmp0; rw [if_neg (by omega)]; rw [if_neg (by omega)]; rw [if_neg (by omega)]; rw [if_pos (by omega)]) (Ext.refl _)
      · have hy := of_decide_eq_false hyr
        simp only [hyr, go_sem, Nat.reduceBEq]
        refine (l1In_c _ _ _ _).mono ?_
        rintro _ _ ⟨rfl, rfl⟩
        simp only [d23, go_sem, Nat.reduceBEq]
        refine (l1In_c _ _ _ _).mono ?_
        rintro _ _ ⟨rfl, rfl⟩
        simp only [go_sem, Nat.reduceBEq]
        refine Br.intro (fun hb23r => ?_) (fun hb23r => ?_)
        · have hb23 := of_decide_eq_true hb23r
          simp only [hb23r, go_sem, Nat.reduceBEq, Nat.reduceAdd, Nat.reduceLeDiff]
          refine (sToText a hna _ _ ra hT).mono ?_
          rintro _ h1 ⟨rfl, e1⟩
          simp only [go_sem, Nat.reduceBEq, Nat.reduceAdd, Nat.reduceLeDiff]
          refine (sToText b hnb _ _ (rb.mono e1) (hT.ext e1)).mono ?_
          rintro _ h2 ⟨rfl, e2⟩
          simp only [go_sem, Nat.reduceBEq]
          refine (sBytes _ _ _).mono ?_
          rintro _ _ ⟨rfl, rfl⟩
          simp only [go_sem, Nat.reduceBEq]
          exact fin (by unfold cmp0; rw [if_neg (by omega)]; rw [if_neg (by omega)]; rw [if_neg (by omega)]; rw [if_neg (by omega)]; rw [if_pos (by omega)]) (e1.trans e2)
        · have hb23 := of_decide_eq_false hb23r
          simp only [d4, hb23r, go_sem, Nat.reduceBEq]
          refine Br.intro (fun hb4r => ?_) (fun hb4r => ?_)
          · have hb4 := of_decide_eq_true hb4r
            simp only [hb4r, go_sem, Nat.reduceBEq]
            exact fin (by unfold cmp0; rw [if_neg (by omega)]; rw [if_neg (by omega)]; rw [if_neg (by omega)]; rw [if_neg (by omega)]; rw [if_neg (by omega)]; rw [if_neg (by omega)]; rw [if_neg (by omega)]; rw [if_pos (by omega)]) (Ext.refl _)
          · have hb4 := of_decide_eq_false hb4r
            simp only [hb4r, go_sem, Nat.reduceBEq]
            refine Br.intro (fun hkr => ?_) (fun hkr => ?_)
            · have hk := of_decide_eq_true hkr
              simp only [hkr, go_sem, Nat.reduceBEq]
              refine Br.intro (fun hnr => ?_) (fun hnr => ?_)
              · have hn := of_decide_eq_true hnr
                simp only [hnr, go_sem, Nat.reduceBEq]
                exact fin (by unfold cmp0; rw [if_neg (by omega)]; rw [if_neg (by omega)]; rw [if_neg (by omega)]; rw [if_neg (by omega)]; rw [if_neg (by omega)]; rw [if_neg (by omega)]; rw [if_neg (by omega)]; rw [if_neg (by omega)]; rw [if_pos (by omega)]) (Ext.refl _)
              · have hn := of_decide_eq_false hnr
                simp only [hnr, go_sem, Nat.reduceBEq]
                exact fin (by unfold cmp0; rw [if_neg (by omega)]; rw [if_neg (by omega)]; rw [if_neg (by omega)]; rw [if_neg (by omega)]; rw [if_neg (by omega)]; rw [if_neg (by omega)]; rw [if_neg (by omega)]; rw [if_neg (by omega)]; rw [if_neg (by omega)]) (Ext.refl _)
            · have hk := of_decide_eq_false hkr
              simp only [hkr, go_sem, Nat.reduceBEq]
              exact fin (by unfold cmp0; rw [if_neg (by omega)]; rw [if_neg (by omega)]; rw [if_neg (by omega)]; rw [if_neg (by omega)]; rw [if_neg (by omega)]; rw [if_neg (by omega)]; rw [if_neg (by omega)]; rw [if_neg (by omega)]; rw [if_neg (by omega)]) (Ext.refl _)
    · have hx := of_decide_eq_false hxr
      simp only [hxr, go_sem, Nat.reduceBEq]
      refine (l1In_c _ _ _ _).mono ?_
      rintro _ _ ⟨rfl, rfl⟩
      simp only [d23, go_sem, Nat.reduceBEq]
      refine (l1In_c _ _ _ _).mono ?_
      rintro _ _ ⟨rfl, rfl⟩
      simp only [go_sem, Nat.reduceBEq]
      refine Br.intro (fun hb23r => ?_) (fun hb23r => ?_)
      · have hb23 := of_decide_eq_true hb23r
        simp only [hb23r, go_sem, Nat.reduceBEq, Nat.reduceAdd, Nat.reduceLeDiff]
        refine (sToText a hna _ _ ra hT).mono ?_
        rintro _ h1 ⟨rfl, e1⟩
        simp only [go_sem, Nat.reduceBEq, Nat.reduceAdd, Nat.reduceLeDiff]
        refine (sToText b hnb _ _ (rb.mono e1) (hT.ext e1)).mono ?_
        rintro _ h2 ⟨rfl, e2⟩
        simp only [go_sem, Nat.reduceBEq]
        refine (sBytes _ _ _).mono ?_
        rintro _ _ ⟨rfl, rfl⟩
        simp only [go_sem, Nat.reduceBEq]
        exact fin (by unfold cmp0; rw [if_neg (by omega)]; rw [if_neg (by omega)]; rw [if_neg (by omega)]; rw [if_neg (by omega)]; rw [if_pos (by omega)]) (e1.trans e2)
      · have hb23 := of_decide_eq_false hb23r
        simp only [d4, hb23r, go_sem, Nat.reduceBEq]
        refine Br.intro (fun hb4r => ?_) (fun hb4r => ?_)
        · have hb4 := of_decide_eq_true hb4r
          simp only [hb4r, go_sem, Nat.reduceBEq]
          exact fin (by unfold cmp0; rw [if_neg (by omega)]; rw [if_neg (by omega)]; rw [if_neg (by omega)]; rw [if_neg (by omega)]; rw [if_neg (by omega)]; rw [if_neg (by omega)]; rw [if_neg (by omega)]; rw [if_pos (by omega)]) (Ext.refl _)
        · have hb4 := of_decide_eq_false hb4r
          simp only [hb4r, go_sem, Nat.reduceBEq]
          refine Br.intro (fun hkr => ?_) (fun hkr => ?_)
          · have hk := of_decide_eq_true hkr
            simp only [hkr, go_sem, Nat.reduceBEq]
            refine Br.intro (fun hnr => ?_) (fun hnr => ?_)
            · have hn := of_decide_eq_true hnr
              simp only [hnr, go_sem, Nat.reduceBEq]
              exact fin (by unfold cmp0; rw [if_neg (by omega)]; rw [if_neg (by omega)]; rw [if_neg (by omega)]; rw [if_neg (by omega)]; rw [if_neg (by omega)]; rw [if_neg (by omega)]; rw [if_neg (by omega)]; rw [if_neg (by omega)]; rw [if_pos (by omega)]) (Ext.refl _)
            · have hn := of_decide_eq_false hnr
              simp only [hnr, go_sem, Nat.reduceBEq]
              exact fin (by unfold cmp0; rw [if_neg (by omega)]; rw [if_neg (by omega)]; rw [if_neg (by omega)]; rw [if_neg (by omega)]; rw [if_neg (by omega)]; rw [if_neg (by omega)]; rw [if_neg (by omega)]; rw [if_neg (by omega)]; rw [if_neg (by omega)]) (Ext.refl _)
          · have hk := of_decide_eq_false hkr
            simp only [hkr, go_sem, Nat.reduceBEq]
            exact fin (by unfold cmp0; rw [if_neg (by omega)]; rw [if_neg (by omega)]; rw [if_neg (by omega)]; rw [if_neg (by omega)]; rw [if_neg (by omega)]; rw [if_neg (by omega)]; rw [if_neg (by omega)]; rw [if_neg (by omega)]; rw [if_neg (by omega)]) (Ext.refl _)
theorem sCompare_3 (a b : V) (hsa : a.str.size ≤ 1152921504606846976) (hsb : b.str.size ≤ 1152921504606846976) (hna : IntKind.i64.min ≤ a.num ∧ a.num ≤ IntKind.i64.max) (hnb : IntKind.i64.min ≤ b.num ∧ b.num ≤ IntKind.i64.max) (sa sb : Value) (h : Hp) (ra : RdE h a.items sa) (rb : RdE h b.items sb) (hT : Pow h) (ar : Int) (harr : ACalls Tryd.prog 99 #[.agg #[.int .i64 a.kind, .int .i64 a.num, .string a.str, .int .i64 a.next, sa], .agg #[.int .i64 b.kind, .int .i64 b.num, .string b.str, .int .i64 b.next, sb]] h (Is (.int .i64 ar) h)) (ha : a.kind = 3) :
    ACalls Tryd.prog 65 #[.agg #[.int .i64 a.kind, .int .i64 a.num, .string a.str, .int .i64 a.next, sa], .agg #[.int .i64 b.kind, .int .i64 b.num, .string b.str, .int .i64 b.next, sb]] h (Is (.int .i64 (cmp0 a b ar)) h) := by
  have d0 : decide (a.kind = 0) = false := decide_eq_false (by omega)
  have d1 : decide (a.kind = 1) = false := decide_eq_false (by omega)
  have d2 : decide (a.kind = 2) = false := decide_eq_false (by omega)
  have d3 : decide (a.kind = 3) = true := decide_eq_true (by omega)
  have d4 : decide (a.kind = 4) = false := decide_eq_false (by omega)
  have d01 : decide (0 ≤ a.kind ∧ a.kind ≤ 1) = false := decide_eq_false (by omega)
  have d23 : decide (2 ≤ a.kind ∧ a.kind ≤ 3) = true := decide_eq_true (by omega)
  have fin : ∀ {x : Int} {h' : Hp}, cmp0 a b ar = x → Ext h h' → Is (.int .i64 (cmp0 a b ar)) h (.int .i64 x) h' := fun e k => ⟨by rw [e], k⟩
  (refine enter Tryd.func65 rfl rfl (by kernel_rfl) [] ?_; simp only [go_sem, Nat.reduceBEq, Nat.reduceAdd, Nat.reduceLeDiff])
  refine (sToNumber a hsa _ _ ra).mono ?_
  rintro _ _ ⟨rfl, rfl⟩
  simp only [go_sem, Nat.reduceBEq, Nat.reduceAdd, Nat.reduceLeDiff]
  refine (sToNumber b hsb _ _ rb).mono ?_
  rintro _ _ ⟨rfl, rfl⟩
  simp only [go_sem, Nat.reduceBEq]
  simp only [d0, d3, go_sem, Nat.reduceBEq]
  refine Br.intro (fun hb0r => ?_) (fun hb0r => ?_)
  · have hb0 := of_decide_eq_true hb0r
    simp only [hb0r, go_sem, Nat.reduceBEq]
    refine (sBytes _ _ _).mono ?_
    rintro _ _ ⟨rfl, rfl⟩
    simp only [go_sem, Nat.reduceBEq]
    exact fin (by unfold cmp0; rw [if_neg (by omega)]; rw [if_pos (by omega)]) (Ext.refl _)
  · have hb0 := of_decide_eq_false hb0r
    simp only [hb0r, go_sem, Nat.reduceBEq]
    refine (l1In_c _ _ _ _).mono ?_
    rintro _ _ ⟨rfl, rfl⟩
    simp only [d01, go_sem, Nat.reduceBEq]
    refine (l1In_c _ _ _ _).mono ?_
    rintro _ _ ⟨rfl, rfl⟩
    simp only [go_sem, Nat.reduceBEq]
    refine Br.intro (fun hb01r => ?_) (fun hb01r => ?_)
    · have hb01 := of_decide_eq_true hb01r
      simp only [hb01r, go_sem]
      refine regionD_intro (lb := [56, 58]) (by kernel_rfl) ?_
      simp only [go_sem, Nat.reduceBEq, Nat.reduceAdd, Nat.reduceLeDiff]
      refine (sBit a _ _ ra).mono ?_
      rintro _ _ ⟨rfl, rfl⟩
      simp only [go_sem, Nat.reduceBEq, Nat.reduceAdd, Nat.reduceLeDiff]
      refine (sBit b _ _ rb).mono ?_
      rintro _ _ ⟨rfl, rfl⟩
      simp only [go_sem, Nat.reduceBEq]
      refine (sOrder _ _ _).mono ?_
      rintro _ _ ⟨rfl, rfl⟩
      simp only [go_sem, Nat.reduceBEq]
      exact fin (by unfold cmp0; rw [if_neg (by omega)]; rw [if_neg (by omega)]; rw [if_pos (by omega)]) (Ext.refl _)
    · have hb01 := of_decide_eq_false hb01r
      simp only [hb01r, go_sem, Nat.reduceBEq]
      refine Br.intro (fun hxr => ?_) (fun hxr => ?_)
      · have hx := of_decide_eq_true hxr
        simp only [hxr, go_sem, Nat.reduceBEq]
        refine Br.intro (fun hyr => ?_) (fun hyr => ?_)
        · have hy := of_decide_eq_true hyr
          simp only [hyr, go_sem, Nat.reduceBEq]
          refine (sOrder _ _ _).mono ?_
          rintro _ _ ⟨rfl, rfl⟩
          simp only [go_sem, Nat.reduceBEq]
          exact fin (by unfold cmp0; rw [if_neg (by omega)]; rw [if_neg (by omega)]; rw [if_neg (by omega)]; rw [if_pos (by omega)]) (Ext.refl _)
        · have hy := of_decide_eq_false hyr
          simp only [hyr, go_sem, Nat.reduceBEq]
          refine (l1In_c _ _ _ _).mono ?_
          rintro _ _ ⟨rfl, rfl⟩
          simp only [d23, go_sem, Nat.reduceBEq]
          refine (l1In_c _ _ _ _).mono ?_
          rintro _ _ ⟨rfl, rfl⟩
          simp only [go_sem, Nat.reduceBEq]
          refine Br.intro (fun hb23r => ?_) (fun hb23r => ?_)
          · have hb23 := of_decide_eq_true hb23r
            simp only [hb23r, go_sem, Nat.reduceBEq, Nat.reduceAdd, Nat.reduceLeDiff]
            refine (sToText a hna _ _ ra hT).mono ?_
            rintro _ h1 ⟨rfl, e1⟩
            simp only [go_sem, Nat.reduceBEq, Nat.reduceAdd, Nat.reduceLeDiff]
            refine (sToText b hnb _ _ (rb.mono e1) (hT.ext e1)).mono ?_
            rintro _ h2 ⟨rfl, e2⟩
            simp only [go_sem, Nat.reduceBEq]
            refine (sBytes _ _ _).mono ?_
            rintro _ _ ⟨rfl, rfl⟩
            simp only [go_sem, Nat.reduceBEq]
            exact fin (by unfold cmp0; rw [if_neg (by omega)]; rw [if_neg (by omega)]; rw [if_neg (by omega)]; rw [if_neg (by omega)]; rw [if_pos (by omega)]) (e1.trans e2)
          · have hb23 := of_decide_eq_false hb23r
            simp only [d4, hb23r, go_sem, Nat.reduceBEq]
            refine Br.intro (fun hb4r => ?_) (fun hb4r => ?_)
            · have hb4 := of_decide_eq_true hb4r
              simp only [hb4r, go_sem, Nat.reduceBEq]
              exact fin (by unfold cmp0; rw [if_neg (by omega)]; rw [if_neg (by omega)]; rw [if_neg (by omega)]; rw [if_neg (by omega)]; rw [if_neg (by omega)]; rw [if_neg (by omega)]; rw [if_neg (by omega)]; rw [if_pos (by omega)]) (Ext.refl _)
            · have hb4 := of_decide_eq_false hb4r
              simp only [hb4r, go_sem, Nat.reduceBEq]
              refine Br.intro (fun hkr => ?_) (fun hkr => ?_)
              · have hk := of_decide_eq_true hkr
                simp only [hkr, go_sem, Nat.reduceBEq]
                refine Br.intro (fun hnr => ?_) (fun hnr => ?_)
                · have hn := of_decide_eq_true hnr
                  simp only [hnr, go_sem, Nat.reduceBEq]
                  exact fin (by unfold cmp0; rw [if_neg (by omega)]; rw [if_neg (by omega)]; rw [if_neg (by omega)]; rw [if_neg (by omega)]; rw [if_neg (by omega)]; rw [if_neg (by omega)]; rw [if_neg (by omega)]; rw [if_neg (by omega)]; rw [if_pos (by omega)]) (Ext.refl _)
                · have hn := of_decide_eq_false hnr
                  simp only [hnr, go_sem, Nat.reduceBEq]
                  exact fin (by unfold cmp0; rw [if_neg (by omega)]; rw [if_neg (by omega)]; rw [if_neg (by omega)]; rw [if_neg (by omega)]; rw [if_neg (by omega)]; rw [if_neg (by omega)]; rw [if_neg (by omega)]; rw [if_neg (by omega)]; rw [if_neg (by omega)]) (Ext.refl _)
              · have hk := of_decide_eq_false hkr
                simp only [hkr, go_sem, Nat.reduceBEq]
                exact fin (by unfold cmp0; rw [if_neg (by omega)]; rw [if_neg (by omega)]; rw [if_neg (by omega)]; rw [if_neg (by omega)]; rw [if_neg (by omega)]; rw [if_neg (by omega)]; rw [if_neg (by omega)]; rw [if_neg (by omega)]; rw [if_neg (by omega)]) (Ext.refl _)
      · have hx := of_decide_eq_false hxr
        simp only [hxr, go_sem, Nat.reduceBEq]
        refine (l1In_c _ _ _ _).mono ?_
        rintro _ _ ⟨rfl, rfl⟩
        simp only [d23, go_sem, Nat.reduceBEq]
        refine (l1In_c _ _ _ _).mono ?_
        rintro _ _ ⟨rfl, rfl⟩
        simp only [go_sem, Nat.reduceBEq]
        refine Br.intro (fun hb23r => ?_) (fun hb23r => ?_)
        · have hb23 := of_decide_eq_true hb23r
          simp only [hb23r, go_sem, Nat.reduceBEq, Nat.reduceAdd, Nat.reduceLeDiff]
          refine (sToText a hna _ _ ra hT).mono ?_
          rintro _ h1 ⟨rfl, e1⟩
          simp only [go_sem, Nat.reduceBEq, Nat.reduceAdd, Nat.reduceLeDiff]
          refine (sToText b hnb _ _ (rb.mono e1) (hT.ext e1)).mono ?_
          rintro _ h2 ⟨rfl, e2⟩
          simp only [go_sem, Nat.reduceBEq]
          refine (sBytes _ _ _).mono ?_
          rintro _ _ ⟨rfl, rfl⟩
          simp only [go_sem, Nat.reduceBEq]
          exact fin (by unfold cmp0; rw [if_neg (by omega)]; rw [if_neg (by omega)]; rw [if_neg (by omega)]; rw [if_neg (by omega)]; rw [if_pos (by omega)]) (e1.trans e2)
        · have hb23 := of_decide_eq_false hb23r
          simp only [d4, hb23r, go_sem, Nat.reduceBEq]
          refine Br.intro (fun hb4r => ?_) (fun hb4r => ?_)
          · have hb4 := of_decide_eq_true hb4r
            simp only [hb4r, go_sem, Nat.reduceBEq]
            exact fin (by unfold cmp0; rw [if_neg (by omega)]; rw [if_neg (by omega)]; rw [if_neg (by omega)]; rw [if_neg (by omega)]; rw [if_neg (by omega)]; rw [if_neg (by omega)]; rw [if_neg (by omega)]; rw [if_pos (by omega)]) (Ext.refl _)
          · have hb4 := of_decide_eq_false hb4r
            simp only [hb4r, go_sem, Nat.reduceBEq]
            refine Br.intro (fun hkr => ?_) (fun hkr => ?_)
            · have hk := of_decide_eq_true hkr
              simp only [hkr, go_sem, Nat.reduceBEq]
              refine Br.intro (fun hnr => ?_) (fun hnr => ?_)
              · have hn := of_decide_eq_true hnr
                simp only [hnr, go_sem, Nat.reduceBEq]
                exact fin (by unfold cmp0; rw [if_neg (by omega)]; rw [if_neg (by omega)]; rw [if_neg (by omega)]; rw [if_neg (by omega)]; rw [if_neg (by omega)]; rw [if_neg (by omega)]; rw [if_neg (by omega)]; rw [if_neg (by omega)]; rw [if_pos (by omega)]) (Ext.refl _)
              · have hn := of_decide_eq_false hnr
                simp only [hnr, go_sem, Nat.reduceBEq]
                exact fin (by unfold cmp0; rw [if_neg (by omega)]; rw [if_neg (by omega)]; rw [if_neg (by omega)]; rw [if_neg (by omega)]; rw [if_neg (by omega)]; rw [if_neg (by omega)]; rw [if_neg (by omega)]; rw [if_neg (by omega)]; rw [if_neg (by omega)]) (Ext.refl _)
            · have hk := of_decide_eq_false hkr
              simp only [hkr, go_sem, Nat.reduceBEq]
              exact fin (by unfold cmp0; rw [if_neg (by omega)]; rw [if_neg (by omega)]; rw [if_neg (by omega)]; rw [if_neg (by omega)]; rw [if_neg (by omega)]; rw [if_neg (by omega)]; rw [if_neg (by omega)]; rw [if_neg (by omega)]; rw [if_neg (by omega)]) (Ext.refl _)
theorem sCompare_4 (a b : V) (hsa : a.str.size ≤ 1152921504606846976) (hsb : b.str.size ≤ 1152921504606846976) (hna : IntKind.i64.min ≤ a.num ∧ a.num ≤ IntKind.i64.max) (hnb : IntKind.i64.min ≤ b.num ∧ b.num ≤ IntKind.i64.max) (sa sb : Value) (h : Hp) (ra : RdE h a.items sa) (rb : RdE h b.items sb) (hT : Pow h) (ar : Int) (harr : ACalls Tryd.prog 99 #[.agg #[.int .i64 a.kind, .int .i64 a.num, .string a.str, .int .i64 a.next, sa], .agg #[.int .i64 b.kind, .int .i64 b.num, .string b.str, .int .i64 b.next, sb]] h (Is (.int .i64 ar) h)) (ha : a.kind = 4) :
    ACalls Tryd.prog 65 #[.agg #[.int .i64 a.kind, .int .i64 a.num, .string a.str, .int .i64 a.next, sa], .agg #[.int .i64 b.kind, .int .i64 b.num, .string b.str, .int .i64 b.next, sb]] h (Is (.int .i64 (cmp0 a b ar)) h) := by
  have d0 : decide (a.kind = 0) = false := decide_eq_false (by omega)
  have d1 : decide (a.kind = 1) = false := decide_eq_false (by omega)
  have d2 : decide (a.kind = 2) = false := decide_eq_false (by omega)
  have d3 : decide (a.kind = 3) = false := decide_eq_false (by omega)
  have d4 : decide (a.kind = 4) = true := decide_eq_true (by omega)
  have d01 : decide (0 ≤ a.kind ∧ a.kind ≤ 1) = false := decide_eq_false (by omega)
  have d23 : decide (2 ≤ a.kind ∧ a.kind ≤ 3) = false := decide_eq_false (by omega)
  have fin : ∀ {x : Int} {h' : Hp}, cmp0 a b ar = x → Ext h h' → Is (.int .i64 (cmp0 a b ar)) h (.int .i64 x) h' := fun e k => ⟨by rw [e], k⟩
  (refine enter Tryd.func65 rfl rfl (by kernel_rfl) [] ?_; simp only [go_sem, Nat.reduceBEq, Nat.reduceAdd, Nat.reduceLeDiff])
  refine (sToNumber a hsa _ _ ra).mono ?_
  rintro _ _ ⟨rfl, rfl⟩
  simp only [go_sem, Nat.reduceBEq, Nat.reduceAdd, Nat.reduceLeDiff]
  refine (sToNumber b hsb _ _ rb).mono ?_
  rintro _ _ ⟨rfl, rfl⟩
  simp only [go_sem, Nat.reduceBEq]
  simp only [d0, d3, go_sem, Nat.reduceBEq]
  refine (l1In_c _ _ _ _).mono ?_
  rintro _ _ ⟨rfl, rfl⟩
  simp only [d01, go_sem, Nat.reduceBEq]
  refine (l1In_c _ _ _ _).mono ?_
  rintro _ _ ⟨rfl, rfl⟩
  simp only [go_sem, Nat.reduceBEq]
  refine Br.intro (fun hb01r => ?_) (fun hb01r => ?_)
  · have hb01 := of_decide_eq_true hb01r
    simp only [hb01r, go_sem]
    refine regionD_intro (lb := [56, 58]) (by kernel_rfl) ?_
    simp only [go_sem, Nat.reduceBEq, Nat.reduceAdd, Nat.reduceLeDiff]
    refine (sBit a _ _ ra).mono ?_
    rintro _ _ ⟨rfl, rfl⟩
    simp only [go_sem, Nat.reduceBEq, Nat.reduceAdd, Nat.reduceLeDiff]
    refine (sBit b _ _ rb).mono ?_
    rintro _ _ ⟨rfl, rfl⟩
    simp only [go_sem, Nat.reduceBEq]
    refine (sOrder _ _ _).mono ?_
    rintro _ _ ⟨rfl, rfl⟩
    simp only [go_sem, Nat.reduceBEq]
    exact fin (by unfold cmp0; rw [if_neg (by omega)]; rw [if_neg (by omega)]; rw [if_pos (by omega)]) (Ext.refl _)
  · have hb01 := of_decide_eq_false hb01r
    simp only [hb01r, go_sem, Nat.reduceBEq]
    refine Br.intro (fun hxr => ?_) (fun hxr => ?_)
    · have hx := of_decide_eq_true hxr
      simp only [hxr, go_sem, Nat.reduceBEq]
      refine Br.intro (fun hyr => ?_) (fun hyr => ?_)
      · have hy := of_decide_eq_true hyr
        simp only [hyr, go_sem, Nat.reduceBEq]
        refine (sOrder _ _ _).mono ?_
        rintro _ _ ⟨rfl, rfl⟩
        simp only [go_sem, Nat.reduceBEq]
        exact fin (by unfold cmp0; rw [if_neg (by omega)]; rw [if_neg (by omega)]; rw [if_neg (by omega)]; rw [if_pos (by omega)]) (Ext.refl _)
      · have hy := of_decide_eq_false hyr
        simp only [hyr, go_sem, Nat.reduceBEq]
        refine (l1In_c _ _ _ _).mono ?_
        rintro _ _ ⟨rfl, rfl⟩
        simp only [d4, d23, go_sem, Nat.reduceBEq]
        refine Br.intro (fun hb4r => ?_) (fun hb4r => ?_)
        · have hb4 := of_decide_eq_true hb4r
          simp only [hb4r, go_sem, Nat.reduceBEq, Nat.reduceAdd, Nat.reduceLeDiff]
          refine harr.mono ?_
          rintro _ h1 ⟨rfl, e1⟩
          simp only [go_sem, Nat.reduceBEq]
          exact fin (by unfold cmp0; rw [if_neg (by omega)]; rw [if_neg (by omega)]; rw [if_neg (by omega)]; rw [if_neg (by omega)]; rw [if_neg (by omega)]; rw [if_pos (by omega)]) e1
        · have hb4 := of_decide_eq_false hb4r
          simp only [d4, hb4r, go_sem, Nat.reduceBEq]
          exact fin (by unfold cmp0; rw [if_neg (by omega)]; rw [if_neg (by omega)]; rw [if_neg (by omega)]; rw [if_neg (by omega)]; rw [if_neg (by omega)]; rw [if_neg (by omega)]; rw [if_pos (by omega)]) (Ext.refl _)
    · have hx := of_decide_eq_false hxr
      simp only [hxr, go_sem, Nat.reduceBEq]
      refine (l1In_c _ _ _ _).mono ?_
      rintro _ _ ⟨rfl, rfl⟩
      simp only [d4, d23, go_sem, Nat.reduceBEq]
      refine Br.intro (fun hb4r => ?_) (fun hb4r => ?_)
      · have hb4 := of_decide_eq_true hb4r
        simp only [hb4r, go_sem, Nat.reduceBEq, Nat.reduceAdd, Nat.reduceLeDiff]
        refine harr.mono ?_
        rintro _ h1 ⟨rfl, e1⟩
        simp only [go_sem, Nat.reduceBEq]
        exact fin (by unfold cmp0; rw [if_neg (by omega)]; rw [if_neg (by omega)]; rw [if_neg (by omega)]; rw [if_neg (by omega)]; rw [if_neg (by omega)]; rw [if_pos (by omega)]) e1
      · have hb4 := of_decide_eq_false hb4r
        simp only [d4, hb4r, go_sem, Nat.reduceBEq]
        exact fin (by unfold cmp0; rw [if_neg (by omega)]; rw [if_neg (by omega)]; rw [if_neg (by omega)]; rw [if_neg (by omega)]; rw [if_neg (by omega)]; rw [if_neg (by omega)]; rw [if_pos (by omega)]) (Ext.refl _)
theorem sCompare_o (a b : V) (hsa : a.str.size ≤ 1152921504606846976) (hsb : b.str.size ≤ 1152921504606846976) (hna : IntKind.i64.min ≤ a.num ∧ a.num ≤ IntKind.i64.max) (hnb : IntKind.i64.min ≤ b.num ∧ b.num ≤ IntKind.i64.max) (sa sb : Value) (h : Hp) (ra : RdE h a.items sa) (rb : RdE h b.items sb) (hT : Pow h) (ar : Int) (harr : ACalls Tryd.prog 99 #[.agg #[.int .i64 a.kind, .int .i64 a.num, .string a.str, .int .i64 a.next, sa], .agg #[.int .i64 b.kind, .int .i64 b.num, .string b.str, .int .i64 b.next, sb]] h (Is (.int .i64 ar) h)) (ha : ¬ a.kind = 0 ∧ ¬ a.kind = 1 ∧ ¬ a.kind = 2 ∧ ¬ a.kind = 3 ∧ ¬ a.kind = 4) :
    ACalls Tryd.prog 65 #[.agg #[.int .i64 a.kind, .int .i64 a.num, .string a.str, .int .i64 a.next, sa], .agg #[.int .i64 b.kind, .int .i64 b.num, .string b.str, .int .i64 b.next, sb]] h (Is (.int .i64 (cmp0 a b ar)) h) := by
  have d0 : decide (a.kind = 0) = false := decide_eq_false (by omega)
  have d1 : decide (a.kind = 1) = false := decide_eq_false (by omega)
  have d2 : decide (a.kind = 2) = false := decide_eq_false (by omega)
  have d3 : decide (a.kind = 3) = false := decide_eq_false (by omega)
  have d4 : decide (a.kind = 4) = false := decide_eq_false (by omega)
  have d01 : decide (0 ≤ a.kind ∧ a.kind ≤ 1) = false := decide_eq_false (by omega)
  have d23 : decide (2 ≤ a.kind ∧ a.kind ≤ 3) = false := decide_eq_false (by omega)
  have fin : ∀ {x : Int} {h' : Hp}, cmp0 a b ar = x → Ext h h' → Is (.int .i64 (cmp0 a b ar)) h (.int .i64 x) h' := fun e k => ⟨by rw [e], k⟩
  (refine enter Tryd.func65 rfl rfl (by kernel_rfl) [] ?_; simp only [go_sem, Nat.reduceBEq, Nat.reduceAdd, Nat.reduceLeDiff])
  refine (sToNumber a hsa _ _ ra).mono ?_
  rintro _ _ ⟨rfl, rfl⟩
  simp only [go_sem, Nat.reduceBEq, Nat.reduceAdd, Nat.reduceLeDiff]
  refine (sToNumber b hsb _ _ rb).mono ?_
  rintro _ _ ⟨rfl, rfl⟩
  simp only [go_sem, Nat.reduceBEq]
  simp only [d0, d3, go_sem, Nat.reduceBEq]
  refine (l1In_c _ _ _ _).mono ?_
  rintro _ _ ⟨rfl, rfl⟩
  simp only [d01, go_sem, Nat.reduceBEq]
  refine (l1In_c _ _ _ _).mono ?_
  rintro _ _ ⟨rfl, rfl⟩
  simp only [go_sem, Nat.reduceBEq]
  refine Br.intro (fun hb01r => ?_) (fun hb01r => ?_)
  · have hb01 := of_decide_eq_true hb01r
    simp only [hb01r, go_sem]
    refine regionD_intro (lb := [56, 58]) (by kernel_rfl) ?_
    simp only [go_sem, Nat.reduceBEq, Nat.reduceAdd, Nat.reduceLeDiff]
    refine (sBit a _ _ ra).mono ?_
    rintro _ _ ⟨rfl, rfl⟩
    simp only [go_sem, Nat.reduceBEq, Nat.reduceAdd, Nat.reduceLeDiff]
    refine (sBit b _ _ rb).mono ?_
    rintro _ _ ⟨rfl, rfl⟩
    simp only [go_sem, Nat.reduceBEq]
    refine (sOrder _ _ _).mono ?_
    rintro _ _ ⟨rfl, rfl⟩
    simp only [go_sem, Nat.reduceBEq]
    exact fin (by unfold cmp0; rw [if_neg (by omega)]; rw [if_neg (by omega)]; rw [if_pos (by omega)]) (Ext.refl _)
  · have hb01 := of_decide_eq_false hb01r
    simp only [hb01r, go_sem, Nat.reduceBEq]
    refine Br.intro (fun hxr => ?_) (fun hxr => ?_)
    · have hx := of_decide_eq_true hxr
      simp only [hxr, go_sem, Nat.reduceBEq]
      refine Br.intro (fun hyr => ?_) (fun hyr => ?_)
      · have hy := of_decide_eq_true hyr
        simp only [hyr, go_sem, Nat.reduceBEq]
        refine (sOrder _ _ _).mono ?_
        rintro _ _ ⟨rfl, rfl⟩
        simp only [go_sem, Nat.reduceBEq]
        exact fin (by unfold cmp0; rw [if_neg (by omega)]; rw [if_neg (by omega)]; rw [if_neg (by omega)]; rw [if_pos (by omega)]) (Ext.refl _)
      · have hy := of_decide_eq_false hyr
        simp only [hyr, go_sem, Nat.reduceBEq]
        refine (l1In_c _ _ _ _).mono ?_
        rintro _ _ ⟨rfl, rfl⟩
        simp only [d4, d23, go_sem, Nat.reduceBEq]
        refine Br.intro (fun hb4r => ?_) (fun hb4r => ?_)
        · have hb4 := of_decide_eq_true hb4r
          simp only [hb4r, go_sem, Nat.reduceBEq]
          exact fin (by unfold cmp0; rw [if_neg (by omega)]; rw [if_neg (by omega)]; rw [if_neg (by omega)]; rw [if_neg (by omega)]; rw [if_neg (by omega)]; rw [if_neg (by omega)]; rw [if_neg (by omega)]; rw [if_pos (by omega)]) (Ext.refl _)
        · have hb4 := of_decide_eq_false hb4r
          simp only [hb4r, go_sem, Nat.reduceBEq]
          refine Br.intro (fun hkr => ?_) (fun hkr => ?_)
          · have hk := of_decide_eq_true hkr
            simp only [hkr, go_sem, Nat.reduceBEq]
            refine Br.intro (fun hnr => ?_) (fun hnr => ?_)
            · have hn := of_decide_eq_true hnr
              simp only [hnr, go_sem, Nat.reduceBEq]
              exact fin (by unfold cmp0; rw [if_neg (by omega)]; rw [if_neg (by omega)]; rw [if_neg (by omega)]; rw [if_neg (by omega)]; rw [if_neg (by omega)]; rw [if_neg (by omega)]; rw [if_neg (by omega)]; rw [if_neg (by omega)]; rw [if_pos (by omega)]) (Ext.refl _)
            · have hn := of_decide_eq_false hnr
              simp only [hnr, go_sem, Nat.reduceBEq]
              exact fin (by unfold cmp0; rw [if_neg (by omega)]; rw [if_neg (by omega)]; rw [if_neg (by omega)]; rw [if_neg (by omega)]; rw [if_neg (by omega)]; rw [if_neg (by omega)]; rw [if_neg (by omega)]; rw [if_neg (by omega)]; rw [if_neg (by omega)]) (Ext.refl _)
          · have hk := of_decide_eq_false hkr
            simp only [hkr, go_sem, Nat.reduceBEq]
            exact fin (by unfold cmp0; rw [if_neg (by omega)]; rw [if_neg (by omega)]; rw [if_neg (by omega)]; rw [if_neg (by omega)]; rw [if_neg (by omega)]; rw [if_neg (by omega)]; rw [if_neg (by omega)]; rw [if_neg (by omega)]; rw [if_neg (by omega)]) (Ext.refl _)
    · have hx := of_decide_eq_false hxr
      simp only [hxr, go_sem, Nat.reduceBEq]
      refine (l1In_c _ _ _ _).mono ?_
      rintro _ _ ⟨rfl, rfl⟩
      simp only [d4, d23, go_sem, Nat.reduceBEq]
      refine Br.intro (fun hb4r => ?_) (fun hb4r => ?_)
      · have hb4 := of_decide_eq_true hb4r
        simp only [hb4r, go_sem, Nat.reduceBEq]
        exact fin (by unfold cmp0; rw [if_neg (by omega)]; rw [if_neg (by omega)]; rw [if_neg (by omega)]; rw [if_neg (by omega)]; rw [if_neg (by omega)]; rw [if_neg (by omega)]; rw [if_neg (by omega)]; rw [if_pos (by omega)]) (Ext.refl _)
      · have hb4 := of_decide_eq_false hb4r
        simp only [hb4r, go_sem, Nat.reduceBEq]
        refine Br.intro (fun hkr => ?_) (fun hkr => ?_)
        · have hk := of_decide_eq_true hkr
          simp only [hkr, go_sem, Nat.reduceBEq]
          refine Br.intro (fun hnr => ?_) (fun hnr => ?_)
          · have hn := of_decide_eq_true hnr
            simp only [hnr, go_sem, Nat.reduceBEq]
            exact fin (by unfold cmp0; rw [if_neg (by omega)]; rw [if_neg (by omega)]; rw [if_neg (by omega)]; rw [if_neg (by omega)]; rw [if_neg (by omega)]; rw [if_neg (by omega)]; rw [if_neg (by omega)]; rw [if_neg (by omega)]; rw [if_pos (by omega)]) (Ext.refl _)
          · have hn := of_decide_eq_false hnr
            simp only [hnr, go_sem, Nat.reduceBEq]
            exact fin (by unfold cmp0; rw [if_neg (by omega)]; rw [if_neg (by omega)]; rw [if_neg (by omega)]; rw [if_neg (by omega)]; rw [if_neg (by omega)]; rw [if_neg (by omega)]; rw [if_neg (by omega)]; rw [if_neg (by omega)]; rw [if_neg (by omega)]) (Ext.refl _)
        · have hk := of_decide_eq_false hkr
          simp only [hkr, go_sem, Nat.reduceBEq]
          exact fin (by unfold cmp0; rw [if_neg (by omega)]; rw [if_neg (by omega)]; rw [if_neg (by omega)]; rw [if_neg (by omega)]; rw [if_neg (by omega)]; rw [if_neg (by omega)]; rw [if_neg (by omega)]; rw [if_neg (by omega)]; rw [if_neg (by omega)]) (Ext.refl _)
theorem sCompare : ∀ a, CmpS a := V.ind fun a ih b oka okb hba hbb sa sb h ra rb hT => by
  have hsa : a.str.size ≤ 1152921504606846976 := by have := V.bulk_eq a; omega
  have hsb : b.str.size ≤ 1152921504606846976 := by have := V.bulk_eq b; omega
  have harr := sArrays a ih b oka okb hba hbb sa sb h ra rb hT
  rw [V.cmp_eq]
  rcases k6 a.kind with ha | ha | ha | ha | ha | ha
  · exact sCompare_0 a b hsa hsb (V.ok_num oka) (V.ok_num okb) sa sb h ra rb hT _ harr ha
  · exact sCompare_1 a b hsa hsb (V.ok_num oka) (V.ok_num okb) sa sb h ra rb hT _ harr ha
  · exact sCompare_2 a b hsa hsb (V.ok_num oka) (V.ok_num okb) sa sb h ra rb hT _ harr ha
  · exact sCompare_3 a b hsa hsb (V.ok_num oka) (V.ok_num okb) sa sb h ra rb hT _ harr ha
  · exact sCompare_4 a b hsa hsb (V.ok_num oka) (V.ok_num okb) sa sb h ra rb hT _ harr ha
  · exact sCompare_o a b hsa hsb (V.ok_num oka) (V.ok_num okb) sa sb h ra rb hT _ harr ha
end Go.Proofs.YtconhonjkfpfmaaDoor
namespace Go.Proofs.YtconhonjkfpfmaaDoor
set_option maxRecDepth 8000
open Go Go.Sx
theorem iLoose (a b : V) (oka : a.ok) (okb : b.ok) (ha : a.bulk ≤ 1099511627776) (hb : b.bulk ≤ 1099511627776) (sa sb : Value) (h : Hp) (ra : RdE h a.items sa) (rb : RdE h b.items sb) (hT : Pow h) :
    ACalls Tryd.prog 11 #[.agg #[.int .i64 a.kind, .int .i64 a.num, .string a.str, .int .i64 a.next, sa], .agg #[.int .i64 b.kind, .int .i64 b.num, .string b.str, .int .i64 b.next, sb]] h (Is (.bool (decide (V.cmp a b = 0))) h) := by
  (refine enter Tryd.func11 rfl rfl (by kernel_rfl) [] ?_; simp only [go_sem, Nat.reduceBEq, Nat.reduceAdd, Nat.reduceLeDiff])
  refine (iCompare a b oka okb ha hb _ _ _ ra rb hT).mono ?_
  rintro _ h1 ⟨rfl, e1⟩
  simp only [go_sem, Nat.reduceBEq]
  exact ⟨rfl, e1⟩
def ordd : List V → Bool
  | a :: b :: r => !decide (V.cmp a b = 1) && ordd (b :: r)
  | _ => true
theorem ordd_one (a : V) : ordd [a] = true := rfl
theorem ordd_two (a b : V) (r : List V) : ordd (a :: b :: r) = (!decide (V.cmp a b = 1) && ordd (b :: r)) := rfl
theorem vbulk_mem {l : List V} {e : V} (h : e ∈ l) : e.bulk ≤ szG V.bulk l := by have := gsum_mem (w := V.bulk) h; unfold szG; omega
theorem wrap_pred {n : Nat} (h0 : 0 < n) (hn : n < 9223372036854775807) : IntKind.i64.wrap ((n : Int) - 1) = ((n - 1 : Nat) : Int) := by rw [IntWalk.i64_in _ (by omega)]; omega
end Go.Proofs.YtconhonjkfpfmaaDoor
namespace Go.Proofs.YtconhonjkfpfmaaDoor
set_option maxRecDepth 8000
open Go Go.Sx
theorem bulk_mem3 : ∀ {es : List (Ky × V)} {e : Ky × V}, e ∈ es → e.1.str.size + e.2.bulk + 1 ≤ V.bulks es
  | (k, v) :: r, e, he => by
    simp only [V.bulks]
    cases he with
    | head => simp only; omega
    | tail _ he => have := bulk_mem3 he; omega
def SameI (a : V) : Prop := ∀ (b : V) (_ : a.bulk ≤ 1099511627776) (_ : b.bulk ≤ 1099511627776) (sa sb : Value) (h : Hp) (_ : RdE h a.items sa) (_ : RdE h b.items sb), ACalls Tryd.prog 62 #[.agg #[.int .i64 a.kind, .int .i64 a.num, .string a.str, .int .i64 a.next, sa], .agg #[.int .i64 b.kind, .int .i64 b.num, .string b.str, .int .i64 b.next, sb]] h (Pu (.bool (V.same a b)) h)
theorem iSame : ∀ a, SameI a := V.ind fun a ih b ha hb sa sb h ra rb => by
  have hB := V.bulk_eq a
  have hB2 := V.bulk_eq b
  have hla := V.bulks_len a.items
  have hlb := V.bulks_len b.items
  have hpe := V.same_eq a b
  obtain ⟨a1, c1, xs1, rfl, hc1, hr1, hat1⟩ := ra.rows (by decide) a.items.length (fm_len edt_len _)
  obtain ⟨a2, c2, xs2, rfl, hc2, hr2, hat2⟩ := rb.rows (by decide) b.items.length (fm_len edt_len _)
  (refine enter Tryd.func62 rfl rfl (by kernel_rfl) [] ?_; simp only [go_sem, Nat.reduceBEq])
  by_cases k0 : a.kind = b.kind
  case neg =>
    have d0 := decide_eq_false k0
    simp only [d0, go_sem, Nat.reduceBEq]
    exact ⟨by rw [hpe]; simp [k0], rfl⟩
  have d0 := decide_eq_true k0
  by_cases k1 : a.num = b.num
  case neg =>
    have d1 := decide_eq_false k1
    simp only [d0, d1, go_sem, Nat.reduceBEq]
    exact ⟨by rw [hpe]; simp [k1], rfl⟩
  have d1 := decide_eq_true k1
  by_cases k2 : a.str = b.str
  case neg =>
    have d2 := decide_eq_false k2
    simp only [d0, d1, d2, go_sem, Nat.reduceBEq]
    exact ⟨by rw [hpe]; simp [k2], rfl⟩
  have d2 := decide_eq_true k2
  by_cases k3 : a.items.length = b.items.length
  case neg =>
    have d3 := decide_eq_false k3
    have t3 : decide (((a.items.length : Nat) : Int) = ((b.items.length : Nat) : Int)) = false := decide_eq_false (by omega)
    simp only [d0, d1, d2, t3, go_sem, Nat.reduceBEq]
    exact ⟨by rw [hpe]; simp [k3], rfl⟩
  have d3 := decide_eq_true k3
  have t3 : decide (((a.items.length : Nat) : Int) = ((b.items.length : Nat) : Int)) = true := decide_eq_true (by omega)
  have hpe : sameEs a.items b.items = V.same a b := by rw [hpe, d0, d1, d2, d3]; rfl
  simp only [d0, d1, d2, t3, go_sem, Nat.reduceBEq]
  refine aloop (ι := Nat) (fun i => [(38, .val (.int .i64 (i : Nat))), (37, .val (.int .i64 (a.items.length : Nat))), (36, .val (.slice a1 a.items.length c1)), (3, .box 3 0)]) (fun _ => [(3, [.int .i64 b.kind, .int .i64 b.num, .string b.str, .int .i64 b.next, .slice a2 b.items.length c2])]) (fun i h' => i ≤ a.items.length ∧ h = h' ∧ sameEs (a.items.drop i) (b.items.drop i) = V.same a b) (fun i => a.items.length - i) 0
    ⟨Nat.zero_le _, rfl, hpe⟩ (by repeat (first | exact wkF_e | refine wkF_c rfl ?_)) (wkB_c rfl wkB_e) rfl ?_
  rintro i _ ⟨hi, rfl, hq⟩
  have hi : i ≤ a.items.length := hi
  have hq : sameEs (a.items.drop i) (b.items.drop i) = V.same a b := hq
  simp only [go_sem, Nat.reduceBEq]
  refine Br.intro (fun hb => ?_) (fun hb => ?_) <;> (try simp only [hb, go_sem, Nat.reduceBEq])
  · have hb : i < a.items.length := by simpa using hb
    have hb2 : i < b.items.length := by omega
    obtain ⟨b1, o1, rfl, hat1'⟩ := hat1 (by omega)
    obtain ⟨b2, o2, rfl, hat2'⟩ := hat2 (by omega)
    obtain ⟨e, he, hm⟩ := get_lt hb
    obtain ⟨f, hf, hmf⟩ := get_lt hb2
    have wsu := wrap_succ (i := i) (by omega)
    have hbe := bulk_mem3 hm
    have hbf := bulk_mem3 hmf
    rw [sameEs_at he hf] at hq
    simp only [ix_nat hb, go_sem, Nat.reduceBEq]
    refine hsem_entry tyS69 hat1' hr1 he rfl fun s3 rd3 => ?_
    obtain ⟨a3, c3, _, rfl, _⟩ := rd3.rows (by decide) e.2.items.length (fm_len edt_len _)
    simp only [go_sem, Nat.reduceBEq, Nat.reduceAdd, Nat.reduceLeDiff]
    refine regionD_intro (lb := [44, 46, 54, 56]) (by kernel_rfl) ?_
    simp only [ix_nat hb2, go_sem, Nat.reduceBEq, Nat.reduceAdd, Nat.reduceLeDiff]
    refine hsem_ekey tyS40 hat2' hr2 hf rfl ?_
    simp only [key_dec, keyT40, go_sem, Nat.reduceBEq]
    by_cases kk : e.1 = f.1
    case neg =>
      have dk := decide_eq_false kk
      simp only [dk, go_sem, Nat.reduceBEq]
      exact ⟨by rw [← hq, dk]; rfl, rfl⟩
    have dk := decide_eq_true kk
    simp only [dk, ix_nat hb2, go_sem, Nat.reduceBEq, Nat.reduceAdd, Nat.reduceLeDiff]
    refine hsem_eval tyS26 hat2' hr2 hf rfl fun s4 rd4 => ?_
    obtain ⟨a4, c4, _, rfl, _⟩ := rd4.rows (by decide) f.2.items.length (fm_len edt_len _)
    simp only [go_sem, Nat.reduceBEq]
    (refine (ih e hm f.2 (by omega) (by omega) _ _ _ rd3 rd4).mono ?_; rintro _ _ ⟨rfl, rfl⟩; simp only [go_sem, Nat.reduceBEq])
    by_cases kv : V.same e.2 f.2 = true
    case neg =>
      have dv : V.same e.2 f.2 = false := by simpa using kv
      simp only [dv, go_sem, Nat.reduceBEq]
      exact ⟨by rw [← hq, dk, dv]; rfl, rfl⟩
    rw [dk, kv] at hq
    simp only [kv, wsu, go_sem, Nat.reduceBEq]
    exact Again.intro (i + 1) (by first | omega | (simp only; omega)) ⟨hb, rfl, hq⟩ (by repeat (first | exact wkF_e | refine wkF_c rfl ?_)) (wkB_c rfl wkB_e) rfl
  · have hb : i = a.items.length := by simp at hb; omega
    subst hb
    rw [List.drop_length, sameEs_nil] at hq
    exact ⟨by rw [← hq], rfl⟩
def SameS (a : V) : Prop := ∀ (b : V) (_ : a.bulk ≤ 1099511627776) (_ : b.bulk ≤ 1099511627776) (sa sb : Value) (h : Hp) (_ : RdE h a.items sa) (_ : RdE h b.items sb), ACalls Tryd.prog 12 #[.agg #[.int .i64 a.kind, .int .i64 a.num, .string a.str, .int .i64 a.next, sa], .agg #[.int .i64 b.kind, .int .i64 b.num, .string b.str, .int .i64 b.next, sb]] h (Pu (.bool (V.same a b)) h)
theorem sSame : ∀ a, SameS a := V.ind fun a ih b ha hb sa sb h ra rb => by
  have hB := V.bulk_eq a
  have hB2 := V.bulk_eq b
  have hla := V.bulks_len a.items
  have hlb := V.bulks_len b.items
  have hpe := V.same_eq a b
  obtain ⟨a1, c1, xs1, rfl, hc1, hr1, hat1⟩ := ra.rows (by decide) a.items.length (fm_len edt_len _)
  obtain ⟨a2, c2, xs2, rfl, hc2, hr2, hat2⟩ := rb.rows (by decide) b.items.length (fm_len edt_len _)
  (refine enter Tryd.func12 rfl rfl (by kernel_rfl) [] ?_; simp only [go_sem, Nat.reduceBEq])
  by_cases k0 : a.kind = b.kind
  case neg =>
    have d0 := decide_eq_false k0
    simp only [d0, go_sem, Nat.reduceBEq]
    exact ⟨by rw [hpe]; simp [k0], rfl⟩
  have d0 := decide_eq_true k0
  by_cases k1 : a.num = b.num
  case neg =>
    have d1 := decide_eq_false k1
    simp only [d0, d1, go_sem, Nat.reduceBEq]
    exact ⟨by rw [hpe]; simp [k1], rfl⟩
  have d1 := decide_eq_true k1
  by_cases k2 : a.str = b.str
  case neg =>
    have d2 := decide_eq_false k2
    simp only [d0, d1, d2, go_sem, Nat.reduceBEq]
    exact ⟨by rw [hpe]; simp [k2], rfl⟩
  have d2 := decide_eq_true k2
  by_cases k3 : a.items.length = b.items.length
  case neg =>
    have d3 := decide_eq_false k3
    have t3 : decide (((a.items.length : Nat) : Int) = ((b.items.length : Nat) : Int)) = false := decide_eq_false (by omega)
    simp only [d0, d1, d2, t3, go_sem, Nat.reduceBEq]
    exact ⟨by rw [hpe]; simp [k3], rfl⟩
  have d3 := decide_eq_true k3
  have t3 : decide (((a.items.length : Nat) : Int) = ((b.items.length : Nat) : Int)) = true := decide_eq_true (by omega)
  have hpe : sameEs a.items b.items = V.same a b := by rw [hpe, d0, d1, d2, d3]; rfl
  simp only [d0, d1, d2, t3, go_sem, Nat.reduceBEq]
  refine aloop (ι := Nat) (fun i => [(5, .val (.int .i64 (i : Nat))), (2, .box 2 0), (3, .box 3 0)]) (fun _ => [(3, [.int .i64 b.kind, .int .i64 b.num, .string b.str, .int .i64 b.next, .slice a2 b.items.length c2]), (2, [.int .i64 a.kind, .int .i64 a.num, .string a.str, .int .i64 a.next, .slice a1 a.items.length c1])]) (fun i h' => i ≤ a.items.length ∧ h = h' ∧ sameEs (a.items.drop i) (b.items.drop i) = V.same a b) (fun i => a.items.length - i) 0
    ⟨Nat.zero_le _, rfl, hpe⟩ (by repeat (first | exact wkF_e | refine wkF_c rfl ?_)) (wkB_c rfl (wkB_c rfl wkB_e)) rfl ?_
  rintro i _ ⟨hi, rfl, hq⟩
  have hi : i ≤ a.items.length := hi
  have hq : sameEs (a.items.drop i) (b.items.drop i) = V.same a b := hq
  simp only [go_sem, Nat.reduceBEq]
  refine Br.intro (fun hb => ?_) (fun hb => ?_) <;> (try simp only [hb, go_sem, Nat.reduceBEq])
  · have hb : i < a.items.length := by simpa using hb
    have hb2 : i < b.items.length := by omega
    obtain ⟨b1, o1, rfl, hat1'⟩ := hat1 (by omega)
    obtain ⟨b2, o2, rfl, hat2'⟩ := hat2 (by omega)
    obtain ⟨e, he, hm⟩ := get_lt hb
    obtain ⟨f, hf, hmf⟩ := get_lt hb2
    have wsu := wrap_succ (i := i) (by omega)
    have hbe := bulk_mem3 hm
    have hbf := bulk_mem3 hmf
    rw [sameEs_at he hf] at hq
    skip
    refine regionD_intro (lb := [42, 48, 56, 62]) (by kernel_rfl) ?_
    simp only [ix_nat hb, go_sem, Nat.reduceBEq]
    refine hsem_ekey tyS40 hat1' hr1 he rfl ?_
    simp only [ix_nat hb2, go_sem, Nat.reduceBEq]
    refine hsem_ekey tyS40 hat2' hr2 hf rfl ?_
    simp only [key_dec, keyT40, go_sem, Nat.reduceBEq]
    by_cases kk : e.1 = f.1
    case neg =>
      have dk := decide_eq_false kk
      simp only [dk, go_sem, Nat.reduceBEq]
      exact ⟨by rw [← hq, dk]; rfl, rfl⟩
    have dk := decide_eq_true kk
    simp only [dk, ix_nat hb, go_sem, Nat.reduceBEq, Nat.reduceAdd]
    refine hsem_eval tyS26 hat1' hr1 he rfl fun s3 rd3 => ?_
    obtain ⟨a3, c3, _, rfl, _⟩ := rd3.rows (by decide) e.2.items.length (fm_len edt_len _)
    simp only [ix_nat hb2, go_sem, Nat.reduceBEq, Nat.reduceAdd]
    refine hsem_eval tyS26 hat2' hr2 hf rfl fun s4 rd4 => ?_
    obtain ⟨a4, c4, _, rfl, _⟩ := rd4.rows (by decide) f.2.items.length (fm_len edt_len _)
    simp only [go_sem, Nat.reduceBEq]
    (refine (ih e hm f.2 (by omega) (by omega) _ _ _ rd3 rd4).mono ?_; rintro _ _ ⟨rfl, rfl⟩; simp only [go_sem, Nat.reduceBEq])
    by_cases kv : V.same e.2 f.2 = true
    case neg =>
      have dv : V.same e.2 f.2 = false := by simpa using kv
      simp only [dv, go_sem, Nat.reduceBEq]
      exact ⟨by rw [← hq, dk, dv]; rfl, rfl⟩
    rw [dk, kv] at hq
    simp only [kv, wsu, go_sem, Nat.reduceBEq]
    exact Again.intro (i + 1) (by first | omega | (simp only; omega)) ⟨hb, rfl, hq⟩ (by repeat (first | exact wkF_e | refine wkF_c rfl ?_)) (wkB_c rfl (wkB_c rfl wkB_e)) rfl
  · have hb : i = a.items.length := by simp at hb; omega
    subst hb
    rw [List.drop_length, sameEs_nil] at hq
    exact ⟨by rw [← hq], rfl⟩
end Go.Proofs.YtconhonjkfpfmaaDoor
namespace Go.Proofs.YtconhonjkfpfmaaDoor
set_option maxRecDepth 8000
open Go Go.Sx
/-- The relation 'op' of an order. -/
def rel (op order : Int) : Bool := if op = 7 then decide (order = 0) else if op = 8 then !decide (order = 0) else if op = 11 then decide (order = -1) else if op = 12 then decide (order = -1) || decide (order = 0) else if op = 13 then decide (order = 1) else if op = 14 then decide (order = 1) || decide (order = 0) else false
theorem iRelation (op order : Int) (h : Hp) : ACalls Tryd.prog 63 #[.int .i64 op, .int .i64 order] h (Is (.bool (rel op order)) h) := by
  refine enter Tryd.func63 rfl rfl (by kernel_rfl) [] ?_
  simp only [go_sem, Nat.reduceBEq]
  repeat' (refine Br.intro (fun hb => ?_) (fun hb => ?_) <;> (try simp only [hb, go_sem, Nat.reduceBEq]))
  all_goals (refine ⟨?_, Ext.refl _⟩; simp_all [rel])
end Go.Proofs.YtconhonjkfpfmaaDoor
namespace Go.Proofs.YtconhonjkfpfmaaDoor
set_option maxRecDepth 8000
open Go Go.Sx
def inR (n : Int) : Prop := -1000000000 ≤ n ∧ n ≤ 1000000000
instance (n : Int) : Decidable (inR n) := inferInstanceAs (Decidable (_ ∧ _))
def clamp (n : Int) : Int × Int := if inR n then (n, 0) else (0, 3)
/-- The arithmetic: a number and an error's number. -/
def arith (op a b : Int) : Int × Int :=
  if ¬ (1 ≤ op ∧ op ≤ 5) then (0, 2) else if ¬ inR a ∨ ¬ inR b then (0, 3) else if b = 0 ∧ (op = 4 ∨ op = 5) then (0, 4) else
    if op = 1 then clamp (a + b) else if op = 2 then clamp (a - b) else if op = 3 then clamp (a * b) else if op = 4 then clamp (a.tdiv b) else clamp (a.tmod b)
theorem mul_in {a b : Int} (ha : inR a) (hb : inR b) : IntKind.i64.wrap (a * b) = a * b := by
  refine IntWalk.i64_in _ ?_
  obtain ⟨a1, a2⟩ := ha
  obtain ⟨b1, b2⟩ := hb
  have h1 : a * b ≤ 1000000000000000000 := by
    have := Int.mul_le_mul_of_natAbs_le (x := a) (y := b) (s := 1000000000) (t := 1000000000) (by omega) (by omega)
    omega
  have h2 : -1000000000000000000 ≤ a * b := by
    have := Int.mul_le_mul_of_natAbs_le (x := -a) (y := b) (s := 1000000000) (t := 1000000000) (by omega) (by omega)
    rw [Int.neg_mul] at this
    omega
  omega
theorem div_in {a b : Int} (ha : inR a) : IntKind.i64.wrap (a.tdiv b) = a.tdiv b := by
  refine IntWalk.i64_in _ ?_
  obtain ⟨a1, a2⟩ := ha
  have h1 := Int.natAbs_tdiv_le_natAbs a b
  omega
theorem iArith (op a b : Int) (h : Hp) : ACalls Tryd.prog 26 #[.int .i64 op, .int .i64 a, .int .i64 b] h (Is (.tuple #[.int .i64 (arith op a b).1, .int .i64 (arith op a b).2]) h) := by
  (refine enter Tryd.func26 rfl rfl (by kernel_rfl) [] ?_; simp only [go_sem, Nat.reduceBEq])
  by_cases ho : 1 ≤ op ∧ op ≤ 5
  case neg =>
    have e : arith op a b = (0, 2) := by unfold arith; rw [if_pos ho]
    by_cases h1 : op < 1
    · simp only [decide_eq_true h1, go_sem, Nat.reduceBEq]
      exact ⟨by rw [e], Ext.refl _⟩
    · simp only [decide_eq_false h1, decide_eq_true (show 5 < op by omega), go_sem, Nat.reduceBEq]
      exact ⟨by rw [e], Ext.refl _⟩
  obtain rfl | rfl | rfl | rfl | rfl : op = 1 ∨ op = 2 ∨ op = 3 ∨ op = 4 ∨ op = 5 := by omega
  · try simp only [Int.reduceLT, Int.reduceNeg, go_sem, Nat.reduceBEq]
    (refine (iInRange a _ _ _).mono ?_; rintro _ _ ⟨rfl, rfl⟩; simp only [go_sem, Nat.reduceBEq])
    by_cases ha : inR a
    case neg =>
      have e : arith 1 a b = (0, 3) := by simp [arith, ha]
      simp only [show decide (-1000000000 ≤ a ∧ a ≤ 1000000000) = false from decide_eq_false ha, Bool.not_false, go_sem, Nat.reduceBEq]
      exact ⟨by rw [e], Ext.refl _⟩
    simp only [show decide (-1000000000 ≤ a ∧ a ≤ 1000000000) = true from decide_eq_true ha, Bool.not_true, go_sem, Nat.reduceBEq]
    (refine (iInRange b _ _ _).mono ?_; rintro _ _ ⟨rfl, rfl⟩; simp only [go_sem, Nat.reduceBEq])
    by_cases hb : inR b
    case neg =>
      have e : arith 1 a b = (0, 3) := by simp [arith, hb]
      simp only [show decide (-1000000000 ≤ b ∧ b ≤ 1000000000) = false from decide_eq_false hb, Bool.not_false, go_sem, Nat.reduceBEq]
      exact ⟨by rw [e], Ext.refl _⟩
    simp only [show decide (-1000000000 ≤ b ∧ b ≤ 1000000000) = true from decide_eq_true hb, Bool.not_true, go_sem, Nat.reduceBEq]
    have hw : IntKind.i64.wrap (a + b) = a + b := IntWalk.i64_in _ (by have := ha.1; have := ha.2; have := hb.1; have := hb.2; omega)
    by_cases hz : b = 0
    · simp only [decide_eq_true hz, hw, Int.reduceNeg, go_sem, Nat.reduceBEq, Int.reduceEq]
      (refine (iInRange (a + b) _ _ _).mono ?_; rintro _ _ ⟨rfl, rfl⟩; simp only [go_sem, Nat.reduceBEq])
      by_cases hn : inR (a + b)
      case neg =>
        have e : arith 1 a b = (0, 3) := by simp [arith, clamp, ha, hb, hn]
        simp only [show decide (-1000000000 ≤ a + b ∧ a + b ≤ 1000000000) = false from decide_eq_false hn, Bool.not_false, go_sem, Nat.reduceBEq]
        exact ⟨by rw [e], Ext.refl _⟩
      have e : arith 1 a b = (a + b, 0) := by simp [arith, clamp, ha, hb, hn]
      simp only [show decide (-1000000000 ≤ a + b ∧ a + b ≤ 1000000000) = true from decide_eq_true hn, Bool.not_true, go_sem, Nat.reduceBEq]
      exact ⟨by rw [e], Ext.refl _⟩
    · simp only [decide_eq_false hz, hw, Int.reduceNeg, go_sem, Nat.reduceBEq]
      (refine (iInRange (a + b) _ _ _).mono ?_; rintro _ _ ⟨rfl, rfl⟩; simp only [go_sem, Nat.reduceBEq])
      by_cases hn : inR (a + b)
      case neg =>
        have e : arith 1 a b = (0, 3) := by simp [arith, clamp, ha, hb, hn]
        simp only [show decide (-1000000000 ≤ a + b ∧ a + b ≤ 1000000000) = false from decide_eq_false hn, Bool.not_false, go_sem, Nat.reduceBEq]
        exact ⟨by rw [e], Ext.refl _⟩
      have e : arith 1 a b = (a + b, 0) := by simp [arith, clamp, ha, hb, hn]
      simp only [show decide (-1000000000 ≤ a + b ∧ a + b ≤ 1000000000) = true from decide_eq_true hn, Bool.not_true, go_sem, Nat.reduceBEq]
      exact ⟨by rw [e], Ext.refl _⟩
  · try simp only [Int.reduceLT, Int.reduceNeg, go_sem, Nat.reduceBEq]
    (refine (iInRange a _ _ _).mono ?_; rintro _ _ ⟨rfl, rfl⟩; simp only [go_sem, Nat.reduceBEq])
    by_cases ha : inR a
    case neg =>
      have e : arith 2 a b = (0, 3) := by simp [arith, ha]
      simp only [show decide (-1000000000 ≤ a ∧ a ≤ 1000000000) = false from decide_eq_false ha, Bool.not_false, go_sem, Nat.reduceBEq]
      exact ⟨by rw [e], Ext.refl _⟩
    simp only [show decide (-1000000000 ≤ a ∧ a ≤ 1000000000) = true from decide_eq_true ha, Bool.not_true, go_sem, Nat.reduceBEq]
    (refine (iInRange b _ _ _).mono ?_; rintro _ _ ⟨rfl, rfl⟩; simp only [go_sem, Nat.reduceBEq])
    by_cases hb : inR b
    case neg =>
      have e : arith 2 a b = (0, 3) := by simp [arith, hb]
      simp only [show decide (-1000000000 ≤ b ∧ b ≤ 1000000000) = false from decide_eq_false hb, Bool.not_false, go_sem, Nat.reduceBEq]
      exact ⟨by rw [e], Ext.refl _⟩
    simp only [show decide (-1000000000 ≤ b ∧ b ≤ 1000000000) = true from decide_eq_true hb, Bool.not_true, go_sem, Nat.reduceBEq]
    have hw : IntKind.i64.wrap (a - b) = a - b := IntWalk.i64_in _ (by have := ha.1; have := ha.2; have := hb.1; have := hb.2; omega)
    by_cases hz : b = 0
    · simp only [decide_eq_true hz, hw, Int.reduceNeg, go_sem, Nat.reduceBEq, Int.reduceEq]
      (refine (iInRange (a - b) _ _ _).mono ?_; rintro _ _ ⟨rfl, rfl⟩; simp only [go_sem, Nat.reduceBEq])
      by_cases hn : inR (a - b)
      case neg =>
        have e : arith 2 a b = (0, 3) := by simp [arith, clamp, ha, hb, hn]
        simp only [show decide (-1000000000 ≤ a - b ∧ a - b ≤ 1000000000) = false from decide_eq_false hn, Bool.not_false, go_sem, Nat.reduceBEq]
        exact ⟨by rw [e], Ext.refl _⟩
      have e : arith 2 a b = (a - b, 0) := by simp [arith, clamp, ha, hb, hn]
      simp only [show decide (-1000000000 ≤ a - b ∧ a - b ≤ 1000000000) = true from decide_eq_true hn, Bool.not_true, go_sem, Nat.reduceBEq]
      exact ⟨by rw [e], Ext.refl _⟩
    · simp only [decide_eq_false hz, hw, Int.reduceNeg, go_sem, Nat.reduceBEq, Int.reduceEq]
      (refine (iInRange (a - b) _ _ _).mono ?_; rintro _ _ ⟨rfl, rfl⟩; simp only [go_sem, Nat.reduceBEq])
      by_cases hn : inR (a - b)
      case neg =>
        have e : arith 2 a b = (0, 3) := by simp [arith, clamp, ha, hb, hn]
        simp only [show decide (-1000000000 ≤ a - b ∧ a - b ≤ 1000000000) = false from decide_eq_false hn, Bool.not_false, go_sem, Nat.reduceBEq]
        exact ⟨by rw [e], Ext.refl _⟩
      have e : arith 2 a b = (a - b, 0) := by simp [arith, clamp, ha, hb, hn]
      simp only [show decide (-1000000000 ≤ a - b ∧ a - b ≤ 1000000000) = true from decide_eq_true hn, Bool.not_true, go_sem, Nat.reduceBEq]
      exact ⟨by rw [e], Ext.refl _⟩
  · try simp only [Int.reduceLT, Int.reduceNeg, go_sem, Nat.reduceBEq]
    (refine (iInRange a _ _ _).mono ?_; rintro _ _ ⟨rfl, rfl⟩; simp only [go_sem, Nat.reduceBEq])
    by_cases ha : inR a
    case neg =>
      have e : arith 3 a b = (0, 3) := by simp [arith, ha]
      simp only [show decide (-1000000000 ≤ a ∧ a ≤ 1000000000) = false from decide_eq_false ha, Bool.not_false, go_sem, Nat.reduceBEq]
      exact ⟨by rw [e], Ext.refl _⟩
    simp only [show decide (-1000000000 ≤ a ∧ a ≤ 1000000000) = true from decide_eq_true ha, Bool.not_true, go_sem, Nat.reduceBEq]
    (refine (iInRange b _ _ _).mono ?_; rintro _ _ ⟨rfl, rfl⟩; simp only [go_sem, Nat.reduceBEq])
    by_cases hb : inR b
    case neg =>
      have e : arith 3 a b = (0, 3) := by simp [arith, hb]
      simp only [show decide (-1000000000 ≤ b ∧ b ≤ 1000000000) = false from decide_eq_false hb, Bool.not_false, go_sem, Nat.reduceBEq]
      exact ⟨by rw [e], Ext.refl _⟩
    simp only [show decide (-1000000000 ≤ b ∧ b ≤ 1000000000) = true from decide_eq_true hb, Bool.not_true, go_sem, Nat.reduceBEq]
    have hw : IntKind.i64.wrap (a * b) = a * b := mul_in ha hb
    by_cases hz : b = 0
    · simp only [decide_eq_true hz, hw, Int.reduceNeg, go_sem, Nat.reduceBEq, Int.reduceEq]
      (refine (iInRange (a * b) _ _ _).mono ?_; rintro _ _ ⟨rfl, rfl⟩; simp only [go_sem, Nat.reduceBEq])
      by_cases hn : inR (a * b)
      case neg =>
        have e : arith 3 a b = (0, 3) := by simp [arith, clamp, ha, hb, hn]
        simp only [show decide (-1000000000 ≤ a * b ∧ a * b ≤ 1000000000) = false from decide_eq_false hn, Bool.not_false, go_sem, Nat.reduceBEq]
        exact ⟨by rw [e], Ext.refl _⟩
      have e : arith 3 a b = (a * b, 0) := by simp [arith, clamp, ha, hb, hn]
      simp only [show decide (-1000000000 ≤ a * b ∧ a * b ≤ 1000000000) = true from decide_eq_true hn, Bool.not_true, go_sem, Nat.reduceBEq]
      exact ⟨by rw [e], Ext.refl _⟩
    · simp only [decide_eq_false hz, hw, Int.reduceNeg, go_sem, Nat.reduceBEq, Int.reduceEq]
      (refine (iInRange (a * b) _ _ _).mono ?_; rintro _ _ ⟨rfl, rfl⟩; simp only [go_sem, Nat.reduceBEq])
      by_cases hn : inR (a * b)
      case neg =>
        have e : arith 3 a b = (0, 3) := by simp [arith, clamp, ha, hb, hn]
        simp only [show decide (-1000000000 ≤ a * b ∧ a * b ≤ 1000000000) = false from decide_eq_false hn, Bool.not_false, go_sem, Nat.reduceBEq]
        exact ⟨by rw [e], Ext.refl _⟩
      have e : arith 3 a b = (a * b, 0) := by simp [arith, clamp, ha, hb, hn]
      simp only [show decide (-1000000000 ≤ a * b ∧ a * b ≤ 1000000000) = true from decide_eq_true hn, Bool.not_true, go_sem, Nat.reduceBEq]
      exact ⟨by rw [e], Ext.refl _⟩
  · try simp only [Int.reduceLT, Int.reduceNeg, go_sem, Nat.reduceBEq]
    (refine (iInRange a _ _ _).mono ?_; rintro _ _ ⟨rfl, rfl⟩; simp only [go_sem, Nat.reduceBEq])
    by_cases ha : inR a
    case neg =>
      have e : arith 4 a b = (0, 3) := by simp [arith, ha]
      simp only [show decide (-1000000000 ≤ a ∧ a ≤ 1000000000) = false from decide_eq_false ha, Bool.not_false, go_sem, Nat.reduceBEq]
      exact ⟨by rw [e], Ext.refl _⟩
    simp only [show decide (-1000000000 ≤ a ∧ a ≤ 1000000000) = true from decide_eq_true ha, Bool.not_true, go_sem, Nat.reduceBEq]
    (refine (iInRange b _ _ _).mono ?_; rintro _ _ ⟨rfl, rfl⟩; simp only [go_sem, Nat.reduceBEq])
    by_cases hb : inR b
    case neg =>
      have e : arith 4 a b = (0, 3) := by simp [arith, hb]
      simp only [show decide (-1000000000 ≤ b ∧ b ≤ 1000000000) = false from decide_eq_false hb, Bool.not_false, go_sem, Nat.reduceBEq]
      exact ⟨by rw [e], Ext.refl _⟩
    simp only [show decide (-1000000000 ≤ b ∧ b ≤ 1000000000) = true from decide_eq_true hb, Bool.not_true, go_sem, Nat.reduceBEq]
    have hw : IntKind.i64.wrap (a.tdiv b) = a.tdiv b := div_in ha
    by_cases hz : b = 0
    case pos =>
      have e : arith 4 a b = (0, 4) := by subst hz; simp [arith, ha, hb]
      try simp only [decide_eq_true hz, Int.reduceNeg, go_sem, Nat.reduceBEq]
      exact ⟨by rw [e], Ext.refl _⟩
    try simp only [decide_eq_false hz, hw, Int.reduceNeg, go_sem, Nat.reduceBEq, Int.reduceEq]
    try refine ⟨hz, ?_⟩
    try simp only [decide_eq_false hz, hw, Int.reduceLT, Int.reduceLE, Int.reduceNeg, go_sem, Nat.reduceBEq, Nat.reduceAdd, Nat.reduceLeDiff, Nat.reduceEqDiff, Int.reduceEq, not_false_eq_true, Int.reduceToNat]
    (refine (iInRange (a.tdiv b) _ _ _).mono ?_; rintro _ _ ⟨rfl, rfl⟩; simp only [go_sem, Nat.reduceBEq])
    by_cases hn : inR (a.tdiv b)
    case neg =>
      have e : arith 4 a b = (0, 3) := by simp [arith, clamp, ha, hb, hn, hz]
      simp only [show decide (-1000000000 ≤ a.tdiv b ∧ a.tdiv b ≤ 1000000000) = false from decide_eq_false hn, Bool.not_false, go_sem, Nat.reduceBEq]
      exact ⟨by rw [e], Ext.refl _⟩
    have e : arith 4 a b = (a.tdiv b, 0) := by simp [arith, clamp, ha, hb, hn, hz]
    simp only [show decide (-1000000000 ≤ a.tdiv b ∧ a.tdiv b ≤ 1000000000) = true from decide_eq_true hn, Bool.not_true, go_sem, Nat.reduceBEq]
    exact ⟨by rw [e], Ext.refl _⟩
  · try simp only [Int.reduceLT, Int.reduceNeg, go_sem, Nat.reduceBEq]
    (refine (iInRange a _ _ _).mono ?_; rintro _ _ ⟨rfl, rfl⟩; simp only [go_sem, Nat.reduceBEq])
    by_cases ha : inR a
    case neg =>
      have e : arith 5 a b = (0, 3) := by simp [arith, ha]
      simp only [show decide (-1000000000 ≤ a ∧ a ≤ 1000000000) = false from decide_eq_false ha, Bool.not_false, go_sem, Nat.reduceBEq]
      exact ⟨by rw [e], Ext.refl _⟩
    simp only [show decide (-1000000000 ≤ a ∧ a ≤ 1000000000) = true from decide_eq_true ha, Bool.not_true, go_sem, Nat.reduceBEq]
    (refine (iInRange b _ _ _).mono ?_; rintro _ _ ⟨rfl, rfl⟩; simp only [go_sem, Nat.reduceBEq])
    by_cases hb : inR b
    case neg =>
      have e : arith 5 a b = (0, 3) := by simp [arith, hb]
      simp only [show decide (-1000000000 ≤ b ∧ b ≤ 1000000000) = false from decide_eq_false hb, Bool.not_false, go_sem, Nat.reduceBEq]
      exact ⟨by rw [e], Ext.refl _⟩
    simp only [show decide (-1000000000 ≤ b ∧ b ≤ 1000000000) = true from decide_eq_true hb, Bool.not_true, go_sem, Nat.reduceBEq]
    by_cases hz : b = 0
    case pos =>
      have e : arith 5 a b = (0, 4) := by subst hz; simp [arith, ha, hb]
      try simp only [decide_eq_true hz, Int.reduceNeg, go_sem, Nat.reduceBEq, Int.reduceEq]
      exact ⟨by rw [e], Ext.refl _⟩
    try simp only [decide_eq_false hz, Int.reduceNeg, go_sem, Nat.reduceBEq, Int.reduceEq]
    try refine ⟨hz, ?_⟩
    try simp only [decide_eq_false hz, Int.reduceLT, Int.reduceLE, Int.reduceNeg, go_sem, Nat.reduceBEq, Nat.reduceAdd, Nat.reduceLeDiff, Nat.reduceEqDiff, Int.reduceEq, not_false_eq_true, Int.reduceToNat]
    (refine (iInRange (a.tmod b) _ _ _).mono ?_; rintro _ _ ⟨rfl, rfl⟩; simp only [go_sem, Nat.reduceBEq])
    by_cases hn : inR (a.tmod b)
    case neg =>
      have e : arith 5 a b = (0, 3) := by simp [arith, clamp, ha, hb, hn, hz]
      simp only [show decide (-1000000000 ≤ a.tmod b ∧ a.tmod b ≤ 1000000000) = false from decide_eq_false hn, Bool.not_false, go_sem, Nat.reduceBEq]
      exact ⟨by rw [e], Ext.refl _⟩
    have e : arith 5 a b = (a.tmod b, 0) := by simp [arith, clamp, ha, hb, hn, hz]
    simp only [show decide (-1000000000 ≤ a.tmod b ∧ a.tmod b ≤ 1000000000) = true from decide_eq_true hn, Bool.not_true, go_sem, Nat.reduceBEq]
    exact ⟨by rw [e], Ext.refl _⟩
end Go.Proofs.YtconhonjkfpfmaaDoor
namespace Go.Proofs.YtconhonjkfpfmaaDoor
set_option maxRecDepth 8000
open Go Go.Sx
def boolV (b : Bool) : V := ⟨1, if b then 1 else 0, ⟨#[]⟩, 0, []⟩
def intV (n : Int) : V := ⟨2, n, ⟨#[]⟩, 0, []⟩
def textV (s : ByteArray) : V := ⟨3, 0, s, 0, []⟩
theorem made_flat {h h' : Hp} (k n : Int) (s : ByteArray) (c : Int) (e : Ext h h') : MadeI h ⟨k, n, s, 0, []⟩ c (.tuple #[.agg #[.int .i64 k, .int .i64 n, .string s, .int .i64 0, .slice none 0 0], .int .i64 c]) h' := ⟨none, 0, rfl, (My.nil e).nilrow⟩
theorem rd_flat (h : Hp) : RdE h [] (.slice none 0 0) := ((My.nil (Ext.refl h)).nilrow (z := 8)).rd
def numOf (op : Int) (a b : V) : V × Int := if ¬ (toNum a).2 = 0 ∨ ¬ (toNum b).2 = 0 then (V.null, 2) else if (arith op (toNum a).1 (toNum b).1).2 = 0 then (intV (arith op (toNum a).1 (toNum b).1).1, 0) else (V.null, (arith op (toNum a).1 (toNum b).1).2)
def catOf (a b : V) : V × Int := if ¬ (V.toText a).2 = 0 ∨ ¬ (V.toText b).2 = 0 then (V.null, 1) else if (V.toText a).1.size + (V.toText b).1.size ≤ 400 then (textV ((V.toText a).1 ++ (V.toText b).1), 0) else (V.null, 9)
def binOf (op : Int) (a b : V) : V × Int :=
  if op = 1 ∧ a.kind = 4 ∧ b.kind = 4 then unionOf a b else if op = 6 then catOf a b else if op = 9 then (boolV (V.same a b), 0) else if op = 10 then (boolV (!V.same a b), 0)
  else if op = 15 then (intV (V.cmp a b), 0) else if 7 ≤ op ∧ op ≤ 14 then (boolV (rel op (V.cmp a b)), 0) else numOf op a b
def unOf (op : Int) (a : V) : V × Int := if op = 1 then (boolV (!toBool a), 0) else if op = 2 then binOf 2 (intV 0) a else (V.null, 2)
theorem text_size {v : V} (hn : IntKind.i64.min ≤ v.num ∧ v.num ≤ IntKind.i64.max) : (V.toText v).1.size ≤ v.str.size + 30 := by
  unfold V.toText
  split
  · exact Nat.zero_le _
  · split
    · split
      · exact Nat.zero_le _
      · show (1 : Nat) ≤ _
        omega
    · split
      · rw [i64max, show IntKind.i64.min = -9223372036854775808 by decide] at hn
        have := Lib.itoa_length_le v.num hn.1 hn.2
        show (Lib.itoa v.num).toArray.size ≤ _
        rw [List.size_toArray]
        omega
      · split
        · simp only; omega
        · exact Nat.zero_le _
theorem bin_bulk (op : Int) (a b : V) : V.bulks (binOf op a b).1.items ≤ V.bulks a.items + V.bulks b.items := by
  unfold binOf
  split
  · exact union_bulk a b
  · repeat' split
    all_goals first | exact Nat.zero_le _ | (unfold catOf; repeat' split) | (unfold numOf; repeat' split)
    all_goals exact Nat.zero_le _
theorem un_bulk (op : Int) (a : V) : V.bulks (unOf op a).1.items ≤ V.bulks a.items := by
  unfold unOf
  split
  · exact Nat.zero_le _
  · split
    · have := bin_bulk 2 (intV 0) a
      have h0 : V.bulks (intV 0).items = 0 := rfl
      omega
    · exact Nat.zero_le _
theorem iBoolV (b : Bool) (h : Hp) : ACalls Tryd.prog 61 #[.bool b] h (Pu (.agg #[.int .i64 1, .int .i64 (if b then 1 else 0), .string ⟨#[]⟩, .int .i64 0, .slice none 0 0]) h) := by
  cases b with
  | false =>
    (refine enter Tryd.func61 rfl rfl (by kernel_rfl) [] ?_; simp only [go_sem, Nat.reduceBEq, Nat.reduceAdd, Nat.reduceLeDiff])
    exact ⟨rfl, rfl⟩
  | true =>
    (refine enter Tryd.func61 rfl rfl (by kernel_rfl) [] ?_; simp only [go_sem, Nat.reduceBEq, Nat.reduceAdd, Nat.reduceLeDiff])
    exact ⟨rfl, rfl⟩
theorem iIntV (n : Int) (h : Hp) : ACalls Tryd.prog 19 #[.int .i64 n] h (Pu (.agg #[.int .i64 2, .int .i64 n, .string ⟨#[]⟩, .int .i64 0, .slice none 0 0]) h) := by
  (refine enter Tryd.func19 rfl rfl (by kernel_rfl) [] ?_; simp only [go_sem, Nat.reduceBEq, Nat.reduceAdd, Nat.reduceLeDiff])
  exact ⟨rfl, rfl⟩
theorem iTextV (s : ByteArray) (h : Hp) : ACalls Tryd.prog 21 #[.string s] h (Pu (.agg #[.int .i64 3, .int .i64 0, .string s, .int .i64 0, .slice none 0 0]) h) := by
  (refine enter Tryd.func21 rfl rfl (by kernel_rfl) [] ?_; simp only [go_sem, Nat.reduceBEq, Nat.reduceAdd, Nat.reduceLeDiff])
  exact ⟨rfl, rfl⟩
theorem sBoolV (b : Bool) (h : Hp) : ACalls Tryd.prog 104 #[.bool b] h (Pu (.agg #[.int .i64 1, .int .i64 (if b then 1 else 0), .string ⟨#[]⟩, .int .i64 0, .slice none 0 0]) h) := by
  cases b with
  | false =>
    (refine enter Tryd.func104 rfl rfl (by kernel_rfl) [] ?_; simp only [go_sem, Nat.reduceBEq, Nat.reduceAdd, Nat.reduceLeDiff])
    exact ⟨rfl, rfl⟩
  | true =>
    (refine enter Tryd.func104 rfl rfl (by kernel_rfl) [] ?_; simp only [go_sem, Nat.reduceBEq, Nat.reduceAdd, Nat.reduceLeDiff])
    exact ⟨rfl, rfl⟩
theorem sIntV (n : Int) (h : Hp) : ACalls Tryd.prog 106 #[.int .i64 n] h (Pu (.agg #[.int .i64 2, .int .i64 n, .string ⟨#[]⟩, .int .i64 0, .slice none 0 0]) h) := by
  (refine enter Tryd.func106 rfl rfl (by kernel_rfl) [] ?_; simp only [go_sem, Nat.reduceBEq, Nat.reduceAdd, Nat.reduceLeDiff])
  exact ⟨rfl, rfl⟩
theorem sTextV (s : ByteArray) (h : Hp) : ACalls Tryd.prog 57 #[.string s] h (Pu (.agg #[.int .i64 3, .int .i64 0, .string s, .int .i64 0, .slice none 0 0]) h) := by
  (refine enter Tryd.func57 rfl rfl (by kernel_rfl) [] ?_; simp only [go_sem, Nat.reduceBEq, Nat.reduceAdd, Nat.reduceLeDiff])
  exact ⟨rfl, rfl⟩
theorem iBin_1 (op : Int) (_hop : IntKind.i64.min ≤ op ∧ op ≤ IntKind.i64.max) (a b : V) (oka : a.ok) (okb : b.ok) (ha : a.bulk ≤ 274877906944) (hb : b.bulk ≤ 274877906944) (sa sb : Value) (h : Hp) (ra : RdE h a.items sa) (rb : RdE h b.items sb) (hE : Env h) (hc : op = 1) :
    ACalls Tryd.prog 28 #[.int .i64 op, .agg #[.int .i64 a.kind, .int .i64 a.num, .string a.str, .int .i64 a.next, sa], .agg #[.int .i64 b.kind, .int .i64 b.num, .string b.str, .int .i64 b.next, sb]] h (MadeI h (binOf op a b).1 (binOf op a b).2) := by
  have hBa := V.bulk_eq a
  have hBb := V.bulk_eq b
  have hna := V.ok_num oka
  have hnb := V.ok_num okb
  have hsa : a.str.size ≤ 1152921504606846976 := by omega
  have hsb : b.str.size ≤ 1152921504606846976 := by omega
  have o1 : decide (op = 1) = true := decide_eq_true hc
  have o6 : decide (op = 6) = false := decide_eq_false (by omega)
  have o7 : decide (op = 7) = false := decide_eq_false (by omega)
  have o8 : decide (op = 8) = false := decide_eq_false (by omega)
  have o9 : decide (op = 9) = false := decide_eq_false (by omega)
  have o10 : decide (op = 10) = false := decide_eq_false (by omega)
  have o11 : decide (op = 11) = false := decide_eq_false (by omega)
  have o12 : decide (op = 12) = false := decide_eq_false (by omega)
  have o13 : decide (op = 13) = false := decide_eq_false (by omega)
  have o14 : decide (op = 14) = false := decide_eq_false (by omega)
  have o15 : decide (op = 15) = false := decide_eq_false (by omega)
  (refine enter Tryd.func28 rfl rfl (by kernel_rfl) [] ?_; simp only [go_sem, Nat.reduceBEq])
  by_cases ka : a.kind = 4
  case neg =>
    have e0 : binOf op a b = numOf op a b := by unfold binOf; rw [if_neg (by omega)]; rw [if_neg (by omega)]; rw [if_neg (by omega)]; rw [if_neg (by omega)]; rw [if_neg (by omega)]; rw [if_neg (by omega)]
    rw [e0]
    have dka := decide_eq_false ka
    simp only [o1, dka, go_sem, Nat.reduceBEq, Nat.reduceAdd, Nat.reduceLeDiff]
    refine (iToNumber a hsa _ _ ra).mono ?_
    rintro _ _ ⟨rfl, rfl⟩
    simp only [go_sem, Nat.reduceBEq, Nat.reduceAdd, Nat.reduceLeDiff]
    refine (iToNumber b hsb _ _ rb).mono ?_
    rintro _ _ ⟨rfl, rfl⟩
    unfold numOf
    by_cases h1 : (toNum a).2 = 0
    case neg =>
      have d1 := decide_eq_false h1
      simp only [d1, go_sem, Nat.reduceBEq]
      rw [if_pos (.inl h1)]
      (refine (iNull _).mono ?_; rintro _ _ ⟨rfl, rfl⟩; simp only [go_sem, Nat.reduceBEq, Nat.reduceAdd, Nat.reduceLeDiff])
      exact made_flat 0 0 ⟨#[]⟩ 2 (Ext.refl _)
    by_cases h2 : (toNum b).2 = 0
    case neg =>
      have d1 := decide_eq_true h1
      have d2 := decide_eq_false h2
      simp only [d1, d2, go_sem, Nat.reduceBEq]
      rw [if_pos (.inr h2)]
      (refine (iNull _).mono ?_; rintro _ _ ⟨rfl, rfl⟩; simp only [go_sem, Nat.reduceBEq, Nat.reduceAdd, Nat.reduceLeDiff])
      exact made_flat 0 0 ⟨#[]⟩ 2 (Ext.refl _)
    have d1 := decide_eq_true h1
    have d2 := decide_eq_true h2
    simp only [d1, d2, go_sem, Nat.reduceBEq]
    rw [if_neg (fun k => k.elim (fun k => k h1) (fun k => k h2))]
    refine (iArith _ _ _ _).mono ?_
    rintro _ h3 ⟨rfl, e3⟩
    by_cases hc : (arith op (toNum a).1 (toNum b).1).2 = 0
    case neg =>
      have dc := decide_eq_false hc
      simp only [dc, go_sem, Nat.reduceBEq]
      rw [if_neg hc]
      (refine (iNull _).mono ?_; rintro _ _ ⟨rfl, rfl⟩; simp only [go_sem, Nat.reduceBEq, Nat.reduceAdd, Nat.reduceLeDiff])
      exact made_flat 0 0 ⟨#[]⟩ _ e3
    have dc := decide_eq_true hc
    simp only [dc, go_sem, Nat.reduceBEq]
    rw [if_pos hc]
    (refine (iIntV _ _).mono ?_; rintro _ _ ⟨rfl, rfl⟩; simp only [go_sem, Nat.reduceBEq, Nat.reduceAdd, Nat.reduceLeDiff])
    exact made_flat 2 _ ⟨#[]⟩ 0 e3
  by_cases kb : b.kind = 4
  case neg =>
    have e0 : binOf op a b = numOf op a b := by unfold binOf; rw [if_neg (by omega)]; rw [if_neg (by omega)]; rw [if_neg (by omega)]; rw [if_neg (by omega)]; rw [if_neg (by omega)]; rw [if_neg (by omega)]
    rw [e0]
    have dka := decide_eq_true ka
    have dkb := decide_eq_false kb
    simp only [o1, dka, dkb, go_sem, Nat.reduceBEq, Nat.reduceAdd, Nat.reduceLeDiff]
    refine (iToNumber a hsa _ _ ra).mono ?_
    rintro _ _ ⟨rfl, rfl⟩
    simp only [go_sem, Nat.reduceBEq, Nat.reduceAdd, Nat.reduceLeDiff]
    refine (iToNumber b hsb _ _ rb).mono ?_
    rintro _ _ ⟨rfl, rfl⟩
    unfold numOf
    by_cases h1 : (toNum a).2 = 0
    case neg =>
      have d1 := decide_eq_false h1
      simp only [d1, go_sem, Nat.reduceBEq]
      rw [if_pos (.inl h1)]
      (refine (iNull _).mono ?_; rintro _ _ ⟨rfl, rfl⟩; simp only [go_sem, Nat.reduceBEq, Nat.reduceAdd, Nat.reduceLeDiff])
      exact made_flat 0 0 ⟨#[]⟩ 2 (Ext.refl _)
    by_cases h2 : (toNum b).2 = 0
    case neg =>
      have d1 := decide_eq_true h1
      have d2 := decide_eq_false h2
      simp only [d1, d2, go_sem, Nat.reduceBEq]
      rw [if_pos (.inr h2)]
      (refine (iNull _).mono ?_; rintro _ _ ⟨rfl, rfl⟩; simp only [go_sem, Nat.reduceBEq, Nat.reduceAdd, Nat.reduceLeDiff])
      exact made_flat 0 0 ⟨#[]⟩ 2 (Ext.refl _)
    have d1 := decide_eq_true h1
    have d2 := decide_eq_true h2
    simp only [d1, d2, go_sem, Nat.reduceBEq]
    rw [if_neg (fun k => k.elim (fun k => k h1) (fun k => k h2))]
    refine (iArith _ _ _ _).mono ?_
    rintro _ h3 ⟨rfl, e3⟩
    by_cases hc : (arith op (toNum a).1 (toNum b).1).2 = 0
    case neg =>
      have dc := decide_eq_false hc
      simp only [dc, go_sem, Nat.reduceBEq]
      rw [if_neg hc]
      (refine (iNull _).mono ?_; rintro _ _ ⟨rfl, rfl⟩; simp only [go_sem, Nat.reduceBEq, Nat.reduceAdd, Nat.reduceLeDiff])
      exact made_flat 0 0 ⟨#[]⟩ _ e3
    have dc := decide_eq_true hc
    simp only [dc, go_sem, Nat.reduceBEq]
    rw [if_pos hc]
    (refine (iIntV _ _).mono ?_; rintro _ _ ⟨rfl, rfl⟩; simp only [go_sem, Nat.reduceBEq, Nat.reduceAdd, Nat.reduceLeDiff])
    exact made_flat 2 _ ⟨#[]⟩ 0 e3
  have dka := decide_eq_true ka
  have dkb := decide_eq_true kb
  have e0 : binOf op a b = unionOf a b := by unfold binOf; rw [if_pos (by omega)]
  rw [e0]
  simp only [o1, dka, dkb, go_sem, Nat.reduceBEq, Nat.reduceAdd, Nat.reduceLeDiff]
  refine (iUnion a b ha hb _ _ _ ra rb hE).mono ?_
  rintro _ h1 ⟨a1, c1, rfl, m1⟩
  simp only [go_sem, Nat.reduceBEq, Nat.reduceAdd, Nat.reduceLeDiff]
  exact ⟨_, _, rfl, m1⟩
theorem iBin_6 (op : Int) (_hop : IntKind.i64.min ≤ op ∧ op ≤ IntKind.i64.max) (a b : V) (oka : a.ok) (okb : b.ok) (ha : a.bulk ≤ 274877906944) (hb : b.bulk ≤ 274877906944) (sa sb : Value) (h : Hp) (ra : RdE h a.items sa) (rb : RdE h b.items sb) (hE : Env h) (hc : op = 6) :
    ACalls Tryd.prog 28 #[.int .i64 op, .agg #[.int .i64 a.kind, .int .i64 a.num, .string a.str, .int .i64 a.next, sa], .agg #[.int .i64 b.kind, .int .i64 b.num, .string b.str, .int .i64 b.next, sb]] h (MadeI h (binOf op a b).1 (binOf op a b).2) := by
  have hBa := V.bulk_eq a
  have hBb := V.bulk_eq b
  have hna := V.ok_num oka
  have hnb := V.ok_num okb
  have hsa : a.str.size ≤ 1152921504606846976 := by omega
  have hsb : b.str.size ≤ 1152921504606846976 := by omega
  have o1 : decide (op = 1) = false := decide_eq_false (by omega)
  have o6 : decide (op = 6) = true := decide_eq_true hc
  have o7 : decide (op = 7) = false := decide_eq_false (by omega)
  have o8 : decide (op = 8) = false := decide_eq_false (by omega)
  have o9 : decide (op = 9) = false := decide_eq_false (by omega)
  have o10 : decide (op = 10) = false := decide_eq_false (by omega)
  have o11 : decide (op = 11) = false := decide_eq_false (by omega)
  have o12 : decide (op = 12) = false := decide_eq_false (by omega)
  have o13 : decide (op = 13) = false := decide_eq_false (by omega)
  have o14 : decide (op = 14) = false := decide_eq_false (by omega)
  have o15 : decide (op = 15) = false := decide_eq_false (by omega)
  have e0 : binOf op a b = catOf a b := by unfold binOf; rw [if_neg (by omega)]; rw [if_pos (by omega)]
  rw [e0]
  (refine enter Tryd.func28 rfl rfl (by kernel_rfl) [] ?_; simp only [go_sem, Nat.reduceBEq])
  simp only [o1, o6, go_sem, Nat.reduceBEq, Nat.reduceAdd, Nat.reduceLeDiff]
  refine (iToText a hna _ _ ra hE.pow).mono ?_
  rintro _ h1 ⟨rfl, e1⟩
  simp only [go_sem, Nat.reduceBEq, Nat.reduceAdd, Nat.reduceLeDiff]
  refine (iToText b hnb _ _ (rb.mono e1) (hE.pow.ext e1)).mono ?_
  rintro _ h2 ⟨rfl, e2⟩
  have e12 := e1.trans e2
  have ta := text_size hna
  have tb := text_size hnb
  unfold catOf
  by_cases h1 : (V.toText a).2 = 0
  case neg =>
    have d1 := decide_eq_false h1
    simp only [d1, go_sem, Nat.reduceBEq]
    rw [if_pos (.inl h1)]
    (refine (iNull _).mono ?_; rintro _ _ ⟨rfl, rfl⟩; simp only [go_sem, Nat.reduceBEq, Nat.reduceAdd, Nat.reduceLeDiff])
    exact made_flat 0 0 ⟨#[]⟩ 1 e12
  by_cases h2 : (V.toText b).2 = 0
  case neg =>
    have d1 := decide_eq_true h1
    have d2 := decide_eq_false h2
    simp only [d1, d2, go_sem, Nat.reduceBEq]
    rw [if_pos (.inr h2)]
    (refine (iNull _).mono ?_; rintro _ _ ⟨rfl, rfl⟩; simp only [go_sem, Nat.reduceBEq, Nat.reduceAdd, Nat.reduceLeDiff])
    exact made_flat 0 0 ⟨#[]⟩ 1 e12
  have d1 := decide_eq_true h1
  have d2 := decide_eq_true h2
  rw [if_neg (fun k => k.elim (fun k => k h1) (fun k => k h2))]
  have wsum : IntKind.i64.wrap (((V.toText a).1.size : Int) + ((V.toText b).1.size : Int)) = (((V.toText a).1.size + (V.toText b).1.size : Nat) : Int) := by rw [IntWalk.i64_in _ (by omega)]; rfl
  have dz : decide ((400 : Int) < (((V.toText a).1.size + (V.toText b).1.size : Nat) : Int)) = !decide ((V.toText a).1.size + (V.toText b).1.size ≤ 400) := by
    rw [← decide_not]
    exact decide_eq_decide.2 (by omega)
  by_cases hz : (V.toText a).1.size + (V.toText b).1.size ≤ 400
  case neg =>
    have dz2 := decide_eq_false hz
    simp only [d1, d2, wsum, dz, dz2, go_sem, Nat.reduceBEq]
    rw [if_neg hz]
    (refine (iNull _).mono ?_; rintro _ _ ⟨rfl, rfl⟩; simp only [go_sem, Nat.reduceBEq, Nat.reduceAdd, Nat.reduceLeDiff])
    exact made_flat 0 0 ⟨#[]⟩ 9 e12
  have dz2 := decide_eq_true hz
  have hsz : (((V.toText a).1.size + (V.toText b).1.size : Nat) : Int) ≤ IntKind.i64.max := by rw [i64max]; omega
  simp only [d1, d2, wsum, dz, dz2, hsz, go_sem, Nat.reduceBEq]
  rw [if_pos hz]
  (refine (iTextV _ _).mono ?_; rintro _ _ ⟨rfl, rfl⟩; simp only [go_sem, Nat.reduceBEq, Nat.reduceAdd, Nat.reduceLeDiff])
  exact made_flat 3 0 _ 0 e12
theorem iBin_7 (op : Int) (_hop : IntKind.i64.min ≤ op ∧ op ≤ IntKind.i64.max) (a b : V) (oka : a.ok) (okb : b.ok) (ha : a.bulk ≤ 274877906944) (hb : b.bulk ≤ 274877906944) (sa sb : Value) (h : Hp) (ra : RdE h a.items sa) (rb : RdE h b.items sb) (hE : Env h) (hc : op = 7) :
    ACalls Tryd.prog 28 #[.int .i64 op, .agg #[.int .i64 a.kind, .int .i64 a.num, .string a.str, .int .i64 a.next, sa], .agg #[.int .i64 b.kind, .int .i64 b.num, .string b.str, .int .i64 b.next, sb]] h (MadeI h (binOf op a b).1 (binOf op a b).2) := by
  have hBa := V.bulk_eq a
  have hBb := V.bulk_eq b
  have hna := V.ok_num oka
  have hnb := V.ok_num okb
  have hsa : a.str.size ≤ 1152921504606846976 := by omega
  have hsb : b.str.size ≤ 1152921504606846976 := by omega
  have o1 : decide (op = 1) = false := decide_eq_false (by omega)
  have o6 : decide (op = 6) = false := decide_eq_false (by omega)
  have o7 : decide (op = 7) = true := decide_eq_true hc
  have o8 : decide (op = 8) = false := decide_eq_false (by omega)
  have o9 : decide (op = 9) = false := decide_eq_false (by omega)
  have o10 : decide (op = 10) = false := decide_eq_false (by omega)
  have o11 : decide (op = 11) = false := decide_eq_false (by omega)
  have o12 : decide (op = 12) = false := decide_eq_false (by omega)
  have o13 : decide (op = 13) = false := decide_eq_false (by omega)
  have o14 : decide (op = 14) = false := decide_eq_false (by omega)
  have o15 : decide (op = 15) = false := decide_eq_false (by omega)
  have e0 : binOf op a b = (boolV (rel op (V.cmp a b)), 0) := by unfold binOf; rw [if_neg (by omega)]; rw [if_neg (by omega)]; rw [if_neg (by omega)]; rw [if_neg (by omega)]; rw [if_neg (by omega)]; rw [if_pos (by omega)]
  rw [e0]
  (refine enter Tryd.func28 rfl rfl (by kernel_rfl) [] ?_; simp only [go_sem, Nat.reduceBEq])
  simp only [o1, o6, o7, o9, o10, go_sem, Nat.reduceBEq, Nat.reduceAdd, Nat.reduceLeDiff]
  refine (iCompare a b oka okb (by omega) (by omega) _ _ _ ra rb hE.pow).mono ?_
  rintro _ h1 ⟨rfl, e1⟩
  simp only [go_sem, Nat.reduceBEq]
  refine (iRelation op _ _).mono ?_
  rintro _ h2 ⟨rfl, e2⟩
  simp only [go_sem, Nat.reduceBEq]
  (refine (iBoolV _ _).mono ?_; rintro _ _ ⟨rfl, rfl⟩; simp only [go_sem, Nat.reduceBEq, Nat.reduceAdd, Nat.reduceLeDiff])
  exact made_flat 1 _ ⟨#[]⟩ 0 (e1.trans e2)
theorem iBin_8 (op : Int) (_hop : IntKind.i64.min ≤ op ∧ op ≤ IntKind.i64.max) (a b : V) (oka : a.ok) (okb : b.ok) (ha : a.bulk ≤ 274877906944) (hb : b.bulk ≤ 274877906944) (sa sb : Value) (h : Hp) (ra : RdE h a.items sa) (rb : RdE h b.items sb) (hE : Env h) (hc : op = 8) :
    ACalls Tryd.prog 28 #[.int .i64 op, .agg #[.int .i64 a.kind, .int .i64 a.num, .string a.str, .int .i64 a.next, sa], .agg #[.int .i64 b.kind, .int .i64 b.num, .string b.str, .int .i64 b.next, sb]] h (MadeI h (binOf op a b).1 (binOf op a b).2) := by
  have hBa := V.bulk_eq a
  have hBb := V.bulk_eq b
  have hna := V.ok_num oka
  have hnb := V.ok_num okb
  have hsa : a.str.size ≤ 1152921504606846976 := by omega
  have hsb : b.str.size ≤ 1152921504606846976 := by omega
  have o1 : decide (op = 1) = false := decide_eq_false (by omega)
  have o6 : decide (op = 6) = false := decide_eq_false (by omega)
  have o7 : decide (op = 7) = false := decide_eq_false (by omega)
  have o8 : decide (op = 8) = true := decide_eq_true hc
  have o9 : decide (op = 9) = false := decide_eq_false (by omega)
  have o10 : decide (op = 10) = false := decide_eq_false (by omega)
  have o11 : decide (op = 11) = false := decide_eq_false (by omega)
  have o12 : decide (op = 12) = false := decide_eq_false (by omega)
  have o13 : decide (op = 13) = false := decide_eq_false (by omega)
  have o14 : decide (op = 14) = false := decide_eq_false (by omega)
  have o15 : decide (op = 15) = false := decide_eq_false (by omega)
  have e0 : binOf op a b = (boolV (rel op (V.cmp a b)), 0) := by unfold binOf; rw [if_neg (by omega)]; rw [if_neg (by omega)]; rw [if_neg (by omega)]; rw [if_neg (by omega)]; rw [if_neg (by omega)]; rw [if_pos (by omega)]
  rw [e0]
  (refine enter Tryd.func28 rfl rfl (by kernel_rfl) [] ?_; simp only [go_sem, Nat.reduceBEq])
  simp only [o1, o6, o7, o8, o9, o10, go_sem, Nat.reduceBEq, Nat.reduceAdd, Nat.reduceLeDiff]
  refine (iCompare a b oka okb (by omega) (by omega) _ _ _ ra rb hE.pow).mono ?_
  rintro _ h1 ⟨rfl, e1⟩
  simp only [go_sem, Nat.reduceBEq]
  refine (iRelation op _ _).mono ?_
  rintro _ h2 ⟨rfl, e2⟩
  simp only [go_sem, Nat.reduceBEq]
  (refine (iBoolV _ _).mono ?_; rintro _ _ ⟨rfl, rfl⟩; simp only [go_sem, Nat.reduceBEq, Nat.reduceAdd, Nat.reduceLeDiff])
  exact made_flat 1 _ ⟨#[]⟩ 0 (e1.trans e2)
theorem iBin_9 (op : Int) (_hop : IntKind.i64.min ≤ op ∧ op ≤ IntKind.i64.max) (a b : V) (oka : a.ok) (okb : b.ok) (ha : a.bulk ≤ 274877906944) (hb : b.bulk ≤ 274877906944) (sa sb : Value) (h : Hp) (ra : RdE h a.items sa) (rb : RdE h b.items sb) (_hE : Env h) (hc : op = 9) :
    ACalls Tryd.prog 28 #[.int .i64 op, .agg #[.int .i64 a.kind, .int .i64 a.num, .string a.str, .int .i64 a.next, sa], .agg #[.int .i64 b.kind, .int .i64 b.num, .string b.str, .int .i64 b.next, sb]] h (MadeI h (binOf op a b).1 (binOf op a b).2) := by
  have hBa := V.bulk_eq a
  have hBb := V.bulk_eq b
  have hna := V.ok_num oka
  have hnb := V.ok_num okb
  have hsa : a.str.size ≤ 1152921504606846976 := by omega
  have hsb : b.str.size ≤ 1152921504606846976 := by omega
  have o1 : decide (op = 1) = false := decide_eq_false (by omega)
  have o6 : decide (op = 6) = false := decide_eq_false (by omega)
  have o7 : decide (op = 7) = false := decide_eq_false (by omega)
  have o8 : decide (op = 8) = false := decide_eq_false (by omega)
  have o9 : decide (op = 9) = true := decide_eq_true hc
  have o10 : decide (op = 10) = false := decide_eq_false (by omega)
  have o11 : decide (op = 11) = false := decide_eq_false (by omega)
  have o12 : decide (op = 12) = false := decide_eq_false (by omega)
  have o13 : decide (op = 13) = false := decide_eq_false (by omega)
  have o14 : decide (op = 14) = false := decide_eq_false (by omega)
  have o15 : decide (op = 15) = false := decide_eq_false (by omega)
  have e0 : binOf op a b = (boolV (V.same a b), 0) := by unfold binOf; rw [if_neg (by omega)]; rw [if_neg (by omega)]; rw [if_pos (by omega)]
  rw [e0]
  (refine enter Tryd.func28 rfl rfl (by kernel_rfl) [] ?_; simp only [go_sem, Nat.reduceBEq])
  simp only [o1, o6, o9, go_sem, Nat.reduceBEq, Nat.reduceAdd, Nat.reduceLeDiff]
  (refine (iSame a b (by omega) (by omega) _ _ _ ra rb).mono ?_; rintro _ _ ⟨rfl, rfl⟩; simp only [go_sem, Nat.reduceBEq])
  (refine (iBoolV _ _).mono ?_; rintro _ _ ⟨rfl, rfl⟩; simp only [go_sem, Nat.reduceBEq, Nat.reduceAdd, Nat.reduceLeDiff])
  exact made_flat 1 _ ⟨#[]⟩ 0 (Ext.refl _)
theorem iBin_10 (op : Int) (_hop : IntKind.i64.min ≤ op ∧ op ≤ IntKind.i64.max) (a b : V) (oka : a.ok) (okb : b.ok) (ha : a.bulk ≤ 274877906944) (hb : b.bulk ≤ 274877906944) (sa sb : Value) (h : Hp) (ra : RdE h a.items sa) (rb : RdE h b.items sb) (_hE : Env h) (hc : op = 10) :
    ACalls Tryd.prog 28 #[.int .i64 op, .agg #[.int .i64 a.kind, .int .i64 a.num, .string a.str, .int .i64 a.next, sa], .agg #[.int .i64 b.kind, .int .i64 b.num, .string b.str, .int .i64 b.next, sb]] h (MadeI h (binOf op a b).1 (binOf op a b).2) := by
  have hBa := V.bulk_eq a
  have hBb := V.bulk_eq b
  have hna := V.ok_num oka
  have hnb := V.ok_num okb
  have hsa : a.str.size ≤ 1152921504606846976 := by omega
  have hsb : b.str.size ≤ 1152921504606846976 := by omega
  have o1 : decide (op = 1) = false := decide_eq_false (by omega)
  have o6 : decide (op = 6) = false := decide_eq_false (by omega)
  have o7 : decide (op = 7) = false := decide_eq_false (by omega)
  have o8 : decide (op = 8) = false := decide_eq_false (by omega)
  have o9 : decide (op = 9) = false := decide_eq_false (by omega)
  have o10 : decide (op = 10) = true := decide_eq_true hc
  have o11 : decide (op = 11) = false := decide_eq_false (by omega)
  have o12 : decide (op = 12) = false := decide_eq_false (by omega)
  have o13 : decide (op = 13) = false := decide_eq_false (by omega)
  have o14 : decide (op = 14) = false := decide_eq_false (by omega)
  have o15 : decide (op = 15) = false := decide_eq_false (by omega)
  have e0 : binOf op a b = (boolV (!V.same a b), 0) := by unfold binOf; rw [if_neg (by omega)]; rw [if_neg (by omega)]; rw [if_neg (by omega)]; rw [if_pos (by omega)]
  rw [e0]
  (refine enter Tryd.func28 rfl rfl (by kernel_rfl) [] ?_; simp only [go_sem, Nat.reduceBEq])
  simp only [o1, o6, o9, o10, go_sem, Nat.reduceBEq, Nat.reduceAdd, Nat.reduceLeDiff]
  (refine (iSame a b (by omega) (by omega) _ _ _ ra rb).mono ?_; rintro _ _ ⟨rfl, rfl⟩; simp only [go_sem, Nat.reduceBEq])
  (refine (iBoolV _ _).mono ?_; rintro _ _ ⟨rfl, rfl⟩; simp only [go_sem, Nat.reduceBEq, Nat.reduceAdd, Nat.reduceLeDiff])
  exact made_flat 1 _ ⟨#[]⟩ 0 (Ext.refl _)
theorem iBin_11 (op : Int) (_hop : IntKind.i64.min ≤ op ∧ op ≤ IntKind.i64.max) (a b : V) (oka : a.ok) (okb : b.ok) (ha : a.bulk ≤ 274877906944) (hb : b.bulk ≤ 274877906944) (sa sb : Value) (h : Hp) (ra : RdE h a.items sa) (rb : RdE h b.items sb) (hE : Env h) (hc : op = 11) :
    ACalls Tryd.prog 28 #[.int .i64 op, .agg #[.int .i64 a.kind, .int .i64 a.num, .string a.str, .int .i64 a.next, sa], .agg #[.int .i64 b.kind, .int .i64 b.num, .string b.str, .int .i64 b.next, sb]] h (MadeI h (binOf op a b).1 (binOf op a b).2) := by
  have hBa := V.bulk_eq a
  have hBb := V.bulk_eq b
  have hna := V.ok_num oka
  have hnb := V.ok_num okb
  have hsa : a.str.size ≤ 1152921504606846976 := by omega
  have hsb : b.str.size ≤ 1152921504606846976 := by omega
  have o1 : decide (op = 1) = false := decide_eq_false (by omega)
  have o6 : decide (op = 6) = false := decide_eq_false (by omega)
  have o7 : decide (op = 7) = false := decide_eq_false (by omega)
  have o8 : decide (op = 8) = false := decide_eq_false (by omega)
  have o9 : decide (op = 9) = false := decide_eq_false (by omega)
  have o10 : decide (op = 10) = false := decide_eq_false (by omega)
  have o11 : decide (op = 11) = true := decide_eq_true hc
  have o12 : decide (op = 12) = false := decide_eq_false (by omega)
  have o13 : decide (op = 13) = false := decide_eq_false (by omega)
  have o14 : decide (op = 14) = false := decide_eq_false (by omega)
  have o15 : decide (op = 15) = false := decide_eq_false (by omega)
  have e0 : binOf op a b = (boolV (rel op (V.cmp a b)), 0) := by unfold binOf; rw [if_neg (by omega)]; rw [if_neg (by omega)]; rw [if_neg (by omega)]; rw [if_neg (by omega)]; rw [if_neg (by omega)]; rw [if_pos (by omega)]
  rw [e0]
  (refine enter Tryd.func28 rfl rfl (by kernel_rfl) [] ?_; simp only [go_sem, Nat.reduceBEq])
  simp only [o1, o6, o7, o8, o9, o10, o11, go_sem, Nat.reduceBEq, Nat.reduceAdd, Nat.reduceLeDiff]
  refine (iCompare a b oka okb (by omega) (by omega) _ _ _ ra rb hE.pow).mono ?_
  rintro _ h1 ⟨rfl, e1⟩
  simp only [go_sem, Nat.reduceBEq]
  refine (iRelation op _ _).mono ?_
  rintro _ h2 ⟨rfl, e2⟩
  simp only [go_sem, Nat.reduceBEq]
  (refine (iBoolV _ _).mono ?_; rintro _ _ ⟨rfl, rfl⟩; simp only [go_sem, Nat.reduceBEq, Nat.reduceAdd, Nat.reduceLeDiff])
  exact made_flat 1 _ ⟨#[]⟩ 0 (e1.trans e2)
theorem iBin_12 (op : Int) (_hop : IntKind.i64.min ≤ op ∧ op ≤ IntKind.i64.max) (a b : V) (oka : a.ok) (okb : b.ok) (ha : a.bulk ≤ 274877906944) (hb : b.bulk ≤ 274877906944) (sa sb : Value) (h : Hp) (ra : RdE h a.items sa) (rb : RdE h b.items sb) (hE : Env h) (hc : op = 12) :
    ACalls Tryd.prog 28 #[.int .i64 op, .agg #[.int .i64 a.kind, .int .i64 a.num, .string a.str, .int .i64 a.next, sa], .agg #[.int .i64 b.kind, .int .i64 b.num, .string b.str, .int .i64 b.next, sb]] h (MadeI h (binOf op a b).1 (binOf op a b).2) := by
  have hBa := V.bulk_eq a
  have hBb := V.bulk_eq b
  have hna := V.ok_num oka
  have hnb := V.ok_num okb
  have hsa : a.str.size ≤ 1152921504606846976 := by omega
  have hsb : b.str.size ≤ 1152921504606846976 := by omega
  have o1 : decide (op = 1) = false := decide_eq_false (by omega)
  have o6 : decide (op = 6) = false := decide_eq_false (by omega)
  have o7 : decide (op = 7) = false := decide_eq_false (by omega)
  have o8 : decide (op = 8) = false := decide_eq_false (by omega)
  have o9 : decide (op = 9) = false := decide_eq_false (by omega)
  have o10 : decide (op = 10) = false := decide_eq_false (by omega)
  have o11 : decide (op = 11) = false := decide_eq_false (by omega)
  have o12 : decide (op = 12) = true := decide_eq_true hc
  have o13 : decide (op = 13) = false := decide_eq_false (by omega)
  have o14 : decide (op = 14) = false := decide_eq_false (by omega)
  have o15 : decide (op = 15) = false := decide_eq_false (by omega)
  have e0 : binOf op a b = (boolV (rel op (V.cmp a b)), 0) := by unfold binOf; rw [if_neg (by omega)]; rw [if_neg (by omega)]; rw [if_neg (by omega)]; rw [if_neg (by omega)]; rw [if_neg (by omega)]; rw [if_pos (by omega)]
  rw [e0]
  (refine enter Tryd.func28 rfl rfl (by kernel_rfl) [] ?_; simp only [go_sem, Nat.reduceBEq])
  simp only [o1, o6, o7, o8, o9, o10, o11, o12, go_sem, Nat.reduceBEq, Nat.reduceAdd, Nat.reduceLeDiff]
  refine (iCompare a b oka okb (by omega) (by omega) _ _ _ ra rb hE.pow).mono ?_
  rintro _ h1 ⟨rfl, e1⟩
  simp only [go_sem, Nat.reduceBEq]
  refine (iRelation op _ _).mono ?_
  rintro _ h2 ⟨rfl, e2⟩
  simp only [go_sem, Nat.reduceBEq]
  (refine (iBoolV _ _).mono ?_; rintro _ _ ⟨rfl, rfl⟩; simp only [go_sem, Nat.reduceBEq, Nat.reduceAdd, Nat.reduceLeDiff])
  exact made_flat 1 _ ⟨#[]⟩ 0 (e1.trans e2)
theorem iBin_13 (op : Int) (_hop : IntKind.i64.min ≤ op ∧ op ≤ IntKind.i64.max) (a b : V) (oka : a.ok) (okb : b.ok) (ha : a.bulk ≤ 274877906944) (hb : b.bulk ≤ 274877906944) (sa sb : Value) (h : Hp) (ra : RdE h a.items sa) (rb : RdE h b.items sb) (hE : Env h) (hc : op = 13) :
    ACalls Tryd.prog 28 #[.int .i64 op, .agg #[.int .i64 a.kind, .int .i64 a.num, .string a.str, .int .i64 a.next, sa], .agg #[.int .i64 b.kind, .int .i64 b.num, .string b.str, .int .i64 b.next, sb]] h (MadeI h (binOf op a b).1 (binOf op a b).2) := by
  have hBa := V.bulk_eq a
  have hBb := V.bulk_eq b
  have hna := V.ok_num oka
  have hnb := V.ok_num okb
  have hsa : a.str.size ≤ 1152921504606846976 := by omega
  have hsb : b.str.size ≤ 1152921504606846976 := by omega
  have o1 : decide (op = 1) = false := decide_eq_false (by omega)
  have o6 : decide (op = 6) = false := decide_eq_false (by omega)
  have o7 : decide (op = 7) = false := decide_eq_false (by omega)
  have o8 : decide (op = 8) = false := decide_eq_false (by omega)
  have o9 : decide (op = 9) = false := decide_eq_false (by omega)
  have o10 : decide (op = 10) = false := decide_eq_false (by omega)
  have o11 : decide (op = 11) = false := decide_eq_false (by omega)
  have o12 : decide (op = 12) = false := decide_eq_false (by omega)
  have o13 : decide (op = 13) = true := decide_eq_true hc
  have o14 : decide (op = 14) = false := decide_eq_false (by omega)
  have o15 : decide (op = 15) = false := decide_eq_false (by omega)
  have e0 : binOf op a b = (boolV (rel op (V.cmp a b)), 0) := by unfold binOf; rw [if_neg (by omega)]; rw [if_neg (by omega)]; rw [if_neg (by omega)]; rw [if_neg (by omega)]; rw [if_neg (by omega)]; rw [if_pos (by omega)]
  rw [e0]
  (refine enter Tryd.func28 rfl rfl (by kernel_rfl) [] ?_; simp only [go_sem, Nat.reduceBEq])
  simp only [o1, o6, o7, o8, o9, o10, o11, o12, o13, go_sem, Nat.reduceBEq, Nat.reduceAdd, Nat.reduceLeDiff]
  refine (iCompare a b oka okb (by omega) (by omega) _ _ _ ra rb hE.pow).mono ?_
  rintro _ h1 ⟨rfl, e1⟩
  simp only [go_sem, Nat.reduceBEq]
  refine (iRelation op _ _).mono ?_
  rintro _ h2 ⟨rfl, e2⟩
  simp only [go_sem, Nat.reduceBEq]
  (refine (iBoolV _ _).mono ?_; rintro _ _ ⟨rfl, rfl⟩; simp only [go_sem, Nat.reduceBEq, Nat.reduceAdd, Nat.reduceLeDiff])
  exact made_flat 1 _ ⟨#[]⟩ 0 (e1.trans e2)
theorem iBin_14 (op : Int) (_hop : IntKind.i64.min ≤ op ∧ op ≤ IntKind.i64.max) (a b : V) (oka : a.ok) (okb : b.ok) (ha : a.bulk ≤ 274877906944) (hb : b.bulk ≤ 274877906944) (sa sb : Value) (h : Hp) (ra : RdE h a.items sa) (rb : RdE h b.items sb) (hE : Env h) (hc : op = 14) :
    ACalls Tryd.prog 28 #[.int .i64 op, .agg #[.int .i64 a.kind, .int .i64 a.num, .string a.str, .int .i64 a.next, sa], .agg #[.int .i64 b.kind, .int .i64 b.num, .string b.str, .int .i64 b.next, sb]] h (MadeI h (binOf op a b).1 (binOf op a b).2) := by
  have hBa := V.bulk_eq a
  have hBb := V.bulk_eq b
  have hna := V.ok_num oka
  have hnb := V.ok_num okb
  have hsa : a.str.size ≤ 1152921504606846976 := by omega
  have hsb : b.str.size ≤ 1152921504606846976 := by omega
  have o1 : decide (op = 1) = false := decide_eq_false (by omega)
  have o6 : decide (op = 6) = false := decide_eq_false (by omega)
  have o7 : decide (op = 7) = false := decide_eq_false (by omega)
  have o8 : decide (op = 8) = false := decide_eq_false (by omega)
  have o9 : decide (op = 9) = false := decide_eq_false (by omega)
  have o10 : decide (op = 10) = false := decide_eq_false (by omega)
  have o11 : decide (op = 11) = false := decide_eq_false (by omega)
  have o12 : decide (op = 12) = false := decide_eq_false (by omega)
  have o13 : decide (op = 13) = false := decide_eq_false (by omega)
  have o14 : decide (op = 14) = true := decide_eq_true hc
  have o15 : decide (op = 15) = false := decide_eq_false (by omega)
  have e0 : binOf op a b = (boolV (rel op (V.cmp a b)), 0) := by unfold binOf; rw [if_neg (by omega)]; rw [if_neg (by omega)]; rw [if_neg (by omega)]; rw [if_neg (by omega)]; rw [if_neg (by omega)]; rw [if_pos (by omega)]
  rw [e0]
  (refine enter Tryd.func28 rfl rfl (by kernel_rfl) [] ?_; simp only [go_sem, Nat.reduceBEq])
  simp only [o1, o6, o7, o8, o9, o10, o11, o12, o13, o14, go_sem, Nat.reduceBEq, Nat.reduceAdd, Nat.reduceLeDiff]
  refine (iCompare a b oka okb (by omega) (by omega) _ _ _ ra rb hE.pow).mono ?_
  rintro _ h1 ⟨rfl, e1⟩
  simp only [go_sem, Nat.reduceBEq]
  refine (iRelation op _ _).mono ?_
  rintro _ h2 ⟨rfl, e2⟩
  simp only [go_sem, Nat.reduceBEq]
  (refine (iBoolV _ _).mono ?_; rintro _ _ ⟨rfl, rfl⟩; simp only [go_sem, Nat.reduceBEq, Nat.reduceAdd, Nat.reduceLeDiff])
  exact made_flat 1 _ ⟨#[]⟩ 0 (e1.trans e2)
theorem iBin_15 (op : Int) (_hop : IntKind.i64.min ≤ op ∧ op ≤ IntKind.i64.max) (a b : V) (oka : a.ok) (okb : b.ok) (ha : a.bulk ≤ 274877906944) (hb : b.bulk ≤ 274877906944) (sa sb : Value) (h : Hp) (ra : RdE h a.items sa) (rb : RdE h b.items sb) (hE : Env h) (hc : op = 15) :
    ACalls Tryd.prog 28 #[.int .i64 op, .agg #[.int .i64 a.kind, .int .i64 a.num, .string a.str, .int .i64 a.next, sa], .agg #[.int .i64 b.kind, .int .i64 b.num, .string b.str, .int .i64 b.next, sb]] h (MadeI h (binOf op a b).1 (binOf op a b).2) := by
  have hBa := V.bulk_eq a
  have hBb := V.bulk_eq b
  have hna := V.ok_num oka
  have hnb := V.ok_num okb
  have hsa : a.str.size ≤ 1152921504606846976 := by omega
  have hsb : b.str.size ≤ 1152921504606846976 := by omega
  have o1 : decide (op = 1) = false := decide_eq_false (by omega)
  have o6 : decide (op = 6) = false := decide_eq_false (by omega)
  have o7 : decide (op = 7) = false := decide_eq_false (by omega)
  have o8 : decide (op = 8) = false := decide_eq_false (by omega)
  have o9 : decide (op = 9) = false := decide_eq_false (by omega)
  have o10 : decide (op = 10) = false := decide_eq_false (by omega)
  have o11 : decide (op = 11) = false := decide_eq_false (by omega)
  have o12 : decide (op = 12) = false := decide_eq_false (by omega)
  have o13 : decide (op = 13) = false := decide_eq_false (by omega)
  have o14 : decide (op = 14) = false := decide_eq_false (by omega)
  have o15 : decide (op = 15) = true := decide_eq_true hc
  have e0 : binOf op a b = (intV (V.cmp a b), 0) := by unfold binOf; rw [if_neg (by omega)]; rw [if_neg (by omega)]; rw [if_neg (by omega)]; rw [if_neg (by omega)]; rw [if_pos (by omega)]
  rw [e0]
  (refine enter Tryd.func28 rfl rfl (by kernel_rfl) [] ?_; simp only [go_sem, Nat.reduceBEq])
  simp only [o1, o6, o7, o8, o9, o10, o11, o12, o13, o14, o15, go_sem, Nat.reduceBEq, Nat.reduceAdd, Nat.reduceLeDiff]
  refine (iCompare a b oka okb (by omega) (by omega) _ _ _ ra rb hE.pow).mono ?_
  rintro _ h1 ⟨rfl, e1⟩
  simp only [go_sem, Nat.reduceBEq]
  (refine (iIntV _ _).mono ?_; rintro _ _ ⟨rfl, rfl⟩; simp only [go_sem, Nat.reduceBEq, Nat.reduceAdd, Nat.reduceLeDiff])
  exact made_flat 2 _ ⟨#[]⟩ 0 e1
theorem iBin_0 (op : Int) (_hop : IntKind.i64.min ≤ op ∧ op ≤ IntKind.i64.max) (a b : V) (oka : a.ok) (okb : b.ok) (ha : a.bulk ≤ 274877906944) (hb : b.bulk ≤ 274877906944) (sa sb : Value) (h : Hp) (ra : RdE h a.items sa) (rb : RdE h b.items sb) (_hE : Env h) (hc : ¬ op = 1 ∧ ¬ op = 6 ∧ ¬ op = 7 ∧ ¬ op = 8 ∧ ¬ op = 9 ∧ ¬ op = 10 ∧ ¬ op = 11 ∧ ¬ op = 12 ∧ ¬ op = 13 ∧ ¬ op = 14 ∧ ¬ op = 15) :
    ACalls Tryd.prog 28 #[.int .i64 op, .agg #[.int .i64 a.kind, .int .i64 a.num, .string a.str, .int .i64 a.next, sa], .agg #[.int .i64 b.kind, .int .i64 b.num, .string b.str, .int .i64 b.next, sb]] h (MadeI h (binOf op a b).1 (binOf op a b).2) := by
  have hBa := V.bulk_eq a
  have hBb := V.bulk_eq b
  have hna := V.ok_num oka
  have hnb := V.ok_num okb
  have hsa : a.str.size ≤ 1152921504606846976 := by omega
  have hsb : b.str.size ≤ 1152921504606846976 := by omega
  have o1 : decide (op = 1) = false := decide_eq_false (by omega)
  have o6 : decide (op = 6) = false := decide_eq_false (by omega)
  have o7 : decide (op = 7) = false := decide_eq_false (by omega)
  have o8 : decide (op = 8) = false := decide_eq_false (by omega)
  have o9 : decide (op = 9) = false := decide_eq_false (by omega)
  have o10 : decide (op = 10) = false := decide_eq_false (by omega)
  have o11 : decide (op = 11) = false := decide_eq_false (by omega)
  have o12 : decide (op = 12) = false := decide_eq_false (by omega)
  have o13 : decide (op = 13) = false := decide_eq_false (by omega)
  have o14 : decide (op = 14) = false := decide_eq_false (by omega)
  have o15 : decide (op = 15) = false := decide_eq_false (by omega)
  have e0 : binOf op a b = numOf op a b := by unfold binOf; rw [if_neg (by omega)]; rw [if_neg (by omega)]; rw [if_neg (by omega)]; rw [if_neg (by omega)]; rw [if_neg (by omega)]; rw [if_neg (by omega)]
  rw [e0]
  (refine enter Tryd.func28 rfl rfl (by kernel_rfl) [] ?_; simp only [go_sem, Nat.reduceBEq])
  simp only [o1, o6, o7, o8, o9, o10, o11, o12, o13, o14, o15, go_sem, Nat.reduceBEq, Nat.reduceAdd, Nat.reduceLeDiff]
  refine (iToNumber a hsa _ _ ra).mono ?_
  rintro _ _ ⟨rfl, rfl⟩
  simp only [go_sem, Nat.reduceBEq, Nat.reduceAdd, Nat.reduceLeDiff]
  refine (iToNumber b hsb _ _ rb).mono ?_
  rintro _ _ ⟨rfl, rfl⟩
  unfold numOf
  by_cases h1 : (toNum a).2 = 0
  case neg =>
    have d1 := decide_eq_false h1
    simp only [d1, go_sem, Nat.reduceBEq]
    rw [if_pos (.inl h1)]
    (refine (iNull _).mono ?_; rintro _ _ ⟨rfl, rfl⟩; simp only [go_sem, Nat.reduceBEq, Nat.reduceAdd, Nat.reduceLeDiff])
    exact made_flat 0 0 ⟨#[]⟩ 2 (Ext.refl _)
  by_cases h2 : (toNum b).2 = 0
  case neg =>
    have d1 := decide_eq_true h1
    have d2 := decide_eq_false h2
    simp only [d1, d2, go_sem, Nat.reduceBEq]
    rw [if_pos (.inr h2)]
    (refine (iNull _).mono ?_; rintro _ _ ⟨rfl, rfl⟩; simp only [go_sem, Nat.reduceBEq, Nat.reduceAdd, Nat.reduceLeDiff])
    exact made_flat 0 0 ⟨#[]⟩ 2 (Ext.refl _)
  have d1 := decide_eq_true h1
  have d2 := decide_eq_true h2
  simp only [d1, d2, go_sem, Nat.reduceBEq]
  rw [if_neg (fun k => k.elim (fun k => k h1) (fun k => k h2))]
  refine (iArith _ _ _ _).mono ?_
  rintro _ h3 ⟨rfl, e3⟩
  by_cases hc : (arith op (toNum a).1 (toNum b).1).2 = 0
  case neg =>
    have dc := decide_eq_false hc
    simp only [dc, go_sem, Nat.reduceBEq]
    rw [if_neg hc]
    (refine (iNull _).mono ?_; rintro _ _ ⟨rfl, rfl⟩; simp only [go_sem, Nat.reduceBEq, Nat.reduceAdd, Nat.reduceLeDiff])
    exact made_flat 0 0 ⟨#[]⟩ _ e3
  have dc := decide_eq_true hc
  simp only [dc, go_sem, Nat.reduceBEq]
  rw [if_pos hc]
  (refine (iIntV _ _).mono ?_; rintro _ _ ⟨rfl, rfl⟩; simp only [go_sem, Nat.reduceBEq, Nat.reduceAdd, Nat.reduceLeDiff])
  exact made_flat 2 _ ⟨#[]⟩ 0 e3
theorem iBinary (op : Int) (hop : IntKind.i64.min ≤ op ∧ op ≤ IntKind.i64.max) (a b : V) (oka : a.ok) (okb : b.ok) (ha : a.bulk ≤ 274877906944) (hb : b.bulk ≤ 274877906944) (sa sb : Value) (h : Hp) (ra : RdE h a.items sa) (rb : RdE h b.items sb) (hE : Env h) :
    ACalls Tryd.prog 28 #[.int .i64 op, .agg #[.int .i64 a.kind, .int .i64 a.num, .string a.str, .int .i64 a.next, sa], .agg #[.int .i64 b.kind, .int .i64 b.num, .string b.str, .int .i64 b.next, sb]] h (MadeI h (binOf op a b).1 (binOf op a b).2) := by
  rcases (show op = 1 ∨ op = 6 ∨ op = 7 ∨ op = 8 ∨ op = 9 ∨ op = 10 ∨ op = 11 ∨ op = 12 ∨ op = 13 ∨ op = 14 ∨ op = 15 ∨ (¬ op = 1 ∧ ¬ op = 6 ∧ ¬ op = 7 ∧ ¬ op = 8 ∧ ¬ op = 9 ∧ ¬ op = 10 ∧ ¬ op = 11 ∧ ¬ op = 12 ∧ ¬ op = 13 ∧ ¬ op = 14 ∧ ¬ op = 15) from by omega) with hc | hc | hc | hc | hc | hc | hc | hc | hc | hc | hc | hc
  · exact iBin_1 op hop a b oka okb ha hb sa sb h ra rb hE hc
  · exact iBin_6 op hop a b oka okb ha hb sa sb h ra rb hE hc
  · exact iBin_7 op hop a b oka okb ha hb sa sb h ra rb hE hc
  · exact iBin_8 op hop a b oka okb ha hb sa sb h ra rb hE hc
  · exact iBin_9 op hop a b oka okb ha hb sa sb h ra rb hE hc
  · exact iBin_10 op hop a b oka okb ha hb sa sb h ra rb hE hc
  · exact iBin_11 op hop a b oka okb ha hb sa sb h ra rb hE hc
  · exact iBin_12 op hop a b oka okb ha hb sa sb h ra rb hE hc
  · exact iBin_13 op hop a b oka okb ha hb sa sb h ra rb hE hc
  · exact iBin_14 op hop a b oka okb ha hb sa sb h ra rb hE hc
  · exact iBin_15 op hop a b oka okb ha hb sa sb h ra rb hE hc
  · exact iBin_0 op hop a b oka okb ha hb sa sb h ra rb hE hc
end Go.Proofs.YtconhonjkfpfmaaDoor
namespace Go.Proofs.YtconhonjkfpfmaaDoor
set_option maxRecDepth 8000
open Go Go.Sx
def errs : List ByteArray := [⟨#[]⟩, ⟨#[116, 101, 120, 116]⟩, ⟨#[110, 117, 109, 98, 101, 114]⟩, ⟨#[111, 118, 101, 114, 102, 108, 111, 119]⟩, ⟨#[122, 101, 114, 111]⟩, ⟨#[107, 101, 121]⟩, ⟨#[105, 110, 100, 101, 120]⟩, ⟨#[102, 117, 108, 108]⟩, ⟨#[97, 114, 103, 115]⟩, ⟨#[109, 101, 109, 111, 114, 121]⟩, ⟨#[111, 117, 116, 112, 117, 116]⟩]
def errName (code : Int) : ByteArray := if 0 ≤ code ∧ code ≤ 10 then errs.getD code.toNat ⟨#[]⟩ else ⟨#[]⟩
theorem iErrorName (code : Int) (h : Hp) : ACalls Tryd.prog 29 #[.int .i64 code] h (Is (.string (errName code)) h) := by
  refine enter Tryd.func29 rfl rfl (by kernel_rfl) [] ?_
  simp only [go_sem, Nat.reduceBEq]
  refine Br.intro (fun h0 => ?_) (fun h0 => ?_) <;> simp only [go_sem, Nat.reduceBEq]
  · simp at h0; subst h0; exact ⟨rfl, Ext.refl _⟩
  refine Br.intro (fun h1 => ?_) (fun h1 => ?_) <;> simp only [go_sem, Nat.reduceBEq]
  · simp at h1; subst h1; exact ⟨rfl, Ext.refl _⟩
  refine Br.intro (fun h2 => ?_) (fun h2 => ?_) <;> simp only [go_sem, Nat.reduceBEq]
  · simp at h2; subst h2; exact ⟨rfl, Ext.refl _⟩
  refine Br.intro (fun h3 => ?_) (fun h3 => ?_) <;> simp only [go_sem, Nat.reduceBEq]
  · simp at h3; subst h3; exact ⟨rfl, Ext.refl _⟩
  refine Br.intro (fun h4 => ?_) (fun h4 => ?_) <;> simp only [go_sem, Nat.reduceBEq]
  · simp at h4; subst h4; exact ⟨rfl, Ext.refl _⟩
  refine Br.intro (fun h5 => ?_) (fun h5 => ?_) <;> simp only [go_sem, Nat.reduceBEq]
  · simp at h5; subst h5; exact ⟨rfl, Ext.refl _⟩
  refine Br.intro (fun h6 => ?_) (fun h6 => ?_) <;> simp only [go_sem, Nat.reduceBEq]
  · simp at h6; subst h6; exact ⟨rfl, Ext.refl _⟩
  refine Br.intro (fun h7 => ?_) (fun h7 => ?_) <;> simp only [go_sem, Nat.reduceBEq]
  · simp at h7; subst h7; exact ⟨rfl, Ext.refl _⟩
  refine Br.intro (fun h8 => ?_) (fun h8 => ?_) <;> simp only [go_sem, Nat.reduceBEq]
  · simp at h8; subst h8; exact ⟨rfl, Ext.refl _⟩
  refine Br.intro (fun h9 => ?_) (fun h9 => ?_) <;> simp only [go_sem, Nat.reduceBEq]
  · simp at h9; subst h9; exact ⟨rfl, Ext.refl _⟩
  refine ⟨?_, Ext.refl _⟩
  simp at h0 h1 h2 h3 h4 h5 h6 h7 h8 h9
  unfold errName
  split
  · obtain ⟨n, rfl⟩ : ∃ n : Nat, code = n := ⟨code.toNat, by omega⟩
    have hn : n = 0 := by omega
    subst hn
    rfl
  · rfl
end Go.Proofs.YtconhonjkfpfmaaDoor
namespace Go.Proofs.YtconhonjkfpfmaaDoor
set_option maxRecDepth 8000
open Go Go.Sx
theorem clamp_in {n : Int} (h : inR n) : clamp n = (n, 0) := by unfold clamp; rw [if_pos h]
theorem tdiv_inR {a b : Int} (h : inR a) : inR (a.tdiv b) := by
  unfold inR at h ⊢
  have := Int.natAbs_tdiv_le_natAbs a b
  omega
theorem tmod_inR {a b : Int} (h : inR a) : inR (a.tmod b) := by
  unfold inR at h ⊢
  have h1 := Int.natAbs_tmod a b
  have h2 := Nat.mod_le a.natAbs b.natAbs
  omega
theorem arith_div (a b : Int) : arith 4 a b = (if inR a ∧ inR b then if b = 0 then (0, 4) else (a.tdiv b, 0) else (0, 3)) := by
  unfold arith
  rw [if_neg (by omega)]
  by_cases h : inR a ∧ inR b
  · rw [if_pos h, if_neg (by simp [h.1, h.2])]
    by_cases hb : b = 0
    · rw [if_pos ⟨hb, .inl rfl⟩, if_pos hb]
    · rw [if_neg (fun k => hb k.1), if_neg hb, if_neg (by decide), if_neg (by decide), if_neg (by decide), if_pos rfl, clamp_in (tdiv_inR h.1)]
  · rw [if_neg h, if_pos (by
      by_cases ha : inR a
      · exact .inr fun hb => h ⟨ha, hb⟩
      · exact .inl ha)]
theorem arith_mod (a b : Int) : arith 5 a b = (if inR a ∧ inR b then if b = 0 then (0, 4) else (a.tmod b, 0) else (0, 3)) := by
  unfold arith
  rw [if_neg (by omega)]
  by_cases h : inR a ∧ inR b
  · rw [if_pos h, if_neg (by simp [h.1, h.2])]
    by_cases hb : b = 0
    · rw [if_pos ⟨hb, .inr rfl⟩, if_pos hb]
    · rw [if_neg (fun k => hb k.1), if_neg hb, if_neg (by decide), if_neg (by decide), if_neg (by decide), if_neg (by decide), clamp_in (tmod_inR h.1)]
  · rw [if_neg h, if_pos (by
      by_cases ha : inR a
      · exact .inr fun hb => h ⟨ha, hb⟩
      · exact .inl ha)]
theorem arith_add (a b : Int) : arith 1 a b = (if inR a ∧ inR b then clamp (a + b) else (0, 3)) := by
  unfold arith
  rw [if_neg (by omega)]
  by_cases h : inR a ∧ inR b
  · rw [if_pos h, if_neg (by simp [h.1, h.2]), if_neg (by simp), if_pos rfl]
  · rw [if_neg h, if_pos (by
      by_cases ha : inR a
      · exact .inr fun hb => h ⟨ha, hb⟩
      · exact .inl ha)]
theorem arith_sub (a b : Int) : arith 2 a b = (if inR a ∧ inR b then clamp (a - b) else (0, 3)) := by
  unfold arith
  rw [if_neg (by omega)]
  by_cases h : inR a ∧ inR b
  · rw [if_pos h, if_neg (by simp [h.1, h.2]), if_neg (by simp), if_neg (by decide), if_pos rfl]
  · rw [if_neg h, if_pos (by
      by_cases ha : inR a
      · exact .inr fun hb => h ⟨ha, hb⟩
      · exact .inl ha)]
/-- quotient and remainder: the same error; without one the dividend comes back -/
theorem quot_rem (a b : Int) : (arith 4 a b).2 = (arith 5 a b).2 ∧ ((arith 4 a b).2 = 0 → IntKind.i64.wrap (IntKind.i64.wrap ((arith 4 a b).1 * b) + (arith 5 a b).1) = a ∧ IntKind.i64.wrap ((arith 5 a b).1 * (arith 5 a b).1) < IntKind.i64.wrap (b * b)) := by
  rw [arith_div, arith_mod]
  by_cases h : inR a ∧ inR b
  · rw [if_pos h, if_pos h]
    by_cases hb : b = 0
    · rw [if_pos hb, if_pos hb]
      exact ⟨rfl, fun k => by simp at k⟩
    · rw [if_neg hb, if_neg hb]
      refine ⟨rfl, fun _ => ⟨?_, ?_⟩⟩
      · show IntKind.i64.wrap (IntKind.i64.wrap (a.tdiv b * b) + a.tmod b) = a
        rw [mul_in (tdiv_inR h.1) h.2]
        have h2 := Int.tdiv_mul_add_tmod a b
        rw [h2]
        have := h.1
        unfold inR at this
        exact IntWalk.i64_in _ (by omega)
      · show IntKind.i64.wrap (a.tmod b * a.tmod b) < IntKind.i64.wrap (b * b)
        rw [mul_in (tmod_inR h.1) (tmod_inR h.1), mul_in h.2 h.2]
        have h1 := Int.natAbs_tmod a b
        have h2 := Nat.mod_lt a.natAbs (show 0 < b.natAbs by omega)
        have h3 : (a.tmod b).natAbs * (a.tmod b).natAbs < b.natAbs * b.natAbs := Nat.mul_self_lt_mul_self (by omega)
        have h4 : ((a.tmod b).natAbs * (a.tmod b).natAbs : Nat) = a.tmod b * a.tmod b := by rw [Int.natCast_mul]; exact Int.natAbs_mul_self' _
        have h5 : (b.natAbs * b.natAbs : Nat) = b * b := by rw [Int.natCast_mul]; exact Int.natAbs_mul_self' _
        rw [← h4, ← h5]
        omega
  · rw [if_neg h, if_neg h]
    exact ⟨rfl, fun k => by simp at k⟩
/-- a sum is undone -/
theorem sum_undo (a b : Int) (h : (arith 1 a b).2 = 0) : arith 2 (arith 1 a b).1 b = (a, 0) := by
  rw [arith_add] at h ⊢
  by_cases hi : inR a ∧ inR b
  · rw [if_pos hi] at h ⊢
    unfold clamp at h ⊢
    by_cases hs : inR (a + b)
    · rw [if_pos hs, arith_sub, if_pos ⟨hs, hi.2⟩]
      show clamp (a + b - b) = (a, 0)
      rw [show a + b - b = a by omega, clamp_in hi.1]
    · rw [if_neg hs] at h
      simp at h
  · rw [if_neg hi] at h
    simp at h
theorem arith_err (op a b : Int) : (arith op a b).2 = 0 ∨ (arith op a b).2 = 2 ∨ (arith op a b).2 = 3 ∨ (arith op a b).2 = 4 := by
  have hc : ∀ n, (clamp n).2 = 0 ∨ (clamp n).2 = 2 ∨ (clamp n).2 = 3 ∨ (clamp n).2 = 4 := fun n => by unfold clamp; split <;> simp
  unfold arith
  split
  · simp
  · split
    · simp
    · split
      · simp
      · split
        · exact hc _
        · split
          · exact hc _
          · split
            · exact hc _
            · split <;> exact hc _
/-- no error, or nothing and an error that has a name -/
def okErr (r : V × Int) : Prop := r.2 = 0 ∨ r.1.kind = 0 ∧ errName r.2 ≠ ⟨#[]⟩
theorem bin_err (op : Int) (a b : V) : okErr (binOf op a b) := by
  have hn : ∀ e : Int, e = 1 ∨ e = 2 ∨ e = 3 ∨ e = 4 ∨ e = 7 ∨ e = 8 ∨ e = 9 ∨ e = 6 ∨ e = 5 ∨ e = 10 → errName e ≠ ⟨#[]⟩ := by
    intro e he
    rcases he with rfl | rfl | rfl | rfl | rfl | rfl | rfl | rfl | rfl | rfl <;> decide
  unfold binOf
  split
  · unfold unionOf
    split
    · split
      · exact .inl rfl
      · exact .inr ⟨rfl, hn _ (by decide)⟩
    · exact .inr ⟨rfl, hn _ (by decide)⟩
  · split
    · unfold catOf
      split
      · exact .inr ⟨rfl, hn _ (by decide)⟩
      · split
        · exact .inl rfl
        · exact .inr ⟨rfl, hn _ (by decide)⟩
    · split
      · exact .inl rfl
      · split
        · exact .inl rfl
        · split
          · exact .inl rfl
          · split
            · exact .inl rfl
            · unfold numOf
              split
              · exact .inr ⟨rfl, hn _ (by decide)⟩
              · split
                · exact .inl rfl
                · rename_i hz
                  refine .inr ⟨rfl, hn _ ?_⟩
                  have := arith_err op (toNum a).1 (toNum b).1
                  show (arith op (toNum a).1 (toNum b).1).2 = 1 ∨ _
                  omega
theorem eq_ne (a b : V) : IntKind.i64.wrap ((binOf 7 a b).1.num + (binOf 8 a b).1.num) = 1 := by
  have e1 : binOf 7 a b = (boolV (rel 7 (V.cmp a b)), 0) := rfl
  have e2 : binOf 8 a b = (boolV (rel 8 (V.cmp a b)), 0) := rfl
  rw [e1, e2]
  have r1 : rel 7 (V.cmp a b) = decide (V.cmp a b = 0) := rfl
  have r2 : rel 8 (V.cmp a b) = !decide (V.cmp a b = 0) := rfl
  rw [r1, r2]
  by_cases h : V.cmp a b = 0
  · rw [decide_eq_true h]
    rfl
  · rw [decide_eq_false h]
    rfl
end Go.Proofs.YtconhonjkfpfmaaDoor
namespace Go.Proofs.YtconhonjkfpfmaaDoor
set_option maxRecDepth 8000
open Go Go.Sx
section
variable {h0 h : Hp} {bag : Bag} {l : List UInt8} {p : Nat}
def NewP (h0 : Hp) (l : List UInt8) (bag : Bag) (u : Value) (h' : Hp) : Prop := ∃ p, u = pv p ∧ CurM h0 h' l p bag
theorem l1New_c (hl : l.length ≤ 1048576) {sl : Value} (rd : RdS h0 1 sl (bcells l)) (m : My h0 h bag) : ACalls Tryd.prog 37 #[sl] h (NewP h0 l bag) := by
  obtain ⟨a, c, b, off, rfl, hat⟩ := rd.bytes
  have e0 := m.ext
  have hat : ∀ i, i < l.length → At h ⟨b, off, none⟩ (bcells l) ∧ ixA (some 1) a l.length (i : Int) = some (.pointer (some ⟨b, off + i * 1, none⟩)) ∧ (bcells l)[i]? = some (.int .u8 ((l.getD i 0).toNat : Nat)) := fun i hi => hat i hi h e0
  (refine enter Tryd.func37 rfl rfl (by kernel_rfl) [31] ?_; simp only [go_sem, Nat.reduceBEq])
  generalize IntKind.i64.wrap (193017 + (l.length : Nat)) = hh0
  refine aloop (ι := Nat × Int) (fun x => [(4, .val (.int .i64 (x.1 : Nat))), (3, .val (.int .i64 x.2)), (0, .val (.slice a l.length c))]) (fun _ => [])
    (fun x h' => x.1 ≤ l.length ∧ h' = h) (fun x => l.length - x.1) (0, hh0) ⟨Nat.zero_le _, rfl⟩ (by repeat (first | exact wkF_e | refine wkF_c rfl ?_)) wkB_e rfl ?_
  rintro ⟨i, hh⟩ _ ⟨hi, rfl⟩
  have hi : i ≤ l.length := hi
  have fin : ∀ {p : Nat} {h' : Hp}, My h0 h' ((.ptr [] [.raw (.slice a l.length c), .raw (.int .i64 0), .raw (.int .i64 hh)] [], .pointer (some ⟨p, 0, none⟩)) :: bag) → NewP h0 l bag (.pointer (some ⟨p, 0, none⟩)) h' := fun {p h'} m' => ⟨p, rfl, a, c, 0, hh, Nat.zero_le _, rd, m'⟩
  have wsu := wrap_succ (i := i) (by omega)
  by_cases hb2 : i < l.length
  case neg =>
    simp only [show decide ((i : Int) < (l.length : Nat)) = false from decide_eq_false (by omega), go_sem, Nat.reduceBEq, Nat.reduceAdd, Nat.reduceLeDiff]
    refine hsem_my_box (es := [.raw (.slice a l.length c), .raw (.int .i64 0), .raw (.int .i64 hh)]) (m.raws3) rfl fun p h' m' => ?_
    simp only [go_sem, Nat.reduceBEq]
    exact fin m'
  obtain ⟨h1, h2, h3⟩ := hat i hb2
  by_cases h4 : (i : Int) < 4000
  case neg =>
    simp only [show decide ((i : Int) < (l.length : Nat)) = true from decide_eq_true (by omega), decide_eq_false h4, go_sem, Nat.reduceBEq, Nat.reduceAdd, Nat.reduceLeDiff]
    refine hsem_my_box (es := [.raw (.slice a l.length c), .raw (.int .i64 0), .raw (.int .i64 hh)]) (m.raws3) rfl fun p h' m' => ?_
    simp only [go_sem, Nat.reduceBEq]
    exact fin m'
  simp only [show decide ((i : Int) < (l.length : Nat)) = true from decide_eq_true (by omega), decide_eq_true h4, h2, go_sem, Nat.reduceBEq]
  refine hsem_at1 tyS5 h1 h3 (by omega) ?_
  simp only [wsu, vbin_an, go_sem, Nat.reduceBEq]
  exact Again.intro (i + 1, _) (by first | omega | (simp only; omega)) ⟨hb2, rfl⟩ (by repeat (first | exact wkF_e | refine wkF_c rfl ?_)) wkB_e rfl
theorem l1Byte_c (hl : l.length ≤ 1048576) (m : CurM h0 h l p bag) : ACalls Tryd.prog 87 #[pv p] h (NumP 0 255 h0 l p bag) := by
  obtain ⟨a, c, i, hh, hi, rd, m⟩ := m
  obtain ⟨a', c', b, off, e', hat⟩ := rd.bytes
  cases e'
  (refine enter Tryd.func87 rfl rfl (by kernel_rfl) [] ?_; simp only [go_sem, Nat.reduceBEq])
  refine cu_ldH tyS3 m rfl ?_
  simp only [go_sem, Nat.reduceBEq, Nat.reduceAdd]
  refine cu_stH tyS3 m rfl fun h1 m => ?_
  try refine ⟨trivial, ?_⟩
  simp only [go_sem, Nat.reduceAdd]
  generalize IntKind.i64.wrap (IntKind.i64.wrap (hh * 6364136223846793005) + 1442695040888963407) = hh1 at m ⊢
  refine regionD_intro (lb := []) (by kernel_rfl) ?_
  simp only [go_sem, Nat.reduceBEq]
  refine cu_ldH tyS3 m rfl ?_
  simp only [vbin_shr33, go_sem, Nat.reduceBEq, Nat.reduceAdd]
  refine cu_ldH tyS3 m rfl ?_
  simp only [vbin_shr47, vbin_xor, go_sem, Nat.reduceBEq, Nat.reduceAdd]
  generalize xr (hh1.fdiv 8589934592) (hh1.fdiv 140737488355328) = y
  have hx := (vbin_and255 (P := Tryd.prog) (t := 3) (nc := false) y).choose_spec
  generalize (vbin_and255 (P := Tryd.prog) (t := 3) (nc := false) y).choose = x at hx
  simp only [hx.2, go_sem, Nat.reduceBEq]
  refine regionD_intro (lb := []) (by kernel_rfl) ?_
  simp only [go_sem, Nat.reduceBEq]
  refine cu_ldI tyS3 m rfl ?_
  simp only [go_sem, Nat.reduceBEq]
  refine cu_ldB tyS22 m rfl ?_
  simp only [go_sem, Nat.reduceBEq]
  refine Br.intro (fun hb => ?_) (fun hb => ?_)
  · have hb1 := of_decide_eq_true hb
    have hb2 : i < l.length := by omega
    have h3 := hat i hb2 h1 m.ext
    have wsu := wrap_succ (i := i) (by omega)
    simp only [hb, go_sem]
    refine regionD_intro (lb := []) (by kernel_rfl) ?_
    simp only [go_sem, Nat.reduceBEq]
    refine cu_ldB tyS22 m rfl ?_
    simp only [go_sem, Nat.reduceBEq]
    refine cu_ldI tyS3 m rfl ?_
    simp only [h3.2.1, go_sem, Nat.reduceBEq]
    refine hsem_at1 tyS5 h3.1 h3.2.2 (by omega) ?_
    simp only [go_sem, Nat.reduceBEq]
    generalize IntKind.i64.wrap ((x : Nat) + IntKind.i64.wrap ((l.getD i 0).toNat : Nat)) = y2
    have hx2 := (vbin_and255 (P := Tryd.prog) (t := 3) (nc := false) y2).choose_spec
    generalize (vbin_and255 (P := Tryd.prog) (t := 3) (nc := false) y2).choose = x2 at hx2
    simp only [hx2.2, go_sem, Nat.reduceBEq]
    refine cu_ldI tyS3 m rfl ?_
    simp only [wsu, go_sem, Nat.reduceBEq]
    refine cu_stI tyS3 m rfl fun h2 m => ?_
    try refine ⟨trivial, ?_⟩
    simp only [go_sem, Nat.reduceBEq]
    exact ⟨(x2 : Nat), rfl, by omega, by omega, a, c, i + 1, hh1, hb2, rd, m⟩
  · simp only [hb, go_sem, Nat.reduceBEq]
    exact ⟨(x : Nat), rfl, by omega, by omega, a, c, i, hh1, hi, rd, m⟩
theorem l1Below_c (hl : l.length ≤ 1048576) (m : CurM h0 h l p bag) (n : Int) (hn : 0 < n) (hn2 : n ≤ 1048576) : ACalls Tryd.prog 53 #[pv p, .int .i64 n] h (NumP 0 (n - 1) h0 l p bag) := by
  have hz : (n = 0) = False := eq_false (by omega)
  have f1 : decide (n ≤ 0) = false := decide_eq_false (by omega)
  (refine enter Tryd.func53 rfl rfl (by kernel_rfl) [] ?_; simp only [go_sem, Nat.reduceBEq])
  simp only [f1, go_sem, Nat.reduceBEq]
  by_cases h2 : n ≤ 256
  · simp only [decide_eq_true h2, go_sem, Nat.reduceBEq]
    refine (l1Byte_c hl m).mono ?_
    rintro _ h1 ⟨x, rfl, x0, x1, m1⟩
    simp only [hz, if_false, go_sem, Nat.reduceBEq]
    exact ⟨x.tmod n, rfl, Int.tmod_nonneg _ x0, by have := Int.tmod_lt_of_pos x hn; omega, m1⟩
  · simp only [decide_eq_false h2, go_sem, Nat.reduceBEq]
    refine (l1Byte_c hl m).mono ?_
    rintro _ h1 ⟨x, rfl, x0, x1, m1⟩
    simp only [go_sem, Nat.reduceBEq]
    refine (l1Byte_c hl m1).mono ?_
    rintro _ h2 ⟨y, rfl, y0, y1, m2⟩
    simp only [go_sem, Nat.reduceBEq]
    refine (l1Byte_c hl m2).mono ?_
    rintro _ h3 ⟨z, rfl, z0, z1, m3⟩
    have w1 : IntKind.i64.wrap (x * 65536) = x * 65536 := IntWalk.i64_in _ (by omega)
    have w2 : IntKind.i64.wrap (y * 256) = y * 256 := IntWalk.i64_in _ (by omega)
    have w3 : IntKind.i64.wrap (x * 65536 + y * 256) = x * 65536 + y * 256 := IntWalk.i64_in _ (by omega)
    have w4 : IntKind.i64.wrap (x * 65536 + y * 256 + z) = x * 65536 + y * 256 + z := IntWalk.i64_in _ (by omega)
    simp only [w1, w2, w3, w4, hz, if_false, go_sem, Nat.reduceBEq]
    exact ⟨(x * 65536 + y * 256 + z).tmod n, rfl, Int.tmod_nonneg _ (by omega), by have := Int.tmod_lt_of_pos (x * 65536 + y * 256 + z) hn; omega, m3⟩
theorem l1Once_c (hl : l.length ≤ 1048576) (m : CurM h0 h l p bag) (n : Int) (hn : 0 < n) (hn2 : n ≤ 1048576) : ACalls Tryd.prog 56 #[pv p, .int .i64 n] h (BoolP h0 l p bag) := by
  (refine enter Tryd.func56 rfl rfl (by kernel_rfl) [] ?_; simp only [go_sem, Nat.reduceBEq])
  refine (l1Below_c hl m n hn hn2).mono ?_
  rintro _ h1 ⟨x, rfl, x0, x1, m1⟩
  simp only [go_sem, Nat.reduceBEq]
  exact ⟨_, rfl, m1⟩
theorem l1Int_c (hl : l.length ≤ 1048576) {v : Value} {ns : List Int} (m : CurM h0 h l p ((.row 1 (ns.flatMap idt), v) :: bag)) (hn : 0 < ns.length) (hn2 : ns.length ≤ 1048576) : ACalls Tryd.prog 83 #[pv p, v] h (IntP ns h0 l p ((.row 1 (ns.flatMap idt), v) :: bag)) := by
  obtain ⟨b, c, rfl⟩ := m.row0 hn (fm_len idt_len _)
  (refine enter Tryd.func83 rfl rfl (by kernel_rfl) [] ?_; simp only [go_sem, Nat.reduceBEq])
  refine (l1Below_c hl m ns.length (by omega) (by omega)).mono ?_
  rintro _ h1 ⟨x, rfl, x0, x1, m1⟩
  obtain ⟨j, rfl⟩ := Int.eq_ofNat_of_zero_le x0
  have hj : j < ns.length := by omega
  obtain ⟨xs, hr, hat⟩ := m1.my.at_
  obtain ⟨e, he, hm⟩ := get_lt hj
  simp only [ix_nat hj, go_sem, Nat.reduceBEq]
  refine hsem_cell (f := idt) (o := 0) (d := .raw (.int .i64 e)) idt_len tyS3 (hat hn) hr he (by decide) rfl (by omega) fun v rv => ?_
  obtain ⟨rfl, _⟩ := Rd_raw.1 rv
  simp only [go_sem, Nat.reduceBEq]
  exact ⟨e, hm, rfl, m1⟩
theorem l1Str_c (hl : l.length ≤ 1048576) {v : Value} {ns : List ByteArray} (m : CurM h0 h l p ((.row 1 (ns.flatMap sdt), v) :: bag)) (hn : 0 < ns.length) (hn2 : ns.length ≤ 1048576) : ACalls Tryd.prog 58 #[pv p, v] h (StrP ns h0 l p ((.row 1 (ns.flatMap sdt), v) :: bag)) := by
  obtain ⟨b, c, rfl⟩ := m.row0 hn (fm_len sdt_len _)
  (refine enter Tryd.func58 rfl rfl (by kernel_rfl) [] ?_; simp only [go_sem, Nat.reduceBEq])
  refine (l1Below_c hl m ns.length (by omega) (by omega)).mono ?_
  rintro _ h1 ⟨x, rfl, x0, x1, m1⟩
  obtain ⟨j, rfl⟩ := Int.eq_ofNat_of_zero_le x0
  have hj : j < ns.length := by omega
  obtain ⟨xs, hr, hat⟩ := m1.my.at_
  obtain ⟨e, he, hm⟩ := get_lt hj
  simp only [ix_nat hj, go_sem, Nat.reduceBEq]
  refine hsem_cell (f := sdt) (o := 0) (d := .raw (.string e)) sdt_len tyS9 (hat hn) hr he (by decide) rfl (by omega) fun v rv => ?_
  obtain ⟨rfl, _⟩ := Rd_raw.1 rv
  simp only [go_sem, Nat.reduceBEq]
  exact ⟨e, hm, rfl, m1⟩
end
end Go.Proofs.YtconhonjkfpfmaaDoor
namespace Go.Proofs.YtconhonjkfpfmaaDoor
set_option maxRecDepth 8000
open Go Go.Sx
section
variable {h0 h : Hp} {bag : Bag} {l : List UInt8} {p : Nat}
theorem i64_lo : IntKind.i64.min = -9223372036854775808 := by decide
theorem i64_hi : IntKind.i64.max = 9223372036854775807 := by decide
theorem wrap_ok (x : Int) : IntKind.i64.min ≤ IntKind.i64.wrap x ∧ IntKind.i64.wrap x ≤ IntKind.i64.max := by
  rw [i64_lo, i64_hi]
  unfold IntKind.wrap
  have hb : IntKind.i64.bits = 64 := rfl
  have hs : IntKind.i64.signed = true := rfl
  have hp : (2 : Int) ^ 64 = 18446744073709551616 := by decide
  have hq : (2 : Int) ^ (64 - 1) = 9223372036854775808 := by decide
  simp only [hb, hs, hp, hq, Bool.true_and, decide_eq_true_eq]
  split <;> omega
def AnyP (h0 : Hp) (l : List UInt8) (p : Nat) (bag : Bag) (u : Value) (h' : Hp) : Prop := ∃ n : Int, u = .int .i64 n ∧ (IntKind.i64.min ≤ n ∧ n ≤ IntKind.i64.max) ∧ CurM h0 h' l p bag
theorem l1Odd_c (hl : l.length ≤ 1048576) (m : CurM h0 h l p bag) : ACalls Tryd.prog 82 #[pv p] h (AnyP h0 l p bag) := by
  (refine enter Tryd.func82 rfl rfl (by kernel_rfl) [] ?_; simp only [go_sem, Nat.reduceBEq])
  refine cur_ints [-1, 0, 1, 2, 255, 256, 65535, 2147483647, 2147483648, 4294967295, 4294967296, -2147483648, 9223372036854775807, -9223372036854775808] slT99 rfl rfl rfl (by decide) (by decide) m fun v h1 m1 => ?_
  simp only [go_sem, Nat.reduceBEq]
  refine (l1Int_c hl m1 (by decide) (by decide)).mono ?_
  rintro _ h2 ⟨n, hn, rfl, m2⟩
  simp only [go_sem, Nat.reduceBEq]
  have hr : ∀ n ∈ ([-1, 0, 1, 2, 255, 256, 65535, 2147483647, 2147483648, 4294967295, 4294967296, -2147483648, 9223372036854775807, -9223372036854775808] : List Int), IntKind.i64.min ≤ n ∧ n ≤ IntKind.i64.max := by decide
  exact ⟨n, rfl, hr n hn, m2.drop⟩
theorem l1Num_c (hl : l.length ≤ 1048576) (m : CurM h0 h l p bag) : ACalls Tryd.prog 88 #[pv p] h (NumP 0 1000000000000 h0 l p bag) := by
  (refine enter Tryd.func88 rfl rfl (by kernel_rfl) [] ?_; simp only [go_sem, Nat.reduceBEq])
  refine (l1Below_c hl m 4 (by decide) (by decide)).mono ?_
  rintro _ h1 ⟨x, rfl, x0, x1, m1⟩
  simp only [go_sem, Nat.reduceBEq]
  by_cases c0 : x = 0
  · simp only [decide_eq_true c0, go_sem, Nat.reduceBEq]
    refine (l1Below_c hl m1 2000 (by decide) (by decide)).mono ?_
    rintro _ h2 ⟨y, rfl, y0, y1, m2⟩
    simp only [go_sem, Nat.reduceBEq]
    exact ⟨y, rfl, y0, by omega, m2⟩
  simp only [decide_eq_false c0, go_sem, Nat.reduceBEq]
  by_cases c1 : x = 1
  · simp only [decide_eq_true c1, go_sem, Nat.reduceBEq]
    refine cur_ints [0, 1, 127, 128, 999999999, 1000000000, 1000000001, 2147483647, 1000000000000] slT99 rfl rfl rfl (by decide) (by decide) m1 fun v h2 m2 => ?_
    simp only [go_sem, Nat.reduceBEq]
    refine (l1Int_c hl m2 (by decide) (by decide)).mono ?_
    rintro _ h3 ⟨n, hn, rfl, m3⟩
    simp only [go_sem, Nat.reduceBEq]
    have hr : ∀ n ∈ ([0, 1, 127, 128, 999999999, 1000000000, 1000000001, 2147483647, 1000000000000] : List Int), 0 ≤ n ∧ n ≤ 1000000000000 := by decide
    exact ⟨n, rfl, (hr n hn).1, (hr n hn).2, m3.drop⟩
  simp only [decide_eq_false c1, go_sem, Nat.reduceBEq]
  by_cases c2 : x = 2
  · simp only [decide_eq_true c2, go_sem, Nat.reduceBEq]
    refine (l1Below_c hl m1 1000000 (by decide) (by decide)).mono ?_
    rintro _ h2 ⟨y, rfl, y0, y1, m2⟩
    simp only [go_sem, Nat.reduceBEq]
    refine (l1Below_c hl m2 1000000 (by decide) (by decide)).mono ?_
    rintro _ h3 ⟨z, rfl, z0, z1, m3⟩
    have q0 : 0 ≤ y * z := Int.mul_nonneg y0 z0
    have q1 : y * z ≤ 1000000 * 1000000 := Int.mul_le_mul (by omega) (by omega) z0 (by decide)
    have w : IntKind.i64.wrap (y * z) = y * z := IntWalk.i64_in _ (by omega)
    simp only [w, go_sem, Nat.reduceBEq]
    exact ⟨y * z, rfl, q0, by omega, m3⟩
  simp only [decide_eq_false c2, go_sem, Nat.reduceBEq]
  refine (l1Below_c hl m1 20 (by decide) (by decide)).mono ?_
  rintro _ h2 ⟨y, rfl, y0, y1, m2⟩
  simp only [go_sem, Nat.reduceBEq]
  exact ⟨y, rfl, y0, by omega, m2⟩
theorem l1One_c (hl : l.length ≤ 1048576) (m : CurM h0 h l p bag) : ACalls Tryd.prog 54 #[pv p] h (AnyP h0 l p bag) := by
  have lo := i64_lo
  have hi := i64_hi
  (refine enter Tryd.func54 rfl rfl (by kernel_rfl) [] ?_; simp only [go_sem, Nat.reduceBEq])
  refine (l1Below_c hl m 8 (by decide) (by decide)).mono ?_
  rintro _ h1 ⟨x, rfl, x0, x1, m1⟩
  simp only [go_sem, Nat.reduceBEq]
  by_cases c0 : x = 0
  · simp only [decide_eq_true c0, go_sem, Nat.reduceBEq]
    refine (l1Odd_c hl m1).mono ?_
    rintro _ h2 ⟨y, rfl, y0, m2⟩
    simp only [go_sem, Nat.reduceBEq]
    exact ⟨y, rfl, y0, m2⟩
  simp only [decide_eq_false c0, go_sem, Nat.reduceBEq]
  by_cases c1 : x = 1
  · simp only [decide_eq_true c1, go_sem, Nat.reduceBEq]
    refine (l1Num_c hl m1).mono ?_
    rintro _ h2 ⟨y, rfl, y0, y1, m2⟩
    simp only [go_sem, Nat.reduceBEq]
    exact ⟨_, rfl, wrap_ok _, m2⟩
  simp only [decide_eq_false c1, go_sem, Nat.reduceBEq]
  refine (l1Num_c hl m1).mono ?_
  rintro _ h2 ⟨y, rfl, y0, y1, m2⟩
  simp only [go_sem, Nat.reduceBEq]
  exact ⟨y, rfl, by omega, m2⟩
def WordP (h0 : Hp) (l : List UInt8) (p : Nat) (bag : Bag) (u : Value) (h' : Hp) : Prop := ∃ s : ByteArray, u = .string s ∧ s.size ≤ 16 ∧ CurM h0 h' l p bag
theorem l5Word_c (hl : l.length ≤ 1048576) (m : CurM h0 h l p bag) : ACalls Tryd.prog 105 #[pv p] h (WordP h0 l p bag) := by
  (refine enter Tryd.func105 rfl rfl (by kernel_rfl) [] ?_; simp only [go_sem, Nat.reduceBEq])
  refine cur_strs [⟨#[]⟩, ⟨#[97]⟩, ⟨#[98]⟩, ⟨#[120, 49]⟩, ⟨#[48]⟩, ⟨#[53]⟩, ⟨#[45, 53]⟩, ⟨#[48, 53]⟩, ⟨#[45, 48]⟩, ⟨#[49, 50, 97]⟩, ⟨#[48, 48, 55]⟩, ⟨#[49, 48, 48, 48, 48, 48, 48, 48, 48, 48]⟩, ⟨#[49, 48, 48, 48, 48, 48, 48, 48, 48, 49]⟩, ⟨#[32, 49]⟩, ⟨#[105, 116, 39, 115]⟩, ⟨#[10]⟩, ⟨#[60, 105, 62]⟩, ⟨#[255, 59]⟩, ⟨#[110, 97, 109, 101]⟩, ⟨#[115, 58, 49, 58]⟩] slT80 rfl rfl rfl (by decide) (by decide) m fun v h1 m1 => ?_
  simp only [go_sem, Nat.reduceBEq]
  refine (l1Str_c hl m1 (by decide) (by decide)).mono ?_
  rintro _ h2 ⟨s, hs, rfl, m2⟩
  simp only [go_sem, Nat.reduceBEq]
  refine ⟨s, rfl, ?_, m2.drop⟩
  simp only [List.mem_cons, List.not_mem_nil, or_false] at hs
  rcases hs with h | h | h | h | h | h | h | h | h | h | h | h | h | h | h | h | h | h | h | h <;> (rw [h]; decide)
def KeyP (h0 : Hp) (l : List UInt8) (p : Nat) (bag : Bag) (u : Value) (h' : Hp) : Prop := ∃ k : Ky, u = .agg #[.bool k.text, .int .i64 k.num, .string k.str] ∧ k.ok ∧ k.str.size ≤ 4 ∧ CurM h0 h' l p bag
theorem l5Key_c (hl : l.length ≤ 1048576) (m : CurM h0 h l p bag) : ACalls Tryd.prog 84 #[pv p] h (KeyP h0 l p bag) := by
  have lo := i64_lo
  have hi := i64_hi
  (refine enter Tryd.func84 rfl rfl (by kernel_rfl) [] ?_; simp only [go_sem, Nat.reduceBEq])
  refine (l1Once_c hl m 3 (by decide) (by decide)).mono ?_
  rintro _ h1 ⟨b, rfl, m1⟩
  simp only [go_sem, Nat.reduceBEq]
  cases b with
  | true =>
    simp only [go_sem, Nat.reduceBEq]
    refine cur_strs [⟨#[97]⟩, ⟨#[98]⟩, ⟨#[99]⟩, ⟨#[]⟩, ⟨#[48, 53]⟩, ⟨#[120]⟩] slT80 rfl rfl rfl (by decide) (by decide) m1 fun v h2 m2 => ?_
    simp only [go_sem, Nat.reduceBEq]
    refine (l1Str_c hl m2 (by decide) (by decide)).mono ?_
    rintro _ h3 ⟨s, hs, rfl, m3⟩
    simp only [go_sem, Nat.reduceBEq, Nat.reduceAdd, Nat.reduceLeDiff]
    have hsz : s.size ≤ 4 := by
      simp only [List.mem_cons, List.not_mem_nil, or_false] at hs
      rcases hs with h | h | h | h | h | h <;> (rw [h]; decide)
    exact ⟨⟨true, 0, s⟩, rfl, ⟨by show IntKind.i64.min ≤ 0 ∧ 0 ≤ IntKind.i64.max; omega, by show s.size ≤ maxLen; unfold maxLen; omega⟩, hsz, m3.drop⟩
  | false =>
    simp only [go_sem, Nat.reduceBEq]
    refine cur_ints [0, 1, 2, 3, 4, -1, 7, 1000000000, -1000000000] slT99 rfl rfl rfl (by decide) (by decide) m1 fun v h2 m2 => ?_
    simp only [go_sem, Nat.reduceBEq]
    refine (l1Int_c hl m2 (by decide) (by decide)).mono ?_
    rintro _ h3 ⟨n, hn, rfl, m3⟩
    simp only [go_sem, Nat.reduceBEq, Nat.reduceAdd, Nat.reduceLeDiff]
    have hr : ∀ n ∈ ([0, 1, 2, 3, 4, -1, 7, 1000000000, -1000000000] : List Int), IntKind.i64.min ≤ n ∧ n ≤ IntKind.i64.max := by decide
    exact ⟨⟨false, n, ⟨#[]⟩⟩, rfl, ⟨hr n hn, Nat.zero_le _⟩, Nat.zero_le _, m3.drop⟩
/-- A draw of a value. -/
def ValP (B : Nat) (h0 : Hp) (l : List UInt8) (p : Nat) (bag : Bag) (u : Value) (h' : Hp) : Prop := ∃ (v : V) (a : Option Addr) (c : Nat), u = .agg #[.int .i64 v.kind, .int .i64 v.num, .string v.str, .int .i64 v.next, .slice a v.items.length c] ∧ v.ok ∧ v.bulk ≤ B ∧ CurM h0 h' l p ((.row 8 (v.items.flatMap edt), .slice a v.items.length c) :: bag)
theorem ValP.plain {B : Nat} {h' : Hp} (k n : Int) (s : ByteArray) (hk : IntKind.i64.min ≤ k ∧ k ≤ IntKind.i64.max) (hn : IntKind.i64.min ≤ n ∧ n ≤ IntKind.i64.max) (hs : s.size ≤ B) (hB : B ≤ 1000000) (m : CurM h0 h' l p bag) : ValP B h0 l p bag (.agg #[.int .i64 k, .int .i64 n, .string s, .int .i64 0, .slice none 0 0]) h' := by
  refine ⟨⟨k, n, s, 0, []⟩, none, 0, rfl, ?_, by rw [V.bulk_eq]; simpa [V.bulks, V.items, V.str] using hs, m.upd fun d m => (m.nilrow).swap⟩
  simp only [V.ok, V.oks, and_true]
  exact ⟨hk, hn, by unfold maxLen; omega, by decide, Nat.zero_le _⟩
theorem dBoolV (b : Bool) (h : Hp) : ACalls Tryd.prog 104 #[.bool b] h (Pu (.agg #[.int .i64 1, .int .i64 (if b then 1 else 0), .string ⟨#[]⟩, .int .i64 0, .slice none 0 0]) h) := by
  cases b with
  | false =>
    (refine enter Tryd.func104 rfl rfl (by kernel_rfl) [] ?_; simp only [go_sem, Nat.reduceBEq, Nat.reduceAdd, Nat.reduceLeDiff])
    exact ⟨rfl, rfl⟩
  | true =>
    (refine enter Tryd.func104 rfl rfl (by kernel_rfl) [] ?_; simp only [go_sem, Nat.reduceBEq, Nat.reduceAdd, Nat.reduceLeDiff])
    exact ⟨rfl, rfl⟩
theorem dIntV (n : Int) (h : Hp) : ACalls Tryd.prog 106 #[.int .i64 n] h (Pu (.agg #[.int .i64 2, .int .i64 n, .string ⟨#[]⟩, .int .i64 0, .slice none 0 0]) h) := by
  (refine enter Tryd.func106 rfl rfl (by kernel_rfl) [] ?_; simp only [go_sem, Nat.reduceBEq, Nat.reduceAdd, Nat.reduceLeDiff])
  exact ⟨rfl, rfl⟩
theorem dTextV (s : ByteArray) (h : Hp) : ACalls Tryd.prog 57 #[.string s] h (Pu (.agg #[.int .i64 3, .int .i64 0, .string s, .int .i64 0, .slice none 0 0]) h) := by
  (refine enter Tryd.func57 rfl rfl (by kernel_rfl) [] ?_; simp only [go_sem, Nat.reduceBEq, Nat.reduceAdd, Nat.reduceLeDiff])
  exact ⟨rfl, rfl⟩
theorem dArrV (h : Hp) : ACalls Tryd.prog 109 #[] h (Pu (.agg #[.int .i64 4, .int .i64 0, .string ⟨#[]⟩, .int .i64 0, .slice none 0 0]) h) := by
  (refine enter Tryd.func109 rfl rfl (by kernel_rfl) [] ?_; simp only [go_sem, Nat.reduceBEq, Nat.reduceAdd, Nat.reduceLeDiff])
  exact ⟨rfl, rfl⟩
theorem l5Scalar_c (hl : l.length ≤ 1048576) (m : CurM h0 h l p bag) : ACalls Tryd.prog 75 #[pv p] h (ValP 16 h0 l p bag) := by
  have lo := i64_lo
  have hi := i64_hi
  (refine enter Tryd.func75 rfl rfl (by kernel_rfl) [] ?_; simp only [go_sem, Nat.reduceBEq])
  refine (l1Below_c hl m 8 (by decide) (by decide)).mono ?_
  rintro _ h1 ⟨x, rfl, x0, x1, m1⟩
  simp only [go_sem, Nat.reduceBEq]
  by_cases c0 : x = 0
  · simp only [decide_eq_true c0, go_sem, Nat.reduceBEq, Nat.reduceAdd, Nat.reduceLeDiff]
    exact .plain 0 0 _ (by decide) (by decide) (by decide) (by decide) m1
  simp only [decide_eq_false c0, go_sem, Nat.reduceBEq]
  by_cases c1 : x = 1
  · simp only [decide_eq_true c1, go_sem, Nat.reduceBEq]
    refine (l1Once_c hl m1 2 (by decide) (by decide)).mono ?_
    rintro _ h2 ⟨b, rfl, m2⟩
    simp only [go_sem, Nat.reduceBEq]
    (refine (dBoolV b _).mono ?_; rintro _ _ ⟨rfl, rfl⟩; simp only [go_sem, Nat.reduceBEq, Nat.reduceAdd, Nat.reduceLeDiff])
    exact .plain 1 _ _ (by decide) (by split <;> decide) (by decide) (by decide) m2
  simp only [decide_eq_false c1, go_sem, Nat.reduceBEq]
  by_cases c2 : x = 2
  · simp only [decide_eq_true c2, go_sem, Nat.reduceBEq]
    refine (l5Word_c hl m1).mono ?_
    rintro _ h2 ⟨s, rfl, hs, m2⟩
    simp only [go_sem, Nat.reduceBEq]
    (refine (dTextV s _).mono ?_; rintro _ _ ⟨rfl, rfl⟩; simp only [go_sem, Nat.reduceBEq, Nat.reduceAdd, Nat.reduceLeDiff])
    exact .plain 3 0 s (by decide) (by decide) hs (by decide) m2
  simp only [decide_eq_false c2, go_sem, Nat.reduceBEq]
  by_cases c3 : x = 3
  · simp only [decide_eq_true c3, go_sem, Nat.reduceBEq]
    refine (l5Word_c hl m1).mono ?_
    rintro _ h2 ⟨s, rfl, hs, m2⟩
    simp only [go_sem, Nat.reduceBEq]
    (refine (dTextV s _).mono ?_; rintro _ _ ⟨rfl, rfl⟩; simp only [go_sem, Nat.reduceBEq, Nat.reduceAdd, Nat.reduceLeDiff])
    exact .plain 3 0 s (by decide) (by decide) hs (by decide) m2
  simp only [decide_eq_false c3, go_sem, Nat.reduceBEq]
  by_cases c4 : x = 4
  · simp only [decide_eq_true c4, go_sem, Nat.reduceBEq]
    refine cur_ints [0, 1, -1, 5, 10, 999999999, 1000000000, -1000000000] slT99 rfl rfl rfl (by decide) (by decide) m1 fun v h2 m2 => ?_
    simp only [go_sem, Nat.reduceBEq]
    refine (l1Int_c hl m2 (by decide) (by decide)).mono ?_
    rintro _ h3 ⟨n, hn, rfl, m3⟩
    simp only [go_sem, Nat.reduceBEq]
    have hr : ∀ n ∈ ([0, 1, -1, 5, 10, 999999999, 1000000000, -1000000000] : List Int), IntKind.i64.min ≤ n ∧ n ≤ IntKind.i64.max := by decide
    (refine (dIntV n _).mono ?_; rintro _ _ ⟨rfl, rfl⟩; simp only [go_sem, Nat.reduceBEq, Nat.reduceAdd, Nat.reduceLeDiff])
    exact .plain 2 n _ (by decide) (hr n hn) (by decide) (by decide) m3.drop
  simp only [decide_eq_false c4, go_sem, Nat.reduceBEq]
  refine (l1Below_c hl m1 20 (by decide) (by decide)).mono ?_
  rintro _ h2 ⟨y, rfl, y0, y1, m2⟩
  simp only [go_sem, Nat.reduceBEq]
  (refine (dIntV (IntKind.i64.wrap (y - 5)) _).mono ?_; rintro _ _ ⟨rfl, rfl⟩; simp only [go_sem, Nat.reduceBEq, Nat.reduceAdd, Nat.reduceLeDiff])
  exact .plain 2 _ _ (by decide) (wrap_ok _) (by decide) (by decide) m2
end
end Go.Proofs.YtconhonjkfpfmaaDoor
namespace Go.Proofs.YtconhonjkfpfmaaDoor
set_option maxRecDepth 8000
open Go Go.Sx
section
variable {h0 h : Hp} {bag : Bag} {l : List UInt8} {p : Nat}
/-- how much a value drawn to some depth holds -/
def bD : Nat → Nat
  | 0 => 16
  | d + 1 => 4 * (5 + bD d)
theorem bD_pos : ∀ d, 16 ≤ bD d
  | 0 => Nat.le_refl _
  | d + 1 => by
    have := bD_pos d
    unfold bD
    omega
theorem max_ok {a b : Int} (ha : IntKind.i64.min ≤ a ∧ a ≤ IntKind.i64.max) (hb : IntKind.i64.min ≤ b ∧ b ≤ IntKind.i64.max) : IntKind.i64.min ≤ max a b ∧ max a b ≤ IntKind.i64.max := by omega
theorem ValP.up {B C : Nat} (hBC : B ≤ C) {u : Value} {h' : Hp} (k : ValP B h0 l p bag u h') : ValP C h0 l p bag u h' := by
  obtain ⟨v, a, c, e, h1, h2, h3⟩ := k
  exact ⟨v, a, c, e, h1, Nat.le_trans h2 hBC, h3⟩
/-- what is known of the array so far -/
def InD (d : Nat) (h0 : Hp) (l : List UInt8) (p : Nat) (bag : Bag) (x : Nat × List (Ky × V) × Int × Value) (h' : Hp) : Prop :=
  x.2.1.length + x.1 ≤ 4 ∧ V.oks x.2.1 ∧ V.bulks x.2.1 ≤ x.2.1.length * (5 + bD d) ∧ (IntKind.i64.min ≤ x.2.2.1 ∧ x.2.2.1 ≤ IntKind.i64.max) ∧ ∃ a c, x.2.2.2 = .slice a x.2.1.length c ∧ CurM h0 h' l p ((.row 8 (x.2.1.flatMap edt), .slice a x.2.1.length c) :: bag)
theorem l5Draw_c (hl : l.length ≤ 1048576) : ∀ (d : Nat), d ≤ 1000 → ∀ {h0 h : Hp} {bag : Bag}, CurM h0 h l p bag → ACalls Tryd.prog 81 #[pv p, .int .i64 (d : Nat)] h (ValP (bD d) h0 l p bag)
  | 0, _, h0, h, bag, m => by
    (refine enter Tryd.func81 rfl rfl (by kernel_rfl) [] ?_; simp only [go_sem, Nat.reduceBEq])
    simp only [show decide (((0 : Nat) : Int) ≤ 0) = true from rfl, go_sem, Nat.reduceBEq]
    refine (l5Scalar_c hl m).mono ?_
    rintro _ h1 ⟨v, a, c, rfl, hv, hb, m1⟩
    simp only [go_sem, Nat.reduceBEq, Nat.reduceAdd, Nat.reduceLeDiff]
    exact ⟨v, a, c, rfl, hv, hb, m1⟩
  | d + 1, hd, h0, h, bag, m => by
    have ih := fun hd {h0 h : Hp} {bag : Bag} m => l5Draw_c hl d hd (h0 := h0) (h := h) (bag := bag) m
    have hp := bD_pos d
    have wd : IntKind.i64.wrap (((d + 1 : Nat) : Int) - 1) = ((d : Nat) : Int) := by rw [IntWalk.i64_in _ (by omega)]; omega
    (refine enter Tryd.func81 rfl rfl (by kernel_rfl) [] ?_; simp only [go_sem, Nat.reduceBEq])
    simp only [show decide (((d + 1 : Nat) : Int) ≤ 0) = false from decide_eq_false (by omega), go_sem, Nat.reduceBEq]
    refine (l1Once_c hl m 3 (by decide) (by decide)).mono ?_
    rintro _ h1 ⟨b, rfl, m1⟩
    simp only [go_sem, Nat.reduceBEq]
    cases b with
    | false =>
      simp only [go_sem, Nat.reduceBEq]
      refine (l5Scalar_c hl m1).mono ?_
      rintro _ h2 ⟨v, a, c, rfl, hv, hb, m2⟩
      simp only [go_sem, Nat.reduceBEq, Nat.reduceAdd, Nat.reduceLeDiff]
      exact ⟨v, a, c, rfl, hv, by unfold bD; omega, m2⟩
    | true =>
    simp only [go_sem]
    (refine (dArrV _).mono ?_; rintro _ _ ⟨rfl, rfl⟩; simp only [go_sem, Nat.reduceBEq, Nat.reduceAdd, Nat.reduceLeDiff])
    try simp only [go_sem, Nat.reduceBEq, Nat.reduceAdd, Nat.reduceLeDiff, Nat.reduceEqDiff, Int.reduceEq, not_false_eq_true, Int.reduceToNat]
    refine (l1Below_c hl m1 5 (by decide) (by decide)).mono ?_
    rintro _ h2 ⟨x, rfl, x0, x1, m2⟩
    obtain ⟨k0, rfl⟩ := Int.eq_ofNat_of_zero_le x0
    simp only [go_sem, Nat.reduceBEq]
    refine aloop (ι := Nat × List (Ky × V) × Int × Value) (fun x => [(6, .val (.int .i64 (x.1 : Nat))), (5, .box 5 0), (4, .box 4 0), (1, .val (.int .i64 ((d + 1 : Nat) : Int))), (0, .val (pv p))])
      (fun x => [(5, [.int .i64 4, .int .i64 0, .string ⟨#[]⟩, .int .i64 x.2.2.1, x.2.2.2]), (4, [.int .i64 0, .int .i64 0, .string ⟨#[]⟩, .int .i64 0, .slice none 0 0])])
      (InD d h0 l p bag) (fun x => x.1) (k0, [], 0, .slice none 0 0) ⟨by show 0 + k0 ≤ 4; omega, by simp only [V.oks], Nat.zero_le _, (show IntKind.i64.min ≤ 0 ∧ 0 ≤ IntKind.i64.max by decide), none, 0, rfl, m2.upd fun d m => (m.nilrow).swap⟩ (by repeat (first | exact wkF_e | refine wkF_c rfl ?_)) (wkB_c rfl (wkB_c rfl wkB_e)) rfl ?_
    rintro ⟨kk, es, nx, sl⟩ h3 ⟨hk, ho, hb, hx, a, c, hsl, m3⟩
    have hsl : sl = .slice a es.length c := hsl
    subst hsl
    have hk : es.length + kk ≤ 4 := hk
    have ho : V.oks es := ho
    have hb : V.bulks es ≤ es.length * (5 + bD d) := hb
    have hx : IntKind.i64.min ≤ nx ∧ nx ≤ IntKind.i64.max := hx
    have m3 : CurM h0 h3 l p ((.row 8 (es.flatMap edt), .slice a es.length c) :: bag) := m3
    simp only [go_sem, Nat.reduceBEq]
    cases kk with
    | zero =>
      simp only [show decide (0 < ((0 : Nat) : Int)) = false from rfl, go_sem, Nat.reduceBEq, Nat.reduceAdd, Nat.reduceLeDiff]
      refine ⟨V.mk 4 0 ⟨#[]⟩ nx es, a, c, rfl, V.ok_mk (by decide) (by decide) (by decide) hx (by omega) ho, ?_, m3⟩
      rw [V.bulk_eq]
      show 0 + V.bulks es ≤ bD (d + 1)
      have h4 : es.length * (5 + bD d) ≤ 4 * (5 + bD d) := Nat.mul_le_mul_right _ (by omega)
      unfold bD
      omega
    | succ k =>
    have wk : IntKind.i64.wrap (((k + 1 : Nat) : Int) - 1) = ((k : Nat) : Int) := by rw [IntWalk.i64_in _ (by omega)]; omega
    simp only [show decide (0 < ((k + 1 : Nat) : Int)) = true from decide_eq_true (by omega), go_sem, Nat.reduceBEq]
    refine (l5Key_c hl m3).mono ?_
    rintro _ h4 ⟨key, rfl, hkey, hks, m4⟩
    try simp only [go_sem, Nat.reduceBEq, Nat.reduceAdd, Nat.reduceLeDiff]
    refine (l1Once_c hl m4 2 (by decide) (by decide)).mono ?_
    rintro _ h5 ⟨b, rfl, m5⟩
    try simp only [go_sem, Nat.reduceBEq]
    cases b with
    | false =>
      try simp only [go_sem, Nat.reduceBEq, Nat.reduceAdd, Nat.reduceLeDiff]
      try simp only [go_sem, Nat.reduceBEq, Nat.reduceAdd, Nat.reduceLeDiff, Nat.reduceEqDiff, Int.reduceEq, not_false_eq_true, Int.reduceToNat]
      refine (sFind (V.mk 4 0 ⟨#[]⟩ nx es) key (by show es.length ≤ _; omega) _ _ m5.my.rd).mono ?_
      rintro _ _ ⟨rfl, rfl⟩
      simp only [ixI_neg, go_sem, Nat.reduceBEq]
      cases hf : (V.mk 4 0 ⟨#[]⟩ nx es).find key with
      | some j =>
        simp only [Option.isNone_some, go_sem, Nat.reduceBEq]
        try simp only [go_sem, Nat.reduceBEq, Nat.reduceAdd, Nat.reduceLeDiff, Nat.reduceEqDiff, Int.reduceEq, not_false_eq_true, Int.reduceToNat]
        simp only [wk, go_sem]
        exact Again.intro (k, es, nx, .slice a es.length c) (by first | omega | (simp only; omega)) ⟨(show es.length + k ≤ 4 by omega), ho, hb, hx, a, c, rfl, m5⟩ (by repeat (first | exact wkF_e | refine wkF_c rfl ?_)) (wkB_c rfl (wkB_c rfl wkB_e)) rfl
      | none =>
      simp only [Option.isNone_none, go_sem]
      refine regionD_intro (lb := [41, 42]) (by kernel_rfl) ?_
      simp only [wd, go_sem, Nat.reduceBEq, Nat.reduceAdd, Nat.reduceLeDiff]
      refine (ih (by omega) m5).mono ?_
      rintro _ h9 ⟨w, aw, cw, rfl, hw, hwb, m9⟩
      try simp only [go_sem, Nat.reduceBEq, Nat.reduceAdd, Nat.reduceLeDiff]
      refine cur_ent (k := key) slT24 rfl m9 fun v10 h10 m10 => ?_
      try simp only [go_sem, Nat.reduceBEq]
      refine cur_push slT24 rfl rfl (by decide) m10 (by omega) fun a11 c11 h11 m11 => ?_
      try simp only [go_sem, Nat.reduceBEq, Nat.reduceAdd, Nat.reduceLeDiff]
      have hl11 : (es ++ [(key, w)]).length = es.length + 1 := by rw [List.length_append]; rfl
      have hb11 : V.bulks (es ++ [(key, w)]) ≤ (es ++ [(key, w)]).length * (5 + bD d) := by
        have hsz := hks
        rw [bulks_snoc, hl11, Nat.add_mul]
        omega
      have ho11 : V.oks (es ++ [(key, w)]) := oks_snoc ho hkey hw
      cases ht : key.text with
      | true =>
        try simp only [go_sem, Nat.reduceBEq]
        simp only [wk, go_sem]
        exact Again.intro (k, es ++ [(key, w)], nx, .slice a11 (es ++ [(key, w)]).length c11) (by first | omega | (simp only; omega)) ⟨(show (es ++ [(key, w)]).length + k ≤ 4 by omega), ho11, hb11, hx, a11, c11, rfl, m11⟩ (by repeat (first | exact wkF_e | refine wkF_c rfl ?_)) (wkB_c rfl (wkB_c rfl wkB_e)) rfl
      | false =>
      try simp only [go_sem, Nat.reduceBEq]
      (refine (sMax nx (IntKind.i64.wrap (key.num + 1)) _).mono ?_; rintro _ _ ⟨rfl, rfl⟩; simp only [go_sem, Nat.reduceBEq, Nat.reduceAdd, Nat.reduceLeDiff])
      try simp only [go_sem, Nat.reduceBEq, Nat.reduceAdd, Nat.reduceLeDiff, Nat.reduceEqDiff, Int.reduceEq, not_false_eq_true, Int.reduceToNat]
      simp only [wk, go_sem]
      exact Again.intro (k, es ++ [(key, w)], max nx (IntKind.i64.wrap (key.num + 1)), .slice a11 (es ++ [(key, w)]).length c11) (by first | omega | (simp only; omega)) ⟨(show (es ++ [(key, w)]).length + k ≤ 4 by omega), ho11, hb11, max_ok hx (wrap_ok _), a11, c11, rfl, m11⟩ (by repeat (first | exact wkF_e | refine wkF_c rfl ?_)) (wkB_c rfl (wkB_c rfl wkB_e)) rfl
    | true =>
    try simp only [go_sem, Nat.reduceBEq]
    by_cases hn : nx ≤ 1000000000
    case neg =>
      simp only [decide_eq_false hn, go_sem, Nat.reduceBEq, Nat.reduceAdd, Nat.reduceLeDiff]
      try simp only [go_sem, Nat.reduceBEq, Nat.reduceAdd, Nat.reduceLeDiff, Nat.reduceEqDiff, Int.reduceEq, not_false_eq_true, Int.reduceToNat]
      refine (sFind (V.mk 4 0 ⟨#[]⟩ nx es) key (by show es.length ≤ _; omega) _ _ m5.my.rd).mono ?_
      rintro _ _ ⟨rfl, rfl⟩
      simp only [ixI_neg, go_sem, Nat.reduceBEq]
      cases hf : (V.mk 4 0 ⟨#[]⟩ nx es).find key with
      | some j =>
        simp only [Option.isNone_some, go_sem, Nat.reduceBEq]
        try simp only [go_sem, Nat.reduceBEq, Nat.reduceAdd, Nat.reduceLeDiff, Nat.reduceEqDiff, Int.reduceEq, not_false_eq_true, Int.reduceToNat]
        simp only [wk, go_sem]
        exact Again.intro (k, es, nx, .slice a es.length c) (by first | omega | (simp only; omega)) ⟨(show es.length + k ≤ 4 by omega), ho, hb, hx, a, c, rfl, m5⟩ (by repeat (first | exact wkF_e | refine wkF_c rfl ?_)) (wkB_c rfl (wkB_c rfl wkB_e)) rfl
      | none =>
      simp only [Option.isNone_none, go_sem]
      refine regionD_intro (lb := [41, 42]) (by kernel_rfl) ?_
      simp only [wd, go_sem, Nat.reduceBEq, Nat.reduceAdd, Nat.reduceLeDiff]
      refine (ih (by omega) m5).mono ?_
      rintro _ h9 ⟨w, aw, cw, rfl, hw, hwb, m9⟩
      try simp only [go_sem, Nat.reduceBEq, Nat.reduceAdd, Nat.reduceLeDiff]
      refine cur_ent (k := key) slT24 rfl m9 fun v10 h10 m10 => ?_
      try simp only [go_sem, Nat.reduceBEq]
      refine cur_push slT24 rfl rfl (by decide) m10 (by omega) fun a11 c11 h11 m11 => ?_
      try simp only [go_sem, Nat.reduceBEq, Nat.reduceAdd, Nat.reduceLeDiff]
      have hl11 : (es ++ [(key, w)]).length = es.length + 1 := by rw [List.length_append]; rfl
      have hb11 : V.bulks (es ++ [(key, w)]) ≤ (es ++ [(key, w)]).length * (5 + bD d) := by
        have hsz := hks
        rw [bulks_snoc, hl11, Nat.add_mul]
        omega
      have ho11 : V.oks (es ++ [(key, w)]) := oks_snoc ho hkey hw
      cases ht : key.text with
      | true =>
        try simp only [go_sem, Nat.reduceBEq]
        simp only [wk, go_sem]
        exact Again.intro (k, es ++ [(key, w)], nx, .slice a11 (es ++ [(key, w)]).length c11) (by first | omega | (simp only; omega)) ⟨(show (es ++ [(key, w)]).length + k ≤ 4 by omega), ho11, hb11, hx, a11, c11, rfl, m11⟩ (by repeat (first | exact wkF_e | refine wkF_c rfl ?_)) (wkB_c rfl (wkB_c rfl wkB_e)) rfl
      | false =>
      try simp only [go_sem, Nat.reduceBEq]
      (refine (sMax nx (IntKind.i64.wrap (key.num + 1)) _).mono ?_; rintro _ _ ⟨rfl, rfl⟩; simp only [go_sem, Nat.reduceBEq, Nat.reduceAdd, Nat.reduceLeDiff])
      try simp only [go_sem, Nat.reduceBEq, Nat.reduceAdd, Nat.reduceLeDiff, Nat.reduceEqDiff, Int.reduceEq, not_false_eq_true, Int.reduceToNat]
      simp only [wk, go_sem]
      exact Again.intro (k, es ++ [(key, w)], max nx (IntKind.i64.wrap (key.num + 1)), .slice a11 (es ++ [(key, w)]).length c11) (by first | omega | (simp only; omega)) ⟨(show (es ++ [(key, w)]).length + k ≤ 4 by omega), ho11, hb11, max_ok hx (wrap_ok _), a11, c11, rfl, m11⟩ (by repeat (first | exact wkF_e | refine wkF_c rfl ?_)) (wkB_c rfl (wkB_c rfl wkB_e)) rfl
    simp only [decide_eq_true hn, go_sem, Nat.reduceBEq, Nat.reduceAdd, Nat.reduceLeDiff]
    try simp only [go_sem, Nat.reduceBEq, Nat.reduceAdd, Nat.reduceLeDiff, Nat.reduceEqDiff, Int.reduceEq, not_false_eq_true, Int.reduceToNat]
    refine (sFind (V.mk 4 0 ⟨#[]⟩ nx es) (⟨false, nx, ⟨#[]⟩⟩ : Ky) (by show es.length ≤ _; omega) _ _ m5.my.rd).mono ?_
    rintro _ _ ⟨rfl, rfl⟩
    simp only [ixI_neg, go_sem, Nat.reduceBEq]
    cases hf : (V.mk 4 0 ⟨#[]⟩ nx es).find (⟨false, nx, ⟨#[]⟩⟩ : Ky) with
    | some j =>
      simp only [Option.isNone_some, go_sem, Nat.reduceBEq]
      try simp only [go_sem, Nat.reduceBEq, Nat.reduceAdd, Nat.reduceLeDiff, Nat.reduceEqDiff, Int.reduceEq, not_false_eq_true, Int.reduceToNat]
      simp only [wk, go_sem]
      exact Again.intro (k, es, nx, .slice a es.length c) (by first | omega | (simp only; omega)) ⟨(show es.length + k ≤ 4 by omega), ho, hb, hx, a, c, rfl, m5⟩ (by repeat (first | exact wkF_e | refine wkF_c rfl ?_)) (wkB_c rfl (wkB_c rfl wkB_e)) rfl
    | none =>
    simp only [Option.isNone_none, go_sem]
    refine regionD_intro (lb := [41, 42]) (by kernel_rfl) ?_
    simp only [wd, go_sem, Nat.reduceBEq, Nat.reduceAdd, Nat.reduceLeDiff]
    refine (ih (by omega) m5).mono ?_
    rintro _ h9 ⟨w, aw, cw, rfl, hw, hwb, m9⟩
    try simp only [go_sem, Nat.reduceBEq, Nat.reduceAdd, Nat.reduceLeDiff]
    refine cur_ent (k := (⟨false, nx, ⟨#[]⟩⟩ : Ky)) slT24 rfl m9 fun v10 h10 m10 => ?_
    try simp only [go_sem, Nat.reduceBEq]
    refine cur_push slT24 rfl rfl (by decide) m10 (by omega) fun a11 c11 h11 m11 => ?_
    try simp only [go_sem, Nat.reduceBEq, Nat.reduceAdd, Nat.reduceLeDiff]
    have hl11 : (es ++ [((⟨false, nx, ⟨#[]⟩⟩ : Ky), w)]).length = es.length + 1 := by rw [List.length_append]; rfl
    have hb11 : V.bulks (es ++ [((⟨false, nx, ⟨#[]⟩⟩ : Ky), w)]) ≤ (es ++ [((⟨false, nx, ⟨#[]⟩⟩ : Ky), w)]).length * (5 + bD d) := by
      have hsz := (show (⟨false, nx, ⟨#[]⟩⟩ : Ky).str.size ≤ 4 from Nat.zero_le _)
      rw [bulks_snoc, hl11, Nat.add_mul]
      omega
    have ho11 : V.oks (es ++ [((⟨false, nx, ⟨#[]⟩⟩ : Ky), w)]) := oks_snoc ho (show (⟨false, nx, ⟨#[]⟩⟩ : Ky).ok from ⟨hx, Nat.zero_le _⟩) hw
    (refine (sMax nx (IntKind.i64.wrap (nx + 1)) _).mono ?_; rintro _ _ ⟨rfl, rfl⟩; simp only [go_sem, Nat.reduceBEq, Nat.reduceAdd, Nat.reduceLeDiff])
    try simp only [go_sem, Nat.reduceBEq, Nat.reduceAdd, Nat.reduceLeDiff, Nat.reduceEqDiff, Int.reduceEq, not_false_eq_true, Int.reduceToNat]
    simp only [wk, go_sem]
    exact Again.intro (k, es ++ [((⟨false, nx, ⟨#[]⟩⟩ : Ky), w)], max nx (IntKind.i64.wrap (nx + 1)), .slice a11 (es ++ [((⟨false, nx, ⟨#[]⟩⟩ : Ky), w)]).length c11) (by first | omega | (simp only; omega)) ⟨(show (es ++ [((⟨false, nx, ⟨#[]⟩⟩ : Ky), w)]).length + k ≤ 4 by omega), ho11, hb11, max_ok hx (wrap_ok _), a11, c11, rfl, m11⟩ (by repeat (first | exact wkF_e | refine wkF_c rfl ?_)) (wkB_c rfl (wkB_c rfl wkB_e)) rfl
theorem l5Any_c (hl : l.length ≤ 1048576) (m : CurM h0 h l p bag) : ACalls Tryd.prog 46 #[pv p] h (ValP 1500 h0 l p bag) := by
  have lo := i64_lo
  have hi := i64_hi
  have hD : bD 3 = 1444 := rfl
  (refine enter Tryd.func46 rfl rfl (by kernel_rfl) [] ?_; simp only [go_sem, Nat.reduceBEq])
  refine (l5Draw_c hl 3 (by decide) m).mono ?_
  rintro _ h1 ⟨v, a, c, rfl, hv, hb, m1⟩
  have hB := V.bulk_eq v
  have hbl := bulks_len' v.items
  have o1 := V.ok_kind hv
  have o2 := V.ok_num hv
  have o3 := V.ok_next hv
  have o4 := V.ok_items hv
  simp only [go_sem, Nat.reduceBEq, Nat.reduceAdd, Nat.reduceLeDiff]
  refine (l1Below_c hl m1 14 (by decide) (by decide)).mono ?_
  rintro _ h2 ⟨x, rfl, x0, x1, m2⟩
  simp only [go_sem, Nat.reduceBEq]
  by_cases c0 : x = 0
  · simp only [decide_eq_true c0, go_sem, Nat.reduceBEq]
    refine (l1Odd_c hl m2).mono ?_
    rintro _ h3 ⟨n, rfl, hn, m3⟩
    simp only [go_sem, Nat.reduceBEq, Nat.reduceAdd, Nat.reduceLeDiff]
    exact ⟨V.mk v.kind n v.str v.next v.items, a, c, rfl, V.ok_mk o1 hn (by omega) o3 (by omega) o4, by rw [V.bulk_eq]; show v.str.size + V.bulks v.items ≤ 1500; omega, m3⟩
  simp only [decide_eq_false c0, go_sem, Nat.reduceBEq]
  by_cases c1 : x = 1
  · simp only [decide_eq_true c1, go_sem, Nat.reduceBEq]
    refine (l1Odd_c hl m2).mono ?_
    rintro _ h3 ⟨n, rfl, hn, m3⟩
    simp only [go_sem, Nat.reduceBEq, Nat.reduceAdd, Nat.reduceLeDiff]
    exact ⟨V.mk v.kind v.num v.str n v.items, a, c, rfl, V.ok_mk o1 o2 (by omega) hn (by omega) o4, by rw [V.bulk_eq]; show v.str.size + V.bulks v.items ≤ 1500; omega, m3⟩
  simp only [decide_eq_false c1, go_sem, Nat.reduceBEq]
  by_cases c2 : x = 2
  · simp only [decide_eq_true c2, go_sem, Nat.reduceBEq]
    refine cur_ints [-1, 4, 5, 6, 7, 8, 9] slT99 rfl rfl rfl (by decide) (by decide) m2 fun v3 h3 m3 => ?_
    simp only [go_sem, Nat.reduceBEq]
    refine (l1Int_c hl m3 (by decide) (by decide)).mono ?_
    rintro _ h4 ⟨n, hn, rfl, m4⟩
    simp only [go_sem, Nat.reduceBEq, Nat.reduceAdd, Nat.reduceLeDiff]
    have hr : ∀ n ∈ ([-1, 4, 5, 6, 7, 8, 9] : List Int), IntKind.i64.min ≤ n ∧ n ≤ IntKind.i64.max := by decide
    exact ⟨V.mk n v.num v.str v.next v.items, a, c, rfl, V.ok_mk (hr n hn) o2 (by omega) o3 (by omega) o4, by rw [V.bulk_eq]; show v.str.size + V.bulks v.items ≤ 1500; omega, m4.drop⟩
  simp only [decide_eq_false c2, go_sem, Nat.reduceBEq]
  by_cases c3 : x = 3
  · simp only [decide_eq_true c3, go_sem]
    refine regionD_intro (lb := [27]) (by kernel_rfl) ?_
    simp only [go_sem, Nat.reduceBEq]
    refine (l5Key_c hl m2).mono ?_
    rintro _ h3 ⟨key, rfl, hkey, hks, m3⟩
    simp only [go_sem, Nat.reduceBEq]
    refine (l5Scalar_c hl m3).mono ?_
    rintro _ h4 ⟨w, aw, cw, rfl, hw, hwb, m4⟩
    simp only [go_sem, Nat.reduceBEq, Nat.reduceAdd, Nat.reduceLeDiff]
    refine cur_ent (k := key) slT24 rfl m4 fun v5 h5 m5 => ?_
    simp only [go_sem, Nat.reduceBEq]
    refine cur_push slT24 rfl rfl (by decide) m5 (by omega) fun a6 c6 h6 m6 => ?_
    simp only [go_sem, Nat.reduceBEq, Nat.reduceAdd, Nat.reduceLeDiff]
    have hbs := bulks_snoc v.items key w
    have hls : (v.items ++ [(key, w)]).length = v.items.length + 1 := by rw [List.length_append]; rfl
    exact ⟨V.mk v.kind v.num v.str v.next (v.items ++ [(key, w)]), a6, c6, rfl, V.ok_mk o1 o2 (by omega) o3 (by omega) (oks_snoc o4 hkey hw), by rw [V.bulk_eq]; show v.str.size + V.bulks (v.items ++ [(key, w)]) ≤ 1500; omega, m6⟩
  simp only [decide_eq_false c3, go_sem, Nat.reduceBEq]
  by_cases c4 : x = 4
  · simp only [decide_eq_true c4, go_sem, Nat.reduceBEq]
    refine (l1Below_c hl m2 3 (by decide) (by decide)).mono ?_
    rintro _ h3 ⟨y, rfl, y0, y1, m3⟩
    simp only [go_sem, Nat.reduceBEq]
    refine (l1Below_c hl m3 3 (by decide) (by decide)).mono ?_
    rintro _ h4 ⟨z, rfl, z0, z1, m4⟩
    simp only [go_sem, Nat.reduceBEq, Nat.reduceAdd, Nat.reduceLeDiff]
    exact .plain (IntKind.i64.wrap (6 + y)) z _ (wrap_ok _) (by omega) (by decide) (by decide) m4.drop
  simp only [decide_eq_false c4, go_sem, Nat.reduceBEq, Nat.reduceAdd, Nat.reduceLeDiff]
  exact ⟨v, a, c, rfl, hv, by omega, m2⟩
/-- A draw of two values. -/
def TwoP (B : Nat) (h0 : Hp) (l : List UInt8) (p : Nat) (bag : Bag) (u : Value) (h' : Hp) : Prop := ∃ (v w : V) (a b : Option Addr) (c d : Nat), u = .tuple #[.agg #[.int .i64 v.kind, .int .i64 v.num, .string v.str, .int .i64 v.next, .slice a v.items.length c], .agg #[.int .i64 w.kind, .int .i64 w.num, .string w.str, .int .i64 w.next, .slice b w.items.length d]] ∧ v.ok ∧ w.ok ∧ v.bulk ≤ B ∧ w.bulk ≤ B ∧ CurM h0 h' l p ((.row 8 (w.items.flatMap edt), .slice b w.items.length d) :: (.row 8 (v.items.flatMap edt), .slice a v.items.length c) :: bag)
theorem l9Two_c (hl : l.length ≤ 1048576) (m : CurM h0 h l p bag) : ACalls Tryd.prog 38 #[pv p] h (TwoP 1600 h0 l p bag) := by
  (refine enter Tryd.func38 rfl rfl (by kernel_rfl) [] ?_; simp only [go_sem, Nat.reduceBEq])
  refine (l5Any_c hl m).mono ?_
  rintro _ h1 ⟨v, a, c, rfl, hv, hb, m1⟩
  have hB := V.bulk_eq v
  simp only [go_sem, Nat.reduceBEq, Nat.reduceAdd, Nat.reduceLeDiff]
  refine (l1Once_c hl m1 3 (by decide) (by decide)).mono ?_
  rintro _ h2 ⟨b, rfl, m2⟩
  simp only [go_sem, Nat.reduceBEq]
  cases b with
  | false =>
    simp only [go_sem]
    refine regionD_intro (lb := [32]) (by kernel_rfl) ?_
    simp only [go_sem, Nat.reduceBEq, Nat.reduceAdd, Nat.reduceLeDiff]
    refine (l5Any_c hl m2).mono ?_
    rintro _ h3 ⟨w, aw, cw, rfl, hw, hwb, m3⟩
    simp only [go_sem, Nat.reduceBEq, Nat.reduceAdd, Nat.reduceLeDiff]
    exact ⟨v, w, a, aw, c, cw, rfl, hv, hw, by omega, by omega, m3⟩
  | true =>
  simp only [go_sem, Nat.reduceBEq, Nat.reduceAdd, Nat.reduceLeDiff]
  refine (l5Copy_c v (by omega) _ _ m2.my.rd).mono ?_
  rintro _ h3 ⟨a3, c3, rfl, q3⟩
  have m3 := m2.add q3
  have m3 : CurM h0 h3 l p ((.row 8 (v.items.flatMap edt), .slice a3 v.items.length c3) :: (.row 8 (v.items.flatMap edt), .slice a v.items.length c) :: bag) := m3
  simp only [go_sem, Nat.reduceBEq, Nat.reduceAdd, Nat.reduceLeDiff]
  by_cases hl0 : 0 < v.items.length
  case neg =>
    simp only [show decide ((0 : Int) < (v.items.length : Nat)) = false from decide_eq_false (by omega), go_sem, Nat.reduceBEq]
    refine regionQ_intro (lb := [30]) (pl := [31]) 5 rfl (by kernel_rfl) fun b6 T6 hb6 => ?_
    obtain ⟨y6, my6, back6⟩ := (cur_val (w := v) m3 hb6 T6).fst
    simp only [proF_v, proF_b, proF_e, delb_c, delb_e, go_sem, Nat.reduceBEq, Nat.reduceAdd, Nat.reduceLeDiff]
    refine var_take (Hold.ptr (p := []) (q := [])) my6 rfl fun a7 n7 m7 => ?_
    simp only [go_sem, Nat.reduceBEq, Nat.reduceAdd, Nat.reduceLeDiff]
    exact ⟨v, v, a, a7, c, n7, rfl, hv, hv, by omega, by omega, back6 _ [_] m7⟩
  simp only [show decide ((0 : Int) < (v.items.length : Nat)) = true from decide_eq_true (by omega), go_sem, Nat.reduceBEq]
  refine (l1Once_c hl m3 2 (by decide) (by decide)).mono ?_
  rintro _ h4 ⟨b, rfl, m4⟩
  simp only [go_sem, Nat.reduceBEq]
  cases b with
  | false =>
    try simp only [go_sem]
    refine regionQ_intro (lb := [30]) (pl := [31]) 5 rfl (by kernel_rfl) fun b6 T6 hb6 => ?_
    obtain ⟨y6, my6, back6⟩ := (cur_val (w := v) m4 hb6 T6).fst
    simp only [proF_v, proF_b, proF_e, delb_c, delb_e, go_sem, Nat.reduceBEq, Nat.reduceAdd, Nat.reduceLeDiff]
    refine var_take (Hold.ptr (p := []) (q := [])) my6 rfl fun a7 n7 m7 => ?_
    simp only [go_sem, Nat.reduceBEq, Nat.reduceAdd, Nat.reduceLeDiff]
    exact ⟨v, v, a, a7, c, n7, rfl, hv, hv, by omega, by omega, back6 _ [_] m7⟩
  | true =>
  try simp only [go_sem]
  obtain ⟨b3, k3, e3⟩ := m4.row0 hl0 (fm_len edt_len _)
  cases e3
  have hil : v.items.length - 1 < v.items.length := by omega
  have w1 : IntKind.i64.wrap ((v.items.length : Nat) - 1) = ((v.items.length - 1 : Nat) : Int) := by rw [IntWalk.i64_in _ (by have := bulks_len' v.items; omega)]; omega
  have hix : ixA (some 8) (some ⟨b3, 0, none⟩) v.items.length (((v.items.length - 1 : Nat) : Int)) = some (.pointer (some ⟨b3, 0 + (v.items.length - 1) * 8, none⟩)) := ix_nat hil
  refine regionD_intro (lb := [21, 23]) (by kernel_rfl) ?_
  simp only [w1, go_sem, Nat.reduceBEq]
  refine (l5Scalar_c hl m4).mono ?_
  rintro _ h5 ⟨w, aw, cw, rfl, hw, hwb, m5⟩
  simp only [hix, go_sem, Nat.reduceBEq, Nat.reduceAdd]
  obtain ⟨e, he, _⟩ := get_lt hil
  obtain ⟨C, hC, eC⟩ := hold_item (cap := c3) (b := b3) he
  obtain ⟨y, my, back⟩ := m5.two
  have own : C e.2.dt = .row 8 (v.items.flatMap edt) := by rw [eC, ← drop_cons he, List.take_append_drop]
  have my : My h0 h5 ((.row 8 (w.items.flatMap edt), .slice aw w.items.length cw) :: (C e.2.dt, .slice (some ⟨b3, 0, none⟩) v.items.length c3) :: y :: (.row 8 (v.items.flatMap edt), .slice a v.items.length c) :: bag) := by
    rw [own]
    exact my
  refine var_store hC (V.dt_len _) my (by omega) fun h6 m6 => ?_
  rw [eC] at m6
  have m7 := back h6 [_] m6
  have m7 : CurM h0 h6 l p ((.row 8 ((setE v.items (v.items.length - 1) e w).flatMap edt), .slice (some ⟨b3, 0, none⟩) v.items.length c3) :: (.row 8 (v.items.flatMap edt), .slice a v.items.length c) :: bag) := m7
  try refine ⟨trivial, ?_⟩
  simp only [go_sem]
  have hsl := setE_len (w := w) he
  have hsb := setE_bulks (w := w) he
  have hso := setE_oks he (V.ok_items hv) hw
  have hlb := bulks_len' v.items
  have W2 : ∃ x : V, x = V.mk v.kind v.num v.str v.next (setE v.items (v.items.length - 1) e w) := ⟨_, rfl⟩
  obtain ⟨x, hx⟩ := W2
  have ox : x.ok := by rw [hx]; exact V.ok_mk (V.ok_kind hv) (V.ok_num hv) (by omega) (V.ok_next hv) (by omega) hso
  have bx : x.bulk ≤ 1600 := by
    rw [hx, V.bulk_eq]
    show v.str.size + V.bulks (setE v.items (v.items.length - 1) e w) ≤ 1600
    omega
  have m8 : CurM h0 h6 l p ((.row 8 (x.items.flatMap edt), .slice (some ⟨b3, 0, none⟩) v.items.length c3) :: (.row 8 (v.items.flatMap edt), .slice a v.items.length c) :: bag) := by rw [hx]; exact m7
  have k1 : x.kind = v.kind := by rw [hx]; rfl
  have k2 : x.num = v.num := by rw [hx]; rfl
  have k3 : x.str = v.str := by rw [hx]; rfl
  have k4 : x.next = v.next := by rw [hx]; rfl
  clear hx m7
  refine regionQ_intro (lb := [30]) (pl := [31]) 5 rfl (by kernel_rfl) fun b6 T6 hb6 => ?_
  have m9 := cur_val (w := x) m8 hb6 T6
  rw [k1, k2, k3, k4] at m9
  obtain ⟨y6, my6, back6⟩ := m9.fst
  simp only [proF_v, proF_b, proF_e, delb_c, delb_e, go_sem, Nat.reduceBEq, Nat.reduceAdd, Nat.reduceLeDiff]
  refine var_take (Hold.ptr (p := []) (q := [])) my6 rfl fun a7 n7 m7 => ?_
  simp only [go_sem, Nat.reduceBEq, Nat.reduceAdd, Nat.reduceLeDiff]
  exact ⟨v, x, a, a7, c, n7, rfl, hv, ox, by omega, bx, back6 _ [_] m7⟩
theorem drawToNumber_c (hl : l.length ≤ 1048576) {sl : Value} (rd : RdS h0 1 sl (bcells l)) (m : My h0 h bag) : ACalls Tryd.prog 13 #[sl] h (fun u h' => ∃ p, ValP 1500 h0 l p bag u h') := by
  (refine enter Tryd.func13 rfl rfl (by kernel_rfl) [] ?_; simp only [go_sem, Nat.reduceBEq])
  refine (l1New_c hl rd m).mono ?_
  rintro _ h1 ⟨p, rfl, m1⟩
  simp only [go_sem, Nat.reduceBEq]
  refine (l5Any_c hl m1).mono ?_
  rintro _ h2 ⟨v, a, c, rfl, hv, hb, m2⟩
  simp only [go_sem, Nat.reduceBEq, Nat.reduceAdd, Nat.reduceLeDiff]
  exact ⟨p, v, a, c, rfl, hv, hb, m2⟩
theorem drawCompare_c (hl : l.length ≤ 1048576) {sl : Value} (rd : RdS h0 1 sl (bcells l)) (m : My h0 h bag) : ACalls Tryd.prog 8 #[sl] h (fun u h' => ∃ p, TwoP 1600 h0 l p bag u h') := by
  (refine enter Tryd.func8 rfl rfl (by kernel_rfl) [] ?_; simp only [go_sem, Nat.reduceBEq])
  refine (l1New_c hl rd m).mono ?_
  rintro _ h1 ⟨p, rfl, m1⟩
  simp only [go_sem, Nat.reduceBEq]
  refine (l9Two_c hl m1).mono ?_
  rintro _ h2 ⟨v, w, a, b, c, d, rfl, hv, hw, hb, hwb, m2⟩
  simp only [go_sem, Nat.reduceBEq, Nat.reduceAdd, Nat.reduceLeDiff]
  exact ⟨p, v, w, a, b, c, d, rfl, hv, hw, hb, hwb, m2⟩
def ArithP (h0 : Hp) (l : List UInt8) (bag : Bag) (u : Value) (h' : Hp) : Prop := ∃ (p : Nat) (x y z : Int), u = .tuple #[.int .i64 x, .int .i64 y, .int .i64 z] ∧ CurM h0 h' l p bag
theorem drawArith_c (hl : l.length ≤ 1048576) {sl : Value} (rd : RdS h0 1 sl (bcells l)) (m : My h0 h bag) : ACalls Tryd.prog 25 #[sl] h (ArithP h0 l bag) := by
  (refine enter Tryd.func25 rfl rfl (by kernel_rfl) [] ?_; simp only [go_sem, Nat.reduceBEq])
  refine (l1New_c hl rd m).mono ?_
  rintro _ h1 ⟨p, rfl, m1⟩
  simp only [go_sem, Nat.reduceBEq]
  refine (l1Below_c hl m1 7 (by decide) (by decide)).mono ?_
  rintro _ h2 ⟨x, rfl, x0, x1, m2⟩
  simp only [go_sem, Nat.reduceBEq]
  refine (l1One_c hl m2).mono ?_
  rintro _ h3 ⟨y, rfl, y0, m3⟩
  simp only [go_sem, Nat.reduceBEq]
  refine (l1One_c hl m3).mono ?_
  rintro _ h4 ⟨z, rfl, z0, m4⟩
  simp only [go_sem, Nat.reduceBEq]
  refine (l1Below_c hl m4 3 (by decide) (by decide)).mono ?_
  rintro _ h5 ⟨t, rfl, t0, t1, m5⟩
  simp only [go_sem, Nat.reduceBEq]
  exact ⟨p, _, _, _, rfl, m5⟩
/-- A draw of an operation and two values. -/
def OpP (h0 : Hp) (l : List UInt8) (bag : Bag) (u : Value) (h' : Hp) : Prop := ∃ (p : Nat) (op : Int) (v w : V) (a b : Option Addr) (c d : Nat), u = .tuple #[.int .i64 op, .agg #[.int .i64 v.kind, .int .i64 v.num, .string v.str, .int .i64 v.next, .slice a v.items.length c], .agg #[.int .i64 w.kind, .int .i64 w.num, .string w.str, .int .i64 w.next, .slice b w.items.length d]] ∧ 0 ≤ op ∧ op ≤ 16 ∧ v.ok ∧ w.ok ∧ v.bulk ≤ 1600 ∧ w.bulk ≤ 1600 ∧ CurM h0 h' l p ((.row 8 (w.items.flatMap edt), .slice b w.items.length d) :: (.row 8 (v.items.flatMap edt), .slice a v.items.length c) :: bag)
theorem drawBinary_c (hl : l.length ≤ 1048576) {sl : Value} (rd : RdS h0 1 sl (bcells l)) (m : My h0 h bag) : ACalls Tryd.prog 27 #[sl] h (OpP h0 l bag) := by
  (refine enter Tryd.func27 rfl rfl (by kernel_rfl) [] ?_; simp only [go_sem, Nat.reduceBEq])
  refine (l1New_c hl rd m).mono ?_
  rintro _ h1 ⟨p, rfl, m1⟩
  simp only [go_sem, Nat.reduceBEq]
  refine (l1Below_c hl m1 17 (by decide) (by decide)).mono ?_
  rintro _ h2 ⟨op, rfl, x0, x1, m2⟩
  simp only [go_sem, Nat.reduceBEq]
  refine (l1Once_c hl m2 9 (by decide) (by decide)).mono ?_
  rintro _ h3 ⟨b, rfl, m3⟩
  simp only [go_sem, Nat.reduceBEq]
  cases b with
  | false =>
    simp only [go_sem, Nat.reduceBEq]
    refine (l9Two_c hl m3).mono ?_
    rintro _ h4 ⟨v, w, a, b, c, d, rfl, hv, hw, hb, hwb, m4⟩
    simp only [go_sem, Nat.reduceBEq, Nat.reduceAdd, Nat.reduceLeDiff]
    refine regionQ_intro (lb := [34]) (pl := [35]) 9 rfl (by kernel_rfl) fun b6 T6 hb6 => ?_
    obtain ⟨y6, my6, back6⟩ := (cur_val (w := w) m4 hb6 T6).fst
    simp only [proF_v, proF_b, proF_e, delb_c, delb_e, go_sem, Nat.reduceBEq, Nat.reduceAdd, Nat.reduceLeDiff]
    refine var_take (Hold.ptr (p := []) (q := [])) my6 rfl fun a7 n7 m7 => ?_
    simp only [go_sem, Nat.reduceBEq, Nat.reduceAdd, Nat.reduceLeDiff]
    exact ⟨p, op, v, w, a, a7, c, n7, rfl, x0, by omega, hv, hw, hb, hwb, back6 _ [_] m7⟩
  | true =>
  simp only [go_sem]
  refine aloop (ι := ByteArray) (fun s => [(7, .val (.string s)), (6, .val (.int .i64 op)), (5, .val (pv p)), (4, .box 4 0), (3, .box 3 0)])
    (fun _ => [(4, [.int .i64 0, .int .i64 0, .string ⟨#[]⟩, .int .i64 0, .slice none 0 0]), (3, [.int .i64 0, .int .i64 0, .string ⟨#[]⟩, .int .i64 0, .slice none 0 0])])
    (fun s h' => s.size ≤ 400 ∧ h' = h3) (fun s => 401 - s.size) ⟨#[]⟩ ⟨by decide, rfl⟩ (by repeat (first | exact wkF_e | refine wkF_c rfl ?_)) (wkB_c rfl (wkB_c rfl wkB_e)) rfl ?_
  rintro s _ ⟨hs, rfl⟩
  have hs : s.size ≤ 400 := hs
  simp only [go_sem, Nat.reduceBEq]
  by_cases hc : s.size < 396
  · simp only [show decide ((s.size : Int) < 396) = true from decide_eq_true (by omega), go_sem, Nat.reduceBEq]
    have hz : (s ++ ⟨#[97, 98, 99, 100, 101]⟩).size = s.size + 5 := by simp [ByteArray.size_append]; rfl
    refine ⟨by rw [i64max]; show ((s.size + 5 : Nat) : Int) ≤ _; omega, ?_⟩
    try simp only [go_sem, Nat.reduceBEq, Nat.reduceAdd, Nat.reduceLeDiff, Nat.reduceEqDiff, Int.reduceEq, not_false_eq_true, Int.reduceToNat]
    exact Again.intro (s ++ ⟨#[97, 98, 99, 100, 101]⟩) (by rw [hz]; omega) ⟨by rw [hz]; omega, rfl⟩ (by repeat (first | exact wkF_e | refine wkF_c rfl ?_)) (wkB_c rfl (wkB_c rfl wkB_e)) rfl
  simp only [show decide ((s.size : Int) < 396) = false from decide_eq_false (by omega), go_sem, Nat.reduceBEq]
  (refine (dTextV s _).mono ?_; rintro _ _ ⟨rfl, rfl⟩; simp only [go_sem, Nat.reduceBEq])
  try simp only [go_sem, Nat.reduceBEq, Nat.reduceAdd, Nat.reduceLeDiff, Nat.reduceEqDiff, Int.reduceEq, not_false_eq_true, Int.reduceToNat]
  refine cur_strs [⟨#[]⟩, ⟨#[97, 98, 99]⟩, ⟨#[97, 98, 99, 100]⟩, ⟨#[97, 98, 99, 100, 101]⟩] slT80 rfl rfl rfl (by decide) (by decide) m3 fun v4 h4 m4 => ?_
  simp only [go_sem, Nat.reduceBEq]
  refine (l1Str_c hl m4 (by decide) (by decide)).mono ?_
  rintro _ h5 ⟨r, hr, rfl, m5⟩
  have hrs : r.size ≤ 5 := by
    simp only [List.mem_cons, List.not_mem_nil, or_false] at hr
    rcases hr with h | h | h | h <;> (rw [h]; decide)
  simp only [go_sem, Nat.reduceBEq]
  (refine (dTextV r _).mono ?_; rintro _ _ ⟨rfl, rfl⟩; simp only [go_sem, Nat.reduceBEq, Nat.reduceAdd, Nat.reduceLeDiff])
  try simp only [go_sem, Nat.reduceBEq, Nat.reduceAdd, Nat.reduceLeDiff, Nat.reduceEqDiff, Int.reduceEq, not_false_eq_true, Int.reduceToNat]
  refine ⟨p, op, V.mk 3 0 s 0 [], V.mk 3 0 r 0 [], none, none, 0, 0, rfl, x0, by omega, V.ok_mk (by decide) (by decide) (by omega) (by decide) (Nat.zero_le _) (by simp only [V.oks]), V.ok_mk (by decide) (by decide) (by omega) (by decide) (Nat.zero_le _) (by simp only [V.oks]), by rw [V.bulk_eq]; show s.size + 0 ≤ 1600; omega, by rw [V.bulk_eq]; show r.size + 0 ≤ 1600; omega, ?_⟩
  have m6 := m5.drop
  exact (m6.upd fun d m => (m.nilrow).swap).upd fun d m => (m.nilrow).swap
end
end Go.Proofs.YtconhonjkfpfmaaDoor
namespace Go.Proofs.YtconhonjkfpfmaaDoor
set_option maxRecDepth 8000
open Go Go.Sx Go.ChangeShapes Go.WideShapes Go.RowKit Go.ChangeMaps
section
variable {H : Type} {enc : TypeId × Value → H} {w : World} {base : Nat} {sp : Nat → Bool} {held : Bool}
def bdt (b : UInt8) : List Dt := [.raw (.int .u8 b.toNat)]
theorem openB {v0 : Value} {d : DataW H} {ps : List MemPlace} (h : DataW.Trod enc Tryd.prog w base sp held 22 v0 d ps) (h1 : oneCell v0 = true) :
    ∃ (l : List UInt8), RdS (vis w) 1 v0 (bcells l) := by
  obtain ⟨n, h⟩ := h
  obtain ⟨l, v, e, _, _, hrd⟩ := open_list (α := UInt8) (f := bdt) (ok := fun _ => True) (z := 1) Tryd.underlying22 (by kernel_rfl) (by decide) (fun n' cs' x' _ h' => by
    obtain ⟨m, e, h0, h2⟩ := trod_one Tryd.underlying5 h'
    have h0 : 0 ≤ m := h0
    have h2 : m ≤ 255 := h2
    refine ⟨UInt8.ofNat m.toNat, trivial, ?_⟩
    have h3 : (UInt8.ofNat m.toNat).toNat = m.toNat := by
      rw [UInt8.toNat_ofNat']
      exact Nat.mod_eq_of_lt (by show m.toNat < 256; omega)
    rw [e]
    simp only [bdt, RdL_cons, RdL_nil, Rd_raw]
    exact ⟨_, _, rfl, ⟨by rw [h3, Int.toNat_of_nonneg h0], rfl⟩, rfl⟩) h
  have : v0 = v := by cases v0 <;> first | (simp [Value.cells] at e; exact e) | (simp [oneCell] at h1)
  subst this
  refine ⟨l, ?_⟩
  simp only [Rd] at hrd
  obtain ⟨xs, r1, r2⟩ := hrd
  have r2 : RdL (vis w) ((bcells l).map .raw) xs := by
    have : ∀ l : List UInt8, l.flatMap bdt = (bcells l).map .raw := by
      intro l
      induction l with
      | nil => rfl
      | cons b r ih => simp only [List.flatMap_cons, ih, bdt, bcells, List.map_cons, List.cons_append, List.nil_append]
    rw [← this]
    exact r2
  rwa [r2.of_raws] at r1
end
end Go.Proofs.YtconhonjkfpfmaaDoor
