/-
  What CompareValues, LooseEqual and IsOrdered of the program and of the reference return.
-/
import Derived.Test.YtconhonjkfpfmaaDoorToText
import Derived.Test.YtconhonjkfpfmaaDoorToV
import Derived.Test.YtconhonjkfpfmaaDoorFind
import Derived.Test.YtconhonjkfpfmaaDoorStrCmp
namespace Go.Proofs.YtconhonjkfpfmaaDoor
set_option maxRecDepth 8000
open Go Go.Sx
def cmpI (a b : Int) : Int := if a < b then -1 else if b < a then 1 else 0
def bit (b : Bool) : Int := if b then 1 else 0
/-- the comparison, that of two arrays given -/
def cmp0 (a b : V) (arr : Int) : Int :=
  if a.kind = 0 ∧ b.kind = 3 then cmpB ⟨#[]⟩ b.str else if a.kind = 3 ∧ b.kind = 0 then cmpB a.str ⟨#[]⟩
  else if (0 ≤ a.kind ∧ a.kind ≤ 1) ∨ (0 ≤ b.kind ∧ b.kind ≤ 1) then cmpI (bit (toBool a)) (bit (toBool b))
  else if (toNum a).2 = 0 ∧ (toNum b).2 = 0 then cmpI (toNum a).1 (toNum b).1
  else if (2 ≤ a.kind ∧ a.kind ≤ 3) ∧ (2 ≤ b.kind ∧ b.kind ≤ 3) then cmpB (V.toText a).1 (V.toText b).1
  else if a.kind = 4 ∧ b.kind = 4 then arr else if a.kind = 4 then 1 else if b.kind = 4 then -1 else if a.kind = b.kind ∧ a.num = b.num then 0 else 2
mutual
def V.cmp : V → V → Int
  | ⟨k, n, s, x, es⟩, b => cmp0 ⟨k, n, s, x, es⟩ b (if es.length = b.items.length then cmpEs es b else cmpI es.length b.items.length)
def cmpEs : List (Ky × V) → V → Int
  | [], _ => 0
  | (k, v) :: r, b => match b.get k with
    | none => 2
    | some y => if V.cmp v y = 0 then cmpEs r b else V.cmp v y
end
def arrCmp (a b : V) : Int := if a.items.length = b.items.length then cmpEs a.items b else cmpI a.items.length b.items.length
theorem V.cmp_eq (a b : V) : V.cmp a b = cmp0 a b (arrCmp a b) := by cases a; rw [V.cmp]; rfl
theorem cmpEs_nil (b : V) : cmpEs [] b = 0 := by rw [cmpEs]
theorem cmpEs_cons (e : Ky × V) (r : List (Ky × V)) (b : V) : cmpEs (e :: r) b = match b.get e.1 with
    | none => 2
    | some y => if V.cmp e.2 y = 0 then cmpEs r b else V.cmp e.2 y := by obtain ⟨k, v⟩ := e; rw [cmpEs]
theorem cmpI_lt {a b : Int} (h : a < b) : cmpI a b = -1 := by unfold cmpI; rw [if_pos h]
theorem cmpI_gt {a b : Int} (h : b < a) : cmpI a b = 1 := by unfold cmpI; rw [if_neg (by omega), if_pos h]
theorem cmpI_eq {a b : Int} (h : ¬ a < b) (h2 : ¬ b < a) : cmpI a b = 0 := by unfold cmpI; rw [if_neg h, if_neg h2]
theorem less_cmp : ∀ a b : List UInt8, Op.bytesLess a b = decide (Lib.compareBytes a b = -1)
  | [], [] => by decide
  | [], _ :: _ => by simp [Op.bytesLess, Lib.compareBytes]
  | _ :: _, [] => by simp [Op.bytesLess, Lib.compareBytes]
  | a :: x, b :: y => by
    have ih := less_cmp x y
    simp only [Op.bytesLess, Lib.compareBytes, ih]
    by_cases h : a < b
    · simp [h]
    · by_cases h2 : b < a
      · have : ¬ a = b := by rintro rfl; exact h h2
        simp [h, h2, this]
      · have : a = b := by
          have h3 : ¬ a.toNat < b.toNat := fun k => h (UInt8.lt_iff_toNat_lt.2 k)
          have h4 : ¬ b.toNat < a.toNat := fun k => h2 (UInt8.lt_iff_toNat_lt.2 k)
          exact UInt8.toNat_inj.1 (by omega)
        subst this
        simp [h]
theorem cmp_three : ∀ a b : List UInt8, Lib.compareBytes a b = -1 ∨ Lib.compareBytes a b = 0 ∨ Lib.compareBytes a b = 1
  | [], [] => by decide
  | [], _ :: _ => .inl rfl
  | _ :: _, [] => .inr (.inr rfl)
  | a :: x, b :: y => by
    have ih := cmp_three x y
    simp only [Lib.compareBytes]
    split
    · exact .inl rfl
    · split
      · exact .inr (.inr rfl)
      · exact ih
theorem cmp_zero : ∀ a b : List UInt8, Lib.compareBytes a b = 0 ↔ a = b
  | [], [] => by decide
  | [], _ :: _ => by simp [Lib.compareBytes]
  | _ :: _, [] => by simp [Lib.compareBytes]
  | a :: x, b :: y => by
    have ih := cmp_zero x y
    simp only [Lib.compareBytes, List.cons.injEq]
    by_cases h : a < b
    · have : ¬ a = b := by rintro rfl; exact absurd h (by simp)
      simp [h, this]
    · by_cases h2 : b < a
      · have : ¬ a = b := by rintro rfl; exact h h2
        simp [h, h2, this]
      · have : a = b := by
          have h3 : ¬ a.toNat < b.toNat := fun k => h (UInt8.lt_iff_toNat_lt.2 k)
          have h4 : ¬ b.toNat < a.toNat := fun k => h2 (UInt8.lt_iff_toNat_lt.2 k)
          exact UInt8.toNat_inj.1 (by omega)
        subst this
        simp [h, ih]

theorem bulk_mem2 : ∀ {es : List (Ky × V)} {e : Ky × V}, e ∈ es → e.1.str.size + e.2.bulk + 1 ≤ V.bulks es
  | (k, v) :: r, e, he => by
    simp only [V.bulks]
    cases he with
    | head => simp only; omega
    | tail _ he => have := bulk_mem2 he; omega
theorem get_ok {v x : V} {k : Ky} (hv : v.ok) (h : v.get k = some x) : x.ok ∧ x.bulk ≤ v.bulk := by
  unfold V.get at h
  cases hf : v.find k with
  | none => simp [hf] at h
  | some i =>
    obtain ⟨y, hy, hg, _⟩ := V.find_get hf
    unfold V.get at hg
    rw [h] at hg
    simp at hg
    subst hg
    have hm := List.mem_of_getElem? hy
    have := bulk_mem2 hm
    rw [V.bulk_eq v]
    simp only at this
    exact ⟨(V.oks_mem (V.ok_items hv) hm).2, by omega⟩
theorem iOrder (a b : Int) (h : Hp) : ACalls Tryd.prog 40 #[.int .i64 a, .int .i64 b] h (Pu (.int .i64 (cmpI a b)) h) := by
  (refine enter Tryd.func40 rfl rfl (by kernel_rfl) [] ?_; simp only [go_sem, Nat.reduceBEq])
  refine Br.intro (fun h1 => ?_) (fun h1 => ?_) <;> (try simp only [h1, go_sem, Nat.reduceBEq])
  · have h1 := of_decide_eq_true h1
    exact ⟨by rw [cmpI_lt h1], rfl⟩
  have h1 := of_decide_eq_false h1
  refine Br.intro (fun h2 => ?_) (fun h2 => ?_) <;> (try simp only [h2, go_sem, Nat.reduceBEq])
  · have h2 := of_decide_eq_true h2
    exact ⟨by rw [cmpI_gt h2], rfl⟩
  have h2 := of_decide_eq_false h2
  exact ⟨by rw [cmpI_eq h1 h2], rfl⟩
theorem iBoolNum (b : Bool) (h : Hp) : ACalls Tryd.prog 41 #[.bool b] h (Pu (.int .i64 (bit b)) h) := by
  (refine enter Tryd.func41 rfl rfl (by kernel_rfl) [] ?_; simp only [go_sem, Nat.reduceBEq])
  refine Br.intro (fun h1 => ?_) (fun h1 => ?_) <;> (try simp only [h1, go_sem, Nat.reduceBEq])
  · subst h1
    exact ⟨rfl, rfl⟩
  · subst h1
    exact ⟨rfl, rfl⟩
theorem iScalarText (a : V) (sl : Value) (h : Hp) : ACalls Tryd.prog 42 #[.agg #[.int .i64 a.kind, .int .i64 a.num, .string a.str, .int .i64 a.next, sl]] h (Pu (.bool (decide (2 ≤ a.kind ∧ a.kind ≤ 3))) h) := by
  (refine enter Tryd.func42 rfl rfl (by kernel_rfl) [] ?_; simp only [go_sem, Nat.reduceBEq])
  refine Br.intro (fun h1 => ?_) (fun h1 => ?_) <;> (try simp only [h1, go_sem, Nat.reduceBEq])
  · have h1 := of_decide_eq_true h1
    exact ⟨by rw [decide_eq_true (by omega)], rfl⟩
  · have h1 := of_decide_eq_false h1
    exact ⟨by congr 1; apply decide_eq_decide.2; omega, rfl⟩
theorem sOrder (a b : Int) (h : Hp) : ACalls Tryd.prog 96 #[.int .i64 a, .int .i64 b] h (Pu (.int .i64 (cmpI a b)) h) := by
  (refine enter Tryd.func96 rfl rfl (by kernel_rfl) [] ?_; simp only [go_sem, Nat.reduceBEq])
  refine Br.intro (fun h1 => ?_) (fun h1 => ?_) <;> (try simp only [h1, go_sem, Nat.reduceBEq])
  · have h1 := of_decide_eq_true h1
    exact ⟨by rw [cmpI_lt h1], rfl⟩
  have h1 := of_decide_eq_false h1
  refine Br.intro (fun h2 => ?_) (fun h2 => ?_) <;> (try simp only [h2, go_sem, Nat.reduceBEq])
  · have h2 := of_decide_eq_true h2
    exact ⟨by rw [cmpI_gt h2], rfl⟩
  have h2 := of_decide_eq_false h2
  exact ⟨by rw [cmpI_eq h1 h2], rfl⟩
theorem sBytes (a b : ByteArray) (h : Hp) : ACalls Tryd.prog 95 #[.string a, .string b] h (Pu (.int .i64 (cmpB a b)) h) := by
  have e1 := less_cmp a.data.toList b.data.toList
  have e2 := cmp_zero a.data.toList b.data.toList
  have e3 := cmp_three a.data.toList b.data.toList
  have e4 : a = b ↔ a.data.toList = b.data.toList := ⟨fun h => by rw [h], fun h => by cases a; cases b; simp only [ByteArray.mk.injEq]; exact Array.ext' h⟩
  rw [← ByteArray.toList_eq, ← ByteArray.toList_eq] at e1
  have e0 : cmpB a b = Lib.compareBytes a.data.toList b.data.toList := rfl
  rw [e0]
  rw [ByteArray.toList_eq, ByteArray.toList_eq] at e1
  (refine enter Tryd.func95 rfl rfl (by kernel_rfl) [] ?_; simp only [go_sem, Nat.reduceBEq])
  refine Br.intro (fun h1 => ?_) (fun h1 => ?_) <;> (try simp only [h1, go_sem, Nat.reduceBEq])
  · rw [ByteArray.toList_eq, ByteArray.toList_eq, e1] at h1
    exact ⟨by rw [of_decide_eq_true h1], rfl⟩
  rw [ByteArray.toList_eq, ByteArray.toList_eq, e1] at h1
  have h1 := of_decide_eq_false h1
  refine Br.intro (fun h2 => ?_) (fun h2 => ?_) <;> (try simp only [h2, go_sem, Nat.reduceBEq])
  · have h2 : ¬ a = b := by simpa using h2
    have h3 : ¬ Lib.compareBytes a.data.toList b.data.toList = 0 := fun k => h2 (e4.2 (e2.1 k))
    exact ⟨by rw [show Lib.compareBytes a.data.toList b.data.toList = 1 by omega], rfl⟩
  · have h2 : a = b := by simpa using h2
    have h3 : Lib.compareBytes a.data.toList b.data.toList = 0 := e2.2 (e4.1 h2)
    exact ⟨by rw [h3], rfl⟩
theorem sBit (a : V) (sl : Value) (h : Hp) (rd : RdE h a.items sl) : ACalls Tryd.prog 97 #[.agg #[.int .i64 a.kind, .int .i64 a.num, .string a.str, .int .i64 a.next, sl]] h (Pu (.int .i64 (bit (toBool a))) h) := by
  (refine enter Tryd.func97 rfl rfl (by kernel_rfl) [] ?_; simp only [go_sem, Nat.reduceBEq, Nat.reduceAdd, Nat.reduceLeDiff])
  (refine (sToBool a sl _ rd).mono ?_; rintro _ _ ⟨rfl, rfl⟩; simp only [go_sem, Nat.reduceBEq])
  refine Br.intro (fun h1 => ?_) (fun h1 => ?_) <;> (try simp only [h1, go_sem, Nat.reduceBEq])
  · exact ⟨rfl, rfl⟩
  · exact ⟨rfl, rfl⟩
theorem k6 (k : Int) : k = 0 ∨ k = 1 ∨ k = 2 ∨ k = 3 ∨ k = 4 ∨ (¬ k = 0 ∧ ¬ k = 1 ∧ ¬ k = 2 ∧ ¬ k = 3 ∧ ¬ k = 4) := by omega

def CmpI (a : V) : Prop := ∀ (b : V) (_ : a.ok) (_ : b.ok) (_ : a.bulk ≤ 1099511627776) (_ : b.bulk ≤ 1099511627776) (sa sb : Value) (h : Hp) (_ : RdE h a.items sa) (_ : RdE h b.items sb) (_ : Pow h),
    ACalls Tryd.prog 9 #[.agg #[.int .i64 a.kind, .int .i64 a.num, .string a.str, .int .i64 a.next, sa], .agg #[.int .i64 b.kind, .int .i64 b.num, .string b.str, .int .i64 b.next, sb]] h (Is (.int .i64 (V.cmp a b)) h)
theorem iArrays (a : V) (ih : ∀ e ∈ a.items, CmpI e.2) (b : V) (oka : a.ok) (okb : b.ok) (ha : a.bulk ≤ 1099511627776) (hb : b.bulk ≤ 1099511627776) (sa sb : Value) (h : Hp) (ra : RdE h a.items sa) (rb : RdE h b.items sb) (hT : Pow h) :
    ACalls Tryd.prog 43 #[.agg #[.int .i64 a.kind, .int .i64 a.num, .string a.str, .int .i64 a.next, sa], .agg #[.int .i64 b.kind, .int .i64 b.num, .string b.str, .int .i64 b.next, sb]] h (Is (.int .i64 (arrCmp a b)) h) := by
  have hla := V.bulks_len a.items
  have hlb := V.bulks_len b.items
  have hba := V.bulk_eq a
  have hbb := V.bulk_eq b
  obtain ⟨aa, ca, xa, rfl, hca, hra, hata⟩ := ra.rows (by decide) a.items.length (fm_len edt_len _)
  obtain ⟨ab, cb, xb, rfl, hcb, hrb, hatb⟩ := rb.rows (by decide) b.items.length (fm_len edt_len _)
  (refine enter Tryd.func43 rfl rfl (by kernel_rfl) [] ?_; simp only [go_sem, Nat.reduceBEq])
  refine Br.intro (fun hl => ?_) (fun hl => ?_) <;> (try simp only [hl, go_sem, Nat.reduceBEq])
  · have hl : ¬ a.items.length = b.items.length := by simp at hl; omega
    (refine (iOrder _ _ _).mono ?_; rintro _ _ ⟨rfl, rfl⟩; simp only [go_sem, Nat.reduceBEq])
    exact ⟨by unfold arrCmp; rw [if_neg hl], Ext.refl _⟩
  have hl : a.items.length = b.items.length := by simp at hl; omega
  have e0 : arrCmp a b = cmpEs a.items b := by unfold arrCmp; rw [if_pos hl]
  rw [e0]
  refine aloop (ι := Nat) (fun i => [(26, .val (.int .i64 (i : Nat))), (25, .val (.int .i64 (a.items.length : Nat))), (24, .val (.slice aa a.items.length ca)), (3, .box 3 0)]) (fun _ => [(3, [.int .i64 b.kind, .int .i64 b.num, .string b.str, .int .i64 b.next, .slice ab b.items.length cb])])
    (fun i h' => i ≤ a.items.length ∧ Ext h h' ∧ cmpEs (a.items.drop i) b = cmpEs a.items b) (fun i => a.items.length - i) 0 ⟨Nat.zero_le _, Ext.refl _, rfl⟩ (by repeat (first | exact wkF_e | refine wkF_c rfl ?_)) (wkB_c rfl wkB_e) rfl ?_
  rintro i h1 ⟨hi, e1, hq⟩
  have hi : i ≤ a.items.length := hi
  have ra1 := ra.mono e1
  have rb1 := rb.mono e1
  simp only [go_sem, Nat.reduceBEq]
  refine Br.intro (fun hlt => ?_) (fun hlt => ?_) <;> (try simp only [hlt, go_sem, Nat.reduceBEq])
  · have hlt : i < a.items.length := by simpa using hlt
    obtain ⟨b1, off1, rfl, hata'⟩ := hata (by omega)
    obtain ⟨e, he, hm⟩ := get_lt hlt
    have wsu := wrap_succ (i := i) (by omega)
    have hbe := bulk_mem2 hm
    rw [drop_cons he, cmpEs_cons] at hq
    simp only [ix_nat hlt, go_sem, Nat.reduceBEq]
    refine hsem_entry tyS69 (hata'.mono e1) (hra.mono e1) he rfl fun s2 rd2 => ?_
    obtain ⟨a2, c2, _, rfl, _⟩ := rd2.rows (by decide) e.2.items.length (fm_len edt_len _)
    simp only [go_sem, Nat.reduceBEq, Nat.reduceAdd, Nat.reduceLeDiff]
    (refine (iFindKey b e.1 (by omega) _ _ rb1).mono ?_; rintro _ _ ⟨rfl, rfl⟩; simp only [go_sem, Nat.reduceBEq])
    rw [ixI_neg]
    cases hf : b.find e.1 with
    | none =>
      rw [V.find_none hf] at hq
      simp only [Option.isNone_none, go_sem, Nat.reduceBEq]
      exact ⟨by rw [← hq], e1⟩
    | some j =>
      obtain ⟨y, hy, hg, hlj⟩ := V.find_get hf
      rw [hg] at hq
      obtain ⟨b2, off2, rfl, hatb'⟩ := hatb (by omega)
      simp only [Option.isNone_some, ixI_some, go_sem]
      refine regionD_intro (lb := [37, 39]) (by kernel_rfl) ?_
      simp only [ix_nat hlj, go_sem, Nat.reduceBEq, Nat.reduceAdd, Nat.reduceLeDiff]
      refine hsem_eval tyS26 (hatb'.mono e1) (hrb.mono e1) hy rfl fun s3 rd3 => ?_
      obtain ⟨a3, c3, _, rfl, _⟩ := rd3.rows (by decide) y.items.length (fm_len edt_len _)
      simp only [go_sem, Nat.reduceBEq]
      obtain ⟨oky, hby⟩ := get_ok okb hg
      refine (ih e hm y (V.oks_mem (V.ok_items oka) hm).2 oky (by omega) (by omega) _ _ _ rd2 rd3 (hT.ext e1)).mono ?_
      rintro _ h2 ⟨rfl, e2⟩
      simp only [go_sem, Nat.reduceBEq]
      refine Br.intro (fun hz => ?_) (fun hz => ?_) <;> (try simp only [hz, go_sem, Nat.reduceBEq])
      · have hz : ¬ V.cmp e.2 y = 0 := by simpa using hz
        simp only [hz, if_false] at hq
        exact ⟨by rw [← hq], e1.trans e2⟩
      · have hz : V.cmp e.2 y = 0 := by simpa using hz
        simp only [hz, if_true] at hq
        try simp only [wsu, go_sem]
        try rw [wsu]
        exact Again.intro (i + 1) (by first | omega | (simp only; omega)) ⟨hlt, e1.trans e2, hq⟩ (by repeat (first | exact wkF_e | refine wkF_c rfl ?_)) (wkB_c rfl wkB_e) rfl
  · have hlt : i = a.items.length := by simp at hlt; omega
    rw [List.drop_eq_nil_of_le (by omega), cmpEs_nil] at hq
    exact ⟨by rw [← hq], e1⟩
theorem iCompare_0 (a b : V) (hsa : a.str.size ≤ 1152921504606846976) (hsb : b.str.size ≤ 1152921504606846976) (hna : IntKind.i64.min ≤ a.num ∧ a.num ≤ IntKind.i64.max) (hnb : IntKind.i64.min ≤ b.num ∧ b.num ≤ IntKind.i64.max) (sa sb : Value) (h : Hp) (ra : RdE h a.items sa) (rb : RdE h b.items sb) (hT : Pow h) (ar : Int) (harr : ACalls Tryd.prog 43 #[.agg #[.int .i64 a.kind, .int .i64 a.num, .string a.str, .int .i64 a.next, sa], .agg #[.int .i64 b.kind, .int .i64 b.num, .string b.str, .int .i64 b.next, sb]] h (Is (.int .i64 ar) h)) (ha : a.kind = 0) :
    ACalls Tryd.prog 9 #[.agg #[.int .i64 a.kind, .int .i64 a.num, .string a.str, .int .i64 a.next, sa], .agg #[.int .i64 b.kind, .int .i64 b.num, .string b.str, .int .i64 b.next, sb]] h (Is (.int .i64 (cmp0 a b ar)) h) := by
  have d0 : decide (a.kind = 0) = true := decide_eq_true (by omega)
  have d1 : decide (a.kind = 1) = false := decide_eq_false (by omega)
  have d2 : decide (a.kind = 2) = false := decide_eq_false (by omega)
  have d3 : decide (a.kind = 3) = false := decide_eq_false (by omega)
  have d4 : decide (a.kind = 4) = false := decide_eq_false (by omega)
  have d01 : decide (0 ≤ a.kind ∧ a.kind ≤ 1) = true := decide_eq_true (by omega)
  have d23 : decide (2 ≤ a.kind ∧ a.kind ≤ 3) = false := decide_eq_false (by omega)
  have fin : ∀ {x : Int} {h' : Hp}, cmp0 a b ar = x → Ext h h' → Is (.int .i64 (cmp0 a b ar)) h (.int .i64 x) h' := fun e k => ⟨by rw [e], k⟩
  (refine enter Tryd.func9 rfl rfl (by kernel_rfl) [] ?_; simp only [go_sem, Nat.reduceBEq])
  simp only [d0, go_sem, Nat.reduceBEq]
  refine Br.intro (fun hb3r => ?_) (fun hb3r => ?_)
  · have hb3 := of_decide_eq_true hb3r
    simp only [hb3r, go_sem, Nat.reduceBEq]
    refine (str_cmp _ _ _).mono ?_
    rintro _ _ ⟨rfl, rfl⟩
    simp only [go_sem, Nat.reduceBEq]
    exact fin (by unfold cmp0; rw [if_pos (by omega)]) (Ext.refl _)
  · have hb3 := of_decide_eq_false hb3r
    simp only [d0, d3, hb3r, go_sem, Nat.reduceBEq]
    refine regionD_intro (lb := [56, 59]) (by kernel_rfl) ?_
    simp only [go_sem, Nat.reduceBEq, Nat.reduceAdd, Nat.reduceLeDiff]
    refine (iToBool a _ _ ra).mono ?_
    rintro _ _ ⟨rfl, rfl⟩
    simp only [go_sem, Nat.reduceBEq]
    refine (iBoolNum _ _).mono ?_
    rintro _ _ ⟨rfl, rfl⟩
    simp only [go_sem, Nat.reduceBEq, Nat.reduceAdd, Nat.reduceLeDiff]
    refine (iToBool b _ _ rb).mono ?_
    rintro _ _ ⟨rfl, rfl⟩
    simp only [go_sem, Nat.reduceBEq]
    refine (iBoolNum _ _).mono ?_
    rintro _ _ ⟨rfl, rfl⟩
    simp only [go_sem, Nat.reduceBEq]
    refine (iOrder _ _ _).mono ?_
    rintro _ _ ⟨rfl, rfl⟩
    simp only [go_sem, Nat.reduceBEq]
    exact fin (by unfold cmp0; rw [if_neg (by omega)]; rw [if_neg (by omega)]; rw [if_pos (by omega)]) (Ext.refl _)
theorem iCompare_1 (a b : V) (hsa : a.str.size ≤ 1152921504606846976) (hsb : b.str.size ≤ 1152921504606846976) (hna : IntKind.i64.min ≤ a.num ∧ a.num ≤ IntKind.i64.max) (hnb : IntKind.i64.min ≤ b.num ∧ b.num ≤ IntKind.i64.max) (sa sb : Value) (h : Hp) (ra : RdE h a.items sa) (rb : RdE h b.items sb) (hT : Pow h) (ar : Int) (harr : ACalls Tryd.prog 43 #[.agg #[.int .i64 a.kind, .int .i64 a.num, .string a.str, .int .i64 a.next, sa], .agg #[.int .i64 b.kind, .int .i64 b.num, .string b.str, .int .i64 b.next, sb]] h (Is (.int .i64 ar) h)) (ha : a.kind = 1) :
    ACalls Tryd.prog 9 #[.agg #[.int .i64 a.kind, .int .i64 a.num, .string a.str, .int .i64 a.next, sa], .agg #[.int .i64 b.kind, .int .i64 b.num, .string b.str, .int .i64 b.next, sb]] h (Is (.int .i64 (cmp0 a b ar)) h) := by
  have d0 : decide (a.kind = 0) = false := decide_eq_false (by omega)
  have d1 : decide (a.kind = 1) = true := decide_eq_true (by omega)
  have d2 : decide (a.kind = 2) = false := decide_eq_false (by omega)
  have d3 : decide (a.kind = 3) = false := decide_eq_false (by omega)
  have d4 : decide (a.kind = 4) = false := decide_eq_false (by omega)
  have d01 : decide (0 ≤ a.kind ∧ a.kind ≤ 1) = true := decide_eq_true (by omega)
  have d23 : decide (2 ≤ a.kind ∧ a.kind ≤ 3) = false := decide_eq_false (by omega)
  have fin : ∀ {x : Int} {h' : Hp}, cmp0 a b ar = x → Ext h h' → Is (.int .i64 (cmp0 a b ar)) h (.int .i64 x) h' := fun e k => ⟨by rw [e], k⟩
  (refine enter Tryd.func9 rfl rfl (by kernel_rfl) [] ?_; simp only [go_sem, Nat.reduceBEq])
  simp only [d0, d1, d3, go_sem, Nat.reduceBEq]
  refine regionD_intro (lb := [56, 59]) (by kernel_rfl) ?_
  simp only [go_sem, Nat.reduceBEq, Nat.reduceAdd, Nat.reduceLeDiff]
  refine (iToBool a _ _ ra).mono ?_
  rintro _ _ ⟨rfl, rfl⟩
  simp only [go_sem, Nat.reduceBEq]
  refine (iBoolNum _ _).mono ?_
  rintro _ _ ⟨rfl, rfl⟩
  simp only [go_sem, Nat.reduceBEq, Nat.reduceAdd, Nat.reduceLeDiff]
  refine (iToBool b _ _ rb).mono ?_
  rintro _ _ ⟨rfl, rfl⟩
  simp only [go_sem, Nat.reduceBEq]
  refine (iBoolNum _ _).mono ?_
  rintro _ _ ⟨rfl, rfl⟩
  simp only [go_sem, Nat.reduceBEq]
  refine (iOrder _ _ _).mono ?_
  rintro _ _ ⟨rfl, rfl⟩
  simp only [go_sem, Nat.reduceBEq]
  exact fin (by unfold cmp0; rw [if_neg (by omega)]; rw [if_neg (by omega)]; rw [if_pos (by omega)]) (Ext.refl _)
theorem iCompare_2 (a b : V) (hsa : a.str.size ≤ 1152921504606846976) (hsb : b.str.size ≤ 1152921504606846976) (hna : IntKind.i64.min ≤ a.num ∧ a.num ≤ IntKind.i64.max) (hnb : IntKind.i64.min ≤ b.num ∧ b.num ≤ IntKind.i64.max) (sa sb : Value) (h : Hp) (ra : RdE h a.items sa) (rb : RdE h b.items sb) (hT : Pow h) (ar : Int) (harr : ACalls Tryd.prog 43 #[.agg #[.int .i64 a.kind, .int .i64 a.num, .string a.str, .int .i64 a.next, sa], .agg #[.int .i64 b.kind, .int .i64 b.num, .string b.str, .int .i64 b.next, sb]] h (Is (.int .i64 ar) h)) (ha : a.kind = 2) :
    ACalls Tryd.prog 9 #[.agg #[.int .i64 a.kind, .int .i64 a.num, .string a.str, .int .i64 a.next, sa], .agg #[.int .i64 b.kind, .int .i64 b.num, .string b.str, .int .i64 b.next, sb]] h (Is (.int .i64 (cmp0 a b ar)) h) := by
  have d0 : decide (a.kind = 0) = false := decide_eq_false (by omega)
  have d1 : decide (a.kind = 1) = false := decide_eq_false (by omega)
  have d2 : decide (a.kind = 2) = true := decide_eq_true (by omega)
  have d3 : decide (a.kind = 3) = false := decide_eq_false (by omega)
  have d4 : decide (a.kind = 4) = false := decide_eq_false (by omega)
  have d01 : decide (0 ≤ a.kind ∧ a.kind ≤ 1) = false := decide_eq_false (by omega)
  have d23 : decide (2 ≤ a.kind ∧ a.kind ≤ 3) = true := decide_eq_true (by omega)
  have fin : ∀ {x : Int} {h' : Hp}, cmp0 a b ar = x → Ext h h' → Is (.int .i64 (cmp0 a b ar)) h (.int .i64 x) h' := fun e k => ⟨by rw [e], k⟩
  (refine enter Tryd.func9 rfl rfl (by kernel_rfl) [] ?_; simp only [go_sem, Nat.reduceBEq])
  simp only [d0, d1, d3, go_sem, Nat.reduceBEq]
  refine Br.intro (fun hb0r => ?_) (fun hb0r => ?_)
  · have hb0 := of_decide_eq_true hb0r
    simp only [hb0r, go_sem, Nat.reduceBEq]
    refine regionD_intro (lb := [56, 59]) (by kernel_rfl) ?_
    simp only [go_sem, Nat.reduceBEq, Nat.reduceAdd, Nat.reduceLeDiff]
    refine (iToBool a _ _ ra).mono ?_
    rintro _ _ ⟨rfl, rfl⟩
    simp only [go_sem, Nat.reduceBEq]
    refine (iBoolNum _ _).mono ?_
    rintro _ _ ⟨rfl, rfl⟩
    simp only [go_sem, Nat.reduceBEq, Nat.reduceAdd, Nat.reduceLeDiff]
    refine (iToBool b _ _ rb).mono ?_
    rintro _ _ ⟨rfl, rfl⟩
    simp only [go_sem, Nat.reduceBEq]
    refine (iBoolNum _ _).mono ?_
    rintro _ _ ⟨rfl, rfl⟩
    simp only [go_sem, Nat.reduceBEq]
    refine (iOrder _ _ _).mono ?_
    rintro _ _ ⟨rfl, rfl⟩
    simp only [go_sem, Nat.reduceBEq]
    exact fin (by unfold cmp0; rw [if_neg (by omega)]; rw [if_neg (by omega)]; rw [if_pos (by omega)]) (Ext.refl _)
  · have hb0 := of_decide_eq_false hb0r
    simp only [hb0r, go_sem, Nat.reduceBEq]
    refine Br.intro (fun hb1r => ?_) (fun hb1r => ?_)
    · have hb1 := of_decide_eq_true hb1r
      simp only [hb1r, go_sem]
      refine regionD_intro (lb := [56, 59]) (by kernel_rfl) ?_
      simp only [go_sem, Nat.reduceBEq, Nat.reduceAdd, Nat.reduceLeDiff]
      refine (iToBool a _ _ ra).mono ?_
      rintro _ _ ⟨rfl, rfl⟩
      simp only [go_sem, Nat.reduceBEq]
      refine (iBoolNum _ _).mono ?_
      rintro _ _ ⟨rfl, rfl⟩
      simp only [go_sem, Nat.reduceBEq, Nat.reduceAdd, Nat.reduceLeDiff]
      refine (iToBool b _ _ rb).mono ?_
      rintro _ _ ⟨rfl, rfl⟩
      simp only [go_sem, Nat.reduceBEq]
      refine (iBoolNum _ _).mono ?_
      rintro _ _ ⟨rfl, rfl⟩
      simp only [go_sem, Nat.reduceBEq]
      refine (iOrder _ _ _).mono ?_
      rintro _ _ ⟨rfl, rfl⟩
      simp only [go_sem, Nat.reduceBEq]
      exact fin (by unfold cmp0; rw [if_neg (by omega)]; rw [if_neg (by omega)]; rw [if_pos (by omega)]) (Ext.refl _)
    · have hb1 := of_decide_eq_false hb1r
      simp only [hb1r, go_sem, Nat.reduceBEq, Nat.reduceAdd, Nat.reduceLeDiff]
      refine (iToNumber a hsa _ _ ra).mono ?_
      rintro _ _ ⟨rfl, rfl⟩
      simp only [go_sem, Nat.reduceBEq, Nat.reduceAdd, Nat.reduceLeDiff]
      refine (iToNumber b hsb _ _ rb).mono ?_
      rintro _ _ ⟨rfl, rfl⟩
      simp only [go_sem, Nat.reduceBEq]
      refine Br.intro (fun hxr => ?_) (fun hxr => ?_)
      · have hx := of_decide_eq_true hxr
        simp only [hxr, go_sem, Nat.reduceBEq]
        refine Br.intro (fun hyr => ?_) (fun hyr => ?_)
        · have hy := of_decide_eq_true hyr
          simp only [hyr, go_sem, Nat.reduceBEq]
          refine (iOrder _ _ _).mono ?_
          rintro _ _ ⟨rfl, rfl⟩
          simp only [go_sem, Nat.reduceBEq]
          exact fin (by unfold cmp0; rw [if_neg (by omega)]; rw [if_neg (by omega)]; rw [if_neg (by omega)]; rw [if_pos (by omega)]) (Ext.refl _)
        · have hy := of_decide_eq_false hyr
          simp only [hyr, go_sem, Nat.reduceBEq, Nat.reduceAdd, Nat.reduceLeDiff]
          refine (iScalarText a _ _).mono ?_
          rintro _ _ ⟨rfl, rfl⟩
          simp only [d23, go_sem, Nat.reduceBEq, Nat.reduceAdd, Nat.reduceLeDiff]
          refine (iScalarText b _ _).mono ?_
          rintro _ _ ⟨rfl, rfl⟩
          simp only [go_sem, Nat.reduceBEq]
          refine Br.intro (fun hb23r => ?_) (fun hb23r => ?_)
          · have hb23 := of_decide_eq_true hb23r
            simp only [hb23r, go_sem, Nat.reduceBEq, Nat.reduceAdd, Nat.reduceLeDiff]
            refine (iToText a hna _ _ ra hT).mono ?_
            rintro _ h1 ⟨rfl, e1⟩
            simp only [go_sem, Nat.reduceBEq, Nat.reduceAdd, Nat.reduceLeDiff]
            refine (iToText b hnb _ _ (rb.mono e1) (hT.ext e1)).mono ?_
            rintro _ h2 ⟨rfl, e2⟩
            simp only [go_sem, Nat.reduceBEq]
            refine (str_cmp _ _ _).mono ?_
            rintro _ _ ⟨rfl, rfl⟩
            simp only [go_sem, Nat.reduceBEq]
            exact fin (by unfold cmp0; rw [if_neg (by omega)]; rw [if_neg (by omega)]; rw [if_neg (by omega)]; rw [if_neg (by omega)]; rw [if_pos (by omega)]) (e1.trans e2)
          · have hb23 := of_decide_eq_false hb23r
            simp only [d4, hb23r, go_sem, Nat.reduceBEq]
            refine Br.intro (fun hb4r => ?_) (fun hb4r => ?_)
            · have hb4 := of_decide_eq_true hb4r
              simp only [hb4r, go_sem, Nat.reduceBEq]
              exact fin (by unfold cmp0; rw [if_neg (by omega)]; rw [if_neg (by omega)]; rw [if_neg (by omega)]; rw [if_neg (by omega)]; rw [if_neg (by omega)]; rw [if_neg (by omega)]; rw [if_neg (by omega)]; rw [if_pos (by omega)]) (Ext.refl _)
            · have hb4 := of_decide_eq_false hb4r
              simp only [hb4r, go_sem, Nat.reduceBEq]
              refine Br.intro (fun hkr => ?_) (fun hkr => ?_)
              · have hk := of_decide_eq_true hkr
                simp only [hkr, go_sem, Nat.reduceBEq]
                refine Br.intro (fun hnr => ?_) (fun hnr => ?_)
                · have hn := of_decide_eq_true hnr
                  simp only [hnr, go_sem, Nat.reduceBEq]
                  exact fin (by unfold cmp0; rw [if_neg (by omega)]; rw [if_neg (by omega)]; rw [if_neg (by omega)]; rw [if_neg (by omega)]; rw [if_neg (by omega)]; rw [if_neg (by omega)]; rw [if_neg (by omega)]; rw [if_neg (by omega)]; rw [if_pos (by omega)]) (Ext.refl _)
                · have hn := of_decide_eq_false hnr
                  simp only [hnr, go_sem, Nat.reduceBEq]
                  exact fin (by unfold cmp0; rw [if_neg (by omega)]; rw [if_neg (by omega)]; rw [if_neg (by omega)]; rw [if_neg (by omega)]; rw [if_neg (by omega)]; rw [if_neg (by omega)]; rw [if_neg (by omega)]; rw [if_neg (by omega)]; rw [if_neg (by omega)]) (Ext.refl _)
              · have hk := of_decide_eq_false hkr
                simp only [hkr, go_sem, Nat.reduceBEq]
                exact fin (by unfold cmp0; rw [if_neg (by omega)]; rw [if_neg (by omega)]; rw [if_neg (by omega)]; rw [if_neg (by omega)]; rw [if_neg (by omega)]; rw [if_neg (by omega)]; rw [if_neg (by omega)]; rw [if_neg (by omega)]; rw [if_neg (by omega)]) (Ext.refl _)
      · have hx := of_decide_eq_false hxr
        simp only [hxr, go_sem, Nat.reduceBEq, Nat.reduceAdd, Nat.reduceLeDiff]
        refine (iScalarText a _ _).mono ?_
        rintro _ _ ⟨rfl, rfl⟩
        simp only [d23, go_sem, Nat.reduceBEq, Nat.reduceAdd, Nat.reduceLeDiff]
        refine (iScalarText b _ _).mono ?_
        rintro _ _ ⟨rfl, rfl⟩
        simp only [go_sem, Nat.reduceBEq]
        refine Br.intro (fun hb23r => ?_) (fun hb23r => ?_)
        · have hb23 := of_decide_eq_true hb23r
          simp only [hb23r, go_sem, Nat.reduceBEq, Nat.reduceAdd, Nat.reduceLeDiff]
          refine (iToText a hna _ _ ra hT).mono ?_
          rintro _ h1 ⟨rfl, e1⟩
          simp only [go_sem, Nat.reduceBEq, Nat.reduceAdd, Nat.reduceLeDiff]
          refine (iToText b hnb _ _ (rb.mono e1) (hT.ext e1)).mono ?_
          rintro _ h2 ⟨rfl, e2⟩
          simp only [go_sem, Nat.reduceBEq]
          refine (str_cmp _ _ _).mono ?_
          rintro _ _ ⟨rfl, rfl⟩
          simp only [go_sem, Nat.reduceBEq]
          exact fin (by unfold cmp0; rw [if_neg (by omega)]; rw [if_neg (by omega)]; rw [if_neg (by omega)]; rw [if_neg (by omega)]; rw [if_pos (by omega)]) (e1.trans e2)
        · have hb23 := of_decide_eq_false hb23r
          simp only [d4, hb23r, go_sem, Nat.reduceBEq]
          refine Br.intro (fun hb4r => ?_) (fun hb4r => ?_)
          · have hb4 := of_decide_eq_true hb4r
            simp only [hb4r, go_sem, Nat.reduceBEq]
            exact fin (by unfold cmp0; rw [if_neg (by omega)]; rw [if_neg (by omega)]; rw [if_neg (by omega)]; rw [if_neg (by omega)]; rw [if_neg (by omega)]; rw [if_neg (by omega)]; rw [if_neg (by omega)]; rw [if_pos (by omega)]) (Ext.refl _)
          · have hb4 := of_decide_eq_false hb4r
            simp only [hb4r, go_sem, Nat.reduceBEq]
            refine Br.intro (fun hkr => ?_) (fun hkr => ?_)
            · have hk := of_decide_eq_true hkr
              simp only [hkr, go_sem, Nat.reduceBEq]
              refine Br.intro (fun hnr => ?_) (fun hnr => ?_)
              · have hn := of_decide_eq_true hnr
                simp only [hnr, go_sem, Nat.reduceBEq]
                exact fin (by unfold cmp0; rw [if_neg (by omega)]; rw [if_neg (by omega)]; rw [if_neg (by omega)]; rw [if_neg (by omega)]; rw [if_neg (by omega)]; rw [if_neg (by omega)]; rw [if_neg (by omega)]; rw [if_neg (by omega)]; rw [if_pos (by omega)]) (Ext.refl _)
              · have hn := of_decide_eq_false hnr
                simp only [hnr, go_sem, Nat.reduceBEq]
                exact fin (by unfold cmp0; rw [if_neg (by omega)]; rw [if_neg (by omega)]; rw [if_neg (by omega)]; rw [if_neg (by omega)]; rw [if_neg (by omega)]; rw [if_neg (by omega)]; rw [if_neg (by omega)]; rw [if_neg (by omega)]; rw [if_neg (by omega)]) (Ext.refl _)
            · have hk := of_decide_eq_false hkr
              simp only [hkr, go_sem, Nat.reduceBEq]
              exact fin (by unfold cmp0; rw [if_neg (by omega)]; rw [if_neg (by omega)]; rw [if_neg (by omega)]; rw [if_neg (by omega)]; rw [if_neg (by omega)]; rw [if_neg (by omega)]; rw [if_neg (by omega)]; rw [if_neg (by omega)]; rw [if_neg (by omega)]) (Ext.refl _)
theorem iCompare_3 (a b : V) (hsa : a.str.size ≤ 1152921504606846976) (hsb : b.str.size ≤ 1152921504606846976) (hna : IntKind.i64.min ≤ a.num ∧ a.num ≤ IntKind.i64.max) (hnb : IntKind.i64.min ≤ b.num ∧ b.num ≤ IntKind.i64.max) (sa sb : Value) (h : Hp) (ra : RdE h a.items sa) (rb : RdE h b.items sb) (hT : Pow h) (ar : Int) (harr : ACalls Tryd.prog 43 #[.agg #[.int .i64 a.kind, .int .i64 a.num, .string a.str, .int .i64 a.next, sa], .agg #[.int .i64 b.kind, .int .i64 b.num, .string b.str, .int .i64 b.next, sb]] h (Is (.int .i64 ar) h)) (ha : a.kind = 3) :
    ACalls Tryd.prog 9 #[.agg #[.int .i64 a.kind, .int .i64 a.num, .string a.str, .int .i64 a.next, sa], .agg #[.int .i64 b.kind, .int .i64 b.num, .string b.str, .int .i64 b.next, sb]] h (Is (.int .i64 (cmp0 a b ar)) h) := by
  have d0 : decide (a.kind = 0) = false := decide_eq_false (by omega)
  have d1 : decide (a.kind = 1) = false := decide_eq_false (by omega)
  have d2 : decide (a.kind = 2) = false := decide_eq_false (by omega)
  have d3 : decide (a.kind = 3) = true := decide_eq_true (by omega)
  have d4 : decide (a.kind = 4) = false := decide_eq_false (by omega)
  have d01 : decide (0 ≤ a.kind ∧ a.kind ≤ 1) = false := decide_eq_false (by omega)
  have d23 : decide (2 ≤ a.kind ∧ a.kind ≤ 3) = true := decide_eq_true (by omega)
  have fin : ∀ {x : Int} {h' : Hp}, cmp0 a b ar = x → Ext h h' → Is (.int .i64 (cmp0 a b ar)) h (.int .i64 x) h' := fun e k => ⟨by rw [e], k⟩
  (refine enter Tryd.func9 rfl rfl (by kernel_rfl) [] ?_; simp only [go_sem, Nat.reduceBEq])
  simp only [d0, d3, go_sem, Nat.reduceBEq]
  refine Br.intro (fun hb0r => ?_) (fun hb0r => ?_)
  · have hb0 := of_decide_eq_true hb0r
    simp only [hb0r, go_sem, Nat.reduceBEq]
    refine (str_cmp _ _ _).mono ?_
    rintro _ _ ⟨rfl, rfl⟩
    simp only [go_sem, Nat.reduceBEq]
    exact fin (by unfold cmp0; rw [if_neg (by omega)]; rw [if_pos (by omega)]) (Ext.refl _)
  · have hb0 := of_decide_eq_false hb0r
    simp only [d0, d1, hb0r, go_sem, Nat.reduceBEq]
    refine Br.intro (fun hb1r => ?_) (fun hb1r => ?_)
    · have hb1 := of_decide_eq_true hb1r
      simp only [hb1r, go_sem]
      refine regionD_intro (lb := [56, 59]) (by kernel_rfl) ?_
      simp only [go_sem, Nat.reduceBEq, Nat.reduceAdd, Nat.reduceLeDiff]
      refine (iToBool a _ _ ra).mono ?_
      rintro _ _ ⟨rfl, rfl⟩
      simp only [go_sem, Nat.reduceBEq]
      refine (iBoolNum _ _).mono ?_
      rintro _ _ ⟨rfl, rfl⟩
      simp only [go_sem, Nat.reduceBEq, Nat.reduceAdd, Nat.reduceLeDiff]
      refine (iToBool b _ _ rb).mono ?_
      rintro _ _ ⟨rfl, rfl⟩
      simp only [go_sem, Nat.reduceBEq]
      refine (iBoolNum _ _).mono ?_
      rintro _ _ ⟨rfl, rfl⟩
      simp only [go_sem, Nat.reduceBEq]
      refine (iOrder _ _ _).mono ?_
      rintro _ _ ⟨rfl, rfl⟩
      simp only [go_sem, Nat.reduceBEq]
      exact fin (by unfold cmp0; rw [if_neg (by omega)]; rw [if_neg (by omega)]; rw [if_pos (by omega)]) (Ext.refl _)
    · have hb1 := of_decide_eq_false hb1r
      simp only [hb1r, go_sem, Nat.reduceBEq, Nat.reduceAdd, Nat.reduceLeDiff]
      refine (iToNumber a hsa _ _ ra).mono ?_
      rintro _ _ ⟨rfl, rfl⟩
      simp only [go_sem, Nat.reduceBEq, Nat.reduceAdd, Nat.reduceLeDiff]
      refine (iToNumber b hsb _ _ rb).mono ?_
      rintro _ _ ⟨rfl, rfl⟩
      simp only [go_sem, Nat.reduceBEq]
      refine Br.intro (fun hxr => ?_) (fun hxr => ?_)
      · have hx := of_decide_eq_true hxr
        simp only [hxr, go_sem, Nat.reduceBEq]
        refine Br.intro (fun hyr => ?_) (fun hyr => ?_)
        · have hy := of_decide_eq_true hyr
          simp only [hyr, go_sem, Nat.reduceBEq]
          refine (iOrder _ _ _).mono ?_
          rintro _ _ ⟨rfl, rfl⟩
          simp only [go_sem, Nat.reduceBEq]
          exact fin (by unfold cmp0; rw [if_neg (by omega)]; rw [if_neg (by omega)]; rw [if_neg (by omega)]; rw [if_pos (by omega)]) (Ext.refl _)
        · have hy := of_decide_eq_false hyr
          simp only [hyr, go_sem, Nat.reduceBEq, Nat.reduceAdd, Nat.reduceLeDiff]
          refine (iScalarText a _ _).mono ?_
          rintro _ _ ⟨rfl, rfl⟩
          simp only [d23, go_sem, Nat.reduceBEq, Nat.reduceAdd, Nat.reduceLeDiff]
          refine (iScalarText b _ _).mono ?_
          rintro _ _ ⟨rfl, rfl⟩
          simp only [go_sem, Nat.reduceBEq]
          refine Br.intro (fun hb23r => ?_) (fun hb23r => ?_)
          · have hb23 := of_decide_eq_true hb23r
            simp only [hb23r, go_sem, Nat.reduceBEq, Nat.reduceAdd, Nat.reduceLeDiff]
            refine (iToText a hna _ _ ra hT).mono ?_
            rintro _ h1 ⟨rfl, e1⟩
            simp only [go_sem, Nat.reduceBEq, Nat.reduceAdd, Nat.reduceLeDiff]
            refine (iToText b hnb _ _ (rb.mono e1) (hT.ext e1)).mono ?_
            rintro _ h2 ⟨rfl, e2⟩
            simp only [go_sem, Nat.reduceBEq]
            refine (str_cmp _ _ _).mono ?_
            rintro _ _ ⟨rfl, rfl⟩
            simp only [go_sem, Nat.reduceBEq]
            exact fin (by unfold cmp0; rw [if_neg (by omega)]; rw [if_neg (by omega)]; rw [if_neg (by omega)]; rw [if_neg (by omega)]; rw [if_pos (by omega)]) (e1.trans e2)
          · have hb23 := of_decide_eq_false hb23r
            simp only [d4, hb23r, go_sem, Nat.reduceBEq]
            refine Br.intro (fun hb4r => ?_) (fun hb4r => ?_)
            · have hb4 := of_decide_eq_true hb4r
              simp only [hb4r, go_sem, Nat.reduceBEq]
              exact fin (by unfold cmp0; rw [if_neg (by omega)]; rw [if_neg (by omega)]; rw [if_neg (by omega)]; rw [if_neg (by omega)]; rw [if_neg (by omega)]; rw [if_neg (by omega)]; rw [if_neg (by omega)]; rw [if_pos (by omega)]) (Ext.refl _)
            · have hb4 := of_decide_eq_false hb4r
              simp only [hb4r, go_sem, Nat.reduceBEq]
              refine Br.intro (fun hkr => ?_) (fun hkr => ?_)
              · have hk := of_decide_eq_true hkr
                simp only [hkr, go_sem, Nat.reduceBEq]
                refine Br.intro (fun hnr => ?_) (fun hnr => ?_)
                · have hn := of_decide_eq_true hnr
                  simp only [hnr, go_sem, Nat.reduceBEq]
                  exact fin (by unfold cmp0; rw [if_neg (by omega)]; rw [if_neg (by omega)]; rw [if_neg (by omega)]; rw [if_neg (by omega)]; rw [if_neg (by omega)]; rw [if_neg (by omega)]; rw [if_neg (by omega)]; rw [if_neg (by omega)]; rw [if_pos (by omega)]) (Ext.refl _)
                · have hn := of_decide_eq_false hnr
                  simp only [hnr, go_sem, Nat.reduceBEq]
                  exact fin (by unfold cmp0; rw [if_neg (by omega)]; rw [if_neg (by omega)]; rw [if_neg (by omega)]; rw [if_neg (by omega)]; rw [if_neg (by omega)]; rw [if_neg (by omega)]; rw [if_neg (by omega)]; rw [if_neg (by omega)]; rw [if_neg (by omega)]) (Ext.refl _)
              · have hk := of_decide_eq_false hkr
                simp only [hkr, go_sem, Nat.reduceBEq]
                exact fin (by unfold cmp0; rw [if_neg (by omega)]; rw [if_neg (by omega)]; rw [if_neg (by omega)]; rw [if_neg (by omega)]; rw [if_neg (by omega)]; rw [if_neg (by omega)]; rw [if_neg (by omega)]; rw [if_neg (by omega)]; rw [if_neg (by omega)]) (Ext.refl _)
      · have hx := of_decide_eq_false hxr
        simp only [hxr, go_sem, Nat.reduceBEq, Nat.reduceAdd, Nat.reduceLeDiff]
        refine (iScalarText a _ _).mono ?_
        rintro _ _ ⟨rfl, rfl⟩
        simp only [d23, go_sem, Nat.reduceBEq, Nat.reduceAdd, Nat.reduceLeDiff]
        refine (iScalarText b _ _).mono ?_
        rintro _ _ ⟨rfl, rfl⟩
        simp only [go_sem, Nat.reduceBEq]
        refine Br.intro (fun hb23r => ?_) (fun hb23r => ?_)
        · have hb23 := of_decide_eq_true hb23r
          simp only [hb23r, go_sem, Nat.reduceBEq, Nat.reduceAdd, Nat.reduceLeDiff]
          refine (iToText a hna _ _ ra hT).mono ?_
          rintro _ h1 ⟨rfl, e1⟩
          simp only [go_sem, Nat.reduceBEq, Nat.reduceAdd, Nat.reduceLeDiff]
          refine (iToText b hnb _ _ (rb.mono e1) (hT.ext e1)).mono ?_
          rintro _ h2 ⟨rfl, e2⟩
          simp only [go_sem, Nat.reduceBEq]
          refine (str_cmp _ _ _).mono ?_
          rintro _ _ ⟨rfl, rfl⟩
          simp only [go_sem, Nat.reduceBEq]
          exact fin (by unfold cmp0; rw [if_neg (by omega)]; rw [if_neg (by omega)]; rw [if_neg (by omega)]; rw [if_neg (by omega)]; rw [if_pos (by omega)]) (e1.trans e2)
        · have hb23 := of_decide_eq_false hb23r
          simp only [d4, hb23r, go_sem, Nat.reduceBEq]
          refine Br.intro (fun hb4r => ?_) (fun hb4r => ?_)
          · have hb4 := of_decide_eq_true hb4r
            simp only [hb4r, go_sem, Nat.reduceBEq]
            exact fin (by unfold cmp0; rw [if_neg (by omega)]; rw [if_neg (by omega)]; rw [if_neg (by omega)]; rw [if_neg (by omega)]; rw [if_neg (by omega)]; rw [if_neg (by omega)]; rw [if_neg (by omega)]; rw [if_pos (by omega)]) (Ext.refl _)
          · have hb4 := of_decide_eq_false hb4r
            simp only [hb4r, go_sem, Nat.reduceBEq]
            refine Br.intro (fun hkr => ?_) (fun hkr => ?_)
            · have hk := of_decide_eq_true hkr
              simp only [hkr, go_sem, Nat.reduceBEq]
              refine Br.intro (fun hnr => ?_) (fun hnr => ?_)
              · have hn := of_decide_eq_true hnr
                simp only [hnr, go_sem, Nat.reduceBEq]
                exact fin (by unfold cmp0; rw [if_neg (by omega)]; rw [if_neg (by omega)]; rw [if_neg (by omega)]; rw [if_neg (by omega)]; rw [if_neg (by omega)]; rw [if_neg (by omega)]; rw [if_neg (by omega)]; rw [if_neg (by omega)]; rw [if_pos (by omega)]) (Ext.refl _)
              · have hn := of_decide_eq_false hnr
                simp only [hnr, go_sem, Nat.reduceBEq]
                exact fin (by unfold cmp0; rw [if_neg (by omega)]; rw [if_neg (by omega)]; rw [if_neg (by omega)]; rw [if_neg (by omega)]; rw [if_neg (by omega)]; rw [if_neg (by omega)]; rw [if_neg (by omega)]; rw [if_neg (by omega)]; rw [if_neg (by omega)]) (Ext.refl _)
            · have hk := of_decide_eq_false hkr
              simp only [hkr, go_sem, Nat.reduceBEq]
              exact fin (by unfold cmp0; rw [if_neg (by omega)]; rw [if_neg (by omega)]; rw [if_neg (by omega)]; rw [if_neg (by omega)]; rw [if_neg (by omega)]; rw [if_neg (by omega)]; rw [if_neg (by omega)]; rw [if_neg (by omega)]; rw [if_neg (by omega)]) (Ext.refl _)
theorem iCompare_4 (a b : V) (hsa : a.str.size ≤ 1152921504606846976) (hsb : b.str.size ≤ 1152921504606846976) (hna : IntKind.i64.min ≤ a.num ∧ a.num ≤ IntKind.i64.max) (hnb : IntKind.i64.min ≤ b.num ∧ b.num ≤ IntKind.i64.max) (sa sb : Value) (h : Hp) (ra : RdE h a.items sa) (rb : RdE h b.items sb) (hT : Pow h) (ar : Int) (harr : ACalls Tryd.prog 43 #[.agg #[.int .i64 a.kind, .int .i64 a.num, .string a.str, .int .i64 a.next, sa], .agg #[.int .i64 b.kind, .int .i64 b.num, .string b.str, .int .i64 b.next, sb]] h (Is (.int .i64 ar) h)) (ha : a.kind = 4) :
    ACalls Tryd.prog 9 #[.agg #[.int .i64 a.kind, .int .i64 a.num, .string a.str, .int .i64 a.next, sa], .agg #[.int .i64 b.kind, .int .i64 b.num, .string b.str, .int .i64 b.next, sb]] h (Is (.int .i64 (cmp0 a b ar)) h) := by
  have d0 : decide (a.kind = 0) = false := decide_eq_false (by omega)
  have d1 : decide (a.kind = 1) = false := decide_eq_false (by omega)
  have d2 : decide (a.kind = 2) = false := decide_eq_false (by omega)
  have d3 : decide (a.kind = 3) = false := decide_eq_false (by omega)
  have d4 : decide (a.kind = 4) = true := decide_eq_true (by omega)
  have d01 : decide (0 ≤ a.kind ∧ a.kind ≤ 1) = false := decide_eq_false (by omega)
  have d23 : decide (2 ≤ a.kind ∧ a.kind ≤ 3) = false := decide_eq_false (by omega)
  have fin : ∀ {x : Int} {h' : Hp}, cmp0 a b ar = x → Ext h h' → Is (.int .i64 (cmp0 a b ar)) h (.int .i64 x) h' := fun e k => ⟨by rw [e], k⟩
  (refine enter Tryd.func9 rfl rfl (by kernel_rfl) [] ?_; simp only [go_sem, Nat.reduceBEq])
  simp only [d0, d1, d3, go_sem, Nat.reduceBEq]
  refine Br.intro (fun hb0r => ?_) (fun hb0r => ?_)
  · have hb0 := of_decide_eq_true hb0r
    simp only [hb0r, go_sem, Nat.reduceBEq]
    refine regionD_intro (lb := [56, 59]) (by kernel_rfl) ?_
    simp only [go_sem, Nat.reduceBEq, Nat.reduceAdd, Nat.reduceLeDiff]
    refine (iToBool a _ _ ra).mono ?_
    rintro _ _ ⟨rfl, rfl⟩
    simp only [go_sem, Nat.reduceBEq]
    refine (iBoolNum _ _).mono ?_
    rintro _ _ ⟨rfl, rfl⟩
    simp only [go_sem, Nat.reduceBEq, Nat.reduceAdd, Nat.reduceLeDiff]
    refine (iToBool b _ _ rb).mono ?_
    rintro _ _ ⟨rfl, rfl⟩
    simp only [go_sem, Nat.reduceBEq]
    refine (iBoolNum _ _).mono ?_
    rintro _ _ ⟨rfl, rfl⟩
    simp only [go_sem, Nat.reduceBEq]
    refine (iOrder _ _ _).mono ?_
    rintro _ _ ⟨rfl, rfl⟩
    simp only [go_sem, Nat.reduceBEq]
    exact fin (by unfold cmp0; rw [if_neg (by omega)]; rw [if_neg (by omega)]; rw [if_pos (by omega)]) (Ext.refl _)
  · have hb0 := of_decide_eq_false hb0r
    simp only [hb0r, go_sem, Nat.reduceBEq]
    refine Br.intro (fun hb1r => ?_) (fun hb1r => ?_)
    · have hb1 := of_decide_eq_true hb1r
      simp only [hb1r, go_sem]
      refine regionD_intro (lb := [56, 59]) (by kernel_rfl) ?_
      simp only [go_sem, Nat.reduceBEq, Nat.reduceAdd, Nat.reduceLeDiff]
      refine (iToBool a _ _ ra).mono ?_
      rintro _ _ ⟨rfl, rfl⟩
      simp only [go_sem, Nat.reduceBEq]
      refine (iBoolNum _ _).mono ?_
      rintro _ _ ⟨rfl, rfl⟩
      simp only [go_sem, Nat.reduceBEq, Nat.reduceAdd, Nat.reduceLeDiff]
      refine (iToBool b _ _ rb).mono ?_
      rintro _ _ ⟨rfl, rfl⟩
      simp only [go_sem, Nat.reduceBEq]
      refine (iBoolNum _ _).mono ?_
      rintro _ _ ⟨rfl, rfl⟩
      simp only [go_sem, Nat.reduceBEq]
      refine (iOrder _ _ _).mono ?_
      rintro _ _ ⟨rfl, rfl⟩
      simp only [go_sem, Nat.reduceBEq]
      exact fin (by unfold cmp0; rw [if_neg (by omega)]; rw [if_neg (by omega)]; rw [if_pos (by omega)]) (Ext.refl _)
    · have hb1 := of_decide_eq_false hb1r
      simp only [hb1r, go_sem, Nat.reduceBEq, Nat.reduceAdd, Nat.reduceLeDiff]
      refine (iToNumber a hsa _ _ ra).mono ?_
      rintro _ _ ⟨rfl, rfl⟩
      simp only [go_sem, Nat.reduceBEq, Nat.reduceAdd, Nat.reduceLeDiff]
      refine (iToNumber b hsb _ _ rb).mono ?_
      rintro _ _ ⟨rfl, rfl⟩
      simp only [go_sem, Nat.reduceBEq]
      refine Br.intro (fun hxr => ?_) (fun hxr => ?_)
      · have hx := of_decide_eq_true hxr
        simp only [hxr, go_sem, Nat.reduceBEq]
        refine Br.intro (fun hyr => ?_) (fun hyr => ?_)
        · have hy := of_decide_eq_true hyr
          simp only [hyr, go_sem, Nat.reduceBEq]
          refine (iOrder _ _ _).mono ?_
          rintro _ _ ⟨rfl, rfl⟩
          simp only [go_sem, Nat.reduceBEq]
          exact fin (by unfold cmp0; rw [if_neg (by omega)]; rw [if_neg (by omega)]; rw [if_neg (by omega)]; rw [if_pos (by omega)]) (Ext.refl _)
        · have hy := of_decide_eq_false hyr
          simp only [hyr, go_sem, Nat.reduceBEq, Nat.reduceAdd, Nat.reduceLeDiff]
          refine (iScalarText a _ _).mono ?_
          rintro _ _ ⟨rfl, rfl⟩
          simp only [d4, d23, go_sem, Nat.reduceBEq]
          refine Br.intro (fun hb4r => ?_) (fun hb4r => ?_)
          · have hb4 := of_decide_eq_true hb4r
            simp only [hb4r, go_sem, Nat.reduceBEq, Nat.reduceAdd, Nat.reduceLeDiff]
            refine harr.mono ?_
            rintro _ h1 ⟨rfl, e1⟩
            simp only [go_sem, Nat.reduceBEq]
            exact fin (by unfold cmp0; rw [if_neg (by omega)]; rw [if_neg (by omega)]; rw [if_neg (by omega)]; rw [if_neg (by omega)]; rw [if_neg (by omega)]; rw [if_pos (by omega)]) e1
          · have hb4 := of_decide_eq_false hb4r
            simp only [d4, hb4r, go_sem, Nat.reduceBEq]
            exact fin (by unfold cmp0; rw [if_neg (by omega)]; rw [if_neg (by omega)]; rw [if_neg (by omega)]; rw [if_neg (by omega)]; rw [if_neg (by omega)]; rw [if_neg (by omega)]; rw [if_pos (by omega)]) (Ext.refl _)
      · have hx := of_decide_eq_false hxr
        simp only [hxr, go_sem, Nat.reduceBEq, Nat.reduceAdd, Nat.reduceLeDiff]
        refine (iScalarText a _ _).mono ?_
        rintro _ _ ⟨rfl, rfl⟩
        simp only [d4, d23, go_sem, Nat.reduceBEq]
        refine Br.intro (fun hb4r => ?_) (fun hb4r => ?_)
        · have hb4 := of_decide_eq_true hb4r
          simp only [hb4r, go_sem, Nat.reduceBEq, Nat.reduceAdd, Nat.reduceLeDiff]
          refine harr.mono ?_
          rintro _ h1 ⟨rfl, e1⟩
          simp only [go_sem, Nat.reduceBEq]
          exact fin (by unfold cmp0; rw [if_neg (by omega)]; rw [if_neg (by omega)]; rw [if_neg (by omega)]; rw [if_neg (by omega)]; rw [if_neg (by omega)]; rw [if_pos (by omega)]) e1
        · have hb4 := of_decide_eq_false hb4r
          simp only [d4, hb4r, go_sem, Nat.reduceBEq]
          exact fin (by unfold cmp0; rw [if_neg (by omega)]; rw [if_neg (by omega)]; rw [if_neg (by omega)]; rw [if_neg (by omega)]; rw [if_neg (by omega)]; rw [if_neg (by omega)]; rw [if_pos (by omega)]) (Ext.refl _)
theorem iCompare_o (a b : V) (hsa : a.str.size ≤ 1152921504606846976) (hsb : b.str.size ≤ 1152921504606846976) (hna : IntKind.i64.min ≤ a.num ∧ a.num ≤ IntKind.i64.max) (hnb : IntKind.i64.min ≤ b.num ∧ b.num ≤ IntKind.i64.max) (sa sb : Value) (h : Hp) (ra : RdE h a.items sa) (rb : RdE h b.items sb) (hT : Pow h) (ar : Int) (harr : ACalls Tryd.prog 43 #[.agg #[.int .i64 a.kind, .int .i64 a.num, .string a.str, .int .i64 a.next, sa], .agg #[.int .i64 b.kind, .int .i64 b.num, .string b.str, .int .i64 b.next, sb]] h (Is (.int .i64 ar) h)) (ha : ¬ a.kind = 0 ∧ ¬ a.kind = 1 ∧ ¬ a.kind = 2 ∧ ¬ a.kind = 3 ∧ ¬ a.kind = 4) :
    ACalls Tryd.prog 9 #[.agg #[.int .i64 a.kind, .int .i64 a.num, .string a.str, .int .i64 a.next, sa], .agg #[.int .i64 b.kind, .int .i64 b.num, .string b.str, .int .i64 b.next, sb]] h (Is (.int .i64 (cmp0 a b ar)) h) := by
  have d0 : decide (a.kind = 0) = false := decide_eq_false (by omega)
  have d1 : decide (a.kind = 1) = false := decide_eq_false (by omega)
  have d2 : decide (a.kind = 2) = false := decide_eq_false (by omega)
  have d3 : decide (a.kind = 3) = false := decide_eq_false (by omega)
  have d4 : decide (a.kind = 4) = false := decide_eq_false (by omega)
  have d01 : decide (0 ≤ a.kind ∧ a.kind ≤ 1) = false := decide_eq_false (by omega)
  have d23 : decide (2 ≤ a.kind ∧ a.kind ≤ 3) = false := decide_eq_false (by omega)
  have fin : ∀ {x : Int} {h' : Hp}, cmp0 a b ar = x → Ext h h' → Is (.int .i64 (cmp0 a b ar)) h (.int .i64 x) h' := fun e k => ⟨by rw [e], k⟩
  (refine enter Tryd.func9 rfl rfl (by kernel_rfl) [] ?_; simp only [go_sem, Nat.reduceBEq])
  simp only [d0, d1, d3, go_sem, Nat.reduceBEq]
  refine Br.intro (fun hb0r => ?_) (fun hb0r => ?_)
  · have hb0 := of_decide_eq_true hb0r
    simp only [hb0r, go_sem, Nat.reduceBEq]
    refine regionD_intro (lb := [56, 59]) (by kernel_rfl) ?_
    simp only [go_sem, Nat.reduceBEq, Nat.reduceAdd, Nat.reduceLeDiff]
    refine (iToBool a _ _ ra).mono ?_
    rintro _ _ ⟨rfl, rfl⟩
    simp only [go_sem, Nat.reduceBEq]
    refine (iBoolNum _ _).mono ?_
    rintro _ _ ⟨rfl, rfl⟩
    simp only [go_sem, Nat.reduceBEq, Nat.reduceAdd, Nat.reduceLeDiff]
    refine (iToBool b _ _ rb).mono ?_
    rintro _ _ ⟨rfl, rfl⟩
    simp only [go_sem, Nat.reduceBEq]
    refine (iBoolNum _ _).mono ?_
    rintro _ _ ⟨rfl, rfl⟩
    simp only [go_sem, Nat.reduceBEq]
    refine (iOrder _ _ _).mono ?_
    rintro _ _ ⟨rfl, rfl⟩
    simp only [go_sem, Nat.reduceBEq]
    exact fin (by unfold cmp0; rw [if_neg (by omega)]; rw [if_neg (by omega)]; rw [if_pos (by omega)]) (Ext.refl _)
  · have hb0 := of_decide_eq_false hb0r
    simp only [hb0r, go_sem, Nat.reduceBEq]
    refine Br.intro (fun hb1r => ?_) (fun hb1r => ?_)
    · have hb1 := of_decide_eq_true hb1r
      simp only [hb1r, go_sem]
      refine regionD_intro (lb := [56, 59]) (by kernel_rfl) ?_
      simp only [go_sem, Nat.reduceBEq, Nat.reduceAdd, Nat.reduceLeDiff]
      refine (iToBool a _ _ ra).mono ?_
      rintro _ _ ⟨rfl, rfl⟩
      simp only [go_sem, Nat.reduceBEq]
      refine (iBoolNum _ _).mono ?_
      rintro _ _ ⟨rfl, rfl⟩
      simp only [go_sem, Nat.reduceBEq, Nat.reduceAdd, Nat.reduceLeDiff]
      refine (iToBool b _ _ rb).mono ?_
      rintro _ _ ⟨rfl, rfl⟩
      simp only [go_sem, Nat.reduceBEq]
      refine (iBoolNum _ _).mono ?_
      rintro _ _ ⟨rfl, rfl⟩
      simp only [go_sem, Nat.reduceBEq]
      refine (iOrder _ _ _).mono ?_
      rintro _ _ ⟨rfl, rfl⟩
      simp only [go_sem, Nat.reduceBEq]
      exact fin (by unfold cmp0; rw [if_neg (by omega)]; rw [if_neg (by omega)]; rw [if_pos (by omega)]) (Ext.refl _)
    · have hb1 := of_decide_eq_false hb1r
      simp only [hb1r, go_sem, Nat.reduceBEq, Nat.reduceAdd, Nat.reduceLeDiff]
      refine (iToNumber a hsa _ _ ra).mono ?_
      rintro _ _ ⟨rfl, rfl⟩
      simp only [go_sem, Nat.reduceBEq, Nat.reduceAdd, Nat.reduceLeDiff]
      refine (iToNumber b hsb _ _ rb).mono ?_
      rintro _ _ ⟨rfl, rfl⟩
      simp only [go_sem, Nat.reduceBEq]
      refine Br.intro (fun hxr => ?_) (fun hxr => ?_)
      · have hx := of_decide_eq_true hxr
        simp only [hxr, go_sem, Nat.reduceBEq]
        refine Br.intro (fun hyr => ?_) (fun hyr => ?_)
        · have hy := of_decide_eq_true hyr
          simp only [hyr, go_sem, Nat.reduceBEq]
          refine (iOrder _ _ _).mono ?_
          rintro _ _ ⟨rfl, rfl⟩
          simp only [go_sem, Nat.reduceBEq]
          exact fin (by unfold cmp0; rw [if_neg (by omega)]; rw [if_neg (by omega)]; rw [if_neg (by omega)]; rw [if_pos (by omega)]) (Ext.refl _)
        · have hy := of_decide_eq_false hyr
          simp only [hyr, go_sem, Nat.reduceBEq, Nat.reduceAdd, Nat.reduceLeDiff]
          refine (iScalarText a _ _).mono ?_
          rintro _ _ ⟨rfl, rfl⟩
          simp only [d4, d23, go_sem, Nat.reduceBEq]
          refine Br.intro (fun hb4r => ?_) (fun hb4r => ?_)
          · have hb4 := of_decide_eq_true hb4r
            simp only [hb4r, go_sem, Nat.reduceBEq]
            exact fin (by unfold cmp0; rw [if_neg (by omega)]; rw [if_neg (by omega)]; rw [if_neg (by omega)]; rw [if_neg (by omega)]; rw [if_neg (by omega)]; rw [if_neg (by omega)]; rw [if_neg (by omega)]; rw [if_pos (by omega)]) (Ext.refl _)
          · have hb4 := of_decide_eq_false hb4r
            simp only [hb4r, go_sem, Nat.reduceBEq]
            refine Br.intro (fun hkr => ?_) (fun hkr => ?_)
            · have hk := of_decide_eq_true hkr
              simp only [hkr, go_sem, Nat.reduceBEq]
              refine Br.intro (fun hnr => ?_) (fun hnr => ?_)
              · have hn := of_decide_eq_true hnr
                simp only [hnr, go_sem, Nat.reduceBEq]
                exact fin (by unfold cmp0; rw [if_neg (by omega)]; rw [if_neg (by omega)]; rw [if_neg (by omega)]; rw [if_neg (by omega)]; rw [if_neg (by omega)]; rw [if_neg (by omega)]; rw [if_neg (by omega)]; rw [if_neg (by omega)]; rw [if_pos (by omega)]) (Ext.refl _)
              · have hn := of_decide_eq_false hnr
                simp only [hnr, go_sem, Nat.reduceBEq]
                exact fin (by unfold cmp0; rw [if_neg (by omega)]; rw [if_neg (by omega)]; rw [if_neg (by omega)]; rw [if_neg (by omega)]; rw [if_neg (by omega)]; rw [if_neg (by omega)]; rw [if_neg (by omega)]; rw [if_neg (by omega)]; rw [if_neg (by omega)]) (Ext.refl _)
            · have hk := of_decide_eq_false hkr
              simp only [hkr, go_sem, Nat.reduceBEq]
              exact fin (by unfold cmp0; rw [if_neg (by omega)]; rw [if_neg (by omega)]; rw [if_neg (by omega)]; rw [if_neg (by omega)]; rw [if_neg (by omega)]; rw [if_neg (by omega)]; rw [if_neg (by omega)]; rw [if_neg (by omega)]; rw [if_neg (by omega)]) (Ext.refl _)
      · have hx := of_decide_eq_false hxr
        simp only [hxr, go_sem, Nat.reduceBEq, Nat.reduceAdd, Nat.reduceLeDiff]
        refine (iScalarText a _ _).mono ?_
        rintro _ _ ⟨rfl, rfl⟩
        simp only [d4, d23, go_sem, Nat.reduceBEq]
        refine Br.intro (fun hb4r => ?_) (fun hb4r => ?_)
        · have hb4 := of_decide_eq_true hb4r
          simp only [hb4r, go_sem, Nat.reduceBEq]
          exact fin (by unfold cmp0; rw [if_neg (by omega)]; rw [if_neg (by omega)]; rw [if_neg (by omega)]; rw [if_neg (by omega)]; rw [if_neg (by omega)]; rw [if_neg (by omega)]; rw [if_neg (by omega)]; rw [if_pos (by omega)]) (Ext.refl _)
        · have hb4 := of_decide_eq_false hb4r
          simp only [hb4r, go_sem, Nat.reduceBEq]
          refine Br.intro (fun hkr => ?_) (fun hkr => ?_)
          · have hk := of_decide_eq_true hkr
            simp only [hkr, go_sem, Nat.reduceBEq]
            refine Br.intro (fun hnr => ?_) (fun hnr => ?_)
            · have hn := of_decide_eq_true hnr
              simp only [hnr, go_sem, Nat.reduceBEq]
              exact fin (by unfold cmp0; rw [if_neg (by omega)]; rw [if_neg (by omega)]; rw [if_neg (by omega)]; rw [if_neg (by omega)]; rw [if_neg (by omega)]; rw [if_neg (by omega)]; rw [if_neg (by omega)]; rw [if_neg (by omega)]; rw [if_pos (by omega)]) (Ext.refl _)
            · have hn := of_decide_eq_false hnr
              simp only [hnr, go_sem, Nat.reduceBEq]
              exact fin (by unfold cmp0; rw [if_neg (by omega)]; rw [if_neg (by omega)]; rw [if_neg (by omega)]; rw [if_neg (by omega)]; rw [if_neg (by omega)]; rw [if_neg (by omega)]; rw [if_neg (by omega)]; rw [if_neg (by omega)]; rw [if_neg (by omega)]) (Ext.refl _)
          · have hk := of_decide_eq_false hkr
            simp only [hkr, go_sem, Nat.reduceBEq]
            exact fin (by unfold cmp0; rw [if_neg (by omega)]; rw [if_neg (by omega)]; rw [if_neg (by omega)]; rw [if_neg (by omega)]; rw [if_neg (by omega)]; rw [if_neg (by omega)]; rw [if_neg (by omega)]; rw [if_neg (by omega)]; rw [if_neg (by omega)]) (Ext.refl _)
theorem iCompare : ∀ a, CmpI a := V.ind fun a ih b oka okb hba hbb sa sb h ra rb hT => by
  have hsa : a.str.size ≤ 1152921504606846976 := by have := V.bulk_eq a; omega
  have hsb : b.str.size ≤ 1152921504606846976 := by have := V.bulk_eq b; omega
  have harr := iArrays a ih b oka okb hba hbb sa sb h ra rb hT
  rw [V.cmp_eq]
  rcases k6 a.kind with ha | ha | ha | ha | ha | ha
  · exact iCompare_0 a b hsa hsb (V.ok_num oka) (V.ok_num okb) sa sb h ra rb hT _ harr ha
  · exact iCompare_1 a b hsa hsb (V.ok_num oka) (V.ok_num okb) sa sb h ra rb hT _ harr ha
  · exact iCompare_2 a b hsa hsb (V.ok_num oka) (V.ok_num okb) sa sb h ra rb hT _ harr ha
  · exact iCompare_3 a b hsa hsb (V.ok_num oka) (V.ok_num okb) sa sb h ra rb hT _ harr ha
  · exact iCompare_4 a b hsa hsb (V.ok_num oka) (V.ok_num okb) sa sb h ra rb hT _ harr ha
  · exact iCompare_o a b hsa hsb (V.ok_num oka) (V.ok_num okb) sa sb h ra rb hT _ harr ha
def CmpS (a : V) : Prop := ∀ (b : V) (_ : a.ok) (_ : b.ok) (_ : a.bulk ≤ 1099511627776) (_ : b.bulk ≤ 1099511627776) (sa sb : Value) (h : Hp) (_ : RdE h a.items sa) (_ : RdE h b.items sb) (_ : Pow h),
    ACalls Tryd.prog 65 #[.agg #[.int .i64 a.kind, .int .i64 a.num, .string a.str, .int .i64 a.next, sa], .agg #[.int .i64 b.kind, .int .i64 b.num, .string b.str, .int .i64 b.next, sb]] h (Is (.int .i64 (V.cmp a b)) h)
theorem sArrays (a : V) (ih : ∀ e ∈ a.items, CmpS e.2) (b : V) (oka : a.ok) (okb : b.ok) (ha : a.bulk ≤ 1099511627776) (hb : b.bulk ≤ 1099511627776) (sa sb : Value) (h : Hp) (ra : RdE h a.items sa) (rb : RdE h b.items sb) (hT : Pow h) :
    ACalls Tryd.prog 99 #[.agg #[.int .i64 a.kind, .int .i64 a.num, .string a.str, .int .i64 a.next, sa], .agg #[.int .i64 b.kind, .int .i64 b.num, .string b.str, .int .i64 b.next, sb]] h (Is (.int .i64 (arrCmp a b)) h) := by
  have hla := V.bulks_len a.items
  have hlb := V.bulks_len b.items
  have hba := V.bulk_eq a
  have hbb := V.bulk_eq b
  obtain ⟨aa, ca, xa, rfl, hca, hra, hata⟩ := ra.rows (by decide) a.items.length (fm_len edt_len _)
  obtain ⟨ab, cb, xb, rfl, hcb, hrb, hatb⟩ := rb.rows (by decide) b.items.length (fm_len edt_len _)
  (refine enter Tryd.func99 rfl rfl (by kernel_rfl) [] ?_; simp only [go_sem, Nat.reduceBEq])
  refine Br.intro (fun hl => ?_) (fun hl => ?_) <;> (try simp only [hl, go_sem, Nat.reduceBEq])
  · have hl : ¬ a.items.length = b.items.length := by simp at hl; omega
    (refine (sOrder _ _ _).mono ?_; rintro _ _ ⟨rfl, rfl⟩; simp only [go_sem, Nat.reduceBEq])
    exact ⟨by unfold arrCmp; rw [if_neg hl], Ext.refl _⟩
  have hl : a.items.length = b.items.length := by simp at hl; omega
  have e0 : arrCmp a b = cmpEs a.items b := by unfold arrCmp; rw [if_pos hl]
  rw [e0]
  refine aloop (ι := Nat) (fun i => [(5, .val (.int .i64 (i : Nat))), (3, .box 3 0), (2, .box 2 0)]) (fun _ => [(3, [.int .i64 b.kind, .int .i64 b.num, .string b.str, .int .i64 b.next, .slice ab b.items.length cb]), (2, [.int .i64 a.kind, .int .i64 a.num, .string a.str, .int .i64 a.next, .slice aa a.items.length ca])])
    (fun i h' => i ≤ a.items.length ∧ Ext h h' ∧ cmpEs (a.items.drop i) b = cmpEs a.items b) (fun i => a.items.length - i) 0 ⟨Nat.zero_le _, Ext.refl _, rfl⟩ (by repeat (first | exact wkF_e | refine wkF_c rfl ?_)) (wkB_c rfl (wkB_c rfl wkB_e)) rfl ?_
  rintro i h1 ⟨hi, e1, hq⟩
  have hi : i ≤ a.items.length := hi
  have ra1 := ra.mono e1
  have rb1 := rb.mono e1
  simp only [go_sem, Nat.reduceBEq]
  refine Br.intro (fun hlt => ?_) (fun hlt => ?_) <;> (try simp only [hlt, go_sem, Nat.reduceBEq])
  · have hlt : i < a.items.length := by simpa using hlt
    obtain ⟨b1, off1, rfl, hata'⟩ := hata (by omega)
    obtain ⟨e, he, hm⟩ := get_lt hlt
    have wsu := wrap_succ (i := i) (by omega)
    have hbe := bulk_mem2 hm
    rw [drop_cons he, cmpEs_cons] at hq
    refine regionD_intro (lb := [31, 33]) (by kernel_rfl) ?_
    simp only [ix_nat hlt, go_sem, Nat.reduceBEq, Nat.reduceAdd, Nat.reduceLeDiff]
    refine hsem_ekey tyS40 (hata'.mono e1) (hra.mono e1) he rfl ?_
    simp only [go_sem, Nat.reduceBEq]
    refine (sGet b e.1 (by omega) _ _ rb1).mono ?_
    rintro _ _ ⟨rfl, s3, rfl, rd3⟩
    obtain ⟨a3, c3, _, rfl, _⟩ := rd3.rows (by decide) _ (fm_len edt_len _)
    simp only [go_sem, Nat.reduceBEq, Nat.reduceAdd, Nat.reduceLeDiff]
    cases hg : b.get e.1 with
    | none =>
      rw [hg] at hq
      simp only [Option.isSome_none, Bool.not_false, go_sem, Nat.reduceBEq]
      exact ⟨by rw [← hq], e1⟩
    | some y =>
      rw [hg] at hq rd3
      simp only [Option.isSome_some, Option.getD_some, Bool.not_true, go_sem] at rd3 ⊢
      obtain ⟨oky, hby⟩ := get_ok okb hg
      refine regionD_intro (lb := [44, 49]) (by kernel_rfl) ?_
      simp only [ix_nat hlt, go_sem, Nat.reduceBEq, Nat.reduceAdd]
      refine hsem_eval tyS26 (hata'.mono e1) (hra.mono e1) he rfl fun s2 rd2 => ?_
      obtain ⟨a2, c2, _, rfl, _⟩ := rd2.rows (by decide) e.2.items.length (fm_len edt_len _)
      simp only [go_sem, Nat.reduceBEq, Nat.reduceAdd, Nat.reduceLeDiff]
      refine (ih e hm y (V.oks_mem (V.ok_items oka) hm).2 oky (by omega) (by omega) _ _ _ rd2 rd3 (hT.ext e1)).mono ?_
      rintro _ h2 ⟨rfl, e2⟩
      simp only [go_sem, Nat.reduceBEq]
      refine Br.intro (fun hz => ?_) (fun hz => ?_) <;> (try simp only [hz, go_sem, Nat.reduceBEq])
      · have hz : ¬ V.cmp e.2 y = 0 := by simpa using hz
        simp only [hz, if_false] at hq
        exact ⟨by rw [← hq], e1.trans e2⟩
      · have hz : V.cmp e.2 y = 0 := by simpa using hz
        simp only [hz, if_true] at hq
        try simp only [wsu, go_sem]
        try rw [wsu]
        exact Again.intro (i + 1) (by first | omega | (simp only; omega)) ⟨hlt, e1.trans e2, hq⟩ (by repeat (first | exact wkF_e | refine wkF_c rfl ?_)) (wkB_c rfl (wkB_c rfl wkB_e)) rfl
  · have hlt : i = a.items.length := by simp at hlt; omega
    rw [List.drop_eq_nil_of_le (by omega), cmpEs_nil] at hq
    exact ⟨by rw [← hq], e1⟩
theorem sCompare_0 (a b : V) (hsa : a.str.size ≤ 1152921504606846976) (hsb : b.str.size ≤ 1152921504606846976) (hna : IntKind.i64.min ≤ a.num ∧ a.num ≤ IntKind.i64.max) (hnb : IntKind.i64.min ≤ b.num ∧ b.num ≤ IntKind.i64.max) (sa sb : Value) (h : Hp) (ra : RdE h a.items sa) (rb : RdE h b.items sb) (hT : Pow h) (ar : Int) (harr : ACalls Tryd.prog 99 #[.agg #[.int .i64 a.kind, .int .i64 a.num, .string a.str, .int .i64 a.next, sa], .agg #[.int .i64 b.kind, .int .i64 b.num, .string b.str, .int .i64 b.next, sb]] h (Is (.int .i64 ar) h)) (ha : a.kind = 0) :
    ACalls Tryd.prog 65 #[.agg #[.int .i64 a.kind, .int .i64 a.num, .string a.str, .int .i64 a.next, sa], .agg #[.int .i64 b.kind, .int .i64 b.num, .string b.str, .int .i64 b.next, sb]] h (Is (.int .i64 (cmp0 a b ar)) h) := by
  have d0 : decide (a.kind = 0) = true := decide_eq_true (by omega)
  have d1 : decide (a.kind = 1) = false := decide_eq_false (by omega)
  have d2 : decide (a.kind = 2) = false := decide_eq_false (by omega)
  have d3 : decide (a.kind = 3) = false := decide_eq_false (by omega)
  have d4 : decide (a.kind = 4) = false := decide_eq_false (by omega)
  have d01 : decide (0 ≤ a.kind ∧ a.kind ≤ 1) = true := decide_eq_true (by omega)
  have d23 : decide (2 ≤ a.kind ∧ a.kind ≤ 3) = false := decide_eq_false (by omega)
  have fin : ∀ {x : Int} {h' : Hp}, cmp0 a b ar = x → Ext h h' → Is (.int .i64 (cmp0 a b ar)) h (.int .i64 x) h' := fun e k => ⟨by rw [e], k⟩
  (refine enter Tryd.func65 rfl rfl (by kernel_rfl) [] ?_; simp only [go_sem, Nat.reduceBEq, Nat.reduceAdd, Nat.reduceLeDiff])
  refine (sToNumber a hsa _ _ ra).mono ?_
  rintro _ _ ⟨rfl, rfl⟩
  simp only [go_sem, Nat.reduceBEq, Nat.reduceAdd, Nat.reduceLeDiff]
  refine (sToNumber b hsb _ _ rb).mono ?_
  rintro _ _ ⟨rfl, rfl⟩
  simp only [go_sem, Nat.reduceBEq]
  simp only [d0, go_sem, Nat.reduceBEq]
  refine Br.intro (fun hb3r => ?_) (fun hb3r => ?_)
  · have hb3 := of_decide_eq_true hb3r
    simp only [hb3r, go_sem, Nat.reduceBEq]
    refine (sBytes _ _ _).mono ?_
    rintro _ _ ⟨rfl, rfl⟩
    simp only [go_sem, Nat.reduceBEq]
    exact fin (by unfold cmp0; rw [if_pos (by omega)]) (Ext.refl _)
  · have hb3 := of_decide_eq_false hb3r
    simp only [d3, hb3r, go_sem, Nat.reduceBEq]
    refine (l1In_c _ _ _ _).mono ?_
    rintro _ _ ⟨rfl, rfl⟩
    simp only [d01, go_sem, Nat.reduceBEq]
    refine regionD_intro (lb := [56, 58]) (by kernel_rfl) ?_
    simp only [go_sem, Nat.reduceBEq, Nat.reduceAdd, Nat.reduceLeDiff]
    refine (sBit a _ _ ra).mono ?_
    rintro _ _ ⟨rfl, rfl⟩
    simp only [go_sem, Nat.reduceBEq, Nat.reduceAdd, Nat.reduceLeDiff]
    refine (sBit b _ _ rb).mono ?_
    rintro _ _ ⟨rfl, rfl⟩
    simp only [go_sem, Nat.reduceBEq]
    refine (sOrder _ _ _).mono ?_
    rintro _ _ ⟨rfl, rfl⟩
    simp only [go_sem, Nat.reduceBEq]
    exact fin (by unfold cmp0; rw [if_neg (by omega)]; rw [if_neg (by omega)]; rw [if_pos (by omega)]) (Ext.refl _)
theorem sCompare_1 (a b : V) (hsa : a.str.size ≤ 1152921504606846976) (hsb : b.str.size ≤ 1152921504606846976) (hna : IntKind.i64.min ≤ a.num ∧ a.num ≤ IntKind.i64.max) (hnb : IntKind.i64.min ≤ b.num ∧ b.num ≤ IntKind.i64.max) (sa sb : Value) (h : Hp) (ra : RdE h a.items sa) (rb : RdE h b.items sb) (hT : Pow h) (ar : Int) (harr : ACalls Tryd.prog 99 #[.agg #[.int .i64 a.kind, .int .i64 a.num, .string a.str, .int .i64 a.next, sa], .agg #[.int .i64 b.kind, .int .i64 b.num, .string b.str, .int .i64 b.next, sb]] h (Is (.int .i64 ar) h)) (ha : a.kind = 1) :
    ACalls Tryd.prog 65 #[.agg #[.int .i64 a.kind, .int .i64 a.num, .string a.str, .int .i64 a.next, sa], .agg #[.int .i64 b.kind, .int .i64 b.num, .string b.str, .int .i64 b.next, sb]] h (Is (.int .i64 (cmp0 a b ar)) h) := by
  have d0 : decide (a.kind = 0) = false := decide_eq_false (by omega)
  have d1 : decide (a.kind = 1) = true := decide_eq_true (by omega)
  have d2 : decide (a.kind = 2) = false := decide_eq_false (by omega)
  have d3 : decide (a.kind = 3) = false := decide_eq_false (by omega)
  have d4 : decide (a.kind = 4) = false := decide_eq_false (by omega)
  have d01 : decide (0 ≤ a.kind ∧ a.kind ≤ 1) = true := decide_eq_true (by omega)
  have d23 : decide (2 ≤ a.kind ∧ a.kind ≤ 3) = false := decide_eq_false (by omega)
  have fin : ∀ {x : Int} {h' : Hp}, cmp0 a b ar = x → Ext h h' → Is (.int .i64 (cmp0 a b ar)) h (.int .i64 x) h' := fun e k => ⟨by rw [e], k⟩
  (refine enter Tryd.func65 rfl rfl (by kernel_rfl) [] ?_; simp only [go_sem, Nat.reduceBEq, Nat.reduceAdd, Nat.reduceLeDiff])
  refine (sToNumber a hsa _ _ ra).mono ?_
  rintro _ _ ⟨rfl, rfl⟩
  simp only [go_sem, Nat.reduceBEq, Nat.reduceAdd, Nat.reduceLeDiff]
  refine (sToNumber b hsb _ _ rb).mono ?_
  rintro _ _ ⟨rfl, rfl⟩
  simp only [go_sem, Nat.reduceBEq]
  simp only [d0, d3, go_sem, Nat.reduceBEq]
  refine (l1In_c _ _ _ _).mono ?_
  rintro _ _ ⟨rfl, rfl⟩
  simp only [d01, go_sem, Nat.reduceBEq]
  refine regionD_intro (lb := [56, 58]) (by kernel_rfl) ?_
  simp only [go_sem, Nat.reduceBEq, Nat.reduceAdd, Nat.reduceLeDiff]
  refine (sBit a _ _ ra).mono ?_
  rintro _ _ ⟨rfl, rfl⟩
  simp only [go_sem, Nat.reduceBEq, Nat.reduceAdd, Nat.reduceLeDiff]
  refine (sBit b _ _ rb).mono ?_
  rintro _ _ ⟨rfl, rfl⟩
  simp only [go_sem, Nat.reduceBEq]
  refine (sOrder _ _ _).mono ?_
  rintro _ _ ⟨rfl, rfl⟩
  simp only [go_sem, Nat.reduceBEq]
  exact fin (by unfold cmp0; rw [if_neg (by omega)]; rw [if_neg (by omega)]; rw [if_pos (by omega)]) (Ext.refl _)
theorem sCompare_2 (a b : V) (hsa : a.str.size ≤ 1152921504606846976) (hsb : b.str.size ≤ 1152921504606846976) (hna : IntKind.i64.min ≤ a.num ∧ a.num ≤ IntKind.i64.max) (hnb : IntKind.i64.min ≤ b.num ∧ b.num ≤ IntKind.i64.max) (sa sb : Value) (h : Hp) (ra : RdE h a.items sa) (rb : RdE h b.items sb) (hT : Pow h) (ar : Int) (harr : ACalls Tryd.prog 99 #[.agg #[.int .i64 a.kind, .int .i64 a.num, .string a.str, .int .i64 a.next, sa], .agg #[.int .i64 b.kind, .int .i64 b.num, .string b.str, .int .i64 b.next, sb]] h (Is (.int .i64 ar) h)) (ha : a.kind = 2) :
    ACalls Tryd.prog 65 #[.agg #[.int .i64 a.kind, .int .i64 a.num, .string a.str, .int .i64 a.next, sa], .agg #[.int .i64 b.kind, .int .i64 b.num, .string b.str, .int .i64 b.next, sb]] h (Is (.int .i64 (cmp0 a b ar)) h) := by
  have d0 : decide (a.kind = 0) = false := decide_eq_false (by omega)
  have d1 : decide (a.kind = 1) = false := decide_eq_false (by omega)
  have d2 : decide (a.kind = 2) = true := decide_eq_true (by omega)
  have d3 : decide (a.kind = 3) = false := decide_eq_false (by omega)
  have d4 : decide (a.kind = 4) = false := decide_eq_false (by omega)
  have d01 : decide (0 ≤ a.kind ∧ a.kind ≤ 1) = false := decide_eq_false (by omega)
  have d23 : decide (2 ≤ a.kind ∧ a.kind ≤ 3) = true := decide_eq_true (by omega)
  have fin : ∀ {x : Int} {h' : Hp}, cmp0 a b ar = x → Ext h h' → Is (.int .i64 (cmp0 a b ar)) h (.int .i64 x) h' := fun e k => ⟨by rw [e], k⟩
  (refine enter Tryd.func65 rfl rfl (by kernel_rfl) [] ?_; simp only [go_sem, Nat.reduceBEq, Nat.reduceAdd, Nat.reduceLeDiff])
  refine (sToNumber a hsa _ _ ra).mono ?_
  rintro _ _ ⟨rfl, rfl⟩
  simp only [go_sem, Nat.reduceBEq, Nat.reduceAdd, Nat.reduceLeDiff]
  refine (sToNumber b hsb _ _ rb).mono ?_
  rintro _ _ ⟨rfl, rfl⟩
  simp only [go_sem, Nat.reduceBEq]
  simp only [d0, d3, go_sem, Nat.reduceBEq]
  refine (l1In_c _ _ _ _).mono ?_
  rintro _ _ ⟨rfl, rfl⟩
  simp only [d01, go_sem, Nat.reduceBEq]
  refine (l1In_c _ _ _ _).mono ?_
  rintro _ _ ⟨rfl, rfl⟩
  simp only [go_sem, Nat.reduceBEq]
  refine Br.intro (fun hb01r => ?_) (fun hb01r => ?_)
  · have hb01 := of_decide_eq_true hb01r
    simp only [hb01r, go_sem]
    refine regionD_intro (lb := [56, 58]) (by kernel_rfl) ?_
    simp only [go_sem, Nat.reduceBEq, Nat.reduceAdd, Nat.reduceLeDiff]
    refine (sBit a _ _ ra).mono ?_
    rintro _ _ ⟨rfl, rfl⟩
    simp only [go_sem, Nat.reduceBEq, Nat.reduceAdd, Nat.reduceLeDiff]
    refine (sBit b _ _ rb).mono ?_
    rintro _ _ ⟨rfl, rfl⟩
    simp only [go_sem, Nat.reduceBEq]
    refine (sOrder _ _ _).mono ?_
    rintro _ _ ⟨rfl, rfl⟩
    simp only [go_sem, Nat.reduceBEq]
    exact fin (by unfold cmp0; rw [if_neg (by omega)]; rw [if_neg (by omega)]; rw [if_pos (by omega)]) (Ext.refl _)
  · have hb01 := of_decide_eq_false hb01r
    simp only [hb01r, go_sem, Nat.reduceBEq]
    refine Br.intro (fun hxr => ?_) (fun hxr => ?_)
    · have hx := of_decide_eq_true hxr
      simp only [hxr, go_sem, Nat.reduceBEq]
      refine Br.intro (fun hyr => ?_) (fun hyr => ?_)
      · have hy := of_decide_eq_true hyr
        simp only [hyr, go_sem, Nat.reduceBEq]
        refine (sOrder _ _ _).mono ?_
        rintro _ _ ⟨rfl, rfl⟩
        simp only [go_sem, Nat.reduceBEq]
        exact fin (by unfold cmp0; rw [if_neg (by omega)]; rw [if_neg (by omega)]; rw [if_neg (by omega)]; rw [if_pos (by omega)]) (Ext.refl _)
      · have hy := of_decide_eq_false hyr
        simp only [hyr, go_sem, Nat.reduceBEq]
        refine (l1In_c _ _ _ _).mono ?_
        rintro _ _ ⟨rfl, rfl⟩
        simp only [d23, go_sem, Nat.reduceBEq]
        refine (l1In_c _ _ _ _).mono ?_
        rintro _ _ ⟨rfl, rfl⟩
        simp only [go_sem, Nat.reduceBEq]
        refine Br.intro (fun hb23r => ?_) (fun hb23r => ?_)
        · have hb23 := of_decide_eq_true hb23r
          simp only [hb23r, go_sem, Nat.reduceBEq, Nat.reduceAdd, Nat.reduceLeDiff]
          refine (sToText a hna _ _ ra hT).mono ?_
          rintro _ h1 ⟨rfl, e1⟩
          simp only [go_sem, Nat.reduceBEq, Nat.reduceAdd, Nat.reduceLeDiff]
          refine (sToText b hnb _ _ (rb.mono e1) (hT.ext e1)).mono ?_
          rintro _ h2 ⟨rfl, e2⟩
          simp only [go_sem, Nat.reduceBEq]
          refine (sBytes _ _ _).mono ?_
          rintro _ _ ⟨rfl, rfl⟩
          simp only [go_sem, Nat.reduceBEq]
          exact fin (by unfold cmp0; rw [if_neg (by omega)]; rw [if_neg (by omega)]; rw [if_neg (by omega)]; rw [if_neg (by omega)]; rw [if_pos (by omega)]) (e1.trans e2)
        · have hb23 := of_decide_eq_false hb23r
          simp only [d4, hb23r, go_sem, Nat.reduceBEq]
          refine Br.intro (fun hb4r => ?_) (fun hb4r => ?_)
          · have hb4 := of_decide_eq_true hb4r
            simp only [hb4r, go_sem, Nat.reduceBEq]
            exact fin (by unfold cmp0; rw [if_neg (by omega)]; rw [if_neg (by omega)]; rw [if_neg (by omega)]; rw [if_neg (by omega)]; rw [if_neg (by omega)]; rw [if_neg (by omega)]; rw [if_neg (by omega)]; rw [if_pos (by omega)]) (Ext.refl _)
          · have hb4 := of_decide_eq_false hb4r
            simp only [hb4r, go_sem, Nat.reduceBEq]
            refine Br.intro (fun hkr => ?_) (fun hkr => ?_)
            · have hk := of_decide_eq_true hkr
              simp only [hkr, go_sem, Nat.reduceBEq]
              refine Br.intro (fun hnr => ?_) (fun hnr => ?_)
              · have hn := of_decide_eq_true hnr
                simp only [hnr, go_sem, Nat.reduceBEq]
                exact fin (by unfold cmp0; rw [if_neg (by omega)]; rw [if_neg (by omega)]; rw [if_neg (by omega)]; rw [if_neg (by omega)]; rw [if_neg (by omega)]; rw [if_neg (by omega)]; rw [if_neg (by omega)]; rw [if_neg (by omega)]; rw [if_pos (by omega)]) (Ext.refl _)
              · have hn := of_decide_eq_false hnr
                simp only [hnr, go_sem, Nat.reduceBEq]
                exact fin (by unfold cmp0; rw [if_neg (by omega)]; rw [if_neg (by omega)]; rw [if_neg (by omega)]; rw [if_neg (by omega)]; rw [if_neg (by omega)]; rw [if_neg (by omega)]; rw [if_neg (by omega)]; rw [if_neg (by omega)]; rw [if_neg (by omega)]) (Ext.refl _)
            · have hk := of_decide_eq_false hkr
              simp only [hkr, go_sem, Nat.reduceBEq]
              exact fin (by unfold cmp0; rw [if_neg (by omega)]; rw [if_neg (by omega)]; rw [if_neg (by omega)]; rw [if_neg (by omega)]; rw [if_neg (by omega)]; rw [if_neg (by omega)]; rw [if_neg (by omega)]; rw [if_neg (by omega)]; rw [if_neg (by omega)]) (Ext.refl _)
    · have hx := of_decide_eq_false hxr
      simp only [hxr, go_sem, Nat.reduceBEq]
      refine (l1In_c _ _ _ _).mono ?_
      rintro _ _ ⟨rfl, rfl⟩
      simp only [d23, go_sem, Nat.reduceBEq]
      refine (l1In_c _ _ _ _).mono ?_
      rintro _ _ ⟨rfl, rfl⟩
      simp only [go_sem, Nat.reduceBEq]
      refine Br.intro (fun hb23r => ?_) (fun hb23r => ?_)
      · have hb23 := of_decide_eq_true hb23r
        simp only [hb23r, go_sem, Nat.reduceBEq, Nat.reduceAdd, Nat.reduceLeDiff]
        refine (sToText a hna _ _ ra hT).mono ?_
        rintro _ h1 ⟨rfl, e1⟩
        simp only [go_sem, Nat.reduceBEq, Nat.reduceAdd, Nat.reduceLeDiff]
        refine (sToText b hnb _ _ (rb.mono e1) (hT.ext e1)).mono ?_
        rintro _ h2 ⟨rfl, e2⟩
        simp only [go_sem, Nat.reduceBEq]
        refine (sBytes _ _ _).mono ?_
        rintro _ _ ⟨rfl, rfl⟩
        simp only [go_sem, Nat.reduceBEq]
        exact fin (by unfold cmp0; rw [if_neg (by omega)]; rw [if_neg (by omega)]; rw [if_neg (by omega)]; rw [if_neg (by omega)]; rw [if_pos (by omega)]) (e1.trans e2)
      · have hb23 := of_decide_eq_false hb23r
        simp only [d4, hb23r, go_sem, Nat.reduceBEq]
        refine Br.intro (fun hb4r => ?_) (fun hb4r => ?_)
        · have hb4 := of_decide_eq_true hb4r
          simp only [hb4r, go_sem, Nat.reduceBEq]
          exact fin (by unfold cmp0; rw [if_neg (by omega)]; rw [if_neg (by omega)]; rw [if_neg (by omega)]; rw [if_neg (by omega)]; rw [if_neg (by omega)]; rw [if_neg (by omega)]; rw [if_neg (by omega)]; rw [if_pos (by omega)]) (Ext.refl _)
        · have hb4 := of_decide_eq_false hb4r
          simp only [hb4r, go_sem, Nat.reduceBEq]
          refine Br.intro (fun hkr => ?_) (fun hkr => ?_)
          · have hk := of_decide_eq_true hkr
            simp only [hkr, go_sem, Nat.reduceBEq]
            refine Br.intro (fun hnr => ?_) (fun hnr => ?_)
            · have hn := of_decide_eq_true hnr
              simp only [hnr, go_sem, Nat.reduceBEq]
              exact fin (by unfold cmp0; rw [if_neg (by omega)]; rw [if_neg (by omega)]; rw [if_neg (by omega)]; rw [if_neg (by omega)]; rw [if_neg (by omega)]; rw [if_neg (by omega)]; rw [if_neg (by omega)]; rw [if_neg (by omega)]; rw [if_pos (by omega)]) (Ext.refl _)
            · have hn := of_decide_eq_false hnr
              simp only [hnr, go_sem, Nat.reduceBEq]
              exact fin (by unfold cmp0; rw [if_neg (by omega)]; rw [if_neg (by omega)]; rw [if_neg (by omega)]; rw [if_neg (by omega)]; rw [if_neg (by omega)]; rw [if_neg (by omega)]; rw [if_neg (by omega)]; rw [if_neg (by omega)]; rw [if_neg (by omega)]) (Ext.refl _)
          · have hk := of_decide_eq_false hkr
            simp only [hkr, go_sem, Nat.reduceBEq]
            exact fin (by unfold cmp0; rw [if_neg (by omega)]; rw [if_neg (by omega)]; rw [if_neg (by omega)]; rw [if_neg (by omega)]; rw [if_neg (by omega)]; rw [if_neg (by omega)]; rw [if_neg (by omega)]; rw [if_neg (by omega)]; rw [if_neg (by omega)]) (Ext.refl _)
theorem sCompare_3 (a b : V) (hsa : a.str.size ≤ 1152921504606846976) (hsb : b.str.size ≤ 1152921504606846976) (hna : IntKind.i64.min ≤ a.num ∧ a.num ≤ IntKind.i64.max) (hnb : IntKind.i64.min ≤ b.num ∧ b.num ≤ IntKind.i64.max) (sa sb : Value) (h : Hp) (ra : RdE h a.items sa) (rb : RdE h b.items sb) (hT : Pow h) (ar : Int) (harr : ACalls Tryd.prog 99 #[.agg #[.int .i64 a.kind, .int .i64 a.num, .string a.str, .int .i64 a.next, sa], .agg #[.int .i64 b.kind, .int .i64 b.num, .string b.str, .int .i64 b.next, sb]] h (Is (.int .i64 ar) h)) (ha : a.kind = 3) :
    ACalls Tryd.prog 65 #[.agg #[.int .i64 a.kind, .int .i64 a.num, .string a.str, .int .i64 a.next, sa], .agg #[.int .i64 b.kind, .int .i64 b.num, .string b.str, .int .i64 b.next, sb]] h (Is (.int .i64 (cmp0 a b ar)) h) := by
  have d0 : decide (a.kind = 0) = false := decide_eq_false (by omega)
  have d1 : decide (a.kind = 1) = false := decide_eq_false (by omega)
  have d2 : decide (a.kind = 2) = false := decide_eq_false (by omega)
  have d3 : decide (a.kind = 3) = true := decide_eq_true (by omega)
  have d4 : decide (a.kind = 4) = false := decide_eq_false (by omega)
  have d01 : decide (0 ≤ a.kind ∧ a.kind ≤ 1) = false := decide_eq_false (by omega)
  have d23 : decide (2 ≤ a.kind ∧ a.kind ≤ 3) = true := decide_eq_true (by omega)
  have fin : ∀ {x : Int} {h' : Hp}, cmp0 a b ar = x → Ext h h' → Is (.int .i64 (cmp0 a b ar)) h (.int .i64 x) h' := fun e k => ⟨by rw [e], k⟩
  (refine enter Tryd.func65 rfl rfl (by kernel_rfl) [] ?_; simp only [go_sem, Nat.reduceBEq, Nat.reduceAdd, Nat.reduceLeDiff])
  refine (sToNumber a hsa _ _ ra).mono ?_
  rintro _ _ ⟨rfl, rfl⟩
  simp only [go_sem, Nat.reduceBEq, Nat.reduceAdd, Nat.reduceLeDiff]
  refine (sToNumber b hsb _ _ rb).mono ?_
  rintro _ _ ⟨rfl, rfl⟩
  simp only [go_sem, Nat.reduceBEq]
  simp only [d0, d3, go_sem, Nat.reduceBEq]
  refine Br.intro (fun hb0r => ?_) (fun hb0r => ?_)
  · have hb0 := of_decide_eq_true hb0r
    simp only [hb0r, go_sem, Nat.reduceBEq]
    refine (sBytes _ _ _).mono ?_
    rintro _ _ ⟨rfl, rfl⟩
    simp only [go_sem, Nat.reduceBEq]
    exact fin (by unfold cmp0; rw [if_neg (by omega)]; rw [if_pos (by omega)]) (Ext.refl _)
  · have hb0 := of_decide_eq_false hb0r
    simp only [hb0r, go_sem, Nat.reduceBEq]
    refine (l1In_c _ _ _ _).mono ?_
    rintro _ _ ⟨rfl, rfl⟩
    simp only [d01, go_sem, Nat.reduceBEq]
    refine (l1In_c _ _ _ _).mono ?_
    rintro _ _ ⟨rfl, rfl⟩
    simp only [go_sem, Nat.reduceBEq]
    refine Br.intro (fun hb01r => ?_) (fun hb01r => ?_)
    · have hb01 := of_decide_eq_true hb01r
      simp only [hb01r, go_sem]
      refine regionD_intro (lb := [56, 58]) (by kernel_rfl) ?_
      simp only [go_sem, Nat.reduceBEq, Nat.reduceAdd, Nat.reduceLeDiff]
      refine (sBit a _ _ ra).mono ?_
      rintro _ _ ⟨rfl, rfl⟩
      simp only [go_sem, Nat.reduceBEq, Nat.reduceAdd, Nat.reduceLeDiff]
      refine (sBit b _ _ rb).mono ?_
      rintro _ _ ⟨rfl, rfl⟩
      simp only [go_sem, Nat.reduceBEq]
      refine (sOrder _ _ _).mono ?_
      rintro _ _ ⟨rfl, rfl⟩
      simp only [go_sem, Nat.reduceBEq]
      exact fin (by unfold cmp0; rw [if_neg (by omega)]; rw [if_neg (by omega)]; rw [if_pos (by omega)]) (Ext.refl _)
    · have hb01 := of_decide_eq_false hb01r
      simp only [hb01r, go_sem, Nat.reduceBEq]
      refine Br.intro (fun hxr => ?_) (fun hxr => ?_)
      · have hx := of_decide_eq_true hxr
        simp only [hxr, go_sem, Nat.reduceBEq]
        refine Br.intro (fun hyr => ?_) (fun hyr => ?_)
        · have hy := of_decide_eq_true hyr
          simp only [hyr, go_sem, Nat.reduceBEq]
          refine (sOrder _ _ _).mono ?_
          rintro _ _ ⟨rfl, rfl⟩
          simp only [go_sem, Nat.reduceBEq]
          exact fin (by unfold cmp0; rw [if_neg (by omega)]; rw [if_neg (by omega)]; rw [if_neg (by omega)]; rw [if_pos (by omega)]) (Ext.refl _)
        · have hy := of_decide_eq_false hyr
          simp only [hyr, go_sem, Nat.reduceBEq]
          refine (l1In_c _ _ _ _).mono ?_
          rintro _ _ ⟨rfl, rfl⟩
          simp only [d23, go_sem, Nat.reduceBEq]
          refine (l1In_c _ _ _ _).mono ?_
          rintro _ _ ⟨rfl, rfl⟩
          simp only [go_sem, Nat.reduceBEq]
          refine Br.intro (fun hb23r => ?_) (fun hb23r => ?_)
          · have hb23 := of_decide_eq_true hb23r
            simp only [hb23r, go_sem, Nat.reduceBEq, Nat.reduceAdd, Nat.reduceLeDiff]
            refine (sToText a hna _ _ ra hT).mono ?_
            rintro _ h1 ⟨rfl, e1⟩
            simp only [go_sem, Nat.reduceBEq, Nat.reduceAdd, Nat.reduceLeDiff]
            refine (sToText b hnb _ _ (rb.mono e1) (hT.ext e1)).mono ?_
            rintro _ h2 ⟨rfl, e2⟩
            simp only [go_sem, Nat.reduceBEq]
            refine (sBytes _ _ _).mono ?_
            rintro _ _ ⟨rfl, rfl⟩
            simp only [go_sem, Nat.reduceBEq]
            exact fin (by unfold cmp0; rw [if_neg (by omega)]; rw [if_neg (by omega)]; rw [if_neg (by omega)]; rw [if_neg (by omega)]; rw [if_pos (by omega)]) (e1.trans e2)
          · have hb23 := of_decide_eq_false hb23r
            simp only [d4, hb23r, go_sem, Nat.reduceBEq]
            refine Br.intro (fun hb4r => ?_) (fun hb4r => ?_)
            · have hb4 := of_decide_eq_true hb4r
              simp only [hb4r, go_sem, Nat.reduceBEq]
              exact fin (by unfold cmp0; rw [if_neg (by omega)]; rw [if_neg (by omega)]; rw [if_neg (by omega)]; rw [if_neg (by omega)]; rw [if_neg (by omega)]; rw [if_neg (by omega)]; rw [if_neg (by omega)]; rw [if_pos (by omega)]) (Ext.refl _)
            · have hb4 := of_decide_eq_false hb4r
              simp only [hb4r, go_sem, Nat.reduceBEq]
              refine Br.intro (fun hkr => ?_) (fun hkr => ?_)
              · have hk := of_decide_eq_true hkr
                simp only [hkr, go_sem, Nat.reduceBEq]
                refine Br.intro (fun hnr => ?_) (fun hnr => ?_)
                · have hn := of_decide_eq_true hnr
                  simp only [hnr, go_sem, Nat.reduceBEq]
                  exact fin (by unfold cmp0; rw [if_neg (by omega)]; rw [if_neg (by omega)]; rw [if_neg (by omega)]; rw [if_neg (by omega)]; rw [if_neg (by omega)]; rw [if_neg (by omega)]; rw [if_neg (by omega)]; rw [if_neg (by omega)]; rw [if_pos (by omega)]) (Ext.refl _)
                · have hn := of_decide_eq_false hnr
                  simp only [hnr, go_sem, Nat.reduceBEq]
                  exact fin (by unfold cmp0; rw [if_neg (by omega)]; rw [if_neg (by omega)]; rw [if_neg (by omega)]; rw [if_neg (by omega)]; rw [if_neg (by omega)]; rw [if_neg (by omega)]; rw [if_neg (by omega)]; rw [if_neg (by omega)]; rw [if_neg (by omega)]) (Ext.refl _)
              · have hk := of_decide_eq_false hkr
                simp only [hkr, go_sem, Nat.reduceBEq]
                exact fin (by unfold cmp0; rw [if_neg (by omega)]; rw [if_neg (by omega)]; rw [if_neg (by omega)]; rw [if_neg (by omega)]; rw [if_neg (by omega)]; rw [if_neg (by omega)]; rw [if_neg (by omega)]; rw [if_neg (by omega)]; rw [if_neg (by omega)]) (Ext.refl _)
      · have hx := of_decide_eq_false hxr
        simp only [hxr, go_sem, Nat.reduceBEq]
        refine (l1In_c _ _ _ _).mono ?_
        rintro _ _ ⟨rfl, rfl⟩
        simp only [d23, go_sem, Nat.reduceBEq]
        refine (l1In_c _ _ _ _).mono ?_
        rintro _ _ ⟨rfl, rfl⟩
        simp only [go_sem, Nat.reduceBEq]
        refine Br.intro (fun hb23r => ?_) (fun hb23r => ?_)
        · have hb23 := of_decide_eq_true hb23r
          simp only [hb23r, go_sem, Nat.reduceBEq, Nat.reduceAdd, Nat.reduceLeDiff]
          refine (sToText a hna _ _ ra hT).mono ?_
          rintro _ h1 ⟨rfl, e1⟩
          simp only [go_sem, Nat.reduceBEq, Nat.reduceAdd, Nat.reduceLeDiff]
          refine (sToText b hnb _ _ (rb.mono e1) (hT.ext e1)).mono ?_
          rintro _ h2 ⟨rfl, e2⟩
          simp only [go_sem, Nat.reduceBEq]
          refine (sBytes _ _ _).mono ?_
          rintro _ _ ⟨rfl, rfl⟩
          simp only [go_sem, Nat.reduceBEq]
          exact fin (by unfold cmp0; rw [if_neg (by omega)]; rw [if_neg (by omega)]; rw [if_neg (by omega)]; rw [if_neg (by omega)]; rw [if_pos (by omega)]) (e1.trans e2)
        · have hb23 := of_decide_eq_false hb23r
          simp only [d4, hb23r, go_sem, Nat.reduceBEq]
          refine Br.intro (fun hb4r => ?_) (fun hb4r => ?_)
          · have hb4 := of_decide_eq_true hb4r
            simp only [hb4r, go_sem, Nat.reduceBEq]
            exact fin (by unfold cmp0; rw [if_neg (by omega)]; rw [if_neg (by omega)]; rw [if_neg (by omega)]; rw [if_neg (by omega)]; rw [if_neg (by omega)]; rw [if_neg (by omega)]; rw [if_neg (by omega)]; rw [if_pos (by omega)]) (Ext.refl _)
          · have hb4 := of_decide_eq_false hb4r
            simp only [hb4r, go_sem, Nat.reduceBEq]
            refine Br.intro (fun hkr => ?_) (fun hkr => ?_)
            · have hk := of_decide_eq_true hkr
              simp only [hkr, go_sem, Nat.reduceBEq]
              refine Br.intro (fun hnr => ?_) (fun hnr => ?_)
              · have hn := of_decide_eq_true hnr
                simp only [hnr, go_sem, Nat.reduceBEq]
                exact fin (by unfold cmp0; rw [if_neg (by omega)]; rw [if_neg (by omega)]; rw [if_neg (by omega)]; rw [if_neg (by omega)]; rw [if_neg (by omega)]; rw [if_neg (by omega)]; rw [if_neg (by omega)]; rw [if_neg (by omega)]; rw [if_pos (by omega)]) (Ext.refl _)
              · have hn := of_decide_eq_false hnr
                simp only [hnr, go_sem, Nat.reduceBEq]
                exact fin (by unfold cmp0; rw [if_neg (by omega)]; rw [if_neg (by omega)]; rw [if_neg (by omega)]; rw [if_neg (by omega)]; rw [if_neg (by omega)]; rw [if_neg (by omega)]; rw [if_neg (by omega)]; rw [if_neg (by omega)]; rw [if_neg (by omega)]) (Ext.refl _)
            · have hk := of_decide_eq_false hkr
              simp only [hkr, go_sem, Nat.reduceBEq]
              exact fin (by unfold cmp0; rw [if_neg (by omega)]; rw [if_neg (by omega)]; rw [if_neg (by omega)]; rw [if_neg (by omega)]; rw [if_neg (by omega)]; rw [if_neg (by omega)]; rw [if_neg (by omega)]; rw [if_neg (by omega)]; rw [if_neg (by omega)]) (Ext.refl _)
theorem sCompare_4 (a b : V) (hsa : a.str.size ≤ 1152921504606846976) (hsb : b.str.size ≤ 1152921504606846976) (hna : IntKind.i64.min ≤ a.num ∧ a.num ≤ IntKind.i64.max) (hnb : IntKind.i64.min ≤ b.num ∧ b.num ≤ IntKind.i64.max) (sa sb : Value) (h : Hp) (ra : RdE h a.items sa) (rb : RdE h b.items sb) (hT : Pow h) (ar : Int) (harr : ACalls Tryd.prog 99 #[.agg #[.int .i64 a.kind, .int .i64 a.num, .string a.str, .int .i64 a.next, sa], .agg #[.int .i64 b.kind, .int .i64 b.num, .string b.str, .int .i64 b.next, sb]] h (Is (.int .i64 ar) h)) (ha : a.kind = 4) :
    ACalls Tryd.prog 65 #[.agg #[.int .i64 a.kind, .int .i64 a.num, .string a.str, .int .i64 a.next, sa], .agg #[.int .i64 b.kind, .int .i64 b.num, .string b.str, .int .i64 b.next, sb]] h (Is (.int .i64 (cmp0 a b ar)) h) := by
  have d0 : decide (a.kind = 0) = false := decide_eq_false (by omega)
  have d1 : decide (a.kind = 1) = false := decide_eq_false (by omega)
  have d2 : decide (a.kind = 2) = false := decide_eq_false (by omega)
  have d3 : decide (a.kind = 3) = false := decide_eq_false (by omega)
  have d4 : decide (a.kind = 4) = true := decide_eq_true (by omega)
  have d01 : decide (0 ≤ a.kind ∧ a.kind ≤ 1) = false := decide_eq_false (by omega)
  have d23 : decide (2 ≤ a.kind ∧ a.kind ≤ 3) = false := decide_eq_false (by omega)
  have fin : ∀ {x : Int} {h' : Hp}, cmp0 a b ar = x → Ext h h' → Is (.int .i64 (cmp0 a b ar)) h (.int .i64 x) h' := fun e k => ⟨by rw [e], k⟩
  (refine enter Tryd.func65 rfl rfl (by kernel_rfl) [] ?_; simp only [go_sem, Nat.reduceBEq, Nat.reduceAdd, Nat.reduceLeDiff])
  refine (sToNumber a hsa _ _ ra).mono ?_
  rintro _ _ ⟨rfl, rfl⟩
  simp only [go_sem, Nat.reduceBEq, Nat.reduceAdd, Nat.reduceLeDiff]
  refine (sToNumber b hsb _ _ rb).mono ?_
  rintro _ _ ⟨rfl, rfl⟩
  simp only [go_sem, Nat.reduceBEq]
  simp only [d0, d3, go_sem, Nat.reduceBEq]
  refine (l1In_c _ _ _ _).mono ?_
  rintro _ _ ⟨rfl, rfl⟩
  simp only [d01, go_sem, Nat.reduceBEq]
  refine (l1In_c _ _ _ _).mono ?_
  rintro _ _ ⟨rfl, rfl⟩
  simp only [go_sem, Nat.reduceBEq]
  refine Br.intro (fun hb01r => ?_) (fun hb01r => ?_)
  · have hb01 := of_decide_eq_true hb01r
    simp only [hb01r, go_sem]
    refine regionD_intro (lb := [56, 58]) (by kernel_rfl) ?_
    simp only [go_sem, Nat.reduceBEq, Nat.reduceAdd, Nat.reduceLeDiff]
    refine (sBit a _ _ ra).mono ?_
    rintro _ _ ⟨rfl, rfl⟩
    simp only [go_sem, Nat.reduceBEq, Nat.reduceAdd, Nat.reduceLeDiff]
    refine (sBit b _ _ rb).mono ?_
    rintro _ _ ⟨rfl, rfl⟩
    simp only [go_sem, Nat.reduceBEq]
    refine (sOrder _ _ _).mono ?_
    rintro _ _ ⟨rfl, rfl⟩
    simp only [go_sem, Nat.reduceBEq]
    exact fin (by unfold cmp0; rw [if_neg (by omega)]; rw [if_neg (by omega)]; rw [if_pos (by omega)]) (Ext.refl _)
  · have hb01 := of_decide_eq_false hb01r
    simp only [hb01r, go_sem, Nat.reduceBEq]
    refine Br.intro (fun hxr => ?_) (fun hxr => ?_)
    · have hx := of_decide_eq_true hxr
      simp only [hxr, go_sem, Nat.reduceBEq]
      refine Br.intro (fun hyr => ?_) (fun hyr => ?_)
      · have hy := of_decide_eq_true hyr
        simp only [hyr, go_sem, Nat.reduceBEq]
        refine (sOrder _ _ _).mono ?_
        rintro _ _ ⟨rfl, rfl⟩
        simp only [go_sem, Nat.reduceBEq]
        exact fin (by unfold cmp0; rw [if_neg (by omega)]; rw [if_neg (by omega)]; rw [if_neg (by omega)]; rw [if_pos (by omega)]) (Ext.refl _)
      · have hy := of_decide_eq_false hyr
        simp only [hyr, go_sem, Nat.reduceBEq]
        refine (l1In_c _ _ _ _).mono ?_
        rintro _ _ ⟨rfl, rfl⟩
        simp only [d4, d23, go_sem, Nat.reduceBEq]
        refine Br.intro (fun hb4r => ?_) (fun hb4r => ?_)
        · have hb4 := of_decide_eq_true hb4r
          simp only [hb4r, go_sem, Nat.reduceBEq, Nat.reduceAdd, Nat.reduceLeDiff]
          refine harr.mono ?_
          rintro _ h1 ⟨rfl, e1⟩
          simp only [go_sem, Nat.reduceBEq]
          exact fin (by unfold cmp0; rw [if_neg (by omega)]; rw [if_neg (by omega)]; rw [if_neg (by omega)]; rw [if_neg (by omega)]; rw [if_neg (by omega)]; rw [if_pos (by omega)]) e1
        · have hb4 := of_decide_eq_false hb4r
          simp only [d4, hb4r, go_sem, Nat.reduceBEq]
          exact fin (by unfold cmp0; rw [if_neg (by omega)]; rw [if_neg (by omega)]; rw [if_neg (by omega)]; rw [if_neg (by omega)]; rw [if_neg (by omega)]; rw [if_neg (by omega)]; rw [if_pos (by omega)]) (Ext.refl _)
    · have hx := of_decide_eq_false hxr
      simp only [hxr, go_sem, Nat.reduceBEq]
      refine (l1In_c _ _ _ _).mono ?_
      rintro _ _ ⟨rfl, rfl⟩
      simp only [d4, d23, go_sem, Nat.reduceBEq]
      refine Br.intro (fun hb4r => ?_) (fun hb4r => ?_)
      · have hb4 := of_decide_eq_true hb4r
        simp only [hb4r, go_sem, Nat.reduceBEq, Nat.reduceAdd, Nat.reduceLeDiff]
        refine harr.mono ?_
        rintro _ h1 ⟨rfl, e1⟩
        simp only [go_sem, Nat.reduceBEq]
        exact fin (by unfold cmp0; rw [if_neg (by omega)]; rw [if_neg (by omega)]; rw [if_neg (by omega)]; rw [if_neg (by omega)]; rw [if_neg (by omega)]; rw [if_pos (by omega)]) e1
      · have hb4 := of_decide_eq_false hb4r
        simp only [d4, hb4r, go_sem, Nat.reduceBEq]
        exact fin (by unfold cmp0; rw [if_neg (by omega)]; rw [if_neg (by omega)]; rw [if_neg (by omega)]; rw [if_neg (by omega)]; rw [if_neg (by omega)]; rw [if_neg (by omega)]; rw [if_pos (by omega)]) (Ext.refl _)
theorem sCompare_o (a b : V) (hsa : a.str.size ≤ 1152921504606846976) (hsb : b.str.size ≤ 1152921504606846976) (hna : IntKind.i64.min ≤ a.num ∧ a.num ≤ IntKind.i64.max) (hnb : IntKind.i64.min ≤ b.num ∧ b.num ≤ IntKind.i64.max) (sa sb : Value) (h : Hp) (ra : RdE h a.items sa) (rb : RdE h b.items sb) (hT : Pow h) (ar : Int) (harr : ACalls Tryd.prog 99 #[.agg #[.int .i64 a.kind, .int .i64 a.num, .string a.str, .int .i64 a.next, sa], .agg #[.int .i64 b.kind, .int .i64 b.num, .string b.str, .int .i64 b.next, sb]] h (Is (.int .i64 ar) h)) (ha : ¬ a.kind = 0 ∧ ¬ a.kind = 1 ∧ ¬ a.kind = 2 ∧ ¬ a.kind = 3 ∧ ¬ a.kind = 4) :
    ACalls Tryd.prog 65 #[.agg #[.int .i64 a.kind, .int .i64 a.num, .string a.str, .int .i64 a.next, sa], .agg #[.int .i64 b.kind, .int .i64 b.num, .string b.str, .int .i64 b.next, sb]] h (Is (.int .i64 (cmp0 a b ar)) h) := by
  have d0 : decide (a.kind = 0) = false := decide_eq_false (by omega)
  have d1 : decide (a.kind = 1) = false := decide_eq_false (by omega)
  have d2 : decide (a.kind = 2) = false := decide_eq_false (by omega)
  have d3 : decide (a.kind = 3) = false := decide_eq_false (by omega)
  have d4 : decide (a.kind = 4) = false := decide_eq_false (by omega)
  have d01 : decide (0 ≤ a.kind ∧ a.kind ≤ 1) = false := decide_eq_false (by omega)
  have d23 : decide (2 ≤ a.kind ∧ a.kind ≤ 3) = false := decide_eq_false (by omega)
  have fin : ∀ {x : Int} {h' : Hp}, cmp0 a b ar = x → Ext h h' → Is (.int .i64 (cmp0 a b ar)) h (.int .i64 x) h' := fun e k => ⟨by rw [e], k⟩
  (refine enter Tryd.func65 rfl rfl (by kernel_rfl) [] ?_; simp only [go_sem, Nat.reduceBEq, Nat.reduceAdd, Nat.reduceLeDiff])
  refine (sToNumber a hsa _ _ ra).mono ?_
  rintro _ _ ⟨rfl, rfl⟩
  simp only [go_sem, Nat.reduceBEq, Nat.reduceAdd, Nat.reduceLeDiff]
  refine (sToNumber b hsb _ _ rb).mono ?_
  rintro _ _ ⟨rfl, rfl⟩
  simp only [go_sem, Nat.reduceBEq]
  simp only [d0, d3, go_sem, Nat.reduceBEq]
  refine (l1In_c _ _ _ _).mono ?_
  rintro _ _ ⟨rfl, rfl⟩
  simp only [d01, go_sem, Nat.reduceBEq]
  refine (l1In_c _ _ _ _).mono ?_
  rintro _ _ ⟨rfl, rfl⟩
  simp only [go_sem, Nat.reduceBEq]
  refine Br.intro (fun hb01r => ?_) (fun hb01r => ?_)
  · have hb01 := of_decide_eq_true hb01r
    simp only [hb01r, go_sem]
    refine regionD_intro (lb := [56, 58]) (by kernel_rfl) ?_
    simp only [go_sem, Nat.reduceBEq, Nat.reduceAdd, Nat.reduceLeDiff]
    refine (sBit a _ _ ra).mono ?_
    rintro _ _ ⟨rfl, rfl⟩
    simp only [go_sem, Nat.reduceBEq, Nat.reduceAdd, Nat.reduceLeDiff]
    refine (sBit b _ _ rb).mono ?_
    rintro _ _ ⟨rfl, rfl⟩
    simp only [go_sem, Nat.reduceBEq]
    refine (sOrder _ _ _).mono ?_
    rintro _ _ ⟨rfl, rfl⟩
    simp only [go_sem, Nat.reduceBEq]
    exact fin (by unfold cmp0; rw [if_neg (by omega)]; rw [if_neg (by omega)]; rw [if_pos (by omega)]) (Ext.refl _)
  · have hb01 := of_decide_eq_false hb01r
    simp only [hb01r, go_sem, Nat.reduceBEq]
    refine Br.intro (fun hxr => ?_) (fun hxr => ?_)
    · have hx := of_decide_eq_true hxr
      simp only [hxr, go_sem, Nat.reduceBEq]
      refine Br.intro (fun hyr => ?_) (fun hyr => ?_)
      · have hy := of_decide_eq_true hyr
        simp only [hyr, go_sem, Nat.reduceBEq]
        refine (sOrder _ _ _).mono ?_
        rintro _ _ ⟨rfl, rfl⟩
        simp only [go_sem, Nat.reduceBEq]
        exact fin (by unfold cmp0; rw [if_neg (by omega)]; rw [if_neg (by omega)]; rw [if_neg (by omega)]; rw [if_pos (by omega)]) (Ext.refl _)
      · have hy := of_decide_eq_false hyr
        simp only [hyr, go_sem, Nat.reduceBEq]
        refine (l1In_c _ _ _ _).mono ?_
        rintro _ _ ⟨rfl, rfl⟩
        simp only [d4, d23, go_sem, Nat.reduceBEq]
        refine Br.intro (fun hb4r => ?_) (fun hb4r => ?_)
        · have hb4 := of_decide_eq_true hb4r
          simp only [hb4r, go_sem, Nat.reduceBEq]
          exact fin (by unfold cmp0; rw [if_neg (by omega)]; rw [if_neg (by omega)]; rw [if_neg (by omega)]; rw [if_neg (by omega)]; rw [if_neg (by omega)]; rw [if_neg (by omega)]; rw [if_neg (by omega)]; rw [if_pos (by omega)]) (Ext.refl _)
        · have hb4 := of_decide_eq_false hb4r
          simp only [hb4r, go_sem, Nat.reduceBEq]
          refine Br.intro (fun hkr => ?_) (fun hkr => ?_)
          · have hk := of_decide_eq_true hkr
            simp only [hkr, go_sem, Nat.reduceBEq]
            refine Br.intro (fun hnr => ?_) (fun hnr => ?_)
            · have hn := of_decide_eq_true hnr
              simp only [hnr, go_sem, Nat.reduceBEq]
              exact fin (by unfold cmp0; rw [if_neg (by omega)]; rw [if_neg (by omega)]; rw [if_neg (by omega)]; rw [if_neg (by omega)]; rw [if_neg (by omega)]; rw [if_neg (by omega)]; rw [if_neg (by omega)]; rw [if_neg (by omega)]; rw [if_pos (by omega)]) (Ext.refl _)
            · have hn := of_decide_eq_false hnr
              simp only [hnr, go_sem, Nat.reduceBEq]
              exact fin (by unfold cmp0; rw [if_neg (by omega)]; rw [if_neg (by omega)]; rw [if_neg (by omega)]; rw [if_neg (by omega)]; rw [if_neg (by omega)]; rw [if_neg (by omega)]; rw [if_neg (by omega)]; rw [if_neg (by omega)]; rw [if_neg (by omega)]) (Ext.refl _)
          · have hk := of_decide_eq_false hkr
            simp only [hkr, go_sem, Nat.reduceBEq]
            exact fin (by unfold cmp0; rw [if_neg (by omega)]; rw [if_neg (by omega)]; rw [if_neg (by omega)]; rw [if_neg (by omega)]; rw [if_neg (by omega)]; rw [if_neg (by omega)]; rw [if_neg (by omega)]; rw [if_neg (by omega)]; rw [if_neg (by omega)]) (Ext.refl _)
    · have hx := of_decide_eq_false hxr
      simp only [hxr, go_sem, Nat.reduceBEq]
      refine (l1In_c _ _ _ _).mono ?_
      rintro _ _ ⟨rfl, rfl⟩
      simp only [d4, d23, go_sem, Nat.reduceBEq]
      refine Br.intro (fun hb4r => ?_) (fun hb4r => ?_)
      · have hb4 := of_decide_eq_true hb4r
        simp only [hb4r, go_sem, Nat.reduceBEq]
        exact fin (by unfold cmp0; rw [if_neg (by omega)]; rw [if_neg (by omega)]; rw [if_neg (by omega)]; rw [if_neg (by omega)]; rw [if_neg (by omega)]; rw [if_neg (by omega)]; rw [if_neg (by omega)]; rw [if_pos (by omega)]) (Ext.refl _)
      · have hb4 := of_decide_eq_false hb4r
        simp only [hb4r, go_sem, Nat.reduceBEq]
        refine Br.intro (fun hkr => ?_) (fun hkr => ?_)
        · have hk := of_decide_eq_true hkr
          simp only [hkr, go_sem, Nat.reduceBEq]
          refine Br.intro (fun hnr => ?_) (fun hnr => ?_)
          · have hn := of_decide_eq_true hnr
            simp only [hnr, go_sem, Nat.reduceBEq]
            exact fin (by unfold cmp0; rw [if_neg (by omega)]; rw [if_neg (by omega)]; rw [if_neg (by omega)]; rw [if_neg (by omega)]; rw [if_neg (by omega)]; rw [if_neg (by omega)]; rw [if_neg (by omega)]; rw [if_neg (by omega)]; rw [if_pos (by omega)]) (Ext.refl _)
          · have hn := of_decide_eq_false hnr
            simp only [hnr, go_sem, Nat.reduceBEq]
            exact fin (by unfold cmp0; rw [if_neg (by omega)]; rw [if_neg (by omega)]; rw [if_neg (by omega)]; rw [if_neg (by omega)]; rw [if_neg (by omega)]; rw [if_neg (by omega)]; rw [if_neg (by omega)]; rw [if_neg (by omega)]; rw [if_neg (by omega)]) (Ext.refl _)
        · have hk := of_decide_eq_false hkr
          simp only [hkr, go_sem, Nat.reduceBEq]
          exact fin (by unfold cmp0; rw [if_neg (by omega)]; rw [if_neg (by omega)]; rw [if_neg (by omega)]; rw [if_neg (by omega)]; rw [if_neg (by omega)]; rw [if_neg (by omega)]; rw [if_neg (by omega)]; rw [if_neg (by omega)]; rw [if_neg (by omega)]) (Ext.refl _)
theorem sCompare : ∀ a, CmpS a := V.ind fun a ih b oka okb hba hbb sa sb h ra rb hT => by
  have hsa : a.str.size ≤ 1152921504606846976 := by have := V.bulk_eq a; omega
  have hsb : b.str.size ≤ 1152921504606846976 := by have := V.bulk_eq b; omega
  have harr := sArrays a ih b oka okb hba hbb sa sb h ra rb hT
  rw [V.cmp_eq]
  rcases k6 a.kind with ha | ha | ha | ha | ha | ha
  · exact sCompare_0 a b hsa hsb (V.ok_num oka) (V.ok_num okb) sa sb h ra rb hT _ harr ha
  · exact sCompare_1 a b hsa hsb (V.ok_num oka) (V.ok_num okb) sa sb h ra rb hT _ harr ha
  · exact sCompare_2 a b hsa hsb (V.ok_num oka) (V.ok_num okb) sa sb h ra rb hT _ harr ha
  · exact sCompare_3 a b hsa hsb (V.ok_num oka) (V.ok_num okb) sa sb h ra rb hT _ harr ha
  · exact sCompare_4 a b hsa hsb (V.ok_num oka) (V.ok_num okb) sa sb h ra rb hT _ harr ha
  · exact sCompare_o a b hsa hsb (V.ok_num oka) (V.ok_num okb) sa sb h ra rb hT _ harr ha
end Go.Proofs.YtconhonjkfpfmaaDoor
