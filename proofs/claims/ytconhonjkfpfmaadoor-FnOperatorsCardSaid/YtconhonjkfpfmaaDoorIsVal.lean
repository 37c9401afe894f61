/-
  What Weight, wellFormed and IsValue of the program and of the reference return.
-/
import Derived.Test.YtconhonjkfpfmaaDoorKey
import Derived.Test.YtconhonjkfpfmaaDoorFind
import Derived.Test.YtconhonjkfpfmaaDoorSxValid
import Derived.Test.YtconhonjkfpfmaaDoorSxMaps
namespace Go.Proofs.YtconhonjkfpfmaaDoor
set_option maxRecDepth 8000
open Go Go.Sx
theorem bulk_in : ∀ {es : List (Ky × V)} {e : Ky × V}, e ∈ es → e.1.str.size + e.2.bulk + 1 ≤ V.bulks es
  | (k, v) :: r, e, he => by
    simp only [V.bulks]
    cases he with
    | head => simp only; omega
    | tail _ he => have := bulk_in he; omega
def WeiI (v : V) : Prop := v.bulk ≤ 1099511627776 → ∀ (sl : Value) (h : Hp), RdE h v.items sl → ACalls Tryd.prog 92 #[.agg #[.int .i64 v.kind, .int .i64 v.num, .string v.str, .int .i64 v.next, sl]] h (Pu (.int .i64 (v.weight : Nat)) h)
theorem iWeight : ∀ v, WeiI v := V.ind fun v ih hbk sl h rd => by
  have hB := V.bulk_eq v
  have hlen := V.bulks_len v.items
  have hwb := V.weights_bulk v.items
  obtain ⟨a, c, xs, rfl, hc, hr, hat⟩ := rd.rows (by decide) v.items.length (fm_len edt_len _)
  (refine enter Tryd.func92 rfl rfl (by kernel_rfl) [] ?_; simp only [go_sem, Nat.reduceBEq])
  refine Br.intro (fun hk => ?_) (fun hk => ?_) <;> (try simp only [hk, go_sem, Nat.reduceBEq])
  · have hk : v.kind = 4 := by simpa using hk
    have e0 : v.weight = 1 + V.weights v.items := by rw [V.weight_eq, if_pos hk]
    rw [e0]
    refine aloop (ι := Nat) (fun i => [(12, .val (.int .i64 (i : Nat))), (11, .val (.int .i64 (v.items.length : Nat))), (10, .val (.slice a v.items.length c)), (3, .val (.int .i64 ((1 + V.weights (v.items.take i) : Nat))))]) (fun _ => []) (fun i h' => i ≤ v.items.length ∧ h = h') (fun i => v.items.length - i) 0
      ⟨Nat.zero_le _, rfl⟩ (by simp only [List.take_zero, V.weights_nil]; exact (by repeat (first | exact wkF_e | refine wkF_c rfl ?_))) wkB_e rfl ?_
    rintro i _ ⟨hi, rfl⟩
    have hi : i ≤ v.items.length := hi
    have hwt := V.weights_take v.items i
    simp only [go_sem, Nat.reduceBEq]
    refine Br.intro (fun hb => ?_) (fun hb => ?_) <;> (try simp only [hb, go_sem, Nat.reduceBEq])
    · have hb : i < v.items.length := by simpa using hb
      obtain ⟨b, off, rfl, hat'⟩ := hat (by omega)
      obtain ⟨e, he, hm⟩ := get_lt hb
      have wsu := wrap_succ (i := i) (by omega)
      have hbe := bulk_in hm
      have hw2 := V.weight_bulk e.2
      have hsn := V.weights_snoc he
      simp only [ix_nat hb, go_sem, Nat.reduceBEq]
      refine hsem_entry tyS69 hat' hr he rfl fun s2 rd2 => ?_
      obtain ⟨a2, c2, _, rfl, _⟩ := rd2.rows (by decide) e.2.items.length (fm_len edt_len _)
      simp only [go_sem, Nat.reduceBEq, Nat.reduceAdd, Nat.reduceLeDiff]
      (refine (ih e hm (by omega) _ _ rd2).mono ?_; rintro _ _ ⟨rfl, rfl⟩; simp only [go_sem, Nat.reduceBEq])
      have hwr : IntKind.i64.wrap (((1 + V.weights (v.items.take i) : Nat) : Int) + (e.2.weight : Nat)) = ((1 + V.weights (v.items.take (i + 1)) : Nat) : Int) := by rw [hsn, IntWalk.i64_in _ (by omega)]; omega
      simp only [hwr, wsu, go_sem]
      exact Again.intro (i + 1) (by first | omega | (simp only; omega)) ⟨hb, rfl⟩ (by repeat (first | exact wkF_e | refine wkF_c rfl ?_)) wkB_e rfl
    · have hb : i = v.items.length := by simp at hb; omega
      subst hb
      rw [List.take_length]
      exact ⟨rfl, rfl⟩
  · have hk : ¬ v.kind = 4 := by simpa using hk
    exact ⟨by rw [V.weight_eq, if_neg hk]; rfl, rfl⟩
/-- the weight, or more than most -/
def Wei (v : V) (most : Nat) (h : Hp) (u : Value) (h' : Hp) : Prop := h = h' ∧ ∃ r : Nat, u = .int .i64 (r : Nat) ∧ r ≤ v.weight ∧ (r ≤ most → r = v.weight)
def WeiS (v : V) : Prop := v.bulk ≤ 1099511627776 → ∀ (most : Nat) (_ : most ≤ 1099511627776) (sl : Value) (h : Hp), RdE h v.items sl → ACalls Tryd.prog 44 #[.agg #[.int .i64 v.kind, .int .i64 v.num, .string v.str, .int .i64 v.next, sl], .int .i64 (most : Nat)] h (Wei v most h)
theorem sWeigh : ∀ v, WeiS v := V.ind fun v ih hbk most hmost sl h rd => by
  have hB := V.bulk_eq v
  have hlen := V.bulks_len v.items
  have hwb := V.weights_bulk v.items
  obtain ⟨a, c, xs, rfl, hc, hr, hat⟩ := rd.rows (by decide) v.items.length (fm_len edt_len _)
  (refine enter Tryd.func44 rfl rfl (by kernel_rfl) [] ?_; simp only [go_sem, Nat.reduceBEq])
  by_cases hk : v.kind = 4
  · have e0 : v.weight = 1 + V.weights v.items := by rw [V.weight_eq, if_pos hk]
    refine aloop (ι := Nat × Nat) (fun x => [(6, .val (.int .i64 (x.1 : Nat))), (5, .val (.int .i64 (x.2 : Nat))), (1, .val (.int .i64 (most : Nat))), (2, .box 2 0)]) (fun _ => [(2, [.int .i64 v.kind, .int .i64 v.num, .string v.str, .int .i64 v.next, .slice a v.items.length c])])
      (fun x h' => x.1 ≤ v.items.length ∧ x.2 ≤ 1 + V.weights (v.items.take x.1) ∧ (x.2 ≤ most → x.2 = 1 + V.weights (v.items.take x.1)) ∧ h = h') (fun x => v.items.length - x.1) (0, 1)
      ⟨Nat.zero_le _, by omega, fun _ => by simp [V.weights_nil], rfl⟩ (by repeat (first | exact wkF_e | refine wkF_c rfl ?_)) (wkB_c rfl wkB_e) rfl ?_
    rintro ⟨i, n⟩ _ ⟨hi, hn, hq, rfl⟩
    have hi : i ≤ v.items.length := hi
    have hn : n ≤ 1 + V.weights (v.items.take i) := hn
    have hq : n ≤ most → n = 1 + V.weights (v.items.take i) := hq
    have hwt := V.weights_take v.items i
    have dk : decide (v.kind = 4) = true := decide_eq_true hk
    simp only [dk, go_sem, Nat.reduceBEq]
    refine Br.intro (fun hb => ?_) (fun hb => ?_) <;> (try simp only [hb, go_sem, Nat.reduceBEq])
    · have hb : i < v.items.length := by simpa using hb
      refine Br.intro (fun hle => ?_) (fun hle => ?_) <;> (try simp only [hle, go_sem, Nat.reduceBEq])
      · have hle : n ≤ most := by have := of_decide_eq_true hle; omega
        obtain ⟨b, off, rfl, hat'⟩ := hat (by omega)
        obtain ⟨e, he, hm⟩ := get_lt hb
        have wsu := wrap_succ (i := i) (by omega)
        have hbe := bulk_in hm
        have hw2 := V.weight_bulk e.2
        have hsn := V.weights_snoc he
        have hn1 := hq hle
        have wsub : IntKind.i64.wrap ((most : Int) - (n : Int)) = ((most - n : Nat) : Int) := by rw [IntWalk.i64_in _ (by omega)]; omega
        simp only [ix_nat hb, go_sem, Nat.reduceBEq, Nat.reduceAdd]
        refine hsem_eval tyS26 hat' hr he rfl fun s2 rd2 => ?_
        obtain ⟨a2, c2, _, rfl, _⟩ := rd2.rows (by decide) e.2.items.length (fm_len edt_len _)
        simp only [wsub, go_sem, Nat.reduceBEq]
        refine (ih e hm (by omega) (most - n) (by omega) _ _ rd2).mono ?_
        rintro _ _ ⟨rfl, r, rfl, hr1, hr2⟩
        have hwr : IntKind.i64.wrap ((n : Int) + (r : Nat)) = ((n + r : Nat) : Int) := by rw [IntWalk.i64_in _ (by omega)]; rfl
        simp only [hwr, wsu, go_sem, Nat.reduceBEq]
        exact Again.intro (i + 1, n + r) (by first | omega | (simp only; omega)) ⟨hb, by simp only; omega, fun hx => by have hx : n + r ≤ most := hx; have := hr2 (by omega); simp only; omega, rfl⟩ (by repeat (first | exact wkF_e | refine wkF_c rfl ?_)) (wkB_c rfl wkB_e) rfl
      · have hle : ¬ n ≤ most := by have := of_decide_eq_false hle; omega
        exact ⟨rfl, n, rfl, by rw [e0]; omega, fun hx => absurd hx hle⟩
    · have hb : i = v.items.length := by simp at hb; omega
      subst hb
      rw [List.take_length] at hn hq
      exact ⟨rfl, n, rfl, by rw [e0]; omega, fun hx => by rw [e0]; exact hq hx⟩
  · have dk : decide (v.kind = 4) = false := decide_eq_false hk
    refine aloop (ι := Unit) (fun _ => [(6, .val (.int .i64 0)), (5, .val (.int .i64 1)), (1, .val (.int .i64 (most : Nat))), (2, .box 2 0)]) (fun _ => [(2, [.int .i64 v.kind, .int .i64 v.num, .string v.str, .int .i64 v.next, .slice a v.items.length c])]) (fun _ h' => h = h') (fun _ => 0) () rfl (by repeat (first | exact wkF_e | refine wkF_c rfl ?_)) (wkB_c rfl wkB_e) rfl ?_
    rintro _ _ rfl
    simp only [dk, go_sem, Nat.reduceBEq]
    have e0 : v.weight = 1 := by rw [V.weight_eq, if_neg hk]
    exact ⟨rfl, 1, rfl, by rw [e0]; exact Nat.le_refl _, fun _ => e0.symm⟩
theorem k9 (k : Int) : k = 0 ∨ k = 1 ∨ k = 2 ∨ k = 3 ∨ k = 4 ∨ k = 6 ∨ k = 7 ∨ k = 8 ∨ (¬ k = 0 ∧ ¬ k = 1 ∧ ¬ k = 2 ∧ ¬ k = 3 ∧ ¬ k = 4 ∧ ¬ k = 6 ∧ ¬ k = 7 ∧ ¬ k = 8) := by omega
def WfI (v : V) : Prop := v.bulk ≤ 1099511627776 → ∀ (sl : Value) (h : Hp), RdE h v.items sl → Env h → ACalls Tryd.prog 112 #[.agg #[.int .i64 v.kind, .int .i64 v.num, .string v.str, .int .i64 v.next, sl]] h (Is (.bool v.wf) h)
theorem iWell_0 (v : V) (sl : Value) (h : Hp) (rd : RdE h v.items sl) (ha : v.kind = 0) : ACalls Tryd.prog 112 #[.agg #[.int .i64 v.kind, .int .i64 v.num, .string v.str, .int .i64 v.next, sl]] h (Is (.bool v.wf) h) := by
  obtain ⟨a, c, xs, rfl, hc, hr, hat⟩ := rd.rows (by decide) v.items.length (fm_len edt_len _)
  have d0 : decide (v.kind = 0) = true := decide_eq_true (by omega)
  have d1 : decide (v.kind = 1) = false := decide_eq_false (by omega)
  have d2 : decide (v.kind = 2) = false := decide_eq_false (by omega)
  have d3 : decide (v.kind = 3) = false := decide_eq_false (by omega)
  have d4 : decide (v.kind = 4) = false := decide_eq_false (by omega)
  have d6 : decide (v.kind = 6) = false := decide_eq_false (by omega)
  have d7 : decide (v.kind = 7) = false := decide_eq_false (by omega)
  have d8 : decide (v.kind = 8) = false := decide_eq_false (by omega)
  rw [V.wf_eq]
  generalize wfEs v.next v.items [] = arr
  (refine enter Tryd.func112 rfl rfl (by kernel_rfl) [] ?_; simp only [go_sem, Nat.reduceBEq])
  simp only [d3, go_sem, Nat.reduceBEq]
  refine Br.intro (fun hs => ?_) (fun hs => ?_)
  · simp only [hs, go_sem, Nat.reduceBEq]
    have hs : ¬ v.str = ⟨#[]⟩ := by simpa using hs
    exact ⟨by simp [wf0, ha, hs], Ext.refl _⟩
  have hsr := hs
  have hs : v.str = ⟨#[]⟩ := by simpa using hs
  simp only [d4, hsr, go_sem, Nat.reduceBEq]
  refine Br.intro (fun hn => ?_) (fun hn => ?_)
  · simp only [hn, go_sem, Nat.reduceBEq]
    have hn : ¬ v.next = 0 := by simpa using hn
    exact ⟨by simp [wf0, ha, hs, hn], Ext.refl _⟩
  have hnr := hn
  have hn : v.next = 0 := by simpa using hn
  simp only [hnr, go_sem, Nat.reduceBEq]
  refine Br.intro (fun hl => ?_) (fun hl => ?_)
  · simp only [hl, go_sem, Nat.reduceBEq]
    have hl : 0 < v.items.length := by simpa using hl
    exact ⟨by simp [wf0, ha, hs, hn, hl], Ext.refl _⟩
  have hlr := hl
  have hl : ¬ 0 < v.items.length := by simpa using hl
  simp only [d0, hlr, go_sem, Nat.reduceBEq]
  have hl : v.items.length = 0 := by omega
  exact ⟨by simp [wf0, ha, hs, hn, hl], (Ext.refl _)⟩
theorem iWell_1 (v : V) (sl : Value) (h : Hp) (rd : RdE h v.items sl) (ha : v.kind = 1) : ACalls Tryd.prog 112 #[.agg #[.int .i64 v.kind, .int .i64 v.num, .string v.str, .int .i64 v.next, sl]] h (Is (.bool v.wf) h) := by
  obtain ⟨a, c, xs, rfl, hc, hr, hat⟩ := rd.rows (by decide) v.items.length (fm_len edt_len _)
  have d0 : decide (v.kind = 0) = false := decide_eq_false (by omega)
  have d1 : decide (v.kind = 1) = true := decide_eq_true (by omega)
  have d2 : decide (v.kind = 2) = false := decide_eq_false (by omega)
  have d3 : decide (v.kind = 3) = false := decide_eq_false (by omega)
  have d4 : decide (v.kind = 4) = false := decide_eq_false (by omega)
  have d6 : decide (v.kind = 6) = false := decide_eq_false (by omega)
  have d7 : decide (v.kind = 7) = false := decide_eq_false (by omega)
  have d8 : decide (v.kind = 8) = false := decide_eq_false (by omega)
  rw [V.wf_eq]
  generalize wfEs v.next v.items [] = arr
  (refine enter Tryd.func112 rfl rfl (by kernel_rfl) [] ?_; simp only [go_sem, Nat.reduceBEq])
  simp only [d3, go_sem, Nat.reduceBEq]
  refine Br.intro (fun hs => ?_) (fun hs => ?_)
  · simp only [hs, go_sem, Nat.reduceBEq]
    have hs : ¬ v.str = ⟨#[]⟩ := by simpa using hs
    exact ⟨by simp [wf0, ha, hs], Ext.refl _⟩
  have hsr := hs
  have hs : v.str = ⟨#[]⟩ := by simpa using hs
  simp only [d4, hsr, go_sem, Nat.reduceBEq]
  refine Br.intro (fun hn => ?_) (fun hn => ?_)
  · simp only [hn, go_sem, Nat.reduceBEq]
    have hn : ¬ v.next = 0 := by simpa using hn
    exact ⟨by simp [wf0, ha, hs, hn], Ext.refl _⟩
  have hnr := hn
  have hn : v.next = 0 := by simpa using hn
  simp only [hnr, go_sem, Nat.reduceBEq]
  refine Br.intro (fun hl => ?_) (fun hl => ?_)
  · simp only [hl, go_sem, Nat.reduceBEq]
    have hl : 0 < v.items.length := by simpa using hl
    exact ⟨by simp [wf0, ha, hs, hn, hl], Ext.refl _⟩
  have hlr := hl
  have hl : ¬ 0 < v.items.length := by simpa using hl
  simp only [d0, d1, hlr, go_sem, Nat.reduceBEq]
  have hl : v.items.length = 0 := by omega
  refine Br.intro (fun hq => ?_) (fun hq => ?_)
  · simp only [hq, go_sem, Nat.reduceBEq]
    have hq : v.num = 0 := by simpa using hq
    exact ⟨by simp [wf0, ha, hs, hn, hl, hq], Ext.refl _⟩
  · simp only [hq, go_sem, Nat.reduceBEq]
    have hq : ¬ v.num = 0 := by simpa using hq
    have hq2 : decide (0 ≤ v.num ∧ v.num ≤ 1) = decide (v.num = 1) := decide_eq_decide.2 (by omega)
    have hq3 : wf0 v arr = decide (v.num = 1) := by rw [← hq2]; simp [wf0, ha, hs, hn, hl]
    exact ⟨by rw [hq3], Ext.refl _⟩
theorem iWell_2 (v : V) (sl : Value) (h : Hp) (rd : RdE h v.items sl) (ha : v.kind = 2) : ACalls Tryd.prog 112 #[.agg #[.int .i64 v.kind, .int .i64 v.num, .string v.str, .int .i64 v.next, sl]] h (Is (.bool v.wf) h) := by
  obtain ⟨a, c, xs, rfl, hc, hr, hat⟩ := rd.rows (by decide) v.items.length (fm_len edt_len _)
  have d0 : decide (v.kind = 0) = false := decide_eq_false (by omega)
  have d1 : decide (v.kind = 1) = false := decide_eq_false (by omega)
  have d2 : decide (v.kind = 2) = true := decide_eq_true (by omega)
  have d3 : decide (v.kind = 3) = false := decide_eq_false (by omega)
  have d4 : decide (v.kind = 4) = false := decide_eq_false (by omega)
  have d6 : decide (v.kind = 6) = false := decide_eq_false (by omega)
  have d7 : decide (v.kind = 7) = false := decide_eq_false (by omega)
  have d8 : decide (v.kind = 8) = false := decide_eq_false (by omega)
  rw [V.wf_eq]
  generalize wfEs v.next v.items [] = arr
  (refine enter Tryd.func112 rfl rfl (by kernel_rfl) [] ?_; simp only [go_sem, Nat.reduceBEq])
  simp only [d3, go_sem, Nat.reduceBEq]
  refine Br.intro (fun hs => ?_) (fun hs => ?_)
  · simp only [hs, go_sem, Nat.reduceBEq]
    have hs : ¬ v.str = ⟨#[]⟩ := by simpa using hs
    exact ⟨by simp [wf0, ha, hs], Ext.refl _⟩
  have hsr := hs
  have hs : v.str = ⟨#[]⟩ := by simpa using hs
  simp only [d4, hsr, go_sem, Nat.reduceBEq]
  refine Br.intro (fun hn => ?_) (fun hn => ?_)
  · simp only [hn, go_sem, Nat.reduceBEq]
    have hn : ¬ v.next = 0 := by simpa using hn
    exact ⟨by simp [wf0, ha, hs, hn], Ext.refl _⟩
  have hnr := hn
  have hn : v.next = 0 := by simpa using hn
  simp only [hnr, go_sem, Nat.reduceBEq]
  refine Br.intro (fun hl => ?_) (fun hl => ?_)
  · simp only [hl, go_sem, Nat.reduceBEq]
    have hl : 0 < v.items.length := by simpa using hl
    exact ⟨by simp [wf0, ha, hs, hn, hl], Ext.refl _⟩
  have hlr := hl
  have hl : ¬ 0 < v.items.length := by simpa using hl
  simp only [d0, d1, d2, hlr, go_sem, Nat.reduceBEq]
  have hl : v.items.length = 0 := by omega
  (refine (iInRange _ _ _ _).mono ?_; rintro _ _ ⟨rfl, rfl⟩; simp only [go_sem, Nat.reduceBEq])
  exact ⟨by simp [wf0, ha, hs, hn, hl], (Ext.refl _)⟩
theorem iWell_3 (v : V) (sl : Value) (h : Hp) (rd : RdE h v.items sl) (ha : v.kind = 3) : ACalls Tryd.prog 112 #[.agg #[.int .i64 v.kind, .int .i64 v.num, .string v.str, .int .i64 v.next, sl]] h (Is (.bool v.wf) h) := by
  obtain ⟨a, c, xs, rfl, hc, hr, hat⟩ := rd.rows (by decide) v.items.length (fm_len edt_len _)
  have d0 : decide (v.kind = 0) = false := decide_eq_false (by omega)
  have d1 : decide (v.kind = 1) = false := decide_eq_false (by omega)
  have d2 : decide (v.kind = 2) = false := decide_eq_false (by omega)
  have d3 : decide (v.kind = 3) = true := decide_eq_true (by omega)
  have d4 : decide (v.kind = 4) = false := decide_eq_false (by omega)
  have d6 : decide (v.kind = 6) = false := decide_eq_false (by omega)
  have d7 : decide (v.kind = 7) = false := decide_eq_false (by omega)
  have d8 : decide (v.kind = 8) = false := decide_eq_false (by omega)
  rw [V.wf_eq]
  generalize wfEs v.next v.items [] = arr
  (refine enter Tryd.func112 rfl rfl (by kernel_rfl) [] ?_; simp only [go_sem, Nat.reduceBEq])
  simp only [d3, d4, go_sem, Nat.reduceBEq]
  refine Br.intro (fun hn => ?_) (fun hn => ?_)
  · simp only [hn, go_sem, Nat.reduceBEq]
    have hn : ¬ v.next = 0 := by simpa using hn
    exact ⟨by simp [wf0, ha, hn], Ext.refl _⟩
  have hnr := hn
  have hn : v.next = 0 := by simpa using hn
  simp only [hnr, go_sem, Nat.reduceBEq]
  refine Br.intro (fun hl => ?_) (fun hl => ?_)
  · simp only [hl, go_sem, Nat.reduceBEq]
    have hl : 0 < v.items.length := by simpa using hl
    exact ⟨by simp [wf0, ha, hn, hl], Ext.refl _⟩
  have hlr := hl
  have hl : ¬ 0 < v.items.length := by simpa using hl
  simp only [d0, d1, d2, d3, hlr, go_sem, Nat.reduceBEq]
  have hl : v.items.length = 0 := by omega
  refine Br.intro (fun hq => ?_) (fun hq => ?_)
  · simp only [hq, go_sem, Nat.reduceBEq]
    have hq : v.num = 0 := by simpa using hq
    have hq3 : wf0 v arr = decide ((v.str.size : Int) ≤ 400) := by rw [show decide ((v.str.size : Int) ≤ 400) = decide (v.str.size ≤ 400) from decide_eq_decide.2 (by omega)]; simp [wf0, ha, hn, hl, hq]
    exact ⟨by rw [hq3], Ext.refl _⟩
  · simp only [hq, go_sem, Nat.reduceBEq]
    have hq : ¬ v.num = 0 := by simpa using hq
    exact ⟨by simp [wf0, ha, hn, hl, hq], Ext.refl _⟩
set_option maxHeartbeats 800000 in
theorem iWell_4 (v : V) (ih : ∀ e ∈ v.items, WfI e.2) (hbk : v.bulk ≤ 1099511627776) (sl : Value) (h : Hp) (rd : RdE h v.items sl) (hE : Env h) (ha : v.kind = 4) : ACalls Tryd.prog 112 #[.agg #[.int .i64 v.kind, .int .i64 v.num, .string v.str, .int .i64 v.next, sl]] h (Is (.bool v.wf) h) := by
  obtain ⟨a, c, xs, rfl, hc, hr, hat⟩ := rd.rows (by decide) v.items.length (fm_len edt_len _)
  have d0 : decide (v.kind = 0) = false := decide_eq_false (by omega)
  have d1 : decide (v.kind = 1) = false := decide_eq_false (by omega)
  have d2 : decide (v.kind = 2) = false := decide_eq_false (by omega)
  have d3 : decide (v.kind = 3) = false := decide_eq_false (by omega)
  have d4 : decide (v.kind = 4) = true := decide_eq_true (by omega)
  have d6 : decide (v.kind = 6) = false := decide_eq_false (by omega)
  have d7 : decide (v.kind = 7) = false := decide_eq_false (by omega)
  have d8 : decide (v.kind = 8) = false := decide_eq_false (by omega)
  rw [V.wf_eq]
  (refine enter Tryd.func112 rfl rfl (by kernel_rfl) [] ?_; simp only [go_sem, Nat.reduceBEq])
  simp only [d3, go_sem, Nat.reduceBEq]
  refine Br.intro (fun hs => ?_) (fun hs => ?_)
  · simp only [hs, go_sem, Nat.reduceBEq]
    have hs : ¬ v.str = ⟨#[]⟩ := by simpa using hs
    exact ⟨by simp [wf0, ha, hs], Ext.refl _⟩
  have hsr := hs
  have hs : v.str = ⟨#[]⟩ := by simpa using hs
  simp only [d0, d1, d2, d3, d4, d6, d7, d8, hsr, go_sem, Nat.reduceBEq]
  have hB := V.bulk_eq v
  have hlen := V.bulks_len v.items
  refine Br.intro (fun hz => ?_) (fun hz => ?_)
  · simp only [hz, go_sem, Nat.reduceBEq]
    have hz : ¬ v.num = 0 := by simpa using hz
    exact ⟨by simp [wf0, ha, hs, hz], Ext.refl _⟩
  have hzr := hz
  have hz : v.num = 0 := by simpa using hz
  simp only [hzr, go_sem, Nat.reduceBEq]
  (refine (iInRange _ _ _ _).mono ?_; rintro _ _ ⟨rfl, rfl⟩; simp only [go_sem, Nat.reduceBEq])
  refine Br.intro (fun hx => ?_) (fun hx => ?_)
  · simp only [hx, go_sem, Nat.reduceBEq]
    have hx : decide (0 ≤ v.next ∧ v.next ≤ 1000000001) = false := by simpa only [Bool.not_eq_true'] using hx
    have e0 : wf0 v (wfEs v.next v.items []) = false := by simp only [wf0, hx, ha, hs, hz]; simp
    exact ⟨by rw [e0], Ext.refl _⟩
  simp only [hx, go_sem]
  have hx : decide (0 ≤ v.next ∧ v.next ≤ 1000000001) = true := by simpa only [Bool.not_eq_false'] using hx
  have e0 : wf0 v (wfEs v.next v.items []) = wfEs v.next v.items [] := by simp only [wf0, hx, ha, hs, hz]; simp
  rw [e0]
  refine hsem_mk_map fun bm hbn om em => ?_
  generalize hset h bm (.map #[] 0) = h0 at om em ⊢
  simp only [go_sem, Nat.reduceBEq]
  refine aloop (ι := Nat) (fun i => [(85, .val (.int .i64 (i : Nat))), (84, .val (.int .i64 (v.items.length : Nat))), (83, .val (.slice a v.items.length c)), (3, .val (.map (some bm))), (1, .box 1 0)]) (fun _ => [(1, [.int .i64 v.kind, .int .i64 v.num, .string v.str, .int .i64 v.next, .slice a v.items.length c])])
    (fun i h' => i ≤ v.items.length ∧ OwM h' bm ((v.items.take i).map (·.1)) ∧ Ext h h' ∧ wfEs v.next (v.items.drop i) ((v.items.take i).map (·.1)) = wfEs v.next v.items []) (fun i => v.items.length - i) 0 ⟨Nat.zero_le _, om, em, rfl⟩ (by repeat (first | exact wkF_e | refine wkF_c rfl ?_)) (wkB_c rfl wkB_e) rfl ?_
  rintro i h1 ⟨hi, o1, e1, hq⟩
  have hi : i ≤ v.items.length := hi
  simp only [go_sem, Nat.reduceBEq]
  refine Br.intro (fun hb => ?_) (fun hb => ?_) <;> (try simp only [hb, go_sem, Nat.reduceBEq, Nat.reduceEqDiff])
  case refine_2 =>
    have hb : i = v.items.length := by simp at hb; omega
    rw [List.drop_eq_nil_of_le (by omega), wfEs_nil] at hq
    exact ⟨by rw [← hq], e1⟩
  have hb : i < v.items.length := by simpa using hb
  obtain ⟨b, off, rfl, hat'⟩ := hat (by omega)
  obtain ⟨e, he, hm⟩ := get_lt hb
  have wsu := wrap_succ (i := i) (by omega)
  have hbe := bulk_in hm
  rw [drop_cons he, wfEs_cons] at hq
  simp only [ix_nat hb, go_sem, Nat.reduceBEq]
  refine hsem_entry tyS69 (hat'.mono e1) (hr.mono e1) he rfl fun s2 rd2 => ?_
  obtain ⟨a2, c2, _, rfl, _⟩ := rd2.rows (by decide) e.2.items.length (fm_len edt_len _)
  simp only [go_sem, Nat.reduceBEq, Nat.reduceAdd, Nat.reduceLeDiff]
  refine (iIsKey e.1 _ (hE.ext e1)).mono ?_
  rintro _ h2 ⟨rfl, e2⟩
  have e12 := e1.trans e2
  cases hk : keyOk e.1 with
  | false =>
    simp only [go_sem, Nat.reduceBEq]
    exact ⟨by rw [← hq, hk]; simp, e12⟩
  | true =>
    simp only [go_sem, Nat.reduceBEq, Nat.reduceAdd, Nat.reduceLeDiff]
    have o2 := o1.ext e2
    refine hsem_map_has (by kernel_rfl) o2 e.1 ?_
    by_cases hm1 : e.1 ∈ (v.items.take i).map (·.1)
    · have hmd := decide_eq_true hm1
      simp only [hmd, go_sem, Nat.reduceBEq]
      exact ⟨by rw [← hq, hmd]; simp, e12⟩
    have hmd := decide_eq_false hm1
    simp only [hmd, go_sem, Nat.reduceBEq]
    by_cases ht : e.1.text = true
    case pos =>
      have hnx : (!e.1.text && decide (v.next ≤ e.1.num)) = false := by rw [ht]; rfl
      have nt : (!e.1.text) = false := by rw [ht]; rfl
      simp only [nt, go_sem, Nat.reduceBEq, Nat.reduceAdd, Nat.reduceLeDiff]
      refine (ih e hm (by omega) _ _ (rd2.mono e2) (hE.ext e12)).mono ?_
      rintro _ h3 ⟨rfl, e3⟩
      have e13 := e12.trans e3
      cases hw : e.2.wf with
      | false =>
        simp only [go_sem, Nat.reduceBEq]
        exact ⟨by rw [← hq, hw]; simp, e13⟩
      | true =>
        simp only [go_sem, Nat.reduceBEq, Nat.reduceAdd, Nat.reduceLeDiff]
        have hts : (v.items.take (i + 1)).map (·.1) = (v.items.take i).map (·.1) ++ [e.1] := by rw [take_snoc he, List.map_append]; rfl
        refine hsem_map_add (by kernel_rfl) (o2.ext e3) e.1 hm1 fun h4 o4 b4 => ?_
        have e4 : Ext h h4 := b4.ext e13 (by simpa using hbn)
        simp only [wsu, go_sem, Nat.reduceBEq]
        refine Again.intro (i + 1) (by first | omega | (simp only; omega)) ⟨hb, by rw [hts]; exact o4, e4, ?_⟩ (by repeat (first | exact wkF_e | refine wkF_c rfl ?_)) (wkB_c rfl wkB_e) rfl
        rw [hts, ← hq, hk, hmd, hnx, hw]
        simp
    case neg =>
      have ht : e.1.text = false := by simpa using ht
      have nt : (!e.1.text) = true := by rw [ht]; rfl
      simp only [nt, go_sem, Nat.reduceBEq]
      by_cases hg : v.next ≤ e.1.num
      · have dg := decide_eq_true hg
        simp only [dg, go_sem, Nat.reduceBEq]
        exact ⟨by rw [← hq, ht, dg]; simp, e12⟩
      have dg := decide_eq_false hg
      have hnx : (!e.1.text && decide (v.next ≤ e.1.num)) = false := by rw [ht, dg]; rfl
      simp only [dg, go_sem, Nat.reduceBEq, Nat.reduceAdd, Nat.reduceLeDiff]
      refine (ih e hm (by omega) _ _ (rd2.mono e2) (hE.ext e12)).mono ?_
      rintro _ h3 ⟨rfl, e3⟩
      have e13 := e12.trans e3
      cases hw : e.2.wf with
      | false =>
        simp only [go_sem, Nat.reduceBEq]
        exact ⟨by rw [← hq, hw]; simp, e13⟩
      | true =>
        simp only [go_sem, Nat.reduceBEq, Nat.reduceAdd, Nat.reduceLeDiff]
        have hts : (v.items.take (i + 1)).map (·.1) = (v.items.take i).map (·.1) ++ [e.1] := by rw [take_snoc he, List.map_append]; rfl
        refine hsem_map_add (by kernel_rfl) (o2.ext e3) e.1 hm1 fun h4 o4 b4 => ?_
        have e4 : Ext h h4 := b4.ext e13 (by simpa using hbn)
        simp only [wsu, go_sem, Nat.reduceBEq]
        refine Again.intro (i + 1) (by first | omega | (simp only; omega)) ⟨hb, by rw [hts]; exact o4, e4, ?_⟩ (by repeat (first | exact wkF_e | refine wkF_c rfl ?_)) (wkB_c rfl wkB_e) rfl
        rw [hts, ← hq, hk, hmd, hnx, hw]
        simp
theorem iWell_6 (v : V) (sl : Value) (h : Hp) (rd : RdE h v.items sl) (ha : v.kind = 6) : ACalls Tryd.prog 112 #[.agg #[.int .i64 v.kind, .int .i64 v.num, .string v.str, .int .i64 v.next, sl]] h (Is (.bool v.wf) h) := by
  obtain ⟨a, c, xs, rfl, hc, hr, hat⟩ := rd.rows (by decide) v.items.length (fm_len edt_len _)
  have d0 : decide (v.kind = 0) = false := decide_eq_false (by omega)
  have d1 : decide (v.kind = 1) = false := decide_eq_false (by omega)
  have d2 : decide (v.kind = 2) = false := decide_eq_false (by omega)
  have d3 : decide (v.kind = 3) = false := decide_eq_false (by omega)
  have d4 : decide (v.kind = 4) = false := decide_eq_false (by omega)
  have d6 : decide (v.kind = 6) = true := decide_eq_true (by omega)
  have d7 : decide (v.kind = 7) = false := decide_eq_false (by omega)
  have d8 : decide (v.kind = 8) = false := decide_eq_false (by omega)
  rw [V.wf_eq]
  generalize wfEs v.next v.items [] = arr
  (refine enter Tryd.func112 rfl rfl (by kernel_rfl) [] ?_; simp only [go_sem, Nat.reduceBEq])
  simp only [d3, go_sem, Nat.reduceBEq]
  refine Br.intro (fun hs => ?_) (fun hs => ?_)
  · simp only [hs, go_sem, Nat.reduceBEq]
    have hs : ¬ v.str = ⟨#[]⟩ := by simpa using hs
    exact ⟨by simp [wf0, ha, hs], Ext.refl _⟩
  have hsr := hs
  have hs : v.str = ⟨#[]⟩ := by simpa using hs
  simp only [d4, hsr, go_sem, Nat.reduceBEq]
  refine Br.intro (fun hn => ?_) (fun hn => ?_)
  · simp only [hn, go_sem, Nat.reduceBEq]
    have hn : ¬ v.next = 0 := by simpa using hn
    exact ⟨by simp [wf0, ha, hs, hn], Ext.refl _⟩
  have hnr := hn
  have hn : v.next = 0 := by simpa using hn
  simp only [hnr, go_sem, Nat.reduceBEq]
  refine Br.intro (fun hl => ?_) (fun hl => ?_)
  · simp only [hl, go_sem, Nat.reduceBEq]
    have hl : 0 < v.items.length := by simpa using hl
    exact ⟨by simp [wf0, ha, hs, hn, hl], Ext.refl _⟩
  have hlr := hl
  have hl : ¬ 0 < v.items.length := by simpa using hl
  simp only [d0, d1, d2, d3, d6, hlr, go_sem, Nat.reduceBEq]
  have hl : v.items.length = 0 := by omega
  (refine (iInRange _ _ _ _).mono ?_; rintro _ _ ⟨rfl, rfl⟩; simp only [go_sem, Nat.reduceBEq])
  exact ⟨by simp [wf0, ha, hs, hn, hl], (Ext.refl _)⟩
theorem iWell_7 (v : V) (sl : Value) (h : Hp) (rd : RdE h v.items sl) (ha : v.kind = 7) : ACalls Tryd.prog 112 #[.agg #[.int .i64 v.kind, .int .i64 v.num, .string v.str, .int .i64 v.next, sl]] h (Is (.bool v.wf) h) := by
  obtain ⟨a, c, xs, rfl, hc, hr, hat⟩ := rd.rows (by decide) v.items.length (fm_len edt_len _)
  have d0 : decide (v.kind = 0) = false := decide_eq_false (by omega)
  have d1 : decide (v.kind = 1) = false := decide_eq_false (by omega)
  have d2 : decide (v.kind = 2) = false := decide_eq_false (by omega)
  have d3 : decide (v.kind = 3) = false := decide_eq_false (by omega)
  have d4 : decide (v.kind = 4) = false := decide_eq_false (by omega)
  have d6 : decide (v.kind = 6) = false := decide_eq_false (by omega)
  have d7 : decide (v.kind = 7) = true := decide_eq_true (by omega)
  have d8 : decide (v.kind = 8) = false := decide_eq_false (by omega)
  rw [V.wf_eq]
  generalize wfEs v.next v.items [] = arr
  (refine enter Tryd.func112 rfl rfl (by kernel_rfl) [] ?_; simp only [go_sem, Nat.reduceBEq])
  simp only [d3, go_sem, Nat.reduceBEq]
  refine Br.intro (fun hs => ?_) (fun hs => ?_)
  · simp only [hs, go_sem, Nat.reduceBEq]
    have hs : ¬ v.str = ⟨#[]⟩ := by simpa using hs
    exact ⟨by simp [wf0, ha, hs], Ext.refl _⟩
  have hsr := hs
  have hs : v.str = ⟨#[]⟩ := by simpa using hs
  simp only [d4, hsr, go_sem, Nat.reduceBEq]
  refine Br.intro (fun hn => ?_) (fun hn => ?_)
  · simp only [hn, go_sem, Nat.reduceBEq]
    have hn : ¬ v.next = 0 := by simpa using hn
    exact ⟨by simp [wf0, ha, hs, hn], Ext.refl _⟩
  have hnr := hn
  have hn : v.next = 0 := by simpa using hn
  simp only [hnr, go_sem, Nat.reduceBEq]
  refine Br.intro (fun hl => ?_) (fun hl => ?_)
  · simp only [hl, go_sem, Nat.reduceBEq]
    have hl : 0 < v.items.length := by simpa using hl
    exact ⟨by simp [wf0, ha, hs, hn, hl], Ext.refl _⟩
  have hlr := hl
  have hl : ¬ 0 < v.items.length := by simpa using hl
  simp only [d0, d1, d2, d3, d6, d7, hlr, go_sem, Nat.reduceBEq]
  have hl : v.items.length = 0 := by omega
  (refine (iInRange _ _ _ _).mono ?_; rintro _ _ ⟨rfl, rfl⟩; simp only [go_sem, Nat.reduceBEq])
  exact ⟨by simp [wf0, ha, hs, hn, hl], (Ext.refl _)⟩
theorem iWell_8 (v : V) (sl : Value) (h : Hp) (rd : RdE h v.items sl) (ha : v.kind = 8) : ACalls Tryd.prog 112 #[.agg #[.int .i64 v.kind, .int .i64 v.num, .string v.str, .int .i64 v.next, sl]] h (Is (.bool v.wf) h) := by
  obtain ⟨a, c, xs, rfl, hc, hr, hat⟩ := rd.rows (by decide) v.items.length (fm_len edt_len _)
  have d0 : decide (v.kind = 0) = false := decide_eq_false (by omega)
  have d1 : decide (v.kind = 1) = false := decide_eq_false (by omega)
  have d2 : decide (v.kind = 2) = false := decide_eq_false (by omega)
  have d3 : decide (v.kind = 3) = false := decide_eq_false (by omega)
  have d4 : decide (v.kind = 4) = false := decide_eq_false (by omega)
  have d6 : decide (v.kind = 6) = false := decide_eq_false (by omega)
  have d7 : decide (v.kind = 7) = false := decide_eq_false (by omega)
  have d8 : decide (v.kind = 8) = true := decide_eq_true (by omega)
  rw [V.wf_eq]
  generalize wfEs v.next v.items [] = arr
  (refine enter Tryd.func112 rfl rfl (by kernel_rfl) [] ?_; simp only [go_sem, Nat.reduceBEq])
  simp only [d3, go_sem, Nat.reduceBEq]
  refine Br.intro (fun hs => ?_) (fun hs => ?_)
  · simp only [hs, go_sem, Nat.reduceBEq]
    have hs : ¬ v.str = ⟨#[]⟩ := by simpa using hs
    exact ⟨by simp [wf0, ha, hs], Ext.refl _⟩
  have hsr := hs
  have hs : v.str = ⟨#[]⟩ := by simpa using hs
  simp only [d4, hsr, go_sem, Nat.reduceBEq]
  refine Br.intro (fun hn => ?_) (fun hn => ?_)
  · simp only [hn, go_sem, Nat.reduceBEq]
    have hn : ¬ v.next = 0 := by simpa using hn
    exact ⟨by simp [wf0, ha, hs, hn], Ext.refl _⟩
  have hnr := hn
  have hn : v.next = 0 := by simpa using hn
  simp only [hnr, go_sem, Nat.reduceBEq]
  refine Br.intro (fun hl => ?_) (fun hl => ?_)
  · simp only [hl, go_sem, Nat.reduceBEq]
    have hl : 0 < v.items.length := by simpa using hl
    exact ⟨by simp [wf0, ha, hs, hn, hl], Ext.refl _⟩
  have hlr := hl
  have hl : ¬ 0 < v.items.length := by simpa using hl
  simp only [d0, d1, d2, d3, d6, d7, d8, hlr, go_sem, Nat.reduceBEq]
  have hl : v.items.length = 0 := by omega
  (refine (iInRange _ _ _ _).mono ?_; rintro _ _ ⟨rfl, rfl⟩; simp only [go_sem, Nat.reduceBEq])
  exact ⟨by simp [wf0, ha, hs, hn, hl], (Ext.refl _)⟩
theorem iWell_o (v : V) (sl : Value) (h : Hp) (rd : RdE h v.items sl) (ha : ¬ v.kind = 0 ∧ ¬ v.kind = 1 ∧ ¬ v.kind = 2 ∧ ¬ v.kind = 3 ∧ ¬ v.kind = 4 ∧ ¬ v.kind = 6 ∧ ¬ v.kind = 7 ∧ ¬ v.kind = 8) : ACalls Tryd.prog 112 #[.agg #[.int .i64 v.kind, .int .i64 v.num, .string v.str, .int .i64 v.next, sl]] h (Is (.bool v.wf) h) := by
  obtain ⟨a, c, xs, rfl, hc, hr, hat⟩ := rd.rows (by decide) v.items.length (fm_len edt_len _)
  have d0 : decide (v.kind = 0) = false := decide_eq_false (by omega)
  have d1 : decide (v.kind = 1) = false := decide_eq_false (by omega)
  have d2 : decide (v.kind = 2) = false := decide_eq_false (by omega)
  have d3 : decide (v.kind = 3) = false := decide_eq_false (by omega)
  have d4 : decide (v.kind = 4) = false := decide_eq_false (by omega)
  have d6 : decide (v.kind = 6) = false := decide_eq_false (by omega)
  have d7 : decide (v.kind = 7) = false := decide_eq_false (by omega)
  have d8 : decide (v.kind = 8) = false := decide_eq_false (by omega)
  obtain ⟨a0, a1, a2, a3, a4, a6, a7, a8⟩ := ha
  rw [V.wf_eq]
  generalize wfEs v.next v.items [] = arr
  (refine enter Tryd.func112 rfl rfl (by kernel_rfl) [] ?_; simp only [go_sem, Nat.reduceBEq])
  simp only [d3, go_sem, Nat.reduceBEq]
  refine Br.intro (fun hs => ?_) (fun hs => ?_)
  · simp only [hs, go_sem, Nat.reduceBEq]
    have hs : ¬ v.str = ⟨#[]⟩ := by simpa using hs
    exact ⟨by simp [wf0, a0, a1, a2, a3, a4, a6, a7, a8, hs], Ext.refl _⟩
  have hsr := hs
  have hs : v.str = ⟨#[]⟩ := by simpa using hs
  simp only [d4, hsr, go_sem, Nat.reduceBEq]
  refine Br.intro (fun hn => ?_) (fun hn => ?_)
  · simp only [hn, go_sem, Nat.reduceBEq]
    have hn : ¬ v.next = 0 := by simpa using hn
    exact ⟨by simp [wf0, a0, a1, a2, a3, a4, a6, a7, a8, hs, hn], Ext.refl _⟩
  have hnr := hn
  have hn : v.next = 0 := by simpa using hn
  simp only [hnr, go_sem, Nat.reduceBEq]
  refine Br.intro (fun hl => ?_) (fun hl => ?_)
  · simp only [hl, go_sem, Nat.reduceBEq]
    have hl : 0 < v.items.length := by simpa using hl
    exact ⟨by simp [wf0, a0, a1, a2, a3, a4, a6, a7, a8, hs, hn, hl], Ext.refl _⟩
  have hlr := hl
  have hl : ¬ 0 < v.items.length := by simpa using hl
  simp only [d0, d1, d2, d3, d4, d6, d7, d8, hlr, go_sem, Nat.reduceBEq]
  have hl : v.items.length = 0 := by omega
  exact ⟨by simp [wf0, a0, a1, a2, a3, a4, a6, a7, a8, hs, hn, hl], (Ext.refl _)⟩
theorem iWell : ∀ v, WfI v := V.ind fun v ih hbk sl h rd hE => by
  rcases k9 v.kind with ha | ha | ha | ha | ha | ha | ha | ha | ha
  · exact iWell_0 v sl h rd ha
  · exact iWell_1 v sl h rd ha
  · exact iWell_2 v sl h rd ha
  · exact iWell_3 v sl h rd ha
  · exact iWell_4 v ih hbk sl h rd hE ha
  · exact iWell_6 v sl h rd ha
  · exact iWell_7 v sl h rd ha
  · exact iWell_8 v sl h rd ha
  · exact iWell_o v sl h rd ha
def WfS (v : V) : Prop := v.bulk ≤ 1099511627776 → ∀ (sl : Value) (h : Hp), RdE h v.items sl → ACalls Tryd.prog 45 #[.agg #[.int .i64 v.kind, .int .i64 v.num, .string v.str, .int .i64 v.next, sl]] h (Is (.bool v.wf) h)
theorem sWell_0 (v : V) (sl : Value) (h : Hp) (rd : RdE h v.items sl) (ha : v.kind = 0) : ACalls Tryd.prog 45 #[.agg #[.int .i64 v.kind, .int .i64 v.num, .string v.str, .int .i64 v.next, sl]] h (Is (.bool v.wf) h) := by
  obtain ⟨a, c, xs, rfl, hc, hr, hat⟩ := rd.rows (by decide) v.items.length (fm_len edt_len _)
  have d0 : decide (v.kind = 0) = true := decide_eq_true (by omega)
  have d1 : decide (v.kind = 1) = false := decide_eq_false (by omega)
  have d2 : decide (v.kind = 2) = false := decide_eq_false (by omega)
  have d3 : decide (v.kind = 3) = false := decide_eq_false (by omega)
  have d4 : decide (v.kind = 4) = false := decide_eq_false (by omega)
  have d6 : decide (v.kind = 6) = false := decide_eq_false (by omega)
  have d7 : decide (v.kind = 7) = false := decide_eq_false (by omega)
  have d8 : decide (v.kind = 8) = false := decide_eq_false (by omega)
  rw [V.wf_eq]
  generalize wfEs v.next v.items [] = arr
  (refine enter Tryd.func45 rfl rfl (by kernel_rfl) [] ?_; simp only [go_sem, Nat.reduceBEq])
  simp only [d3, go_sem, Nat.reduceBEq]
  refine Br.intro (fun hs => ?_) (fun hs => ?_)
  · simp only [hs, go_sem, Nat.reduceBEq]
    have hs : ¬ v.str = ⟨#[]⟩ := by simpa using hs
    exact ⟨by simp [wf0, ha, hs], Ext.refl _⟩
  have hsr := hs
  have hs : v.str = ⟨#[]⟩ := by simpa using hs
  simp only [d4, hsr, go_sem, Nat.reduceBEq]
  refine Br.intro (fun hn => ?_) (fun hn => ?_)
  · simp only [hn, go_sem, Nat.reduceBEq]
    have hn : ¬ v.next = 0 := by simpa using hn
    exact ⟨by simp [wf0, ha, hs, hn], Ext.refl _⟩
  have hnr := hn
  have hn : v.next = 0 := by simpa using hn
  simp only [hnr, go_sem, Nat.reduceBEq]
  refine Br.intro (fun hl => ?_) (fun hl => ?_)
  · simp only [hl, go_sem, Nat.reduceBEq]
    have hl : 0 < v.items.length := by simpa using hl
    exact ⟨by simp [wf0, ha, hs, hn, hl], Ext.refl _⟩
  have hlr := hl
  have hl : ¬ 0 < v.items.length := by simpa using hl
  simp only [d0, hlr, go_sem, Nat.reduceBEq]
  have hl : v.items.length = 0 := by omega
  exact ⟨by simp [wf0, ha, hs, hn, hl], (Ext.refl _)⟩
theorem sWell_1 (v : V) (sl : Value) (h : Hp) (rd : RdE h v.items sl) (ha : v.kind = 1) : ACalls Tryd.prog 45 #[.agg #[.int .i64 v.kind, .int .i64 v.num, .string v.str, .int .i64 v.next, sl]] h (Is (.bool v.wf) h) := by
  obtain ⟨a, c, xs, rfl, hc, hr, hat⟩ := rd.rows (by decide) v.items.length (fm_len edt_len _)
  have d0 : decide (v.kind = 0) = false := decide_eq_false (by omega)
  have d1 : decide (v.kind = 1) = true := decide_eq_true (by omega)
  have d2 : decide (v.kind = 2) = false := decide_eq_false (by omega)
  have d3 : decide (v.kind = 3) = false := decide_eq_false (by omega)
  have d4 : decide (v.kind = 4) = false := decide_eq_false (by omega)
  have d6 : decide (v.kind = 6) = false := decide_eq_false (by omega)
  have d7 : decide (v.kind = 7) = false := decide_eq_false (by omega)
  have d8 : decide (v.kind = 8) = false := decide_eq_false (by omega)
  rw [V.wf_eq]
  generalize wfEs v.next v.items [] = arr
  (refine enter Tryd.func45 rfl rfl (by kernel_rfl) [] ?_; simp only [go_sem, Nat.reduceBEq])
  simp only [d3, go_sem, Nat.reduceBEq]
  refine Br.intro (fun hs => ?_) (fun hs => ?_)
  · simp only [hs, go_sem, Nat.reduceBEq]
    have hs : ¬ v.str = ⟨#[]⟩ := by simpa using hs
    exact ⟨by simp [wf0, ha, hs], Ext.refl _⟩
  have hsr := hs
  have hs : v.str = ⟨#[]⟩ := by simpa using hs
  simp only [d4, hsr, go_sem, Nat.reduceBEq]
  refine Br.intro (fun hn => ?_) (fun hn => ?_)
  · simp only [hn, go_sem, Nat.reduceBEq]
    have hn : ¬ v.next = 0 := by simpa using hn
    exact ⟨by simp [wf0, ha, hs, hn], Ext.refl _⟩
  have hnr := hn
  have hn : v.next = 0 := by simpa using hn
  simp only [hnr, go_sem, Nat.reduceBEq]
  refine Br.intro (fun hl => ?_) (fun hl => ?_)
  · simp only [hl, go_sem, Nat.reduceBEq]
    have hl : 0 < v.items.length := by simpa using hl
    exact ⟨by simp [wf0, ha, hs, hn, hl], Ext.refl _⟩
  have hlr := hl
  have hl : ¬ 0 < v.items.length := by simpa using hl
  simp only [d0, d1, hlr, go_sem, Nat.reduceBEq]
  have hl : v.items.length = 0 := by omega
  (refine (l1In_c _ _ _ _).mono ?_; rintro _ _ ⟨rfl, rfl⟩; simp only [go_sem, Nat.reduceBEq])
  exact ⟨by simp [wf0, ha, hs, hn, hl], (Ext.refl _)⟩
theorem sWell_2 (v : V) (sl : Value) (h : Hp) (rd : RdE h v.items sl) (ha : v.kind = 2) : ACalls Tryd.prog 45 #[.agg #[.int .i64 v.kind, .int .i64 v.num, .string v.str, .int .i64 v.next, sl]] h (Is (.bool v.wf) h) := by
  obtain ⟨a, c, xs, rfl, hc, hr, hat⟩ := rd.rows (by decide) v.items.length (fm_len edt_len _)
  have d0 : decide (v.kind = 0) = false := decide_eq_false (by omega)
  have d1 : decide (v.kind = 1) = false := decide_eq_false (by omega)
  have d2 : decide (v.kind = 2) = true := decide_eq_true (by omega)
  have d3 : decide (v.kind = 3) = false := decide_eq_false (by omega)
  have d4 : decide (v.kind = 4) = false := decide_eq_false (by omega)
  have d6 : decide (v.kind = 6) = false := decide_eq_false (by omega)
  have d7 : decide (v.kind = 7) = false := decide_eq_false (by omega)
  have d8 : decide (v.kind = 8) = false := decide_eq_false (by omega)
  rw [V.wf_eq]
  generalize wfEs v.next v.items [] = arr
  (refine enter Tryd.func45 rfl rfl (by kernel_rfl) [] ?_; simp only [go_sem, Nat.reduceBEq])
  simp only [d3, go_sem, Nat.reduceBEq]
  refine Br.intro (fun hs => ?_) (fun hs => ?_)
  · simp only [hs, go_sem, Nat.reduceBEq]
    have hs : ¬ v.str = ⟨#[]⟩ := by simpa using hs
    exact ⟨by simp [wf0, ha, hs], Ext.refl _⟩
  have hsr := hs
  have hs : v.str = ⟨#[]⟩ := by simpa using hs
  simp only [d4, hsr, go_sem, Nat.reduceBEq]
  refine Br.intro (fun hn => ?_) (fun hn => ?_)
  · simp only [hn, go_sem, Nat.reduceBEq]
    have hn : ¬ v.next = 0 := by simpa using hn
    exact ⟨by simp [wf0, ha, hs, hn], Ext.refl _⟩
  have hnr := hn
  have hn : v.next = 0 := by simpa using hn
  simp only [hnr, go_sem, Nat.reduceBEq]
  refine Br.intro (fun hl => ?_) (fun hl => ?_)
  · simp only [hl, go_sem, Nat.reduceBEq]
    have hl : 0 < v.items.length := by simpa using hl
    exact ⟨by simp [wf0, ha, hs, hn, hl], Ext.refl _⟩
  have hlr := hl
  have hl : ¬ 0 < v.items.length := by simpa using hl
  simp only [d0, d1, d2, hlr, go_sem, Nat.reduceBEq]
  have hl : v.items.length = 0 := by omega
  (refine (l1In_c _ _ _ _).mono ?_; rintro _ _ ⟨rfl, rfl⟩; simp only [go_sem, Nat.reduceBEq])
  exact ⟨by simp [wf0, ha, hs, hn, hl], (Ext.refl _)⟩
theorem sWell_3 (v : V) (sl : Value) (h : Hp) (rd : RdE h v.items sl) (ha : v.kind = 3) : ACalls Tryd.prog 45 #[.agg #[.int .i64 v.kind, .int .i64 v.num, .string v.str, .int .i64 v.next, sl]] h (Is (.bool v.wf) h) := by
  obtain ⟨a, c, xs, rfl, hc, hr, hat⟩ := rd.rows (by decide) v.items.length (fm_len edt_len _)
  have d0 : decide (v.kind = 0) = false := decide_eq_false (by omega)
  have d1 : decide (v.kind = 1) = false := decide_eq_false (by omega)
  have d2 : decide (v.kind = 2) = false := decide_eq_false (by omega)
  have d3 : decide (v.kind = 3) = true := decide_eq_true (by omega)
  have d4 : decide (v.kind = 4) = false := decide_eq_false (by omega)
  have d6 : decide (v.kind = 6) = false := decide_eq_false (by omega)
  have d7 : decide (v.kind = 7) = false := decide_eq_false (by omega)
  have d8 : decide (v.kind = 8) = false := decide_eq_false (by omega)
  rw [V.wf_eq]
  generalize wfEs v.next v.items [] = arr
  (refine enter Tryd.func45 rfl rfl (by kernel_rfl) [] ?_; simp only [go_sem, Nat.reduceBEq])
  simp only [d3, d4, go_sem, Nat.reduceBEq]
  refine Br.intro (fun hn => ?_) (fun hn => ?_)
  · simp only [hn, go_sem, Nat.reduceBEq]
    have hn : ¬ v.next = 0 := by simpa using hn
    exact ⟨by simp [wf0, ha, hn], Ext.refl _⟩
  have hnr := hn
  have hn : v.next = 0 := by simpa using hn
  simp only [hnr, go_sem, Nat.reduceBEq]
  refine Br.intro (fun hl => ?_) (fun hl => ?_)
  · simp only [hl, go_sem, Nat.reduceBEq]
    have hl : 0 < v.items.length := by simpa using hl
    exact ⟨by simp [wf0, ha, hn, hl], Ext.refl _⟩
  have hlr := hl
  have hl : ¬ 0 < v.items.length := by simpa using hl
  simp only [d0, d1, d2, d3, hlr, go_sem, Nat.reduceBEq]
  have hl : v.items.length = 0 := by omega
  refine Br.intro (fun hq => ?_) (fun hq => ?_)
  · simp only [hq, go_sem, Nat.reduceBEq]
    have hq : v.num = 0 := by simpa using hq
    have hq3 : wf0 v arr = decide ((v.str.size : Int) ≤ 400) := by rw [show decide ((v.str.size : Int) ≤ 400) = decide (v.str.size ≤ 400) from decide_eq_decide.2 (by omega)]; simp [wf0, ha, hn, hl, hq]
    exact ⟨by rw [hq3], Ext.refl _⟩
  · simp only [hq, go_sem, Nat.reduceBEq]
    have hq : ¬ v.num = 0 := by simpa using hq
    exact ⟨by simp [wf0, ha, hn, hl, hq], Ext.refl _⟩
set_option maxHeartbeats 800000 in
theorem sWell_4 (v : V) (ih : ∀ e ∈ v.items, WfS e.2) (hbk : v.bulk ≤ 1099511627776) (sl : Value) (h : Hp) (rd : RdE h v.items sl) (ha : v.kind = 4) : ACalls Tryd.prog 45 #[.agg #[.int .i64 v.kind, .int .i64 v.num, .string v.str, .int .i64 v.next, sl]] h (Is (.bool v.wf) h) := by
  obtain ⟨a, c, xs, rfl, hc, hr, hat⟩ := rd.rows (by decide) v.items.length (fm_len edt_len _)
  have d0 : decide (v.kind = 0) = false := decide_eq_false (by omega)
  have d1 : decide (v.kind = 1) = false := decide_eq_false (by omega)
  have d2 : decide (v.kind = 2) = false := decide_eq_false (by omega)
  have d3 : decide (v.kind = 3) = false := decide_eq_false (by omega)
  have d4 : decide (v.kind = 4) = true := decide_eq_true (by omega)
  have d6 : decide (v.kind = 6) = false := decide_eq_false (by omega)
  have d7 : decide (v.kind = 7) = false := decide_eq_false (by omega)
  have d8 : decide (v.kind = 8) = false := decide_eq_false (by omega)
  rw [V.wf_eq]
  (refine enter Tryd.func45 rfl rfl (by kernel_rfl) [] ?_; simp only [go_sem, Nat.reduceBEq])
  simp only [d3, go_sem, Nat.reduceBEq]
  refine Br.intro (fun hs => ?_) (fun hs => ?_)
  · simp only [hs, go_sem, Nat.reduceBEq]
    have hs : ¬ v.str = ⟨#[]⟩ := by simpa using hs
    exact ⟨by simp [wf0, ha, hs], Ext.refl _⟩
  have hsr := hs
  have hs : v.str = ⟨#[]⟩ := by simpa using hs
  simp only [d0, d1, d2, d3, d4, d6, d7, d8, hsr, go_sem, Nat.reduceBEq]
  have hB := V.bulk_eq v
  have hlen := V.bulks_len v.items
  refine Br.intro (fun hz => ?_) (fun hz => ?_)
  · simp only [hz, go_sem, Nat.reduceBEq]
    have hz : ¬ v.num = 0 := by simpa using hz
    exact ⟨by simp [wf0, ha, hs, hz], Ext.refl _⟩
  have hzr := hz
  have hz : v.num = 0 := by simpa using hz
  simp only [hzr, go_sem, Nat.reduceBEq]
  (refine (l1In_c _ _ _ _).mono ?_; rintro _ _ ⟨rfl, rfl⟩; simp only [go_sem, Nat.reduceBEq])
  refine Br.intro (fun hx => ?_) (fun hx => ?_)
  · simp only [hx, go_sem, Nat.reduceBEq]
    have hx : decide (0 ≤ v.next ∧ v.next ≤ 1000000001) = false := by simpa only [Bool.not_eq_true'] using hx
    have e0 : wf0 v (wfEs v.next v.items []) = false := by simp only [wf0, hx, ha, hs, hz]; simp
    exact ⟨by rw [e0], Ext.refl _⟩
  simp only [hx, go_sem]
  have hx : decide (0 ≤ v.next ∧ v.next ≤ 1000000001) = true := by simpa only [Bool.not_eq_false'] using hx
  have e0 : wf0 v (wfEs v.next v.items []) = wfEs v.next v.items [] := by simp only [wf0, hx, ha, hs, hz]; simp
  rw [e0]
  refine aloop (ι := Nat) (fun i => [(3, .val (.int .i64 (i : Nat))), (1, .box 1 0)]) (fun _ => [(1, [.int .i64 v.kind, .int .i64 v.num, .string v.str, .int .i64 v.next, .slice a v.items.length c])])
    (fun i h' => i ≤ v.items.length ∧ Ext h h' ∧ wfEs v.next (v.items.drop i) ((v.items.take i).map (·.1)) = wfEs v.next v.items []) (fun i => v.items.length - i) 0 ⟨Nat.zero_le _, Ext.refl _, rfl⟩ (by repeat (first | exact wkF_e | refine wkF_c rfl ?_)) (wkB_c rfl wkB_e) rfl ?_
  rintro i h1 ⟨hi, e1, hq⟩
  have hi : i ≤ v.items.length := hi
  simp only [go_sem, Nat.reduceBEq]
  refine Br.intro (fun hb => ?_) (fun hb => ?_) <;> (try simp only [hb, go_sem, Nat.reduceBEq, Nat.reduceEqDiff])
  case refine_2 =>
    have hb : i = v.items.length := by simp at hb; omega
    rw [List.drop_eq_nil_of_le (by omega), wfEs_nil] at hq
    exact ⟨by rw [← hq], e1⟩
  have hb : i < v.items.length := by simpa using hb
  obtain ⟨b, off, rfl, hat'⟩ := hat (by omega)
  obtain ⟨e, he, hm⟩ := get_lt hb
  have wsu := wrap_succ (i := i) (by omega)
  have hbe := bulk_in hm
  rw [drop_cons he, wfEs_cons] at hq
  simp only [ix_nat hb, go_sem, Nat.reduceBEq]
  refine hsem_ekey tyS40 (hat'.mono e1) (hr.mono e1) he rfl ?_
  simp only [go_sem, Nat.reduceBEq, Nat.reduceAdd, Nat.reduceLeDiff]
  refine (sIsKey e.1 _ (by omega)).mono ?_
  rintro _ h2 ⟨rfl, e2⟩
  have e12 := e1.trans e2
  cases hk : keyOk e.1 with
  | false =>
    simp only [go_sem, Nat.reduceBEq]
    exact ⟨by rw [← hq, hk]; simp, e12⟩
  | true =>
    simp only [go_sem, Nat.reduceBEq]
    by_cases ht : e.1.text = true
    case pos =>
      have hnx : (!e.1.text && decide (v.next ≤ e.1.num)) = false := by rw [ht]; rfl
      have nt : (!e.1.text) = false := by rw [ht]; rfl
      simp only [nt, go_sem, Nat.reduceBEq, Nat.reduceAdd, Nat.reduceLeDiff]
      have hlf : v.find e.1 = fk v.items e.1 0 := by unfold V.find; rw [if_pos ha]
      obtain ⟨j, hj1, hj2⟩ := fk_at he
      rw [hj1] at hlf
      refine (sFind v e.1 (by omega) _ _ (rd.mono e12)).mono ?_
      rintro _ _ ⟨rfl, rfl⟩
      rw [hlf, ixI_some]
      simp only [go_sem, Nat.reduceBEq]
      by_cases hm1 : e.1 ∈ (v.items.take i).map (·.1)
      · have dm : decide ((j : Int) = (i : Int)) = false := decide_eq_false fun k => hj2.1 (by omega) hm1
        have hmd := decide_eq_true hm1
        simp only [dm, go_sem, Nat.reduceBEq]
        exact ⟨by rw [← hq, hmd]; simp, e12⟩
      have dm : decide ((j : Int) = (i : Int)) = true := decide_eq_true (by have := hj2.2 hm1; omega)
      have hmd := decide_eq_false hm1
      simp only [dm, go_sem, Nat.reduceBEq]
      simp only [ix_nat hb, go_sem, Nat.reduceBEq, Nat.reduceAdd]
      refine hsem_eval tyS26 (hat'.mono e12) (hr.mono e12) he rfl fun s2 rd2 => ?_
      obtain ⟨a2, c2, _, rfl, _⟩ := rd2.rows (by decide) e.2.items.length (fm_len edt_len _)
      simp only [go_sem, Nat.reduceBEq]
      refine (ih e hm (by omega) _ _ rd2).mono ?_
      rintro _ h3 ⟨rfl, e3⟩
      have e13 := e12.trans e3
      cases hw : e.2.wf with
      | false =>
        simp only [go_sem, Nat.reduceBEq]
        exact ⟨by rw [← hq, hw]; simp, e13⟩
      | true =>
        simp only [go_sem, Nat.reduceBEq]
        have hts : (v.items.take (i + 1)).map (·.1) = (v.items.take i).map (·.1) ++ [e.1] := by rw [take_snoc he, List.map_append]; rfl
        try simp only [wsu, go_sem]
        refine Again.intro (i + 1) (by first | omega | (simp only; omega)) ⟨hb, e13, ?_⟩ (by repeat (first | exact wkF_e | refine wkF_c rfl ?_)) (wkB_c rfl wkB_e) rfl
        rw [hts, ← hq, hk, hmd, hnx, hw]
        simp
    case neg =>
      have ht : e.1.text = false := by simpa using ht
      have nt : (!e.1.text) = true := by rw [ht]; rfl
      simp only [nt, go_sem, Nat.reduceBEq]
      by_cases hg : v.next ≤ e.1.num
      · have dg := decide_eq_true hg
        simp only [dg, go_sem, Nat.reduceBEq]
        exact ⟨by rw [← hq, ht, dg]; simp, e12⟩
      have dg := decide_eq_false hg
      have hnx : (!e.1.text && decide (v.next ≤ e.1.num)) = false := by rw [ht, dg]; rfl
      simp only [dg, go_sem, Nat.reduceBEq, Nat.reduceAdd, Nat.reduceLeDiff]
      have hlf : v.find e.1 = fk v.items e.1 0 := by unfold V.find; rw [if_pos ha]
      obtain ⟨j, hj1, hj2⟩ := fk_at he
      rw [hj1] at hlf
      refine (sFind v e.1 (by omega) _ _ (rd.mono e12)).mono ?_
      rintro _ _ ⟨rfl, rfl⟩
      rw [hlf, ixI_some]
      simp only [go_sem, Nat.reduceBEq]
      by_cases hm1 : e.1 ∈ (v.items.take i).map (·.1)
      · have dm : decide ((j : Int) = (i : Int)) = false := decide_eq_false fun k => hj2.1 (by omega) hm1
        have hmd := decide_eq_true hm1
        simp only [dm, go_sem, Nat.reduceBEq]
        exact ⟨by rw [← hq, hmd]; simp, e12⟩
      have dm : decide ((j : Int) = (i : Int)) = true := decide_eq_true (by have := hj2.2 hm1; omega)
      have hmd := decide_eq_false hm1
      simp only [dm, go_sem, Nat.reduceBEq]
      simp only [ix_nat hb, go_sem, Nat.reduceBEq, Nat.reduceAdd]
      refine hsem_eval tyS26 (hat'.mono e12) (hr.mono e12) he rfl fun s2 rd2 => ?_
      obtain ⟨a2, c2, _, rfl, _⟩ := rd2.rows (by decide) e.2.items.length (fm_len edt_len _)
      simp only [go_sem, Nat.reduceBEq]
      refine (ih e hm (by omega) _ _ rd2).mono ?_
      rintro _ h3 ⟨rfl, e3⟩
      have e13 := e12.trans e3
      cases hw : e.2.wf with
      | false =>
        simp only [go_sem, Nat.reduceBEq]
        exact ⟨by rw [← hq, hw]; simp, e13⟩
      | true =>
        simp only [go_sem, Nat.reduceBEq]
        have hts : (v.items.take (i + 1)).map (·.1) = (v.items.take i).map (·.1) ++ [e.1] := by rw [take_snoc he, List.map_append]; rfl
        try simp only [wsu, go_sem]
        refine Again.intro (i + 1) (by first | omega | (simp only; omega)) ⟨hb, e13, ?_⟩ (by repeat (first | exact wkF_e | refine wkF_c rfl ?_)) (wkB_c rfl wkB_e) rfl
        rw [hts, ← hq, hk, hmd, hnx, hw]
        simp
theorem sWell_6 (v : V) (sl : Value) (h : Hp) (rd : RdE h v.items sl) (ha : v.kind = 6) : ACalls Tryd.prog 45 #[.agg #[.int .i64 v.kind, .int .i64 v.num, .string v.str, .int .i64 v.next, sl]] h (Is (.bool v.wf) h) := by
  obtain ⟨a, c, xs, rfl, hc, hr, hat⟩ := rd.rows (by decide) v.items.length (fm_len edt_len _)
  have d0 : decide (v.kind = 0) = false := decide_eq_false (by omega)
  have d1 : decide (v.kind = 1) = false := decide_eq_false (by omega)
  have d2 : decide (v.kind = 2) = false := decide_eq_false (by omega)
  have d3 : decide (v.kind = 3) = false := decide_eq_false (by omega)
  have d4 : decide (v.kind = 4) = false := decide_eq_false (by omega)
  have d6 : decide (v.kind = 6) = true := decide_eq_true (by omega)
  have d7 : decide (v.kind = 7) = false := decide_eq_false (by omega)
  have d8 : decide (v.kind = 8) = false := decide_eq_false (by omega)
  rw [V.wf_eq]
  generalize wfEs v.next v.items [] = arr
  (refine enter Tryd.func45 rfl rfl (by kernel_rfl) [] ?_; simp only [go_sem, Nat.reduceBEq])
  simp only [d3, go_sem, Nat.reduceBEq]
  refine Br.intro (fun hs => ?_) (fun hs => ?_)
  · simp only [hs, go_sem, Nat.reduceBEq]
    have hs : ¬ v.str = ⟨#[]⟩ := by simpa using hs
    exact ⟨by simp [wf0, ha, hs], Ext.refl _⟩
  have hsr := hs
  have hs : v.str = ⟨#[]⟩ := by simpa using hs
  simp only [d4, hsr, go_sem, Nat.reduceBEq]
  refine Br.intro (fun hn => ?_) (fun hn => ?_)
  · simp only [hn, go_sem, Nat.reduceBEq]
    have hn : ¬ v.next = 0 := by simpa using hn
    exact ⟨by simp [wf0, ha, hs, hn], Ext.refl _⟩
  have hnr := hn
  have hn : v.next = 0 := by simpa using hn
  simp only [hnr, go_sem, Nat.reduceBEq]
  refine Br.intro (fun hl => ?_) (fun hl => ?_)
  · simp only [hl, go_sem, Nat.reduceBEq]
    have hl : 0 < v.items.length := by simpa using hl
    exact ⟨by simp [wf0, ha, hs, hn, hl], Ext.refl _⟩
  have hlr := hl
  have hl : ¬ 0 < v.items.length := by simpa using hl
  simp only [d0, d1, d2, d3, d6, hlr, go_sem, Nat.reduceBEq]
  have hl : v.items.length = 0 := by omega
  (refine (l1In_c _ _ _ _).mono ?_; rintro _ _ ⟨rfl, rfl⟩; simp only [go_sem, Nat.reduceBEq])
  exact ⟨by simp [wf0, ha, hs, hn, hl], (Ext.refl _)⟩
theorem sWell_7 (v : V) (sl : Value) (h : Hp) (rd : RdE h v.items sl) (ha : v.kind = 7) : ACalls Tryd.prog 45 #[.agg #[.int .i64 v.kind, .int .i64 v.num, .string v.str, .int .i64 v.next, sl]] h (Is (.bool v.wf) h) := by
  obtain ⟨a, c, xs, rfl, hc, hr, hat⟩ := rd.rows (by decide) v.items.length (fm_len edt_len _)
  have d0 : decide (v.kind = 0) = false := decide_eq_false (by omega)
  have d1 : decide (v.kind = 1) = false := decide_eq_false (by omega)
  have d2 : decide (v.kind = 2) = false := decide_eq_false (by omega)
  have d3 : decide (v.kind = 3) = false := decide_eq_false (by omega)
  have d4 : decide (v.kind = 4) = false := decide_eq_false (by omega)
  have d6 : decide (v.kind = 6) = false := decide_eq_false (by omega)
  have d7 : decide (v.kind = 7) = true := decide_eq_true (by omega)
  have d8 : decide (v.kind = 8) = false := decide_eq_false (by omega)
  rw [V.wf_eq]
  generalize wfEs v.next v.items [] = arr
  (refine enter Tryd.func45 rfl rfl (by kernel_rfl) [] ?_; simp only [go_sem, Nat.reduceBEq])
  simp only [d3, go_sem, Nat.reduceBEq]
  refine Br.intro (fun hs => ?_) (fun hs => ?_)
  · simp only [hs, go_sem, Nat.reduceBEq]
    have hs : ¬ v.str = ⟨#[]⟩ := by simpa using hs
    exact ⟨by simp [wf0, ha, hs], Ext.refl _⟩
  have hsr := hs
  have hs : v.str = ⟨#[]⟩ := by simpa using hs
  simp only [d4, hsr, go_sem, Nat.reduceBEq]
  refine Br.intro (fun hn => ?_) (fun hn => ?_)
  · simp only [hn, go_sem, Nat.reduceBEq]
    have hn : ¬ v.next = 0 := by simpa using hn
    exact ⟨by simp [wf0, ha, hs, hn], Ext.refl _⟩
  have hnr := hn
  have hn : v.next = 0 := by simpa using hn
  simp only [hnr, go_sem, Nat.reduceBEq]
  refine Br.intro (fun hl => ?_) (fun hl => ?_)
  · simp only [hl, go_sem, Nat.reduceBEq]
    have hl : 0 < v.items.length := by simpa using hl
    exact ⟨by simp [wf0, ha, hs, hn, hl], Ext.refl _⟩
  have hlr := hl
  have hl : ¬ 0 < v.items.length := by simpa using hl
  simp only [d0, d1, d2, d3, d6, d7, hlr, go_sem, Nat.reduceBEq]
  have hl : v.items.length = 0 := by omega
  (refine (l1In_c _ _ _ _).mono ?_; rintro _ _ ⟨rfl, rfl⟩; simp only [go_sem, Nat.reduceBEq])
  exact ⟨by simp [wf0, ha, hs, hn, hl], (Ext.refl _)⟩
theorem sWell_8 (v : V) (sl : Value) (h : Hp) (rd : RdE h v.items sl) (ha : v.kind = 8) : ACalls Tryd.prog 45 #[.agg #[.int .i64 v.kind, .int .i64 v.num, .string v.str, .int .i64 v.next, sl]] h (Is (.bool v.wf) h) := by
  obtain ⟨a, c, xs, rfl, hc, hr, hat⟩ := rd.rows (by decide) v.items.length (fm_len edt_len _)
  have d0 : decide (v.kind = 0) = false := decide_eq_false (by omega)
  have d1 : decide (v.kind = 1) = false := decide_eq_false (by omega)
  have d2 : decide (v.kind = 2) = false := decide_eq_false (by omega)
  have d3 : decide (v.kind = 3) = false := decide_eq_false (by omega)
  have d4 : decide (v.kind = 4) = false := decide_eq_false (by omega)
  have d6 : decide (v.kind = 6) = false := decide_eq_false (by omega)
  have d7 : decide (v.kind = 7) = false := decide_eq_false (by omega)
  have d8 : decide (v.kind = 8) = true := decide_eq_true (by omega)
  rw [V.wf_eq]
  generalize wfEs v.next v.items [] = arr
  (refine enter Tryd.func45 rfl rfl (by kernel_rfl) [] ?_; simp only [go_sem, Nat.reduceBEq])
  simp only [d3, go_sem, Nat.reduceBEq]
  refine Br.intro (fun hs => ?_) (fun hs => ?_)
  · simp only [hs, go_sem, Nat.reduceBEq]
    have hs : ¬ v.str = ⟨#[]⟩ := by simpa using hs
    exact ⟨by simp [wf0, ha, hs], Ext.refl _⟩
  have hsr := hs
  have hs : v.str = ⟨#[]⟩ := by simpa using hs
  simp only [d4, hsr, go_sem, Nat.reduceBEq]
  refine Br.intro (fun hn => ?_) (fun hn => ?_)
  · simp only [hn, go_sem, Nat.reduceBEq]
    have hn : ¬ v.next = 0 := by simpa using hn
    exact ⟨by simp [wf0, ha, hs, hn], Ext.refl _⟩
  have hnr := hn
  have hn : v.next = 0 := by simpa using hn
  simp only [hnr, go_sem, Nat.reduceBEq]
  refine Br.intro (fun hl => ?_) (fun hl => ?_)
  · simp only [hl, go_sem, Nat.reduceBEq]
    have hl : 0 < v.items.length := by simpa using hl
    exact ⟨by simp [wf0, ha, hs, hn, hl], Ext.refl _⟩
  have hlr := hl
  have hl : ¬ 0 < v.items.length := by simpa using hl
  simp only [d0, d1, d2, d3, d6, d7, d8, hlr, go_sem, Nat.reduceBEq]
  have hl : v.items.length = 0 := by omega
  (refine (l1In_c _ _ _ _).mono ?_; rintro _ _ ⟨rfl, rfl⟩; simp only [go_sem, Nat.reduceBEq])
  exact ⟨by simp [wf0, ha, hs, hn, hl], (Ext.refl _)⟩
theorem sWell_o (v : V) (sl : Value) (h : Hp) (rd : RdE h v.items sl) (ha : ¬ v.kind = 0 ∧ ¬ v.kind = 1 ∧ ¬ v.kind = 2 ∧ ¬ v.kind = 3 ∧ ¬ v.kind = 4 ∧ ¬ v.kind = 6 ∧ ¬ v.kind = 7 ∧ ¬ v.kind = 8) : ACalls Tryd.prog 45 #[.agg #[.int .i64 v.kind, .int .i64 v.num, .string v.str, .int .i64 v.next, sl]] h (Is (.bool v.wf) h) := by
  obtain ⟨a, c, xs, rfl, hc, hr, hat⟩ := rd.rows (by decide) v.items.length (fm_len edt_len _)
  have d0 : decide (v.kind = 0) = false := decide_eq_false (by omega)
  have d1 : decide (v.kind = 1) = false := decide_eq_false (by omega)
  have d2 : decide (v.kind = 2) = false := decide_eq_false (by omega)
  have d3 : decide (v.kind = 3) = false := decide_eq_false (by omega)
  have d4 : decide (v.kind = 4) = false := decide_eq_false (by omega)
  have d6 : decide (v.kind = 6) = false := decide_eq_false (by omega)
  have d7 : decide (v.kind = 7) = false := decide_eq_false (by omega)
  have d8 : decide (v.kind = 8) = false := decide_eq_false (by omega)
  obtain ⟨a0, a1, a2, a3, a4, a6, a7, a8⟩ := ha
  rw [V.wf_eq]
  generalize wfEs v.next v.items [] = arr
  (refine enter Tryd.func45 rfl rfl (by kernel_rfl) [] ?_; simp only [go_sem, Nat.reduceBEq])
  simp only [d3, go_sem, Nat.reduceBEq]
  refine Br.intro (fun hs => ?_) (fun hs => ?_)
  · simp only [hs, go_sem, Nat.reduceBEq]
    have hs : ¬ v.str = ⟨#[]⟩ := by simpa using hs
    exact ⟨by simp [wf0, a0, a1, a2, a3, a4, a6, a7, a8, hs], Ext.refl _⟩
  have hsr := hs
  have hs : v.str = ⟨#[]⟩ := by simpa using hs
  simp only [d4, hsr, go_sem, Nat.reduceBEq]
  refine Br.intro (fun hn => ?_) (fun hn => ?_)
  · simp only [hn, go_sem, Nat.reduceBEq]
    have hn : ¬ v.next = 0 := by simpa using hn
    exact ⟨by simp [wf0, a0, a1, a2, a3, a4, a6, a7, a8, hs, hn], Ext.refl _⟩
  have hnr := hn
  have hn : v.next = 0 := by simpa using hn
  simp only [hnr, go_sem, Nat.reduceBEq]
  refine Br.intro (fun hl => ?_) (fun hl => ?_)
  · simp only [hl, go_sem, Nat.reduceBEq]
    have hl : 0 < v.items.length := by simpa using hl
    exact ⟨by simp [wf0, a0, a1, a2, a3, a4, a6, a7, a8, hs, hn, hl], Ext.refl _⟩
  have hlr := hl
  have hl : ¬ 0 < v.items.length := by simpa using hl
  simp only [d0, d1, d2, d3, d4, d6, d7, d8, hlr, go_sem, Nat.reduceBEq]
  have hl : v.items.length = 0 := by omega
  exact ⟨by simp [wf0, a0, a1, a2, a3, a4, a6, a7, a8, hs, hn, hl], (Ext.refl _)⟩
theorem sWell : ∀ v, WfS v := V.ind fun v ih hbk sl h rd => by
  rcases k9 v.kind with ha | ha | ha | ha | ha | ha | ha | ha | ha
  · exact sWell_0 v sl h rd ha
  · exact sWell_1 v sl h rd ha
  · exact sWell_2 v sl h rd ha
  · exact sWell_3 v sl h rd ha
  · exact sWell_4 v ih hbk sl h rd ha
  · exact sWell_6 v sl h rd ha
  · exact sWell_7 v sl h rd ha
  · exact sWell_8 v sl h rd ha
  · exact sWell_o v sl h rd ha
theorem iIsValue (v : V) (hb : v.bulk ≤ 1099511627776) (sl : Value) (h : Hp) (rd : RdE h v.items sl) (hE : Env h) : ACalls Tryd.prog 89 #[.agg #[.int .i64 v.kind, .int .i64 v.num, .string v.str, .int .i64 v.next, sl]] h (Is (.bool v.valid) h) := by
  (refine enter Tryd.func89 rfl rfl (by kernel_rfl) [] ?_; simp only [go_sem, Nat.reduceBEq, Nat.reduceAdd, Nat.reduceLeDiff])
  (refine (iWeight v hb _ _ rd).mono ?_; rintro _ _ ⟨rfl, rfl⟩; simp only [go_sem, Nat.reduceBEq])
  have hd : decide (((v.weight : Nat) : Int) ≤ 200) = decide (v.weight ≤ 200) := decide_eq_decide.2 (by omega)
  unfold V.valid
  simp only [hd, go_sem]
  refine Br.intro (fun h1 => ?_) (fun h1 => ?_) <;> (try simp only [h1, go_sem, Nat.reduceBEq, Nat.reduceAdd, Nat.reduceLeDiff])
  · refine (iWell v hb _ _ rd hE).mono ?_
    rintro _ h2 ⟨rfl, e2⟩
    simp only [go_sem, Nat.reduceBEq]
    exact ⟨by simp, e2⟩
  · exact ⟨by simp, Ext.refl _⟩
theorem sIsValue (v : V) (hb : v.bulk ≤ 1099511627776) (sl : Value) (h : Hp) (rd : RdE h v.items sl) : ACalls Tryd.prog 10 #[.agg #[.int .i64 v.kind, .int .i64 v.num, .string v.str, .int .i64 v.next, sl]] h (Is (.bool v.valid) h) := by
  (refine enter Tryd.func10 rfl rfl (by kernel_rfl) [] ?_; simp only [go_sem, Nat.reduceBEq, Nat.reduceAdd, Nat.reduceLeDiff])
  refine (sWeigh v hb 200 (by decide) _ _ rd).mono ?_
  rintro _ _ ⟨rfl, r, rfl, hr1, hr2⟩
  have hd : decide (((r : Nat) : Int) ≤ 200) = decide (v.weight ≤ 200) := decide_eq_decide.2 (by
    constructor
    · intro h; have := hr2 (by omega); omega
    · intro h; omega)
  unfold V.valid
  simp only [hd, go_sem, Nat.reduceBEq]
  refine Br.intro (fun h1 => ?_) (fun h1 => ?_) <;> (try simp only [h1, go_sem, Nat.reduceBEq, Nat.reduceAdd, Nat.reduceLeDiff])
  · refine (sWell v hb _ _ rd).mono ?_
    rintro _ h2 ⟨rfl, e2⟩
    simp only [go_sem, Nat.reduceBEq]
    exact ⟨by simp, e2⟩
  · exact ⟨by simp, Ext.refl _⟩
end Go.Proofs.YtconhonjkfpfmaaDoor
