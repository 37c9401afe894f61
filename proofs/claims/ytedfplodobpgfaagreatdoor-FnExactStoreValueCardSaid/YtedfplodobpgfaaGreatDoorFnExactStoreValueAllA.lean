/-
  The statement FnExactStoreValue is proved: for each argument the law returns true; nothing is assumed.
-/
import Derived.Test.YtedfplodobpgfaaGreatDoorKey
import Derived.Test.YtedfplodobpgfaaGreatDoorFind
import Derived.Test.YtedfplodobpgfaaGreatDoorSxValid
import Derived.Test.YtedfplodobpgfaaGreatDoorSxMaps
import Derived.Test.YtedfplodobpgfaaGreatDoorSxHeld
import Derived.Test.YtedfplodobpgfaaGreatDoorNum
import Derived.Test.YtedfplodobpgfaaGreatDoorSxTabI
import Derived.Test.YtedfplodobpgfaaGreatDoorSxMathV
import Derived.Test.YtedfplodobpgfaaGreatDoorSxTab
import Derived.Test.YtedfplodobpgfaaGreatDoorSxHeapM
import Derived.Test.YtedfplodobpgfaaGreatDoorSxHole
import Derived.Test.YtedfplodobpgfaaGreatDoorSxMathW
namespace Go.Proofs.YtedfplodobpgfaaGreatDoor
set_option maxRecDepth 8000
open Go Go.Sx
theorem bulk_in : ∀ {es : List (Ky × V)} {e : Ky × V}, e ∈ es → e.1.str.size + e.2.bulk + 1 ≤ V.bulks es
  | (k, v) :: r, e, he => by
    simp only [V.bulks]
    cases he with
    | head => simp only; omega
    | tail _ he => have := bulk_in he; omega
def WeiI (v : V) : Prop := v.bulk ≤ 1099511627776 → ∀ (sl : Value) (h : Hp), RdE h v.items sl → ACalls Tryz.prog 146 #[.agg #[.int .i64 v.kind, .int .i64 v.num, .string v.str, .int .i64 v.next, sl]] h (Pu (.int .i64 (v.weight : Nat)) h)
theorem iWeight : ∀ v, WeiI v := V.ind fun v ih hbk sl h rd => by
  have hB := V.bulk_eq v
  have hlen := V.bulks_len v.items
  have hwb := V.weights_bulk v.items
  obtain ⟨a, c, xs, rfl, hc, hr, hat⟩ := rd.rows (by decide) v.items.length (fm_len edt_len _)
  (refine enter Tryz.func146 rfl rfl (by kernel_rfl) [] ?_; simp only [go_sem, Nat.reduceBEq])
  refine Br.intro (fun hk => ?_) (fun hk => ?_) <;> (try simp only [hk, go_sem, Nat.reduceBEq])
  · have hk : v.kind = 4 := by simpa using hk
    have e0 : v.weight = 1 + V.weights v.items := by rw [V.weight_eq, if_pos hk]
    rw [e0]
    refine aloop (ι := Nat) (fun i => [(12, .val (.int .i64 (i : Nat))), (11, .val (.int .i64 (v.items.length : Nat))), (10, .val (.slice a v.items.length c)), (3, .val (.int .i64 ((1 + V.weights (v.items.take i) : Nat))))]) (fun _ => []) (fun i h' => i ≤ v.items.length ∧ h = h') (fun i => v.items.length - i) 0
      ⟨Nat.zero_le _, rfl⟩ (by simp only [List.take_zero, V.weights_nil]; exact (by repeat (first | exact wkF_e | refine wkF_c rfl ?_))) wkB_e rfl ?_
    rintro i _ ⟨hi, rfl⟩
    have hi : i ≤ v.items.length := hi
    have hwt := V.weights_take v.items i
    simp only [go_sem, Nat.reduceBEq]
    refine Br.intro (fun hb => ?_) (fun hb => ?_) <;> (try simp only [hb, go_sem, Nat.reduceBEq])
    · have hb : i < v.items.length := by simpa using hb
      obtain ⟨b, off, rfl, hat'⟩ := hat (by omega)
      obtain ⟨e, he, hm⟩ := get_lt hb
      have wsu := wrap_succ (i := i) (by omega)
      have hbe := bulk_in hm
      have hw2 := V.weight_bulk e.2
      have hsn := V.weights_snoc he
      simp only [ix_nat hb, go_sem, Nat.reduceBEq]
      refine hsem_entry tyS141 hat' hr he rfl fun s2 rd2 => ?_
      obtain ⟨a2, c2, _, rfl, _⟩ := rd2.rows (by decide) e.2.items.length (fm_len edt_len _)
      simp only [go_sem, Nat.reduceBEq, Nat.reduceAdd, Nat.reduceLeDiff]
      (refine (ih e hm (by omega) _ _ rd2).mono ?_; rintro _ _ ⟨rfl, rfl⟩; simp only [go_sem, Nat.reduceBEq])
      have hwr : IntKind.i64.wrap (((1 + V.weights (v.items.take i) : Nat) : Int) + (e.2.weight : Nat)) = ((1 + V.weights (v.items.take (i + 1)) : Nat) : Int) := by rw [hsn, IntWalk.i64_in _ (by omega)]; omega
      simp only [hwr, wsu, go_sem]
      exact Again.intro (i + 1) (by first | omega | (simp only; omega)) ⟨hb, rfl⟩ (by repeat (first | exact wkF_e | refine wkF_c rfl ?_)) wkB_e rfl
    · have hb : i = v.items.length := by simp at hb; omega
      subst hb
      rw [List.take_length]
      exact ⟨rfl, rfl⟩
  · have hk : ¬ v.kind = 4 := by simpa using hk
    exact ⟨by rw [V.weight_eq, if_neg hk]; rfl, rfl⟩
/-- the weight, or more than most -/
def Wei (v : V) (most : Nat) (h : Hp) (u : Value) (h' : Hp) : Prop := h = h' ∧ ∃ r : Nat, u = .int .i64 (r : Nat) ∧ r ≤ v.weight ∧ (r ≤ most → r = v.weight)
def WeiS (v : V) : Prop := v.bulk ≤ 1099511627776 → ∀ (most : Nat) (_ : most ≤ 1099511627776) (sl : Value) (h : Hp), RdE h v.items sl → ACalls Tryz.prog 144 #[.agg #[.int .i64 v.kind, .int .i64 v.num, .string v.str, .int .i64 v.next, sl], .int .i64 (most : Nat)] h (Wei v most h)
theorem sWeigh : ∀ v, WeiS v := V.ind fun v ih hbk most hmost sl h rd => by
  have hB := V.bulk_eq v
  have hlen := V.bulks_len v.items
  have hwb := V.weights_bulk v.items
  obtain ⟨a, c, xs, rfl, hc, hr, hat⟩ := rd.rows (by decide) v.items.length (fm_len edt_len _)
  (refine enter Tryz.func144 rfl rfl (by kernel_rfl) [] ?_; simp only [go_sem, Nat.reduceBEq])
  by_cases hk : v.kind = 4
  · have e0 : v.weight = 1 + V.weights v.items := by rw [V.weight_eq, if_pos hk]
    refine aloop (ι := Nat × Nat) (fun x => [(6, .val (.int .i64 (x.1 : Nat))), (5, .val (.int .i64 (x.2 : Nat))), (1, .val (.int .i64 (most : Nat))), (2, .box 2 0)]) (fun _ => [(2, [.int .i64 v.kind, .int .i64 v.num, .string v.str, .int .i64 v.next, .slice a v.items.length c])])
      (fun x h' => x.1 ≤ v.items.length ∧ x.2 ≤ 1 + V.weights (v.items.take x.1) ∧ (x.2 ≤ most → x.2 = 1 + V.weights (v.items.take x.1)) ∧ h = h') (fun x => v.items.length - x.1) (0, 1)
      ⟨Nat.zero_le _, by omega, fun _ => by simp [V.weights_nil], rfl⟩ (by repeat (first | exact wkF_e | refine wkF_c rfl ?_)) (wkB_c rfl wkB_e) rfl ?_
    rintro ⟨i, n⟩ _ ⟨hi, hn, hq, rfl⟩
    have hi : i ≤ v.items.length := hi
    have hn : n ≤ 1 + V.weights (v.items.take i) := hn
    have hq : n ≤ most → n = 1 + V.weights (v.items.take i) := hq
    have hwt := V.weights_take v.items i
    have dk : decide (v.kind = 4) = true := decide_eq_true hk
    simp only [dk, go_sem, Nat.reduceBEq]
    refine Br.intro (fun hb => ?_) (fun hb => ?_) <;> (try simp only [hb, go_sem, Nat.reduceBEq])
    · have hb : i < v.items.length := by simpa using hb
      refine Br.intro (fun hle => ?_) (fun hle => ?_) <;> (try simp only [hle, go_sem, Nat.reduceBEq])
      · have hle : n ≤ most := by have := of_decide_eq_true hle; omega
        obtain ⟨b, off, rfl, hat'⟩ := hat (by omega)
        obtain ⟨e, he, hm⟩ := get_lt hb
        have wsu := wrap_succ (i := i) (by omega)
        have hbe := bulk_in hm
        have hw2 := V.weight_bulk e.2
        have hsn := V.weights_snoc he
        have hn1 := hq hle
        have wsub : IntKind.i64.wrap ((most : Int) - (n : Int)) = ((most - n : Nat) : Int) := by rw [IntWalk.i64_in _ (by omega)]; omega
        simp only [ix_nat hb, go_sem, Nat.reduceBEq, Nat.reduceAdd]
        refine hsem_eval tyS44 hat' hr he rfl fun s2 rd2 => ?_
        obtain ⟨a2, c2, _, rfl, _⟩ := rd2.rows (by decide) e.2.items.length (fm_len edt_len _)
        simp only [wsub, go_sem, Nat.reduceBEq]
        refine (ih e hm (by omega) (most - n) (by omega) _ _ rd2).mono ?_
        rintro _ _ ⟨rfl, r, rfl, hr1, hr2⟩
        have hwr : IntKind.i64.wrap ((n : Int) + (r : Nat)) = ((n + r : Nat) : Int) := by rw [IntWalk.i64_in _ (by omega)]; rfl
        simp only [hwr, wsu, go_sem, Nat.reduceBEq]
        exact Again.intro (i + 1, n + r) (by first | omega | (simp only; omega)) ⟨hb, by simp only; omega, fun hx => by have hx : n + r ≤ most := hx; have := hr2 (by omega); simp only; omega, rfl⟩ (by repeat (first | exact wkF_e | refine wkF_c rfl ?_)) (wkB_c rfl wkB_e) rfl
      · have hle : ¬ n ≤ most := by have := of_decide_eq_false hle; omega
        exact ⟨rfl, n, rfl, by rw [e0]; omega, fun hx => absurd hx hle⟩
    · have hb : i = v.items.length := by simp at hb; omega
      subst hb
      rw [List.take_length] at hn hq
      exact ⟨rfl, n, rfl, by rw [e0]; omega, fun hx => by rw [e0]; exact hq hx⟩
  · have dk : decide (v.kind = 4) = false := decide_eq_false hk
    refine aloop (ι := Unit) (fun _ => [(6, .val (.int .i64 0)), (5, .val (.int .i64 1)), (1, .val (.int .i64 (most : Nat))), (2, .box 2 0)]) (fun _ => [(2, [.int .i64 v.kind, .int .i64 v.num, .string v.str, .int .i64 v.next, .slice a v.items.length c])]) (fun _ h' => h = h') (fun _ => 0) () rfl (by repeat (first | exact wkF_e | refine wkF_c rfl ?_)) (wkB_c rfl wkB_e) rfl ?_
    rintro _ _ rfl
    simp only [dk, go_sem, Nat.reduceBEq]
    have e0 : v.weight = 1 := by rw [V.weight_eq, if_neg hk]
    exact ⟨rfl, 1, rfl, by rw [e0]; exact Nat.le_refl _, fun _ => e0.symm⟩
theorem k9 (k : Int) : k = 0 ∨ k = 1 ∨ k = 2 ∨ k = 3 ∨ k = 4 ∨ k = 6 ∨ k = 7 ∨ k = 8 ∨ (¬ k = 0 ∧ ¬ k = 1 ∧ ¬ k = 2 ∧ ¬ k = 3 ∧ ¬ k = 4 ∧ ¬ k = 6 ∧ ¬ k = 7 ∧ ¬ k = 8) := by omega
def WfI (v : V) : Prop := v.bulk ≤ 1099511627776 → ∀ (sl : Value) (h : Hp), RdE h v.items sl → Env h → ACalls Tryz.prog 147 #[.agg #[.int .i64 v.kind, .int .i64 v.num, .string v.str, .int .i64 v.next, sl]] h (Is (.bool v.wf) h)
theorem iWell_0 (v : V) (sl : Value) (h : Hp) (rd : RdE h v.items sl) (ha : v.kind = 0) : ACalls Tryz.prog 147 #[.agg #[.int .i64 v.kind, .int .i64 v.num, .string v.str, .int .i64 v.next, sl]] h (Is (.bool v.wf) h) := by
  obtain ⟨a, c, xs, rfl, hc, hr, hat⟩ := rd.rows (by decide) v.items.length (fm_len edt_len _)
  have d0 : decide (v.kind = 0) = true := decide_eq_true (by omega)
  have d1 : decide (v.kind = 1) = false := decide_eq_false (by omega)
  have d2 : decide (v.kind = 2) = false := decide_eq_false (by omega)
  have d3 : decide (v.kind = 3) = false := decide_eq_false (by omega)
  have d4 : decide (v.kind = 4) = false := decide_eq_false (by omega)
  have d6 : decide (v.kind = 6) = false := decide_eq_false (by omega)
  have d7 : decide (v.kind = 7) = false := decide_eq_false (by omega)
  have d8 : decide (v.kind = 8) = false := decide_eq_false (by omega)
  rw [V.wf_eq]
  generalize wfEs v.next v.items [] = arr
  (refine enter Tryz.func147 rfl rfl (by kernel_rfl) [] ?_; simp only [go_sem, Nat.reduceBEq])
  simp only [d3, go_sem, Nat.reduceBEq]
  refine Br.intro (fun hs => ?_) (fun hs => ?_)
  · simp only [hs, go_sem, Nat.reduceBEq]
    have hs : ¬ v.str = ⟨#[]⟩ := by simpa using hs
    exact ⟨by simp [wf0, ha, hs], Ext.refl _⟩
  have hsr := hs
  have hs : v.str = ⟨#[]⟩ := by simpa using hs
  simp only [d4, hsr, go_sem, Nat.reduceBEq]
  refine Br.intro (fun hn => ?_) (fun hn => ?_)
  · simp only [hn, go_sem, Nat.reduceBEq]
    have hn : ¬ v.next = 0 := by simpa using hn
    exact ⟨by simp [wf0, ha, hs, hn], Ext.refl _⟩
  have hnr := hn
  have hn : v.next = 0 := by simpa using hn
  simp only [hnr, go_sem, Nat.reduceBEq]
  refine Br.intro (fun hl => ?_) (fun hl => ?_)
  · simp only [hl, go_sem, Nat.reduceBEq]
    have hl : 0 < v.items.length := by simpa using hl
    exact ⟨by simp [wf0, ha, hs, hn, hl], Ext.refl _⟩
  have hlr := hl
  have hl : ¬ 0 < v.items.length := by simpa using hl
  simp only [d0, hlr, go_sem, Nat.reduceBEq]
  have hl : v.items.length = 0 := by omega
  exact ⟨by simp [wf0, ha, hs, hn, hl], (Ext.refl _)⟩
theorem iWell_1 (v : V) (sl : Value) (h : Hp) (rd : RdE h v.items sl) (ha : v.kind = 1) : ACalls Tryz.prog 147 #[.agg #[.int .i64 v.kind, .int .i64 v.num, .string v.str, .int .i64 v.next, sl]] h (Is (.bool v.wf) h) := by
  obtain ⟨a, c, xs, rfl, hc, hr, hat⟩ := rd.rows (by decide) v.items.length (fm_len edt_len _)
  have d0 : decide (v.kind = 0) = false := decide_eq_false (by omega)
  have d1 : decide (v.kind = 1) = true := decide_eq_true (by omega)
  have d2 : decide (v.kind = 2) = false := decide_eq_false (by omega)
  have d3 : decide (v.kind = 3) = false := decide_eq_false (by omega)
  have d4 : decide (v.kind = 4) = false := decide_eq_false (by omega)
  have d6 : decide (v.kind = 6) = false := decide_eq_false (by omega)
  have d7 : decide (v.kind = 7) = false := decide_eq_false (by omega)
  have d8 : decide (v.kind = 8) = false := decide_eq_false (by omega)
  rw [V.wf_eq]
  generalize wfEs v.next v.items [] = arr
  (refine enter Tryz.func147 rfl rfl (by kernel_rfl) [] ?_; simp only [go_sem, Nat.reduceBEq])
  simp only [d3, go_sem, Nat.reduceBEq]
  refine Br.intro (fun hs => ?_) (fun hs => ?_)
  · simp only [hs, go_sem, Nat.reduceBEq]
    have hs : ¬ v.str = ⟨#[]⟩ := by simpa using hs
    exact ⟨by simp [wf0, ha, hs], Ext.refl _⟩
  have hsr := hs
  have hs : v.str = ⟨#[]⟩ := by simpa using hs
  simp only [d4, hsr, go_sem, Nat.reduceBEq]
  refine Br.intro (fun hn => ?_) (fun hn => ?_)
  · simp only [hn, go_sem, Nat.reduceBEq]
    have hn : ¬ v.next = 0 := by simpa using hn
    exact ⟨by simp [wf0, ha, hs, hn], Ext.refl _⟩
  have hnr := hn
  have hn : v.next = 0 := by simpa using hn
  simp only [hnr, go_sem, Nat.reduceBEq]
  refine Br.intro (fun hl => ?_) (fun hl => ?_)
  · simp only [hl, go_sem, Nat.reduceBEq]
    have hl : 0 < v.items.length := by simpa using hl
    exact ⟨by simp [wf0, ha, hs, hn, hl], Ext.refl _⟩
  have hlr := hl
  have hl : ¬ 0 < v.items.length := by simpa using hl
  simp only [d0, d1, hlr, go_sem, Nat.reduceBEq]
  have hl : v.items.length = 0 := by omega
  refine Br.intro (fun hq => ?_) (fun hq => ?_)
  · simp only [hq, go_sem, Nat.reduceBEq]
    have hq : v.num = 0 := by simpa using hq
    exact ⟨by simp [wf0, ha, hs, hn, hl, hq], Ext.refl _⟩
  · simp only [hq, go_sem, Nat.reduceBEq]
    have hq : ¬ v.num = 0 := by simpa using hq
    have hq2 : decide (0 ≤ v.num ∧ v.num ≤ 1) = decide (v.num = 1) := decide_eq_decide.2 (by omega)
    have hq3 : wf0 v arr = decide (v.num = 1) := by rw [← hq2]; simp [wf0, ha, hs, hn, hl]
    exact ⟨by rw [hq3], Ext.refl _⟩
theorem iWell_2 (v : V) (sl : Value) (h : Hp) (rd : RdE h v.items sl) (ha : v.kind = 2) : ACalls Tryz.prog 147 #[.agg #[.int .i64 v.kind, .int .i64 v.num, .string v.str, .int .i64 v.next, sl]] h (Is (.bool v.wf) h) := by
  obtain ⟨a, c, xs, rfl, hc, hr, hat⟩ := rd.rows (by decide) v.items.length (fm_len edt_len _)
  have d0 : decide (v.kind = 0) = false := decide_eq_false (by omega)
  have d1 : decide (v.kind = 1) = false := decide_eq_false (by omega)
  have d2 : decide (v.kind = 2) = true := decide_eq_true (by omega)
  have d3 : decide (v.kind = 3) = false := decide_eq_false (by omega)
  have d4 : decide (v.kind = 4) = false := decide_eq_false (by omega)
  have d6 : decide (v.kind = 6) = false := decide_eq_false (by omega)
  have d7 : decide (v.kind = 7) = false := decide_eq_false (by omega)
  have d8 : decide (v.kind = 8) = false := decide_eq_false (by omega)
  rw [V.wf_eq]
  generalize wfEs v.next v.items [] = arr
  (refine enter Tryz.func147 rfl rfl (by kernel_rfl) [] ?_; simp only [go_sem, Nat.reduceBEq])
  simp only [d3, go_sem, Nat.reduceBEq]
  refine Br.intro (fun hs => ?_) (fun hs => ?_)
  · simp only [hs, go_sem, Nat.reduceBEq]
    have hs : ¬ v.str = ⟨#[]⟩ := by simpa using hs
    exact ⟨by simp [wf0, ha, hs], Ext.refl _⟩
  have hsr := hs
  have hs : v.str = ⟨#[]⟩ := by simpa using hs
  simp only [d4, hsr, go_sem, Nat.reduceBEq]
  refine Br.intro (fun hn => ?_) (fun hn => ?_)
  · simp only [hn, go_sem, Nat.reduceBEq]
    have hn : ¬ v.next = 0 := by simpa using hn
    exact ⟨by simp [wf0, ha, hs, hn], Ext.refl _⟩
  have hnr := hn
  have hn : v.next = 0 := by simpa using hn
  simp only [hnr, go_sem, Nat.reduceBEq]
  refine Br.intro (fun hl => ?_) (fun hl => ?_)
  · simp only [hl, go_sem, Nat.reduceBEq]
    have hl : 0 < v.items.length := by simpa using hl
    exact ⟨by simp [wf0, ha, hs, hn, hl], Ext.refl _⟩
  have hlr := hl
  have hl : ¬ 0 < v.items.length := by simpa using hl
  simp only [d0, d1, d2, hlr, go_sem, Nat.reduceBEq]
  have hl : v.items.length = 0 := by omega
  (refine (iInRange _ _ _ _).mono ?_; rintro _ _ ⟨rfl, rfl⟩; simp only [go_sem, Nat.reduceBEq])
  exact ⟨by simp [wf0, ha, hs, hn, hl], (Ext.refl _)⟩
theorem iWell_3 (v : V) (sl : Value) (h : Hp) (rd : RdE h v.items sl) (ha : v.kind = 3) : ACalls Tryz.prog 147 #[.agg #[.int .i64 v.kind, .int .i64 v.num, .string v.str, .int .i64 v.next, sl]] h (Is (.bool v.wf) h) := by
  obtain ⟨a, c, xs, rfl, hc, hr, hat⟩ := rd.rows (by decide) v.items.length (fm_len edt_len _)
  have d0 : decide (v.kind = 0) = false := decide_eq_false (by omega)
  have d1 : decide (v.kind = 1) = false := decide_eq_false (by omega)
  have d2 : decide (v.kind = 2) = false := decide_eq_false (by omega)
  have d3 : decide (v.kind = 3) = true := decide_eq_true (by omega)
  have d4 : decide (v.kind = 4) = false := decide_eq_false (by omega)
  have d6 : decide (v.kind = 6) = false := decide_eq_false (by omega)
  have d7 : decide (v.kind = 7) = false := decide_eq_false (by omega)
  have d8 : decide (v.kind = 8) = false := decide_eq_false (by omega)
  rw [V.wf_eq]
  generalize wfEs v.next v.items [] = arr
  (refine enter Tryz.func147 rfl rfl (by kernel_rfl) [] ?_; simp only [go_sem, Nat.reduceBEq])
  simp only [d3, d4, go_sem, Nat.reduceBEq]
  refine Br.intro (fun hn => ?_) (fun hn => ?_)
  · simp only [hn, go_sem, Nat.reduceBEq]
    have hn : ¬ v.next = 0 := by simpa using hn
    exact ⟨by simp [wf0, ha, hn], Ext.refl _⟩
  have hnr := hn
  have hn : v.next = 0 := by simpa using hn
  simp only [hnr, go_sem, Nat.reduceBEq]
  refine Br.intro (fun hl => ?_) (fun hl => ?_)
  · simp only [hl, go_sem, Nat.reduceBEq]
    have hl : 0 < v.items.length := by simpa using hl
    exact ⟨by simp [wf0, ha, hn, hl], Ext.refl _⟩
  have hlr := hl
  have hl : ¬ 0 < v.items.length := by simpa using hl
  simp only [d0, d1, d2, d3, hlr, go_sem, Nat.reduceBEq]
  have hl : v.items.length = 0 := by omega
  refine Br.intro (fun hq => ?_) (fun hq => ?_)
  · simp only [hq, go_sem, Nat.reduceBEq]
    have hq : v.num = 0 := by simpa using hq
    have hq3 : wf0 v arr = decide ((v.str.size : Int) ≤ 400) := by rw [show decide ((v.str.size : Int) ≤ 400) = decide (v.str.size ≤ 400) from decide_eq_decide.2 (by omega)]; simp [wf0, ha, hn, hl, hq]
    exact ⟨by rw [hq3], Ext.refl _⟩
  · simp only [hq, go_sem, Nat.reduceBEq]
    have hq : ¬ v.num = 0 := by simpa using hq
    exact ⟨by simp [wf0, ha, hn, hl, hq], Ext.refl _⟩
set_option maxHeartbeats 800000 in
theorem iWell_4 (v : V) (ih : ∀ e ∈ v.items, WfI e.2) (hbk : v.bulk ≤ 1099511627776) (sl : Value) (h : Hp) (rd : RdE h v.items sl) (hE : Env h) (ha : v.kind = 4) : ACalls Tryz.prog 147 #[.agg #[.int .i64 v.kind, .int .i64 v.num, .string v.str, .int .i64 v.next, sl]] h (Is (.bool v.wf) h) := by
  obtain ⟨a, c, xs, rfl, hc, hr, hat⟩ := rd.rows (by decide) v.items.length (fm_len edt_len _)
  have d0 : decide (v.kind = 0) = false := decide_eq_false (by omega)
  have d1 : decide (v.kind = 1) = false := decide_eq_false (by omega)
  have d2 : decide (v.kind = 2) = false := decide_eq_false (by omega)
  have d3 : decide (v.kind = 3) = false := decide_eq_false (by omega)
  have d4 : decide (v.kind = 4) = true := decide_eq_true (by omega)
  have d6 : decide (v.kind = 6) = false := decide_eq_false (by omega)
  have d7 : decide (v.kind = 7) = false := decide_eq_false (by omega)
  have d8 : decide (v.kind = 8) = false := decide_eq_false (by omega)
  rw [V.wf_eq]
  (refine enter Tryz.func147 rfl rfl (by kernel_rfl) [] ?_; simp only [go_sem, Nat.reduceBEq])
  simp only [d3, go_sem, Nat.reduceBEq]
  refine Br.intro (fun hs => ?_) (fun hs => ?_)
  · simp only [hs, go_sem, Nat.reduceBEq]
    have hs : ¬ v.str = ⟨#[]⟩ := by simpa using hs
    exact ⟨by simp [wf0, ha, hs], Ext.refl _⟩
  have hsr := hs
  have hs : v.str = ⟨#[]⟩ := by simpa using hs
  simp only [d0, d1, d2, d3, d4, d6, d7, d8, hsr, go_sem, Nat.reduceBEq]
  have hB := V.bulk_eq v
  have hlen := V.bulks_len v.items
  refine Br.intro (fun hz => ?_) (fun hz => ?_)
  · simp only [hz, go_sem, Nat.reduceBEq]
    have hz : ¬ v.num = 0 := by simpa using hz
    exact ⟨by simp [wf0, ha, hs, hz], Ext.refl _⟩
  have hzr := hz
  have hz : v.num = 0 := by simpa using hz
  simp only [hzr, go_sem, Nat.reduceBEq]
  (refine (iInRange _ _ _ _).mono ?_; rintro _ _ ⟨rfl, rfl⟩; simp only [go_sem, Nat.reduceBEq])
  refine Br.intro (fun hx => ?_) (fun hx => ?_)
  · simp only [hx, go_sem, Nat.reduceBEq]
    have hx : decide (0 ≤ v.next ∧ v.next ≤ 1000000001) = false := by simpa only [Bool.not_eq_true'] using hx
    have e0 : wf0 v (wfEs v.next v.items []) = false := by simp only [wf0, hx, ha, hs, hz]; simp
    exact ⟨by rw [e0], Ext.refl _⟩
  simp only [hx, go_sem]
  have hx : decide (0 ≤ v.next ∧ v.next ≤ 1000000001) = true := by simpa only [Bool.not_eq_false'] using hx
  have e0 : wf0 v (wfEs v.next v.items []) = wfEs v.next v.items [] := by simp only [wf0, hx, ha, hs, hz]; simp
  rw [e0]
  refine hsem_mk_map fun bm hbn om em => ?_
  generalize hset h bm (.map #[] 0) = h0 at om em ⊢
  simp only [go_sem, Nat.reduceBEq]
  refine aloop (ι := Nat) (fun i => [(85, .val (.int .i64 (i : Nat))), (84, .val (.int .i64 (v.items.length : Nat))), (83, .val (.slice a v.items.length c)), (3, .val (.map (some bm))), (1, .box 1 0)]) (fun _ => [(1, [.int .i64 v.kind, .int .i64 v.num, .string v.str, .int .i64 v.next, .slice a v.items.length c])])
    (fun i h' => i ≤ v.items.length ∧ OwM h' bm ((v.items.take i).map (·.1)) ∧ Ext h h' ∧ wfEs v.next (v.items.drop i) ((v.items.take i).map (·.1)) = wfEs v.next v.items []) (fun i => v.items.length - i) 0 ⟨Nat.zero_le _, om, em, rfl⟩ (by repeat (first | exact wkF_e | refine wkF_c rfl ?_)) (wkB_c rfl wkB_e) rfl ?_
  rintro i h1 ⟨hi, o1, e1, hq⟩
  have hi : i ≤ v.items.length := hi
  simp only [go_sem, Nat.reduceBEq]
  refine Br.intro (fun hb => ?_) (fun hb => ?_) <;> (try simp only [hb, go_sem, Nat.reduceBEq, Nat.reduceEqDiff])
  case refine_2 =>
    have hb : i = v.items.length := by simp at hb; omega
    rw [List.drop_eq_nil_of_le (by omega), wfEs_nil] at hq
    exact ⟨by rw [← hq], e1⟩
  have hb : i < v.items.length := by simpa using hb
  obtain ⟨b, off, rfl, hat'⟩ := hat (by omega)
  obtain ⟨e, he, hm⟩ := get_lt hb
  have wsu := wrap_succ (i := i) (by omega)
  have hbe := bulk_in hm
  rw [drop_cons he, wfEs_cons] at hq
  simp only [ix_nat hb, go_sem, Nat.reduceBEq]
  refine hsem_entry tyS141 (hat'.mono e1) (hr.mono e1) he rfl fun s2 rd2 => ?_
  obtain ⟨a2, c2, _, rfl, _⟩ := rd2.rows (by decide) e.2.items.length (fm_len edt_len _)
  simp only [go_sem, Nat.reduceBEq, Nat.reduceAdd, Nat.reduceLeDiff]
  refine (iIsKey e.1 _ (hE.ext e1)).mono ?_
  rintro _ h2 ⟨rfl, e2⟩
  have e12 := e1.trans e2
  cases hk : keyOk e.1 with
  | false =>
    simp only [go_sem, Nat.reduceBEq]
    exact ⟨by rw [← hq, hk]; simp, e12⟩
  | true =>
    simp only [go_sem, Nat.reduceBEq, Nat.reduceAdd, Nat.reduceLeDiff]
    have o2 := o1.ext e2
    refine hsem_map_has (by kernel_rfl) o2 e.1 ?_
    by_cases hm1 : e.1 ∈ (v.items.take i).map (·.1)
    · have hmd := decide_eq_true hm1
      simp only [hmd, go_sem, Nat.reduceBEq]
      exact ⟨by rw [← hq, hmd]; simp, e12⟩
    have hmd := decide_eq_false hm1
    simp only [hmd, go_sem, Nat.reduceBEq]
    by_cases ht : e.1.text = true
    case pos =>
      have hnx : (!e.1.text && decide (v.next ≤ e.1.num)) = false := by rw [ht]; rfl
      have nt : (!e.1.text) = false := by rw [ht]; rfl
      simp only [nt, go_sem, Nat.reduceBEq, Nat.reduceAdd, Nat.reduceLeDiff]
      refine (ih e hm (by omega) _ _ (rd2.mono e2) (hE.ext e12)).mono ?_
      rintro _ h3 ⟨rfl, e3⟩
      have e13 := e12.trans e3
      cases hw : e.2.wf with
      | false =>
        simp only [go_sem, Nat.reduceBEq]
        exact ⟨by rw [← hq, hw]; simp, e13⟩
      | true =>
        simp only [go_sem, Nat.reduceBEq, Nat.reduceAdd, Nat.reduceLeDiff]
        have hts : (v.items.take (i + 1)).map (·.1) = (v.items.take i).map (·.1) ++ [e.1] := by rw [take_snoc he, List.map_append]; rfl
        refine hsem_map_add (by kernel_rfl) (o2.ext e3) e.1 hm1 fun h4 o4 b4 => ?_
        have e4 : Ext h h4 := b4.ext e13 (by simpa using hbn)
        simp only [wsu, go_sem, Nat.reduceBEq]
        refine Again.intro (i + 1) (by first | omega | (simp only; omega)) ⟨hb, by rw [hts]; exact o4, e4, ?_⟩ (by repeat (first | exact wkF_e | refine wkF_c rfl ?_)) (wkB_c rfl wkB_e) rfl
        rw [hts, ← hq, hk, hmd, hnx, hw]
        simp
    case neg =>
      have ht : e.1.text = false := by simpa using ht
      have nt : (!e.1.text) = true := by rw [ht]; rfl
      simp only [nt, go_sem, Nat.reduceBEq]
      by_cases hg : v.next ≤ e.1.num
      · have dg := decide_eq_true hg
        simp only [dg, go_sem, Nat.reduceBEq]
        exact ⟨by rw [← hq, ht, dg]; simp, e12⟩
      have dg := decide_eq_false hg
      have hnx : (!e.1.text && decide (v.next ≤ e.1.num)) = false := by rw [ht, dg]; rfl
      simp only [dg, go_sem, Nat.reduceBEq, Nat.reduceAdd, Nat.reduceLeDiff]
      refine (ih e hm (by omega) _ _ (rd2.mono e2) (hE.ext e12)).mono ?_
      rintro _ h3 ⟨rfl, e3⟩
      have e13 := e12.trans e3
      cases hw : e.2.wf with
      | false =>
        simp only [go_sem, Nat.reduceBEq]
        exact ⟨by rw [← hq, hw]; simp, e13⟩
      | true =>
        simp only [go_sem, Nat.reduceBEq, Nat.reduceAdd, Nat.reduceLeDiff]
        have hts : (v.items.take (i + 1)).map (·.1) = (v.items.take i).map (·.1) ++ [e.1] := by rw [take_snoc he, List.map_append]; rfl
        refine hsem_map_add (by kernel_rfl) (o2.ext e3) e.1 hm1 fun h4 o4 b4 => ?_
        have e4 : Ext h h4 := b4.ext e13 (by simpa using hbn)
        simp only [wsu, go_sem, Nat.reduceBEq]
        refine Again.intro (i + 1) (by first | omega | (simp only; omega)) ⟨hb, by rw [hts]; exact o4, e4, ?_⟩ (by repeat (first | exact wkF_e | refine wkF_c rfl ?_)) (wkB_c rfl wkB_e) rfl
        rw [hts, ← hq, hk, hmd, hnx, hw]
        simp
theorem iWell_6 (v : V) (sl : Value) (h : Hp) (rd : RdE h v.items sl) (ha : v.kind = 6) : ACalls Tryz.prog 147 #[.agg #[.int .i64 v.kind, .int .i64 v.num, .string v.str, .int .i64 v.next, sl]] h (Is (.bool v.wf) h) := by
  obtain ⟨a, c, xs, rfl, hc, hr, hat⟩ := rd.rows (by decide) v.items.length (fm_len edt_len _)
  have d0 : decide (v.kind = 0) = false := decide_eq_false (by omega)
  have d1 : decide (v.kind = 1) = false := decide_eq_false (by omega)
  have d2 : decide (v.kind = 2) = false := decide_eq_false (by omega)
  have d3 : decide (v.kind = 3) = false := decide_eq_false (by omega)
  have d4 : decide (v.kind = 4) = false := decide_eq_false (by omega)
  have d6 : decide (v.kind = 6) = true := decide_eq_true (by omega)
  have d7 : decide (v.kind = 7) = false := decide_eq_false (by omega)
  have d8 : decide (v.kind = 8) = false := decide_eq_false (by omega)
  rw [V.wf_eq]
  generalize wfEs v.next v.items [] = arr
  (refine enter Tryz.func147 rfl rfl (by kernel_rfl) [] ?_; simp only [go_sem, Nat.reduceBEq])
  simp only [d3, go_sem, Nat.reduceBEq]
  refine Br.intro (fun hs => ?_) (fun hs => ?_)
  · simp only [hs, go_sem, Nat.reduceBEq]
    have hs : ¬ v.str = ⟨#[]⟩ := by simpa using hs
    exact ⟨by simp [wf0, ha, hs], Ext.refl _⟩
  have hsr := hs
  have hs : v.str = ⟨#[]⟩ := by simpa using hs
  simp only [d4, hsr, go_sem, Nat.reduceBEq]
  refine Br.intro (fun hn => ?_) (fun hn => ?_)
  · simp only [hn, go_sem, Nat.reduceBEq]
    have hn : ¬ v.next = 0 := by simpa using hn
    exact ⟨by simp [wf0, ha, hs, hn], Ext.refl _⟩
  have hnr := hn
  have hn : v.next = 0 := by simpa using hn
  simp only [hnr, go_sem, Nat.reduceBEq]
  refine Br.intro (fun hl => ?_) (fun hl => ?_)
  · simp only [hl, go_sem, Nat.reduceBEq]
    have hl : 0 < v.items.length := by simpa using hl
    exact ⟨by simp [wf0, ha, hs, hn, hl], Ext.refl _⟩
  have hlr := hl
  have hl : ¬ 0 < v.items.length := by simpa using hl
  simp only [d0, d1, d2, d3, d6, hlr, go_sem, Nat.reduceBEq]
  have hl : v.items.length = 0 := by omega
  (refine (iInRange _ _ _ _).mono ?_; rintro _ _ ⟨rfl, rfl⟩; simp only [go_sem, Nat.reduceBEq])
  exact ⟨by simp [wf0, ha, hs, hn, hl], (Ext.refl _)⟩
theorem iWell_7 (v : V) (sl : Value) (h : Hp) (rd : RdE h v.items sl) (ha : v.kind = 7) : ACalls Tryz.prog 147 #[.agg #[.int .i64 v.kind, .int .i64 v.num, .string v.str, .int .i64 v.next, sl]] h (Is (.bool v.wf) h) := by
  obtain ⟨a, c, xs, rfl, hc, hr, hat⟩ := rd.rows (by decide) v.items.length (fm_len edt_len _)
  have d0 : decide (v.kind = 0) = false := decide_eq_false (by omega)
  have d1 : decide (v.kind = 1) = false := decide_eq_false (by omega)
  have d2 : decide (v.kind = 2) = false := decide_eq_false (by omega)
  have d3 : decide (v.kind = 3) = false := decide_eq_false (by omega)
  have d4 : decide (v.kind = 4) = false := decide_eq_false (by omega)
  have d6 : decide (v.kind = 6) = false := decide_eq_false (by omega)
  have d7 : decide (v.kind = 7) = true := decide_eq_true (by omega)
  have d8 : decide (v.kind = 8) = false := decide_eq_false (by omega)
  rw [V.wf_eq]
  generalize wfEs v.next v.items [] = arr
  (refine enter Tryz.func147 rfl rfl (by kernel_rfl) [] ?_; simp only [go_sem, Nat.reduceBEq])
  simp only [d3, go_sem, Nat.reduceBEq]
  refine Br.intro (fun hs => ?_) (fun hs => ?_)
  · simp only [hs, go_sem, Nat.reduceBEq]
    have hs : ¬ v.str = ⟨#[]⟩ := by simpa using hs
    exact ⟨by simp [wf0, ha, hs], Ext.refl _⟩
  have hsr := hs
  have hs : v.str = ⟨#[]⟩ := by simpa using hs
  simp only [d4, hsr, go_sem, Nat.reduceBEq]
  refine Br.intro (fun hn => ?_) (fun hn => ?_)
  · simp only [hn, go_sem, Nat.reduceBEq]
    have hn : ¬ v.next = 0 := by simpa using hn
    exact ⟨by simp [wf0, ha, hs, hn], Ext.refl _⟩
  have hnr := hn
  have hn : v.next = 0 := by simpa using hn
  simp only [hnr, go_sem, Nat.reduceBEq]
  refine Br.intro (fun hl => ?_) (fun hl => ?_)
  · simp only [hl, go_sem, Nat.reduceBEq]
    have hl : 0 < v.items.length := by simpa using hl
    exact ⟨by simp [wf0, ha, hs, hn, hl], Ext.refl _⟩
  have hlr := hl
  have hl : ¬ 0 < v.items.length := by simpa using hl
  simp only [d0, d1, d2, d3, d6, d7, hlr, go_sem, Nat.reduceBEq]
  have hl : v.items.length = 0 := by omega
  (refine (iInRange _ _ _ _).mono ?_; rintro _ _ ⟨rfl, rfl⟩; simp only [go_sem, Nat.reduceBEq])
  exact ⟨by simp [wf0, ha, hs, hn, hl], (Ext.refl _)⟩
theorem iWell_8 (v : V) (sl : Value) (h : Hp) (rd : RdE h v.items sl) (ha : v.kind = 8) : ACalls Tryz.prog 147 #[.agg #[.int .i64 v.kind, .int .i64 v.num, .string v.str, .int .i64 v.next, sl]] h (Is (.bool v.wf) h) := by
  obtain ⟨a, c, xs, rfl, hc, hr, hat⟩ := rd.rows (by decide) v.items.length (fm_len edt_len _)
  have d0 : decide (v.kind = 0) = false := decide_eq_false (by omega)
  have d1 : decide (v.kind = 1) = false := decide_eq_false (by omega)
  have d2 : decide (v.kind = 2) = false := decide_eq_false (by omega)
  have d3 : decide (v.kind = 3) = false := decide_eq_false (by omega)
  have d4 : decide (v.kind = 4) = false := decide_eq_false (by omega)
  have d6 : decide (v.kind = 6) = false := decide_eq_false (by omega)
  have d7 : decide (v.kind = 7) = false := decide_eq_false (by omega)
  have d8 : decide (v.kind = 8) = true := decide_eq_true (by omega)
  rw [V.wf_eq]
  generalize wfEs v.next v.items [] = arr
  (refine enter Tryz.func147 rfl rfl (by kernel_rfl) [] ?_; simp only [go_sem, Nat.reduceBEq])
  simp only [d3, go_sem, Nat.reduceBEq]
  refine Br.intro (fun hs => ?_) (fun hs => ?_)
  · simp only [hs, go_sem, Nat.reduceBEq]
    have hs : ¬ v.str = ⟨#[]⟩ := by simpa using hs
    exact ⟨by simp [wf0, ha, hs], Ext.refl _⟩
  have hsr := hs
  have hs : v.str = ⟨#[]⟩ := by simpa using hs
  simp only [d4, hsr, go_sem, Nat.reduceBEq]
  refine Br.intro (fun hn => ?_) (fun hn => ?_)
  · simp only [hn, go_sem, Nat.reduceBEq]
    have hn : ¬ v.next = 0 := by simpa using hn
    exact ⟨by simp [wf0, ha, hs, hn], Ext.refl _⟩
  have hnr := hn
  have hn : v.next = 0 := by simpa using hn
  simp only [hnr, go_sem, Nat.reduceBEq]
  refine Br.intro (fun hl => ?_) (fun hl => ?_)
  · simp only [hl, go_sem, Nat.reduceBEq]
    have hl : 0 < v.items.length := by simpa using hl
    exact ⟨by simp [wf0, ha, hs, hn, hl], Ext.refl _⟩
  have hlr := hl
  have hl : ¬ 0 < v.items.length := by simpa using hl
  simp only [d0, d1, d2, d3, d6, d7, d8, hlr, go_sem, Nat.reduceBEq]
  have hl : v.items.length = 0 := by omega
  (refine (iInRange _ _ _ _).mono ?_; rintro _ _ ⟨rfl, rfl⟩; simp only [go_sem, Nat.reduceBEq])
  exact ⟨by simp [wf0, ha, hs, hn, hl], (Ext.refl _)⟩
theorem iWell_o (v : V) (sl : Value) (h : Hp) (rd : RdE h v.items sl) (ha : ¬ v.kind = 0 ∧ ¬ v.kind = 1 ∧ ¬ v.kind = 2 ∧ ¬ v.kind = 3 ∧ ¬ v.kind = 4 ∧ ¬ v.kind = 6 ∧ ¬ v.kind = 7 ∧ ¬ v.kind = 8) : ACalls Tryz.prog 147 #[.agg #[.int .i64 v.kind, .int .i64 v.num, .string v.str, .int .i64 v.next, sl]] h (Is (.bool v.wf) h) := by
  obtain ⟨a, c, xs, rfl, hc, hr, hat⟩ := rd.rows (by decide) v.items.length (fm_len edt_len _)
  have d0 : decide (v.kind = 0) = false := decide_eq_false (by omega)
  have d1 : decide (v.kind = 1) = false := decide_eq_false (by omega)
  have d2 : decide (v.kind = 2) = false := decide_eq_false (by omega)
  have d3 : decide (v.kind = 3) = false := decide_eq_false (by omega)
  have d4 : decide (v.kind = 4) = false := decide_eq_false (by omega)
  have d6 : decide (v.kind = 6) = false := decide_eq_false (by omega)
  have d7 : decide (v.kind = 7) = false := decide_eq_false (by omega)
  have d8 : decide (v.kind = 8) = false := decide_eq_false (by omega)
  obtain ⟨a0, a1, a2, a3, a4, a6, a7, a8⟩ := ha
  rw [V.wf_eq]
  generalize wfEs v.next v.items [] = arr
  (refine enter Tryz.func147 rfl rfl (by kernel_rfl) [] ?_; simp only [go_sem, Nat.reduceBEq])
  simp only [d3, go_sem, Nat.reduceBEq]
  refine Br.intro (fun hs => ?_) (fun hs => ?_)
  · simp only [hs, go_sem, Nat.reduceBEq]
    have hs : ¬ v.str = ⟨#[]⟩ := by simpa using hs
    exact ⟨by simp [wf0, a0, a1, a2, a3, a4, a6, a7, a8, hs], Ext.refl _⟩
  have hsr := hs
  have hs : v.str = ⟨#[]⟩ := by simpa using hs
  simp only [d4, hsr, go_sem, Nat.reduceBEq]
  refine Br.intro (fun hn => ?_) (fun hn => ?_)
  · simp only [hn, go_sem, Nat.reduceBEq]
    have hn : ¬ v.next = 0 := by simpa using hn
    exact ⟨by simp [wf0, a0, a1, a2, a3, a4, a6, a7, a8, hs, hn], Ext.refl _⟩
  have hnr := hn
  have hn : v.next = 0 := by simpa using hn
  simp only [hnr, go_sem, Nat.reduceBEq]
  refine Br.intro (fun hl => ?_) (fun hl => ?_)
  · simp only [hl, go_sem, Nat.reduceBEq]
    have hl : 0 < v.items.length := by simpa using hl
    exact ⟨by simp [wf0, a0, a1, a2, a3, a4, a6, a7, a8, hs, hn, hl], Ext.refl _⟩
  have hlr := hl
  have hl : ¬ 0 < v.items.length := by simpa using hl
  simp only [d0, d1, d2, d3, d4, d6, d7, d8, hlr, go_sem, Nat.reduceBEq]
  have hl : v.items.length = 0 := by omega
  exact ⟨by simp [wf0, a0, a1, a2, a3, a4, a6, a7, a8, hs, hn, hl], (Ext.refl _)⟩
theorem iWell : ∀ v, WfI v := V.ind fun v ih hbk sl h rd hE => by
  rcases k9 v.kind with ha | ha | ha | ha | ha | ha | ha | ha | ha
  · exact iWell_0 v sl h rd ha
  · exact iWell_1 v sl h rd ha
  · exact iWell_2 v sl h rd ha
  · exact iWell_3 v sl h rd ha
  · exact iWell_4 v ih hbk sl h rd hE ha
  · exact iWell_6 v sl h rd ha
  · exact iWell_7 v sl h rd ha
  · exact iWell_8 v sl h rd ha
  · exact iWell_o v sl h rd ha
def WfS (v : V) : Prop := v.bulk ≤ 1099511627776 → ∀ (sl : Value) (h : Hp), RdE h v.items sl → ACalls Tryz.prog 135 #[.agg #[.int .i64 v.kind, .int .i64 v.num, .string v.str, .int .i64 v.next, sl]] h (Is (.bool v.wf) h)
theorem sWell_0 (v : V) (sl : Value) (h : Hp) (rd : RdE h v.items sl) (ha : v.kind = 0) : ACalls Tryz.prog 135 #[.agg #[.int .i64 v.kind, .int .i64 v.num, .string v.str, .int .i64 v.next, sl]] h (Is (.bool v.wf) h) := by
  obtain ⟨a, c, xs, rfl, hc, hr, hat⟩ := rd.rows (by decide) v.items.length (fm_len edt_len _)
  have d0 : decide (v.kind = 0) = true := decide_eq_true (by omega)
  have d1 : decide (v.kind = 1) = false := decide_eq_false (by omega)
  have d2 : decide (v.kind = 2) = false := decide_eq_false (by omega)
  have d3 : decide (v.kind = 3) = false := decide_eq_false (by omega)
  have d4 : decide (v.kind = 4) = false := decide_eq_false (by omega)
  have d6 : decide (v.kind = 6) = false := decide_eq_false (by omega)
  have d7 : decide (v.kind = 7) = false := decide_eq_false (by omega)
  have d8 : decide (v.kind = 8) = false := decide_eq_false (by omega)
  rw [V.wf_eq]
  generalize wfEs v.next v.items [] = arr
  (refine enter Tryz.func135 rfl rfl (by kernel_rfl) [] ?_; simp only [go_sem, Nat.reduceBEq])
  simp only [d3, go_sem, Nat.reduceBEq]
  refine Br.intro (fun hs => ?_) (fun hs => ?_)
  · simp only [hs, go_sem, Nat.reduceBEq]
    have hs : ¬ v.str = ⟨#[]⟩ := by simpa using hs
    exact ⟨by simp [wf0, ha, hs], Ext.refl _⟩
  have hsr := hs
  have hs : v.str = ⟨#[]⟩ := by simpa using hs
  simp only [d4, hsr, go_sem, Nat.reduceBEq]
  refine Br.intro (fun hn => ?_) (fun hn => ?_)
  · simp only [hn, go_sem, Nat.reduceBEq]
    have hn : ¬ v.next = 0 := by simpa using hn
    exact ⟨by simp [wf0, ha, hs, hn], Ext.refl _⟩
  have hnr := hn
  have hn : v.next = 0 := by simpa using hn
  simp only [hnr, go_sem, Nat.reduceBEq]
  refine Br.intro (fun hl => ?_) (fun hl => ?_)
  · simp only [hl, go_sem, Nat.reduceBEq]
    have hl : 0 < v.items.length := by simpa using hl
    exact ⟨by simp [wf0, ha, hs, hn, hl], Ext.refl _⟩
  have hlr := hl
  have hl : ¬ 0 < v.items.length := by simpa using hl
  simp only [d0, hlr, go_sem, Nat.reduceBEq]
  have hl : v.items.length = 0 := by omega
  exact ⟨by simp [wf0, ha, hs, hn, hl], (Ext.refl _)⟩
theorem sWell_1 (v : V) (sl : Value) (h : Hp) (rd : RdE h v.items sl) (ha : v.kind = 1) : ACalls Tryz.prog 135 #[.agg #[.int .i64 v.kind, .int .i64 v.num, .string v.str, .int .i64 v.next, sl]] h (Is (.bool v.wf) h) := by
  obtain ⟨a, c, xs, rfl, hc, hr, hat⟩ := rd.rows (by decide) v.items.length (fm_len edt_len _)
  have d0 : decide (v.kind = 0) = false := decide_eq_false (by omega)
  have d1 : decide (v.kind = 1) = true := decide_eq_true (by omega)
  have d2 : decide (v.kind = 2) = false := decide_eq_false (by omega)
  have d3 : decide (v.kind = 3) = false := decide_eq_false (by omega)
  have d4 : decide (v.kind = 4) = false := decide_eq_false (by omega)
  have d6 : decide (v.kind = 6) = false := decide_eq_false (by omega)
  have d7 : decide (v.kind = 7) = false := decide_eq_false (by omega)
  have d8 : decide (v.kind = 8) = false := decide_eq_false (by omega)
  rw [V.wf_eq]
  generalize wfEs v.next v.items [] = arr
  (refine enter Tryz.func135 rfl rfl (by kernel_rfl) [] ?_; simp only [go_sem, Nat.reduceBEq])
  simp only [d3, go_sem, Nat.reduceBEq]
  refine Br.intro (fun hs => ?_) (fun hs => ?_)
  · simp only [hs, go_sem, Nat.reduceBEq]
    have hs : ¬ v.str = ⟨#[]⟩ := by simpa using hs
    exact ⟨by simp [wf0, ha, hs], Ext.refl _⟩
  have hsr := hs
  have hs : v.str = ⟨#[]⟩ := by simpa using hs
  simp only [d4, hsr, go_sem, Nat.reduceBEq]
  refine Br.intro (fun hn => ?_) (fun hn => ?_)
  · simp only [hn, go_sem, Nat.reduceBEq]
    have hn : ¬ v.next = 0 := by simpa using hn
    exact ⟨by simp [wf0, ha, hs, hn], Ext.refl _⟩
  have hnr := hn
  have hn : v.next = 0 := by simpa using hn
  simp only [hnr, go_sem, Nat.reduceBEq]
  refine Br.intro (fun hl => ?_) (fun hl => ?_)
  · simp only [hl, go_sem, Nat.reduceBEq]
    have hl : 0 < v.items.length := by simpa using hl
    exact ⟨by simp [wf0, ha, hs, hn, hl], Ext.refl _⟩
  have hlr := hl
  have hl : ¬ 0 < v.items.length := by simpa using hl
  simp only [d0, d1, hlr, go_sem, Nat.reduceBEq]
  have hl : v.items.length = 0 := by omega
  (refine (l1In_c _ _ _ _).mono ?_; rintro _ _ ⟨rfl, rfl⟩; simp only [go_sem, Nat.reduceBEq])
  exact ⟨by simp [wf0, ha, hs, hn, hl], (Ext.refl _)⟩
theorem sWell_2 (v : V) (sl : Value) (h : Hp) (rd : RdE h v.items sl) (ha : v.kind = 2) : ACalls Tryz.prog 135 #[.agg #[.int .i64 v.kind, .int .i64 v.num, .string v.str, .int .i64 v.next, sl]] h (Is (.bool v.wf) h) := by
  obtain ⟨a, c, xs, rfl, hc, hr, hat⟩ := rd.rows (by decide) v.items.length (fm_len edt_len _)
  have d0 : decide (v.kind = 0) = false := decide_eq_false (by omega)
  have d1 : decide (v.kind = 1) = false := decide_eq_false (by omega)
  have d2 : decide (v.kind = 2) = true := decide_eq_true (by omega)
  have d3 : decide (v.kind = 3) = false := decide_eq_false (by omega)
  have d4 : decide (v.kind = 4) = false := decide_eq_false (by omega)
  have d6 : decide (v.kind = 6) = false := decide_eq_false (by omega)
  have d7 : decide (v.kind = 7) = false := decide_eq_false (by omega)
  have d8 : decide (v.kind = 8) = false := decide_eq_false (by omega)
  rw [V.wf_eq]
  generalize wfEs v.next v.items [] = arr
  (refine enter Tryz.func135 rfl rfl (by kernel_rfl) [] ?_; simp only [go_sem, Nat.reduceBEq])
  simp only [d3, go_sem, Nat.reduceBEq]
  refine Br.intro (fun hs => ?_) (fun hs => ?_)
  · simp only [hs, go_sem, Nat.reduceBEq]
    have hs : ¬ v.str = ⟨#[]⟩ := by simpa using hs
    exact ⟨by simp [wf0, ha, hs], Ext.refl _⟩
  have hsr := hs
  have hs : v.str = ⟨#[]⟩ := by simpa using hs
  simp only [d4, hsr, go_sem, Nat.reduceBEq]
  refine Br.intro (fun hn => ?_) (fun hn => ?_)
  · simp only [hn, go_sem, Nat.reduceBEq]
    have hn : ¬ v.next = 0 := by simpa using hn
    exact ⟨by simp [wf0, ha, hs, hn], Ext.refl _⟩
  have hnr := hn
  have hn : v.next = 0 := by simpa using hn
  simp only [hnr, go_sem, Nat.reduceBEq]
  refine Br.intro (fun hl => ?_) (fun hl => ?_)
  · simp only [hl, go_sem, Nat.reduceBEq]
    have hl : 0 < v.items.length := by simpa using hl
    exact ⟨by simp [wf0, ha, hs, hn, hl], Ext.refl _⟩
  have hlr := hl
  have hl : ¬ 0 < v.items.length := by simpa using hl
  simp only [d0, d1, d2, hlr, go_sem, Nat.reduceBEq]
  have hl : v.items.length = 0 := by omega
  (refine (l1In_c _ _ _ _).mono ?_; rintro _ _ ⟨rfl, rfl⟩; simp only [go_sem, Nat.reduceBEq])
  exact ⟨by simp [wf0, ha, hs, hn, hl], (Ext.refl _)⟩
theorem sWell_3 (v : V) (sl : Value) (h : Hp) (rd : RdE h v.items sl) (ha : v.kind = 3) : ACalls Tryz.prog 135 #[.agg #[.int .i64 v.kind, .int .i64 v.num, .string v.str, .int .i64 v.next, sl]] h (Is (.bool v.wf) h) := by
  obtain ⟨a, c, xs, rfl, hc, hr, hat⟩ := rd.rows (by decide) v.items.length (fm_len edt_len _)
  have d0 : decide (v.kind = 0) = false := decide_eq_false (by omega)
  have d1 : decide (v.kind = 1) = false := decide_eq_false (by omega)
  have d2 : decide (v.kind = 2) = false := decide_eq_false (by omega)
  have d3 : decide (v.kind = 3) = true := decide_eq_true (by omega)
  have d4 : decide (v.kind = 4) = false := decide_eq_false (by omega)
  have d6 : decide (v.kind = 6) = false := decide_eq_false (by omega)
  have d7 : decide (v.kind = 7) = false := decide_eq_false (by omega)
  have d8 : decide (v.kind = 8) = false := decide_eq_false (by omega)
  rw [V.wf_eq]
  generalize wfEs v.next v.items [] = arr
  (refine enter Tryz.func135 rfl rfl (by kernel_rfl) [] ?_; simp only [go_sem, Nat.reduceBEq])
  simp only [d3, d4, go_sem, Nat.reduceBEq]
  refine Br.intro (fun hn => ?_) (fun hn => ?_)
  · simp only [hn, go_sem, Nat.reduceBEq]
    have hn : ¬ v.next = 0 := by simpa using hn
    exact ⟨by simp [wf0, ha, hn], Ext.refl _⟩
  have hnr := hn
  have hn : v.next = 0 := by simpa using hn
  simp only [hnr, go_sem, Nat.reduceBEq]
  refine Br.intro (fun hl => ?_) (fun hl => ?_)
  · simp only [hl, go_sem, Nat.reduceBEq]
    have hl : 0 < v.items.length := by simpa using hl
    exact ⟨by simp [wf0, ha, hn, hl], Ext.refl _⟩
  have hlr := hl
  have hl : ¬ 0 < v.items.length := by simpa using hl
  simp only [d0, d1, d2, d3, hlr, go_sem, Nat.reduceBEq]
  have hl : v.items.length = 0 := by omega
  refine Br.intro (fun hq => ?_) (fun hq => ?_)
  · simp only [hq, go_sem, Nat.reduceBEq]
    have hq : v.num = 0 := by simpa using hq
    have hq3 : wf0 v arr = decide ((v.str.size : Int) ≤ 400) := by rw [show decide ((v.str.size : Int) ≤ 400) = decide (v.str.size ≤ 400) from decide_eq_decide.2 (by omega)]; simp [wf0, ha, hn, hl, hq]
    exact ⟨by rw [hq3], Ext.refl _⟩
  · simp only [hq, go_sem, Nat.reduceBEq]
    have hq : ¬ v.num = 0 := by simpa using hq
    exact ⟨by simp [wf0, ha, hn, hl, hq], Ext.refl _⟩
set_option maxHeartbeats 800000 in
theorem sWell_4 (v : V) (ih : ∀ e ∈ v.items, WfS e.2) (hbk : v.bulk ≤ 1099511627776) (sl : Value) (h : Hp) (rd : RdE h v.items sl) (ha : v.kind = 4) : ACalls Tryz.prog 135 #[.agg #[.int .i64 v.kind, .int .i64 v.num, .string v.str, .int .i64 v.next, sl]] h (Is (.bool v.wf) h) := by
  obtain ⟨a, c, xs, rfl, hc, hr, hat⟩ := rd.rows (by decide) v.items.length (fm_len edt_len _)
  have d0 : decide (v.kind = 0) = false := decide_eq_false (by omega)
  have d1 : decide (v.kind = 1) = false := decide_eq_false (by omega)
  have d2 : decide (v.kind = 2) = false := decide_eq_false (by omega)
  have d3 : decide (v.kind = 3) = false := decide_eq_false (by omega)
  have d4 : decide (v.kind = 4) = true := decide_eq_true (by omega)
  have d6 : decide (v.kind = 6) = false := decide_eq_false (by omega)
  have d7 : decide (v.kind = 7) = false := decide_eq_false (by omega)
  have d8 : decide (v.kind = 8) = false := decide_eq_false (by omega)
  rw [V.wf_eq]
  (refine enter Tryz.func135 rfl rfl (by kernel_rfl) [] ?_; simp only [go_sem, Nat.reduceBEq])
  simp only [d3, go_sem, Nat.reduceBEq]
  refine Br.intro (fun hs => ?_) (fun hs => ?_)
  · simp only [hs, go_sem, Nat.reduceBEq]
    have hs : ¬ v.str = ⟨#[]⟩ := by simpa using hs
    exact ⟨by simp [wf0, ha, hs], Ext.refl _⟩
  have hsr := hs
  have hs : v.str = ⟨#[]⟩ := by simpa using hs
  simp only [d0, d1, d2, d3, d4, d6, d7, d8, hsr, go_sem, Nat.reduceBEq]
  have hB := V.bulk_eq v
  have hlen := V.bulks_len v.items
  refine Br.intro (fun hz => ?_) (fun hz => ?_)
  · simp only [hz, go_sem, Nat.reduceBEq]
    have hz : ¬ v.num = 0 := by simpa using hz
    exact ⟨by simp [wf0, ha, hs, hz], Ext.refl _⟩
  have hzr := hz
  have hz : v.num = 0 := by simpa using hz
  simp only [hzr, go_sem, Nat.reduceBEq]
  (refine (l1In_c _ _ _ _).mono ?_; rintro _ _ ⟨rfl, rfl⟩; simp only [go_sem, Nat.reduceBEq])
  refine Br.intro (fun hx => ?_) (fun hx => ?_)
  · simp only [hx, go_sem, Nat.reduceBEq]
    have hx : decide (0 ≤ v.next ∧ v.next ≤ 1000000001) = false := by simpa only [Bool.not_eq_true'] using hx
    have e0 : wf0 v (wfEs v.next v.items []) = false := by simp only [wf0, hx, ha, hs, hz]; simp
    exact ⟨by rw [e0], Ext.refl _⟩
  simp only [hx, go_sem]
  have hx : decide (0 ≤ v.next ∧ v.next ≤ 1000000001) = true := by simpa only [Bool.not_eq_false'] using hx
  have e0 : wf0 v (wfEs v.next v.items []) = wfEs v.next v.items [] := by simp only [wf0, hx, ha, hs, hz]; simp
  rw [e0]
  refine aloop (ι := Nat) (fun i => [(3, .val (.int .i64 (i : Nat))), (1, .box 1 0)]) (fun _ => [(1, [.int .i64 v.kind, .int .i64 v.num, .string v.str, .int .i64 v.next, .slice a v.items.length c])])
    (fun i h' => i ≤ v.items.length ∧ Ext h h' ∧ wfEs v.next (v.items.drop i) ((v.items.take i).map (·.1)) = wfEs v.next v.items []) (fun i => v.items.length - i) 0 ⟨Nat.zero_le _, Ext.refl _, rfl⟩ (by repeat (first | exact wkF_e | refine wkF_c rfl ?_)) (wkB_c rfl wkB_e) rfl ?_
  rintro i h1 ⟨hi, e1, hq⟩
  have hi : i ≤ v.items.length := hi
  simp only [go_sem, Nat.reduceBEq]
  refine Br.intro (fun hb => ?_) (fun hb => ?_) <;> (try simp only [hb, go_sem, Nat.reduceBEq, Nat.reduceEqDiff])
  case refine_2 =>
    have hb : i = v.items.length := by simp at hb; omega
    rw [List.drop_eq_nil_of_le (by omega), wfEs_nil] at hq
    exact ⟨by rw [← hq], e1⟩
  have hb : i < v.items.length := by simpa using hb
  obtain ⟨b, off, rfl, hat'⟩ := hat (by omega)
  obtain ⟨e, he, hm⟩ := get_lt hb
  have wsu := wrap_succ (i := i) (by omega)
  have hbe := bulk_in hm
  rw [drop_cons he, wfEs_cons] at hq
  simp only [ix_nat hb, go_sem, Nat.reduceBEq]
  refine hsem_ekey tyS40 (hat'.mono e1) (hr.mono e1) he rfl ?_
  simp only [go_sem, Nat.reduceBEq, Nat.reduceAdd, Nat.reduceLeDiff]
  refine (sIsKey e.1 _ (by omega)).mono ?_
  rintro _ h2 ⟨rfl, e2⟩
  have e12 := e1.trans e2
  cases hk : keyOk e.1 with
  | false =>
    simp only [go_sem, Nat.reduceBEq]
    exact ⟨by rw [← hq, hk]; simp, e12⟩
  | true =>
    simp only [go_sem, Nat.reduceBEq]
    by_cases ht : e.1.text = true
    case pos =>
      have hnx : (!e.1.text && decide (v.next ≤ e.1.num)) = false := by rw [ht]; rfl
      have nt : (!e.1.text) = false := by rw [ht]; rfl
      simp only [nt, go_sem, Nat.reduceBEq, Nat.reduceAdd, Nat.reduceLeDiff]
      have hlf : v.find e.1 = fk v.items e.1 0 := by unfold V.find; rw [if_pos ha]
      obtain ⟨j, hj1, hj2⟩ := fk_at he
      rw [hj1] at hlf
      refine (sFind v e.1 (by omega) _ _ (rd.mono e12)).mono ?_
      rintro _ _ ⟨rfl, rfl⟩
      rw [hlf, ixI_some]
      simp only [go_sem, Nat.reduceBEq]
      by_cases hm1 : e.1 ∈ (v.items.take i).map (·.1)
      · have dm : decide ((j : Int) = (i : Int)) = false := decide_eq_false fun k => hj2.1 (by omega) hm1
        have hmd := decide_eq_true hm1
        simp only [dm, go_sem, Nat.reduceBEq]
        exact ⟨by rw [← hq, hmd]; simp, e12⟩
      have dm : decide ((j : Int) = (i : Int)) = true := decide_eq_true (by have := hj2.2 hm1; omega)
      have hmd := decide_eq_false hm1
      simp only [dm, go_sem, Nat.reduceBEq]
      simp only [ix_nat hb, go_sem, Nat.reduceBEq, Nat.reduceAdd]
      refine hsem_eval tyS44 (hat'.mono e12) (hr.mono e12) he rfl fun s2 rd2 => ?_
      obtain ⟨a2, c2, _, rfl, _⟩ := rd2.rows (by decide) e.2.items.length (fm_len edt_len _)
      simp only [go_sem, Nat.reduceBEq]
      refine (ih e hm (by omega) _ _ rd2).mono ?_
      rintro _ h3 ⟨rfl, e3⟩
      have e13 := e12.trans e3
      cases hw : e.2.wf with
      | false =>
        simp only [go_sem, Nat.reduceBEq]
        exact ⟨by rw [← hq, hw]; simp, e13⟩
      | true =>
        simp only [go_sem, Nat.reduceBEq]
        have hts : (v.items.take (i + 1)).map (·.1) = (v.items.take i).map (·.1) ++ [e.1] := by rw [take_snoc he, List.map_append]; rfl
        try simp only [wsu, go_sem]
        refine Again.intro (i + 1) (by first | omega | (simp only; omega)) ⟨hb, e13, ?_⟩ (by repeat (first | exact wkF_e | refine wkF_c rfl ?_)) (wkB_c rfl wkB_e) rfl
        rw [hts, ← hq, hk, hmd, hnx, hw]
        simp
    case neg =>
      have ht : e.1.text = false := by simpa using ht
      have nt : (!e.1.text) = true := by rw [ht]; rfl
      simp only [nt, go_sem, Nat.reduceBEq]
      by_cases hg : v.next ≤ e.1.num
      · have dg := decide_eq_true hg
        simp only [dg, go_sem, Nat.reduceBEq]
        exact ⟨by rw [← hq, ht, dg]; simp, e12⟩
      have dg := decide_eq_false hg
      have hnx : (!e.1.text && decide (v.next ≤ e.1.num)) = false := by rw [ht, dg]; rfl
      simp only [dg, go_sem, Nat.reduceBEq, Nat.reduceAdd, Nat.reduceLeDiff]
      have hlf : v.find e.1 = fk v.items e.1 0 := by unfold V.find; rw [if_pos ha]
      obtain ⟨j, hj1, hj2⟩ := fk_at he
      rw [hj1] at hlf
      refine (sFind v e.1 (by omega) _ _ (rd.mono e12)).mono ?_
      rintro _ _ ⟨rfl, rfl⟩
      rw [hlf, ixI_some]
      simp only [go_sem, Nat.reduceBEq]
      by_cases hm1 : e.1 ∈ (v.items.take i).map (·.1)
      · have dm : decide ((j : Int) = (i : Int)) = false := decide_eq_false fun k => hj2.1 (by omega) hm1
        have hmd := decide_eq_true hm1
        simp only [dm, go_sem, Nat.reduceBEq]
        exact ⟨by rw [← hq, hmd]; simp, e12⟩
      have dm : decide ((j : Int) = (i : Int)) = true := decide_eq_true (by have := hj2.2 hm1; omega)
      have hmd := decide_eq_false hm1
      simp only [dm, go_sem, Nat.reduceBEq]
      simp only [ix_nat hb, go_sem, Nat.reduceBEq, Nat.reduceAdd]
      refine hsem_eval tyS44 (hat'.mono e12) (hr.mono e12) he rfl fun s2 rd2 => ?_
      obtain ⟨a2, c2, _, rfl, _⟩ := rd2.rows (by decide) e.2.items.length (fm_len edt_len _)
      simp only [go_sem, Nat.reduceBEq]
      refine (ih e hm (by omega) _ _ rd2).mono ?_
      rintro _ h3 ⟨rfl, e3⟩
      have e13 := e12.trans e3
      cases hw : e.2.wf with
      | false =>
        simp only [go_sem, Nat.reduceBEq]
        exact ⟨by rw [← hq, hw]; simp, e13⟩
      | true =>
        simp only [go_sem, Nat.reduceBEq]
        have hts : (v.items.take (i + 1)).map (·.1) = (v.items.take i).map (·.1) ++ [e.1] := by rw [take_snoc he, List.map_append]; rfl
        try simp only [wsu, go_sem]
        refine Again.intro (i + 1) (by first | omega | (simp only; omega)) ⟨hb, e13, ?_⟩ (by repeat (first | exact wkF_e | refine wkF_c rfl ?_)) (wkB_c rfl wkB_e) rfl
        rw [hts, ← hq, hk, hmd, hnx, hw]
        simp
theorem sWell_6 (v : V) (sl : Value) (h : Hp) (rd : RdE h v.items sl) (ha : v.kind = 6) : ACalls Tryz.prog 135 #[.agg #[.int .i64 v.kind, .int .i64 v.num, .string v.str, .int .i64 v.next, sl]] h (Is (.bool v.wf) h) := by
  obtain ⟨a, c, xs, rfl, hc, hr, hat⟩ := rd.rows (by decide) v.items.length (fm_len edt_len _)
  have d0 : decide (v.kind = 0) = false := decide_eq_false (by omega)
  have d1 : decide (v.kind = 1) = false := decide_eq_false (by omega)
  have d2 : decide (v.kind = 2) = false := decide_eq_false (by omega)
  have d3 : decide (v.kind = 3) = false := decide_eq_false (by omega)
  have d4 : decide (v.kind = 4) = false := decide_eq_false (by omega)
  have d6 : decide (v.kind = 6) = true := decide_eq_true (by omega)
  have d7 : decide (v.kind = 7) = false := decide_eq_false (by omega)
  have d8 : decide (v.kind = 8) = false := decide_eq_false (by omega)
  rw [V.wf_eq]
  generalize wfEs v.next v.items [] = arr
  (refine enter Tryz.func135 rfl rfl (by kernel_rfl) [] ?_; simp only [go_sem, Nat.reduceBEq])
  simp only [d3, go_sem, Nat.reduceBEq]
  refine Br.intro (fun hs => ?_) (fun hs => ?_)
  · simp only [hs, go_sem, Nat.reduceBEq]
    have hs : ¬ v.str = ⟨#[]⟩ := by simpa using hs
    exact ⟨by simp [wf0, ha, hs], Ext.refl _⟩
  have hsr := hs
  have hs : v.str = ⟨#[]⟩ := by simpa using hs
  simp only [d4, hsr, go_sem, Nat.reduceBEq]
  refine Br.intro (fun hn => ?_) (fun hn => ?_)
  · simp only [hn, go_sem, Nat.reduceBEq]
    have hn : ¬ v.next = 0 := by simpa using hn
    exact ⟨by simp [wf0, ha, hs, hn], Ext.refl _⟩
  have hnr := hn
  have hn : v.next = 0 := by simpa using hn
  simp only [hnr, go_sem, Nat.reduceBEq]
  refine Br.intro (fun hl => ?_) (fun hl => ?_)
  · simp only [hl, go_sem, Nat.reduceBEq]
    have hl : 0 < v.items.length := by simpa using hl
    exact ⟨by simp [wf0, ha, hs, hn, hl], Ext.refl _⟩
  have hlr := hl
  have hl : ¬ 0 < v.items.length := by simpa using hl
  simp only [d0, d1, d2, d3, d6, hlr, go_sem, Nat.reduceBEq]
  have hl : v.items.length = 0 := by omega
  (refine (l1In_c _ _ _ _).mono ?_; rintro _ _ ⟨rfl, rfl⟩; simp only [go_sem, Nat.reduceBEq])
  exact ⟨by simp [wf0, ha, hs, hn, hl], (Ext.refl _)⟩
theorem sWell_7 (v : V) (sl : Value) (h : Hp) (rd : RdE h v.items sl) (ha : v.kind = 7) : ACalls Tryz.prog 135 #[.agg #[.int .i64 v.kind, .int .i64 v.num, .string v.str, .int .i64 v.next, sl]] h (Is (.bool v.wf) h) := by
  obtain ⟨a, c, xs, rfl, hc, hr, hat⟩ := rd.rows (by decide) v.items.length (fm_len edt_len _)
  have d0 : decide (v.kind = 0) = false := decide_eq_false (by omega)
  have d1 : decide (v.kind = 1) = false := decide_eq_false (by omega)
  have d2 : decide (v.kind = 2) = false := decide_eq_false (by omega)
  have d3 : decide (v.kind = 3) = false := decide_eq_false (by omega)
  have d4 : decide (v.kind = 4) = false := decide_eq_false (by omega)
  have d6 : decide (v.kind = 6) = false := decide_eq_false (by omega)
  have d7 : decide (v.kind = 7) = true := decide_eq_true (by omega)
  have d8 : decide (v.kind = 8) = false := decide_eq_false (by omega)
  rw [V.wf_eq]
  generalize wfEs v.next v.items [] = arr
  (refine enter Tryz.func135 rfl rfl (by kernel_rfl) [] ?_; simp only [go_sem, Nat.reduceBEq])
  simp only [d3, go_sem, Nat.reduceBEq]
  refine Br.intro (fun hs => ?_) (fun hs => ?_)
  · simp only [hs, go_sem, Nat.reduceBEq]
    have hs : ¬ v.str = ⟨#[]⟩ := by simpa using hs
    exact ⟨by simp [wf0, ha, hs], Ext.refl _⟩
  have hsr := hs
  have hs : v.str = ⟨#[]⟩ := by simpa using hs
  simp only [d4, hsr, go_sem, Nat.reduceBEq]
  refine Br.intro (fun hn => ?_) (fun hn => ?_)
  · simp only [hn, go_sem, Nat.reduceBEq]
    have hn : ¬ v.next = 0 := by simpa using hn
    exact ⟨by simp [wf0, ha, hs, hn], Ext.refl _⟩
  have hnr := hn
  have hn : v.next = 0 := by simpa using hn
  simp only [hnr, go_sem, Nat.reduceBEq]
  refine Br.intro (fun hl => ?_) (fun hl => ?_)
  · simp only [hl, go_sem, Nat.reduceBEq]
    have hl : 0 < v.items.length := by simpa using hl
    exact ⟨by simp [wf0, ha, hs, hn, hl], Ext.refl _⟩
  have hlr := hl
  have hl : ¬ 0 < v.items.length := by simpa using hl
  simp only [d0, d1, d2, d3, d6, d7, hlr, go_sem, Nat.reduceBEq]
  have hl : v.items.length = 0 := by omega
  (refine (l1In_c _ _ _ _).mono ?_; rintro _ _ ⟨rfl, rfl⟩; simp only [go_sem, Nat.reduceBEq])
  exact ⟨by simp [wf0, ha, hs, hn, hl], (Ext.refl _)⟩
theorem sWell_8 (v : V) (sl : Value) (h : Hp) (rd : RdE h v.items sl) (ha : v.kind = 8) : ACalls Tryz.prog 135 #[.agg #[.int .i64 v.kind, .int .i64 v.num, .string v.str, .int .i64 v.next, sl]] h (Is (.bool v.wf) h) := by
  obtain ⟨a, c, xs, rfl, hc, hr, hat⟩ := rd.rows (by decide) v.items.length (fm_len edt_len _)
  have d0 : decide (v.kind = 0) = false := decide_eq_false (by omega)
  have d1 : decide (v.kind = 1) = false := decide_eq_false (by omega)
  have d2 : decide (v.kind = 2) = false := decide_eq_false (by omega)
  have d3 : decide (v.kind = 3) = false := decide_eq_false (by omega)
  have d4 : decide (v.kind = 4) = false := decide_eq_false (by omega)
  have d6 : decide (v.kind = 6) = false := decide_eq_false (by omega)
  have d7 : decide (v.kind = 7) = false := decide_eq_false (by omega)
  have d8 : decide (v.kind = 8) = true := decide_eq_true (by omega)
  rw [V.wf_eq]
  generalize wfEs v.next v.items [] = arr
  (refine enter Tryz.func135 rfl rfl (by kernel_rfl) [] ?_; simp only [go_sem, Nat.reduceBEq])
  simp only [d3, go_sem, Nat.reduceBEq]
  refine Br.intro (fun hs => ?_) (fun hs => ?_)
  · simp only [hs, go_sem, Nat.reduceBEq]
    have hs : ¬ v.str = ⟨#[]⟩ := by simpa using hs
    exact ⟨by simp [wf0, ha, hs], Ext.refl _⟩
  have hsr := hs
  have hs : v.str = ⟨#[]⟩ := by simpa using hs
  simp only [d4, hsr, go_sem, Nat.reduceBEq]
  refine Br.intro (fun hn => ?_) (fun hn => ?_)
  · simp only [hn, go_sem, Nat.reduceBEq]
    have hn : ¬ v.next = 0 := by simpa using hn
    exact ⟨by simp [wf0, ha, hs, hn], Ext.refl _⟩
  have hnr := hn
  have hn : v.next = 0 := by simpa using hn
  simp only [hnr, go_sem, Nat.reduceBEq]
  refine Br.intro (fun hl => ?_) (fun hl => ?_)
  · simp only [hl, go_sem, Nat.reduceBEq]
    have hl : 0 < v.items.length := by simpa using hl
    exact ⟨by simp [wf0, ha, hs, hn, hl], Ext.refl _⟩
  have hlr := hl
  have hl : ¬ 0 < v.items.length := by simpa using hl
  simp only [d0, d1, d2, d3, d6, d7, d8, hlr, go_sem, Nat.reduceBEq]
  have hl : v.items.length = 0 := by omega
  (refine (l1In_c _ _ _ _).mono ?_; rintro _ _ ⟨rfl, rfl⟩; simp only [go_sem, Nat.reduceBEq])
  exact ⟨by simp [wf0, ha, hs, hn, hl], (Ext.refl _)⟩
theorem sWell_o (v : V) (sl : Value) (h : Hp) (rd : RdE h v.items sl) (ha : ¬ v.kind = 0 ∧ ¬ v.kind = 1 ∧ ¬ v.kind = 2 ∧ ¬ v.kind = 3 ∧ ¬ v.kind = 4 ∧ ¬ v.kind = 6 ∧ ¬ v.kind = 7 ∧ ¬ v.kind = 8) : ACalls Tryz.prog 135 #[.agg #[.int .i64 v.kind, .int .i64 v.num, .string v.str, .int .i64 v.next, sl]] h (Is (.bool v.wf) h) := by
  obtain ⟨a, c, xs, rfl, hc, hr, hat⟩ := rd.rows (by decide) v.items.length (fm_len edt_len _)
  have d0 : decide (v.kind = 0) = false := decide_eq_false (by omega)
  have d1 : decide (v.kind = 1) = false := decide_eq_false (by omega)
  have d2 : decide (v.kind = 2) = false := decide_eq_false (by omega)
  have d3 : decide (v.kind = 3) = false := decide_eq_false (by omega)
  have d4 : decide (v.kind = 4) = false := decide_eq_false (by omega)
  have d6 : decide (v.kind = 6) = false := decide_eq_false (by omega)
  have d7 : decide (v.kind = 7) = false := decide_eq_false (by omega)
  have d8 : decide (v.kind = 8) = false := decide_eq_false (by omega)
  obtain ⟨a0, a1, a2, a3, a4, a6, a7, a8⟩ := ha
  rw [V.wf_eq]
  generalize wfEs v.next v.items [] = arr
  (refine enter Tryz.func135 rfl rfl (by kernel_rfl) [] ?_; simp only [go_sem, Nat.reduceBEq])
  simp only [d3, go_sem, Nat.reduceBEq]
  refine Br.intro (fun hs => ?_) (fun hs => ?_)
  · simp only [hs, go_sem, Nat.reduceBEq]
    have hs : ¬ v.str = ⟨#[]⟩ := by simpa using hs
    exact ⟨by simp [wf0, a0, a1, a2, a3, a4, a6, a7, a8, hs], Ext.refl _⟩
  have hsr := hs
  have hs : v.str = ⟨#[]⟩ := by simpa using hs
  simp only [d4, hsr, go_sem, Nat.reduceBEq]
  refine Br.intro (fun hn => ?_) (fun hn => ?_)
  · simp only [hn, go_sem, Nat.reduceBEq]
    have hn : ¬ v.next = 0 := by simpa using hn
    exact ⟨by simp [wf0, a0, a1, a2, a3, a4, a6, a7, a8, hs, hn], Ext.refl _⟩
  have hnr := hn
  have hn : v.next = 0 := by simpa using hn
  simp only [hnr, go_sem, Nat.reduceBEq]
  refine Br.intro (fun hl => ?_) (fun hl => ?_)
  · simp only [hl, go_sem, Nat.reduceBEq]
    have hl : 0 < v.items.length := by simpa using hl
    exact ⟨by simp [wf0, a0, a1, a2, a3, a4, a6, a7, a8, hs, hn, hl], Ext.refl _⟩
  have hlr := hl
  have hl : ¬ 0 < v.items.length := by simpa using hl
  simp only [d0, d1, d2, d3, d4, d6, d7, d8, hlr, go_sem, Nat.reduceBEq]
  have hl : v.items.length = 0 := by omega
  exact ⟨by simp [wf0, a0, a1, a2, a3, a4, a6, a7, a8, hs, hn, hl], (Ext.refl _)⟩
theorem sWell : ∀ v, WfS v := V.ind fun v ih hbk sl h rd => by
  rcases k9 v.kind with ha | ha | ha | ha | ha | ha | ha | ha | ha
  · exact sWell_0 v sl h rd ha
  · exact sWell_1 v sl h rd ha
  · exact sWell_2 v sl h rd ha
  · exact sWell_3 v sl h rd ha
  · exact sWell_4 v ih hbk sl h rd ha
  · exact sWell_6 v sl h rd ha
  · exact sWell_7 v sl h rd ha
  · exact sWell_8 v sl h rd ha
  · exact sWell_o v sl h rd ha
theorem iIsValue (v : V) (hb : v.bulk ≤ 1099511627776) (sl : Value) (h : Hp) (rd : RdE h v.items sl) (hE : Env h) : ACalls Tryz.prog 100 #[.agg #[.int .i64 v.kind, .int .i64 v.num, .string v.str, .int .i64 v.next, sl]] h (Is (.bool v.valid) h) := by
  (refine enter Tryz.func100 rfl rfl (by kernel_rfl) [] ?_; simp only [go_sem, Nat.reduceBEq, Nat.reduceAdd, Nat.reduceLeDiff])
  (refine (iWeight v hb _ _ rd).mono ?_; rintro _ _ ⟨rfl, rfl⟩; simp only [go_sem, Nat.reduceBEq])
  have hd : decide (((v.weight : Nat) : Int) ≤ 200) = decide (v.weight ≤ 200) := decide_eq_decide.2 (by omega)
  unfold V.valid
  simp only [hd, go_sem]
  refine Br.intro (fun h1 => ?_) (fun h1 => ?_) <;> (try simp only [h1, go_sem, Nat.reduceBEq, Nat.reduceAdd, Nat.reduceLeDiff])
  · refine (iWell v hb _ _ rd hE).mono ?_
    rintro _ h2 ⟨rfl, e2⟩
    simp only [go_sem, Nat.reduceBEq]
    exact ⟨by simp, e2⟩
  · exact ⟨by simp, Ext.refl _⟩
theorem sIsValue (v : V) (hb : v.bulk ≤ 1099511627776) (sl : Value) (h : Hp) (rd : RdE h v.items sl) : ACalls Tryz.prog 98 #[.agg #[.int .i64 v.kind, .int .i64 v.num, .string v.str, .int .i64 v.next, sl]] h (Is (.bool v.valid) h) := by
  (refine enter Tryz.func98 rfl rfl (by kernel_rfl) [] ?_; simp only [go_sem, Nat.reduceBEq, Nat.reduceAdd, Nat.reduceLeDiff])
  refine (sWeigh v hb 200 (by decide) _ _ rd).mono ?_
  rintro _ _ ⟨rfl, r, rfl, hr1, hr2⟩
  have hd : decide (((r : Nat) : Int) ≤ 200) = decide (v.weight ≤ 200) := decide_eq_decide.2 (by
    constructor
    · intro h; have := hr2 (by omega); omega
    · intro h; omega)
  unfold V.valid
  simp only [hd, go_sem, Nat.reduceBEq]
  refine Br.intro (fun h1 => ?_) (fun h1 => ?_) <;> (try simp only [h1, go_sem, Nat.reduceBEq, Nat.reduceAdd, Nat.reduceLeDiff])
  · refine (sWell v hb _ _ rd).mono ?_
    rintro _ h2 ⟨rfl, e2⟩
    simp only [go_sem, Nat.reduceBEq]
    exact ⟨by simp, e2⟩
  · exact ⟨by simp, Ext.refl _⟩
end Go.Proofs.YtedfplodobpgfaaGreatDoor
namespace Go.Proofs.YtedfplodobpgfaaGreatDoor
set_option maxRecDepth 8000
open Go Go.Sx
theorem iIsHeld (l : List Bk) (v : V) (hl : l.length ≤ 1099511627776) (hb : v.bulk ≤ 1099511627776) (s sl : Value) (h : Hp) (r1 : RdB h l s) (r2 : RdE h v.items sl) (hE : Env h) : ACalls Tryz.prog 80 #[.agg #[s], .agg #[.int .i64 v.kind, .int .i64 v.num, .string v.str, .int .i64 v.next, sl]] h (Is (.bool (isHeld l v)) h) := by
  obtain ⟨a1, c1, xs1, rfl, hc1, hr1, hat1⟩ := r1.rows (by decide) l.length (fm_len Bk.dt_len _)
  obtain ⟨a2, c2, _, rfl, _⟩ := r2.rows (by decide) v.items.length (fm_len edt_len _)
  have hw : IntKind.i64.wrap ((l.length : Int) - 1) = (l.length : Int) - 1 := IntWalk.i64_in _ (by omega)
  (refine enter Tryz.func80 rfl rfl (by kernel_rfl) [] ?_; simp only [go_sem, Nat.reduceBEq])
  by_cases hk : v.kind = 5
  case neg =>
    simp only [decide_eq_false hk, Bool.not_false, go_sem, Nat.reduceBEq]
    by_cases h4 : v.kind = 4
    · simp only [decide_eq_true h4, Bool.not_true, go_sem, Nat.reduceBEq]
      exact ⟨by unfold isHeld; rw [if_neg hk, decide_eq_true h4]; rfl, Ext.refl _⟩
    · simp only [decide_eq_false h4, Bool.not_false, go_sem, Nat.reduceBEq, Nat.reduceAdd, Nat.reduceLeDiff]
      refine (iIsValue v hb _ _ r2 hE).mono ?_
      rintro _ h1 ⟨rfl, e1⟩
      simp only [go_sem, Nat.reduceBEq]
      exact ⟨by unfold isHeld; rw [if_neg hk, decide_eq_false h4, V.valid_wf h4]; rfl, e1⟩
  have hH : isHeld l v = hHeld l v := if_pos hk
  rw [hH]
  unfold hHeld
  simp only [decide_eq_true hk, Bool.not_true, go_sem, Nat.reduceBEq]
  by_cases h1 : v.str = ⟨#[]⟩
  case neg =>
    simp only [decide_eq_false h1, Bool.false_and, go_sem, Nat.reduceBEq]
    exact ⟨rfl, Ext.refl _⟩
  by_cases h2 : v.next = 0
  case neg =>
    simp only [decide_eq_true h1, decide_eq_false h2, Bool.true_and, Bool.false_and, go_sem, Nat.reduceBEq]
    exact ⟨rfl, Ext.refl _⟩
  by_cases h3 : v.items.length = 0
  case neg =>
    simp only [decide_eq_true h1, decide_eq_true h2, decide_eq_false h3, decide_eq_false (show ¬ ((v.items.length : Nat) : Int) = 0 by omega), Bool.true_and, Bool.false_and, go_sem, Nat.reduceBEq]
    exact ⟨rfl, Ext.refl _⟩
  simp only [decide_eq_true h1, decide_eq_true h2, decide_eq_true h3, decide_eq_true (show ((v.items.length : Nat) : Int) = 0 by omega), Bool.true_and, hw, go_sem, Nat.reduceBEq]
  (refine (iInRange _ _ _ _).mono ?_; rintro _ _ ⟨rfl, rfl⟩; simp only [go_sem, Nat.reduceBEq])
  by_cases h5 : 0 ≤ v.num ∧ v.num ≤ (l.length : Int) - 1
  case neg =>
    simp only [decide_eq_false h5, Bool.false_and, go_sem, Nat.reduceBEq]
    exact ⟨rfl, Ext.refl _⟩
  have hlt : v.num.toNat < l.length := by omega
  obtain ⟨b, off, rfl, hat'⟩ := hat1 (by omega)
  simp only [decide_eq_true h5, Bool.true_and, ix_int h5.1 hlt, go_sem, Nat.reduceBEq]
  refine hsem_bcnt tyS3 hat' hr1 (blk_at hlt) rfl ?_
  simp only [go_sem, Nat.reduceBEq]
  exact ⟨rfl, Ext.refl _⟩
theorem sHandle (v : V) (sl : Value) (h : Hp) (r2 : RdE h v.items sl) : ACalls Tryz.prog 134 #[.agg #[.int .i64 v.kind, .int .i64 v.num, .string v.str, .int .i64 v.next, sl]] h (Pu (.bool (decide (v.kind = 5) && (decide (v.str = ⟨#[]⟩) && (decide (v.next = 0) && decide (v.items.length = 0))))) h) := by
  obtain ⟨a2, c2, _, rfl, _⟩ := r2.rows (by decide) v.items.length (fm_len edt_len _)
  (refine enter Tryz.func134 rfl rfl (by kernel_rfl) [] ?_; simp only [go_sem, Nat.reduceBEq])
  by_cases hk : v.kind = 5
  case neg =>
    simp only [decide_eq_false hk, Bool.false_and, go_sem, Nat.reduceBEq]
    exact ⟨rfl, rfl⟩
  by_cases h1 : v.str = ⟨#[]⟩
  case neg =>
    simp only [decide_eq_true hk, decide_eq_false h1, Bool.true_and, Bool.false_and, go_sem, Nat.reduceBEq]
    exact ⟨rfl, rfl⟩
  by_cases h2 : v.next = 0
  case neg =>
    simp only [decide_eq_true hk, decide_eq_true h1, decide_eq_false h2, Bool.true_and, Bool.false_and, go_sem, Nat.reduceBEq]
    exact ⟨rfl, rfl⟩
  simp only [decide_eq_true hk, decide_eq_true h1, decide_eq_true h2, Bool.true_and, go_sem, Nat.reduceBEq]
  exact ⟨by rw [show decide (((v.items.length : Nat) : Int) = 0) = decide (v.items.length = 0) from decide_eq_decide.2 (by omega)], rfl⟩
theorem sIsHeld (l : List Bk) (v : V) (hl : l.length ≤ 1099511627776) (hb : v.bulk ≤ 1099511627776) (s sl : Value) (h : Hp) (r1 : RdB h l s) (r2 : RdE h v.items sl) : ACalls Tryz.prog 76 #[.agg #[s], .agg #[.int .i64 v.kind, .int .i64 v.num, .string v.str, .int .i64 v.next, sl]] h (Is (.bool (isHeld l v)) h) := by
  obtain ⟨a1, c1, xs1, rfl, hc1, hr1, hat1⟩ := r1.rows (by decide) l.length (fm_len Bk.dt_len _)
  obtain ⟨a2, c2, _, rfl, _⟩ := r2.rows (by decide) v.items.length (fm_len edt_len _)
  have hw : IntKind.i64.wrap ((l.length : Int) - 1) = (l.length : Int) - 1 := IntWalk.i64_in _ (by omega)
  (refine enter Tryz.func76 rfl rfl (by kernel_rfl) [] ?_; simp only [go_sem, Nat.reduceBEq])
  by_cases hk : v.kind = 5
  case neg =>
    simp only [decide_eq_false hk, go_sem, Nat.reduceBEq]
    by_cases h4 : v.kind = 4
    · simp only [decide_eq_true h4, Bool.not_true, go_sem, Nat.reduceBEq]
      exact ⟨by unfold isHeld; rw [if_neg hk, decide_eq_true h4]; rfl, Ext.refl _⟩
    · simp only [decide_eq_false h4, Bool.not_false, go_sem, Nat.reduceBEq, Nat.reduceAdd, Nat.reduceLeDiff]
      refine (sWell v hb _ _ r2).mono ?_
      rintro _ h1 ⟨rfl, e1⟩
      simp only [go_sem, Nat.reduceBEq]
      exact ⟨by unfold isHeld; rw [if_neg hk, decide_eq_false h4]; rfl, e1⟩
  have hH : isHeld l v = hHeld l v := if_pos hk
  rw [hH]
  unfold hHeld
  simp only [decide_eq_true hk, go_sem, Nat.reduceBEq, Nat.reduceAdd, Nat.reduceLeDiff]
  (refine (sHandle v _ _ r2).mono ?_; rintro _ _ ⟨rfl, rfl⟩; simp only [go_sem, Nat.reduceBEq])
  simp only [decide_eq_true hk, Bool.true_and, go_sem]
  by_cases h1 : v.str = ⟨#[]⟩
  case neg =>
    simp only [decide_eq_false h1, Bool.false_and, go_sem, Nat.reduceBEq]
    exact ⟨rfl, Ext.refl _⟩
  by_cases h2 : v.next = 0
  case neg =>
    simp only [decide_eq_true h1, decide_eq_false h2, Bool.true_and, Bool.false_and, go_sem, Nat.reduceBEq]
    exact ⟨rfl, Ext.refl _⟩
  by_cases h3 : v.items.length = 0
  case neg =>
    simp only [decide_eq_true h1, decide_eq_true h2, decide_eq_false h3, Bool.true_and, Bool.false_and, go_sem, Nat.reduceBEq]
    exact ⟨rfl, Ext.refl _⟩
  simp only [decide_eq_true h1, decide_eq_true h2, decide_eq_true h3, Bool.true_and, hw, go_sem, Nat.reduceBEq]
  (refine (l1In_c _ _ _ _).mono ?_; rintro _ _ ⟨rfl, rfl⟩; simp only [go_sem, Nat.reduceBEq])
  by_cases h5 : 0 ≤ v.num ∧ v.num ≤ (l.length : Int) - 1
  case neg =>
    simp only [decide_eq_false h5, Bool.false_and, go_sem, Nat.reduceBEq]
    exact ⟨rfl, Ext.refl _⟩
  have hlt : v.num.toNat < l.length := by omega
  obtain ⟨b, off, rfl, hat'⟩ := hat1 (by omega)
  simp only [decide_eq_true h5, Bool.true_and, ix_int h5.1 hlt, go_sem, Nat.reduceBEq]
  refine hsem_bcnt tyS3 hat' hr1 (blk_at hlt) rfl ?_
  simp only [go_sem, Nat.reduceBEq]
  exact ⟨rfl, Ext.refl _⟩
end Go.Proofs.YtedfplodobpgfaaGreatDoor
namespace Go.Proofs.YtedfplodobpgfaaGreatDoor
set_option maxRecDepth 8000
open Go Go.Sx
theorem bulks_mem' : ∀ {es : List (Ky × V)} {e : Ky × V}, e ∈ es → V.bulks e.2.items ≤ V.bulks es
  | (k, v) :: r, e, he => by
    simp only [V.bulks, V.bulk_eq]
    cases he with
    | head => simp only; omega
    | tail _ he => have := bulks_mem' he; omega
theorem bulks_len' : ∀ es : List (Ky × V), es.length ≤ V.bulks es
  | [] => Nat.le_refl _
  | (k, v) :: r => by
    have := bulks_len' r
    simp only [V.bulks, List.length_cons]
    omega
def Made (h : Hp) (v : V) (u : Value) (h' : Hp) : Prop := ∃ a c, u = .agg #[.int .i64 v.kind, .int .i64 v.num, .string v.str, .int .i64 v.next, .slice a v.items.length c] ∧ My h h' [(.row 8 (v.items.flatMap edt), .slice a v.items.length c)]
def CopyI (v : V) : Prop := V.bulks v.items ≤ 1099511627776 → ∀ (h : Hp) (sl : Value), RdE h v.items sl →
  ACalls Tryz.prog 65 #[.agg #[.int .i64 v.kind, .int .i64 v.num, .string v.str, .int .i64 v.next, sl]] h (Made h v)
theorem copyValue_c : ∀ v, CopyI v := V.ind fun v ih hbk h sl rd => by
  have hlen := bulks_len' v.items
  obtain ⟨a, c, xs, rfl, hc, hr, hat⟩ := rd.rows (by decide) v.items.length (fm_len edt_len _)
  (refine enter Tryz.func65 rfl rfl (by kernel_rfl) [] ?_; simp only [go_sem, Nat.reduceBEq, Nat.reduceAdd, Nat.reduceLeDiff])
  refine aloop (ι := Nat × Value) (fun x => [(11, .val (.int .i64 (x.1 : Nat))), (10, .val (.int .i64 (v.items.length : Nat))), (9, .val (.slice a v.items.length c)), (3, .box 3 0), (2, .box 2 0)])
    (fun x => [(3, [.int .i64 v.kind, .int .i64 v.num, .string v.str, .int .i64 v.next, x.2]), (2, [.int .i64 0, .int .i64 0, .string ⟨#[]⟩, .int .i64 0, .slice none 0 0])])
    (fun x h' => x.1 ≤ v.items.length ∧ My h h' [(.row 8 ((v.items.take x.1).flatMap edt), x.2)]) (fun x => v.items.length - x.1) (0, .slice none 0 0)
    ⟨Nat.zero_le _, (My.nil (Ext.refl h)).nilrow⟩ (by repeat (first | exact wkF_e | refine wkF_c rfl ?_)) (wkB_c rfl (wkB_c rfl wkB_e)) rfl ?_
  rintro ⟨i, o⟩ h1 ⟨hi, m1⟩
  have hi : i ≤ v.items.length := hi
  have m1 : My h h1 [(.row 8 ((v.items.take i).flatMap edt), o)] := m1
  have htl : ((v.items.take i).flatMap edt).length = i * 8 := by rw [fm_len edt_len, List.length_take, Nat.min_eq_left hi]
  obtain ⟨ao, co, rfl, _⟩ := m1.row_shape (by decide) i htl
  simp only [go_sem, Nat.reduceBEq]
  refine Br.intro (fun hb => ?_) (fun hb => ?_) <;> (try simp only [hb, go_sem, Nat.reduceBEq, Nat.reduceAdd, Nat.reduceLeDiff])
  · have hb : i < v.items.length := by simpa using hb
    obtain ⟨b, off, rfl, hat'⟩ := hat (by omega)
    have hat1 := hat'.mono m1.ext
    have hr1 := hr.mono m1.ext
    obtain ⟨e, he, hm⟩ := get_lt hb
    have wsu := wrap_succ (i := i) (by omega)
    simp only [ix_nat hb, go_sem, Nat.reduceBEq]
    refine hsem_entry tyS141 hat1 hr1 he rfl fun s2 rd2 => ?_
    obtain ⟨a2, c2, _, rfl, _⟩ := rd2.rows (by decide) e.2.items.length (fm_len edt_len _)
    simp only [go_sem, Nat.reduceBEq, Nat.reduceAdd, Nat.reduceLeDiff]
    refine regionD_intro (lb := [16, 18, 20]) (by kernel_rfl) ?_
    simp only [go_sem, Nat.reduceBEq, Nat.reduceAdd, Nat.reduceLeDiff]
    refine (ih e hm (by have := bulks_mem' hm; omega) _ _ rd2).mono ?_
    rintro _ h2 ⟨a3, c3, rfl, m2⟩
    simp only [go_sem, Nat.reduceBEq, Nat.reduceAdd, Nat.reduceLeDiff]
    have m3 := (m1.add m2)
    refine hsem_my_lit (h0 := h) (es := edt e) (parts := [(0, .agg #[.bool e.1.text, .int .i64 e.1.num, .string e.1.str, .int .i64 e.2.kind, .int .i64 e.2.num, .string e.2.str, .int .i64 e.2.next, .slice a3 e.2.items.length c3])]) slT42 (by decide) (by decide) (by decide) rfl rfl (by simp [Value.cells]) (bag := [(.row 8 ((v.items.take i).flatMap edt), .slice ao i co)]) ?_ rfl (edt_len e) fun l4 h4 m4 => ?_
    · simp only [edt_eq, flat, List.flatMap_cons, List.flatMap_nil, List.append_nil, cells_agg, List.zip_cons_cons, List.zip_nil_right, List.cons_append, List.nil_append, My.raw_iff, one_bool, one_int, one_str, and_self, true_and]
      exact m3
    simp only [go_sem, Nat.reduceBEq]
    refine hsem_my_append slT42 (by decide) rfl i 1 m4.swap htl (edt_len e) (by show (i + 1) * 96 ≤ _; omega) (by omega) fun l5 h5 m5 => ?_
    have m5 : My h h5 [(.row 8 ((v.items.take i).flatMap edt ++ edt e), l5)] := m5
    have e5 : (v.items.take i).flatMap edt ++ edt e = (v.items.take (i + 1)).flatMap edt := by rw [take_snoc he, List.flatMap_append, List.flatMap_cons, List.flatMap_nil, List.append_nil]
    rw [e5] at m5
    obtain ⟨a6, c6, rfl, _⟩ := m5.row_shape (by decide) (i + 1) (by rw [fm_len edt_len, List.length_take, Nat.min_eq_left hb])
    simp only [wsu, go_sem, Nat.reduceBEq, Nat.reduceAdd, Nat.reduceLeDiff]
    exact Again.intro (i + 1, .slice a6 (i + 1) c6) (by first | omega | (simp only; omega)) ⟨hb, m5⟩ (by repeat (first | exact wkF_e | refine wkF_c rfl ?_)) (wkB_c rfl (wkB_c rfl wkB_e)) rfl
  · have hb : i = v.items.length := by simp at hb; omega
    subst hb
    rw [List.take_length] at m1
    try simp only [go_sem, Nat.reduceBEq, Nat.reduceAdd, Nat.reduceLeDiff, Nat.reduceEqDiff, Int.reduceEq, not_false_eq_true, Int.reduceToNat]
    exact ⟨_, _, rfl, m1⟩
def CopyS (v : V) : Prop := V.bulks v.items ≤ 1099511627776 → ∀ (h : Hp) (sl : Value), RdE h v.items sl →
  ACalls Tryz.prog 56 #[.agg #[.int .i64 v.kind, .int .i64 v.num, .string v.str, .int .i64 v.next, sl]] h (Made h v)
theorem l5Copy_c : ∀ v, CopyS v := V.ind fun v ih hbk h sl rd => by
  have hlen := bulks_len' v.items
  obtain ⟨a, c, xs, rfl, hc, hr, hat⟩ := rd.rows (by decide) v.items.length (fm_len edt_len _)
  (refine enter Tryz.func56 rfl rfl (by kernel_rfl) [] ?_; simp only [go_sem, Nat.reduceBEq, Nat.reduceAdd, Nat.reduceLeDiff])
  refine aloop (ι := Nat × Value) (fun x => [(4, .val (.int .i64 (x.1 : Nat))), (1, .box 1 0), (3, .box 3 0), (2, .box 2 0)])
    (fun x => [(3, [.int .i64 v.kind, .int .i64 v.num, .string v.str, .int .i64 v.next, x.2]), (1, [.int .i64 v.kind, .int .i64 v.num, .string v.str, .int .i64 v.next, .slice a v.items.length c]), (2, [.int .i64 0, .int .i64 0, .string ⟨#[]⟩, .int .i64 0, .slice none 0 0])])
    (fun x h' => x.1 ≤ v.items.length ∧ My h h' [(.row 8 ((v.items.take x.1).flatMap edt), x.2)]) (fun x => v.items.length - x.1) (0, .slice none 0 0)
    ⟨Nat.zero_le _, (My.nil (Ext.refl h)).nilrow⟩ (by repeat (first | exact wkF_e | refine wkF_c rfl ?_)) (wkB_c rfl (wkB_c rfl (wkB_c rfl wkB_e))) rfl ?_
  rintro ⟨i, o⟩ h1 ⟨hi, m1⟩
  have hi : i ≤ v.items.length := hi
  have m1 : My h h1 [(.row 8 ((v.items.take i).flatMap edt), o)] := m1
  have htl : ((v.items.take i).flatMap edt).length = i * 8 := by rw [fm_len edt_len, List.length_take, Nat.min_eq_left hi]
  obtain ⟨ao, co, rfl, _⟩ := m1.row_shape (by decide) i htl
  simp only [go_sem, Nat.reduceBEq]
  refine Br.intro (fun hb => ?_) (fun hb => ?_) <;> (try simp only [hb, go_sem, Nat.reduceBEq, Nat.reduceAdd, Nat.reduceLeDiff])
  · have hb : i < v.items.length := by simpa using hb
    obtain ⟨b, off, rfl, hat'⟩ := hat (by omega)
    have hat1 := hat'.mono m1.ext
    have hr1 := hr.mono m1.ext
    obtain ⟨e, he, hm⟩ := get_lt hb
    have wsu := wrap_succ (i := i) (by omega)
    refine regionD_still (lb := [15, 17, 23]) (pl := [21]) h m1.ext (by kernel_rfl) ?_
    simp only [ix_nat hb, go_sem, Nat.reduceBEq]
    refine hsem_ekey tyS40 hat' hr he rfl ?_
    simp only [ix_nat hb, go_sem, Nat.reduceBEq, Nat.reduceAdd]
    refine hsem_eval tyS44 hat1 hr1 he rfl fun s2 rd2 => ?_
    simp only [go_sem, Nat.reduceBEq]
    refine (ih e hm (by have := bulks_mem' hm; omega) _ _ rd2).mono ?_
    rintro _ h2 ⟨a3, c3, rfl, m2⟩
    simp only [go_sem, Nat.reduceBEq, Nat.reduceAdd, Nat.reduceLeDiff]
    refine ⟨m1.ext.trans m2.ext, ?_⟩
    have m3 := (m1.add m2)
    refine hsem_my_lit (h0 := h) (es := edt e) (parts := [(0, .agg #[.bool e.1.text, .int .i64 e.1.num, .string e.1.str, .int .i64 e.2.kind, .int .i64 e.2.num, .string e.2.str, .int .i64 e.2.next, .slice a3 e.2.items.length c3])]) slT42 (by decide) (by decide) (by decide) rfl rfl (by simp [Value.cells]) (bag := [(.row 8 ((v.items.take i).flatMap edt), .slice ao i co)]) ?_ rfl (edt_len e) fun l4 h4 m4 => ?_
    · simp only [edt_eq, flat, List.flatMap_cons, List.flatMap_nil, List.append_nil, cells_agg, List.zip_cons_cons, List.zip_nil_right, List.cons_append, List.nil_append, My.raw_iff, one_bool, one_int, one_str, and_self, true_and]
      exact m3
    simp only [go_sem, Nat.reduceBEq]
    refine ⟨m4.ext, ?_⟩
    refine hsem_my_append slT42 (by decide) rfl i 1 m4.swap htl (edt_len e) (by show (i + 1) * 96 ≤ _; omega) (by omega) fun l5 h5 m5 => ?_
    have m5 : My h h5 [(.row 8 ((v.items.take i).flatMap edt ++ edt e), l5)] := m5
    have e5 : (v.items.take i).flatMap edt ++ edt e = (v.items.take (i + 1)).flatMap edt := by rw [take_snoc he, List.flatMap_append, List.flatMap_cons, List.flatMap_nil, List.append_nil]
    rw [e5] at m5
    obtain ⟨a6, c6, rfl, _⟩ := m5.row_shape (by decide) (i + 1) (by rw [fm_len edt_len, List.length_take, Nat.min_eq_left hb])
    simp only [wsu, go_sem, Nat.reduceBEq, Nat.reduceAdd, Nat.reduceLeDiff]
    refine ⟨m5.ext, ?_⟩
    exact Again.intro (i + 1, .slice a6 (i + 1) c6) (by first | omega | (simp only; omega)) ⟨hb, m5⟩ (by repeat (first | exact wkF_e | refine wkF_c rfl ?_)) (wkB_c rfl (wkB_c rfl (wkB_c rfl wkB_e))) rfl
  · have hb : i = v.items.length := by simp at hb; omega
    subst hb
    rw [List.take_length] at m1
    try simp only [go_sem, Nat.reduceBEq, Nat.reduceAdd, Nat.reduceLeDiff, Nat.reduceEqDiff, Int.reduceEq, not_false_eq_true, Int.reduceToNat]
    exact ⟨_, _, rfl, m1⟩
end Go.Proofs.YtedfplodobpgfaaGreatDoor
namespace Go.Proofs.YtedfplodobpgfaaGreatDoor
set_option maxRecDepth 8000
open Go Go.Sx
def MadeT (h : Hp) (t : Tb) (u : Value) (h' : Hp) : Prop := ∃ a c a' c', u = .agg #[.bool t.hashed, .slice a t.heads.length c, .slice a' t.slots.length c', .int .i64 t.next, .int .i64 t.count] ∧ My h h' [(.row 1 (t.heads.flatMap idt), .slice a t.heads.length c), (.row 10 (t.slots.flatMap Sl.dt), .slice a' t.slots.length c')]
theorem slot_bulk {t : Tb} {e : Sl} (h : e ∈ t.slots) : V.bulks e.val.items ≤ t.bulk := by
  have h1 := szG_mem (w := Sl.bulk) h
  have h2 := V.bulk_eq e.val
  have e1 : Sl.bulk e = e.key.str.size + e.val.bulk := rfl
  unfold Tb.bulk
  omega
theorem copyTable_c (t : Tb) (hb : t.bulk ≤ 1099511627776) (s u : Value) (h : Hp) (r1 : RdI h t.heads s) (r2 : RdT h t.slots u) : ACalls Tryz.prog 60 #[.agg #[.bool t.hashed, s, u, .int .i64 t.next, .int .i64 t.count]] h (MadeT h t) := by
  obtain ⟨a1, c1, xs1, rfl, hc1, hr1, hat1⟩ := r1.rows (by decide) t.heads.length (fm_len idt_len _)
  obtain ⟨a2, c2, xs2, rfl, hc2, hr2, hat2⟩ := r2.rows (by decide) t.slots.length (fm_len Sl.dt_len _)
  have hlh : t.heads.length ≤ 1099511627776 := by unfold Tb.bulk at hb; omega
  have hls : t.slots.length ≤ 1099511627776 := by have := szG_len (w := Sl.bulk) t.slots; unfold Tb.bulk at hb; omega
  (refine enter Tryz.func60 rfl rfl (by kernel_rfl) [] ?_; simp only [go_sem, Nat.reduceBEq])
  refine regionD_intro (lb := [7, 10, 13, 15]) (by kernel_rfl) ?_
  simp only [go_sem, Nat.reduceBEq]
  refine hsem_my_lit0 slT22 (My.nil (Ext.refl h)) fun v1 h1 m1 => ?_
  obtain ⟨a0, c0, rfl, _⟩ := m1.row_shape (by decide) 0 rfl
  simp only [go_sem, Nat.reduceBEq]
  refine hsem_copyI slT22 m1 (r1.mono m1.ext) hlh fun v2 h2 m2 => ?_
  obtain ⟨a3, c3, rfl, _⟩ := m2.row_shape (by decide) t.heads.length (fm_len idt_len _)
  simp only [go_sem, Nat.reduceBEq, Nat.reduceAdd, Nat.reduceLeDiff]
  refine aloop (ι := Nat × Value) (fun x => [(20, .val (.int .i64 (x.1 : Nat))), (19, .val (.int .i64 (t.slots.length : Nat))), (18, .val (.slice a2 t.slots.length c2)), (3, .box 3 0), (2, .box 2 0)])
    (fun x => [(3, [.bool t.hashed, .slice a3 t.heads.length c3, x.2, .int .i64 t.next, .int .i64 t.count]), (2, [.bool false, .slice none 0 0, .slice none 0 0, .int .i64 0, .int .i64 0])])
    (fun x h' => x.1 ≤ t.slots.length ∧ My h h' [(.row 10 ((t.slots.take x.1).flatMap Sl.dt), x.2), (.row 1 (t.heads.flatMap idt), .slice a3 t.heads.length c3)]) (fun x => t.slots.length - x.1) (0, .slice none 0 0)
    ⟨Nat.zero_le _, m2.nilrow⟩ (by repeat (first | exact wkF_e | refine wkF_c rfl ?_)) (wkB_c rfl (wkB_c rfl wkB_e)) rfl ?_
  rintro ⟨i, o⟩ h1 ⟨hi, m1⟩
  have hi : i ≤ t.slots.length := hi
  have m1 : My h h1 [(.row 10 ((t.slots.take i).flatMap Sl.dt), o), (.row 1 (t.heads.flatMap idt), .slice a3 t.heads.length c3)] := m1
  have htl : ((t.slots.take i).flatMap Sl.dt).length = i * 10 := by rw [fm_len Sl.dt_len, List.length_take, Nat.min_eq_left hi]
  obtain ⟨ao, co, rfl, _⟩ := m1.row_shape (by decide) i htl
  simp only [go_sem, Nat.reduceBEq]
  refine Br.intro (fun hb => ?_) (fun hb => ?_) <;> (try simp only [hb, go_sem, Nat.reduceBEq, Nat.reduceAdd, Nat.reduceLeDiff])
  · have hb : i < t.slots.length := by simpa using hb
    obtain ⟨b, off, rfl, hat'⟩ := hat2 (by omega)
    have hat1 := hat'.mono m1.ext
    have hr1 := hr2.mono m1.ext
    obtain ⟨e, he, hm⟩ := get_lt hb
    have hbe := slot_bulk hm
    have wsu := wrap_succ (i := i) (by omega)
    simp only [ix_nat hb, go_sem, Nat.reduceBEq]
    refine hsem_slot tyS134 hat1 hr1 he rfl fun s2 rd2 => ?_
    obtain ⟨a5, c5, _, rfl, _⟩ := rd2.rows (by decide) e.val.items.length (fm_len edt_len _)
    simp only [go_sem, Nat.reduceBEq, Nat.reduceAdd, Nat.reduceLeDiff]
    refine (copyValue_c e.val (by omega) _ _ rd2).mono ?_
    rintro _ h2 ⟨a6, c6, rfl, m2⟩
    simp only [go_sem, Nat.reduceBEq, Nat.reduceAdd, Nat.reduceLeDiff]
    have m3 := m1.add m2
    refine hsem_my_lit (h0 := h) (es := Sl.dt e) (parts := [(0, .agg #[.bool e.key.text, .int .i64 e.key.num, .string e.key.str, .int .i64 e.val.kind, .int .i64 e.val.num, .string e.val.str, .int .i64 e.val.next, .slice a6 e.val.items.length c6, .bool e.live, .int .i64 e.link])]) slT34 (by decide) (by decide) (by decide) rfl rfl (by simp [Value.cells]) (bag := [(.row 10 ((t.slots.take i).flatMap Sl.dt), .slice ao i co), (.row 1 (t.heads.flatMap idt), .slice a3 t.heads.length c3)]) ?_ rfl (Sl.dt_len e) fun l4 h4 m4 => ?_
    · simp only [flat, List.flatMap_cons, List.flatMap_nil, List.append_nil, cells_agg]
      exact slot_zip e m3
    simp only [go_sem, Nat.reduceBEq]
    refine hsem_my_append slT34 (by decide) rfl i 1 m4.swap htl (Sl.dt_len e) (by show (i + 1) * 112 ≤ _; omega) (by omega) fun l5 h5 m5 => ?_
    have m5 : My h h5 [(.row 10 ((t.slots.take i).flatMap Sl.dt ++ Sl.dt e), l5), (.row 1 (t.heads.flatMap idt), .slice a3 t.heads.length c3)] := m5
    have e5 : (t.slots.take i).flatMap Sl.dt ++ Sl.dt e = (t.slots.take (i + 1)).flatMap Sl.dt := by rw [take_snoc he, List.flatMap_append, List.flatMap_cons, List.flatMap_nil, List.append_nil]
    rw [e5] at m5
    obtain ⟨a7, c7, rfl, _⟩ := m5.row_shape (by decide) (i + 1) (by rw [fm_len Sl.dt_len, List.length_take, Nat.min_eq_left hb])
    simp only [wsu, go_sem, Nat.reduceBEq, Nat.reduceAdd, Nat.reduceLeDiff]
    exact Again.intro (i + 1, .slice a7 (i + 1) c7) (by first | omega | (simp only; omega)) ⟨hb, m5⟩ (by repeat (first | exact wkF_e | refine wkF_c rfl ?_)) (wkB_c rfl (wkB_c rfl wkB_e)) rfl
  · have hb : i = t.slots.length := by simp at hb; omega
    subst hb
    rw [List.take_length] at m1
    try simp only [go_sem, Nat.reduceBEq, Nat.reduceAdd, Nat.reduceLeDiff, Nat.reduceEqDiff, Int.reduceEq, not_false_eq_true, Int.reduceToNat]
    exact ⟨_, _, _, _, rfl, m1.swap⟩
theorem l7Copy_c (t : Tb) (hb : t.bulk ≤ 1099511627776) (s u : Value) (h : Hp) (r1 : RdI h t.heads s) (r2 : RdT h t.slots u) : ACalls Tryz.prog 52 #[.agg #[.bool t.hashed, s, u, .int .i64 t.next, .int .i64 t.count]] h (MadeT h t) := by
  obtain ⟨a1, c1, xs1, rfl, hc1, hr1, hat1⟩ := r1.rows (by decide) t.heads.length (fm_len idt_len _)
  obtain ⟨a2, c2, xs2, rfl, hc2, hr2, hat2⟩ := r2.rows (by decide) t.slots.length (fm_len Sl.dt_len _)
  have hlh : t.heads.length ≤ 1099511627776 := by unfold Tb.bulk at hb; omega
  have hls : t.slots.length ≤ 1099511627776 := by have := szG_len (w := Sl.bulk) t.slots; unfold Tb.bulk at hb; omega
  (refine enter Tryz.func52 rfl rfl (by kernel_rfl) [] ?_; simp only [go_sem, Nat.reduceBEq, Nat.reduceAdd, Nat.reduceLeDiff])
  refine hsem_my_lit0 slT22 (My.nil (Ext.refl h)) fun v1 h1 m1 => ?_
  obtain ⟨a0, c0, rfl, _⟩ := m1.row_shape (by decide) 0 rfl
  simp only [go_sem, Nat.reduceBEq]
  refine hsem_copyI slT22 m1 (r1.mono m1.ext) hlh fun v2 h2 m2 => ?_
  obtain ⟨a3, c3, rfl, _⟩ := m2.row_shape (by decide) t.heads.length (fm_len idt_len _)
  simp only [go_sem, Nat.reduceBEq, Nat.reduceAdd, Nat.reduceLeDiff]
  refine hsem_my_lit0 slT34 m2 fun v3 h3 m3 => ?_
  obtain ⟨a4, c4, rfl, _⟩ := m3.row_shape (by decide) 0 rfl
  simp only [go_sem, Nat.reduceBEq, Nat.reduceAdd, Nat.reduceLeDiff]
  refine aloop (ι := Nat × Value) (fun x => [(4, .val (.int .i64 (x.1 : Nat))), (1, .box 1 0), (3, .box 3 0), (2, .box 2 0)])
    (fun x => [(3, [.bool t.hashed, .slice a3 t.heads.length c3, x.2, .int .i64 t.next, .int .i64 t.count]), (1, [.bool t.hashed, .slice a1 t.heads.length c1, .slice a2 t.slots.length c2, .int .i64 t.next, .int .i64 t.count]), (2, [.bool false, .slice none 0 0, .slice none 0 0, .int .i64 0, .int .i64 0])])
    (fun x h' => x.1 ≤ t.slots.length ∧ My h h' [(.row 10 ((t.slots.take x.1).flatMap Sl.dt), x.2), (.row 1 (t.heads.flatMap idt), .slice a3 t.heads.length c3)]) (fun x => t.slots.length - x.1) (0, .slice a4 0 c4)
    ⟨Nat.zero_le _, m3⟩ (by repeat (first | exact wkF_e | refine wkF_c rfl ?_)) (wkB_c rfl (wkB_c rfl (wkB_c rfl wkB_e))) rfl ?_
  rintro ⟨i, o⟩ h1 ⟨hi, m1⟩
  have hi : i ≤ t.slots.length := hi
  have m1 : My h h1 [(.row 10 ((t.slots.take i).flatMap Sl.dt), o), (.row 1 (t.heads.flatMap idt), .slice a3 t.heads.length c3)] := m1
  have htl : ((t.slots.take i).flatMap Sl.dt).length = i * 10 := by rw [fm_len Sl.dt_len, List.length_take, Nat.min_eq_left hi]
  obtain ⟨ao, co, rfl, _⟩ := m1.row_shape (by decide) i htl
  simp only [go_sem, Nat.reduceBEq]
  refine Br.intro (fun hb => ?_) (fun hb => ?_) <;> (try simp only [hb, go_sem, Nat.reduceBEq, Nat.reduceAdd, Nat.reduceLeDiff])
  · have hb : i < t.slots.length := by simpa using hb
    obtain ⟨b, off, rfl, hat'⟩ := hat2 (by omega)
    have hat1 := hat'.mono m1.ext
    have hr1 := hr2.mono m1.ext
    obtain ⟨e, he, hm⟩ := get_lt hb
    have hbe := slot_bulk hm
    have wsu := wrap_succ (i := i) (by omega)
    simp only [ix_nat hb, go_sem, Nat.reduceBEq]
    refine hsem_slot tyS134 hat1 hr1 he rfl fun s2 rd2 => ?_
    obtain ⟨a5, c5, _, rfl, _⟩ := rd2.rows (by decide) e.val.items.length (fm_len edt_len _)
    simp only [go_sem, Nat.reduceBEq, Nat.reduceAdd, Nat.reduceLeDiff]
    refine (l5Copy_c e.val (by omega) _ _ rd2).mono ?_
    rintro _ h2 ⟨a6, c6, rfl, m2⟩
    simp only [go_sem, Nat.reduceBEq, Nat.reduceAdd, Nat.reduceLeDiff]
    have m3 := m1.add m2
    refine hsem_my_lit (h0 := h) (es := Sl.dt e) (parts := [(0, .agg #[.bool e.key.text, .int .i64 e.key.num, .string e.key.str, .int .i64 e.val.kind, .int .i64 e.val.num, .string e.val.str, .int .i64 e.val.next, .slice a6 e.val.items.length c6, .bool e.live, .int .i64 e.link])]) slT34 (by decide) (by decide) (by decide) rfl rfl (by simp [Value.cells]) (bag := [(.row 10 ((t.slots.take i).flatMap Sl.dt), .slice ao i co), (.row 1 (t.heads.flatMap idt), .slice a3 t.heads.length c3)]) ?_ rfl (Sl.dt_len e) fun l4 h4 m4 => ?_
    · simp only [flat, List.flatMap_cons, List.flatMap_nil, List.append_nil, cells_agg]
      exact slot_zip e m3
    simp only [go_sem, Nat.reduceBEq]
    refine hsem_my_append slT34 (by decide) rfl i 1 m4.swap htl (Sl.dt_len e) (by show (i + 1) * 112 ≤ _; omega) (by omega) fun l5 h5 m5 => ?_
    have m5 : My h h5 [(.row 10 ((t.slots.take i).flatMap Sl.dt ++ Sl.dt e), l5), (.row 1 (t.heads.flatMap idt), .slice a3 t.heads.length c3)] := m5
    have e5 : (t.slots.take i).flatMap Sl.dt ++ Sl.dt e = (t.slots.take (i + 1)).flatMap Sl.dt := by rw [take_snoc he, List.flatMap_append, List.flatMap_cons, List.flatMap_nil, List.append_nil]
    rw [e5] at m5
    obtain ⟨a7, c7, rfl, _⟩ := m5.row_shape (by decide) (i + 1) (by rw [fm_len Sl.dt_len, List.length_take, Nat.min_eq_left hb])
    simp only [wsu, go_sem, Nat.reduceBEq, Nat.reduceAdd, Nat.reduceLeDiff]
    exact Again.intro (i + 1, .slice a7 (i + 1) c7) (by first | omega | (simp only; omega)) ⟨hb, m5⟩ (by repeat (first | exact wkF_e | refine wkF_c rfl ?_)) (wkB_c rfl (wkB_c rfl (wkB_c rfl wkB_e))) rfl
  · have hb : i = t.slots.length := by simp at hb; omega
    subst hb
    rw [List.take_length] at m1
    try simp only [go_sem, Nat.reduceBEq, Nat.reduceAdd, Nat.reduceLeDiff, Nat.reduceEqDiff, Int.reduceEq, not_false_eq_true, Int.reduceToNat]
    exact ⟨_, _, _, _, rfl, m1.swap⟩
theorem iZero (v : V) (sl : Value) (h : Hp) (rd : RdE h v.items sl) : ACalls Tryz.prog 120 #[.agg #[.int .i64 v.kind, .int .i64 v.num, .string v.str, .int .i64 v.next, sl]] h (Pu (.bool v.isZero) h) := by
  obtain ⟨a, c, _, rfl, _⟩ := rd.rows (by decide) v.items.length (fm_len edt_len _)
  (refine enter Tryz.func120 rfl rfl (by kernel_rfl) [] ?_; simp only [go_sem, Nat.reduceBEq])
  unfold V.isZero
  by_cases h1 : v.kind = 0
  case neg => simp only [decide_eq_false h1, Bool.false_and, go_sem, Nat.reduceBEq]; exact ⟨rfl, rfl⟩
  by_cases h2 : v.num = 0
  case neg => simp only [decide_eq_true h1, decide_eq_false h2, Bool.false_and, Bool.true_and, go_sem, Nat.reduceBEq]; exact ⟨rfl, rfl⟩
  by_cases h3 : v.str = ⟨#[]⟩
  case neg => simp only [decide_eq_true h1, decide_eq_true h2, decide_eq_false h3, Bool.false_and, Bool.true_and, go_sem, Nat.reduceBEq]; exact ⟨rfl, rfl⟩
  by_cases h4 : v.next = 0
  case neg => simp only [decide_eq_true h1, decide_eq_true h2, decide_eq_true h3, decide_eq_false h4, Bool.false_and, Bool.true_and, go_sem, Nat.reduceBEq]; exact ⟨rfl, rfl⟩
  simp only [decide_eq_true h1, decide_eq_true h2, decide_eq_true h3, decide_eq_true h4, Bool.true_and, go_sem, Nat.reduceBEq]
  exact ⟨by rw [show decide (((v.items.length : Nat) : Int) = 0) = decide (v.items.length = 0) from decide_eq_decide.2 (by omega)], rfl⟩
theorem sZero (v : V) (sl : Value) (h : Hp) (rd : RdE h v.items sl) : ACalls Tryz.prog 112 #[.agg #[.int .i64 v.kind, .int .i64 v.num, .string v.str, .int .i64 v.next, sl]] h (Pu (.bool v.isZero) h) := by
  obtain ⟨a, c, _, rfl, _⟩ := rd.rows (by decide) v.items.length (fm_len edt_len _)
  (refine enter Tryz.func112 rfl rfl (by kernel_rfl) [] ?_; simp only [go_sem, Nat.reduceBEq])
  unfold V.isZero
  by_cases h1 : v.kind = 0
  case neg => simp only [decide_eq_false h1, Bool.false_and, go_sem, Nat.reduceBEq]; exact ⟨rfl, rfl⟩
  by_cases h2 : v.num = 0
  case neg => simp only [decide_eq_true h1, decide_eq_false h2, Bool.false_and, Bool.true_and, go_sem, Nat.reduceBEq]; exact ⟨rfl, rfl⟩
  by_cases h3 : v.str = ⟨#[]⟩
  case neg => simp only [decide_eq_true h1, decide_eq_true h2, decide_eq_false h3, Bool.false_and, Bool.true_and, go_sem, Nat.reduceBEq]; exact ⟨rfl, rfl⟩
  by_cases h4 : v.next = 0
  case neg => simp only [decide_eq_true h1, decide_eq_true h2, decide_eq_true h3, decide_eq_false h4, Bool.false_and, Bool.true_and, go_sem, Nat.reduceBEq]; exact ⟨rfl, rfl⟩
  simp only [decide_eq_true h1, decide_eq_true h2, decide_eq_true h3, decide_eq_true h4, Bool.true_and, go_sem, Nat.reduceBEq]
  exact ⟨by rw [show decide (((v.items.length : Nat) : Int) = 0) = decide (v.items.length = 0) from decide_eq_decide.2 (by omega)], rfl⟩
theorem iIntKey (n : Int) (h : Hp) : ACalls Tryz.prog 122 #[.int .i64 n] h (Pu (.agg #[.bool false, .int .i64 n, .string ⟨#[]⟩]) h) := by
  (refine enter Tryz.func122 rfl rfl (by kernel_rfl) [] ?_; simp only [go_sem, Nat.reduceBEq, Nat.reduceAdd, Nat.reduceLeDiff])
  exact ⟨rfl, rfl⟩
theorem noHeads_c (n : Nat) (hn : n ≤ 1048576) (h : Hp) : ACalls Tryz.prog 123 #[.int .i64 (n : Nat)] h (fun u h' => ∃ a c, u = .slice a n c ∧ My h h' [(.row 1 ((List.replicate n (-1)).flatMap idt), .slice a n c)]) := by
  (refine enter Tryz.func123 rfl rfl (by kernel_rfl) [] ?_; simp only [go_sem, Nat.reduceBEq])
  refine hsem_my_make slT22 (by decide) rfl rfl hn (by decide) (My.nil (Ext.refl h)) fun bo h1 m1 => ?_
  simp only [go_sem, Nat.reduceBEq]
  generalize hzz : SlT.zero _ = zz at m1
  refine aloop (ι := Nat) (fun i => [(9, .val (.int .i64 (i : Nat))), (8, .val (.int .i64 (n : Nat))), (3, .val (.slice (some ⟨bo, 0, none⟩) n n))]) (fun _ => []) (fun i h' => i ≤ n ∧ My h h' [(.row 1 ((List.replicate i (-1)).flatMap idt ++ zeros zz (n - i)), .slice (some ⟨bo, 0, none⟩) n n)]) (fun i => n - i) 0
    ⟨Nat.zero_le _, m1⟩ (by repeat (first | exact wkF_e | refine wkF_c rfl ?_)) wkB_e rfl ?_
  rintro i h2 ⟨hi, m2⟩
  have hi : i ≤ n := hi
  have m2 : My h h2 [(.row 1 ((List.replicate i (-1)).flatMap idt ++ zeros zz (n - i)), .slice (some ⟨bo, 0, none⟩) n n)] := m2
  simp only [go_sem, Nat.reduceBEq]
  refine Br.intro (fun hb => ?_) (fun hb => ?_) <;> (try simp only [hb, go_sem, Nat.reduceBEq])
  · have hb : i < n := by simpa using hb
    have wsu := wrap_succ (i := i) (by omega)
    simp only [ix_nat hb, go_sem, Nat.reduceBEq]
    rw [zeros_sub zz hb] at m2
    have m3 : My h h2 ((.raw (.int .i64 (-1)), .int .i64 (-1)) :: [(.row 1 ((List.replicate i (-1)).flatMap idt ++ (zz.map .raw ++ zeros zz (n - (i + 1)))), .slice (some ⟨bo, 0, none⟩) n n)]) := m2.raw rfl
    refine hsem_my_put (es := idt (-1)) tyS3 m3 (by omega) (by rw [List.length_map, ← hzz]; rfl) rfl rfl ?_ fun h4 m4 => ?_
    · rw [fm_len idt_len, List.length_replicate]
    simp only [wsu, go_sem, Nat.reduceBEq]
    refine Again.intro (i + 1) (by first | omega | (simp only; omega)) ⟨hb, ?_⟩ (by repeat (first | exact wkF_e | refine wkF_c rfl ?_)) wkB_e rfl
    rw [List.replicate_succ', List.flatMap_append, List.flatMap_cons, List.flatMap_nil, List.append_nil, List.append_assoc]
    exact m4
  · have hb : i = n := by simp at hb; omega
    subst hb
    rw [Nat.sub_self] at m2
    try simp only [go_sem, Nat.reduceBEq, Nat.reduceAdd, Nat.reduceLeDiff, Nat.reduceEqDiff, Int.reduceEq, not_false_eq_true, Int.reduceToNat]
    exact ⟨_, _, rfl, by simpa [zeros] using m2⟩
end Go.Proofs.YtedfplodobpgfaaGreatDoor
namespace Go.Proofs.YtedfplodobpgfaaGreatDoor
set_option maxRecDepth 8000
open Go Go.Sx
theorem tmod_neg {n m : Int} (h0 : 1 ≤ m) : (n.tmod m < 0 → n.tmod m + m = n % m) ∧ (¬ n.tmod m < 0 → n.tmod m = n % m) ∧ -m < n.tmod m ∧ n.tmod m < m := by
  have h1 := Int.emod_nonneg n (show m ≠ 0 by omega)
  have h2 := Int.emod_lt_of_pos n (show 0 < m by omega)
  have h3 := Int.tmod_eq_emod (a := n) (b := m)
  by_cases h : 0 ≤ n ∨ m ∣ n
  · rw [if_pos h] at h3
    omega
  · rw [if_neg h] at h3
    have : ((m.natAbs : Nat) : Int) = m := by omega
    omega
theorem iMod (n m : Int) (h0 : 1 ≤ m) (h1 : m ≤ 1000000000000) (h : Hp) : ACalls Tryz.prog 124 #[.int .i64 n, .int .i64 m] h (Pu (.int .i64 (n % m)) h) := by
  obtain ⟨t1, t2, t3, t4⟩ := tmod_neg (n := n) h0
  have d1 : decide (m < 1) = false := decide_eq_false (by omega)
  have d2 : decide ((1000000000000 : Int) < m) = false := decide_eq_false (by omega)
  have hm0 : (m = 0) = False := eq_false (by omega)
  (refine enter Tryz.func124 rfl rfl (by kernel_rfl) [] ?_; simp only [go_sem, Nat.reduceBEq])
  simp only [d1, d2, hm0, if_false, go_sem, Nat.reduceBEq]
  refine Br.intro (fun hb => ?_) (fun hb => ?_) <;> (try simp only [hb, go_sem, Nat.reduceBEq])
  · have hb := of_decide_eq_true hb
    have w : IntKind.i64.wrap (n.tmod m + m) = n % m := by rw [IntWalk.i64_in _ (by omega)]; exact t1 hb
    try simp only [w, go_sem]
    exact ⟨by first | rfl | rw [w], rfl⟩
  · have hb := of_decide_eq_false hb
    exact ⟨by rw [t2 hb], rfl⟩
theorem sMod (n m : Int) (h0 : 1 ≤ m) (h1 : m ≤ 1000000000000) (h : Hp) : ACalls Tryz.prog 155 #[.int .i64 n, .int .i64 m] h (Pu (.int .i64 (n % m)) h) := by
  obtain ⟨t1, t2, t3, t4⟩ := tmod_neg (n := n) h0
  have d1 : decide (1 ≤ m ∧ m ≤ 1000000000000) = true := decide_eq_true (by omega)
  have hm0 : (m = 0) = False := eq_false (by omega)
  have w : IntKind.i64.wrap (n.tmod m + m) = n.tmod m + m := IntWalk.i64_in _ (by omega)
  have w2 : (n.tmod m + m).tmod m = n % m := by
    rw [Int.tmod_eq_emod_of_nonneg (by omega), Int.add_emod_right]
    by_cases hb : n.tmod m < 0
    · have := t1 hb
      rw [show n.tmod m = n % m - m by omega, Int.sub_emod_right, Int.emod_emod_of_dvd _ (Int.dvd_refl m)]
    · rw [t2 hb, Int.emod_emod_of_dvd _ (Int.dvd_refl m)]
  (refine enter Tryz.func155 rfl rfl (by kernel_rfl) [] ?_; simp only [go_sem, Nat.reduceBEq])
  (refine (l1In_c _ _ _ _).mono ?_; rintro _ _ ⟨rfl, rfl⟩; simp only [go_sem, Nat.reduceBEq])
  simp only [d1, hm0, if_false, Bool.not_true, w, w2, go_sem, Nat.reduceBEq]
  exact ⟨rfl, rfl⟩

theorem iHashText (s : ByteArray) (hs : s.size ≤ 1152921504606846976) (h : Hp) : ACalls Tryz.prog 158 #[.string s] h (Pu (.int .i64 (hashT s : Nat)) h) := by
  have hsz := size_list s
  (refine enter Tryz.func158 rfl rfl (by kernel_rfl) [] ?_; simp only [go_sem])
  refine aloop (ι := Nat) (fun i => [(4, .val (.int .i64 (i : Nat))), (3, .val (.int .i64 (((s.data.toList.take i).foldl hstep 11 : Nat)))), (0, .val (.string s))]) (fun _ => []) (fun i h' => i ≤ s.size ∧ h' = h) (fun i => s.size - i) 0 ⟨Nat.zero_le _, rfl⟩ (by repeat (first | exact wkF_e | refine wkF_c rfl ?_)) wkB_e rfl ?_
  rintro i _ ⟨hi, rfl⟩
  simp only [go_sem, Nat.reduceBEq]
  refine Br.intro (fun hb => ?_) (fun hb => ?_) <;> (try simp only [hb, go_sem, Nat.reduceBEq])
  · have hb : i < s.size := by simpa using hb
    obtain ⟨c, hc⟩ : ∃ c, s.data.toList[i]? = some c := ⟨_, List.getElem?_eq_getElem (by omega)⟩
    have wsu := wrap_succ (i := i) (by omega)
    have hd := hfold_lt (s.data.toList.take i) 11 (by omega)
    have hc8 := c.toNat_lt
    have wch : IntKind.i64.wrap (c.toNat : Int) = (c.toNat : Int) := IntWalk.i64_in _ (by omega)
    have e := hfold_snoc hc
    generalize (s.data.toList.take i).foldl hstep 11 = d at *
    obtain ⟨x1, hx1⟩ : ∃ x : Int, x = (d : Int) * 1000003 := ⟨_, rfl⟩
    obtain ⟨x2, hx2⟩ : ∃ x : Int, x = x1 + (c.toNat : Int) := ⟨_, rfl⟩
    obtain ⟨x3, hx3⟩ : ∃ x : Int, x = x2 + 13 := ⟨_, rfl⟩
    obtain ⟨d', hd'⟩ : ∃ x : Nat, x = hstep d c := ⟨_, rfl⟩
    have w1 : IntKind.i64.wrap ((d : Int) * 1000003) = x1 := by rw [hx1, IntWalk.i64_in _ (by omega)]
    have w2 : IntKind.i64.wrap (x1 + (c.toNat : Int)) = x2 := by rw [hx2, IntWalk.i64_in _ (by omega)]
    have w3 : IntKind.i64.wrap (x2 + 13) = x3 := by rw [hx3, IntWalk.i64_in _ (by omega)]
    have w4 : x3.tmod 2147483647 = ((d' : Nat) : Int) := by
      rw [Int.tmod_eq_emod_of_nonneg (by omega), hd']
      unfold hstep
      omega
    rw [← hd'] at e
    clear hd'
    simp only [sidx_at hc, wch, w1, w2, w3, w4, wsu, go_sem, Nat.reduceBEq, Int.reduceEq, not_false_eq_true]
    exact Again.intro (i + 1) (by first | omega | (simp only; omega)) ⟨hb, rfl⟩ (by simp only [e]; exact (by repeat (first | exact wkF_e | refine wkF_c rfl ?_))) wkB_e rfl
  · have hb : i = s.size := by simp at hb; omega
    subst hb
    refine ⟨?_, rfl⟩
    rw [List.take_of_length_le (by omega)]
    rfl
theorem iKeyHash (k : Ky) (hs : k.str.size ≤ 1152921504606846976) (h : Hp) : ACalls Tryz.prog 125 #[.agg #[.bool k.text, .int .i64 k.num, .string k.str]] h (Pu (.int .i64 (k.hash : Nat)) h) := by
  (refine enter Tryz.func125 rfl rfl (by kernel_rfl) [] ?_; simp only [go_sem, Nat.reduceBEq])
  cases ht : k.text with
  | true =>
    have e : k.hash = hashT k.str := by unfold Ky.hash; rw [ht]; rfl
    rw [e]
    simp only [go_sem, Nat.reduceBEq]
    (refine (iHashText k.str hs _).mono ?_; rintro _ _ ⟨rfl, rfl⟩; simp only [go_sem, Nat.reduceBEq])
    exact ⟨rfl, rfl⟩
  | false =>
    have e : ((k.hash : Nat) : Int) = k.num % 2147483647 := by
      unfold Ky.hash
      rw [ht]
      show (((k.num % 2147483647).toNat : Nat) : Int) = _
      omega
    rw [e]
    simp only [go_sem, Nat.reduceBEq]
    (refine (iMod k.num 2147483647 (by omega) (by omega) _).mono ?_; rintro _ _ ⟨rfl, rfl⟩; simp only [go_sem, Nat.reduceBEq])
    exact ⟨rfl, rfl⟩
theorem sHashText (s : ByteArray) (hs : s.size ≤ 1152921504606846976) (h : Hp) : ACalls Tryz.prog 154 #[.string s] h (Pu (.int .i64 (hashT s : Nat)) h) := by
  have hsz := size_list s
  (refine enter Tryz.func154 rfl rfl (by kernel_rfl) [] ?_; simp only [go_sem])
  refine aloop (ι := Nat) (fun i => [(4, .val (.int .i64 (i : Nat))), (3, .val (.int .i64 (((s.data.toList.take i).foldl hstep 11 : Nat)))), (0, .val (.string s))]) (fun _ => []) (fun i h' => i ≤ s.size ∧ h' = h) (fun i => s.size - i) 0 ⟨Nat.zero_le _, rfl⟩ (by repeat (first | exact wkF_e | refine wkF_c rfl ?_)) wkB_e rfl ?_
  rintro i _ ⟨hi, rfl⟩
  simp only [go_sem, Nat.reduceBEq]
  refine Br.intro (fun hb => ?_) (fun hb => ?_) <;> (try simp only [hb, go_sem, Nat.reduceBEq])
  · have hb : i < s.size := by simpa using hb
    obtain ⟨c, hc⟩ : ∃ c, s.data.toList[i]? = some c := ⟨_, List.getElem?_eq_getElem (by omega)⟩
    have wsu := wrap_succ (i := i) (by omega)
    have hd := hfold_lt (s.data.toList.take i) 11 (by omega)
    have hc8 := c.toNat_lt
    have wch : IntKind.i64.wrap (c.toNat : Int) = (c.toNat : Int) := IntWalk.i64_in _ (by omega)
    have e := hfold_snoc hc
    generalize (s.data.toList.take i).foldl hstep 11 = d at *
    obtain ⟨x1, hx1⟩ : ∃ x : Int, x = (d : Int) * 1000003 := ⟨_, rfl⟩
    obtain ⟨x2, hx2⟩ : ∃ x : Int, x = x1 + (c.toNat : Int) := ⟨_, rfl⟩
    obtain ⟨x3, hx3⟩ : ∃ x : Int, x = x2 + 13 := ⟨_, rfl⟩
    obtain ⟨d', hd'⟩ : ∃ x : Nat, x = hstep d c := ⟨_, rfl⟩
    have w1 : IntKind.i64.wrap ((d : Int) * 1000003) = x1 := by rw [hx1, IntWalk.i64_in _ (by omega)]
    have w2 : IntKind.i64.wrap (x1 + (c.toNat : Int)) = x2 := by rw [hx2, IntWalk.i64_in _ (by omega)]
    have w3 : IntKind.i64.wrap (x2 + 13) = x3 := by rw [hx3, IntWalk.i64_in _ (by omega)]
    have w4 : x3.tmod 2147483647 = ((d' : Nat) : Int) := by
      rw [Int.tmod_eq_emod_of_nonneg (by omega), hd']
      unfold hstep
      omega
    rw [← hd'] at e
    clear hd'
    simp only [sidx_at hc, wch, w1, w2, w3, w4, wsu, go_sem, Nat.reduceBEq, Int.reduceEq, not_false_eq_true]
    exact Again.intro (i + 1) (by first | omega | (simp only; omega)) ⟨hb, rfl⟩ (by simp only [e]; exact (by repeat (first | exact wkF_e | refine wkF_c rfl ?_))) wkB_e rfl
  · have hb : i = s.size := by simp at hb; omega
    subst hb
    refine ⟨?_, rfl⟩
    rw [List.take_of_length_le (by omega)]
    rfl
theorem sKeyHash (k : Ky) (hs : k.str.size ≤ 1152921504606846976) (h : Hp) : ACalls Tryz.prog 111 #[.agg #[.bool k.text, .int .i64 k.num, .string k.str]] h (Pu (.int .i64 (k.hash : Nat)) h) := by
  (refine enter Tryz.func111 rfl rfl (by kernel_rfl) [] ?_; simp only [go_sem, Nat.reduceBEq])
  cases ht : k.text with
  | true =>
    have e : k.hash = hashT k.str := by unfold Ky.hash; rw [ht]; rfl
    rw [e]
    simp only [go_sem, Nat.reduceBEq]
    (refine (sHashText k.str hs _).mono ?_; rintro _ _ ⟨rfl, rfl⟩; simp only [go_sem, Nat.reduceBEq])
    exact ⟨rfl, rfl⟩
  | false =>
    have e : ((k.hash : Nat) : Int) = k.num % 2147483647 := by
      unfold Ky.hash
      rw [ht]
      show (((k.num % 2147483647).toNat : Nat) : Int) = _
      omega
    rw [e]
    simp only [go_sem, Nat.reduceBEq]
    (refine (sMod k.num 2147483647 (by omega) (by omega) _).mono ?_; rintro _ _ ⟨rfl, rfl⟩; simp only [go_sem, Nat.reduceBEq])
    exact ⟨rfl, rfl⟩
theorem find_packed {t : Tb} {k : Ky} (h : t.hashed = false) : t.find k = if k.text = false ∧ k.str = ⟨#[]⟩ ∧ 0 ≤ k.num ∧ ((t.slots[k.num.toNat]?).map (·.live)).getD false = true then some k.num.toNat else none := by
  unfold Tb.find
  rw [h]
  rfl
theorem find_hashed {t : Tb} {k : Ky} (h : t.hashed = true) : t.find k = chain t.slots k (t.heads.getD (k.hash % t.heads.length) (-1)) := by
  unfold Tb.find
  rw [h]
  rfl
theorem find_no {t : Tb} {k : Ky} (h : t.hashed = false) (hn : ¬ (k.text = false ∧ k.str = ⟨#[]⟩ ∧ 0 ≤ k.num ∧ ((t.slots[k.num.toNat]?).map (·.live)).getD false = true)) : t.find k = none := by
  rw [find_packed h, if_neg hn]
theorem find_yes {t : Tb} {k : Ky} {s : Sl} (h : t.hashed = false) (h1 : k.text = false) (h2 : k.str = ⟨#[]⟩) (h3 : 0 ≤ k.num) (hs : t.slots[k.num.toNat]? = some s) (hl : s.live = true) : t.find k = some k.num.toNat := by
  rw [find_packed h, if_pos ⟨h1, h2, h3, by rw [hs]; simpa using hl⟩]
theorem iFind (t : Tb) (k : Ky) (c : t.ch) (hk : k.str.size ≤ 1152921504606846976) (s u : Value) (h : Hp) (r1 : RdI h t.heads s) (r2 : RdT h t.slots u) : ACalls Tryz.prog 63 #[.agg #[.bool t.hashed, s, u, .int .i64 t.next, .int .i64 t.count], .agg #[.bool k.text, .int .i64 k.num, .string k.str]] h (Pu (.int .i64 (ixI (t.find k))) h) := by
  obtain ⟨a1, c1, xs1, rfl, hc1, hr1, hat1⟩ := r1.rows (by decide) t.heads.length (fm_len idt_len _)
  obtain ⟨a2, c2, xs2, rfl, hc2, hr2, hat2⟩ := r2.rows (by decide) t.slots.length (fm_len Sl.dt_len _)
  have hlen := c.len
  (refine enter Tryz.func63 rfl rfl (by kernel_rfl) [] ?_; simp only [go_sem, Nat.reduceBEq])
  cases ht : t.hashed with
  | false =>
    cases kt : k.text with
    | true =>
      simp only [go_sem, Nat.reduceBEq]
      exact ⟨by rw [find_no ht (by rw [kt]; simp)]; rfl, rfl⟩
    | false =>
    by_cases ks : k.str = ⟨#[]⟩
    case neg =>
      simp only [decide_eq_false ks, Bool.not_false, go_sem, Nat.reduceBEq]
      exact ⟨by rw [find_no ht (by simp [ks])]; rfl, rfl⟩
    by_cases k0 : k.num < 0
    case pos =>
      simp only [decide_eq_true ks, Bool.not_true, decide_eq_true k0, go_sem, Nat.reduceBEq]
      exact ⟨by rw [find_no ht (by intro q; omega)]; rfl, rfl⟩
    by_cases k1 : (t.slots.length : Int) ≤ k.num
    case pos =>
      simp only [decide_eq_true ks, Bool.not_true, decide_eq_false k0, decide_eq_true k1, go_sem, Nat.reduceBEq]
      refine ⟨?_, rfl⟩
      rw [find_no ht ?_]
      · rfl
      · rintro ⟨_, _, _, q⟩
        rw [List.getElem?_eq_none (by omega)] at q
        simp at q
    obtain ⟨n, hkn⟩ : ∃ n : Nat, k.num = n := ⟨k.num.toNat, by omega⟩
    have hn : n < t.slots.length := by omega
    obtain ⟨b2, o2, rfl, hat2'⟩ := hat2 (by omega)
    obtain ⟨e, he, _⟩ := get_lt hn
    have he' : t.slots[k.num.toNat]? = some e := by rw [hkn]; exact he
    rw [hkn] at k0 k1
    simp only [decide_eq_true ks, Bool.not_true, hkn, decide_eq_false k0, decide_eq_false k1, ix_nat hn, go_sem, Nat.reduceBEq, Nat.reduceAdd]
    refine hsem_slive tyS4 hat2' hr2 he rfl ?_
    cases hlv : e.live with
    | false =>
      simp only [go_sem, Nat.reduceBEq]
      refine ⟨?_, rfl⟩
      rw [find_no ht ?_]
      · rfl
      · rintro ⟨_, _, _, q⟩
        rw [he'] at q
        simp [hlv] at q
    | true =>
      simp only [go_sem, Nat.reduceBEq]
      refine ⟨?_, rfl⟩
      rw [find_yes ht kt ks (by omega) he' hlv, hkn]
      rfl
  | true =>
  have hsz := c.size ht
  have hm : k.hash % t.heads.length < t.heads.length := Nat.mod_lt _ (by omega)
  have hx := c.heads ht _ (getD_mem (d := -1) hm)
  have hh := k.hash_lt
  obtain ⟨b1, o1, rfl, hat1'⟩ := hat1 (by omega)
  have em : ((k.hash : Nat) : Int) % ((t.heads.length : Nat) : Int) = ((k.hash % t.heads.length : Nat) : Int) := by omega
  simp only [go_sem]
  refine regionD_intro (lb := [42, 43, 46]) (by kernel_rfl) ?_
  simp only [go_sem, Nat.reduceBEq, Nat.reduceAdd, Nat.reduceLeDiff]
  (refine (iKeyHash k hk _).mono ?_; rintro _ _ ⟨rfl, rfl⟩; simp only [go_sem, Nat.reduceBEq])
  (refine (iMod _ _ (by omega) (by omega) _).mono ?_; rintro _ _ ⟨rfl, rfl⟩; simp only [go_sem, Nat.reduceBEq])
  rw [em]
  simp only [ix_nat hm, go_sem, Nat.reduceBEq]
  refine hsem_num tyS3 hat1' hr1 (getD_at (d := -1) hm) rfl ?_
  simp only [go_sem, Nat.reduceBEq]
  refine aloop (ι := Int) (fun i => [(5, .val (.int .i64 i)), (2, .box 2 0), (3, .box 3 0)]) (fun _ => [(2, [.bool true, .slice (some ⟨b1, o1, none⟩) t.heads.length c1, .slice a2 t.slots.length c2, .int .i64 t.next, .int .i64 t.count]), (3, [.bool k.text, .int .i64 k.num, .string k.str])])
    (fun i h' => -1 ≤ i ∧ i < t.slots.length ∧ chain t.slots k i = t.find k ∧ h = h') (fun i => (i + 1).toNat) (t.heads.getD (k.hash % t.heads.length) (-1)) ⟨hx.1, hx.2, by rw [find_hashed ht], rfl⟩ (by repeat (first | exact wkF_e | refine wkF_c rfl ?_)) (wkB_c rfl (wkB_c rfl wkB_e)) rfl ?_
  rintro i _ ⟨hi0, hi1, hq, rfl⟩
  have hi0 : -1 ≤ i := hi0
  have hi1 : i < t.slots.length := hi1
  have hq : chain t.slots k i = t.find k := hq
  simp only [go_sem, Nat.reduceBEq]
  refine Br.intro (fun hb => ?_) (fun hb => ?_) <;> (try simp only [hb, go_sem, Nat.reduceBEq])
  · have hb : 0 ≤ i := by simpa using hb
    obtain ⟨n, rfl⟩ : ∃ n : Nat, i = n := ⟨i.toNat, by omega⟩
    have hn : n < t.slots.length := by omega
    obtain ⟨b2, o2, rfl, hat2'⟩ := hat2 (by omega)
    obtain ⟨e, he, _⟩ := get_lt hn
    have he' : t.slots[((n : Nat) : Int).toNat]? = some e := he
    have hbk := c.back ht n e he
    refine regionD_intro (lb := [60, 67, 72]) (by kernel_rfl) ?_
    simp only [ix_nat hn, go_sem, Nat.reduceBEq, Nat.reduceAdd]
    refine hsem_slive tyS4 hat2' hr2 he rfl ?_
    cases hlv : e.live with
    | false =>
      rw [chain_miss (c.back ht) hb he' (by rw [hlv]; simp)] at hq
      simp only [ix_nat hn, go_sem, Nat.reduceBEq, Nat.reduceAdd]
      refine hsem_slink tyS3 hat2' hr2 he rfl ?_
      simp only [go_sem, Nat.reduceBEq]
      exact Again.intro e.link (by first | omega | (simp only; omega)) ⟨by omega, by omega, hq, rfl⟩ (by repeat (first | exact wkF_e | refine wkF_c rfl ?_)) (wkB_c rfl (wkB_c rfl wkB_e)) rfl
    | true =>
      simp only [ix_nat hn, go_sem, Nat.reduceBEq]
      refine hsem_skey tyS40 hat2' hr2 he rfl ?_
      simp only [key_dec, keyT40, go_sem, Nat.reduceBEq, Nat.reduceAdd, Nat.reduceLeDiff]
      refine Br.intro (fun hk => ?_) (fun hk => ?_) <;> (try simp only [hk, go_sem, Nat.reduceBEq])
      · have hk := of_decide_eq_true hk
        rw [chain_hit hb he' ⟨hlv, hk⟩] at hq
        exact ⟨by rw [← hq]; rfl, rfl⟩
      · have hk := of_decide_eq_false hk
        rw [chain_miss (c.back ht) hb he' (by rw [hlv]; simp [hk])] at hq
        simp only [ix_nat hn, go_sem, Nat.reduceBEq, Nat.reduceAdd]
        refine hsem_slink tyS3 hat2' hr2 he rfl ?_
        simp only [go_sem, Nat.reduceBEq]
        exact Again.intro e.link (by first | omega | (simp only; omega)) ⟨by omega, by omega, hq, rfl⟩ (by repeat (first | exact wkF_e | refine wkF_c rfl ?_)) (wkB_c rfl (wkB_c rfl wkB_e)) rfl
  · have hb : i < 0 := by simp at hb; omega
    rw [chain_neg hb] at hq
    exact ⟨by rw [← hq]; rfl, rfl⟩
theorem sFind7 (t : Tb) (k : Ky) (c : t.ch) (hk : k.str.size ≤ 1152921504606846976) (s u : Value) (h : Hp) (r1 : RdI h t.heads s) (r2 : RdT h t.slots u) : ACalls Tryz.prog 114 #[.agg #[.bool t.hashed, s, u, .int .i64 t.next, .int .i64 t.count], .agg #[.bool k.text, .int .i64 k.num, .string k.str]] h (Pu (.int .i64 (ixI (t.find k))) h) := by
  obtain ⟨a1, c1, xs1, rfl, hc1, hr1, hat1⟩ := r1.rows (by decide) t.heads.length (fm_len idt_len _)
  obtain ⟨a2, c2, xs2, rfl, hc2, hr2, hat2⟩ := r2.rows (by decide) t.slots.length (fm_len Sl.dt_len _)
  have hlen := c.len
  (refine enter Tryz.func114 rfl rfl (by kernel_rfl) [] ?_; simp only [go_sem, Nat.reduceBEq])
  cases ht : t.hashed with
  | false =>
    have wl : IntKind.i64.wrap (((t.slots.length : Nat) : Int) - 1) = (t.slots.length : Int) - 1 := IntWalk.i64_in _ (by omega)
    simp only [go_sem]
    refine regionD_intro (lb := [10, 14, 16, 23, 25, 32, 34, 38]) (by kernel_rfl) ?_
    cases kt : k.text with
    | true =>
      simp only [go_sem, Nat.reduceBEq]
      exact ⟨by rw [find_no ht (by rw [kt]; simp)]; rfl, rfl⟩
    | false =>
    simp only [wl, go_sem, Nat.reduceBEq]
    (refine (l1In_c _ _ _ _).mono ?_; rintro _ _ ⟨rfl, rfl⟩; simp only [go_sem, Nat.reduceBEq])
    by_cases k0 : 0 ≤ k.num ∧ k.num ≤ (t.slots.length : Int) - 1
    case neg =>
      simp only [decide_eq_false k0, go_sem, Nat.reduceBEq]
      refine ⟨?_, rfl⟩
      rw [find_no ht ?_]
      · rfl
      · rintro ⟨_, _, q0, q⟩
        rw [List.getElem?_eq_none (by omega)] at q
        simp at q
    obtain ⟨n, hkn⟩ : ∃ n : Nat, k.num = n := ⟨k.num.toNat, by omega⟩
    have hn : n < t.slots.length := by omega
    obtain ⟨b2, o2, rfl, hat2'⟩ := hat2 (by omega)
    obtain ⟨e, he, _⟩ := get_lt hn
    have he' : t.slots[k.num.toNat]? = some e := by rw [hkn]; exact he
    have hke := (c.packed ht).2 n e he
    rw [hkn] at k0
    simp only [hkn, decide_eq_true k0, ix_nat hn, go_sem, Nat.reduceBEq, Nat.reduceAdd]
    refine hsem_slive tyS4 hat2' hr2 he rfl ?_
    cases hlv : e.live with
    | false =>
      simp only [go_sem, Nat.reduceBEq]
      refine ⟨?_, rfl⟩
      rw [find_no ht ?_]
      · rfl
      · rintro ⟨_, _, _, q⟩
        rw [he'] at q
        simp [hlv] at q
    | true =>
      simp only [ix_nat hn, go_sem, Nat.reduceBEq]
      refine hsem_skey tyS40 hat2' hr2 he rfl ?_
      have kd : decide (e.key.text = false ∧ e.key.num = ((n : Nat) : Int) ∧ e.key.str = k.str) = decide (e.key = k) := by rw [← kt, ← hkn]; exact key_dec e.key k
      simp only [kd, keyT40, go_sem, Nat.reduceBEq, Nat.reduceAdd, Nat.reduceLeDiff]
      by_cases ke : e.key = k
      · simp only [decide_eq_true ke, go_sem, Nat.reduceBEq]
        refine ⟨?_, rfl⟩
        rw [find_yes ht kt (by rw [← ke, hke]) (by omega) he' hlv, hkn]
        rfl
      · simp only [decide_eq_false ke, go_sem, Nat.reduceBEq]
        refine ⟨?_, rfl⟩
        rw [find_no ht ?_]
        · rfl
        · rintro ⟨_, q, _, _⟩
          refine ke ?_
          rw [hke, ← hkn, ← kt, ← q]
  | true =>
  have hsz := c.size ht
  have hm : k.hash % t.heads.length < t.heads.length := Nat.mod_lt _ (by omega)
  have hx := c.heads ht _ (getD_mem (d := -1) hm)
  have hh := k.hash_lt
  obtain ⟨b1, o1, rfl, hat1'⟩ := hat1 (by omega)
  have em : ((k.hash : Nat) : Int).tmod ((t.heads.length : Nat) : Int) = ((k.hash % t.heads.length : Nat) : Int) := by
    rw [Int.tmod_eq_emod_of_nonneg (by omega)]
    omega
  have hm0 : (((t.heads.length : Nat) : Int) = 0) = False := eq_false (by omega)
  simp only [go_sem]
  refine regionD_intro (lb := [44, 45, 48]) (by kernel_rfl) ?_
  simp only [go_sem, Nat.reduceBEq, Nat.reduceAdd, Nat.reduceLeDiff]
  (refine (sKeyHash k hk _).mono ?_; rintro _ _ ⟨rfl, rfl⟩; simp only [go_sem, Nat.reduceBEq])
  simp only [hm0, em, ix_nat hm, go_sem, Nat.reduceBEq, not_false_eq_true]
  refine hsem_num tyS3 hat1' hr1 (getD_at (d := -1) hm) rfl ?_
  simp only [go_sem, Nat.reduceBEq]
  refine aloop (ι := Int) (fun i => [(5, .val (.int .i64 i)), (2, .box 2 0), (3, .box 3 0)]) (fun _ => [(2, [.bool true, .slice (some ⟨b1, o1, none⟩) t.heads.length c1, .slice a2 t.slots.length c2, .int .i64 t.next, .int .i64 t.count]), (3, [.bool k.text, .int .i64 k.num, .string k.str])])
    (fun i h' => -1 ≤ i ∧ i < t.slots.length ∧ chain t.slots k i = t.find k ∧ h = h') (fun i => (i + 1).toNat) (t.heads.getD (k.hash % t.heads.length) (-1)) ⟨hx.1, hx.2, by rw [find_hashed ht], rfl⟩ (by repeat (first | exact wkF_e | refine wkF_c rfl ?_)) (wkB_c rfl (wkB_c rfl wkB_e)) rfl ?_
  rintro i _ ⟨hi0, hi1, hq, rfl⟩
  have hi0 : -1 ≤ i := hi0
  have hi1 : i < t.slots.length := hi1
  have hq : chain t.slots k i = t.find k := hq
  simp only [go_sem, Nat.reduceBEq]
  refine Br.intro (fun hb => ?_) (fun hb => ?_) <;> (try simp only [hb, go_sem, Nat.reduceBEq])
  · have hb : 0 ≤ i := by simpa using hb
    obtain ⟨n, rfl⟩ : ∃ n : Nat, i = n := ⟨i.toNat, by omega⟩
    have hn : n < t.slots.length := by omega
    obtain ⟨b2, o2, rfl, hat2'⟩ := hat2 (by omega)
    obtain ⟨e, he, _⟩ := get_lt hn
    have he' : t.slots[((n : Nat) : Int).toNat]? = some e := he
    have hbk := c.back ht n e he
    refine regionD_intro (lb := [62, 69, 74]) (by kernel_rfl) ?_
    simp only [ix_nat hn, go_sem, Nat.reduceBEq, Nat.reduceAdd]
    refine hsem_slive tyS4 hat2' hr2 he rfl ?_
    cases hlv : e.live with
    | false =>
      rw [chain_miss (c.back ht) hb he' (by rw [hlv]; simp)] at hq
      simp only [ix_nat hn, go_sem, Nat.reduceBEq, Nat.reduceAdd]
      refine hsem_slink tyS3 hat2' hr2 he rfl ?_
      simp only [go_sem, Nat.reduceBEq]
      exact Again.intro e.link (by first | omega | (simp only; omega)) ⟨by omega, by omega, hq, rfl⟩ (by repeat (first | exact wkF_e | refine wkF_c rfl ?_)) (wkB_c rfl (wkB_c rfl wkB_e)) rfl
    | true =>
      simp only [ix_nat hn, go_sem, Nat.reduceBEq]
      refine hsem_skey tyS40 hat2' hr2 he rfl ?_
      simp only [key_dec, keyT40, go_sem, Nat.reduceBEq, Nat.reduceAdd, Nat.reduceLeDiff]
      refine Br.intro (fun hk => ?_) (fun hk => ?_) <;> (try simp only [hk, go_sem, Nat.reduceBEq])
      · have hk := of_decide_eq_true hk
        rw [chain_hit hb he' ⟨hlv, hk⟩] at hq
        exact ⟨by rw [← hq]; rfl, rfl⟩
      · have hk := of_decide_eq_false hk
        rw [chain_miss (c.back ht) hb he' (by rw [hlv]; simp [hk])] at hq
        simp only [ix_nat hn, go_sem, Nat.reduceBEq, Nat.reduceAdd]
        refine hsem_slink tyS3 hat2' hr2 he rfl ?_
        simp only [go_sem, Nat.reduceBEq]
        exact Again.intro e.link (by first | omega | (simp only; omega)) ⟨by omega, by omega, hq, rfl⟩ (by repeat (first | exact wkF_e | refine wkF_c rfl ?_)) (wkB_c rfl (wkB_c rfl wkB_e)) rfl
  · have hb : i < 0 := by simp at hb; omega
    rw [chain_neg hb] at hq
    exact ⟨by rw [← hq]; rfl, rfl⟩
end Go.Proofs.YtedfplodobpgfaaGreatDoor
namespace Go.Proofs.YtedfplodobpgfaaGreatDoor
set_option maxRecDepth 8000
open Go Go.Sx
theorem eqI_c (l r : List Int) (hl : l.length ≤ 4611686018427387904) (s1 s2 : Value) (h : Hp) (r1 : RdI h l s1) (r2 : RdI h r s2) : ACalls Tryz.prog 126 #[s1, s2] h (Pu (.bool (decide (l = r))) h) := by
  obtain ⟨a1, c1, xs1, rfl, hc1, hr1, hat1⟩ := r1.rows (by decide) l.length (fm_len idt_len l)
  obtain ⟨a2, c2, xs2, rfl, hc2, hr2, hat2⟩ := r2.rows (by decide) r.length (fm_len idt_len r)
  (refine enter Tryz.func126 rfl rfl (by kernel_rfl) [] ?_; simp only [go_sem, Nat.reduceBEq])
  by_cases he : l.length = r.length
  case neg =>
    simp only [decide_eq_false (show ¬ ((l.length : Nat) : Int) = ((r.length : Nat) : Int) by omega), Bool.not_false, go_sem, Nat.reduceBEq]
    exact ⟨by rw [decide_eq_false (fun e => he (by rw [e]))], rfl⟩
  simp only [decide_eq_true (show ((l.length : Nat) : Int) = ((r.length : Nat) : Int) by omega), Bool.not_true, go_sem, Nat.reduceBEq]
  refine aloop (ι := Nat) (fun i => [(13, .val (.int .i64 (i : Nat))), (12, .val (.int .i64 (l.length : Nat))), (0, .val (.slice a1 l.length c1)), (1, .val (.slice a2 r.length c2))]) (fun _ => []) (fun i h' => i ≤ l.length ∧ l.take i = r.take i ∧ h' = h) (fun i => l.length - i) 0 ⟨Nat.zero_le _, rfl, rfl⟩ (by repeat (first | exact wkF_e | refine wkF_c rfl ?_)) wkB_e rfl ?_
  rintro i _ ⟨hi, hq, rfl⟩
  try simp only [go_sem, Nat.reduceBEq]
  refine Br.intro (fun hb => ?_) (fun hb => ?_) <;> (try simp only [hb, go_sem, Nat.reduceBEq])
  · have hb : i < l.length := by simpa using hb
    obtain ⟨b1, o1, rfl, hat1'⟩ := hat1 (by omega)
    obtain ⟨b2, o2, rfl, hat2'⟩ := hat2 (by omega)
    obtain ⟨e, he1, hm1⟩ := get_lt hb
    obtain ⟨f, he2, hm2⟩ := get_lt (l := r) (i := i) (by omega)
    have wsu := wrap_succ (i := i) (by omega)
    refine regionD_intro (lb := []) (by kernel_rfl) ?_
    simp only [ix_nat hb, go_sem, Nat.reduceBEq]
    refine hsem_num tyS3 hat1' hr1 he1 rfl ?_
    simp only [ix_nat (show i < r.length by omega), go_sem, Nat.reduceBEq]
    refine hsem_num tyS3 hat2' hr2 he2 rfl ?_
    by_cases hef : e = f
    · subst hef
      simp only [decide_true, Bool.not_true, wsu, go_sem, Nat.reduceBEq]
      exact Again.intro (i + 1) (by first | omega | (simp only; omega)) ⟨hb, by rw [take_snoc he1, take_snoc he2, hq], rfl⟩ (by repeat (first | exact wkF_e | refine wkF_c rfl ?_)) wkB_e rfl
    · simp only [decide_eq_false hef, Bool.not_false, go_sem, Nat.reduceBEq]
      refine ⟨?_, rfl⟩
      rw [decide_eq_false]
      intro hlr
      subst hlr
      rw [he1] at he2
      cases he2
      exact hef rfl
  · have hb : i = l.length := by simp at hb; omega
    subst hb
    rw [List.take_length, he, List.take_length] at hq
    exact ⟨by rw [decide_eq_true hq], rfl⟩
set_option maxHeartbeats 1600000 in
theorem iIsTable (t : Tb) (hb : t.bulk ≤ 1099511627776) (s u : Value) (h : Hp) (r1 : RdI h t.heads s) (r2 : RdT h t.slots u) (hE : Env h) : ACalls Tryz.prog 61 #[.agg #[.bool t.hashed, s, u, .int .i64 t.next, .int .i64 t.count]] h (Is (.bool t.isTab) h) := by
  obtain ⟨a1, c1, xs1, rfl, hc1, hr1, hat1⟩ := r1.rows (by decide) t.heads.length (fm_len idt_len _)
  obtain ⟨a2, c2, xs2, rfl, hc2, hr2, hat2⟩ := r2.rows (by decide) t.slots.length (fm_len Sl.dt_len _)
  have hlh : t.heads.length ≤ 1099511627776 := by unfold Tb.bulk at hb; omega
  have hls : t.slots.length ≤ 1099511627776 := by have := szG_len (w := Sl.bulk) t.slots; unfold Tb.bulk at hb; omega
  have hks : ∀ e ∈ t.slots, e.key.str.size ≤ 1099511627776 := fun e he => by
    have h1 := szG_mem (w := Sl.bulk) he
    have e1 : Sl.bulk e = e.key.str.size + e.val.bulk := rfl
    unfold Tb.bulk at hb
    omega
  (refine enter Tryz.func61 rfl rfl (by kernel_rfl) [] ?_; simp only [go_sem, Nat.reduceBEq])
  (refine (iInRange _ _ _ _).mono ?_; rintro _ _ ⟨rfl, rfl⟩; simp only [go_sem, Nat.reduceBEq])
  by_cases hnx : 0 ≤ t.next ∧ t.next ≤ 1000000001
  case neg =>
    simp only [decide_eq_false hnx, Bool.not_false, go_sem, Nat.reduceBEq]
    exact ⟨by rw [noTab fun w => hnx w.next], Ext.refl _⟩
  simp only [decide_eq_true hnx, Bool.not_true, go_sem]
  refine hsem_mk_map fun bm hbn om em => ?_
  generalize hset h bm (.map #[] 0) = h0 at om em ⊢
  try simp only [go_sem, Nat.reduceBEq]
  refine aloop (ι := Nat) (fun i => [(21, .val (.int .i64 (i : Nat))), (20, .val (.int .i64 (t.slots.length : Nat))), (19, .val (.slice a2 t.slots.length c2)), (3, .val (.map (some bm))), (1, .box 1 0)]) (fun _ => [(1, [.bool t.hashed, .slice a1 t.heads.length c1, .slice a2 t.slots.length c2, .int .i64 t.next, .int .i64 t.count])])
    (fun i h' => i ≤ t.slots.length ∧ OwM h' bm (liveK (t.slots.take i)) ∧ Ext h h' ∧ preK t i) (fun i => t.slots.length - i) 0 ⟨Nat.zero_le _, om, em, preK.zero t⟩ (by repeat (first | exact wkF_e | refine wkF_c rfl ?_)) (wkB_c rfl wkB_e) rfl ?_
  rintro i h2 ⟨hi, o2, e2, pre⟩
  have hi : i ≤ t.slots.length := hi
  have pre : preK t i := pre
  try simp only [go_sem, Nat.reduceBEq]
  refine Br.intro (fun hb => ?_) (fun hb => ?_) <;> (try simp only [hb, go_sem, Nat.reduceBEq])
  · have hb : i < t.slots.length := by simpa using hb
    obtain ⟨b2, off2, rfl, hat2'⟩ := hat2 (by omega)
    obtain ⟨e, he, hm⟩ := get_lt hb
    have wsu := wrap_succ (i := i) (by omega)
    simp only [ix_nat hb, go_sem, Nat.reduceBEq]
    refine hsem_slot tyS134 (hat2'.mono e2) (hr2.mono e2) he rfl fun s2 rd2 => ?_
    obtain ⟨a5, c5, _, rfl, _⟩ := rd2.rows (by decide) e.val.items.length (fm_len edt_len _)
    try simp only [go_sem, Nat.reduceBEq, Nat.reduceAdd, Nat.reduceLeDiff]
    refine (iIsKey e.key _ (hE.ext e2)).mono ?_
    rintro _ h7 ⟨rfl, e7⟩
    have e27 := e2.trans e7
    have om7 := o2.ext e7
    cases hko : keyOk e.key with
    | false =>
      try simp only [go_sem, Nat.reduceBEq]
      exact ⟨by rw [noTab fun w => by have := (w.keys i e he).1; rw [hko] at this; cases this], e27⟩
    | true =>
    cases kt : e.key.text with
    | true =>
      have hkx : e.key.text = true ∨ e.key.num < t.next := .inl kt
      have ev : e.key.val = .agg #[.bool true, .int .i64 e.key.num, .string e.key.str] := by unfold Ky.val; rw [kt]
      cases hlv : e.live with
      | true =>
        simp only [go_sem, Nat.reduceBEq, Nat.reduceAdd, Nat.reduceLeDiff]
        rw [← ev]
        refine hsem_map_has (by kernel_rfl) om7 e.key ?_
        by_cases hmm : e.key ∈ liveK (t.slots.take i)
        · simp only [decide_eq_true hmm, go_sem, Nat.reduceBEq]
          obtain ⟨j, u, hj, hu, lu, eu⟩ := mem_liveK.1 hmm
          exact ⟨by rw [noTab fun w => w.dist i j e u hj he hu hlv lu eu], e27⟩
        · simp only [decide_eq_false hmm, go_sem, Nat.reduceBEq, Nat.reduceAdd, Nat.reduceLeDiff]
          rw [← ev]
          refine hsem_map_add (by kernel_rfl) om7 e.key hmm fun h8 o8 b8 => ?_
          have e8 : Ext h h8 := b8.ext e27 (by simpa using hbn)
          simp only [wsu, go_sem, Nat.reduceBEq]
          refine Again.intro (i + 1) (by first | omega | (simp only; omega)) ⟨hb, by rw [liveK_snoc he, hlv]; exact o8, e8, pre.step he ⟨hko, hkx, .inl hlv⟩ fun _ => hmm⟩ (by repeat (first | exact wkF_e | refine wkF_c rfl ?_)) (wkB_c rfl wkB_e) rfl
      | false =>
        simp only [go_sem, Nat.reduceBEq, Nat.reduceAdd, Nat.reduceLeDiff]
        (refine (iZero e.val _ _ (rd2.mono e7)).mono ?_; rintro _ _ ⟨rfl, rfl⟩; simp only [go_sem, Nat.reduceBEq])
        cases hz : e.val.isZero with
        | false =>
          try simp only [go_sem, Nat.reduceBEq]
          exact ⟨by rw [noTab fun w => by have := (w.keys i e he).2.2; rw [hlv, hz] at this; simp at this], e27⟩
        | true =>
          simp only [wsu, go_sem, Nat.reduceBEq]
          refine Again.intro (i + 1) (by first | omega | (simp only; omega)) ⟨hb, by rw [liveK_snoc he, hlv]; exact om7, e27, pre.step he ⟨hko, hkx, .inr hz⟩ fun q => by rw [hlv] at q; cases q⟩ (by repeat (first | exact wkF_e | refine wkF_c rfl ?_)) (wkB_c rfl wkB_e) rfl
    | false =>
      by_cases hnn : t.next ≤ e.key.num
      · simp only [decide_eq_true hnn, go_sem, Nat.reduceBEq]
        exact ⟨by rw [noTab fun w => by have := (w.keys i e he).2.1; rw [kt] at this; simp at this; omega], e27⟩
      have hkx : e.key.text = true ∨ e.key.num < t.next := .inr (by omega)
      have ev : e.key.val = .agg #[.bool false, .int .i64 e.key.num, .string e.key.str] := by unfold Ky.val; rw [kt]
      cases hlv : e.live with
      | true =>
        simp only [decide_eq_false hnn, go_sem, Nat.reduceBEq, Nat.reduceAdd, Nat.reduceLeDiff]
        rw [← ev]
        refine hsem_map_has (by kernel_rfl) om7 e.key ?_
        by_cases hmm : e.key ∈ liveK (t.slots.take i)
        · simp only [decide_eq_true hmm, go_sem, Nat.reduceBEq]
          obtain ⟨j, u, hj, hu, lu, eu⟩ := mem_liveK.1 hmm
          exact ⟨by rw [noTab fun w => w.dist i j e u hj he hu hlv lu eu], e27⟩
        · simp only [decide_eq_false hmm, go_sem, Nat.reduceBEq, Nat.reduceAdd, Nat.reduceLeDiff]
          rw [← ev]
          refine hsem_map_add (by kernel_rfl) om7 e.key hmm fun h8 o8 b8 => ?_
          have e8 : Ext h h8 := b8.ext e27 (by simpa using hbn)
          simp only [wsu, go_sem, Nat.reduceBEq]
          refine Again.intro (i + 1) (by first | omega | (simp only; omega)) ⟨hb, by rw [liveK_snoc he, hlv]; exact o8, e8, pre.step he ⟨hko, hkx, .inl hlv⟩ fun _ => hmm⟩ (by repeat (first | exact wkF_e | refine wkF_c rfl ?_)) (wkB_c rfl wkB_e) rfl
      | false =>
        simp only [decide_eq_false hnn, go_sem, Nat.reduceBEq, Nat.reduceAdd, Nat.reduceLeDiff]
        (refine (iZero e.val _ _ (rd2.mono e7)).mono ?_; rintro _ _ ⟨rfl, rfl⟩; simp only [go_sem, Nat.reduceBEq])
        cases hz : e.val.isZero with
        | false =>
          try simp only [go_sem, Nat.reduceBEq]
          exact ⟨by rw [noTab fun w => by have := (w.keys i e he).2.2; rw [hlv, hz] at this; simp at this], e27⟩
        | true =>
          simp only [wsu, go_sem, Nat.reduceBEq]
          refine Again.intro (i + 1) (by first | omega | (simp only; omega)) ⟨hb, by rw [liveK_snoc he, hlv]; exact om7, e27, pre.step he ⟨hko, hkx, .inr hz⟩ fun q => by rw [hlv] at q; cases q⟩ (by repeat (first | exact wkF_e | refine wkF_c rfl ?_)) (wkB_c rfl wkB_e) rfl
  · have hb : i = t.slots.length := by simp at hb; omega
    subst hb
    rw [List.take_length] at o2
    try simp only [go_sem, Nat.reduceBEq, Nat.reduceAdd, Nat.reduceLeDiff, Nat.reduceEqDiff, Int.reduceEq, not_false_eq_true, Int.reduceToNat]
    refine hsem_map_len (by kernel_rfl) o2 ?_
    rw [liveK_len]
    by_cases hcn : t.count = ((liveN t.slots : Nat) : Int)
    case neg =>
      simp only [decide_eq_false hcn, Bool.not_false, go_sem, Nat.reduceBEq]
      exact ⟨by rw [noTab fun w => hcn w.cnt], e2⟩
    simp only [decide_eq_true hcn, Bool.not_true, go_sem, Nat.reduceBEq]
    by_cases ht : t.hashed = true
    · have hnt : ¬ t.hashed = false := by rw [ht]; simp
      simp only [ht, Bool.not_true, go_sem, Nat.reduceBEq]
      by_cases q1 : (t.heads.length : Int) < 8
      · simp only [decide_eq_true q1, go_sem, Nat.reduceBEq]
        exact ⟨by rw [noTab fun w => by have := (w.hash ht).1; omega], e2⟩
      by_cases q2 : (1024 : Int) < (t.heads.length : Int)
      · simp only [decide_eq_false q1, decide_eq_true q2, go_sem, Nat.reduceBEq]
        exact ⟨by rw [noTab fun w => by have := (w.hash ht).1; omega], e2⟩
      cases q3 : p2 t.heads.length with
      | false =>
        have q3' := q3
        unfold p2 at q3'
        simp only [decide_eq_false q1, decide_eq_false q2, q3', vbin_bandI, Bool.not_false, go_sem, Nat.reduceBEq]
        exact ⟨by rw [noTab fun w => by have := (w.hash ht).2.1; rw [q3] at this; cases this], e2⟩
      | true =>
      have q3' := q3
      unfold p2 at q3'
      by_cases q4 : (t.heads.length : Int) < (t.slots.length : Int)
      · simp only [decide_eq_false q1, decide_eq_false q2, q3', vbin_bandI, Bool.not_true, decide_eq_true q4, go_sem, Nat.reduceBEq]
        exact ⟨by rw [noTab fun w => by have := (w.hash ht).2.2.1; omega], e2⟩
      simp only [decide_eq_false q1, decide_eq_false q2, q3', vbin_bandI, Bool.not_true, decide_eq_false q4, go_sem, Nat.reduceBEq]
      refine (noHeads_c t.heads.length (by omega) _).mono ?_
      rintro _ h3 ⟨a3, c3, rfl, m3⟩
      obtain ⟨_, _, e5, _, _, hat3⟩ := m3.row_shape (by decide) t.heads.length (by rw [fm_len idt_len, List.length_replicate])
      cases e5
      obtain ⟨b3, rfl⟩ := hat3 (by omega)
      try simp only [go_sem, Nat.reduceBEq]
      refine aloop (ι := Nat) (fun i => [(138, .val (.int .i64 (i : Nat))), (137, .val (.int .i64 (t.slots.length : Nat))), (136, .val (.slice a2 t.slots.length c2)), (9, .val (.slice (some ⟨b3, 0, none⟩) t.heads.length c3)), (8, .val (.int .i64 (t.heads.length : Nat))), (1, .box 1 0)]) (fun _ => [(1, [.bool true, .slice a1 t.heads.length c1, .slice a2 t.slots.length c2, .int .i64 t.next, .int .i64 t.count])])
        (fun i h' => i ≤ t.slots.length ∧ My h2 h' [(.row 1 ((hdsN t.heads.length t.slots i).flatMap idt), .slice (some ⟨b3, 0, none⟩) t.heads.length c3)] ∧ preH t i) (fun i => t.slots.length - i) 0 ⟨Nat.zero_le _, m3, preH.zero t⟩ (by repeat (first | exact wkF_e | refine wkF_c rfl ?_)) (wkB_c rfl wkB_e) rfl ?_
      rintro i h4 ⟨hi, m4, prh⟩
      have hi : i ≤ t.slots.length := hi
      have m4 : My h2 h4 [(.row 1 ((hdsN t.heads.length t.slots i).flatMap idt), .slice (some ⟨b3, 0, none⟩) t.heads.length c3)] := m4
      have prh : preH t i := prh
      have hhl := hdsN_len t.heads.length t.slots i
      have e24 := e2.trans m4.ext
      try simp only [go_sem, Nat.reduceBEq]
      refine Br.intro (fun hb => ?_) (fun hb => ?_) <;> (try simp only [hb, go_sem, Nat.reduceBEq])
      · have hb : i < t.slots.length := by simpa using hb
        obtain ⟨b2, off2, rfl, hat2'⟩ := hat2 (by omega)
        obtain ⟨e, he, hm⟩ := get_lt hb
        have wsu := wrap_succ (i := i) (by omega)
        have hmm : e.key.hash % t.heads.length < t.heads.length := Nat.mod_lt _ (by omega)
        have hh := e.key.hash_lt
        have hsk := hks e hm
        have emm : ((e.key.hash : Nat) : Int) % ((t.heads.length : Nat) : Int) = ((e.key.hash % t.heads.length : Nat) : Int) := by omega
        simp only [ix_nat hb, go_sem, Nat.reduceBEq]
        refine hsem_slot tyS134 (hat2'.mono e24) (hr2.mono e24) he rfl fun s2 rd2 => ?_
        obtain ⟨a5, c5, _, rfl, _⟩ := rd2.rows (by decide) e.val.items.length (fm_len edt_len _)
        try simp only [go_sem, Nat.reduceBEq, Nat.reduceAdd, Nat.reduceLeDiff]
        (refine (iKeyHash e.key (by omega) _).mono ?_; rintro _ _ ⟨rfl, rfl⟩; simp only [go_sem, Nat.reduceBEq])
        (refine (iMod _ _ (by omega) (by omega) _).mono ?_; rintro _ _ ⟨rfl, rfl⟩; simp only [go_sem, Nat.reduceBEq])
        rw [emm]
        try simp only [go_sem, Nat.reduceBEq, Nat.reduceAdd, Nat.reduceLeDiff, Nat.reduceEqDiff, Int.reduceEq, not_false_eq_true, Int.reduceToNat]
        refine regionD_intro (lb := [149]) (by kernel_rfl) ?_
        obtain ⟨ys, hr4, hat4⟩ := m4.at_
        simp only [ix_nat hmm, go_sem, Nat.reduceBEq]
        have hgd : (hdsN t.heads.length t.slots i)[e.key.hash % t.heads.length]? = some ((hdsN t.heads.length t.slots i).getD (e.key.hash % t.heads.length) (-1)) := getD_at (by rw [hhl]; exact hmm)
        refine hsem_num tyS3 (hat4 (by omega)) hr4 hgd (by omega) ?_
        by_cases hlk : e.link = (hdsN t.heads.length t.slots i).getD (e.key.hash % t.heads.length) (-1)
        · simp only [decide_eq_true hlk, Bool.not_true, ix_nat hmm, go_sem, Nat.reduceBEq]
          obtain ⟨cn, hn, en⟩ := hold_num (es := hdsN t.heads.length t.slots i) (b := b3) (cap := c3) (i := e.key.hash % t.heads.length) (by rw [hhl]; exact hmm)
          rw [hhl] at hn
          obtain ⟨w, hw⟩ := hold_self (es := hdsN t.heads.length t.slots i) (i := e.key.hash % t.heads.length) (by rw [hhl]; exact hmm)
          refine hn.put1 (h0 := h2) (d := .raw (.int .i64 w)) tyS3 rfl rfl (by rw [en, hw]; exact m4) (by omega) fun h5 m5 => ?_
          rw [en, ← hdsN_succ he] at m5
          simp only [wsu, go_sem, Nat.reduceBEq]
          exact Again.intro (i + 1) (by first | omega | (simp only; omega)) ⟨hb, m5, prh.step he (by rw [hlk]; exact hgd)⟩ (by repeat (first | exact wkF_e | refine wkF_c rfl ?_)) (wkB_c rfl wkB_e) rfl
        · simp only [decide_eq_false hlk, Bool.not_false, go_sem, Nat.reduceBEq]
          have hno : t.isTab = false := noTab fun w => by
            have := (w.hash ht).2.2.2.1 i e he
            rw [hgd] at this
            exact hlk (Option.some.inj this).symm
          exact ⟨by rw [hno], e24⟩
      · have hb : i = t.slots.length := by simp at hb; omega
        subst hb
        try simp only [go_sem, Nat.reduceBEq, Nat.reduceAdd, Nat.reduceLeDiff, Nat.reduceEqDiff, Int.reduceEq, not_false_eq_true, Int.reduceToNat]
        refine (eqI_c (hdsN t.heads.length t.slots t.slots.length) t.heads (by rw [hhl]; omega) _ _ _ m4.rd (r1.mono e24)).mono ?_
        rintro _ _ ⟨rfl, rfl⟩
        try simp only [go_sem, Nat.reduceBEq]
        refine ⟨?_, e24⟩
        by_cases hq : hdsN t.heads.length t.slots t.slots.length = t.heads
        · rw [decide_eq_true hq, yesTab (wf_hashed ht hnx pre hcn (by omega) q3 (by omega) prh hq.symm)]
        · rw [decide_eq_false hq, noTab fun w => hq ((w.hash ht).2.2.2.2).symm]
    · have ht : t.hashed = false := by simpa using ht
      simp only [ht, Bool.not_false, go_sem]
      refine regionD_intro (lb := [79, 84, 87]) (by kernel_rfl) ?_
      by_cases q1 : t.heads.length = 0
      case neg =>
        simp only [decide_eq_true (show (0 : Int) < ((t.heads.length : Nat) : Int) by omega), go_sem, Nat.reduceBEq]
        exact ⟨by rw [noTab fun w => q1 (w.packed ht).1], e2⟩
      simp only [decide_eq_false (show ¬ (0 : Int) < ((t.heads.length : Nat) : Int) by omega), go_sem, Nat.reduceBEq]
      (refine (iMin _ _ _).mono ?_; rintro _ _ ⟨rfl, rfl⟩; simp only [go_sem, Nat.reduceBEq])
      by_cases q2 : min t.next 1024 < ((t.slots.length : Nat) : Int)
      · simp only [decide_eq_true q2, go_sem, Nat.reduceBEq]
        exact ⟨by rw [noTab fun w => by have := w.packed ht; omega], e2⟩
      simp only [decide_eq_false q2, go_sem, Nat.reduceBEq]
      refine aloop (ι := Nat) (fun i => [(94, .val (.int .i64 (i : Nat))), (93, .val (.int .i64 (t.slots.length : Nat))), (92, .val (.slice a2 t.slots.length c2))]) (fun _ => [])
        (fun i h' => i ≤ t.slots.length ∧ h2 = h' ∧ preP t i) (fun i => t.slots.length - i) 0 ⟨Nat.zero_le _, rfl, preP.zero t⟩ (by repeat (first | exact wkF_e | refine wkF_c rfl ?_)) wkB_e rfl ?_
      rintro i _ ⟨hi, rfl, prp⟩
      have hi : i ≤ t.slots.length := hi
      have prp : preP t i := prp
      try simp only [go_sem, Nat.reduceBEq]
      refine Br.intro (fun hb => ?_) (fun hb => ?_) <;> (try simp only [hb, go_sem, Nat.reduceBEq])
      · have hb : i < t.slots.length := by simpa using hb
        obtain ⟨b2, off2, rfl, hat2'⟩ := hat2 (by omega)
        obtain ⟨e, he, hm⟩ := get_lt hb
        have wsu := wrap_succ (i := i) (by omega)
        simp only [ix_nat hb, go_sem, Nat.reduceBEq]
        refine hsem_slot tyS134 (hat2'.mono e2) (hr2.mono e2) he rfl fun s2 rd2 => ?_
        obtain ⟨a5, c5, _, rfl, _⟩ := rd2.rows (by decide) e.val.items.length (fm_len edt_len _)
        try simp only [go_sem, Nat.reduceBEq, Nat.reduceAdd, Nat.reduceLeDiff]
        refine regionD_intro (lb := [100, 106]) (by kernel_rfl) ?_
        try simp only [go_sem, Nat.reduceBEq, Nat.reduceAdd, Nat.reduceLeDiff]
        (refine (iIntKey _ _).mono ?_; rintro _ _ ⟨rfl, rfl⟩; simp only [go_sem, Nat.reduceBEq])
        have kd : decide (e.key.text = false ∧ e.key.num = ((i : Nat) : Int) ∧ e.key.str = ⟨#[]⟩) = decide (e.key = ⟨false, (i : Nat), ⟨#[]⟩⟩) := key_dec e.key ⟨false, (i : Nat), ⟨#[]⟩⟩
        simp only [kd, go_sem]
        by_cases hq : e.key = ⟨false, (i : Nat), ⟨#[]⟩⟩
        case neg =>
          simp only [decide_eq_false hq, Bool.not_false, go_sem, Nat.reduceBEq]
          exact ⟨by rw [noTab fun w => hq ((w.packed ht).2.2.2 i e he).1], e2⟩
        simp only [decide_eq_true hq, Bool.not_true, go_sem, Nat.reduceBEq]
        by_cases hlk : e.link = -1
        case neg =>
          simp only [decide_eq_false hlk, Bool.not_false, go_sem, Nat.reduceBEq]
          exact ⟨by rw [noTab fun w => hlk ((w.packed ht).2.2.2 i e he).2], e2⟩
        simp only [decide_eq_true hlk, Bool.not_true, wsu, go_sem, Nat.reduceBEq]
        exact Again.intro (i + 1) (by first | omega | (simp only; omega)) ⟨hb, rfl, prp.step he ⟨hq, hlk⟩⟩ (by repeat (first | exact wkF_e | refine wkF_c rfl ?_)) wkB_e rfl
      · have hb : i = t.slots.length := by simp at hb; omega
        subst hb
        try simp only [go_sem, Nat.reduceBEq, Nat.reduceAdd, Nat.reduceLeDiff, Nat.reduceEqDiff, Int.reduceEq, not_false_eq_true, Int.reduceToNat]
        exact ⟨by rw [yesTab (wf_packed ht hnx pre hcn q1 (by omega) (by omega) prp)], e2⟩
set_option maxHeartbeats 3200000 in
theorem sIsTable (t : Tb) (hb : t.bulk ≤ 1099511627776) (s u : Value) (h : Hp) (r1 : RdI h t.heads s) (r2 : RdT h t.slots u) : ACalls Tryz.prog 53 #[.agg #[.bool t.hashed, s, u, .int .i64 t.next, .int .i64 t.count]] h (Is (.bool t.isTab) h) := by
  obtain ⟨a1, c1, xs1, rfl, hc1, hr1, hat1⟩ := r1.rows (by decide) t.heads.length (fm_len idt_len _)
  obtain ⟨a2, c2, xs2, rfl, hc2, hr2, hat2⟩ := r2.rows (by decide) t.slots.length (fm_len Sl.dt_len _)
  have hlh : t.heads.length ≤ 1099511627776 := by unfold Tb.bulk at hb; omega
  have hls : t.slots.length ≤ 1099511627776 := by have := szG_len (w := Sl.bulk) t.slots; unfold Tb.bulk at hb; omega
  have hks : ∀ e ∈ t.slots, e.key.str.size ≤ 1099511627776 := fun e he => by
    have h1 := szG_mem (w := Sl.bulk) he
    have e1 : Sl.bulk e = e.key.str.size + e.val.bulk := rfl
    unfold Tb.bulk at hb
    omega
  (refine enter Tryz.func53 rfl rfl (by kernel_rfl) [] ?_; simp only [go_sem, Nat.reduceBEq])
  (refine (l1In_c _ _ _ _).mono ?_; rintro _ _ ⟨rfl, rfl⟩; simp only [go_sem, Nat.reduceBEq])
  by_cases hnx : 0 ≤ t.next ∧ t.next ≤ 1000000001
  case neg =>
    simp only [decide_eq_false hnx, Bool.not_false, go_sem, Nat.reduceBEq]
    exact ⟨by rw [noTab fun w => hnx w.next], Ext.refl _⟩
  by_cases q0 : (1024 : Int) < ((t.slots.length : Nat) : Int)
  · simp only [decide_eq_true hnx, Bool.not_true, decide_eq_true q0, go_sem, Nat.reduceBEq]
    exact ⟨by rw [noTab fun w => by have := w.ch.len; omega], Ext.refl _⟩
  by_cases ht : t.hashed = true
  · simp only [decide_eq_true hnx, Bool.not_true, decide_eq_false q0, ht, go_sem, Nat.reduceBEq]
    (refine (l1In_c _ _ _ _).mono ?_; rintro _ _ ⟨rfl, rfl⟩; simp only [go_sem, Nat.reduceBEq])
    by_cases q1 : (8 : Int) ≤ ((t.heads.length : Nat) : Int) ∧ ((t.heads.length : Nat) : Int) ≤ 1024
    case neg =>
      simp only [decide_eq_false q1, Bool.not_false, go_sem, Nat.reduceBEq]
      exact ⟨by rw [noTab fun w => by have := (w.hash ht).1; omega], Ext.refl _⟩
    cases q3 : p2 t.heads.length with
    | false =>
      have q3' := q3
      unfold p2 at q3'
      simp only [decide_eq_true q1, Bool.not_true, q3', vbin_bandI, Bool.not_false, go_sem, Nat.reduceBEq]
      exact ⟨by rw [noTab fun w => by have := (w.hash ht).2.1; rw [q3] at this; cases this], Ext.refl _⟩
    | true =>
    have q3' := q3
    unfold p2 at q3'
    by_cases q4 : ((t.heads.length : Nat) : Int) < ((t.slots.length : Nat) : Int)
    · simp only [decide_eq_true q1, Bool.not_true, q3', vbin_bandI, decide_eq_true q4, go_sem, Nat.reduceBEq]
      exact ⟨by rw [noTab fun w => by have := (w.hash ht).2.2.1; omega], Ext.refl _⟩
    simp only [decide_eq_true q1, Bool.not_true, q3', vbin_bandI, decide_eq_false q4, go_sem, Nat.reduceBEq]
    refine hsem_my_make slT22 (by decide) rfl rfl (n := t.heads.length) (by omega) (by decide) (My.nil (Ext.refl h)) fun bo h1 m1 => ?_
    try simp only [go_sem, Nat.reduceBEq]
    generalize hzz : SlT.zero _ = zz at m1
    refine aloop (ι := Nat) (fun b => [(6, .val (.int .i64 (b : Nat))), (5, .val (.slice (some ⟨bo, 0, none⟩) t.heads.length t.heads.length)), (3, .val (.int .i64 (t.heads.length : Nat))), (4, .val (.int .i64 0)), (1, .box 1 0)]) (fun _ => [(1, [.bool true, .slice a1 t.heads.length c1, .slice a2 t.slots.length c2, .int .i64 t.next, .int .i64 t.count])])
      (fun b h' => b ≤ t.heads.length ∧ My h h' [(.row 1 ((List.replicate b (-1)).flatMap idt ++ zeros zz (t.heads.length - b)), .slice (some ⟨bo, 0, none⟩) t.heads.length t.heads.length)]) (fun b => t.heads.length - b) 0 ⟨Nat.zero_le _, m1⟩ (by repeat (first | exact wkF_e | refine wkF_c rfl ?_)) (wkB_c rfl wkB_e) rfl ?_
    rintro b h2 ⟨hi, m2⟩
    have hi : b ≤ t.heads.length := hi
    have m2 : My h h2 [(.row 1 ((List.replicate b (-1)).flatMap idt ++ zeros zz (t.heads.length - b)), .slice (some ⟨bo, 0, none⟩) t.heads.length t.heads.length)] := m2
    try simp only [go_sem, Nat.reduceBEq]
    refine Br.intro (fun hb => ?_) (fun hb => ?_) <;> (try simp only [hb, go_sem, Nat.reduceBEq])
    · have hb : b < t.heads.length := by simpa using hb
      have wsu := wrap_succ (i := b) (by omega)
      simp only [ix_nat hb, go_sem, Nat.reduceBEq]
      rw [zeros_sub zz hb] at m2
      have m3 : My h h2 ((.raw (.int .i64 (-1)), .int .i64 (-1)) :: [(.row 1 ((List.replicate b (-1)).flatMap idt ++ (zz.map .raw ++ zeros zz (t.heads.length - (b + 1)))), .slice (some ⟨bo, 0, none⟩) t.heads.length t.heads.length)]) := m2.raw rfl
      refine hsem_my_put (es := idt (-1)) tyS3 m3 (by omega) (by rw [List.length_map, ← hzz]; rfl) rfl rfl ?_ fun h4 m4 => ?_
      · rw [fm_len idt_len, List.length_replicate]
      simp only [wsu, go_sem, Nat.reduceBEq]
      refine Again.intro (b + 1) (by first | omega | (simp only; omega)) ⟨hb, ?_⟩ (by repeat (first | exact wkF_e | refine wkF_c rfl ?_)) (wkB_c rfl wkB_e) rfl
      rw [List.replicate_succ', List.flatMap_append, List.flatMap_cons, List.flatMap_nil, List.append_nil, List.append_assoc]
      exact m4
    have hb : b = t.heads.length := by simp at hb; omega
    subst hb
    rw [Nat.sub_self] at m2
    have m3 : My h h2 [(.row 1 ((hdsN t.heads.length t.slots 0).flatMap idt), .slice (some ⟨bo, 0, none⟩) t.heads.length t.heads.length)] := by simpa [zeros, hdsN] using m2
    try simp only [go_sem, Nat.reduceBEq, Nat.reduceAdd, Nat.reduceLeDiff, Nat.reduceEqDiff, Int.reduceEq, not_false_eq_true, Int.reduceToNat]
    refine aloop (ι := Nat) (fun i => [(7, .val (.int .i64 (i : Nat))), (5, .val (.slice (some ⟨bo, 0, none⟩) t.heads.length t.heads.length)), (3, .val (.int .i64 (t.heads.length : Nat))), (4, .val (.int .i64 (liveN (t.slots.take i) : Nat))), (1, .box 1 0)]) (fun _ => [(1, [.bool true, .slice a1 t.heads.length c1, .slice a2 t.slots.length c2, .int .i64 t.next, .int .i64 t.count])])
      (fun i h' => i ≤ t.slots.length ∧ My h h' [(.row 1 ((hdsN t.heads.length t.slots i).flatMap idt), .slice (some ⟨bo, 0, none⟩) t.heads.length t.heads.length)] ∧ preH t i ∧ preK t i) (fun i => t.slots.length - i) 0 ⟨Nat.zero_le _, m3, preH.zero t, preK.zero t⟩ (by repeat (first | exact wkF_e | refine wkF_c rfl ?_)) (wkB_c rfl wkB_e) rfl ?_
    rintro i h6 ⟨hi, m6, prh, pre⟩
    have hi : i ≤ t.slots.length := hi
    have m6 : My h h6 [(.row 1 ((hdsN t.heads.length t.slots i).flatMap idt), .slice (some ⟨bo, 0, none⟩) t.heads.length t.heads.length)] := m6
    have prh : preH t i := prh
    have pre : preK t i := pre
    have hhl := hdsN_len t.heads.length t.slots i
    try simp only [go_sem, Nat.reduceBEq]
    refine Br.intro (fun hb => ?_) (fun hb => ?_) <;> (try simp only [hb, go_sem, Nat.reduceBEq])
    · have hb : i < t.slots.length := by simpa using hb
      obtain ⟨b2, off2, rfl, hat2'⟩ := hat2 (by omega)
      obtain ⟨e, he, hm⟩ := get_lt hb
      have wsu := wrap_succ (i := i) (by omega)
      have hln := liveN_take t.slots i
      have hln2 := liveN_le t.slots
      have wnu := wrap_succ (i := liveN (t.slots.take i)) (by omega)
      have hmm : e.key.hash % t.heads.length < t.heads.length := Nat.mod_lt _ (by omega)
      have hh := e.key.hash_lt
      have hsk := hks e hm
      have emm : ((e.key.hash : Nat) : Int).tmod ((t.heads.length : Nat) : Int) = ((e.key.hash % t.heads.length : Nat) : Int) := by
        rw [Int.tmod_eq_emod_of_nonneg (by omega)]
        omega
      have hm0 : (((t.heads.length : Nat) : Int) = 0) = False := eq_false (by omega)
      simp only [ix_nat hb, go_sem, Nat.reduceBEq]
      refine hsem_slotB m6.ext tyS134 hat2' hr2 he rfl fun s2 rd2 => ?_
      obtain ⟨a5, c5, _, rfl, _⟩ := rd2.rows (by decide) e.val.items.length (fm_len edt_len _)
      try simp only [go_sem, Nat.reduceBEq, Nat.reduceAdd, Nat.reduceLeDiff]
      (refine (sKeyHash e.key (by omega) _).mono ?_; rintro _ _ ⟨rfl, rfl⟩; simp only [go_sem, Nat.reduceBEq])
      obtain ⟨ys, hr4, hat4⟩ := m6.at_
      simp only [hm0, emm, ix_nat hmm, go_sem, Nat.reduceBEq, not_false_eq_true]
      have hgd : (hdsN t.heads.length t.slots i)[e.key.hash % t.heads.length]? = some ((hdsN t.heads.length t.slots i).getD (e.key.hash % t.heads.length) (-1)) := getD_at (by rw [hhl]; exact hmm)
      refine hsem_num tyS3 (hat4 (by omega)) hr4 hgd (by omega) ?_
      simp only [ix_nat hmm, go_sem, Nat.reduceBEq]
      obtain ⟨cn, hn, en⟩ := hold_num (es := hdsN t.heads.length t.slots i) (b := bo) (cap := t.heads.length) (i := e.key.hash % t.heads.length) (by rw [hhl]; exact hmm)
      rw [hhl] at hn
      obtain ⟨w, hw⟩ := hold_self (es := hdsN t.heads.length t.slots i) (i := e.key.hash % t.heads.length) (by rw [hhl]; exact hmm)
      refine hn.put1 (h0 := h) (d := .raw (.int .i64 w)) tyS3 rfl rfl (by rw [en, hw]; exact m6) (by omega) fun h5 m5 => ?_
      rw [en, ← hdsN_succ he] at m5
      try simp only [go_sem, Nat.reduceBEq, Nat.reduceAdd, Nat.reduceLeDiff]
      refine (sIsKey e.key _ (by omega)).mono ?_
      rintro _ h7 ⟨rfl, e7⟩
      have m7 := m5.mono e7
      have e67 := m7.ext
      cases hko : keyOk e.key with
      | false =>
        try simp only [go_sem, Nat.reduceBEq]
        exact ⟨by rw [noTab fun w => by have := (w.keys i e he).1; rw [hko] at this; cases this], e67⟩
      | true =>
      by_cases hlk : e.link = (hdsN t.heads.length t.slots i).getD (e.key.hash % t.heads.length) (-1)
      case neg =>
        simp only [decide_eq_false hlk, Bool.not_false, go_sem, Nat.reduceBEq]
        have hno : t.isTab = false := noTab fun w => by
          have := (w.hash ht).2.2.2.1 i e he
          rw [hgd] at this
          exact hlk (Option.some.inj this).symm
        exact ⟨by rw [hno], e67⟩
      cases kt : e.key.text with
      | true =>
        have hkx : e.key.text = true ∨ e.key.num < t.next := .inl kt
        cases hlw : e.live with
        | true =>
          have hzo : e.live = true ∨ e.val.isZero = true := .inl hlw
          simp only [decide_eq_true hlk, Bool.not_true, go_sem, Nat.reduceBEq]
          refine aloop (ι := Nat) (fun j => (11, .val (.int .i64 (j : Nat))) :: (8, .box 8 0) :: [(7, .val (.int .i64 (i : Nat))), (5, .val (.slice (some ⟨bo, 0, none⟩) t.heads.length t.heads.length)), (3, .val (.int .i64 (t.heads.length : Nat))), (4, .val (.int .i64 (liveN (t.slots.take i) : Nat))), (1, .box 1 0)]) (fun _ => [(8, [.bool true, .int .i64 e.key.num, .string e.key.str, .int .i64 e.val.kind, .int .i64 e.val.num, .string e.val.str, .int .i64 e.val.next, .slice a5 e.val.items.length c5, .bool true, .int .i64 e.link]), (1, [.bool true, .slice a1 t.heads.length c1, .slice (some ⟨b2, off2, none⟩) t.slots.length c2, .int .i64 t.next, .int .i64 t.count])])
            (fun j h' => h7 = h' ∧ j ≤ i ∧ ∀ (q : Nat) (u : Sl), q < j → t.slots[q]? = some u → u.live = true → ¬ u.key = e.key) (fun j => i - j) 0 ⟨rfl, Nat.zero_le _, fun _ _ h => by omega⟩ (by repeat (first | exact wkF_e | refine wkF_c rfl ?_)) (wkB_c rfl (wkB_c rfl wkB_e)) rfl ?_
          rintro j _ ⟨rfl, hji, hall⟩
          have hji : j ≤ i := hji
          have hall : ∀ (q : Nat) (u : Sl), q < j → t.slots[q]? = some u → u.live = true → ¬ u.key = e.key := hall
          by_cases hj : j < i
          · have hjl : j < t.slots.length := by omega
            obtain ⟨u, hu, _⟩ := get_lt hjl
            have wsj := wrap_succ (i := j) (by omega)
            simp only [decide_eq_true (show ((j : Nat) : Int) < ((i : Nat) : Int) by omega), go_sem, Nat.reduceBEq]
            refine regionD_intro (lb := [157, 164, 170]) (by kernel_rfl) ?_
            simp only [ix_nat hjl, go_sem, Nat.reduceBEq, Nat.reduceAdd]
            refine hsem_slive tyS4 (hat2'.mono e67) (hr2.mono e67) hu rfl ?_
            cases hlu : u.live with
            | false =>
              simp only [wsj, go_sem, Nat.reduceBEq]
              exact Again.intro (j + 1) (by first | omega | (simp only; omega)) ⟨rfl, hj, fun q v hq hv lv => by
                by_cases hqj : q = j
                · subst hqj; rw [hu] at hv; cases hv; rw [hlu] at lv; cases lv
                · exact hall q v (by omega) hv lv⟩ (by repeat (first | exact wkF_e | refine wkF_c rfl ?_)) (wkB_c rfl (wkB_c rfl wkB_e)) rfl
            | true =>
              simp only [ix_nat hjl, go_sem, Nat.reduceBEq]
              refine hsem_skey tyS40 (hat2'.mono e67) (hr2.mono e67) hu rfl ?_
              have kd : decide (u.key.text = true ∧ u.key.num = e.key.num ∧ u.key.str = e.key.str) = decide (u.key = e.key) := by rw [← kt]; exact key_dec u.key e.key
              simp only [kd, keyT40, go_sem, Nat.reduceBEq, Nat.reduceAdd, Nat.reduceLeDiff]
              by_cases hk : u.key = e.key
              · simp only [decide_eq_true hk, go_sem, Nat.reduceBEq]
                exact ⟨by rw [noTab fun w => w.dist i j e u hj he hu hlw hlu hk], e67⟩
              · simp only [decide_eq_false hk, wsj, go_sem, Nat.reduceBEq]
                exact Again.intro (j + 1) (by first | omega | (simp only; omega)) ⟨rfl, hj, fun q v hq hv lv => by
                  by_cases hqj : q = j
                  · subst hqj; rw [hu] at hv; cases hv; exact hk
                  · exact hall q v (by omega) hv lv⟩ (by repeat (first | exact wkF_e | refine wkF_c rfl ?_)) (wkB_c rfl (wkB_c rfl wkB_e)) rfl
          · have hdd : e.live = true → e.key ∉ liveK (t.slots.take i) := fun _ hm => by
              obtain ⟨q, u, hq, hu, lu, eu⟩ := mem_liveK.1 hm
              exact hall q u (by omega) hu lu eu
            simp only [decide_eq_false (show ¬ ((j : Nat) : Int) < ((i : Nat) : Int) by omega), wnu, wsu, go_sem, Nat.reduceBEq, Nat.reduceEqDiff]
            have hln3 : liveN (t.slots.take (i + 1)) = liveN (t.slots.take i) + 1 := by rw [liveN_snoc he, hlw]; rfl
            refine Again.intro (i + 1) (by first | omega | (simp only; omega)) ⟨hb, m7, prh.step he (by rw [hlk]; exact hgd), pre.step he ⟨hko, hkx, hzo⟩ hdd⟩ (by simp only [hln3]; exact (by repeat (first | exact wkF_e | refine wkF_c rfl ?_))) (wkB_c rfl wkB_e) rfl
        | false =>
          simp only [decide_eq_true hlk, Bool.not_true, go_sem, Nat.reduceBEq, Nat.reduceAdd, Nat.reduceLeDiff]
          (refine (sZero e.val _ _ (rd2.mono e67)).mono ?_; rintro _ _ ⟨rfl, rfl⟩; simp only [go_sem, Nat.reduceBEq])
          cases hz : e.val.isZero with
          | false =>
            try simp only [go_sem, Nat.reduceBEq]
            exact ⟨by rw [noTab fun w => by have := (w.keys i e he).2.2; rw [hlw, hz] at this; simp at this], e67⟩
          | true =>
            have hzo : e.live = true ∨ e.val.isZero = true := .inr hz
            try simp only [go_sem]
            have hdd : e.live = true → e.key ∉ liveK (t.slots.take i) := fun q => by rw [hlw] at q; cases q
            refine aloop (ι := Unit) (fun _ => (11, .val (.int .i64 0)) :: (8, .box 8 0) :: [(7, .val (.int .i64 (i : Nat))), (5, .val (.slice (some ⟨bo, 0, none⟩) t.heads.length t.heads.length)), (3, .val (.int .i64 (t.heads.length : Nat))), (4, .val (.int .i64 (liveN (t.slots.take i) : Nat))), (1, .box 1 0)]) (fun _ => [(8, [.bool true, .int .i64 e.key.num, .string e.key.str, .int .i64 e.val.kind, .int .i64 e.val.num, .string e.val.str, .int .i64 e.val.next, .slice a5 e.val.items.length c5, .bool false, .int .i64 e.link]), (1, [.bool true, .slice a1 t.heads.length c1, .slice (some ⟨b2, off2, none⟩) t.slots.length c2, .int .i64 t.next, .int .i64 t.count])]) (fun _ h' => h7 = h') (fun _ => 0) () rfl (by repeat (first | exact wkF_e | refine wkF_c rfl ?_)) (wkB_c rfl (wkB_c rfl wkB_e)) rfl ?_
            rintro _ _ rfl
            simp only [wsu, go_sem, Nat.reduceBEq, Nat.reduceEqDiff]
            have hln3 : liveN (t.slots.take (i + 1)) = liveN (t.slots.take i) := by rw [liveN_snoc he, hlw]; rfl
            refine Again.intro (i + 1) (by first | omega | (simp only; omega)) ⟨hb, m7, prh.step he (by rw [hlk]; exact hgd), pre.step he ⟨hko, hkx, hzo⟩ hdd⟩ (by simp only [hln3]; exact (by repeat (first | exact wkF_e | refine wkF_c rfl ?_))) (wkB_c rfl wkB_e) rfl
      | false =>
        by_cases hnn : t.next ≤ e.key.num
        · simp only [decide_eq_true hlk, Bool.not_true, decide_eq_true hnn, go_sem, Nat.reduceBEq]
          exact ⟨by rw [noTab fun w => by have := (w.keys i e he).2.1; rw [kt] at this; simp at this; omega], e67⟩
        have hkx : e.key.text = true ∨ e.key.num < t.next := .inr (by omega)
        cases hlw : e.live with
        | true =>
          have hzo : e.live = true ∨ e.val.isZero = true := .inl hlw
          simp only [decide_eq_true hlk, Bool.not_true, decide_eq_false hnn, go_sem, Nat.reduceBEq]
          refine aloop (ι := Nat) (fun j => (11, .val (.int .i64 (j : Nat))) :: (8, .box 8 0) :: [(7, .val (.int .i64 (i : Nat))), (5, .val (.slice (some ⟨bo, 0, none⟩) t.heads.length t.heads.length)), (3, .val (.int .i64 (t.heads.length : Nat))), (4, .val (.int .i64 (liveN (t.slots.take i) : Nat))), (1, .box 1 0)]) (fun _ => [(8, [.bool false, .int .i64 e.key.num, .string e.key.str, .int .i64 e.val.kind, .int .i64 e.val.num, .string e.val.str, .int .i64 e.val.next, .slice a5 e.val.items.length c5, .bool true, .int .i64 e.link]), (1, [.bool true, .slice a1 t.heads.length c1, .slice (some ⟨b2, off2, none⟩) t.slots.length c2, .int .i64 t.next, .int .i64 t.count])])
            (fun j h' => h7 = h' ∧ j ≤ i ∧ ∀ (q : Nat) (u : Sl), q < j → t.slots[q]? = some u → u.live = true → ¬ u.key = e.key) (fun j => i - j) 0 ⟨rfl, Nat.zero_le _, fun _ _ h => by omega⟩ (by repeat (first | exact wkF_e | refine wkF_c rfl ?_)) (wkB_c rfl (wkB_c rfl wkB_e)) rfl ?_
          rintro j _ ⟨rfl, hji, hall⟩
          have hji : j ≤ i := hji
          have hall : ∀ (q : Nat) (u : Sl), q < j → t.slots[q]? = some u → u.live = true → ¬ u.key = e.key := hall
          by_cases hj : j < i
          · have hjl : j < t.slots.length := by omega
            obtain ⟨u, hu, _⟩ := get_lt hjl
            have wsj := wrap_succ (i := j) (by omega)
            simp only [decide_eq_true (show ((j : Nat) : Int) < ((i : Nat) : Int) by omega), go_sem, Nat.reduceBEq]
            refine regionD_intro (lb := [157, 164, 170]) (by kernel_rfl) ?_
            simp only [ix_nat hjl, go_sem, Nat.reduceBEq, Nat.reduceAdd]
            refine hsem_slive tyS4 (hat2'.mono e67) (hr2.mono e67) hu rfl ?_
            cases hlu : u.live with
            | false =>
              simp only [wsj, go_sem, Nat.reduceBEq]
              exact Again.intro (j + 1) (by first | omega | (simp only; omega)) ⟨rfl, hj, fun q v hq hv lv => by
                by_cases hqj : q = j
                · subst hqj; rw [hu] at hv; cases hv; rw [hlu] at lv; cases lv
                · exact hall q v (by omega) hv lv⟩ (by repeat (first | exact wkF_e | refine wkF_c rfl ?_)) (wkB_c rfl (wkB_c rfl wkB_e)) rfl
            | true =>
              simp only [ix_nat hjl, go_sem, Nat.reduceBEq]
              refine hsem_skey tyS40 (hat2'.mono e67) (hr2.mono e67) hu rfl ?_
              have kd : decide (u.key.text = false ∧ u.key.num = e.key.num ∧ u.key.str = e.key.str) = decide (u.key = e.key) := by rw [← kt]; exact key_dec u.key e.key
              simp only [kd, keyT40, go_sem, Nat.reduceBEq, Nat.reduceAdd, Nat.reduceLeDiff]
              by_cases hk : u.key = e.key
              · simp only [decide_eq_true hk, go_sem, Nat.reduceBEq]
                exact ⟨by rw [noTab fun w => w.dist i j e u hj he hu hlw hlu hk], e67⟩
              · simp only [decide_eq_false hk, wsj, go_sem, Nat.reduceBEq]
                exact Again.intro (j + 1) (by first | omega | (simp only; omega)) ⟨rfl, hj, fun q v hq hv lv => by
                  by_cases hqj : q = j
                  · subst hqj; rw [hu] at hv; cases hv; exact hk
                  · exact hall q v (by omega) hv lv⟩ (by repeat (first | exact wkF_e | refine wkF_c rfl ?_)) (wkB_c rfl (wkB_c rfl wkB_e)) rfl
          · have hdd : e.live = true → e.key ∉ liveK (t.slots.take i) := fun _ hm => by
              obtain ⟨q, u, hq, hu, lu, eu⟩ := mem_liveK.1 hm
              exact hall q u (by omega) hu lu eu
            simp only [decide_eq_false (show ¬ ((j : Nat) : Int) < ((i : Nat) : Int) by omega), wnu, wsu, go_sem, Nat.reduceBEq, Nat.reduceEqDiff]
            have hln3 : liveN (t.slots.take (i + 1)) = liveN (t.slots.take i) + 1 := by rw [liveN_snoc he, hlw]; rfl
            refine Again.intro (i + 1) (by first | omega | (simp only; omega)) ⟨hb, m7, prh.step he (by rw [hlk]; exact hgd), pre.step he ⟨hko, hkx, hzo⟩ hdd⟩ (by simp only [hln3]; exact (by repeat (first | exact wkF_e | refine wkF_c rfl ?_))) (wkB_c rfl wkB_e) rfl
        | false =>
          simp only [decide_eq_true hlk, Bool.not_true, decide_eq_false hnn, go_sem, Nat.reduceBEq, Nat.reduceAdd, Nat.reduceLeDiff]
          (refine (sZero e.val _ _ (rd2.mono e67)).mono ?_; rintro _ _ ⟨rfl, rfl⟩; simp only [go_sem, Nat.reduceBEq])
          cases hz : e.val.isZero with
          | false =>
            try simp only [go_sem, Nat.reduceBEq]
            exact ⟨by rw [noTab fun w => by have := (w.keys i e he).2.2; rw [hlw, hz] at this; simp at this], e67⟩
          | true =>
            have hzo : e.live = true ∨ e.val.isZero = true := .inr hz
            try simp only [go_sem]
            have hdd : e.live = true → e.key ∉ liveK (t.slots.take i) := fun q => by rw [hlw] at q; cases q
            refine aloop (ι := Unit) (fun _ => (11, .val (.int .i64 0)) :: (8, .box 8 0) :: [(7, .val (.int .i64 (i : Nat))), (5, .val (.slice (some ⟨bo, 0, none⟩) t.heads.length t.heads.length)), (3, .val (.int .i64 (t.heads.length : Nat))), (4, .val (.int .i64 (liveN (t.slots.take i) : Nat))), (1, .box 1 0)]) (fun _ => [(8, [.bool false, .int .i64 e.key.num, .string e.key.str, .int .i64 e.val.kind, .int .i64 e.val.num, .string e.val.str, .int .i64 e.val.next, .slice a5 e.val.items.length c5, .bool false, .int .i64 e.link]), (1, [.bool true, .slice a1 t.heads.length c1, .slice (some ⟨b2, off2, none⟩) t.slots.length c2, .int .i64 t.next, .int .i64 t.count])]) (fun _ h' => h7 = h') (fun _ => 0) () rfl (by repeat (first | exact wkF_e | refine wkF_c rfl ?_)) (wkB_c rfl (wkB_c rfl wkB_e)) rfl ?_
            rintro _ _ rfl
            simp only [wsu, go_sem, Nat.reduceBEq, Nat.reduceEqDiff]
            have hln3 : liveN (t.slots.take (i + 1)) = liveN (t.slots.take i) := by rw [liveN_snoc he, hlw]; rfl
            refine Again.intro (i + 1) (by first | omega | (simp only; omega)) ⟨hb, m7, prh.step he (by rw [hlk]; exact hgd), pre.step he ⟨hko, hkx, hzo⟩ hdd⟩ (by simp only [hln3]; exact (by repeat (first | exact wkF_e | refine wkF_c rfl ?_))) (wkB_c rfl wkB_e) rfl
    · have hb : i = t.slots.length := by simp at hb; omega
      subst hb
      try simp only [go_sem, Nat.reduceBEq, Nat.reduceAdd, Nat.reduceLeDiff, Nat.reduceEqDiff, Int.reduceEq, not_false_eq_true, Int.reduceToNat]
      rw [List.take_length]
      refine aloop (ι := Nat) (fun b => (12, .val (.int .i64 (b : Nat))) :: [(5, .val (.slice (some ⟨bo, 0, none⟩) t.heads.length t.heads.length)), (3, .val (.int .i64 (t.heads.length : Nat))), (4, .val (.int .i64 (liveN t.slots : Nat))), (1, .box 1 0)]) (fun _ => [(1, [.bool true, .slice a1 t.heads.length c1, .slice a2 t.slots.length c2, .int .i64 t.next, .int .i64 t.count])])
        (fun b h' => h6 = h' ∧ b ≤ t.heads.length ∧ t.heads.take b = (hdsN t.heads.length t.slots t.slots.length).take b) (fun b => t.heads.length - b) 0 ⟨rfl, Nat.zero_le _, rfl⟩ (by repeat (first | exact wkF_e | refine wkF_c rfl ?_)) (wkB_c rfl wkB_e) rfl ?_
      rintro b _ ⟨rfl, hi2, hq⟩
      have hi2 : b ≤ t.heads.length := hi2
      have hq : t.heads.take b = (hdsN t.heads.length t.slots t.slots.length).take b := hq
      try simp only [go_sem, Nat.reduceBEq]
      refine Br.intro (fun hb => ?_) (fun hb => ?_) <;> (try simp only [hb, go_sem, Nat.reduceBEq])
      · have hb : b < t.heads.length := by simpa using hb
        obtain ⟨b1, off1, rfl, hat1'⟩ := hat1 (by omega)
        obtain ⟨x, hx, _⟩ := get_lt hb
        obtain ⟨y, hy, _⟩ := get_lt (l := hdsN t.heads.length t.slots t.slots.length) (i := b) (by omega)
        have wsu := wrap_succ (i := b) (by omega)
        obtain ⟨ys, hr4, hat4⟩ := m6.at_
        refine regionD_intro (lb := [183]) (by kernel_rfl) ?_
        simp only [ix_nat hb, go_sem, Nat.reduceBEq]
        refine hsem_num tyS3 (hat1'.mono m6.ext) (hr1.mono m6.ext) hx rfl ?_
        simp only [ix_nat hb, go_sem, Nat.reduceBEq]
        refine hsem_num tyS3 (hat4 (by omega)) hr4 hy (by omega) ?_
        by_cases hxy : x = y
        · subst hxy
          simp only [decide_true, Bool.not_true, wsu, go_sem, Nat.reduceBEq]
          exact Again.intro (b + 1) (by first | omega | (simp only; omega)) ⟨rfl, hb, by rw [take_snoc hx, take_snoc hy, hq]⟩ (by repeat (first | exact wkF_e | refine wkF_c rfl ?_)) (wkB_c rfl wkB_e) rfl
        · simp only [decide_eq_false hxy, Bool.not_false, go_sem, Nat.reduceBEq]
          have hno : t.isTab = false := noTab fun w => by
            have := (w.hash ht).2.2.2.2
            rw [← this, hx] at hy
            exact hxy (Option.some.inj hy)
          exact ⟨by rw [hno], m6.ext⟩
      · have hb : b = t.heads.length := by simp at hb; omega
        subst hb
        rw [List.take_length, List.take_of_length_le (by omega)] at hq
        try simp only [go_sem, Nat.reduceBEq, Nat.reduceAdd, Nat.reduceLeDiff, Nat.reduceEqDiff, Int.reduceEq, not_false_eq_true, Int.reduceToNat]
        refine ⟨?_, m6.ext⟩
        by_cases hcn : ((liveN t.slots : Nat) : Int) = t.count
        · rw [decide_eq_true hcn, yesTab (wf_hashed ht hnx pre hcn.symm (by omega) q3 (by omega) prh hq)]
        · rw [decide_eq_false hcn, noTab fun w => hcn w.cnt.symm]
  · have ht : t.hashed = false := by simpa using ht
    simp only [decide_eq_true hnx, Bool.not_true, decide_eq_false q0, ht, Bool.not_false, go_sem, Nat.reduceBEq]
    by_cases q1 : t.heads.length = 0
    case neg =>
      simp only [decide_eq_true (show (0 : Int) < ((t.heads.length : Nat) : Int) by omega), go_sem, Nat.reduceBEq]
      exact ⟨by rw [noTab fun w => q1 (w.packed ht).1], Ext.refl _⟩
    by_cases q2 : t.next < ((t.slots.length : Nat) : Int)
    · simp only [decide_eq_false (show ¬ (0 : Int) < ((t.heads.length : Nat) : Int) by omega), decide_eq_true q2, go_sem, Nat.reduceBEq]
      exact ⟨by rw [noTab fun w => by have := (w.packed ht).2.1; omega], Ext.refl _⟩
    simp only [decide_eq_false (show ¬ (0 : Int) < ((t.heads.length : Nat) : Int) by omega), decide_eq_false q2, go_sem, Nat.reduceBEq]
    refine hsem_my_make slT22 (by decide) rfl rfl (n := t.heads.length) (by omega) (by decide) (My.nil (Ext.refl h)) fun bo h1 m1 => ?_
    have em1 := m1.ext
    clear m1
    try simp only [go_sem, Nat.reduceBEq]
    refine aloop (ι := Unit) (fun _ => [(6, .val (.int .i64 0)), (5, .val (.slice (some ⟨bo, 0, none⟩) t.heads.length t.heads.length)), (3, .val (.int .i64 (t.heads.length : Nat))), (4, .val (.int .i64 0)), (1, .box 1 0)]) (fun _ => [(1, [.bool false, .slice a1 t.heads.length c1, .slice a2 t.slots.length c2, .int .i64 t.next, .int .i64 t.count])])
      (fun _ h' => h1 = h') (fun _ => 0) () rfl (by repeat (first | exact wkF_e | refine wkF_c rfl ?_)) (wkB_c rfl wkB_e) rfl ?_
    rintro _ _ rfl
    simp only [decide_eq_false (show ¬ (0 : Int) < ((t.heads.length : Nat) : Int) by omega), go_sem, Nat.reduceBEq]
    refine aloop (ι := Nat) (fun i => [(7, .val (.int .i64 (i : Nat))), (5, .val (.slice (some ⟨bo, 0, none⟩) t.heads.length t.heads.length)), (3, .val (.int .i64 (t.heads.length : Nat))), (4, .val (.int .i64 (liveN (t.slots.take i) : Nat))), (1, .box 1 0)]) (fun _ => [(1, [.bool false, .slice a1 t.heads.length c1, .slice a2 t.slots.length c2, .int .i64 t.next, .int .i64 t.count])])
      (fun i h' => i ≤ t.slots.length ∧ Ext h h' ∧ preP t i ∧ preK t i) (fun i => t.slots.length - i) 0 ⟨Nat.zero_le _, em1, preP.zero t, preK.zero t⟩ (by repeat (first | exact wkF_e | refine wkF_c rfl ?_)) (wkB_c rfl wkB_e) rfl ?_
    rintro i h6 ⟨hi, e6, prp, pre⟩
    have hi : i ≤ t.slots.length := hi
    have e6 : Ext h h6 := e6
    have prp : preP t i := prp
    have pre : preK t i := pre
    try simp only [go_sem, Nat.reduceBEq]
    refine Br.intro (fun hb => ?_) (fun hb => ?_) <;> (try simp only [hb, go_sem, Nat.reduceBEq])
    · have hb : i < t.slots.length := by simpa using hb
      obtain ⟨b2, off2, rfl, hat2'⟩ := hat2 (by omega)
      obtain ⟨e, he, hm⟩ := get_lt hb
      have wsu := wrap_succ (i := i) (by omega)
      have hln := liveN_take t.slots i
      have hln2 := liveN_le t.slots
      have wnu := wrap_succ (i := liveN (t.slots.take i)) (by omega)
      have hsk := hks e hm
      simp only [ix_nat hb, go_sem, Nat.reduceBEq]
      refine hsem_slotB e6 tyS134 hat2' hr2 he rfl fun s2 rd2 => ?_
      obtain ⟨a5, c5, _, rfl, _⟩ := rd2.rows (by decide) e.val.items.length (fm_len edt_len _)
      have kd : decide (e.key.text = false ∧ e.key.num = ((i : Nat) : Int) ∧ e.key.str = ⟨#[]⟩) = decide (e.key = ⟨false, (i : Nat), ⟨#[]⟩⟩) := key_dec e.key ⟨false, (i : Nat), ⟨#[]⟩⟩
      simp only [kd, keyT40, go_sem, Nat.reduceBEq, Nat.reduceAdd, Nat.reduceLeDiff]
      by_cases hq : e.key = ⟨false, (i : Nat), ⟨#[]⟩⟩
      case neg =>
        simp only [decide_eq_false hq, Bool.not_false, go_sem, Nat.reduceBEq]
        exact ⟨by rw [noTab fun w => hq ((w.packed ht).2.2.2 i e he).1], e6⟩
      simp only [decide_eq_true hq, Bool.not_true, go_sem, Nat.reduceBEq, Nat.reduceAdd, Nat.reduceLeDiff]
      refine (sIsKey e.key _ (by omega)).mono ?_
      rintro _ h7 ⟨rfl, e7⟩
      have e67 := e6.trans e7
      cases hko : keyOk e.key with
      | false =>
        try simp only [go_sem, Nat.reduceBEq]
        exact ⟨by rw [noTab fun w => by have := (w.keys i e he).1; rw [hko] at this; cases this], e67⟩
      | true =>
      by_cases hlk : e.link = -1
      case neg =>
        simp only [decide_eq_false hlk, Bool.not_false, go_sem, Nat.reduceBEq]
        exact ⟨by rw [noTab fun w => hlk ((w.packed ht).2.2.2 i e he).2], e67⟩
      have kt : e.key.text = false := by rw [hq]
      by_cases hnn : t.next ≤ e.key.num
      · simp only [decide_eq_true hlk, Bool.not_true, kt, decide_eq_true hnn, go_sem, Nat.reduceBEq]
        exact ⟨by rw [noTab fun w => by have := (w.keys i e he).2.1; rw [kt] at this; simp at this; omega], e67⟩
      have hkx : e.key.text = true ∨ e.key.num < t.next := .inr (by omega)
      cases hlw : e.live with
      | true =>
        have hzo : e.live = true ∨ e.val.isZero = true := .inl hlw
        simp only [decide_eq_true hlk, Bool.not_true, kt, decide_eq_false hnn, go_sem, Nat.reduceBEq]
        have hdd : e.live = true → e.key ∉ liveK (t.slots.take i) := fun _ hm => by
          obtain ⟨j, u, hj, hu, _, eu⟩ := mem_liveK.1 hm
          rw [(prp j u hj hu).1, hq] at eu
          simp only [Ky.mk.injEq] at eu
          omega
        refine aloop (ι := Unit) (fun _ => (11, .val (.int .i64 0)) :: (8, .box 8 0) :: [(7, .val (.int .i64 (i : Nat))), (5, .val (.slice (some ⟨bo, 0, none⟩) t.heads.length t.heads.length)), (3, .val (.int .i64 (t.heads.length : Nat))), (4, .val (.int .i64 (liveN (t.slots.take i) : Nat))), (1, .box 1 0)]) (fun _ => [(8, [.bool false, .int .i64 e.key.num, .string e.key.str, .int .i64 e.val.kind, .int .i64 e.val.num, .string e.val.str, .int .i64 e.val.next, .slice a5 e.val.items.length c5, .bool true, .int .i64 e.link]), (1, [.bool false, .slice a1 t.heads.length c1, .slice (some ⟨b2, off2, none⟩) t.slots.length c2, .int .i64 t.next, .int .i64 t.count])]) (fun _ h' => h7 = h') (fun _ => 0) () rfl (by repeat (first | exact wkF_e | refine wkF_c rfl ?_)) (wkB_c rfl (wkB_c rfl wkB_e)) rfl ?_
        rintro _ _ rfl
        simp only [wnu, wsu, go_sem, Nat.reduceBEq, Nat.reduceEqDiff]
        have hln3 : liveN (t.slots.take (i + 1)) = liveN (t.slots.take i) + 1 := by rw [liveN_snoc he, hlw]; rfl
        refine Again.intro (i + 1) (by first | omega | (simp only; omega)) ⟨hb, e67, prp.step he ⟨hq, hlk⟩, pre.step he ⟨hko, hkx, hzo⟩ hdd⟩ (by simp only [hln3]; exact (by repeat (first | exact wkF_e | refine wkF_c rfl ?_))) (wkB_c rfl wkB_e) rfl
      | false =>
        simp only [decide_eq_true hlk, Bool.not_true, kt, decide_eq_false hnn, go_sem, Nat.reduceBEq, Nat.reduceAdd, Nat.reduceLeDiff]
        (refine (sZero e.val _ _ (rd2.mono e67)).mono ?_; rintro _ _ ⟨rfl, rfl⟩; simp only [go_sem, Nat.reduceBEq])
        cases hz : e.val.isZero with
        | false =>
          try simp only [go_sem, Nat.reduceBEq]
          exact ⟨by rw [noTab fun w => by have := (w.keys i e he).2.2; rw [hlw, hz] at this; simp at this], e67⟩
        | true =>
          have hzo : e.live = true ∨ e.val.isZero = true := .inr hz
          try simp only [go_sem]
          have hdd : e.live = true → e.key ∉ liveK (t.slots.take i) := fun _ hm => by
            obtain ⟨j, u, hj, hu, _, eu⟩ := mem_liveK.1 hm
            rw [(prp j u hj hu).1, hq] at eu
            simp only [Ky.mk.injEq] at eu
            omega
          refine aloop (ι := Unit) (fun _ => (11, .val (.int .i64 0)) :: (8, .box 8 0) :: [(7, .val (.int .i64 (i : Nat))), (5, .val (.slice (some ⟨bo, 0, none⟩) t.heads.length t.heads.length)), (3, .val (.int .i64 (t.heads.length : Nat))), (4, .val (.int .i64 (liveN (t.slots.take i) : Nat))), (1, .box 1 0)]) (fun _ => [(8, [.bool false, .int .i64 e.key.num, .string e.key.str, .int .i64 e.val.kind, .int .i64 e.val.num, .string e.val.str, .int .i64 e.val.next, .slice a5 e.val.items.length c5, .bool false, .int .i64 e.link]), (1, [.bool false, .slice a1 t.heads.length c1, .slice (some ⟨b2, off2, none⟩) t.slots.length c2, .int .i64 t.next, .int .i64 t.count])]) (fun _ h' => h7 = h') (fun _ => 0) () rfl (by repeat (first | exact wkF_e | refine wkF_c rfl ?_)) (wkB_c rfl (wkB_c rfl wkB_e)) rfl ?_
          rintro _ _ rfl
          simp only [wsu, go_sem, Nat.reduceBEq, Nat.reduceEqDiff]
          have hln3 : liveN (t.slots.take (i + 1)) = liveN (t.slots.take i) := by rw [liveN_snoc he, hlw]; rfl
          refine Again.intro (i + 1) (by first | omega | (simp only; omega)) ⟨hb, e67, prp.step he ⟨hq, hlk⟩, pre.step he ⟨hko, hkx, hzo⟩ hdd⟩ (by simp only [hln3]; exact (by repeat (first | exact wkF_e | refine wkF_c rfl ?_))) (wkB_c rfl wkB_e) rfl
    · have hb : i = t.slots.length := by simp at hb; omega
      subst hb
      rw [List.take_length]
      try simp only [go_sem, Nat.reduceBEq, Nat.reduceAdd, Nat.reduceLeDiff, Nat.reduceEqDiff, Int.reduceEq, not_false_eq_true, Int.reduceToNat]
      refine aloop (ι := Unit) (fun _ => [(12, .val (.int .i64 0)), (3, .val (.int .i64 (t.heads.length : Nat))), (4, .val (.int .i64 (liveN t.slots : Nat))), (1, .box 1 0)]) (fun _ => [(1, [.bool false, .slice a1 t.heads.length c1, .slice a2 t.slots.length c2, .int .i64 t.next, .int .i64 t.count])])
        (fun _ h' => h6 = h') (fun _ => 0) () rfl (by repeat (first | exact wkF_e | refine wkF_c rfl ?_)) (wkB_c rfl wkB_e) rfl ?_
      rintro _ _ rfl
      simp only [decide_eq_false (show ¬ (0 : Int) < ((t.heads.length : Nat) : Int) by omega), go_sem, Nat.reduceBEq]
      refine ⟨?_, e6⟩
      by_cases hcn : ((liveN t.slots : Nat) : Int) = t.count
      · rw [decide_eq_true hcn, yesTab (wf_packed ht hnx pre hcn.symm q1 (by omega) (by omega) prp)]
      · rw [decide_eq_false hcn, noTab fun w => hcn w.cnt.symm]
end Go.Proofs.YtedfplodobpgfaaGreatDoor
namespace Go.Proofs.YtedfplodobpgfaaGreatDoor
set_option maxRecDepth 8000
open Go Go.Sx
/-- what blockWeight does -/
def Weighed (l : List Bk) (bw cw : Nat) (h0 : Hp) (ws : List Int) (i : Nat) (u : Value) (h' : Hp) : Prop := ∃ (n : Nat) (us : List Int), u = .int .i64 (n : Nat) ∧ Est l i n ∧ us.length = ws.length ∧ wInv l us ∧ wGrow ws us ∧ My h0 h' [(.row 1 (us.flatMap idt), .slice (some ⟨bw, 0, none⟩) l.length cw)]
def WeighI (l : List Bk) (a : Option Addr) (c bw cw : Nat) (h0 : Hp) (z : Nat) : Prop := ∀ (ws : List Int) (i : Nat) (h : Hp), zer ws ≤ z → wInv l ws → wPath l ws i → i < l.length → My h0 h [(.row 1 (ws.flatMap idt), .slice (some ⟨bw, 0, none⟩) l.length cw)] →
  ACalls Tryz.prog 139 #[.agg #[.slice a l.length c], .int .i64 (i : Nat), .slice (some ⟨bw, 0, none⟩) l.length cw] h (Weighed l bw cw h0 ws i)
theorem iWeigh (l : List Bk) (hb : szG Bk.bulk l ≤ 1099511627776) (hin : inR l) (a : Option Addr) (c bw cw : Nat) (h0 : Hp) (r : RdB h0 l (.slice a l.length c)) : ∀ z, WeighI l a c bw cw h0 z := fun z => Nat.strongRecOn z fun z ih ws i h hz wi wp hil m => by
  have hlen := szG_len (w := Bk.bulk) l
  obtain ⟨a1, c1, xs1, e1, hc1, hr1, hat1⟩ := r.rows (by decide) l.length (fm_len Bk.dt_len _)
  cases e1
  obtain ⟨b1, o1, rfl, hat1'⟩ := hat1 (by omega)
  have hwl := wi.len
  obtain ⟨x, hx, _⟩ := get_lt (l := ws) (i := i) (by omega)
  have hlow := wi.low i x hx
  obtain ⟨ys, hry, haty⟩ := m.at_
  have hi1 : i < l.length := hil
  (refine enter Tryz.func139 rfl rfl (by kernel_rfl) [] ?_; simp only [go_sem, Nat.reduceBEq])
  simp only [ix_nat hi1, go_sem, Nat.reduceBEq]
  refine hsem_num tyS3 (haty (by omega)) hry hx (by omega) ?_
  by_cases h0x : x = 0
  case neg =>
    simp only [decide_eq_false h0x, Bool.not_false, ix_nat hi1, go_sem, Nat.reduceBEq]
    refine hsem_num tyS3 (haty (by omega)) hry hx (by omega) ?_
    by_cases hn : x < 0
    · have hx1 : x = -1 := by omega
      subst hx1
      simp only [go_sem, Nat.reduceBEq]
      exact ⟨201, ws, rfl, Est.loop wp hx, rfl, wi, wGrow.refl ws, m⟩
    · simp only [decide_eq_false hn, ix_nat hi1, go_sem, Nat.reduceBEq]
      refine hsem_num tyS3 (haty (by omega)) hry hx (by omega) ?_
      simp only [go_sem, Nat.reduceBEq]
      exact ⟨x.toNat, ws, by rw [show ((x.toNat : Nat) : Int) = x by omega], wi.est i x hx (by omega), rfl, wi, wGrow.refl ws, m⟩
  subst h0x
  have hzs := zer_set (x := -1) hx (by decide)
  simp only [Bool.not_true, ix_nat hi1, go_sem, Nat.reduceBEq]
  obtain ⟨cn, hn, en⟩ := hold_num (es := ws) (b := bw) (cap := cw) (i := i) (by omega)
  rw [hwl] at hn
  obtain ⟨w, hw⟩ := hold_self (es := ws) (i := i) (by omega)
  refine hn.put1 (h0 := h0) (d := .raw (.int .i64 w)) tyS3 rfl rfl (by rw [en, hw]; exact m) (by omega) fun h5 m5 => ?_
  rw [en] at m5
  have hbk := blk_at hil
  have hsb := slots_bulk hbk
  obtain ⟨hsl, hsv⟩ := tab_slots (blk l i).tab
  simp only [ix_nat hi1, go_sem, Nat.reduceBEq, Nat.reduceAdd]
  refine hpure_base m5.ext (hsem_bslots tyS34 hat1' hr1 hbk (by omega) fun u ru => ?_)
  obtain ⟨a2, c2, xs2, rfl, hc2, hr2, hat2⟩ := ru.rows (by decide) (blk l i).tab.slots.length (fm_len Sl.dt_len _)
  simp only [go_sem, Nat.reduceBEq]
  refine aloop (ι := Nat × Nat × List Int) (fun x => [(35, .val (.int .i64 (x.1 : Nat))), (34, .val (.int .i64 ((blk l i).tab.slots.length : Nat))), (33, .val (.slice a2 (blk l i).tab.slots.length c2)), (7, .val (.int .i64 (x.2.1 : Nat))), (2, .val (.slice (some ⟨bw, 0, none⟩) l.length cw)), (1, .val (.int .i64 (i : Nat))), (3, .box 3 0)])
    (fun _ => [(3, [.slice (some ⟨b1, o1, none⟩) l.length c])])
    (fun x h' => x.1 ≤ (blk l i).tab.slots.length ∧ EstS l ((blk l i).tab.slots.take x.1) x.2.1 ∧ x.2.2.length = ws.length ∧ wInv l x.2.2 ∧ wGrow (ws.set i (-1)) x.2.2 ∧ My h0 h' [(.row 1 (x.2.2.flatMap idt), .slice (some ⟨bw, 0, none⟩) l.length cw)]) (fun x => (blk l i).tab.slots.length - x.1) (0, 1, ws.set i (-1))
    ⟨Nat.zero_le _, EstS.nil l, List.length_set, wi.mark, wGrow.refl _, m5⟩ (by repeat (first | exact wkF_e | refine wkF_c rfl ?_)) (wkB_c rfl wkB_e) rfl ?_
  rintro ⟨k, n, us⟩ h6 ⟨hk, es, ul, ui, ug, m6⟩
  have hk : k ≤ (blk l i).tab.slots.length := hk
  have es : EstS l ((blk l i).tab.slots.take k) n := es
  have ul : us.length = ws.length := ul
  have ui : wInv l us := ui
  have ug : wGrow (ws.set i (-1)) us := ug
  have m6 : My h0 h6 [(.row 1 (us.flatMap idt), .slice (some ⟨bw, 0, none⟩) l.length cw)] := m6
  have hn1 := es.pos
  have hn2 := es.cap
  simp only [go_sem, Nat.reduceBEq]
  refine Br.intro (fun hb => ?_) (fun hb => ?_) <;> (try simp only [hb, go_sem, Nat.reduceBEq])
  · have hb : k < (blk l i).tab.slots.length := by simpa using hb
    obtain ⟨b2, o2, rfl, hat2'⟩ := hat2 (by omega)
    obtain ⟨e, he, hm⟩ := get_lt hb
    have wsu := wrap_succ (i := k) (by omega)
    simp only [ix_nat hb, go_sem, Nat.reduceBEq]
    refine hsem_slot tyS134 (hat2'.mono m6.ext) (hr2.mono m6.ext) he rfl fun s2 rd2 => ?_
    obtain ⟨a5, c5, _, rfl, _⟩ := rd2.rows (by decide) e.val.items.length (fm_len edt_len _)
    cases hv : e.live with
    | false =>
      simp only [wsu, Bool.not_false, go_sem, Nat.reduceBEq, Nat.reduceAdd, Nat.reduceLeDiff, Nat.reduceEqDiff]
      exact Again.intro (k + 1, n, us) (by first | omega | (simp only; omega)) ⟨hb, es.skip he hv, ul, ui, ug, m6⟩ (by repeat (first | exact wkF_e | refine wkF_c rfl ?_)) (wkB_c rfl wkB_e) rfl
    | true =>
    simp only [Bool.not_true, go_sem, Nat.reduceBEq, Nat.reduceAdd, Nat.reduceLeDiff]
    by_cases h5 : e.val.kind = 5
    · have hh := hin i _ hbk k e he hv
      obtain ⟨q1, q2, q3⟩ := held_num hh h5
      have hen : e.val.num = ((e.val.num.toNat : Nat) : Int) := by omega
      simp only [decide_eq_true h5, go_sem, Nat.reduceBEq, Nat.reduceAdd, Nat.reduceLeDiff]
      try simp only [go_sem, Nat.reduceBEq, Nat.reduceAdd, Nat.reduceLeDiff, Nat.reduceEqDiff, Int.reduceEq, not_false_eq_true, Int.reduceToNat]
      rw [hen]
      refine (ih (zer (ws.set i (-1))) (by omega) us e.val.num.toNat h6 (zer_grow (by rw [ul, List.length_set]) ug) ui (wp.kid (by omega) hx ug he hv h5 ul) q2 m6).mono ?_
      rintro _ h7 ⟨n2, vs, rfl, est, vl, vi, vg, m7⟩
      have p1 := est.pos
      have p2 := est.cap
      have hws : IntKind.i64.wrap ((n : Int) + (n2 : Int)) = ((n + n2 : Nat) : Int) := by rw [IntWalk.i64_in _ (by omega)]; omega
      simp only [hws, go_sem, Nat.reduceBEq]
      (refine (iMin _ _ _).mono ?_; rintro _ _ ⟨rfl, rfl⟩; simp only [go_sem, Nat.reduceBEq])
      rw [show min (((n + n2 : Nat) : Int)) 201 = ((min (n + n2) 201 : Nat) : Int) by omega]
      simp only [wsu, go_sem]
      exact Again.intro (k + 1, min (n + n2) 201, vs) (by first | omega | (simp only; omega)) ⟨hb, es.kid he hv h5 est, by rw [vl, ul], vi, ug.trans vg, m7⟩ (by repeat (first | exact wkF_e | refine wkF_c rfl ?_)) (wkB_c rfl wkB_e) rfl
    · simp only [decide_eq_false h5, go_sem, Nat.reduceBEq]
      try simp only [go_sem, Nat.reduceBEq, Nat.reduceAdd, Nat.reduceLeDiff, Nat.reduceEqDiff, Int.reduceEq, not_false_eq_true, Int.reduceToNat]
      have hws : IntKind.i64.wrap ((n : Int) + 1) = ((n + 1 : Nat) : Int) := by rw [IntWalk.i64_in _ (by omega)]; omega
      simp only [hws, go_sem]
      (refine (iMin _ _ _).mono ?_; rintro _ _ ⟨rfl, rfl⟩; simp only [go_sem, Nat.reduceBEq])
      rw [show min (((n + 1 : Nat) : Int)) 201 = ((min (n + 1) 201 : Nat) : Int) by omega]
      simp only [wsu, go_sem]
      exact Again.intro (k + 1, min (n + 1) 201, us) (by first | omega | (simp only; omega)) ⟨hb, es.one he hv h5, ul, ui, ug, m6⟩ (by repeat (first | exact wkF_e | refine wkF_c rfl ?_)) (wkB_c rfl wkB_e) rfl
  · have hb : k = (blk l i).tab.slots.length := by simp at hb; omega
    subst hb
    rw [List.take_length] at es
    have est := es.est
    obtain ⟨cn, hn, en⟩ := hold_num (es := us) (b := bw) (cap := cw) (i := i) (by omega)
    rw [show us.length = l.length by omega] at hn
    obtain ⟨w, hw⟩ := hold_self (es := us) (i := i) (by omega)
    simp only [ix_nat hi1, go_sem, Nat.reduceBEq]
    refine hn.put1 (h0 := h0) (d := .raw (.int .i64 w)) tyS3 rfl rfl (by rw [en, hw]; exact m6) (by omega) fun h8 m8 => ?_
    rw [en] at m8
    simp only [go_sem, Nat.reduceBEq]
    exact ⟨n, us.set i (n : Nat), rfl, est, by rw [List.length_set, ul], ui.done est, ug.done hx ul est.pos, m8⟩
theorem bk_neg {l : List Bk} {i : Nat} {b : Bk} (hb : l[i]? = some b) (h : bkOk l b = false) : heapB l = false := noHeap fun k => by
  have := k.blk i b hb
  rw [h] at this
  cases this
/-- the live slots' values are held, so far -/
def preS (l : List Bk) (ss : List Sl) (k : Nat) : Prop := ∀ (j : Nat) (s : Sl), j < k → ss[j]? = some s → s.live = true → isHeld l s.val = true
theorem preS.step {l : List Bk} {ss : List Sl} {k : Nat} {s : Sl} (p : preS l ss k) (hs : ss[k]? = some s) (h : s.live = true → isHeld l s.val = true) : preS l ss (k + 1) := fun j u hj hu hl => by
  by_cases he : j = k
  · subst he
    rw [hs] at hu
    cases hu
    exact h hl
  · exact p j u (by omega) hu hl
/-- the blocks are right, so far -/
def preB (l : List Bk) (i : Nat) : Prop := ∀ (j : Nat) (b : Bk), j < i → l[j]? = some b → bkOk l b = true
theorem preB.step {l : List Bk} {i : Nat} {b : Bk} (p : preB l i) (hb : l[i]? = some b) (h : bkOk l b = true) : preB l (i + 1) := fun j u hj hu => by
  by_cases he : j = i
  · subst he
    rw [hb] at hu
    cases hu
    exact h
  · exact p j u (by omega) hu
theorem preB.inR {l : List Bk} (p : preB l l.length) : inR l ∧ ∀ (i : Nat) (b : Bk), l[i]? = some b → 0 ≤ b.count := by
  refine ⟨fun i b hb k s hs hl => ?_, fun i b hb => ?_⟩
  · have := p i b (lt_of_get hb) hb
    by_cases hc : b.count = 0
    · rw [bkOk_free hc] at this
      rw [free_slots this] at hs
      simp at hs
    · exact ((bkOk_live hc).1 this).2.2 k s hs hl
  · have := p i b (lt_of_get hb) hb
    by_cases hc : b.count = 0
    · omega
    · have := ((bkOk_live hc).1 this).1
      omega
set_option maxHeartbeats 1600000 in
theorem iIsHeap (l : List Bk) (hb : szG Bk.bulk l ≤ 1048576) (s : Value) (h : Hp) (r : RdB h l s) (hE : Env h) : ACalls Tryz.prog 79 #[.agg #[s]] h (Is (.bool (heapB l)) h) := by
  have hlen := szG_len (w := Bk.bulk) l
  obtain ⟨a1, c1, xs1, rfl, hc1, hr1, hat1⟩ := r.rows (by decide) l.length (fm_len Bk.dt_len _)
  (refine enter Tryz.func79 rfl rfl (by kernel_rfl) [] ?_; simp only [go_sem, Nat.reduceBEq])
  refine aloop (ι := Nat) (fun i => [(13, .val (.int .i64 (i : Nat))), (12, .val (.int .i64 (l.length : Nat))), (11, .val (.slice a1 l.length c1)), (1, .box 1 0)]) (fun _ => [(1, [.slice a1 l.length c1])])
    (fun i h' => i ≤ l.length ∧ Ext h h' ∧ preB l i) (fun i => l.length - i) 0 ⟨Nat.zero_le _, Ext.refl _, fun j b hj => by omega⟩ (by repeat (first | exact wkF_e | refine wkF_c rfl ?_)) (wkB_c rfl wkB_e) rfl ?_
  rintro i h1 ⟨hi, e1, pb⟩
  have hi : i ≤ l.length := hi
  have pb : preB l i := pb
  try simp only [go_sem, Nat.reduceBEq]
  refine Br.intro (fun hq => ?_) (fun hq => ?_) <;> (try simp only [hq, go_sem, Nat.reduceBEq])
  · have hq : i < l.length := by simpa using hq
    obtain ⟨b1, o1, rfl, hat1'⟩ := hat1 (by omega)
    obtain ⟨b, hbk, hm⟩ := get_lt hq
    have hsb := slots_bulk hbk
    obtain ⟨hsl, hsv⟩ := tab_slots b.tab
    have wsu := wrap_succ (i := i) (by omega)
    simp only [ix_nat hq, go_sem, Nat.reduceBEq]
    refine hsem_blk tyS107 (hat1'.mono e1) (hr1.mono e1) hbk rfl fun s2 u2 rh ru => ?_
    obtain ⟨a3, c3, xs3, rfl, hc3, hr3, hat3⟩ := rh.rows (by decide) b.tab.heads.length (fm_len idt_len _)
    obtain ⟨a2, c2, xs2, rfl, hc2, hr2, hat2⟩ := ru.rows (by decide) b.tab.slots.length (fm_len Sl.dt_len _)
    by_cases h0 : b.count = 0
    · simp only [decide_eq_true h0, go_sem, Nat.reduceBEq, Nat.reduceAdd, Nat.reduceLeDiff]
      have hF : bkOk l b = b.free := bkOk_free h0
      cases hh : b.tab.hashed with
      | true =>
        simp only [go_sem, Nat.reduceBEq]
        exact ⟨by rw [bk_neg hbk (by rw [hF]; unfold Bk.free; rw [hh]; rfl)], e1⟩
      | false =>
      by_cases q1 : b.tab.heads.length = 0
      case neg =>
        simp only [decide_eq_true (show (0 : Int) < ((b.tab.heads.length : Nat) : Int) by omega), go_sem, Nat.reduceBEq, Nat.reduceAdd]
        exact ⟨by rw [bk_neg hbk (by rw [hF]; unfold Bk.free; rw [hh, decide_eq_false q1]; rfl)], e1⟩
      by_cases q2 : b.tab.slots.length = 0
      case neg =>
        simp only [decide_eq_false (show ¬ (0 : Int) < ((b.tab.heads.length : Nat) : Int) by omega), decide_eq_true (show (0 : Int) < ((b.tab.slots.length : Nat) : Int) by omega), go_sem, Nat.reduceBEq, Nat.reduceAdd]
        exact ⟨by rw [bk_neg hbk (by rw [hF]; unfold Bk.free; rw [hh, decide_eq_true q1, decide_eq_false q2]; rfl)], e1⟩
      by_cases q3 : b.tab.next = 0
      case neg =>
        simp only [decide_eq_false (show ¬ (0 : Int) < ((b.tab.heads.length : Nat) : Int) by omega), decide_eq_false (show ¬ (0 : Int) < ((b.tab.slots.length : Nat) : Int) by omega), decide_eq_false q3, Bool.not_false, go_sem, Nat.reduceBEq, Nat.reduceAdd]
        exact ⟨by rw [bk_neg hbk (by rw [hF]; unfold Bk.free; rw [hh, decide_eq_true q1, decide_eq_true q2, decide_eq_false q3]; rfl)], e1⟩
      by_cases q4 : b.tab.count = 0
      case neg =>
        simp only [decide_eq_false (show ¬ (0 : Int) < ((b.tab.heads.length : Nat) : Int) by omega), decide_eq_false (show ¬ (0 : Int) < ((b.tab.slots.length : Nat) : Int) by omega), decide_eq_true q3, decide_eq_false q4, Bool.not_true, Bool.not_false, go_sem, Nat.reduceBEq, Nat.reduceAdd]
        exact ⟨by rw [bk_neg hbk (by rw [hF]; unfold Bk.free; rw [hh, decide_eq_true q1, decide_eq_true q2, decide_eq_true q3, decide_eq_false q4]; rfl)], e1⟩
      simp only [decide_eq_false (show ¬ (0 : Int) < ((b.tab.heads.length : Nat) : Int) by omega), decide_eq_false (show ¬ (0 : Int) < ((b.tab.slots.length : Nat) : Int) by omega), decide_eq_true q3, decide_eq_true q4, Bool.not_true, wsu, go_sem, Nat.reduceBEq, Nat.reduceAdd, Nat.reduceEqDiff]
      exact Again.intro (i + 1) (by first | omega | (simp only; omega)) ⟨hq, e1, pb.step hbk (by rw [hF]; unfold Bk.free; rw [hh, decide_eq_true q1, decide_eq_true q2, decide_eq_true q3, decide_eq_true q4]; rfl)⟩ (by repeat (first | exact wkF_e | refine wkF_c rfl ?_)) (wkB_c rfl wkB_e) rfl
    have hL := bkOk_live (l := l) h0
    simp only [decide_eq_false h0, go_sem, Nat.reduceBEq, Nat.reduceAdd, Nat.reduceLeDiff]
    (refine (iInRange _ _ _ _).mono ?_; rintro _ _ ⟨rfl, rfl⟩; simp only [go_sem, Nat.reduceBEq])
    by_cases q0 : 1 ≤ b.count ∧ b.count ≤ 1000000000000
    case neg =>
      simp only [decide_eq_false q0, Bool.not_false, go_sem, Nat.reduceBEq]
      exact ⟨by rw [bk_neg hbk (Bool.eq_false_iff.2 fun k => q0 (hL.1 k).1)], e1⟩
    simp only [decide_eq_true q0, Bool.not_true, go_sem, Nat.reduceBEq, Nat.reduceAdd, Nat.reduceLeDiff]
    refine (iIsTable b.tab (by omega) _ _ _ rh ru (hE.ext e1)).mono ?_
    rintro _ h2 ⟨rfl, e12⟩
    have e2 := e1.trans e12
    cases hT : b.tab.isTab with
    | false =>
      try simp only [go_sem, Nat.reduceBEq]
      exact ⟨by rw [bk_neg hbk (Bool.eq_false_iff.2 fun k => by have := (hL.1 k).2.1; rw [hT] at this; cases this)], e2⟩
    | true =>
    try simp only [go_sem, Nat.reduceBEq, Nat.reduceAdd]
    refine aloop (ι := Nat) (fun k => [(63, .val (.int .i64 (k : Nat))), (62, .val (.int .i64 (b.tab.slots.length : Nat))), (61, .val (.slice a2 b.tab.slots.length c2)), (13, .val (.int .i64 (i : Nat))), (12, .val (.int .i64 (l.length : Nat))), (11, .val (.slice (some ⟨b1, o1, none⟩) l.length c1)), (1, .box 1 0)]) (fun _ => [(1, [.slice (some ⟨b1, o1, none⟩) l.length c1])])
      (fun k h' => k ≤ b.tab.slots.length ∧ Ext h1 h' ∧ preS l b.tab.slots k) (fun k => b.tab.slots.length - k) 0 ⟨Nat.zero_le _, e12, fun j b hj => by omega⟩ (by repeat (first | exact wkF_e | refine wkF_c rfl ?_)) (wkB_c rfl wkB_e) rfl ?_
    rintro k h3 ⟨hk, e13, ps⟩
    have hk : k ≤ b.tab.slots.length := hk
    have ps : preS l b.tab.slots k := ps
    have e3 := e1.trans e13
    try simp only [go_sem, Nat.reduceBEq]
    refine Br.intro (fun hkb => ?_) (fun hkb => ?_) <;> (try simp only [hkb, go_sem, Nat.reduceBEq, Nat.reduceEqDiff])
    · have hkb : k < b.tab.slots.length := by simpa using hkb
      obtain ⟨b2, o2, rfl, hat2'⟩ := hat2 (by omega)
      obtain ⟨e, he, hme⟩ := get_lt hkb
      have hve := hsv e hme
      have wsk := wrap_succ (i := k) (by omega)
      simp only [ix_nat hkb, go_sem, Nat.reduceBEq]
      refine hsem_slot tyS134 (hat2'.mono e13) (hr2.mono e13) he rfl fun s3 rd3 => ?_
      obtain ⟨a5, c5, _, rfl, _⟩ := rd3.rows (by decide) e.val.items.length (fm_len edt_len _)
      cases hv : e.live with
      | false =>
        simp only [wsk, go_sem, Nat.reduceBEq, Nat.reduceAdd, Nat.reduceLeDiff]
        exact Again.intro (k + 1) (by first | omega | (simp only; omega)) ⟨hkb, e13, ps.step he fun q => (by rw [hv] at q; cases q)⟩ (by repeat (first | exact wkF_e | refine wkF_c rfl ?_)) (wkB_c rfl wkB_e) rfl
      | true =>
        try simp only [go_sem, Nat.reduceBEq, Nat.reduceAdd, Nat.reduceLeDiff]
        refine (iIsHeld l e.val (by omega) (by omega) _ _ _ (r.mono e3) rd3 (hE.ext e3)).mono ?_
        rintro _ h4 ⟨rfl, e34⟩
        cases hhd : isHeld l e.val with
        | false =>
          try simp only [go_sem, Nat.reduceBEq]
          exact ⟨by rw [bk_neg hbk (Bool.eq_false_iff.2 fun q => by have := (hL.1 q).2.2 k e he hv; rw [hhd] at this; cases this)], e3.trans e34⟩
        | true =>
          simp only [wsk, go_sem, Nat.reduceBEq]
          exact Again.intro (k + 1) (by first | omega | (simp only; omega)) ⟨hkb, e13.trans e34, ps.step he fun _ => hhd⟩ (by repeat (first | exact wkF_e | refine wkF_c rfl ?_)) (wkB_c rfl wkB_e) rfl
    · have hkb : k = b.tab.slots.length := by simp at hkb; omega
      subst hkb
      simp only [wsu, go_sem]
      exact Again.intro (i + 1) (by first | omega | (simp only; omega)) ⟨hq, e3, pb.step hbk (hL.2 ⟨q0, hT, fun k s hs hl => ps k s (lt_of_get hs) hs hl⟩)⟩ (by repeat (first | exact wkF_e | refine wkF_c rfl ?_)) (wkB_c rfl wkB_e) rfl
  · have hq : i = l.length := by simp at hq; omega
    subst hq
    obtain ⟨hin, hcz⟩ := pb.inR
    try simp only [go_sem, Nat.reduceBEq, Nat.reduceAdd, Nat.reduceLeDiff, Nat.reduceEqDiff, Int.reduceEq, not_false_eq_true, Int.reduceToNat]
    refine hsem_my_make slT22 (by decide) rfl rfl (by omega) (by decide) (My.nil (Ext.refl h1)) fun bo h2 m2 => ?_
    have m2 : My h1 h2 [(.row 1 (zeros [.int .i64 0] l.length), .slice (some ⟨bo, 0, none⟩) l.length l.length)] := m2
    rw [zeros_int] at m2
    try simp only [go_sem, Nat.reduceBEq]
    refine aloop (ι := Nat × List Int) (fun x => [(85, .val (.int .i64 (x.1 : Nat))), (84, .val (.int .i64 (l.length : Nat))), (83, .val (.slice a1 l.length c1)), (7, .val (.slice (some ⟨bo, 0, none⟩) l.length l.length)), (1, .box 1 0)]) (fun _ => [(1, [.slice a1 l.length c1])])
      (fun x h' => x.1 ≤ l.length ∧ wInv l x.2 ∧ nNeg x.2 ∧ (∀ j : Nat, j < x.1 → 0 < (blk l j).count → ∃ n, n ≤ 200 ∧ Wt l j n) ∧ My h1 h' [(.row 1 (x.2.flatMap idt), .slice (some ⟨bo, 0, none⟩) l.length l.length)]) (fun x => l.length - x.1) (0, List.replicate l.length 0)
      ⟨Nat.zero_le _, (wInv.zero l).1, (wInv.zero l).2, fun j hj => by omega, m2⟩ (by repeat (first | exact wkF_e | refine wkF_c rfl ?_)) (wkB_c rfl wkB_e) rfl ?_
    rintro ⟨i, ws⟩ h3 ⟨hi, wi, wn, wl, m3⟩
    have hi : i ≤ l.length := hi
    have wi : wInv l ws := wi
    have wn : nNeg ws := wn
    have wl : ∀ j : Nat, j < i → 0 < (blk l j).count → ∃ n, n ≤ 200 ∧ Wt l j n := wl
    have m3 : My h1 h3 [(.row 1 (ws.flatMap idt), .slice (some ⟨bo, 0, none⟩) l.length l.length)] := m3
    have e3 := e1.trans m3.ext
    try simp only [go_sem, Nat.reduceBEq]
    refine Br.intro (fun hq => ?_) (fun hq => ?_) <;> (try simp only [hq, go_sem, Nat.reduceBEq])
    · have hq : i < l.length := by simpa using hq
      have wsu := wrap_succ (i := i) (by omega)
      obtain ⟨b1, o1, rfl, hat1'⟩ := hat1 (by omega)
      have hbk := blk_at hq
      simp only [ix_nat hq, go_sem, Nat.reduceBEq]
      refine hsem_blk tyS107 (hat1'.mono e3) (hr1.mono e3) hbk rfl fun s2 u2 rh ru => ?_
      obtain ⟨a3, c3, xs3, rfl, hc3, hr3, hat3⟩ := rh.rows (by decide) (blk l i).tab.heads.length (fm_len idt_len _)
      obtain ⟨a2, c2, xs2, rfl, hc2, hr2, hat2⟩ := ru.rows (by decide) (blk l i).tab.slots.length (fm_len Sl.dt_len _)
      by_cases hc : 0 < (blk l i).count
      · simp only [decide_eq_true hc, go_sem, Nat.reduceBEq, Nat.reduceAdd, Nat.reduceLeDiff]
        try simp only [go_sem, Nat.reduceBEq, Nat.reduceAdd, Nat.reduceLeDiff, Nat.reduceEqDiff, Int.reduceEq, not_false_eq_true, Int.reduceToNat]
        refine (iWeigh l (by omega) hin (some ⟨b1, o1, none⟩) c1 bo l.length h1 (r.mono e1) _ ws i h3 (Nat.le_refl _) wi (wn.path i) hq m3).mono ?_
        rintro _ h4 ⟨n, us, rfl, est, ul, ui, ug, m4⟩
        by_cases hbig : n ≤ 200
        · simp only [decide_eq_false (show ¬ (200 : Int) < ((n : Nat) : Int) by omega), wsu, go_sem, Nat.reduceBEq]
          refine Again.intro (i + 1, us) (by first | omega | (simp only; omega)) ⟨hq, ui, wn.grow ul ug, fun j hj hcj => ?_, m4⟩ (by repeat (first | exact wkF_e | refine wkF_c rfl ?_)) (wkB_c rfl wkB_e) rfl
          by_cases he : j = i
          · subst he
            exact ⟨n, hbig, est.is hbig⟩
          · exact wl j (by omega) hcj
        · simp only [decide_eq_true (show (200 : Int) < ((n : Nat) : Int) by omega), go_sem, Nat.reduceBEq]
          refine ⟨?_, e1.trans m4.ext⟩
          rw [noHeap fun k => ?_]
          obtain ⟨m, hm, hw⟩ := k.light i _ hbk hc
          have h1 := est.cap
          have := est.big (by omega) m hw
          omega
      · simp only [decide_eq_false hc, wsu, go_sem, Nat.reduceBEq, Nat.reduceAdd, Nat.reduceLeDiff]
        refine Again.intro (i + 1, ws) (by first | omega | (simp only; omega)) ⟨hq, wi, wn, fun j hj hcj => ?_, m3⟩ (by repeat (first | exact wkF_e | refine wkF_c rfl ?_)) (wkB_c rfl wkB_e) rfl
        by_cases he : j = i
        · subst he
          exact absurd hcj hc
        · exact wl j (by omega) hcj
    · have hq : i = l.length := by simp at hq; omega
      subst hq
      try simp only [go_sem, Nat.reduceBEq, Nat.reduceAdd, Nat.reduceLeDiff, Nat.reduceEqDiff, Int.reduceEq, not_false_eq_true, Int.reduceToNat]
      refine ⟨?_, e3⟩
      rw [heapB_iff.2 ⟨fun i b hb => pb i b (lt_of_get hb) hb, fun i b hb hc => wl i (lt_of_get hb) (by rw [blk_get hb]; exact hc)⟩]
theorem sFree (_ : List Bk) (b : Bk) (s u : Value) (h : Hp) (r1 : RdI h b.tab.heads s) (r2 : RdT h b.tab.slots u) (h0 : b.count = 0) : ACalls Tryz.prog 136 #[.agg #[.int .i64 b.count, .bool b.tab.hashed, s, u, .int .i64 b.tab.next, .int .i64 b.tab.count]] h (Pu (.bool b.free) h) := by
  obtain ⟨a1, c1, xs1, rfl, hc1, hr1, hat1⟩ := r1.rows (by decide) b.tab.heads.length (fm_len idt_len _)
  obtain ⟨a2, c2, xs2, rfl, hc2, hr2, hat2⟩ := r2.rows (by decide) b.tab.slots.length (fm_len Sl.dt_len _)
  (refine enter Tryz.func136 rfl rfl (by kernel_rfl) [] ?_; simp only [go_sem, Nat.reduceBEq, Nat.reduceAdd, Nat.reduceLeDiff])
  unfold Bk.free
  cases hh : b.tab.hashed with
  | true =>
    simp only [decide_eq_true h0, Bool.not_true, Bool.false_and, go_sem, Nat.reduceBEq]
    exact ⟨rfl, rfl⟩
  | false =>
  by_cases q1 : b.tab.heads.length = 0
  case neg =>
    simp only [decide_eq_true h0, Bool.not_false, Bool.true_and, Bool.false_and, decide_eq_false q1, decide_eq_false (show ¬ ((b.tab.heads.length : Nat) : Int) = 0 by omega), go_sem, Nat.reduceBEq]
    exact ⟨rfl, rfl⟩
  by_cases q2 : b.tab.slots.length = 0
  case neg =>
    simp only [decide_eq_true h0, Bool.not_false, Bool.true_and, Bool.false_and, decide_eq_true q1, decide_eq_true (show ((b.tab.heads.length : Nat) : Int) = 0 by omega), decide_eq_false q2, decide_eq_false (show ¬ ((b.tab.slots.length : Nat) : Int) = 0 by omega), go_sem, Nat.reduceBEq]
    exact ⟨rfl, rfl⟩
  by_cases q3 : b.tab.next = 0
  case neg =>
    simp only [decide_eq_true h0, Bool.not_false, Bool.true_and, Bool.false_and, decide_eq_true q1, decide_eq_true (show ((b.tab.heads.length : Nat) : Int) = 0 by omega), decide_eq_true q2, decide_eq_true (show ((b.tab.slots.length : Nat) : Int) = 0 by omega), decide_eq_false q3, go_sem, Nat.reduceBEq]
    exact ⟨rfl, rfl⟩
  simp only [decide_eq_true h0, Bool.not_false, Bool.true_and, decide_eq_true q1, decide_eq_true (show ((b.tab.heads.length : Nat) : Int) = 0 by omega), decide_eq_true q2, decide_eq_true (show ((b.tab.slots.length : Nat) : Int) = 0 by omega), decide_eq_true q3, go_sem, Nat.reduceBEq]
  exact ⟨rfl, rfl⟩
/-- what is known of a block whose slots are summed up -/
def preW (l : List Bk) (w : List Int) (ss : List Sl) (k n : Nat) : Prop := (1 ≤ n ∧ SumR l (ss.take k) (n - 1)) ∨ (n = 0 ∧ ∃ (j : Nat) (s : Sl), ss[j]? = some s ∧ s.live = true ∧ s.val.kind = 5 ∧ w.getD s.val.num.toNat 0 = 0)
set_option maxHeartbeats 1600000 in
theorem sLight (l : List Bk) (hb : szG Bk.bulk l ≤ 1048576) (hin : inR l) (hcz : ∀ (i : Nat) (b : Bk), l[i]? = some b → 0 ≤ b.count) (s : Value) (h : Hp) (r : RdB h l s) : ACalls Tryz.prog 137 #[.agg #[s]] h (Is (.bool (lightB l)) h) := by
  have hlen := szG_len (w := Bk.bulk) l
  obtain ⟨a1, c1, xs1, rfl, hc1, hr1, hat1⟩ := r.rows (by decide) l.length (fm_len Bk.dt_len _)
  (refine enter Tryz.func137 rfl rfl (by kernel_rfl) [] ?_; simp only [go_sem, Nat.reduceBEq])
  refine hsem_my_make slT22 (by decide) rfl rfl (by omega) (by decide) (My.nil (Ext.refl h)) fun bo h2 m2 => ?_
  have m2 : My h h2 [(.row 1 (zeros [.int .i64 0] l.length), .slice (some ⟨bo, 0, none⟩) l.length l.length)] := m2
  rw [zeros_int] at m2
  try simp only [go_sem, Nat.reduceBEq]
  refine aloop (ι := Nat) (fun i => [(5, .val (.int .i64 (i : Nat))), (4, .val (.int .i64 (leftN l (List.replicate l.length 0) i : Nat))), (3, .val (.slice (some ⟨bo, 0, none⟩) l.length l.length)), (1, .box 1 0)]) (fun _ => [(1, [.slice a1 l.length c1])])
    (fun i h' => i ≤ l.length ∧ h' = h2) (fun i => l.length - i) 0 ⟨Nat.zero_le _, rfl⟩ (by repeat (first | exact wkF_e | refine wkF_c rfl ?_)) (wkB_c rfl wkB_e) rfl ?_
  rintro i _ ⟨hi, rfl⟩
  have hi : i ≤ l.length := hi
  have hll := leftN_le l (List.replicate l.length 0) i
  try simp only [go_sem, Nat.reduceBEq]
  refine Br.intro (fun hq => ?_) (fun hq => ?_) <;> (try simp only [hq, go_sem, Nat.reduceBEq])
  · have hq : i < l.length := by simpa using hq
    obtain ⟨b1, o1, rfl, hat1'⟩ := hat1 (by omega)
    have hbk := blk_at hq
    have wsu := wrap_succ (i := i) (by omega)
    simp only [ix_nat hq, go_sem, Nat.reduceBEq]
    refine hsem_bcnt tyS3 (hat1'.mono m2.ext) (hr1.mono m2.ext) hbk rfl ?_
    have hw := wrap_succ (i := leftN l (List.replicate l.length 0) i) (by omega)
    by_cases hc : 0 < (blk l i).count
    · have el : leftN l (List.replicate l.length 0) (i + 1) = leftN l (List.replicate l.length 0) i + 1 := by rw [leftN, if_pos ⟨hc, repl_getD _ _⟩]
      simp only [decide_eq_true hc, hw, wsu, go_sem, Nat.reduceBEq]
      exact Again.intro (i + 1) (by first | omega | (simp only; omega)) ⟨hq, rfl⟩ (by rw [el]; exact (by repeat (first | exact wkF_e | refine wkF_c rfl ?_))) (wkB_c rfl wkB_e) rfl
    · have el : leftN l (List.replicate l.length 0) (i + 1) = leftN l (List.replicate l.length 0) i := by rw [leftN, if_neg fun q => hc q.1, Nat.add_zero]
      simp only [decide_eq_false hc, wsu, go_sem, Nat.reduceBEq]
      exact Again.intro (i + 1) (by first | omega | (simp only; omega)) ⟨hq, rfl⟩ (by rw [el]; exact (by repeat (first | exact wkF_e | refine wkF_c rfl ?_))) (wkB_c rfl wkB_e) rfl
  have hq : i = l.length := by simp at hq; omega
  subst hq
  try simp only [go_sem, Nat.reduceBEq, Nat.reduceAdd, Nat.reduceLeDiff, Nat.reduceEqDiff, Int.reduceEq, not_false_eq_true, Int.reduceToNat]
  refine aloop (ι := Nat × List Int) (fun x => [(6, .val (.int .i64 (x.1 : Nat))), (4, .val (.int .i64 (leftN l x.2 l.length : Nat))), (3, .val (.slice (some ⟨bo, 0, none⟩) l.length l.length)), (1, .box 1 0)]) (fun _ => [(1, [.slice a1 l.length c1])])
    (fun x h' => x.1 ≤ 201 ∧ rInv l x.2 x.1 0 ∧ My h h' [(.row 1 (x.2.flatMap idt), .slice (some ⟨bo, 0, none⟩) l.length l.length)]) (fun x => 201 - x.1) (0, List.replicate l.length 0)
    ⟨Nat.zero_le _, rInv.zero l, m2⟩ (by repeat (first | exact wkF_e | refine wkF_c rfl ?_)) (wkB_c rfl wkB_e) rfl ?_
  rintro ⟨rd, w⟩ h3 ⟨hrd, ri, m3⟩
  have hrd : rd ≤ 201 := hrd
  have ri : rInv l w rd 0 := ri
  have m3 : My h h3 [(.row 1 (w.flatMap idt), .slice (some ⟨bo, 0, none⟩) l.length l.length)] := m3
  have hlw := leftN_le l w l.length
  try simp only [go_sem, Nat.reduceBEq]
  by_cases hr : rd ≤ 200
  case neg =>
    have : rd = 201 := by omega
    subst this
    simp only [decide_eq_false (show ¬ (((201 : Nat) : Nat) : Int) ≤ 200 by omega), go_sem, Nat.reduceBEq]
    refine ⟨?_, m3.ext⟩
    by_cases hz : leftN l w l.length = 0
    · rw [lightB_iff.2 (ri.light hz), decide_eq_true (show ((leftN l w l.length : Nat) : Int) = 0 by omega)]
    · rw [decide_eq_false (show ¬ ((leftN l w l.length : Nat) : Int) = 0 by omega), Bool.eq_false_iff.2 fun k => ri.stop hz (lightB_iff.1 k)]
  by_cases hz : leftN l w l.length = 0
  · simp only [decide_eq_true (show ((rd : Nat) : Int) ≤ 200 by omega), decide_eq_false (show ¬ (0 : Int) < ((leftN l w l.length : Nat) : Int) by omega), go_sem, Nat.reduceBEq]
    refine ⟨?_, m3.ext⟩
    rw [lightB_iff.2 (ri.light hz), decide_eq_true (show ((leftN l w l.length : Nat) : Int) = 0 by omega)]
  simp only [decide_eq_true (show ((rd : Nat) : Int) ≤ 200 by omega), decide_eq_true (show (0 : Int) < ((leftN l w l.length : Nat) : Int) by omega), go_sem, Nat.reduceBEq]
  refine aloop (ι := Nat × List Int) (fun x => [(7, .val (.int .i64 (x.1 : Nat))), (6, .val (.int .i64 (rd : Nat))), (4, .val (.int .i64 (leftN l x.2 l.length : Nat))), (3, .val (.slice (some ⟨bo, 0, none⟩) l.length l.length)), (1, .box 1 0)]) (fun _ => [(1, [.slice a1 l.length c1])])
    (fun x h' => x.1 ≤ l.length ∧ rInv l x.2 rd x.1 ∧ My h h' [(.row 1 (x.2.flatMap idt), .slice (some ⟨bo, 0, none⟩) l.length l.length)]) (fun x => l.length - x.1) (0, w)
    ⟨Nat.zero_le _, ri, m3⟩ (by repeat (first | exact wkF_e | refine wkF_c rfl ?_)) (wkB_c rfl wkB_e) rfl ?_
  rintro ⟨i, w⟩ h3 ⟨hi, ri, m3⟩
  have hi : i ≤ l.length := hi
  have ri : rInv l w rd i := ri
  have m3 : My h h3 [(.row 1 (w.flatMap idt), .slice (some ⟨bo, 0, none⟩) l.length l.length)] := m3
  have hlw := leftN_le l w l.length
  have wlen := ri.len
  try simp only [go_sem, Nat.reduceBEq]
  refine Br.intro (fun hq => ?_) (fun hq => ?_) <;> (try simp only [hq, go_sem, Nat.reduceBEq, Nat.reduceEqDiff])
  · have hq : i < l.length := by simpa using hq
    obtain ⟨b1, o1, rfl, hat1'⟩ := hat1 (by omega)
    have hbk := blk_at hq
    have hcb := hcz i _ hbk
    have hsb := slots_bulk hbk
    obtain ⟨hsl, hsv⟩ := tab_slots (blk l i).tab
    have wsu := wrap_succ (i := i) (by omega)
    obtain ⟨ys, hry, haty⟩ := m3.at_
    have hwi : w[i]? = some (w.getD i 0) := getD_at (by omega)
    simp only [ix_nat hq, go_sem, Nat.reduceBEq]
    refine hsem_bcnt tyS3 (hat1'.mono m3.ext) (hr1.mono m3.ext) hbk rfl ?_
    by_cases hc : (blk l i).count = 0
    · simp only [decide_eq_true hc, wsu, go_sem, Nat.reduceBEq, Nat.reduceEqDiff]
      exact Again.intro (i + 1, w) (by first | omega | (simp only; omega)) ⟨hq, ri.skip (.inl (by omega)), m3⟩ (by repeat (first | exact wkF_e | refine wkF_c rfl ?_)) (wkB_c rfl wkB_e) rfl
    simp only [decide_eq_false hc, ix_nat hq, go_sem, Nat.reduceBEq]
    refine hsem_num tyS3 (haty (by omega)) hry hwi (by omega) ?_
    by_cases hw0 : 0 < w.getD i 0
    · simp only [decide_eq_true hw0, wsu, go_sem, Nat.reduceBEq, Nat.reduceEqDiff]
      exact Again.intro (i + 1, w) (by first | omega | (simp only; omega)) ⟨hq, ri.skip (.inr (by omega)), m3⟩ (by repeat (first | exact wkF_e | refine wkF_c rfl ?_)) (wkB_c rfl wkB_e) rfl
    have hwz : w.getD i 0 = 0 := by
      by_cases hx : w.getD i 0 = 0
      · exact hx
      · have := ri.wt i _ hwi hx
        omega
    simp only [decide_eq_false hw0, ix_nat hq, go_sem, Nat.reduceBEq, Nat.reduceAdd]
    refine hpure_base m3.ext (hsem_bslots tyS34 hat1' hr1 hbk (by omega) fun u ru => ?_)
    obtain ⟨a2, c2, xs2, rfl, hc2, hr2, hat2⟩ := ru.rows (by decide) (blk l i).tab.slots.length (fm_len Sl.dt_len _)
    simp only [go_sem, Nat.reduceBEq]
    refine aloop (ι := Nat × Nat) (fun x => [(10, .val (.int .i64 (x.1 : Nat))), (9, .val (.slice a2 (blk l i).tab.slots.length c2)), (8, .val (.int .i64 (x.2 : Nat))), (7, .val (.int .i64 (i : Nat))), (6, .val (.int .i64 (rd : Nat))), (4, .val (.int .i64 (leftN l w l.length : Nat))), (3, .val (.slice (some ⟨bo, 0, none⟩) l.length l.length)), (1, .box 1 0)]) (fun _ => [(1, [.slice (some ⟨b1, o1, none⟩) l.length c1])])
      (fun x h' => x.1 ≤ (blk l i).tab.slots.length ∧ x.2 ≤ 1 + 200 * x.1 ∧ preW l w (blk l i).tab.slots x.1 x.2 ∧ h3 = h') (fun x => (blk l i).tab.slots.length - x.1) (0, 1)
      ⟨Nat.zero_le _, by simp, .inl ⟨Nat.le_refl _, SumR.nil l⟩, rfl⟩ (by repeat (first | exact wkF_e | refine wkF_c rfl ?_)) (wkB_c rfl wkB_e) rfl ?_
    rintro ⟨k, n⟩ _ ⟨hk, hn, pw, rfl⟩
    have hk : k ≤ (blk l i).tab.slots.length := hk
    have hn : n ≤ 1 + 200 * k := hn
    have pw : preW l w (blk l i).tab.slots k n := pw
    try simp only [go_sem, Nat.reduceBEq]
    by_cases hkb : k < (blk l i).tab.slots.length ∧ 0 < n
    · obtain ⟨hkb, hn0⟩ := hkb
      obtain ⟨hn1, hsum⟩ : 1 ≤ n ∧ SumR l ((blk l i).tab.slots.take k) (n - 1) := by
        rcases pw with q | q
        · exact q
        · omega
      obtain ⟨b2, o2, rfl, hat2'⟩ := hat2 (by omega)
      obtain ⟨e, he, hme⟩ := get_lt hkb
      have wsk := wrap_succ (i := k) (by omega)
      simp only [decide_eq_true (show ((k : Nat) : Int) < (((blk l i).tab.slots.length : Nat) : Int) by omega), decide_eq_true (show (0 : Int) < ((n : Nat) : Int) by omega), ix_nat hkb, go_sem, Nat.reduceBEq, Nat.reduceAdd]
      refine hsem_slive tyS4 (hat2'.mono m3.ext) (hr2.mono m3.ext) he rfl ?_
      cases hv : e.live with
      | false =>
        simp only [wsk, go_sem, Nat.reduceBEq]
        refine Again.intro (k + 1, n) (by first | omega | (simp only; omega)) ⟨hkb, by show n ≤ 1 + 200 * (k + 1); omega, .inl ⟨hn1, ?_⟩, rfl⟩ (by repeat (first | exact wkF_e | refine wkF_c rfl ?_)) (wkB_c rfl wkB_e) rfl
        rw [take_snoc he]
        exact SumR.append.2 ⟨n - 1, 0, hsum, SumR.one.2 (.inl ⟨hv, rfl⟩), rfl⟩
      | true =>
      simp only [ix_nat hkb, go_sem, Nat.reduceBEq, Nat.reduceAdd]
      refine hsem_skind tyS3 (hat2'.mono m3.ext) (hr2.mono m3.ext) he (by omega) ?_
      by_cases h5 : e.val.kind = 5
      case neg =>
        have hw1 := wrap_succ (i := n) (by omega)
        simp only [decide_eq_false h5, Bool.not_false, hw1, wsk, go_sem, Nat.reduceBEq]
        refine Again.intro (k + 1, n + 1) (by first | omega | (simp only; omega)) ⟨hkb, by show n + 1 ≤ 1 + 200 * (k + 1); omega, .inl ⟨by omega, ?_⟩, rfl⟩ (by repeat (first | exact wkF_e | refine wkF_c rfl ?_)) (wkB_c rfl wkB_e) rfl
        rw [take_snoc he]
        exact SumR.append.2 ⟨n - 1, 1, hsum, SumR.one.2 (.inr (.inr ⟨hv, h5, rfl⟩)), by show n + 1 - 1 = _; omega⟩
      have hh := hin i _ hbk k e he hv
      obtain ⟨q1, q2, q3⟩ := held_num hh h5
      have hwk : w[e.val.num.toNat]? = some (w.getD e.val.num.toNat 0) := getD_at (by omega)
      simp only [decide_eq_true h5, Bool.not_true, ix_nat hkb, go_sem, Nat.reduceBEq, Nat.reduceAdd]
      refine hsem_snum tyS3 (hat2'.mono m3.ext) (hr2.mono m3.ext) he (by omega) ?_
      simp only [ix_int q1 q2, go_sem, Nat.reduceBEq]
      refine hsem_num tyS3 (haty (by omega)) hry hwk (by omega) ?_
      by_cases hkz : w.getD e.val.num.toNat 0 = 0
      · simp only [decide_eq_true hkz, wsk, go_sem, Nat.reduceBEq]
        exact Again.intro (k + 1, 0) (by first | omega | (simp only; omega)) ⟨hkb, Nat.zero_le _, .inr ⟨rfl, k, e, he, hv, h5, hkz⟩, rfl⟩ (by repeat (first | exact wkF_e | refine wkF_c rfl ?_)) (wkB_c rfl wkB_e) rfl
      · obtain ⟨m, hm, m1, m2', hwt⟩ := ri.kid hh h5 hkz
        rw [hwk] at hm
        have hm := Option.some.inj hm
        simp only [decide_eq_false hkz, ix_nat hkb, go_sem, Nat.reduceBEq, Nat.reduceAdd]
        refine hsem_snum tyS3 (hat2'.mono m3.ext) (hr2.mono m3.ext) he (by omega) ?_
        simp only [ix_int q1 q2, go_sem, Nat.reduceBEq]
        refine hsem_num tyS3 (haty (by omega)) hry hwk (by omega) ?_
        rw [hm]
        have hws : IntKind.i64.wrap ((n : Int) + (m : Int)) = ((n + m : Nat) : Int) := by rw [IntWalk.i64_in _ (by omega)]; omega
        simp only [hws, wsk, go_sem, Nat.reduceBEq]
        refine Again.intro (k + 1, n + m) (by first | omega | (simp only; omega)) ⟨hkb, by show n + m ≤ 1 + 200 * (k + 1); omega, .inl ⟨by omega, ?_⟩, rfl⟩ (by repeat (first | exact wkF_e | refine wkF_c rfl ?_)) (wkB_c rfl wkB_e) rfl
        rw [take_snoc he]
        exact SumR.append.2 ⟨n - 1, m, hsum, SumR.one.2 (.inr (.inl ⟨hv, h5, hwt⟩)), by show n + m - 1 = _; omega⟩
    · have fin : (1 ≤ n ∧ Wt l i n) ∨ (n = 0 ∧ rInv l w rd (i + 1)) := by
        rcases pw with q | q
        · have hkk : k = (blk l i).tab.slots.length := by omega
          subst hkk
          rw [List.take_length] at q
          exact .inl ⟨q.1, Wt.iff.2 ⟨n - 1, q.2, by omega⟩⟩
        · obtain ⟨h0, j, s, hs, hl, h5, hz⟩ := q
          exact .inr ⟨h0, ri.wait hs hl h5 (hin i _ hbk j s hs hl) hz⟩
      have go : ∀ (X : Prop), (∀ (b : Bool), (b = false) → X) → X := fun X f => f false rfl
      by_cases hkl : k < (blk l i).tab.slots.length
      · have hn0 : n = 0 := by omega
        subst hn0
        simp only [decide_eq_true (show ((k : Nat) : Int) < (((blk l i).tab.slots.length : Nat) : Int) by omega), decide_eq_false (show ¬ (0 : Int) < ((0 : Nat) : Int) by omega), decide_eq_false (show ¬ (200 : Int) < ((0 : Nat) : Int) by omega), wsu, go_sem, Nat.reduceBEq, Nat.reduceEqDiff]
        rcases fin with q | q
        · omega
        · exact Again.intro (i + 1, w) (by first | omega | (simp only; omega)) ⟨hq, q.2, m3⟩ (by repeat (first | exact wkF_e | refine wkF_c rfl ?_)) (wkB_c rfl wkB_e) rfl
      · simp only [decide_eq_false (show ¬ ((k : Nat) : Int) < (((blk l i).tab.slots.length : Nat) : Int) by omega), go_sem, Nat.reduceBEq, Nat.reduceEqDiff]
        by_cases hbig : 200 < n
        · simp only [decide_eq_true (show (200 : Int) < ((n : Nat) : Int) by omega), go_sem, Nat.reduceBEq]
          refine ⟨?_, m3.ext⟩
          rcases fin with q | q
          · have hno : lightB l = false := Bool.eq_false_iff.2 fun kk => by
              obtain ⟨m, hm, hw⟩ := lightB_iff.1 kk i _ hbk (by omega)
              have := hw.uniq q.2
              omega
            rw [hno]
          · omega
        simp only [decide_eq_false (show ¬ (200 : Int) < ((n : Nat) : Int) by omega), go_sem, Nat.reduceBEq]
        rcases fin with q | q
        · have hls := leftN_set (w := w) (i := i) (x := (n : Nat)) (l := l) (by omega) (by omega) hwz (by omega) l.length
          rw [if_pos hq] at hls
          have hwl : IntKind.i64.wrap (((leftN l w l.length : Nat) : Int) - 1) = ((leftN l (w.set i (n : Nat)) l.length : Nat) : Int) := by rw [IntWalk.i64_in _ (by omega)]; omega
          obtain ⟨cn, hn', en⟩ := hold_num (es := w) (b := bo) (cap := l.length) (i := i) (by omega)
          rw [wlen] at hn'
          obtain ⟨x, hx⟩ := hold_self (es := w) (i := i) (by omega)
          simp only [decide_eq_true (show (0 : Int) < ((n : Nat) : Int) by omega), ix_nat hq, go_sem, Nat.reduceBEq]
          refine hn'.put1 (h0 := h) (d := .raw (.int .i64 x)) tyS3 rfl rfl (by rw [en, hx]; exact m3) (by omega) fun h5 m5 => ?_
          rw [en] at m5
          simp only [hwl, wsu, go_sem, Nat.reduceBEq]
          exact Again.intro (i + 1, w.set i (n : Nat)) (by first | omega | (simp only; omega)) ⟨hq, ri.put hq (by omega) hwz q.2 q.1 (by omega), m5⟩ (by repeat (first | exact wkF_e | refine wkF_c rfl ?_)) (wkB_c rfl wkB_e) rfl
        · obtain ⟨hn0, q⟩ := q
          subst hn0
          simp only [decide_eq_false (show ¬ (0 : Int) < ((0 : Nat) : Int) by omega), wsu, go_sem, Nat.reduceBEq]
          exact Again.intro (i + 1, w) (by first | omega | (simp only; omega)) ⟨hq, q, m3⟩ (by repeat (first | exact wkF_e | refine wkF_c rfl ?_)) (wkB_c rfl wkB_e) rfl
  · have hq : i = l.length := by simp at hq; omega
    subst hq
    have wsr := wrap_succ (i := rd) (by omega)
    simp only [wsr, go_sem]
    exact Again.intro (rd + 1, w) (by first | omega | (simp only; omega)) ⟨by show rd + 1 ≤ 201; omega, ri.next, m3⟩ (by repeat (first | exact wkF_e | refine wkF_c rfl ?_)) (wkB_c rfl wkB_e) rfl
theorem bk_negS {l : List Bk} {i : Nat} {b : Bk} (hb : l[i]? = some b) (h : bkOk l b = false) : heapB l = false := noHeap fun k => by
  have := k.blk i b hb
  rw [h] at this
  cases this
set_option maxHeartbeats 1600000 in
theorem sIsHeap (l : List Bk) (hb : szG Bk.bulk l ≤ 1048576) (s : Value) (h : Hp) (r : RdB h l s) : ACalls Tryz.prog 77 #[.agg #[s]] h (Is (.bool (heapB l)) h) := by
  have hlen := szG_len (w := Bk.bulk) l
  obtain ⟨a1, c1, xs1, rfl, hc1, hr1, hat1⟩ := r.rows (by decide) l.length (fm_len Bk.dt_len _)
  (refine enter Tryz.func77 rfl rfl (by kernel_rfl) [] ?_; simp only [go_sem, Nat.reduceBEq])
  refine aloop (ι := Nat) (fun i => [(3, .val (.int .i64 (i : Nat))), (1, .box 1 0)]) (fun _ => [(1, [.slice a1 l.length c1])])
    (fun i h' => i ≤ l.length ∧ Ext h h' ∧ preB l i) (fun i => l.length - i) 0 ⟨Nat.zero_le _, Ext.refl _, fun j b hj => by omega⟩ (by repeat (first | exact wkF_e | refine wkF_c rfl ?_)) (wkB_c rfl wkB_e) rfl ?_
  rintro i h1 ⟨hi, e1, pb⟩
  have hi : i ≤ l.length := hi
  have pb : preB l i := pb
  try simp only [go_sem, Nat.reduceBEq]
  refine Br.intro (fun hq => ?_) (fun hq => ?_) <;> (try simp only [hq, go_sem, Nat.reduceBEq, Nat.reduceLeDiff])
  · have hq : i < l.length := by simpa using hq
    obtain ⟨b1, o1, rfl, hat1'⟩ := hat1 (by omega)
    obtain ⟨b, hbk, hm⟩ := get_lt hq
    have hsb := slots_bulk hbk
    obtain ⟨hsl, hsv⟩ := tab_slots b.tab
    have wsu := wrap_succ (i := i) (by omega)
    simp only [ix_nat hq, go_sem, Nat.reduceBEq]
    refine hsem_blk tyS107 (hat1'.mono e1) (hr1.mono e1) hbk rfl fun s2 u2 rh ru => ?_
    obtain ⟨a3, c3, xs3, rfl, hc3, hr3, hat3⟩ := rh.rows (by decide) b.tab.heads.length (fm_len idt_len _)
    obtain ⟨a2, c2, xs2, rfl, hc2, hr2, hat2⟩ := ru.rows (by decide) b.tab.slots.length (fm_len Sl.dt_len _)
    by_cases h0 : b.count = 0
    · simp only [decide_eq_true h0, go_sem, Nat.reduceBEq, Nat.reduceAdd, Nat.reduceLeDiff]
      have hF : bkOk l b = b.free := bkOk_free h0
      (refine (sFree l b _ _ _ rh ru h0).mono ?_; rintro _ _ ⟨rfl, rfl⟩; simp only [go_sem, Nat.reduceBEq])
      cases hfr : b.free with
      | false =>
        simp only [Bool.not_false, go_sem, Nat.reduceBEq]
        exact ⟨by rw [bk_negS hbk (by rw [hF, hfr])], e1⟩
      | true =>
        have hs0 := free_slots hfr
        simp only [decide_eq_true h0, Bool.not_true, go_sem, Nat.reduceBEq]
        refine aloop (ι := Nat) (fun _ => [(5, .val (.int .i64 0)), (3, .val (.int .i64 (i : Nat))), (1, .box 1 0), (4, .box 4 0)]) (fun _ => [(1, [.slice (some ⟨b1, o1, none⟩) l.length c1]), (4, [.int .i64 b.count, .bool b.tab.hashed, .slice a3 b.tab.heads.length c3, .slice a2 b.tab.slots.length c2, .int .i64 b.tab.next, .int .i64 b.tab.count])])
          (fun k h' => h1 = h') (fun _ => 0) 0 rfl (by repeat (first | exact wkF_e | refine wkF_c rfl ?_)) (wkB_c rfl (wkB_c rfl wkB_e)) rfl ?_
        rintro k _ rfl
        simp only [hs0, List.length_nil, go_sem, Nat.reduceBEq, Nat.reduceAdd]
        simp only [decide_eq_false (show ¬ (0 : Int) < ((0 : Nat) : Int) by decide), wsu, go_sem, Nat.reduceBEq, Nat.reduceLeDiff, Nat.reduceEqDiff]
        exact Again.intro (i + 1) (by first | omega | (simp only; omega)) ⟨hq, e1, pb.step hbk (by rw [hF, hfr])⟩ (by repeat (first | exact wkF_e | refine wkF_c rfl ?_)) (wkB_c rfl wkB_e) rfl
    have hL := bkOk_live (l := l) h0
    simp only [decide_eq_false h0, Bool.not_false, go_sem, Nat.reduceBEq, Nat.reduceAdd, Nat.reduceLeDiff]
    (refine (l1In_c _ _ _ _).mono ?_; rintro _ _ ⟨rfl, rfl⟩; simp only [go_sem, Nat.reduceBEq])
    by_cases q0 : 1 ≤ b.count ∧ b.count ≤ 1000000000000
    case neg =>
      simp only [decide_eq_false q0, Bool.not_false, go_sem, Nat.reduceBEq]
      exact ⟨by rw [bk_negS hbk (Bool.eq_false_iff.2 fun k => q0 (hL.1 k).1)], e1⟩
    simp only [decide_eq_true q0, Bool.not_true, go_sem, Nat.reduceBEq, Nat.reduceAdd, Nat.reduceLeDiff]
    refine (sIsTable b.tab (by omega) _ _ _ rh ru).mono ?_
    rintro _ h2 ⟨rfl, e12⟩
    have e2 := e1.trans e12
    cases hT : b.tab.isTab with
    | false =>
      simp only [Bool.not_false, go_sem, Nat.reduceBEq]
      exact ⟨by rw [bk_negS hbk (Bool.eq_false_iff.2 fun k => by have := (hL.1 k).2.1; rw [hT] at this; cases this)], e2⟩
    | true =>
    simp only [Bool.not_true, go_sem, Nat.reduceBEq]
    refine aloop (ι := Nat) (fun k => [(5, .val (.int .i64 (k : Nat))), (3, .val (.int .i64 (i : Nat))), (1, .box 1 0), (4, .box 4 0)]) (fun _ => [(1, [.slice (some ⟨b1, o1, none⟩) l.length c1]), (4, [.int .i64 b.count, .bool b.tab.hashed, .slice a3 b.tab.heads.length c3, .slice a2 b.tab.slots.length c2, .int .i64 b.tab.next, .int .i64 b.tab.count])])
      (fun k h' => k ≤ b.tab.slots.length ∧ Ext h1 h' ∧ preS l b.tab.slots k) (fun k => b.tab.slots.length - k) 0 ⟨Nat.zero_le _, e12, fun j b hj => by omega⟩ (by repeat (first | exact wkF_e | refine wkF_c rfl ?_)) (wkB_c rfl (wkB_c rfl wkB_e)) rfl ?_
    rintro k h3 ⟨hk, e13, ps⟩
    have hk : k ≤ b.tab.slots.length := hk
    have ps : preS l b.tab.slots k := ps
    have e3 := e1.trans e13
    try simp only [go_sem, Nat.reduceBEq, Nat.reduceAdd]
    refine Br.intro (fun hkb => ?_) (fun hkb => ?_) <;> (try simp only [hkb, go_sem, Nat.reduceBEq, Nat.reduceLeDiff, Nat.reduceEqDiff])
    · have hkb : k < b.tab.slots.length := by simpa using hkb
      obtain ⟨b2, o2, rfl, hat2'⟩ := hat2 (by omega)
      obtain ⟨e, he, hme⟩ := get_lt hkb
      have hve := hsv e hme
      have wsk := wrap_succ (i := k) (by omega)
      refine regionD_intro (lb := [53, 59, 62]) (by kernel_rfl) ?_
      simp only [ix_nat hkb, go_sem, Nat.reduceBEq, Nat.reduceAdd]
      refine hsem_slive tyS4 (hat2'.mono e13) (hr2.mono e13) he rfl ?_
      cases hv : e.live with
      | false =>
        simp only [wsk, go_sem, Nat.reduceBEq]
        exact Again.intro (k + 1) (by first | omega | (simp only; omega)) ⟨hkb, e13, ps.step he fun q => by rw [hv] at q; cases q⟩ (by repeat (first | exact wkF_e | refine wkF_c rfl ?_)) (wkB_c rfl (wkB_c rfl wkB_e)) rfl
      | true =>
        simp only [ix_nat hkb, go_sem, Nat.reduceBEq, Nat.reduceAdd, Nat.reduceLeDiff]
        refine hsem_sval tyS44 (hat2'.mono e13) (hr2.mono e13) he (by omega) fun s3 rd3 => ?_
        try simp only [go_sem, Nat.reduceBEq]
        refine (sIsHeld l e.val (by omega) (by omega) _ _ _ (r.mono e3) rd3).mono ?_
        rintro _ h4 ⟨rfl, e34⟩
        cases hhd : isHeld l e.val with
        | false =>
          simp only [Bool.not_false, go_sem, Nat.reduceBEq]
          exact ⟨by rw [bk_negS hbk (Bool.eq_false_iff.2 fun q => by have := (hL.1 q).2.2 k e he hv; rw [hhd] at this; cases this)], e3.trans e34⟩
        | true =>
          simp only [Bool.not_true, wsk, go_sem, Nat.reduceBEq]
          exact Again.intro (k + 1) (by first | omega | (simp only; omega)) ⟨hkb, e13.trans e34, ps.step he fun _ => hhd⟩ (by repeat (first | exact wkF_e | refine wkF_c rfl ?_)) (wkB_c rfl (wkB_c rfl wkB_e)) rfl
    · have hkb : k = b.tab.slots.length := by simp at hkb; omega
      subst hkb
      simp only [wsu, go_sem]
      exact Again.intro (i + 1) (by first | omega | (simp only; omega)) ⟨hq, e3, pb.step hbk (hL.2 ⟨q0, hT, fun k s hs hl => ps k s (lt_of_get hs) hs hl⟩)⟩ (by repeat (first | exact wkF_e | refine wkF_c rfl ?_)) (wkB_c rfl wkB_e) rfl
  · have hq : i = l.length := by simp at hq; omega
    subst hq
    obtain ⟨hin, hcz⟩ := pb.inR
    try simp only [go_sem, Nat.reduceBEq, Nat.reduceAdd, Nat.reduceLeDiff, Nat.reduceEqDiff, Int.reduceEq, not_false_eq_true, Int.reduceToNat]
    refine (sLight l hb hin hcz _ _ (r.mono e1)).mono ?_
    rintro _ h2 ⟨rfl, e12⟩
    simp only [go_sem, Nat.reduceBEq]
    refine ⟨?_, e1.trans e12⟩
    have : heapB l = lightB l := by
      unfold heapB
      rw [allAt_iff.2 fun i b hb => pb i b (lt_of_get hb) hb, Bool.true_and]
    rw [this]
end Go.Proofs.YtedfplodobpgfaaGreatDoor
namespace Go.Proofs.YtedfplodobpgfaaGreatDoor
set_option maxRecDepth 8000
open Go Go.Sx
/-- a heap made anew -/
def MadeH (h : Hp) (l : List Bk) (u : Value) (h' : Hp) : Prop := ∃ a c, u = .agg #[.slice a l.length c] ∧ My h h' [(.row 6 (l.flatMap Bk.dt), .slice a l.length c)]
set_option maxHeartbeats 800000 in
theorem iCopyHeap (l : List Bk) (hb : szG Bk.bulk l ≤ 1099511627776) (s : Value) (h : Hp) (r1 : RdB h l s) : ACalls Tryz.prog 90 #[.agg #[s]] h (MadeH h l) := by
  have hlen := szG_len (w := Bk.bulk) l
  obtain ⟨a1, c1, xs1, rfl, hc1, hr1, hat1⟩ := r1.rows (by decide) l.length (fm_len Bk.dt_len _)
  (refine enter Tryz.func90 rfl rfl (by kernel_rfl) [] ?_; simp only [go_sem, Nat.reduceBEq, Nat.reduceLeDiff])
  refine aloop (ι := Nat × Value) (fun x => [(10, .val (.int .i64 (x.1 : Nat))), (9, .val (.int .i64 (l.length : Nat))), (8, .val (.slice a1 l.length c1)), (3, .box 3 0), (2, .box 2 0)])
    (fun x => [(3, [x.2]), (2, [.slice none 0 0])])
    (fun x h' => x.1 ≤ l.length ∧ My h h' [(.row 6 ((l.take x.1).flatMap Bk.dt), x.2)]) (fun x => l.length - x.1) (0, .slice none 0 0)
    ⟨Nat.zero_le _, (My.nil (Ext.refl h)).nilrow⟩ (by repeat (first | exact wkF_e | refine wkF_c rfl ?_)) (wkB_c rfl (wkB_c rfl wkB_e)) rfl ?_
  rintro ⟨i, o⟩ h1 ⟨hi, m1⟩
  have hi : i ≤ l.length := hi
  have m1 : My h h1 [(.row 6 ((l.take i).flatMap Bk.dt), o)] := m1
  have htl : ((l.take i).flatMap Bk.dt).length = i * 6 := by rw [fm_len Bk.dt_len, List.length_take, Nat.min_eq_left hi]
  obtain ⟨ao, co, rfl, _⟩ := m1.row_shape (by decide) i htl
  try simp only [go_sem, Nat.reduceBEq]
  refine Br.intro (fun hq => ?_) (fun hq => ?_) <;> (try simp only [hq, go_sem, Nat.reduceBEq, Nat.reduceLeDiff])
  · have hq : i < l.length := by simpa using hq
    obtain ⟨b1, o1, rfl, hat1'⟩ := hat1 (by omega)
    obtain ⟨b, hbk, hm⟩ := get_lt hq
    have hsb := slots_bulk hbk
    have wsu := wrap_succ (i := i) (by omega)
    simp only [ix_nat hq, go_sem, Nat.reduceBEq]
    refine hsem_blk tyS107 (hat1'.mono m1.ext) (hr1.mono m1.ext) hbk rfl fun s2 u2 rh ru => ?_
    obtain ⟨a3, c3, xs3, rfl, hc3, hr3, hat3⟩ := rh.rows (by decide) b.tab.heads.length (fm_len idt_len _)
    obtain ⟨a2, c2, xs2, rfl, hc2, hr2, hat2⟩ := ru.rows (by decide) b.tab.slots.length (fm_len Sl.dt_len _)
    try simp only [go_sem, Nat.reduceBEq, Nat.reduceAdd, Nat.reduceLeDiff]
    refine regionD_intro (lb := [15, 17, 19]) (by kernel_rfl) ?_
    simp only [go_sem, Nat.reduceBEq, Nat.reduceAdd, Nat.reduceLeDiff]
    refine (copyTable_c b.tab (by omega) _ _ _ rh ru).mono ?_
    rintro _ h2 ⟨a4, c4, a5, c5, rfl, m2⟩
    simp only [go_sem, Nat.reduceBEq, Nat.reduceAdd, Nat.reduceLeDiff]
    have m3 := m1.add m2
    refine hsem_my_lit (h0 := h) (es := Bk.dt b) (parts := [(0, .agg #[.int .i64 b.count, .bool b.tab.hashed, .slice a4 b.tab.heads.length c4, .slice a5 b.tab.slots.length c5, .int .i64 b.tab.next, .int .i64 b.tab.count])]) slT58 (by decide) (by decide) (by decide) rfl rfl (by simp [Value.cells]) (bag := [(.row 6 ((l.take i).flatMap Bk.dt), .slice ao i co)]) ?_ rfl (Bk.dt_len b) fun l4 h4 m4 => ?_
    · simp only [flat, List.flatMap_cons, List.flatMap_nil, List.append_nil, cells_agg]
      exact bk_zip b m3
    simp only [go_sem, Nat.reduceBEq]
    refine hsem_my_append slT58 (by decide) rfl i 1 m4.swap htl (Bk.dt_len b) (by show (i + 1) * 80 ≤ _; omega) (by omega) fun l5 h5 m5 => ?_
    have m5 : My h h5 [(.row 6 ((l.take i).flatMap Bk.dt ++ Bk.dt b), l5)] := m5
    have e5 : (l.take i).flatMap Bk.dt ++ Bk.dt b = (l.take (i + 1)).flatMap Bk.dt := by rw [take_snoc hbk, List.flatMap_append, List.flatMap_cons, List.flatMap_nil, List.append_nil]
    rw [e5] at m5
    obtain ⟨a6, c6, rfl, _⟩ := m5.row_shape (by decide) (i + 1) (by rw [fm_len Bk.dt_len, List.length_take, Nat.min_eq_left hq])
    simp only [wsu, go_sem, Nat.reduceBEq, Nat.reduceLeDiff]
    exact Again.intro (i + 1, .slice a6 (i + 1) c6) (by first | omega | (simp only; omega)) ⟨hq, m5⟩ (by repeat (first | exact wkF_e | refine wkF_c rfl ?_)) (wkB_c rfl (wkB_c rfl wkB_e)) rfl
  · have hq : i = l.length := by simp at hq; omega
    subst hq
    rw [List.take_length] at m1
    try simp only [go_sem, Nat.reduceBEq, Nat.reduceAdd, Nat.reduceLeDiff, Nat.reduceEqDiff, Int.reduceEq, not_false_eq_true, Int.reduceToNat]
    exact ⟨_, _, rfl, m1⟩
set_option maxHeartbeats 800000 in
theorem sCopyHeap (l : List Bk) (hb : szG Bk.bulk l ≤ 1099511627776) (s : Value) (h : Hp) (r1 : RdB h l s) : ACalls Tryz.prog 88 #[.agg #[s]] h (MadeH h l) := by
  have hlen := szG_len (w := Bk.bulk) l
  obtain ⟨a1, c1, xs1, rfl, hc1, hr1, hat1⟩ := r1.rows (by decide) l.length (fm_len Bk.dt_len _)
  (refine enter Tryz.func88 rfl rfl (by kernel_rfl) [] ?_; simp only [go_sem, Nat.reduceBEq, Nat.reduceLeDiff])
  refine aloop (ι := Nat × Value) (fun x => [(4, .val (.int .i64 (x.1 : Nat))), (1, .box 1 0), (3, .box 3 0), (2, .box 2 0)])
    (fun x => [(1, [.slice a1 l.length c1]), (3, [x.2]), (2, [.slice none 0 0])])
    (fun x h' => x.1 ≤ l.length ∧ My h h' [(.row 6 ((l.take x.1).flatMap Bk.dt), x.2)]) (fun x => l.length - x.1) (0, .slice none 0 0)
    ⟨Nat.zero_le _, (My.nil (Ext.refl h)).nilrow⟩ (by repeat (first | exact wkF_e | refine wkF_c rfl ?_)) (wkB_c rfl (wkB_c rfl (wkB_c rfl wkB_e))) rfl ?_
  rintro ⟨i, o⟩ h1 ⟨hi, m1⟩
  have hi : i ≤ l.length := hi
  have m1 : My h h1 [(.row 6 ((l.take i).flatMap Bk.dt), o)] := m1
  have htl : ((l.take i).flatMap Bk.dt).length = i * 6 := by rw [fm_len Bk.dt_len, List.length_take, Nat.min_eq_left hi]
  obtain ⟨ao, co, rfl, _⟩ := m1.row_shape (by decide) i htl
  try simp only [go_sem, Nat.reduceBEq]
  refine Br.intro (fun hq => ?_) (fun hq => ?_) <;> (try simp only [hq, go_sem, Nat.reduceBEq, Nat.reduceLeDiff])
  · have hq : i < l.length := by simpa using hq
    obtain ⟨b1, o1, rfl, hat1'⟩ := hat1 (by omega)
    obtain ⟨b, hbk, hm⟩ := get_lt hq
    have hsb := slots_bulk hbk
    have wsu := wrap_succ (i := i) (by omega)
    refine regionD_still (lb := [14, 16, 22]) (pl := [20]) h m1.ext (by kernel_rfl) ?_
    simp only [ix_nat hq, go_sem, Nat.reduceBEq]
    refine hsem_bcnt tyS3 hat1' hr1 hbk rfl ?_
    simp only [ix_nat hq, go_sem, Nat.reduceBEq]
    refine hsem_btab tyS36 (hat1'.mono m1.ext) (hr1.mono m1.ext) hbk (by omega) fun s2 u2 rh ru => ?_
    simp only [go_sem, Nat.reduceBEq]
    refine (l7Copy_c b.tab (by omega) _ _ _ rh ru).mono ?_
    rintro _ h2 ⟨a4, c4, a5, c5, rfl, m2⟩
    simp only [go_sem, Nat.reduceBEq, Nat.reduceAdd, Nat.reduceLeDiff]
    refine ⟨m1.ext.trans m2.ext, ?_⟩
    have m3 := m1.add m2
    refine hsem_my_lit (h0 := h) (es := Bk.dt b) (parts := [(0, .agg #[.int .i64 b.count, .bool b.tab.hashed, .slice a4 b.tab.heads.length c4, .slice a5 b.tab.slots.length c5, .int .i64 b.tab.next, .int .i64 b.tab.count])]) slT58 (by decide) (by decide) (by decide) rfl rfl (by simp [Value.cells]) (bag := [(.row 6 ((l.take i).flatMap Bk.dt), .slice ao i co)]) ?_ rfl (Bk.dt_len b) fun l4 h4 m4 => ?_
    · simp only [flat, List.flatMap_cons, List.flatMap_nil, List.append_nil, cells_agg]
      exact bk_zip b m3
    simp only [go_sem, Nat.reduceBEq]
    refine ⟨m4.ext, ?_⟩
    refine hsem_my_append slT58 (by decide) rfl i 1 m4.swap htl (Bk.dt_len b) (by show (i + 1) * 80 ≤ _; omega) (by omega) fun l5 h5 m5 => ?_
    have m5 : My h h5 [(.row 6 ((l.take i).flatMap Bk.dt ++ Bk.dt b), l5)] := m5
    have e5 : (l.take i).flatMap Bk.dt ++ Bk.dt b = (l.take (i + 1)).flatMap Bk.dt := by rw [take_snoc hbk, List.flatMap_append, List.flatMap_cons, List.flatMap_nil, List.append_nil]
    rw [e5] at m5
    obtain ⟨a6, c6, rfl, _⟩ := m5.row_shape (by decide) (i + 1) (by rw [fm_len Bk.dt_len, List.length_take, Nat.min_eq_left hq])
    simp only [wsu, go_sem, Nat.reduceBEq, Nat.reduceLeDiff]
    refine ⟨m5.ext, ?_⟩
    try simp only [wsu, go_sem, Nat.reduceBEq, Nat.reduceAdd, Nat.reduceLeDiff, Nat.reduceEqDiff, Int.reduceEq, not_false_eq_true, Int.reduceToNat]
    exact Again.intro (i + 1, .slice a6 (i + 1) c6) (by first | omega | (simp only; omega)) ⟨hq, m5⟩ (by repeat (first | exact wkF_e | refine wkF_c rfl ?_)) (wkB_c rfl (wkB_c rfl (wkB_c rfl wkB_e))) rfl
  · have hq : i = l.length := by simp at hq; omega
    subst hq
    rw [List.take_length] at m1
    try simp only [go_sem, Nat.reduceBEq, Nat.reduceAdd, Nat.reduceLeDiff, Nat.reduceEqDiff, Int.reduceEq, not_false_eq_true, Int.reduceToNat]
    exact ⟨_, _, rfl, m1⟩
end Go.Proofs.YtedfplodobpgfaaGreatDoor
namespace Go.Proofs.YtedfplodobpgfaaGreatDoor
set_option maxRecDepth 8000
open Go Go.Sx
section
variable {h0 h : Hp} {K : Value → Hp → Prop} {bag : Bag} {c : List Dt → Dt} {val : Value} {b off : Nat}
def vraws (v : V) (u : Value) : List Dt := [.raw (.int .i64 v.kind), .raw (.int .i64 v.num), .raw (.string v.str), .raw (.int .i64 v.next), .raw u]
/-- the items are taken out -/
theorem var_open (hd : Hold c val b off) {v : V} (m : My h0 h ((c v.dt, val) :: bag)) : ∃ a n, My h0 h ((.row 8 (v.items.flatMap edt), .slice a v.items.length n) :: (c (vraws v (.slice a v.items.length n)), val) :: bag) := by
  rw [V.dt_eq] at m
  obtain ⟨u, m⟩ := hd.open_ (X := [.raw (.int .i64 v.kind), .raw (.int .i64 v.num), .raw (.string v.str), .raw (.int .i64 v.next)]) (Y := []) m
  obtain ⟨a, n, rfl, _⟩ := m.row_shape (by decide) v.items.length (fm_len edt_len _)
  exact ⟨a, n, m⟩
/-- .. and put back, perhaps others than before -/
theorem var_close (hd : Hold c val b off) {v : V} {u : Value} (m : My h0 h ((.row 8 (v.items.flatMap edt), u) :: (c (vraws v u), val) :: bag)) : My h0 h ((c v.dt, val) :: bag) := by
  have := hd.close (X := [.raw (.int .i64 v.kind), .raw (.int .i64 v.num), .raw (.string v.str), .raw (.int .i64 v.next)]) (Y := []) m
  rw [V.dt_eq]
  exact this
theorem var_ldraw (hd : Hold c val b off) {v : V} {u : Value} {j : Nat} (m : My h0 h ((c (vraws v u), val) :: bag)) (hj : j = off) (k : K (.agg #[.int .i64 v.kind, .int .i64 v.num, .string v.str, .int .i64 v.next, u]) h) : HPure Tryz.prog (ldI 44 (.pointer (some ⟨b, j, none⟩))) h K := by
  refine hd.loadN (i := 0) (ds := vraws v u) tyS44 m rfl rfl hj fun ys r => ?_
  simp only [vraws, RdL_cons, RdL_nil, Rd_raw] at r
  obtain ⟨_, _, rfl, ⟨rfl, _⟩, _, _, rfl, ⟨rfl, _⟩, _, _, rfl, ⟨rfl, _⟩, _, _, rfl, ⟨rfl, _⟩, _, _, rfl, ⟨rfl, _⟩, rfl⟩ := r
  exact k
/-- the value is read -/
theorem var_load (hd : Hold c val b off) {v : V} {j : Nat} (m : My h0 h ((c v.dt, val) :: bag)) (hj : j = off) (k : ∀ sl, RdE h v.items sl → K (.agg #[.int .i64 v.kind, .int .i64 v.num, .string v.str, .int .i64 v.next, sl]) h) : HPure Tryz.prog (ldI 44 (.pointer (some ⟨b, j, none⟩))) h K := by
  refine hd.loadN (i := 0) (ds := v.dt) tyS44 m (by rw [List.drop_zero, List.take_of_length_le (by rw [V.dt_len]; exact Nat.le_refl _)]) (V.dt_len v) hj fun ys r => ?_
  obtain ⟨sl, rfl, rd⟩ := RdL_val r
  exact k sl rd
/-- a value of the walk's own is written -/
theorem var_store (hd : Hold c val b off) {w : V} {sl : Value} {j : Nat} {x : List Dt} (hx : x.length = 5) (m : My h0 h ((.row 8 (w.items.flatMap edt), sl) :: (c x, val) :: bag)) (hj : j = off) (k : ∀ h', My h0 h' ((c w.dt, val) :: bag) → K undef h') :
    HSem Tryz.prog (stI 44 (.pointer (some ⟨b, j, none⟩)) (.agg #[.int .i64 w.kind, .int .i64 w.num, .string w.str, .int .i64 w.next, sl])) h K := by
  refine hd.store (x := x) (es := w.dt) tyS44 ?_ hx (V.dt_len w) rfl hj k
  rw [V.dt_eq]
  simp only [cells_agg, List.zip_cons_cons, List.zip_nil_right, List.cons_append, List.nil_append, My.raw_iff, one_int, one_str, and_self, true_and]
  exact m
/-- the value is read for good: the variable is given up -/
theorem var_take (hd : Hold c val b off) {v : V} {j : Nat} (m : My h0 h ((c v.dt, val) :: bag)) (hj : j = off) (k : ∀ a n, My h0 h ((.row 8 (v.items.flatMap edt), .slice a v.items.length n) :: bag) → K (.agg #[.int .i64 v.kind, .int .i64 v.num, .string v.str, .int .i64 v.next, .slice a v.items.length n]) h) : HPure Tryz.prog (ldI 44 (.pointer (some ⟨b, j, none⟩))) h K := by
  obtain ⟨a, n, m⟩ := var_open hd m
  exact var_ldraw hd m.drop hj (k a n m.swap.drop)
/-- an item's value within the items -/
theorem hold_item {es : List (Ky × V)} {i : Nat} {e : Ky × V} {b cap : Nat} (he : es[i]? = some e) : ∃ c, Hold c (.slice (some ⟨b, 0, none⟩) es.length cap) b (i * 8 + 3) ∧ ∀ w : V, c w.dt = .row 8 ((es.take i ++ (e.1, w) :: es.drop (i + 1)).flatMap edt) := by
  obtain ⟨h1, h2⟩ := fm_split edt_len he
  have hlt := (List.getElem?_eq_some_iff.1 he).1
  refine ⟨_, (Hold.row (z := 8) (p := (es.take i).flatMap edt ++ e.1.dt) (q := (es.drop (i + 1)).flatMap edt) (by omega)).at_ ?_, fun w => ?_⟩
  · rw [List.length_append, h2]
    rfl
  · simp only [List.flatMap_append, List.flatMap_cons, edt, List.append_assoc]
/-- the slice of items is written, bare -/
theorem var_setRaw (hd : Hold c val b off) {v : V} {u : Value} {a : Option Addr} {n q j : Nat} (m : My h0 h ((c (vraws v u), val) :: bag)) (hj : j = off + 4) (k : ∀ h', My h0 h' ((c (vraws v (.slice a n q)), val) :: bag) → K undef h') :
    HSem Tryz.prog (stI 42 (.pointer (some ⟨b, j, none⟩)) (.slice a n q)) h K := by
  have m1 : My h0 h ((.raw (.slice a n q), .slice a n q) :: (c ([.raw (.int .i64 v.kind), .raw (.int .i64 v.num), .raw (.string v.str), .raw (.int .i64 v.next)] ++ ([.raw u] ++ [])), val) :: bag) := m.raw rfl
  exact (hd.sub [.raw (.int .i64 v.kind), .raw (.int .i64 v.num), .raw (.string v.str), .raw (.int .i64 v.next)] []).store (h0 := h0) (bag := bag) (x := [.raw u]) (es := [.raw (.slice a n q)]) tyS42 m1 rfl rfl rfl hj fun h' m' => k h' m'
/-- the items' slice is written -/
theorem var_setItems (hd : Hold c val b off) {v : V} {u : Value} {es : List (Ky × V)} {a : Option Addr} {n q j : Nat} (m : My h0 h ((.row 8 (es.flatMap edt), .slice a n q) :: (c (vraws v u), val) :: bag)) (hj : j = off + 4) (k : ∀ h', My h0 h' ((c (v.withItems es).dt, val) :: bag) → K undef h') :
    HSem Tryz.prog (stI 42 (.pointer (some ⟨b, j, none⟩)) (.slice a n q)) h K := by
  refine (hd.sub [.raw (.int .i64 v.kind), .raw (.int .i64 v.num), .raw (.string v.str), .raw (.int .i64 v.next)] []).store (x := [.raw u]) (es := [.row 8 (es.flatMap edt)]) tyS42 m rfl rfl rfl hj fun h' m' => k h' ?_
  rw [V.dt_eq]
  exact m'
/-- the next number is written -/
theorem var_setNext (hd : Hold c val b off) {v : V} {n : Int} {j : Nat} (m : My h0 h ((c v.dt, val) :: bag)) (hj : j = off + 3) (k : ∀ h', My h0 h' ((c (V.mk v.kind v.num v.str n v.items).dt, val) :: bag) → K undef h') :
    HSem Tryz.prog (stI 3 (.pointer (some ⟨b, j, none⟩)) (.int .i64 n)) h K := by
  rw [V.dt_eq] at m
  have m1 : My h0 h ((.raw (.int .i64 n), .int .i64 n) :: (c ([.raw (.int .i64 v.kind), .raw (.int .i64 v.num), .raw (.string v.str)] ++ ([.raw (.int .i64 v.next)] ++ [.row 8 (v.items.flatMap edt)])), val) :: bag) := m.raw rfl
  refine (hd.sub [.raw (.int .i64 v.kind), .raw (.int .i64 v.num), .raw (.string v.str)] [.row 8 (v.items.flatMap edt)]).store (h0 := h0) (bag := bag) (x := [.raw (.int .i64 v.next)]) (es := [.raw (.int .i64 n)]) tyS3 m1 rfl rfl rfl hj fun h' m' => k h' ?_
  rw [V.dt_eq]
  exact m'
/-- the next number is read -/
theorem var_ldNext (hd : Hold c val b off) {v : V} {j : Nat} (m : My h0 h ((c v.dt, val) :: bag)) (hj : j = off + 3) (k : K (.int .i64 v.next) h) : HPure Tryz.prog (ldI 3 (.pointer (some ⟨b, j, none⟩))) h K := by
  rw [V.dt_eq] at m
  refine hd.load1 (i := 3) (d := .raw (.int .i64 v.next)) tyS3 m rfl hj fun u ru => ?_
  obtain ⟨rfl, _⟩ := Rd_raw.1 ru
  exact k
/-- the kind is read -/
theorem var_ldKind (hd : Hold c val b off) {v : V} {j : Nat} (m : My h0 h ((c v.dt, val) :: bag)) (hj : j = off) (k : K (.int .i64 v.kind) h) : HPure Tryz.prog (ldI 3 (.pointer (some ⟨b, j, none⟩))) h K := by
  rw [V.dt_eq] at m
  refine hd.load1 (i := 0) (d := .raw (.int .i64 v.kind)) tyS3 m rfl hj fun u ru => ?_
  obtain ⟨rfl, _⟩ := Rd_raw.1 ru
  exact k
/-- the items' slice is read, the items taken out before -/
theorem var_ldItems (hd : Hold c val b off) {v : V} {u : Value} {j : Nat} (m : My h0 h ((c (vraws v u), val) :: bag)) (hj : j = off + 4) (k : K u h) : HPure Tryz.prog (ldI 42 (.pointer (some ⟨b, j, none⟩))) h K := by
  refine hd.load1 (i := 4) (d := .raw u) tyS42 m rfl hj fun w rw_ => ?_
  obtain ⟨rfl, _⟩ := Rd_raw.1 rw_
  exact k
end
end Go.Proofs.YtedfplodobpgfaaGreatDoor
namespace Go.Proofs.YtedfplodobpgfaaGreatDoor
set_option maxRecDepth 8000
open Go Go.Sx
/-- a table of the walk's own -/
def OwnT (h0 : Hp) (t : Tb) (R : Bag) (u : Value) (h' : Hp) : Prop := ∃ a c a' c', u = .agg #[.bool t.hashed, .slice a t.heads.length c, .slice a' t.slots.length c', .int .i64 t.next, .int .i64 t.count] ∧ My h0 h' ((.row 1 (t.heads.flatMap idt), .slice a t.heads.length c) :: (.row 10 (t.slots.flatMap Sl.dt), .slice a' t.slots.length c') :: R)
theorem fm_push (t : Tb) (k : Ky) (x : V) : t.slots.flatMap Sl.dt ++ Sl.dt ⟨k, x, true, t.link k⟩ = (t.push k x).slots.flatMap Sl.dt := by
  show _ = (t.slots ++ [_]).flatMap Sl.dt
  rw [List.flatMap_append, List.flatMap_cons, List.flatMap_nil, List.append_nil]
theorem push_len (t : Tb) (k : Ky) (x : V) : (t.push k x).slots.length = t.slots.length + 1 := by
  show (t.slots ++ [_]).length = _
  rw [List.length_append]
  rfl
theorem push_wrap {t : Tb} (c : t.ch) : IntKind.i64.wrap (t.count + 1) = t.count + 1 := by
  have h1 := c.cnt
  have h2 := c.len
  have h3 := liveN_le t.slots
  exact IntWalk.i64_in _ (by omega)
theorem link_hashed {t : Tb} {k : Ky} (h : t.hashed = true) : t.link k = t.heads.getD (k.hash % t.heads.length) (-1) := by unfold Tb.link; rw [h]; rfl
theorem link_packed {t : Tb} {k : Ky} (h : t.hashed = false) : t.link k = -1 := by unfold Tb.link; rw [h]; rfl
theorem push_heads {t : Tb} {k : Ky} {x : V} (h : t.hashed = true) : (t.push k x).heads = t.heads.set (k.hash % t.heads.length) (t.slots.length : Nat) := by unfold Tb.push; rw [h]; rfl
theorem push_heads0 {t : Tb} {k : Ky} {x : V} (h : t.hashed = false) : (t.push k x).heads = t.heads := by unfold Tb.push; rw [h]; rfl
theorem push_hl (t : Tb) (k : Ky) (x : V) : (t.push k x).heads.length = t.heads.length := (t.push_slots k x).2
set_option maxHeartbeats 800000 in
theorem iAddSlot {c : List Dt → Dt} {val : Value} {b off : Nat} (hd : Hold c val b off) (t : Tb) (ch : t.ch) (k : Ky) (hk : k.str.size ≤ 1152921504606846976) (x : V) (ax : Option Addr) (cx : Nat) (h0 h : Hp) (R : Bag) (m : My h0 h ((.row 8 (x.items.flatMap edt), .slice ax x.items.length cx) :: (c t.dt, val) :: R)) :
    ACalls Tryz.prog 129 #[.pointer (some ⟨b, off, none⟩), .agg #[.bool k.text, .int .i64 k.num, .string k.str], .agg #[.int .i64 x.kind, .int .i64 x.num, .string x.str, .int .i64 x.next, .slice ax x.items.length cx]] h (fun u h' => u = .tuple #[] ∧ My h0 h' ((c (t.push k x).dt, val) :: R)) := by
  have hls := ch.len
  obtain ⟨a1, c1, a2, c2, m1⟩ := tb_open hd m.swap
  have mc := m1.third
  (refine enter Tryz.func129 rfl rfl (by kernel_rfl) [] ?_; simp only [go_sem, Nat.reduceBEq, Nat.reduceAdd, Nat.reduceLeDiff])
  refine hd.ld1 (i := 0) tyS4 mc rfl (by omega) ?_
  cases ht : t.hashed with
  | true =>
  have hsz := ch.size ht
  have hm : k.hash % t.heads.length < t.heads.length := Nat.mod_lt _ (by omega)
  have hh := k.hash_lt
  have em : ((k.hash : Nat) : Int) % ((t.heads.length : Nat) : Int) = ((k.hash % t.heads.length : Nat) : Int) := by omega
  obtain ⟨_, _, e1, _, _, hat1⟩ := m1.row_shape (by decide) t.heads.length (fm_len idt_len _)
  cases e1
  obtain ⟨b1, rfl⟩ := hat1 (by omega)
  simp only [go_sem, Nat.reduceBEq]
  refine regionD_still (lb := [15]) (pl := [20]) h (Ext.refl _) (by kernel_rfl) ?_
  simp only [go_sem, Nat.reduceBEq, Nat.reduceAdd, Nat.reduceLeDiff]
  refine (iKeyHash k hk _).mono ?_
  rintro _ _ ⟨rfl, rfl⟩
  simp only [go_sem, Nat.reduceBEq]
  refine ⟨Ext.refl _, ?_⟩
  refine hd.ld1 (i := 1) tyS22 mc rfl (by omega) ?_
  simp only [go_sem, Nat.reduceBEq]
  refine (iMod _ _ (by omega) (by omega) _).mono ?_
  rintro _ _ ⟨rfl, rfl⟩
  simp only [go_sem, Nat.reduceBEq]
  refine ⟨Ext.refl _, ?_⟩
  simp only [em, go_sem]
  refine hd.ld1 (i := 1) tyS22 mc rfl (by omega) ?_
  obtain ⟨xs, hr, hat⟩ := m1.at_
  simp only [ix_nat hm, go_sem, Nat.reduceBEq]
  refine hsem_num tyS3 (hat (by omega)) hr (getD_at (d := -1) hm) (by omega) ?_
  rw [← link_hashed ht]
  simp only [go_sem, Nat.reduceBEq, Nat.reduceAdd, Nat.reduceLeDiff]
  refine regionD_intro (lb := []) (by kernel_rfl) ?_
  simp only [go_sem, Nat.reduceBEq]
  refine hd.ld1 (i := 1) tyS22 mc rfl (by omega) ?_
  simp only [go_sem, Nat.reduceBEq, Nat.reduceAdd]
  refine hd.ld1 (i := 2) tyS34 mc rfl (by omega) ?_
  simp only [ix_nat hm, go_sem, Nat.reduceBEq]
  obtain ⟨cn, hn, en⟩ := hold_num (b := b1) (cap := c1) hm
  obtain ⟨w, hw⟩ := hold_self hm
  refine hn.put1 (h0 := h0) (d := .raw (.int .i64 w)) tyS3 rfl rfl (by rw [en, hw]; exact m1) (by omega) fun h2 m2 => ?_
  rw [en, ← push_heads (x := x) ht] at m2
  have mc2 := m2.third
  simp only [go_sem]
  refine regionS_at (lb := [47]) (pl := [46]) (only h2 b) only_refl 8 9 9 10 [9, 10] [9, 10] (by kernel_rfl) ?_
  simp only [rg8, rg8b, pkO_c, pkO_n, pk_s, List.getElem?_toArray, List.getElem?_cons_succ, List.getElem?_cons_zero, go_sem, Nat.reduceBEq, Nat.reduceAdd]
  refine hd.still1 (i := 2) tyS34 mc2 rfl (by omega) ?_
  simp only [go_sem, Nat.reduceBEq, Nat.reduceAdd, Nat.reduceLeDiff]
  refine hsem_my_litE (h0 := h0) (es := Sl.dt ⟨k, x, true, t.link k⟩) (parts := [(0, .agg #[.bool k.text, .int .i64 k.num, .string k.str, .int .i64 x.kind, .int .i64 x.num, .string x.str, .int .i64 x.next, .slice ax x.items.length cx, .bool true, .int .i64 (t.link k)])]) slT34 (by decide) (by decide) (by decide) rfl rfl (by simp [Value.cells])
    (bag := (.row 10 (t.slots.flatMap Sl.dt), .slice a2 t.slots.length c2) :: (c (traws t (.slice (some ⟨b1, 0, none⟩) t.heads.length c1) (.slice a2 t.slots.length c2)), val) :: (.row 1 ((t.push k x).heads.flatMap idt), .slice (some ⟨b1, 0, none⟩) t.heads.length c1) :: R) ?_ rfl (Sl.dt_len _) fun l4 h4 m4 e4 => ?_
  · simp only [flat, List.flatMap_cons, List.flatMap_nil, List.append_nil, cells_agg]
    exact slot_zip ⟨k, x, true, t.link k⟩ mc2.third.fourth
  simp only [go_sem, Nat.reduceBEq]
  obtain ⟨ob, hob⟩ := hd.there mc2
  refine ⟨only_of hob e4, ?_⟩
  refine hsem_my_appendK slT34 (by decide) rfl t.slots.length 1 m4.swap b (fun B kB => hd.mem kB) (fm_len Sl.dt_len _) (Sl.dt_len _) (by show (t.slots.length + 1) * 112 ≤ _; omega) (by omega) fun l5 h5 m5 e5 => ?_
  rw [fm_push] at m5
  obtain ⟨a6, c6, rfl, _⟩ := m5.row_shape (by decide) (t.push k x).slots.length (fm_len Sl.dt_len _)
  have e45 : h5 b = h2 b := by rw [e5, hob, e4 _ _ hob]
  simp only [go_sem, Nat.reduceBEq]
  refine ⟨only_ext e45, ?_⟩
  have m6 : My h0 h5 ((c ([.raw (.bool t.hashed), .raw (.slice (some ⟨b1, 0, none⟩) t.heads.length c1)] ++ ([.raw (.slice a2 t.slots.length c2)] ++ [.raw (.int .i64 t.next), .raw (.int .i64 t.count)])), val) :: (.row 10 ((t.push k x).slots.flatMap Sl.dt), .slice a6 (t.push k x).slots.length c6) :: (.row 1 ((t.push k x).heads.flatMap idt), .slice (some ⟨b1, 0, none⟩) t.heads.length c1) :: R) := m5.swap
  refine ⟨?_, ?_⟩ <;> (
    simp only [go_sem, Nat.reduceBEq, Nat.reduceAdd]
    refine hd.setC [.raw (.bool t.hashed), .raw (.slice (some ⟨b1, 0, none⟩) t.heads.length c1)] [.raw (.int .i64 t.next), .raw (.int .i64 t.count)] tyS34 rfl rfl m6 rfl fun h7 m7 => ?_
    simp only [go_sem, Nat.reduceBEq, Nat.reduceAdd]
    refine hd.ld1 (i := 4) tyS3 m7 rfl (by omega) ?_
    simp only [push_wrap ch, go_sem, Nat.reduceBEq, Nat.reduceAdd]
    refine hd.setC [.raw (.bool t.hashed), .raw (.slice (some ⟨b1, 0, none⟩) t.heads.length c1), .raw (.slice a6 (t.push k x).slots.length c6), .raw (.int .i64 t.next)] [] tyS3 rfl rfl m7 rfl fun h8 m8 => ?_
    simp only [go_sem]
    exact tb_close (t := t.push k x) hd m8.swap.third)
  | false =>
  have e0 := link_packed (k := k) ht
  have m2 : My h0 h ((.row 1 ((t.push k x).heads.flatMap idt), .slice a1 t.heads.length c1) :: (.row 10 (t.slots.flatMap Sl.dt), .slice a2 t.slots.length c2) :: (c (traws t (.slice a1 t.heads.length c1) (.slice a2 t.slots.length c2)), val) :: (.row 8 (x.items.flatMap edt), .slice ax x.items.length cx) :: R) := by rw [push_heads0 ht]; exact m1
  have mc2 := m2.third
  simp only [go_sem, Nat.reduceBEq]
  rw [← e0]
  refine regionS_at (lb := [47]) (pl := [46]) (only h b) only_refl 8 9 9 10 [9, 10] [9, 10] (by kernel_rfl) ?_
  simp only [rg8, rg8b, pkO_c, pkO_n, pk_s, List.getElem?_toArray, List.getElem?_cons_succ, List.getElem?_cons_zero, go_sem, Nat.reduceBEq, Nat.reduceAdd]
  refine hd.still1 (i := 2) tyS34 mc2 rfl (by omega) ?_
  simp only [go_sem, Nat.reduceBEq, Nat.reduceAdd, Nat.reduceLeDiff]
  refine hsem_my_litE (h0 := h0) (es := Sl.dt ⟨k, x, true, t.link k⟩) (parts := [(0, .agg #[.bool k.text, .int .i64 k.num, .string k.str, .int .i64 x.kind, .int .i64 x.num, .string x.str, .int .i64 x.next, .slice ax x.items.length cx, .bool true, .int .i64 (t.link k)])]) slT34 (by decide) (by decide) (by decide) rfl rfl (by simp [Value.cells])
    (bag := (.row 10 (t.slots.flatMap Sl.dt), .slice a2 t.slots.length c2) :: (c (traws t (.slice a1 t.heads.length c1) (.slice a2 t.slots.length c2)), val) :: (.row 1 ((t.push k x).heads.flatMap idt), .slice a1 t.heads.length c1) :: R) ?_ rfl (Sl.dt_len _) fun l4 h4 m4 e4 => ?_
  · simp only [flat, List.flatMap_cons, List.flatMap_nil, List.append_nil, cells_agg]
    exact slot_zip ⟨k, x, true, t.link k⟩ mc2.third.fourth
  simp only [go_sem, Nat.reduceBEq]
  obtain ⟨ob, hob⟩ := hd.there mc2
  refine ⟨only_of hob e4, ?_⟩
  refine hsem_my_appendK slT34 (by decide) rfl t.slots.length 1 m4.swap b (fun B kB => hd.mem kB) (fm_len Sl.dt_len _) (Sl.dt_len _) (by show (t.slots.length + 1) * 112 ≤ _; omega) (by omega) fun l5 h5 m5 e5 => ?_
  rw [fm_push] at m5
  obtain ⟨a6, c6, rfl, _⟩ := m5.row_shape (by decide) (t.push k x).slots.length (fm_len Sl.dt_len _)
  have e45 : h5 b = h b := by rw [e5, hob, e4 _ _ hob]
  simp only [go_sem, Nat.reduceBEq]
  refine ⟨only_ext e45, ?_⟩
  have m6 : My h0 h5 ((c ([.raw (.bool t.hashed), .raw (.slice a1 t.heads.length c1)] ++ ([.raw (.slice a2 t.slots.length c2)] ++ [.raw (.int .i64 t.next), .raw (.int .i64 t.count)])), val) :: (.row 10 ((t.push k x).slots.flatMap Sl.dt), .slice a6 (t.push k x).slots.length c6) :: (.row 1 ((t.push k x).heads.flatMap idt), .slice a1 t.heads.length c1) :: R) := m5.swap
  refine ⟨?_, ?_⟩ <;> (
    simp only [go_sem, Nat.reduceBEq, Nat.reduceAdd]
    refine hd.setC [.raw (.bool t.hashed), .raw (.slice a1 t.heads.length c1)] [.raw (.int .i64 t.next), .raw (.int .i64 t.count)] tyS34 rfl rfl m6 rfl fun h7 m7 => ?_
    simp only [go_sem, Nat.reduceBEq, Nat.reduceAdd]
    refine hd.ld1 (i := 4) tyS3 m7 rfl (by omega) ?_
    simp only [push_wrap ch, go_sem, Nat.reduceBEq, Nat.reduceAdd]
    refine hd.setC [.raw (.bool t.hashed), .raw (.slice a1 t.heads.length c1), .raw (.slice a6 (t.push k x).slots.length c6), .raw (.int .i64 t.next)] [] tyS3 rfl rfl m7 rfl fun h8 m8 => ?_
    simp only [go_sem]
    exact tb_close (t := t.push k x) hd m8.swap.third)
end Go.Proofs.YtedfplodobpgfaaGreatDoor
