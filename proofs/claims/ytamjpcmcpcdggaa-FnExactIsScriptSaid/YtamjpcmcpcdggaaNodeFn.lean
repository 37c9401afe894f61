/-
  What NodeSize, NodeDepth, HasYield and SameNode of the program and of the reference return.
-/
import Derived.Test.YtamjpcmcpcdggaaNum
import Derived.Test.YtamjpcmcpcdggaaSxDataT
namespace Go.Proofs.Ytamjpcmcpcdggaa
set_option maxRecDepth 8000
open Go Go.Sx
def ISize (v : Nd) : Prop := v.bulk ≤ 1048576 → ∀ (sl : Value) (h : Hp), RdN h v.kids sl → ACalls Try.prog 18 #[.agg #[.int .i64 v.kind, .int .i64 v.num, .string v.text, sl]] h (Pu (.int .i64 (v.size : Nat)) h)
theorem iNodeSize : ∀ v, ISize v := Nd.ind fun v ih hbk sl h rd => by
  have hB := Nd.bulk_eq v
  have hL := Nd.bulks_len v.kids
  have hS := Nd.sizes_bulk v.kids
  rw [Nd.sizes_eq] at hS
  obtain ⟨a, c, xs, rfl, hc, hr, hat⟩ := rd.rows (by decide) v.kids.length (fm_len Nd.dt_len _)
  (refine enter Try.func18 rfl rfl (by kernel_rfl) [] ?_; simp only [go_sem, Nat.reduceBEq])
  refine aloop (ι := Nat) (fun i => [(9, .val (.int .i64 (i : Nat))), (3, .val (.int .i64 (1 + gsum Nd.size (v.kids.take i) : Nat))), (8, .val (.int .i64 (v.kids.length : Nat))), (7, .val (.slice a v.kids.length c))]) (fun _ => [])
    (fun i h' => i ≤ v.kids.length ∧ h' = h) (fun i => v.kids.length - i) 0 ⟨Nat.zero_le _, rfl⟩ (by repeat (first | exact wkF_e | refine wkF_c rfl ?_)) wkB_e rfl ?_
  rintro i _ ⟨hi, rfl⟩
  simp only [go_sem, Nat.reduceBEq]
  refine Br.intro (fun hb => ?_) (fun hb => ?_) <;> (try simp only [hb, go_sem, Nat.reduceBEq])
  · have hb : i < v.kids.length := by simpa using hb
    obtain ⟨b, off, rfl, hat'⟩ := hat (by omega)
    obtain ⟨e, he, hm⟩ := get_lt hb
    have wsu := wrap_succ (i := i) (by omega)
    have hbe := Nd.bulks_mem hm
    have hse := Nd.size_bulk e
    have hde := Nd.depth_size e
    simp only [ix_nat hb, go_sem, Nat.reduceBEq]
    refine hsem_node tyS29 hat' hr he rfl fun s2 rd2 => ?_
    obtain ⟨a2, c2, _, rfl, _⟩ := rd2.rows (by decide) e.kids.length (fm_len Nd.dt_len _)
    simp only [go_sem, Nat.reduceBEq, Nat.reduceAdd, Nat.reduceLeDiff]
    (refine (ih e hm (by omega) _ _ rd2).mono ?_; rintro _ _ ⟨rfl, rfl⟩; simp only [go_sem, Nat.reduceBEq])
    have w1 : IntKind.i64.wrap (((1 + gsum Nd.size (v.kids.take i) : Nat) : Int) + ((e.size : Nat) : Int)) = ((1 + gsum Nd.size (v.kids.take (i + 1)) : Nat) : Int) := by
      have h2 := gsum_split Nd.size v.kids (i + 1)
      rw [gsum_snoc he] at h2 ⊢
      rw [IntWalk.i64_in _ (by omega)]
      omega
    rw [w1]
    try simp only [wsu, go_sem]
    exact Again.intro (i + 1) (by first | omega | (simp only; omega)) ⟨hb, rfl⟩ (by repeat (first | exact wkF_e | refine wkF_c rfl ?_)) wkB_e rfl
  · have hb : i = v.kids.length := by simp at hb; omega
    subst hb
    rw [List.take_length]
    exact ⟨by rw [Nd.size_eq, Nd.sizes_eq], rfl⟩
def IDepth (v : Nd) : Prop := v.bulk ≤ 1048576 → ∀ (sl : Value) (h : Hp), RdN h v.kids sl → ACalls Try.prog 20 #[.agg #[.int .i64 v.kind, .int .i64 v.num, .string v.text, sl]] h (Pu (.int .i64 (v.depth : Nat)) h)
theorem iNodeDepth : ∀ v, IDepth v := Nd.ind fun v ih hbk sl h rd => by
  have hB := Nd.bulk_eq v
  have hL := Nd.bulks_len v.kids
  have hS := Nd.sizes_bulk v.kids
  rw [Nd.sizes_eq] at hS
  obtain ⟨a, c, xs, rfl, hc, hr, hat⟩ := rd.rows (by decide) v.kids.length (fm_len Nd.dt_len _)
  (refine enter Try.func20 rfl rfl (by kernel_rfl) [] ?_; simp only [go_sem, Nat.reduceBEq])
  refine aloop (ι := Nat) (fun i => [(9, .val (.int .i64 (i : Nat))), (3, .val (.int .i64 (gmax Nd.depth (v.kids.take i) : Nat))), (8, .val (.int .i64 (v.kids.length : Nat))), (7, .val (.slice a v.kids.length c))]) (fun _ => [])
    (fun i h' => i ≤ v.kids.length ∧ h' = h) (fun i => v.kids.length - i) 0 ⟨Nat.zero_le _, rfl⟩ (by repeat (first | exact wkF_e | refine wkF_c rfl ?_)) wkB_e rfl ?_
  rintro i _ ⟨hi, rfl⟩
  simp only [go_sem, Nat.reduceBEq]
  refine Br.intro (fun hb => ?_) (fun hb => ?_) <;> (try simp only [hb, go_sem, Nat.reduceBEq])
  · have hb : i < v.kids.length := by simpa using hb
    obtain ⟨b, off, rfl, hat'⟩ := hat (by omega)
    obtain ⟨e, he, hm⟩ := get_lt hb
    have wsu := wrap_succ (i := i) (by omega)
    have hbe := Nd.bulks_mem hm
    have hse := Nd.size_bulk e
    have hde := Nd.depth_size e
    simp only [ix_nat hb, go_sem, Nat.reduceBEq]
    refine hsem_node tyS29 hat' hr he rfl fun s2 rd2 => ?_
    obtain ⟨a2, c2, _, rfl, _⟩ := rd2.rows (by decide) e.kids.length (fm_len Nd.dt_len _)
    simp only [go_sem, Nat.reduceBEq, Nat.reduceAdd, Nat.reduceLeDiff]
    (refine (ih e hm (by omega) _ _ rd2).mono ?_; rintro _ _ ⟨rfl, rfl⟩; simp only [go_sem, Nat.reduceBEq])
    (refine (iMax _ _ _).mono ?_; rintro _ _ ⟨rfl, rfl⟩; simp only [go_sem, Nat.reduceBEq])
    have w1 : max (((gmax Nd.depth (v.kids.take i) : Nat) : Int)) ((e.depth : Nat) : Int) = ((gmax Nd.depth (v.kids.take (i + 1)) : Nat) : Int) := by
      rw [gmax_snoc he]
      omega
    rw [w1]
    try simp only [wsu, go_sem]
    exact Again.intro (i + 1) (by first | omega | (simp only; omega)) ⟨hb, rfl⟩ (by repeat (first | exact wkF_e | refine wkF_c rfl ?_)) wkB_e rfl
  · have hb : i = v.kids.length := by simp at hb; omega
    subst hb
    rw [List.take_length]
    have hD := Nd.depths_size v.kids
    rw [Nd.depths_eq, Nd.sizes_eq] at hD
    have w2 : IntKind.i64.wrap (((gmax Nd.depth v.kids : Nat) : Int) + 1) = ((v.depth : Nat) : Int) := by
      rw [wrap_succ (by omega), Nd.depth_eq]
    rw [w2]
    exact ⟨rfl, rfl⟩
def SDepth (v : Nd) : Prop := v.bulk ≤ 1048576 → ∀ (sl : Value) (h : Hp), RdN h v.kids sl → ACalls Try.prog 21 #[.agg #[.int .i64 v.kind, .int .i64 v.num, .string v.text, sl]] h (Pu (.int .i64 (v.depth : Nat)) h)
theorem sNodeDepth : ∀ v, SDepth v := Nd.ind fun v ih hbk sl h rd => by
  have hB := Nd.bulk_eq v
  have hL := Nd.bulks_len v.kids
  have hS := Nd.sizes_bulk v.kids
  rw [Nd.sizes_eq] at hS
  obtain ⟨a, c, xs, rfl, hc, hr, hat⟩ := rd.rows (by decide) v.kids.length (fm_len Nd.dt_len _)
  (refine enter Try.func21 rfl rfl (by kernel_rfl) [] ?_; simp only [go_sem, Nat.reduceBEq])
  refine aloop (ι := Nat) (fun i => [(4, .val (.int .i64 (i : Nat))), (3, .val (.int .i64 (gmax Nd.depth (v.kids.take i) : Nat))), (1, .box 1 0)]) (fun _ => [(1, [.int .i64 v.kind, .int .i64 v.num, .string v.text, .slice a v.kids.length c])])
    (fun i h' => i ≤ v.kids.length ∧ h' = h) (fun i => v.kids.length - i) 0 ⟨Nat.zero_le _, rfl⟩ (by repeat (first | exact wkF_e | refine wkF_c rfl ?_)) (wkB_c rfl wkB_e) rfl ?_
  rintro i _ ⟨hi, rfl⟩
  simp only [go_sem, Nat.reduceBEq]
  refine Br.intro (fun hb => ?_) (fun hb => ?_) <;> (try simp only [hb, go_sem, Nat.reduceBEq])
  · have hb : i < v.kids.length := by simpa using hb
    obtain ⟨b, off, rfl, hat'⟩ := hat (by omega)
    obtain ⟨e, he, hm⟩ := get_lt hb
    have wsu := wrap_succ (i := i) (by omega)
    have hbe := Nd.bulks_mem hm
    have hse := Nd.size_bulk e
    have hde := Nd.depth_size e
    simp only [ix_nat hb, go_sem, Nat.reduceBEq]
    refine hsem_node tyS29 hat' hr he rfl fun s2 rd2 => ?_
    obtain ⟨a2, c2, _, rfl, _⟩ := rd2.rows (by decide) e.kids.length (fm_len Nd.dt_len _)
    simp only [go_sem, Nat.reduceBEq]
    (refine (ih e hm (by omega) _ _ rd2).mono ?_; rintro _ _ ⟨rfl, rfl⟩; simp only [go_sem, Nat.reduceBEq])
    (refine (sMax _ _ _).mono ?_; rintro _ _ ⟨rfl, rfl⟩; simp only [go_sem, Nat.reduceBEq])
    have w1 : max (((gmax Nd.depth (v.kids.take i) : Nat) : Int)) ((e.depth : Nat) : Int) = ((gmax Nd.depth (v.kids.take (i + 1)) : Nat) : Int) := by
      rw [gmax_snoc he]
      omega
    rw [w1]
    try simp only [wsu, go_sem]
    exact Again.intro (i + 1) (by first | omega | (simp only; omega)) ⟨hb, rfl⟩ (by repeat (first | exact wkF_e | refine wkF_c rfl ?_)) (wkB_c rfl wkB_e) rfl
  · have hb : i = v.kids.length := by simp at hb; omega
    subst hb
    rw [List.take_length]
    have hD := Nd.depths_size v.kids
    rw [Nd.depths_eq, Nd.sizes_eq] at hD
    have w2 : IntKind.i64.wrap (((gmax Nd.depth v.kids : Nat) : Int) + 1) = ((v.depth : Nat) : Int) := by
      rw [wrap_succ (by omega), Nd.depth_eq]
    rw [w2]
    exact ⟨rfl, rfl⟩
/-- whether two nodes are the same -/
def SameP (h : Hp) (v u : Nd) (x : Value) (h' : Hp) : Prop := h = h' ∧ ∃ r : Bool, x = .bool r ∧ (r = true ↔ v = u)
theorem SameP.no {h : Hp} {v u : Nd} (hn : ¬ v = u) : SameP h v u (.bool false) h := ⟨rfl, false, rfl, by simp [hn]⟩
def ISame (v : Nd) : Prop := ∀ u : Nd, v.bulk ≤ 1048576 → u.bulk ≤ 1048576 → ∀ (sl sm : Value) (h : Hp), RdN h v.kids sl → RdN h u.kids sm → ACalls Try.prog 23 #[.agg #[.int .i64 v.kind, .int .i64 v.num, .string v.text, sl], .agg #[.int .i64 u.kind, .int .i64 u.num, .string u.text, sm]] h (SameP h v u)
theorem iSameNode : ∀ v, ISame v := Nd.ind fun v ih u hbk hbu sl sm h rd ru => by
  have hB := Nd.bulk_eq v
  have hL := Nd.bulks_len v.kids
  have hBu := Nd.bulk_eq u
  obtain ⟨a, c, xs, rfl, hc, hr, hat⟩ := rd.rows (by decide) v.kids.length (fm_len Nd.dt_len _)
  obtain ⟨a2, c2, xs2, rfl, hc2, hr2, hat2⟩ := ru.rows (by decide) u.kids.length (fm_len Nd.dt_len _)
  (refine enter Try.func23 rfl rfl (by kernel_rfl) [] ?_; simp only [go_sem, Nat.reduceBEq])
  by_cases h1 : v.kind = u.kind
  case neg => simp only [decide_eq_false h1, Bool.not_false, go_sem, Nat.reduceBEq]; exact SameP.no (by rintro rfl; exact h1 rfl)
  simp only [decide_eq_true h1, Bool.not_true, go_sem, Nat.reduceBEq]
  by_cases h2 : v.num = u.num
  case neg => simp only [decide_eq_false h2, Bool.not_false, go_sem, Nat.reduceBEq]; exact SameP.no (by rintro rfl; exact h2 rfl)
  simp only [decide_eq_true h2, Bool.not_true, go_sem, Nat.reduceBEq]
  by_cases h3 : v.text = u.text
  case neg => simp only [decide_eq_false h3, Bool.not_false, go_sem, Nat.reduceBEq]; exact SameP.no (by rintro rfl; exact h3 rfl)
  simp only [decide_eq_true h3, Bool.not_true, go_sem, Nat.reduceBEq]
  by_cases h4 : v.kids.length = u.kids.length
  case neg => simp only [decide_eq_false (show ¬ ((v.kids.length : Nat) : Int) = ((u.kids.length : Nat) : Int) by omega), Bool.not_false, go_sem, Nat.reduceBEq]; exact SameP.no (by rintro rfl; exact h4 rfl)
  simp only [decide_eq_true (show ((v.kids.length : Nat) : Int) = ((u.kids.length : Nat) : Int) by omega), Bool.not_true, go_sem, Nat.reduceBEq]
  refine aloop (ι := Nat) (fun i => [(37, .val (.int .i64 (i : Nat))), (36, .val (.int .i64 (v.kids.length : Nat))), (2, .box 2 0), (3, .box 3 0)]) (fun _ => [(2, [.int .i64 v.kind, .int .i64 v.num, .string v.text, .slice a v.kids.length c]), (3, [.int .i64 u.kind, .int .i64 u.num, .string u.text, .slice a2 u.kids.length c2])])
    (fun i h' => i ≤ v.kids.length ∧ v.kids.take i = u.kids.take i ∧ h' = h) (fun i => v.kids.length - i) 0 ⟨Nat.zero_le _, rfl, rfl⟩ (by repeat (first | exact wkF_e | refine wkF_c rfl ?_)) (wkB_c rfl (wkB_c rfl wkB_e)) rfl ?_
  rintro i _ ⟨hi, hq, rfl⟩
  simp only [go_sem, Nat.reduceBEq]
  refine Br.intro (fun hb => ?_) (fun hb => ?_) <;> (try simp only [hb, go_sem, Nat.reduceBEq])
  · have hb : i < v.kids.length := by simpa using hb
    obtain ⟨b, off, rfl, hat'⟩ := hat (by omega)
    obtain ⟨e, he, hm⟩ := get_lt hb
    obtain ⟨b2, off2, rfl, hat2'⟩ := hat2 (by omega)
    obtain ⟨e2, he2, hm2⟩ := get_lt (l := u.kids) (i := i) (by omega)
    have wsu := wrap_succ (i := i) (by omega)
    have hbe := Nd.bulks_mem hm
    have hbe2 := Nd.bulks_mem hm2
    refine regionD_intro (lb := [41, 46]) (by kernel_rfl) ?_
    simp only [ix_nat hb, go_sem, Nat.reduceBEq]
    refine hsem_node tyS29 hat' hr he rfl fun s2 rd2 => ?_
    obtain ⟨a3, c3, _, rfl, _⟩ := rd2.rows (by decide) e.kids.length (fm_len Nd.dt_len _)
    simp only [ix_nat (show i < u.kids.length by omega), go_sem, Nat.reduceBEq]
    refine hsem_node tyS29 hat2' hr2 he2 rfl fun s3 rd3 => ?_
    obtain ⟨a4, c4, _, rfl, _⟩ := rd3.rows (by decide) e2.kids.length (fm_len Nd.dt_len _)
    simp only [go_sem, Nat.reduceBEq]
    refine (ih e hm e2 (by omega) (by omega) _ _ _ rd2 rd3).mono ?_
    rintro _ _ ⟨rfl, r, rfl, hr'⟩
    simp only [go_sem, Nat.reduceBEq]
    cases r with
    | false =>
      try simp only [go_sem, Nat.reduceBEq]
      refine SameP.no fun e' => ?_
      subst e'
      rw [he] at he2
      cases he2
      exact absurd (hr'.2 rfl) (by simp)
    | true =>
      have ee := hr'.1 rfl
      subst ee
      try simp only [wsu, go_sem, Nat.reduceBEq]
      exact Again.intro (i + 1) (by first | omega | (simp only; omega)) ⟨hb, by rw [take_snoc he, take_snoc he2, hq], rfl⟩ (by repeat (first | exact wkF_e | refine wkF_c rfl ?_)) (wkB_c rfl (wkB_c rfl wkB_e)) rfl
  · have hb : i = v.kids.length := by simp at hb; omega
    subst hb
    rw [List.take_length, h4, List.take_length] at hq
    try simp only [go_sem, Nat.reduceBEq, Nat.reduceAdd, Nat.reduceLeDiff, Nat.reduceEqDiff, Int.reduceEq, not_false_eq_true, Int.reduceToNat]
    exact ⟨rfl, true, rfl, fun _ => by rw [← v.eta, ← u.eta, h1, h2, h3, hq], fun _ => rfl⟩
end Go.Proofs.Ytamjpcmcpcdggaa
