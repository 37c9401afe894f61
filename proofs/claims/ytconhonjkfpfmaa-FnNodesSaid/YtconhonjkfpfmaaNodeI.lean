/-
  The draws of syntax trees: each returns some node, of a bulk that is bounded; what it makes is laid aside.
-/
import Derived.Test.YtconhonjkfpfmaaNodeF
import Derived.Test.YtconhonjkfpfmaaNodeH
namespace Go.Proofs.Ytconhonjkfpfmaa
set_option maxRecDepth 8000
open Go Go.Sx
section
variable {h0 h : Hp} {bag : Bag} {l : List UInt8} {p : Nat}
def BentS (l : List UInt8) (p : Nat) (v : Nd) : Prop := v.bulk ≤ 1000000 → ∀ {h0 h : Hp} {bag : Bag} {sl : Value}, RdN h0 v.kids sl → CurM h0 h l p bag → ACalls Try.prog 16 #[pv p, .agg #[.int .i64 v.kind, .int .i64 v.num, .string v.text, sl]] h (NodP (v.bulk + 8) h0 l p bag)
set_option maxHeartbeats 40000000 in
theorem l15Bent_c (hl : l.length ≤ 1048576) : ∀ v : Nd, BentS l p v := Nd.ind fun v ih hb h0 h bag sl r m => by
  have hB := Nd.bulk_eq v
  have hK := Nd.bulks_len v.kids
  obtain ⟨a, c, xs, rfl, hc, rl, hat⟩ := r.rows (by decide) v.kids.length (fm_len Nd.dt_len _)
  (refine enter Try.func16 rfl rfl (by kernel_rfl) [] ?_; simp only [go_sem, Nat.reduceBEq])
  try simp only [go_sem, Nat.reduceBEq, Nat.reduceAdd, Nat.reduceLeDiff, Nat.reduceEqDiff, Int.reduceEq, not_false_eq_true, Int.reduceToNat]
  by_cases hz : 0 < v.kids.length
  case neg =>
    simp only [show decide ((0 : Int) < ((v.kids.length : Nat) : Int)) = false from decide_eq_false (by omega), go_sem, Nat.reduceBEq]
    refine (l1Below_c hl m 9 (by decide) (by decide)).mono ?_
    rintro _ h590 ⟨n590, rfl, p590, q590, m590⟩
    try simp only [go_sem, Nat.reduceBEq]
    by_cases d592 : n590 = 0
    · simp only [decide_eq_true d592, go_sem, Nat.reduceBEq]
      refine cur_ints [-1, 1, 2, 3, 16, 1000000001] slT45 rfl rfl rfl (by decide) (by decide) m590 fun v591 h591 m591 => ?_
      try simp only [go_sem, Nat.reduceBEq]
      refine (l1Int_c hl m591 (by decide) (by decide)).mono ?_
      rintro _ g591 ⟨n591, _, rfl, m591⟩
      have m591 := m591.drop
      try simp only [go_sem, Nat.reduceBEq, Nat.reduceAdd, Nat.reduceLeDiff]
      exact NodP.mk v.kind n591 v.text r rfl (by omega) m591
    simp only [decide_eq_false d592, go_sem, Nat.reduceBEq]
    by_cases d594 : n590 = 1
    · simp only [decide_eq_true d594, go_sem, Nat.reduceBEq]
      refine cur_strs [⟨#[]⟩, ⟨#[120]⟩, ⟨#[105, 102]⟩, ⟨#[65, 58, 58, 98]⟩, ⟨#[60, 63]⟩, ⟨#[49]⟩] slT47 rfl rfl rfl (by decide) (by decide) m590 fun v593 h593 m593 => ?_
      try simp only [go_sem, Nat.reduceBEq]
      refine (l1Str_c hl m593 (by decide) (by decide)).mono ?_
      rintro _ g593 ⟨s593, t593, rfl, m593⟩
      have z593 := (by decide : ∀ s ∈ ([⟨#[]⟩, ⟨#[120]⟩, ⟨#[105, 102]⟩, ⟨#[65, 58, 58, 98]⟩, ⟨#[60, 63]⟩, ⟨#[49]⟩] : List ByteArray), s.size ≤ 4) s593 t593
      clear t593
      have m593 := m593.drop
      try simp only [go_sem, Nat.reduceBEq, Nat.reduceAdd, Nat.reduceLeDiff]
      exact NodP.mk v.kind v.num s593 r rfl (by omega) m593
    simp only [decide_eq_false d594, go_sem, Nat.reduceBEq]
    by_cases d596 : n590 = 2
    · simp only [decide_eq_true d596, go_sem, Nat.reduceBEq]
      refine (l1Below_c hl m590 58 (by decide) (by decide)).mono ?_
      rintro _ h595 ⟨n595, rfl, p595, q595, m595⟩
      try simp only [go_sem, Nat.reduceBEq, Nat.reduceAdd, Nat.reduceLeDiff]
      exact NodP.mk n595 v.num v.text r rfl (by omega) m595
    simp only [decide_eq_false d596, go_sem, Nat.reduceBEq]
    by_cases d603 : n590 = 3
    · simp only [decide_eq_true d603, go_sem]
      refine cur_own0 slT24 rfl m590 fun v597 h597 m597 => ?_
      try simp only [go_sem, Nat.reduceBEq]
      refine cur_nadd (es := []) slT24 rfl rfl (by decide) m597 (RdL_nil.2 rfl) r (by decide) (by omega) fun u598 a598 c598 h598 r598 m598 => ?_
      have q598 : ([] : List Nd) ++ v.kids = v.kids := rfl
      rw [q598] at r598 m598 ⊢
      try simp only [go_sem, Nat.reduceBEq, Nat.reduceAdd, Nat.reduceLeDiff]
      refine regionD_intro (lb := [63]) (by kernel_rfl) ?_
      try simp only [go_sem, Nat.reduceBEq]
      refine (l15Var_c hl m598).mono ?_
      rintro _ h599 ⟨H599, x599, a599, c599, rfl, e599, b599, r599, m599⟩
      try simp only [go_sem, Nat.reduceBEq]
      refine cur_nodes [(x599, .slice a599 x599.kids.length c599)] [x599] rfl slT24 rfl rfl rfl (by decide) (by decide) (all1 r599) m599 fun H600 a600 c600 h600 e600 r600 m600 => ?_
      try simp only [go_sem, Nat.reduceBEq]
      refine cur_nadd (es := v.kids) slT24 rfl rfl (by decide) m600 ((r598.mono e599).mono e600) r600 (by omega) (Nat.le_of_ble_eq_true rfl) fun u601 a601 c601 h601 r601 m601 => ?_
      try simp only [go_sem, Nat.reduceBEq, Nat.reduceAdd, Nat.reduceLeDiff]
      obtain ⟨H602, e602, r602, m602⟩ := cur_fix m601 r601
      have qb := Nd.bulks_app v.kids [x599]
      rw [Nd.bulks_cons, Nd.bulks_nil] at qb
      exact NodP.base ((e599.trans e600).trans e602) (NodP.mk v.kind v.num v.text r602 rfl (by show v.text.size + Nd.bulks (v.kids ++ [x599]) ≤ _; omega) m602)
    simp only [decide_eq_false d603, go_sem, Nat.reduceBEq, Nat.reduceAdd, Nat.reduceLeDiff]
    exact NodP.mk v.kind v.num v.text r rfl (by omega) m590
  simp only [show decide ((0 : Int) < ((v.kids.length : Nat) : Int)) = true from decide_eq_true (by omega), go_sem, Nat.reduceBEq]
  refine (l1Once_c hl m 2 (by decide) (by decide)).mono ?_
  rintro _ h1 ⟨y, rfl, m1⟩
  try simp only [go_sem, Nat.reduceBEq]
  cases y with
  | false =>
    try simp only [go_sem, Nat.reduceBEq]
    refine (l1Below_c hl m1 9 (by decide) (by decide)).mono ?_
    rintro _ h604 ⟨n604, rfl, p604, q604, m604⟩
    try simp only [go_sem, Nat.reduceBEq]
    by_cases d606 : n604 = 0
    · simp only [decide_eq_true d606, go_sem, Nat.reduceBEq]
      refine cur_ints [-1, 1, 2, 3, 16, 1000000001] slT45 rfl rfl rfl (by decide) (by decide) m604 fun v605 h605 m605 => ?_
      try simp only [go_sem, Nat.reduceBEq]
      refine (l1Int_c hl m605 (by decide) (by decide)).mono ?_
      rintro _ g605 ⟨n605, _, rfl, m605⟩
      have m605 := m605.drop
      try simp only [go_sem, Nat.reduceBEq, Nat.reduceAdd, Nat.reduceLeDiff]
      exact NodP.mk v.kind n605 v.text r rfl (by omega) m605
    simp only [decide_eq_false d606, go_sem, Nat.reduceBEq]
    by_cases d608 : n604 = 1
    · simp only [decide_eq_true d608, go_sem, Nat.reduceBEq]
      refine cur_strs [⟨#[]⟩, ⟨#[120]⟩, ⟨#[105, 102]⟩, ⟨#[65, 58, 58, 98]⟩, ⟨#[60, 63]⟩, ⟨#[49]⟩] slT47 rfl rfl rfl (by decide) (by decide) m604 fun v607 h607 m607 => ?_
      try simp only [go_sem, Nat.reduceBEq]
      refine (l1Str_c hl m607 (by decide) (by decide)).mono ?_
      rintro _ g607 ⟨s607, t607, rfl, m607⟩
      have z607 := (by decide : ∀ s ∈ ([⟨#[]⟩, ⟨#[120]⟩, ⟨#[105, 102]⟩, ⟨#[65, 58, 58, 98]⟩, ⟨#[60, 63]⟩, ⟨#[49]⟩] : List ByteArray), s.size ≤ 4) s607 t607
      clear t607
      have m607 := m607.drop
      try simp only [go_sem, Nat.reduceBEq, Nat.reduceAdd, Nat.reduceLeDiff]
      exact NodP.mk v.kind v.num s607 r rfl (by omega) m607
    simp only [decide_eq_false d608, go_sem, Nat.reduceBEq]
    by_cases d610 : n604 = 2
    · simp only [decide_eq_true d610, go_sem, Nat.reduceBEq]
      refine (l1Below_c hl m604 58 (by decide) (by decide)).mono ?_
      rintro _ h609 ⟨n609, rfl, p609, q609, m609⟩
      try simp only [go_sem, Nat.reduceBEq, Nat.reduceAdd, Nat.reduceLeDiff]
      exact NodP.mk n609 v.num v.text r rfl (by omega) m609
    simp only [decide_eq_false d610, go_sem, Nat.reduceBEq]
    by_cases d617 : n604 = 3
    · simp only [decide_eq_true d617, go_sem]
      refine cur_own0 slT24 rfl m604 fun v611 h611 m611 => ?_
      try simp only [go_sem, Nat.reduceBEq]
      refine cur_nadd (es := []) slT24 rfl rfl (by decide) m611 (RdL_nil.2 rfl) r (by decide) (by omega) fun u612 a612 c612 h612 r612 m612 => ?_
      have q612 : ([] : List Nd) ++ v.kids = v.kids := rfl
      rw [q612] at r612 m612 ⊢
      try simp only [go_sem, Nat.reduceBEq, Nat.reduceAdd, Nat.reduceLeDiff]
      refine regionD_intro (lb := [63]) (by kernel_rfl) ?_
      try simp only [go_sem, Nat.reduceBEq]
      refine (l15Var_c hl m612).mono ?_
      rintro _ h613 ⟨H613, x613, a613, c613, rfl, e613, b613, r613, m613⟩
      try simp only [go_sem, Nat.reduceBEq]
      refine cur_nodes [(x613, .slice a613 x613.kids.length c613)] [x613] rfl slT24 rfl rfl rfl (by decide) (by decide) (all1 r613) m613 fun H614 a614 c614 h614 e614 r614 m614 => ?_
      try simp only [go_sem, Nat.reduceBEq]
      refine cur_nadd (es := v.kids) slT24 rfl rfl (by decide) m614 ((r612.mono e613).mono e614) r614 (by omega) (Nat.le_of_ble_eq_true rfl) fun u615 a615 c615 h615 r615 m615 => ?_
      try simp only [go_sem, Nat.reduceBEq, Nat.reduceAdd, Nat.reduceLeDiff]
      obtain ⟨H616, e616, r616, m616⟩ := cur_fix m615 r615
      have qb := Nd.bulks_app v.kids [x613]
      rw [Nd.bulks_cons, Nd.bulks_nil] at qb
      exact NodP.base ((e613.trans e614).trans e616) (NodP.mk v.kind v.num v.text r616 rfl (by show v.text.size + Nd.bulks (v.kids ++ [x613]) ≤ _; omega) m616)
    simp only [decide_eq_false d617, go_sem, Nat.reduceBEq, Nat.reduceAdd, Nat.reduceLeDiff]
    exact NodP.mk v.kind v.num v.text r rfl (by omega) m604
  | true =>
  try simp only [go_sem, Nat.reduceBEq]
  refine (l1Below_c hl m1 (v.kids.length : Nat) (by omega) (by omega)).mono ?_
  rintro _ h2 ⟨n, rfl, n0, n1, m2⟩
  obtain ⟨i, rfl⟩ : ∃ i : Nat, n = i := ⟨n.toNat, by omega⟩
  have hi : i < v.kids.length := by omega
  try simp only [go_sem, Nat.reduceBEq, Nat.reduceAdd, Nat.reduceLeDiff]
  refine (l15Copy_c v (by omega) r m2).mono ?_
  rintro _ h3 ⟨H3, us3, a3, c3, rfl, e3, r3, m3⟩
  obtain ⟨b3, k3, eq3⟩ := m3.row0 hz (by rw [List.length_map, r3.len, fm_len Nd.dt_len])
  cases eq3
  obtain ⟨e, he, hm⟩ := get_lt hi
  have hbe := Nd.bulks_mem hm
  have hix : ixA (some 4) (some ⟨b3, 0, none⟩) v.kids.length (i : Int) = some (.pointer (some ⟨b3, 0 + i * 4, none⟩)) := ix_nat hi
  simp only [hix, go_sem, Nat.reduceBEq, Nat.reduceAdd, Nat.reduceLeDiff]
  refine cur_nget tyS26 m3 hz r3 he (by omega) fun sl4 r4 => ?_
  try simp only [go_sem, Nat.reduceBEq]
  refine (ih e hm (by omega) r4 m3).mono ?_
  rintro _ h5 ⟨H5, x, a5, c5, rfl, e5, b5, r5, m5⟩
  simp only [hix, go_sem, Nat.reduceBEq, Nat.reduceAdd, Nat.reduceLeDiff]
  refine cur_nset tyS26 m5 hz (r3.mono e5) hi r5 (by omega) fun us6 h6 r6 m6 => ?_
  try refine ⟨trivial, ?_⟩
  try simp only [go_sem, Nat.reduceBEq, Nat.reduceAdd, Nat.reduceLeDiff]
  obtain ⟨H7, e7, r7, m7⟩ := cur_fix m6 r6
  have hsb := set_bulks (x := x) he
  exact NodP.base (e3.trans (e5.trans e7)) (NodP.mk v.kind v.num v.text r7 List.length_set (by omega) m7)
theorem drawIsScript_c (hl : l.length ≤ 1048576) {sl : Value} (rd : RdS h0 1 sl (bcells l)) (m : My h0 h bag) : ACalls Try.prog 5 #[sl] h (fun u h' => ∃ p, NodP 199008 h0 l p bag u h') := by
  (refine enter Try.func5 rfl rfl (by kernel_rfl) [] ?_; simp only [go_sem, Nat.reduceBEq])
  refine (l1New_c hl rd m).mono ?_
  rintro _ h1 ⟨p, rfl, m1⟩
  try simp only [go_sem, Nat.reduceBEq]
  refine (l15Script_c hl m1).mono ?_
  rintro _ h2 ⟨H2, x, a2, c2, rfl, e2, b2, r2, m2⟩
  try simp only [go_sem, Nat.reduceBEq]
  refine (l15Bent_c hl x (by omega) r2 m2).mono ?_
  rintro _ h3 ⟨H3, y, a3, c3, rfl, e3, b3, r3, m3⟩
  try simp only [go_sem, Nat.reduceBEq, Nat.reduceAdd, Nat.reduceLeDiff]
  exact ⟨p, H3, y, a3, c3, rfl, e2.trans e3, by omega, r3, m3⟩
/-- two nodes -/
def Nod2P (h0 : Hp) (l : List UInt8) (bag : Bag) (u : Value) (h' : Hp) : Prop := ∃ (p : Nat) (h1 : Hp) (v w : Nd) (a b : Option Addr) (c d : Nat), u = .tuple #[.agg #[.int .i64 v.kind, .int .i64 v.num, .string v.text, .slice a v.kids.length c], .agg #[.int .i64 w.kind, .int .i64 w.num, .string w.text, .slice b w.kids.length d]] ∧ Ext h0 h1 ∧ v.bulk ≤ 1000 ∧ w.bulk ≤ 1000 ∧ RdN h1 v.kids (.slice a v.kids.length c) ∧ RdN h1 w.kids (.slice b w.kids.length d) ∧ CurM h1 h' l p bag
theorem drawSameNode_c (hl : l.length ≤ 1048576) {sl : Value} (rd : RdS h0 1 sl (bcells l)) (m : My h0 h bag) : ACalls Try.prog 13 #[sl] h (Nod2P h0 l bag) := by
  have h3 : mB 3 = 368 := rfl
  (refine enter Try.func13 rfl rfl (by kernel_rfl) [] ?_; simp only [go_sem, Nat.reduceBEq])
  refine (l1New_c hl rd m).mono ?_
  rintro _ h1 ⟨p, rfl, m1⟩
  try simp only [go_sem, Nat.reduceBEq]
  refine (l15Make_c hl 3 (by decide) 3 (by decide) (by decide) m1).mono ?_
  rintro _ h2 ⟨H2, x, a2, c2, rfl, e2, b2, r2, m2⟩
  try simp only [go_sem, Nat.reduceBEq, Nat.reduceAdd, Nat.reduceLeDiff]
  refine regionD_intro (lb := [10, 12]) (by kernel_rfl) ?_
  try simp only [go_sem, Nat.reduceBEq, Nat.reduceAdd, Nat.reduceLeDiff]
  refine (l15Copy_c x (by omega) r2 m2).mono ?_
  rintro _ h3 ⟨H3, us3, a3, c3, rfl, e3, r3, m3⟩
  obtain ⟨H4, e4, r4, m4⟩ := cur_fix m3 r3
  try simp only [go_sem, Nat.reduceBEq]
  refine (l15Bent_c hl x (by omega) r4 m4).mono ?_
  rintro _ h5 ⟨H5, y, a5, c5, rfl, e5, b5, r5, m5⟩
  try simp only [go_sem, Nat.reduceBEq, Nat.reduceAdd, Nat.reduceLeDiff]
  exact ⟨p, H5, x, y, a2, a5, c2, c5, rfl, e2.trans (e3.trans (e4.trans e5)), by omega, by omega, r2.mono (e3.trans (e4.trans e5)), r5, m5⟩
end
end Go.Proofs.Ytconhonjkfpfmaa
