/-
  The draws of syntax trees: each returns some node, of a bulk that is bounded; what it makes is laid aside.
-/
import Derived.Test.YtconhonjkfpfmaaNodeE
namespace Go.Proofs.Ytconhonjkfpfmaa
set_option maxRecDepth 8000
open Go Go.Sx
section
variable {h0 h : Hp} {bag : Bag} {l : List UInt8} {p : Nat}
def sB : Nat → Nat
  | 0 => 140
  | d + 1 => 180 + 2 * (3 * (1 + sB d))
def dB (d : Nat) : Nat := 3 * (1 + sB d)
theorem sB_pos : ∀ d, 140 ≤ sB d
  | 0 => Nat.le_refl _
  | d + 1 => by
    rw [sB]
    omega
def StepS (l : List UInt8) (p : Nat) (d : Nat) : Prop := ∀ (deep : Int), 0 ≤ deep → deep ≤ d → ∀ (lp gn : Bool) {h0 h : Hp} {bag : Bag}, CurM h0 h l p bag → ACalls Try.prog 32 #[pv p, .int .i64 deep, .bool lp, .bool gn] h (NodP (sB d) h0 l p bag)
theorem l15Do_c (hl : l.length ≤ 1048576) {d : Nat} (hs : sB d ≤ 100000) (st : StepS l p d) (deep : Int) (h1 : 0 ≤ deep) (hi : deep ≤ d) (lp gn : Bool) (m : CurM h0 h l p bag) : ACalls Try.prog 46 #[pv p, .int .i64 deep, .bool lp, .bool gn] h (NodP (dB d) h0 l p bag) := by
  have hD : dB d = 3 * (1 + sB d) := rfl
  (refine enter Try.func46 rfl rfl (by kernel_rfl) [] ?_; simp only [go_sem])
  refine (l15N_c _ _ _ _ _ _).mono ?_
  rintro _ _ ⟨rfl, rfl⟩
  try simp only [go_sem, Nat.reduceBEq, Nat.reduceAdd, Nat.reduceLeDiff]
  refine (l1Below_c hl m 3 (by decide) (by decide)).mono ?_
  rintro _ h2 ⟨n, rfl, n0, n1, m2⟩
  obtain ⟨i, rfl⟩ : ∃ i : Nat, n = i := ⟨n.toNat, by omega⟩
  have w1 : IntKind.i64.wrap (1 + (i : Int)) = ((i + 1 : Nat) : Int) := by rw [IntWalk.i64_in _ (by omega)]; omega
  simp only [w1, go_sem, Nat.reduceBEq]
  have q1 : (i + 1) * (1 + sB d) ≤ 3 * (1 + sB d) := Nat.mul_le_mul_right _ (by omega)
  refine aloop (ι := Hp × Nat × List Nd × List Value × Option Addr × Nat) (fun x => [(10, .val (.int .i64 (x.2.1 : Nat))), (9, .box 9 0), (8, .box 8 0), (3, .val (.bool gn)), (2, .val (.bool lp)), (1, .val (.int .i64 deep)), (0, .val (pv p))])
    (fun x => [(9, [.int .i64 48, .int .i64 0, .string ⟨#[]⟩, .slice x.2.2.2.2.1 x.2.2.1.length x.2.2.2.2.2]), (8, [.int .i64 0, .int .i64 0, .string ⟨#[]⟩, .slice none 0 0])])
    (fun x h' => x.2.2.1.length + x.2.1 ≤ 3 ∧ Ext h0 x.1 ∧ Nd.bulks x.2.2.1 + x.2.1 * (1 + sB d) ≤ 3 * (1 + sB d) ∧ RdL x.1 (x.2.2.1.flatMap Nd.dt) x.2.2.2.1 ∧ CurM x.1 h' l p ((.row 4 (x.2.2.2.1.map .raw), .slice x.2.2.2.2.1 x.2.2.1.length x.2.2.2.2.2) :: bag))
    (fun x => x.2.1) (h0, i + 1, [], [], none, 0) ⟨(show 0 + (i + 1) ≤ 3 by omega), Ext.refl _, (by show Nd.bulks [] + (i + 1) * (1 + sB d) ≤ _; rw [Nd.bulks_nil]; omega), by simp only [List.flatMap_nil, RdL_nil], m2.nilkids⟩ (by repeat (first | exact wkF_e | refine wkF_c rfl ?_)) (wkB_c rfl (wkB_c rfl wkB_e)) rfl ?_
  rintro ⟨H, k, es, us, a, c⟩ h3 ⟨hk, e0, hb, hr, m3⟩
  have hk : es.length + k ≤ 3 := hk
  have e0 : Ext h0 H := e0
  have hb : Nd.bulks es + k * (1 + sB d) ≤ 3 * (1 + sB d) := hb
  have hr : RdL H (es.flatMap Nd.dt) us := hr
  have m3 : CurM H h3 l p ((.row 4 (us.map .raw), .slice a es.length c) :: bag) := m3
  clear m2 m
  try simp only [go_sem, Nat.reduceBEq]
  cases k with
  | zero =>
    simp only [show decide ((0 : Int) < ((0 : Nat) : Int)) = false from rfl, go_sem, Nat.reduceBEq, Nat.reduceAdd, Nat.reduceLeDiff]
    obtain ⟨H4, e4, r4, m4⟩ := cur_fix m3 hr
    exact NodP.base (e0.trans e4) (NodP.mk 48 0 ⟨#[]⟩ r4 rfl (by rw [bsz, hD]; show 0 + Nd.bulks es ≤ _; omega) m4)
  | succ k =>
  have hmul : (k + 1) * (1 + sB d) = k * (1 + sB d) + (1 + sB d) := by rw [Nat.add_mul, Nat.one_mul]
  have w2 : IntKind.i64.wrap (((k + 1 : Nat) : Int) - 1) = (k : Nat) := by rw [IntWalk.i64_in _ (by omega)]; omega
  simp only [show decide ((0 : Int) < ((k + 1 : Nat) : Int)) = true from decide_eq_true (by omega), go_sem]
  refine regionD_intro (lb := [20]) (by kernel_rfl) ?_
  try simp only [go_sem, Nat.reduceBEq]
  refine (st deep h1 hi lp gn m3).mono ?_
  rintro _ h4 ⟨H4, x, a4, c4, rfl, e4, b4, r4, m4⟩
  try simp only [go_sem, Nat.reduceBEq]
  refine cur_nodes [(x, .slice a4 x.kids.length c4)] [x] rfl slT24 rfl rfl rfl (by decide) (by decide) (all1 r4) m4 fun H5 a5 c5 h5 e5 r5 m5 => ?_
  try simp only [go_sem, Nat.reduceBEq]
  refine cur_nadd (es := es) slT24 rfl rfl (by decide) m5 (hr.mono (e4.trans e5)) r5 (by omega) (Nat.le_of_ble_eq_true rfl) fun us6 a6 c6 h6 hr6 m6 => ?_
  simp only [w2, go_sem, Nat.reduceBEq, Nat.reduceAdd, Nat.reduceLeDiff]
  exact Again.intro (H5, k, es ++ [x], us6, a6, c6) (by first | omega | (simp only; omega)) ⟨(by show (es ++ [x]).length + k ≤ 3; rw [List.length_append, List.length_cons, List.length_nil]; omega), e0.trans (e4.trans e5), (by show Nd.bulks (es ++ [x]) + k * (1 + sB d) ≤ _; rw [Nd.bulks_app, Nd.bulks_cons, Nd.bulks_nil]; omega), hr6, m6⟩ (by repeat (first | exact wkF_e | refine wkF_c rfl ?_)) (wkB_c rfl (wkB_c rfl wkB_e)) rfl
set_option maxHeartbeats 40000000 in
theorem l15Step_s (hl : l.length ≤ 1048576) (d : Nat) (hd2 : d ≤ 2) (hs : sB d ≤ 100000) (prev : ∀ e, e + 1 = d → StepS l p e) : StepS l p d := by
  intro deep lo hi lp gn h0 h bag m
  have hB := sB_pos d
  have h2 : mB 2 = 116 := rfl
  have h0' : mB 0 = 4 := rfl
  (refine enter Try.func32 rfl rfl (by kernel_rfl) [] ?_; simp only [go_sem, Nat.reduceBEq])
  refine (l15Make_c hl 2 (by decide) 2 (by decide) (by decide) m).mono ?_
  rintro _ h112 ⟨H112, x112, a112, c112, rfl, e112, b112, r112, m112⟩
  try simp only [go_sem, Nat.reduceBEq, Nat.reduceAdd, Nat.reduceLeDiff]
  by_cases hz : deep ≤ 0
  · simp only [decide_eq_true hz, go_sem, Nat.reduceBEq]
    refine (l1Below_c hl m112 9 (by decide) (by decide)).mono ?_
    rintro _ h113 ⟨n113, rfl, p113, q113, m113⟩
    try simp only [go_sem, Nat.reduceBEq]
    by_cases d117 : n113 = 0
    · simp only [decide_eq_true d117, go_sem, Nat.reduceBEq]
      cases lp with
      | true =>
        try simp only [go_sem, Nat.reduceBEq]
        refine (l1Below_c hl m113 2 (by decide) (by decide)).mono ?_
        rintro _ h114 ⟨n114, rfl, p114, q114, m114⟩
        try simp only [go_sem, Nat.reduceBEq]
        refine (l15N_c _ _ _ _ _ _).mono ?_
        rintro _ _ ⟨rfl, rfl⟩
        try simp only [go_sem, Nat.reduceBEq, Nat.reduceAdd, Nat.reduceLeDiff]
        exact NodP.base e112 (NodP.leaf _ 0 ⟨#[]⟩ (by (try simp only [bsz, List.size_toArray, List.length_nil]); omega) m114)
      | false =>
        try simp only [go_sem, Nat.reduceBEq, Nat.reduceAdd, Nat.reduceLeDiff]
        refine cur_nodes [(x112, .slice a112 x112.kids.length c112)] [x112] rfl slT24 rfl rfl rfl (by decide) (by decide) (all1 r112) m113 fun H116 a116 c116 h116 e116 r116 m116 => ?_
        try simp only [go_sem, Nat.reduceBEq]
        refine (l15N_c _ _ _ _ _ _).mono ?_
        rintro _ _ ⟨rfl, rfl⟩
        try simp only [go_sem, Nat.reduceBEq, Nat.reduceAdd, Nat.reduceLeDiff]
        exact NodP.base (e112.trans e116) (NodP.mk 32 0 ⟨#[]⟩ r116 rfl (by (try simp only [bsz, Nd.bulks_cons, Nd.bulks_nil, List.size_toArray, List.length_nil]); omega) m116)
    simp only [decide_eq_false d117, go_sem, Nat.reduceBEq]
    by_cases d121 : n113 = 1
    · simp only [decide_eq_true d121, go_sem, Nat.reduceBEq]
      cases gn with
      | true =>
        try simp only [go_sem]
        refine regionD_intro (lb := [40]) (by kernel_rfl) ?_
        try simp only [go_sem, Nat.reduceBEq]
        refine (l15Var_c hl m113).mono ?_
        rintro _ h118 ⟨H118, x118, a118, c118, rfl, e118, b118, r118, m118⟩
        try simp only [go_sem, Nat.reduceBEq, Nat.reduceAdd, Nat.reduceLeDiff]
        refine cur_nodes [(x118, .slice a118 x118.kids.length c118), (x112, .slice a112 x112.kids.length c112)] [x118, x112] rfl slT24 rfl rfl rfl (by decide) (by decide) (allc r118 (all1 (r112.mono e118))) m118 fun H119 a119 c119 h119 e119 r119 m119 => ?_
        try simp only [go_sem, Nat.reduceBEq]
        refine (l15N_c _ _ _ _ _ _).mono ?_
        rintro _ _ ⟨rfl, rfl⟩
        try simp only [go_sem, Nat.reduceBEq, Nat.reduceAdd, Nat.reduceLeDiff]
        exact NodP.base ((e112.trans e118).trans e119) (NodP.mk 46 0 ⟨#[]⟩ r119 rfl (by (try simp only [bsz, Nd.bulks_cons, Nd.bulks_nil, List.size_toArray, List.length_nil]); omega) m119)
      | false =>
        try simp only [go_sem, Nat.reduceBEq, Nat.reduceAdd, Nat.reduceLeDiff]
        refine cur_nodes [(x112, .slice a112 x112.kids.length c112)] [x112] rfl slT24 rfl rfl rfl (by decide) (by decide) (all1 r112) m113 fun H120 a120 c120 h120 e120 r120 m120 => ?_
        try simp only [go_sem, Nat.reduceBEq]
        refine (l15N_c _ _ _ _ _ _).mono ?_
        rintro _ _ ⟨rfl, rfl⟩
        try simp only [go_sem, Nat.reduceBEq, Nat.reduceAdd, Nat.reduceLeDiff]
        exact NodP.base (e112.trans e120) (NodP.mk 32 0 ⟨#[]⟩ r120 rfl (by (try simp only [bsz, Nd.bulks_cons, Nd.bulks_nil, List.size_toArray, List.length_nil]); omega) m120)
    simp only [decide_eq_false d121, go_sem, Nat.reduceBEq]
    by_cases d124 : n113 = 2
    · simp only [decide_eq_true d124, go_sem, Nat.reduceBEq, Nat.reduceAdd, Nat.reduceLeDiff]
      refine cur_nodes [(x112, .slice a112 x112.kids.length c112)] [x112] rfl slT24 rfl rfl rfl (by decide) (by decide) (all1 r112) m113 fun H122 a122 c122 h122 e122 r122 m122 => ?_
      try simp only [go_sem, Nat.reduceBEq]
      refine (l15N_c _ _ _ _ _ _).mono ?_
      rintro _ _ ⟨rfl, rfl⟩
      try simp only [go_sem, Nat.reduceBEq]
      refine cur_nodes [((Nd.mk 22 0 ⟨#[69, 114, 114, 111, 114]⟩ [x112]), .slice a122 1 c122)] [(Nd.mk 22 0 ⟨#[69, 114, 114, 111, 114]⟩ [x112])] rfl slT24 rfl rfl rfl (by decide) (by decide) (all1 r122) m122 fun H123 a123 c123 h123 e123 r123 m123 => ?_
      try simp only [go_sem, Nat.reduceBEq]
      refine (l15N_c _ _ _ _ _ _).mono ?_
      rintro _ _ ⟨rfl, rfl⟩
      try simp only [go_sem, Nat.reduceBEq, Nat.reduceAdd, Nat.reduceLeDiff]
      exact NodP.base ((e112.trans e122).trans e123) (NodP.mk 42 0 ⟨#[]⟩ r123 rfl (by (try simp only [bsz, Nd.bulk_mk, Nd.bulks_cons, Nd.bulks_nil, List.size_toArray, List.length_cons, List.length_nil]); omega) m123)
    simp only [decide_eq_false d124, go_sem, Nat.reduceBEq]
    by_cases d126 : n113 = 3
    · simp only [decide_eq_true d126, go_sem, Nat.reduceBEq, Nat.reduceAdd, Nat.reduceLeDiff]
      refine cur_nodes [(x112, .slice a112 x112.kids.length c112)] [x112] rfl slT24 rfl rfl rfl (by decide) (by decide) (all1 r112) m113 fun H125 a125 c125 h125 e125 r125 m125 => ?_
      try simp only [go_sem, Nat.reduceBEq]
      refine (l15N_c _ _ _ _ _ _).mono ?_
      rintro _ _ ⟨rfl, rfl⟩
      try simp only [go_sem, Nat.reduceBEq, Nat.reduceAdd, Nat.reduceLeDiff]
      exact NodP.base (e112.trans e125) (NodP.mk 39 0 ⟨#[]⟩ r125 rfl (by (try simp only [bsz, Nd.bulks_cons, Nd.bulks_nil, List.size_toArray, List.length_nil]); omega) m125)
    simp only [decide_eq_false d126, go_sem, Nat.reduceBEq]
    by_cases d129 : n113 = 4
    · simp only [decide_eq_true d129, go_sem, Nat.reduceBEq]
      refine (l15Aim_c hl (by decide) (l15Make_c hl 0 (by decide)) 1 (by decide) (by decide) m113).mono ?_
      rintro _ h127 ⟨H127, x127, a127, c127, rfl, e127, b127, r127, m127⟩
      try simp only [go_sem, Nat.reduceBEq]
      refine cur_nodes [(x127, .slice a127 x127.kids.length c127)] [x127] rfl slT24 rfl rfl rfl (by decide) (by decide) (all1 r127) m127 fun H128 a128 c128 h128 e128 r128 m128 => ?_
      try simp only [go_sem, Nat.reduceBEq]
      refine (l15N_c _ _ _ _ _ _).mono ?_
      rintro _ _ ⟨rfl, rfl⟩
      try simp only [go_sem, Nat.reduceBEq, Nat.reduceAdd, Nat.reduceLeDiff]
      exact NodP.base ((e112.trans e127).trans e128) (NodP.mk 41 0 ⟨#[]⟩ r128 rfl (by (try simp only [bsz, Nd.bulks_cons, Nd.bulks_nil, List.size_toArray, List.length_nil]); omega) m128)
    simp only [decide_eq_false d129, go_sem, Nat.reduceBEq]
    by_cases d131 : n113 = 5
    · simp only [decide_eq_true d131, go_sem]
      refine (l15N_c _ _ _ _ _ _).mono ?_
      rintro _ _ ⟨rfl, rfl⟩
      try simp only [go_sem, Nat.reduceBEq, Nat.reduceAdd, Nat.reduceLeDiff]
      exact NodP.base e112 (NodP.leaf 31 0 ⟨#[60, 112, 62]⟩ (by (try simp only [bsz, List.size_toArray, List.length_cons, List.length_nil]); omega) m113)
    simp only [decide_eq_false d131, go_sem, Nat.reduceBEq]
    by_cases d133 : n113 = 6
    · simp only [decide_eq_true d133, go_sem]
      refine (l15N_c _ _ _ _ _ _).mono ?_
      rintro _ _ ⟨rfl, rfl⟩
      try simp only [go_sem, Nat.reduceBEq, Nat.reduceAdd, Nat.reduceLeDiff]
      exact NodP.base e112 (NodP.leaf 40 0 ⟨#[97]⟩ (by (try simp only [bsz, List.size_toArray, List.length_cons, List.length_nil]); omega) m113)
    simp only [decide_eq_false d133, go_sem, Nat.reduceBEq]
    by_cases d135 : n113 = 7
    · simp only [decide_eq_true d135, go_sem, Nat.reduceBEq, Nat.reduceAdd, Nat.reduceLeDiff]
      refine cur_nodes [(x112, .slice a112 x112.kids.length c112)] [x112] rfl slT24 rfl rfl rfl (by decide) (by decide) (all1 r112) m113 fun H134 a134 c134 h134 e134 r134 m134 => ?_
      try simp only [go_sem, Nat.reduceBEq]
      refine (l15N_c _ _ _ _ _ _).mono ?_
      rintro _ _ ⟨rfl, rfl⟩
      try simp only [go_sem, Nat.reduceBEq, Nat.reduceAdd, Nat.reduceLeDiff]
      exact NodP.base (e112.trans e134) (NodP.mk 33 0 ⟨#[]⟩ r134 rfl (by (try simp only [bsz, Nd.bulks_cons, Nd.bulks_nil, List.size_toArray, List.length_nil]); omega) m134)
    simp only [decide_eq_false d135, go_sem, Nat.reduceBEq, Nat.reduceAdd, Nat.reduceLeDiff]
    refine cur_nodes [(x112, .slice a112 x112.kids.length c112)] [x112] rfl slT24 rfl rfl rfl (by decide) (by decide) (all1 r112) m113 fun H136 a136 c136 h136 e136 r136 m136 => ?_
    try simp only [go_sem, Nat.reduceBEq]
    refine (l15N_c _ _ _ _ _ _).mono ?_
    rintro _ _ ⟨rfl, rfl⟩
    try simp only [go_sem, Nat.reduceBEq, Nat.reduceAdd, Nat.reduceLeDiff]
    exact NodP.base (e112.trans e136) (NodP.mk 32 0 ⟨#[]⟩ r136 rfl (by (try simp only [bsz, Nd.bulks_cons, Nd.bulks_nil, List.size_toArray, List.length_nil]); omega) m136)
  simp only [decide_eq_false hz, go_sem, Nat.reduceBEq]
  refine (l1Once_c hl m112 3 (by decide) (by decide)).mono ?_
  rintro _ h1 ⟨y, rfl, m1⟩
  try simp only [go_sem, Nat.reduceBEq]
  cases y with
  | true =>
    try simp only [go_sem, Nat.reduceBEq]
    refine (l1Below_c hl m1 9 (by decide) (by decide)).mono ?_
    rintro _ h137 ⟨n137, rfl, p137, q137, m137⟩
    try simp only [go_sem, Nat.reduceBEq]
    by_cases d141 : n137 = 0
    · simp only [decide_eq_true d141, go_sem, Nat.reduceBEq]
      cases lp with
      | true =>
        try simp only [go_sem, Nat.reduceBEq]
        refine (l1Below_c hl m137 2 (by decide) (by decide)).mono ?_
        rintro _ h138 ⟨n138, rfl, p138, q138, m138⟩
        try simp only [go_sem, Nat.reduceBEq]
        refine (l15N_c _ _ _ _ _ _).mono ?_
        rintro _ _ ⟨rfl, rfl⟩
        try simp only [go_sem, Nat.reduceBEq, Nat.reduceAdd, Nat.reduceLeDiff]
        exact NodP.base e112 (NodP.leaf _ 0 ⟨#[]⟩ (by (try simp only [bsz, List.size_toArray, List.length_nil]); omega) m138)
      | false =>
        try simp only [go_sem, Nat.reduceBEq, Nat.reduceAdd, Nat.reduceLeDiff]
        refine cur_nodes [(x112, .slice a112 x112.kids.length c112)] [x112] rfl slT24 rfl rfl rfl (by decide) (by decide) (all1 r112) m137 fun H140 a140 c140 h140 e140 r140 m140 => ?_
        try simp only [go_sem, Nat.reduceBEq]
        refine (l15N_c _ _ _ _ _ _).mono ?_
        rintro _ _ ⟨rfl, rfl⟩
        try simp only [go_sem, Nat.reduceBEq, Nat.reduceAdd, Nat.reduceLeDiff]
        exact NodP.base (e112.trans e140) (NodP.mk 32 0 ⟨#[]⟩ r140 rfl (by (try simp only [bsz, Nd.bulks_cons, Nd.bulks_nil, List.size_toArray, List.length_nil]); omega) m140)
    simp only [decide_eq_false d141, go_sem, Nat.reduceBEq]
    by_cases d145 : n137 = 1
    · simp only [decide_eq_true d145, go_sem, Nat.reduceBEq]
      cases gn with
      | true =>
        try simp only [go_sem]
        refine regionD_intro (lb := [40]) (by kernel_rfl) ?_
        try simp only [go_sem, Nat.reduceBEq]
        refine (l15Var_c hl m137).mono ?_
        rintro _ h142 ⟨H142, x142, a142, c142, rfl, e142, b142, r142, m142⟩
        try simp only [go_sem, Nat.reduceBEq, Nat.reduceAdd, Nat.reduceLeDiff]
        refine cur_nodes [(x142, .slice a142 x142.kids.length c142), (x112, .slice a112 x112.kids.length c112)] [x142, x112] rfl slT24 rfl rfl rfl (by decide) (by decide) (allc r142 (all1 (r112.mono e142))) m142 fun H143 a143 c143 h143 e143 r143 m143 => ?_
        try simp only [go_sem, Nat.reduceBEq]
        refine (l15N_c _ _ _ _ _ _).mono ?_
        rintro _ _ ⟨rfl, rfl⟩
        try simp only [go_sem, Nat.reduceBEq, Nat.reduceAdd, Nat.reduceLeDiff]
        exact NodP.base ((e112.trans e142).trans e143) (NodP.mk 46 0 ⟨#[]⟩ r143 rfl (by (try simp only [bsz, Nd.bulks_cons, Nd.bulks_nil, List.size_toArray, List.length_nil]); omega) m143)
      | false =>
        try simp only [go_sem, Nat.reduceBEq, Nat.reduceAdd, Nat.reduceLeDiff]
        refine cur_nodes [(x112, .slice a112 x112.kids.length c112)] [x112] rfl slT24 rfl rfl rfl (by decide) (by decide) (all1 r112) m137 fun H144 a144 c144 h144 e144 r144 m144 => ?_
        try simp only [go_sem, Nat.reduceBEq]
        refine (l15N_c _ _ _ _ _ _).mono ?_
        rintro _ _ ⟨rfl, rfl⟩
        try simp only [go_sem, Nat.reduceBEq, Nat.reduceAdd, Nat.reduceLeDiff]
        exact NodP.base (e112.trans e144) (NodP.mk 32 0 ⟨#[]⟩ r144 rfl (by (try simp only [bsz, Nd.bulks_cons, Nd.bulks_nil, List.size_toArray, List.length_nil]); omega) m144)
    simp only [decide_eq_false d145, go_sem, Nat.reduceBEq]
    by_cases d148 : n137 = 2
    · simp only [decide_eq_true d148, go_sem, Nat.reduceBEq, Nat.reduceAdd, Nat.reduceLeDiff]
      refine cur_nodes [(x112, .slice a112 x112.kids.length c112)] [x112] rfl slT24 rfl rfl rfl (by decide) (by decide) (all1 r112) m137 fun H146 a146 c146 h146 e146 r146 m146 => ?_
      try simp only [go_sem, Nat.reduceBEq]
      refine (l15N_c _ _ _ _ _ _).mono ?_
      rintro _ _ ⟨rfl, rfl⟩
      try simp only [go_sem, Nat.reduceBEq]
      refine cur_nodes [((Nd.mk 22 0 ⟨#[69, 114, 114, 111, 114]⟩ [x112]), .slice a146 1 c146)] [(Nd.mk 22 0 ⟨#[69, 114, 114, 111, 114]⟩ [x112])] rfl slT24 rfl rfl rfl (by decide) (by decide) (all1 r146) m146 fun H147 a147 c147 h147 e147 r147 m147 => ?_
      try simp only [go_sem, Nat.reduceBEq]
      refine (l15N_c _ _ _ _ _ _).mono ?_
      rintro _ _ ⟨rfl, rfl⟩
      try simp only [go_sem, Nat.reduceBEq, Nat.reduceAdd, Nat.reduceLeDiff]
      exact NodP.base ((e112.trans e146).trans e147) (NodP.mk 42 0 ⟨#[]⟩ r147 rfl (by (try simp only [bsz, Nd.bulk_mk, Nd.bulks_cons, Nd.bulks_nil, List.size_toArray, List.length_cons, List.length_nil]); omega) m147)
    simp only [decide_eq_false d148, go_sem, Nat.reduceBEq]
    by_cases d150 : n137 = 3
    · simp only [decide_eq_true d150, go_sem, Nat.reduceBEq, Nat.reduceAdd, Nat.reduceLeDiff]
      refine cur_nodes [(x112, .slice a112 x112.kids.length c112)] [x112] rfl slT24 rfl rfl rfl (by decide) (by decide) (all1 r112) m137 fun H149 a149 c149 h149 e149 r149 m149 => ?_
      try simp only [go_sem, Nat.reduceBEq]
      refine (l15N_c _ _ _ _ _ _).mono ?_
      rintro _ _ ⟨rfl, rfl⟩
      try simp only [go_sem, Nat.reduceBEq, Nat.reduceAdd, Nat.reduceLeDiff]
      exact NodP.base (e112.trans e149) (NodP.mk 39 0 ⟨#[]⟩ r149 rfl (by (try simp only [bsz, Nd.bulks_cons, Nd.bulks_nil, List.size_toArray, List.length_nil]); omega) m149)
    simp only [decide_eq_false d150, go_sem, Nat.reduceBEq]
    by_cases d153 : n137 = 4
    · simp only [decide_eq_true d153, go_sem, Nat.reduceBEq]
      refine (l15Aim_c hl (by decide) (l15Make_c hl 0 (by decide)) 1 (by decide) (by decide) m137).mono ?_
      rintro _ h151 ⟨H151, x151, a151, c151, rfl, e151, b151, r151, m151⟩
      try simp only [go_sem, Nat.reduceBEq]
      refine cur_nodes [(x151, .slice a151 x151.kids.length c151)] [x151] rfl slT24 rfl rfl rfl (by decide) (by decide) (all1 r151) m151 fun H152 a152 c152 h152 e152 r152 m152 => ?_
      try simp only [go_sem, Nat.reduceBEq]
      refine (l15N_c _ _ _ _ _ _).mono ?_
      rintro _ _ ⟨rfl, rfl⟩
      try simp only [go_sem, Nat.reduceBEq, Nat.reduceAdd, Nat.reduceLeDiff]
      exact NodP.base ((e112.trans e151).trans e152) (NodP.mk 41 0 ⟨#[]⟩ r152 rfl (by (try simp only [bsz, Nd.bulks_cons, Nd.bulks_nil, List.size_toArray, List.length_nil]); omega) m152)
    simp only [decide_eq_false d153, go_sem, Nat.reduceBEq]
    by_cases d155 : n137 = 5
    · simp only [decide_eq_true d155, go_sem]
      refine (l15N_c _ _ _ _ _ _).mono ?_
      rintro _ _ ⟨rfl, rfl⟩
      try simp only [go_sem, Nat.reduceBEq, Nat.reduceAdd, Nat.reduceLeDiff]
      exact NodP.base e112 (NodP.leaf 31 0 ⟨#[60, 112, 62]⟩ (by (try simp only [bsz, List.size_toArray, List.length_cons, List.length_nil]); omega) m137)
    simp only [decide_eq_false d155, go_sem, Nat.reduceBEq]
    by_cases d157 : n137 = 6
    · simp only [decide_eq_true d157, go_sem]
      refine (l15N_c _ _ _ _ _ _).mono ?_
      rintro _ _ ⟨rfl, rfl⟩
      try simp only [go_sem, Nat.reduceBEq, Nat.reduceAdd, Nat.reduceLeDiff]
      exact NodP.base e112 (NodP.leaf 40 0 ⟨#[97]⟩ (by (try simp only [bsz, List.size_toArray, List.length_cons, List.length_nil]); omega) m137)
    simp only [decide_eq_false d157, go_sem, Nat.reduceBEq]
    by_cases d159 : n137 = 7
    · simp only [decide_eq_true d159, go_sem, Nat.reduceBEq, Nat.reduceAdd, Nat.reduceLeDiff]
      refine cur_nodes [(x112, .slice a112 x112.kids.length c112)] [x112] rfl slT24 rfl rfl rfl (by decide) (by decide) (all1 r112) m137 fun H158 a158 c158 h158 e158 r158 m158 => ?_
      try simp only [go_sem, Nat.reduceBEq]
      refine (l15N_c _ _ _ _ _ _).mono ?_
      rintro _ _ ⟨rfl, rfl⟩
      try simp only [go_sem, Nat.reduceBEq, Nat.reduceAdd, Nat.reduceLeDiff]
      exact NodP.base (e112.trans e158) (NodP.mk 33 0 ⟨#[]⟩ r158 rfl (by (try simp only [bsz, Nd.bulks_cons, Nd.bulks_nil, List.size_toArray, List.length_nil]); omega) m158)
    simp only [decide_eq_false d159, go_sem, Nat.reduceBEq, Nat.reduceAdd, Nat.reduceLeDiff]
    refine cur_nodes [(x112, .slice a112 x112.kids.length c112)] [x112] rfl slT24 rfl rfl rfl (by decide) (by decide) (all1 r112) m137 fun H160 a160 c160 h160 e160 r160 m160 => ?_
    try simp only [go_sem, Nat.reduceBEq]
    refine (l15N_c _ _ _ _ _ _).mono ?_
    rintro _ _ ⟨rfl, rfl⟩
    try simp only [go_sem, Nat.reduceBEq, Nat.reduceAdd, Nat.reduceLeDiff]
    exact NodP.base (e112.trans e160) (NodP.mk 32 0 ⟨#[]⟩ r160 rfl (by (try simp only [bsz, Nd.bulks_cons, Nd.bulks_nil, List.size_toArray, List.length_nil]); omega) m160)
  | false =>
  try simp only [go_sem, Nat.reduceBEq]
  obtain ⟨e, rfl⟩ : ∃ e, e + 1 = d := ⟨d - 1, by omega⟩
  have ih := prev e rfl
  have hE : sB (e + 1) = 180 + 2 * (3 * (1 + sB e)) := rfl
  have hE1 : dB e = 3 * (1 + sB e) := rfl
  have hE0 := sB_pos e
  have hw : IntKind.i64.wrap (deep - 1) = deep - 1 := IntWalk.i64_in _ (by omega)
  simp only [hw]
  refine (l15Do_c hl (by omega) ih (deep - 1) (by omega) (by omega) lp gn m1).mono ?_
  rintro _ h161 ⟨H161, x161, a161, c161, rfl, e161, b161, r161, m161⟩
  try simp only [go_sem, Nat.reduceBEq, Nat.reduceAdd, Nat.reduceLeDiff]
  refine (l1Below_c hl m161 6 (by decide) (by decide)).mono ?_
  rintro _ h162 ⟨n162, rfl, p162, q162, m162⟩
  try simp only [go_sem, Nat.reduceBEq]
  by_cases d165 : n162 = 0
  · simp only [decide_eq_true d165, go_sem]
    refine regionD_intro (lb := [85, 86]) (by kernel_rfl) ?_
    try simp only [hw, go_sem, Nat.reduceBEq, Nat.reduceAdd, Nat.reduceLeDiff]
    refine (l15Do_c hl (by omega) ih (deep - 1) (by omega) (by omega) lp gn m162).mono ?_
    rintro _ h163 ⟨H163, x163, a163, c163, rfl, e163, b163, r163, m163⟩
    try simp only [go_sem, Nat.reduceBEq]
    refine cur_nodes [(x112, .slice a112 x112.kids.length c112), (x161, .slice a161 x161.kids.length c161), (x163, .slice a163 x163.kids.length c163)] [x112, x161, x163] rfl slT24 rfl rfl rfl (by decide) (by decide) (allc ((r112.mono e161).mono e163) (allc (r161.mono e163) (all1 r163))) m163 fun H164 a164 c164 h164 e164 r164 m164 => ?_
    try simp only [go_sem, Nat.reduceBEq]
    refine (l15N_c _ _ _ _ _ _).mono ?_
    rintro _ _ ⟨rfl, rfl⟩
    try simp only [go_sem, Nat.reduceBEq, Nat.reduceAdd, Nat.reduceLeDiff]
    exact NodP.base (((e112.trans e161).trans e163).trans e164) (NodP.mk 34 0 ⟨#[]⟩ r164 rfl (by (try simp only [bsz, Nd.bulks_cons, Nd.bulks_nil, List.size_toArray, List.length_nil]); omega) m164)
  simp only [decide_eq_false d165, go_sem, Nat.reduceBEq]
  by_cases d178 : n162 = 1
  · simp only [decide_eq_true d178, go_sem]
    refine (l15N_c _ _ _ _ _ _).mono ?_
    rintro _ _ ⟨rfl, rfl⟩
    try simp only [go_sem, Nat.reduceBEq, Nat.reduceAdd, Nat.reduceLeDiff]
    refine cur_nodes [((Nd.mk 4 0 ⟨#[105]⟩ []), .slice none 0 0), ((Nd.mk 1 3 ⟨#[]⟩ []), .slice none 0 0)] [(Nd.mk 4 0 ⟨#[105]⟩ []), (Nd.mk 1 3 ⟨#[]⟩ [])] rfl slT24 rfl rfl rfl (by decide) (by decide) (allc (rdn_nil _) (all1 (rdn_nil _))) m162 fun H169 a169 c169 h169 e169 r169 m169 => ?_
    try simp only [go_sem, Nat.reduceBEq, Nat.reduceAdd, Nat.reduceLeDiff]
    refine cur_nodes [((Nd.mk 4 0 ⟨#[105]⟩ []), .slice none 0 0), ((Nd.mk 1 1 ⟨#[]⟩ []), .slice none 0 0)] [(Nd.mk 4 0 ⟨#[105]⟩ []), (Nd.mk 1 1 ⟨#[]⟩ [])] rfl slT24 rfl rfl rfl (by decide) (by decide) (allc ((rdn_nil _).mono e169) (all1 ((rdn_nil _).mono e169))) m169 fun H170 a170 c170 h170 e170 r170 m170 => ?_
    try simp only [go_sem, Nat.reduceBEq, Nat.reduceAdd, Nat.reduceLeDiff]
    refine cur_nodes [((Nd.mk 4 0 ⟨#[105]⟩ []), .slice none 0 0), ((Nd.mk 10 1 ⟨#[]⟩ [(Nd.mk 4 0 ⟨#[105]⟩ []), (Nd.mk 1 1 ⟨#[]⟩ [])]), .slice a170 2 c170)] [(Nd.mk 4 0 ⟨#[105]⟩ []), (Nd.mk 10 1 ⟨#[]⟩ [(Nd.mk 4 0 ⟨#[105]⟩ []), (Nd.mk 1 1 ⟨#[]⟩ [])])] rfl slT24 rfl rfl rfl (by decide) (by decide) (allc (((rdn_nil _).mono e169).mono e170) (all1 r170)) m170 fun H171 a171 c171 h171 e171 r171 m171 => ?_
    try simp only [go_sem, Nat.reduceBEq]
    refine (l15N_c _ _ _ _ _ _).mono ?_
    rintro _ _ ⟨rfl, rfl⟩
    try simp only [hw, go_sem, Nat.reduceBEq, Nat.reduceAdd, Nat.reduceLeDiff]
    refine (l15Do_c hl (by omega) ih (deep - 1) (by omega) (by omega) true gn m171).mono ?_
    rintro _ h172 ⟨H172, x172, a172, c172, rfl, e172, b172, r172, m172⟩
    try simp only [go_sem, Nat.reduceBEq, Nat.reduceAdd, Nat.reduceLeDiff]
    refine regionD_intro (lb := [115, 120]) (by kernel_rfl) ?_
    try simp only [go_sem, Nat.reduceBEq, Nat.reduceAdd, Nat.reduceLeDiff]
    refine cur_nodes [((Nd.mk 15 0 ⟨#[]⟩ [(Nd.mk 4 0 ⟨#[105]⟩ []), (Nd.mk 10 1 ⟨#[]⟩ [(Nd.mk 4 0 ⟨#[105]⟩ []), (Nd.mk 1 1 ⟨#[]⟩ [])])]), .slice a171 2 c171)] [(Nd.mk 15 0 ⟨#[]⟩ [(Nd.mk 4 0 ⟨#[105]⟩ []), (Nd.mk 10 1 ⟨#[]⟩ [(Nd.mk 4 0 ⟨#[105]⟩ []), (Nd.mk 1 1 ⟨#[]⟩ [])])])] rfl slT24 rfl rfl rfl (by decide) (by decide) (all1 (r171.mono e172)) m172 fun H173 a173 c173 h173 e173 r173 m173 => ?_
    try simp only [go_sem, Nat.reduceBEq]
    refine (l15N_c _ _ _ _ _ _).mono ?_
    rintro _ _ ⟨rfl, rfl⟩
    try simp only [go_sem, Nat.reduceBEq]
    refine cur_own [((Nd.mk 33 0 ⟨#[]⟩ [(Nd.mk 15 0 ⟨#[]⟩ [(Nd.mk 4 0 ⟨#[105]⟩ []), (Nd.mk 10 1 ⟨#[]⟩ [(Nd.mk 4 0 ⟨#[105]⟩ []), (Nd.mk 1 1 ⟨#[]⟩ [])])])]), .slice a173 1 c173)] [(Nd.mk 33 0 ⟨#[]⟩ [(Nd.mk 15 0 ⟨#[]⟩ [(Nd.mk 4 0 ⟨#[105]⟩ []), (Nd.mk 10 1 ⟨#[]⟩ [(Nd.mk 4 0 ⟨#[105]⟩ []), (Nd.mk 1 1 ⟨#[]⟩ [])])])])] rfl slT24 rfl rfl rfl (by decide) (by decide) (all1 r173) m173 fun u174 a174 c174 h174 r174 m174 => ?_
    try simp only [go_sem, Nat.reduceBEq]
    have := Nd.bulks_len x172.kids
    have := Nd.bulk_eq x172
    refine cur_nadd (es := [(Nd.mk 33 0 ⟨#[]⟩ [(Nd.mk 15 0 ⟨#[]⟩ [(Nd.mk 4 0 ⟨#[105]⟩ []), (Nd.mk 10 1 ⟨#[]⟩ [(Nd.mk 4 0 ⟨#[105]⟩ []), (Nd.mk 1 1 ⟨#[]⟩ [])])])])]) slT24 rfl rfl (by decide) m174 r174 (r172.mono e173) (Nat.le_of_ble_eq_true rfl) (by omega) fun u175 a175 c175 h175 r175 m175 => ?_
    try simp only [go_sem, Nat.reduceBEq, Nat.reduceAdd, Nat.reduceLeDiff]
    obtain ⟨H176, e176, r176, m176⟩ := cur_fix m175 r175
    refine cur_nodes [((Nd.mk 10 11 ⟨#[]⟩ [(Nd.mk 4 0 ⟨#[105]⟩ []), (Nd.mk 1 3 ⟨#[]⟩ [])]), .slice a169 2 c169), ((Nd.mk x172.kind x172.num x172.text ([(Nd.mk 33 0 ⟨#[]⟩ [(Nd.mk 15 0 ⟨#[]⟩ [(Nd.mk 4 0 ⟨#[105]⟩ []), (Nd.mk 10 1 ⟨#[]⟩ [(Nd.mk 4 0 ⟨#[105]⟩ []), (Nd.mk 1 1 ⟨#[]⟩ [])])])])] ++ x172.kids)), .slice a175 ([(Nd.mk 33 0 ⟨#[]⟩ [(Nd.mk 15 0 ⟨#[]⟩ [(Nd.mk 4 0 ⟨#[105]⟩ []), (Nd.mk 10 1 ⟨#[]⟩ [(Nd.mk 4 0 ⟨#[105]⟩ []), (Nd.mk 1 1 ⟨#[]⟩ [])])])])] ++ x172.kids).length c175)] [(Nd.mk 10 11 ⟨#[]⟩ [(Nd.mk 4 0 ⟨#[105]⟩ []), (Nd.mk 1 3 ⟨#[]⟩ [])]), (Nd.mk x172.kind x172.num x172.text ([(Nd.mk 33 0 ⟨#[]⟩ [(Nd.mk 15 0 ⟨#[]⟩ [(Nd.mk 4 0 ⟨#[105]⟩ []), (Nd.mk 10 1 ⟨#[]⟩ [(Nd.mk 4 0 ⟨#[105]⟩ []), (Nd.mk 1 1 ⟨#[]⟩ [])])])])] ++ x172.kids))] rfl slT24 rfl rfl rfl (by decide) (by decide) (allc (((((r169.mono e170).mono e171).mono e172).mono e173).mono e176) (all1 r176)) m176 fun H177 a177 c177 h177 e177 r177 m177 => ?_
    try simp only [go_sem, Nat.reduceBEq]
    refine (l15N_c _ _ _ _ _ _).mono ?_
    rintro _ _ ⟨rfl, rfl⟩
    try simp only [go_sem, Nat.reduceBEq, Nat.reduceAdd, Nat.reduceLeDiff]
    exact NodP.base ((((((((e112.trans e161).trans e169).trans e170).trans e171).trans e172).trans e173).trans e176).trans e177) (NodP.mk 35 0 ⟨#[]⟩ r177 rfl (by (try simp only [bsz, Nd.bulk_mk, Nd.bulks_cons, Nd.bulks_nil, Nd.bulks_app, List.size_toArray, List.length_cons, List.length_nil]); omega) m177)
  simp only [decide_eq_false d178, go_sem, Nat.reduceBEq]
  by_cases d183 : n162 = 2
  · simp only [decide_eq_true d183, go_sem]
    refine regionD_intro (lb := [129]) (by kernel_rfl) ?_
    try simp only [go_sem, Nat.reduceBEq, Nat.reduceAdd, Nat.reduceLeDiff]
    refine (l15Var_c hl m162).mono ?_
    rintro _ h179 ⟨H179, x179, a179, c179, rfl, e179, b179, r179, m179⟩
    try simp only [go_sem, Nat.reduceBEq]
    refine (l15Var_c hl m179).mono ?_
    rintro _ h180 ⟨H180, x180, a180, c180, rfl, e180, b180, r180, m180⟩
    try simp only [hw, go_sem, Nat.reduceBEq]
    refine (l15Do_c hl (by omega) ih (deep - 1) (by omega) (by omega) true gn m180).mono ?_
    rintro _ h181 ⟨H181, x181, a181, c181, rfl, e181, b181, r181, m181⟩
    try simp only [go_sem, Nat.reduceBEq]
    refine cur_nodes [(x112, .slice a112 x112.kids.length c112), (x179, .slice a179 x179.kids.length c179), (x180, .slice a180 x180.kids.length c180), (x181, .slice a181 x181.kids.length c181)] [x112, x179, x180, x181] rfl slT24 rfl rfl rfl (by decide) (by decide) (allc ((((r112.mono e161).mono e179).mono e180).mono e181) (allc ((r179.mono e180).mono e181) (allc (r180.mono e181) (all1 r181)))) m181 fun H182 a182 c182 h182 e182 r182 m182 => ?_
    try simp only [go_sem, Nat.reduceBEq]
    refine (l15N_c _ _ _ _ _ _).mono ?_
    rintro _ _ ⟨rfl, rfl⟩
    try simp only [go_sem, Nat.reduceBEq, Nat.reduceAdd, Nat.reduceLeDiff]
    exact NodP.base (((((e112.trans e161).trans e179).trans e180).trans e181).trans e182) (NodP.mk 36 0 ⟨#[]⟩ r182 rfl (by (try simp only [bsz, Nd.bulks_cons, Nd.bulks_nil, List.size_toArray, List.length_nil]); omega) m182)
  simp only [decide_eq_false d183, go_sem, Nat.reduceBEq]
  by_cases d188 : n162 = 3
  · simp only [decide_eq_true d188, go_sem, Nat.reduceBEq]
    refine (l15Var_c hl m162).mono ?_
    rintro _ h184 ⟨H184, x184, a184, c184, rfl, e184, b184, r184, m184⟩
    try simp only [hw, go_sem, Nat.reduceBEq]
    refine (l15Do_c hl (by omega) ih (deep - 1) (by omega) (by omega) lp gn m184).mono ?_
    rintro _ h185 ⟨H185, x185, a185, c185, rfl, e185, b185, r185, m185⟩
    try simp only [go_sem, Nat.reduceBEq]
    refine cur_nodes [(x184, .slice a184 x184.kids.length c184), (x185, .slice a185 x185.kids.length c185)] [x184, x185] rfl slT24 rfl rfl rfl (by decide) (by decide) (allc (r184.mono e185) (all1 r185)) m185 fun H186 a186 c186 h186 e186 r186 m186 => ?_
    try simp only [go_sem, Nat.reduceBEq]
    refine (l15N_c _ _ _ _ _ _).mono ?_
    rintro _ _ ⟨rfl, rfl⟩
    try simp only [go_sem, Nat.reduceBEq, Nat.reduceAdd, Nat.reduceLeDiff]
    refine cur_nodes [(x161, .slice a161 x161.kids.length c161), ((Nd.mk 44 0 ⟨#[69, 114, 114, 111, 114]⟩ [x184, x185]), .slice a186 2 c186)] [x161, (Nd.mk 44 0 ⟨#[69, 114, 114, 111, 114]⟩ [x184, x185])] rfl slT24 rfl rfl rfl (by decide) (by decide) (allc (((r161.mono e184).mono e185).mono e186) (all1 r186)) m186 fun H187 a187 c187 h187 e187 r187 m187 => ?_
    try simp only [go_sem, Nat.reduceBEq]
    refine (l15N_c _ _ _ _ _ _).mono ?_
    rintro _ _ ⟨rfl, rfl⟩
    try simp only [go_sem, Nat.reduceBEq, Nat.reduceAdd, Nat.reduceLeDiff]
    exact NodP.base (((((e112.trans e161).trans e184).trans e185).trans e186).trans e187) (NodP.mk 43 0 ⟨#[]⟩ r187 rfl (by (try simp only [bsz, Nd.bulk_mk, Nd.bulks_cons, Nd.bulks_nil, List.size_toArray, List.length_cons, List.length_nil]); omega) m187)
  simp only [decide_eq_false d188, go_sem, Nat.reduceBEq]
  by_cases d192 : n162 = 4
  · simp only [decide_eq_true d192, hw, go_sem, Nat.reduceBEq]
    refine (l15Do_c hl (by omega) ih (deep - 1) (by omega) (by omega) false gn m162).mono ?_
    rintro _ h189 ⟨H189, x189, a189, c189, rfl, e189, b189, r189, m189⟩
    try simp only [go_sem, Nat.reduceBEq]
    refine cur_nodes [(x189, .slice a189 x189.kids.length c189)] [x189] rfl slT24 rfl rfl rfl (by decide) (by decide) (all1 r189) m189 fun H190 a190 c190 h190 e190 r190 m190 => ?_
    try simp only [go_sem, Nat.reduceBEq]
    refine (l15N_c _ _ _ _ _ _).mono ?_
    rintro _ _ ⟨rfl, rfl⟩
    try simp only [go_sem, Nat.reduceBEq, Nat.reduceAdd, Nat.reduceLeDiff]
    refine cur_nodes [(x161, .slice a161 x161.kids.length c161), ((Nd.mk 45 0 ⟨#[]⟩ [x189]), .slice a190 1 c190)] [x161, (Nd.mk 45 0 ⟨#[]⟩ [x189])] rfl slT24 rfl rfl rfl (by decide) (by decide) (allc ((r161.mono e189).mono e190) (all1 r190)) m190 fun H191 a191 c191 h191 e191 r191 m191 => ?_
    try simp only [go_sem, Nat.reduceBEq]
    refine (l15N_c _ _ _ _ _ _).mono ?_
    rintro _ _ ⟨rfl, rfl⟩
    try simp only [go_sem, Nat.reduceBEq, Nat.reduceAdd, Nat.reduceLeDiff]
    exact NodP.base ((((e112.trans e161).trans e189).trans e190).trans e191) (NodP.mk 43 0 ⟨#[]⟩ r191 rfl (by (try simp only [bsz, Nd.bulk_mk, Nd.bulks_cons, Nd.bulks_nil, List.size_toArray, List.length_nil]); omega) m191)
  simp only [decide_eq_false d192, go_sem, Nat.reduceBEq, Nat.reduceAdd, Nat.reduceLeDiff]
  exact ⟨_, x161, _, _, rfl, (e112.trans e161), (by omega), r161, m162⟩
theorem l15Step_c (hl : l.length ≤ 1048576) : ∀ d, d ≤ 2 → StepS l p d
  | 0, _ => l15Step_s hl 0 (by decide) (by decide) fun e he => by omega
  | 1, _ => l15Step_s hl 1 (by decide) (by decide) fun e he => by
    obtain rfl : e = 0 := by omega
    exact l15Step_s hl 0 (by decide) (by decide) fun e he => by omega
  | 2, _ => l15Step_s hl 2 (by decide) (by decide) fun e he => by
    obtain rfl : e = 1 := by omega
    refine l15Step_s hl 1 (by decide) (by decide) fun e he => ?_
    obtain rfl : e = 0 := by omega
    exact l15Step_s hl 0 (by decide) (by decide) fun e he => by omega
def fB : Nat := 19050
theorem l15Func_c (hl : l.length ≤ 1048576) (kind num : Int) (name : ByteArray) (hn : name.size ≤ 15) (gn : Bool) (m : CurM h0 h l p bag) : ACalls Try.prog 31 #[pv p, .int .i64 kind, .string name, .int .i64 num, .bool gn] h (NodP fB h0 l p bag) := by
  have hD : dB 2 = 19029 := rfl
  have hF : fB = 19050 := rfl
  (refine enter Try.func31 rfl rfl (by kernel_rfl) [] ?_; simp only [go_sem, Nat.reduceBEq])
  refine cur_strs [⟨#[97]⟩, ⟨#[98]⟩] slT47 rfl rfl rfl (by decide) (by decide) m fun v193 h193 m193 => ?_
  try simp only [go_sem, Nat.reduceBEq]
  refine (l1Str_c hl m193 (by decide) (by decide)).mono ?_
  rintro _ g193 ⟨s193, t193, rfl, m193⟩
  have z193 := (by decide : ∀ s ∈ ([⟨#[97]⟩, ⟨#[98]⟩] : List ByteArray), s.size ≤ 1) s193 t193
  clear t193
  have m193 := m193.drop
  try simp only [go_sem, Nat.reduceBEq]
  refine (l1Below_c hl m193 2 (by decide) (by decide)).mono ?_
  rintro _ h194 ⟨n194, rfl, p194, q194, m194⟩
  try simp only [go_sem, Nat.reduceBEq, Nat.reduceAdd, Nat.reduceLeDiff]
  refine (l15Do_c hl (by decide) (l15Step_c hl 2 (by decide)) 2 (by decide) (by decide) false gn m194).mono ?_
  rintro _ h195 ⟨H195, x195, a195, c195, rfl, e195, b195, r195, m195⟩
  try simp only [go_sem, Nat.reduceBEq]
  refine cur_nodes [((Nd.mk 24 n194 s193 []), .slice none 0 0), (x195, .slice a195 x195.kids.length c195)] [(Nd.mk 24 n194 s193 []), x195] rfl slT24 rfl rfl rfl (by decide) (by decide) (allc (rdn_nil _) (all1 r195)) m195 fun H197 a197 c197 h197 e197 r197 m197 => ?_
  try simp only [go_sem, Nat.reduceBEq, Nat.reduceAdd, Nat.reduceLeDiff]
  exact NodP.base (e195.trans e197) (NodP.mk kind num name r197 rfl (by (try simp only [Nd.bulk_mk, Nd.bulks_cons, Nd.bulks_nil]); omega) m197)
end
end Go.Proofs.Ytconhonjkfpfmaa
