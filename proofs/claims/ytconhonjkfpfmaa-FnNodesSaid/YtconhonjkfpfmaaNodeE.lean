/-
  The draws of syntax trees: each returns some node, of a bulk that is bounded; what it makes is laid aside.
-/
import Derived.Test.YtconhonjkfpfmaaNodeD
namespace Go.Proofs.Ytconhonjkfpfmaa
set_option maxRecDepth 8000
open Go Go.Sx
section
variable {h0 h : Hp} {bag : Bag} {l : List UInt8} {p : Nat}
set_option maxHeartbeats 40000000 in
theorem l15Make_s (hl : l.length ≤ 1048576) (d : Nat) (hd : d ≤ 1000) (prev : ∀ e, e + 1 = d → MakeS l p e) : MakeS l p d := by
  intro deep hi lo h0 h bag m
  have hB := mB_pos d
  (refine enter Try.func23 rfl rfl (by kernel_rfl) [] ?_; simp only [go_sem, Nat.reduceBEq])
  by_cases hz : deep ≤ 0
  · simp only [decide_eq_true hz, go_sem, Nat.reduceBEq]
    refine (l1Below_c hl m 6 (by decide) (by decide)).mono ?_
    rintro _ h12 ⟨n12, rfl, p12, q12, m12⟩
    try simp only [go_sem, Nat.reduceBEq]
    by_cases d14 : n12 = 0
    · simp only [decide_eq_true d14, go_sem, Nat.reduceBEq]
      refine cur_strs [⟨#[]⟩, ⟨#[120]⟩, ⟨#[55]⟩, ⟨#[105, 116, 39, 115]⟩, ⟨#[97, 47, 98]⟩] slT47 rfl rfl rfl (by decide) (by decide) m12 fun v13 h13 m13 => ?_
      try simp only [go_sem, Nat.reduceBEq]
      refine (l1Str_c hl m13 (by decide) (by decide)).mono ?_
      rintro _ g13 ⟨s13, t13, rfl, m13⟩
      have z13 := (by decide : ∀ s ∈ ([⟨#[]⟩, ⟨#[120]⟩, ⟨#[55]⟩, ⟨#[105, 116, 39, 115]⟩, ⟨#[97, 47, 98]⟩] : List ByteArray), s.size ≤ 4) s13 t13
      clear t13
      have m13 := m13.drop
      try simp only [go_sem, Nat.reduceBEq, Nat.reduceAdd, Nat.reduceLeDiff]
      exact NodP.leaf 2 0 s13 (by (try simp only [bsz, Nd.bulks_cons, Nd.bulks_nil, List.size_toArray, List.length_cons, List.length_nil]); omega) m13
    simp only [decide_eq_false d14, go_sem, Nat.reduceBEq]
    by_cases d16 : n12 = 1
    · simp only [decide_eq_true d16, go_sem, Nat.reduceBEq]
      refine (l1Below_c hl m12 3 (by decide) (by decide)).mono ?_
      rintro _ h15 ⟨n15, rfl, p15, q15, m15⟩
      try simp only [go_sem, Nat.reduceBEq, Nat.reduceAdd, Nat.reduceLeDiff]
      exact NodP.leaf 3 n15 ⟨#[]⟩ (by (try simp only [bsz, List.size_toArray, List.length_nil]); omega) m15
    simp only [decide_eq_false d16, go_sem, Nat.reduceBEq]
    by_cases d18 : n12 = 2
    · simp only [decide_eq_true d18, go_sem, Nat.reduceBEq]
      refine (l15Var_c hl m12).mono ?_
      rintro _ h17 ⟨H17, x17, a17, c17, rfl, e17, b17, r17, m17⟩
      try simp only [go_sem, Nat.reduceBEq, Nat.reduceAdd, Nat.reduceLeDiff]
      exact ⟨_, x17, _, _, rfl, e17, (by omega), r17, m17⟩
    simp only [decide_eq_false d18, go_sem, Nat.reduceBEq]
    by_cases d20 : n12 = 3
    · simp only [decide_eq_true d20, go_sem, Nat.reduceBEq]
      refine (l15Var_c hl m12).mono ?_
      rintro _ h19 ⟨H19, x19, a19, c19, rfl, e19, b19, r19, m19⟩
      try simp only [go_sem, Nat.reduceBEq, Nat.reduceAdd, Nat.reduceLeDiff]
      exact ⟨_, x19, _, _, rfl, e19, (by omega), r19, m19⟩
    simp only [decide_eq_false d20, go_sem, Nat.reduceBEq]
    refine cur_ints [0, 1, 2, 3, 5, 10, 1000000000] slT45 rfl rfl rfl (by decide) (by decide) m12 fun v21 h21 m21 => ?_
    try simp only [go_sem, Nat.reduceBEq]
    refine (l1Int_c hl m21 (by decide) (by decide)).mono ?_
    rintro _ g21 ⟨n21, _, rfl, m21⟩
    have m21 := m21.drop
    try simp only [go_sem, Nat.reduceBEq, Nat.reduceAdd, Nat.reduceLeDiff]
    exact NodP.leaf 1 n21 ⟨#[]⟩ (by (try simp only [bsz, List.size_toArray, List.length_nil]); omega) m21
  simp only [decide_eq_false hz, go_sem, Nat.reduceBEq]
  refine (l1Once_c hl m 3 (by decide) (by decide)).mono ?_
  rintro _ h1 ⟨y, rfl, m1⟩
  try simp only [go_sem, Nat.reduceBEq]
  cases y with
  | true =>
    try simp only [go_sem, Nat.reduceBEq]
    refine (l1Below_c hl m1 6 (by decide) (by decide)).mono ?_
    rintro _ h22 ⟨n22, rfl, p22, q22, m22⟩
    try simp only [go_sem, Nat.reduceBEq]
    by_cases d24 : n22 = 0
    · simp only [decide_eq_true d24, go_sem, Nat.reduceBEq]
      refine cur_strs [⟨#[]⟩, ⟨#[120]⟩, ⟨#[55]⟩, ⟨#[105, 116, 39, 115]⟩, ⟨#[97, 47, 98]⟩] slT47 rfl rfl rfl (by decide) (by decide) m22 fun v23 h23 m23 => ?_
      try simp only [go_sem, Nat.reduceBEq]
      refine (l1Str_c hl m23 (by decide) (by decide)).mono ?_
      rintro _ g23 ⟨s23, t23, rfl, m23⟩
      have z23 := (by decide : ∀ s ∈ ([⟨#[]⟩, ⟨#[120]⟩, ⟨#[55]⟩, ⟨#[105, 116, 39, 115]⟩, ⟨#[97, 47, 98]⟩] : List ByteArray), s.size ≤ 4) s23 t23
      clear t23
      have m23 := m23.drop
      try simp only [go_sem, Nat.reduceBEq, Nat.reduceAdd, Nat.reduceLeDiff]
      exact NodP.leaf 2 0 s23 (by (try simp only [bsz, Nd.bulks_cons, Nd.bulks_nil, List.size_toArray, List.length_cons, List.length_nil]); omega) m23
    simp only [decide_eq_false d24, go_sem, Nat.reduceBEq]
    by_cases d26 : n22 = 1
    · simp only [decide_eq_true d26, go_sem, Nat.reduceBEq]
      refine (l1Below_c hl m22 3 (by decide) (by decide)).mono ?_
      rintro _ h25 ⟨n25, rfl, p25, q25, m25⟩
      try simp only [go_sem, Nat.reduceBEq, Nat.reduceAdd, Nat.reduceLeDiff]
      exact NodP.leaf 3 n25 ⟨#[]⟩ (by (try simp only [bsz, List.size_toArray, List.length_nil]); omega) m25
    simp only [decide_eq_false d26, go_sem, Nat.reduceBEq]
    by_cases d28 : n22 = 2
    · simp only [decide_eq_true d28, go_sem, Nat.reduceBEq]
      refine (l15Var_c hl m22).mono ?_
      rintro _ h27 ⟨H27, x27, a27, c27, rfl, e27, b27, r27, m27⟩
      try simp only [go_sem, Nat.reduceBEq, Nat.reduceAdd, Nat.reduceLeDiff]
      exact ⟨_, x27, _, _, rfl, e27, (by omega), r27, m27⟩
    simp only [decide_eq_false d28, go_sem, Nat.reduceBEq]
    by_cases d30 : n22 = 3
    · simp only [decide_eq_true d30, go_sem, Nat.reduceBEq]
      refine (l15Var_c hl m22).mono ?_
      rintro _ h29 ⟨H29, x29, a29, c29, rfl, e29, b29, r29, m29⟩
      try simp only [go_sem, Nat.reduceBEq, Nat.reduceAdd, Nat.reduceLeDiff]
      exact ⟨_, x29, _, _, rfl, e29, (by omega), r29, m29⟩
    simp only [decide_eq_false d30, go_sem, Nat.reduceBEq]
    refine cur_ints [0, 1, 2, 3, 5, 10, 1000000000] slT45 rfl rfl rfl (by decide) (by decide) m22 fun v31 h31 m31 => ?_
    try simp only [go_sem, Nat.reduceBEq]
    refine (l1Int_c hl m31 (by decide) (by decide)).mono ?_
    rintro _ g31 ⟨n31, _, rfl, m31⟩
    have m31 := m31.drop
    try simp only [go_sem, Nat.reduceBEq, Nat.reduceAdd, Nat.reduceLeDiff]
    exact NodP.leaf 1 n31 ⟨#[]⟩ (by (try simp only [bsz, List.size_toArray, List.length_nil]); omega) m31
  | false =>
  try simp only [go_sem, Nat.reduceBEq]
  obtain ⟨e, rfl⟩ : ∃ e, e + 1 = d := ⟨d - 1, by omega⟩
  have ih := prev e rfl
  have hE : mB (e + 1) = 20 + 3 * mB e := rfl
  have hE0 := mB_pos e
  have hw : IntKind.i64.wrap (deep - 1) = deep - 1 := IntWalk.i64_in _ (by omega)
  simp only [hw]
  refine (ih (deep - 1) (by omega) (by omega) m1).mono ?_
  rintro _ h32 ⟨H32, x32, a32, c32, rfl, e32, b32, r32, m32⟩
  try simp only [hw, go_sem, Nat.reduceBEq, Nat.reduceAdd, Nat.reduceLeDiff]
  refine (ih (deep - 1) (by omega) (by omega) m32).mono ?_
  rintro _ h33 ⟨H33, x33, a33, c33, rfl, e33, b33, r33, m33⟩
  try simp only [hw, go_sem, Nat.reduceBEq, Nat.reduceAdd, Nat.reduceLeDiff]
  refine (l15Aim_c hl (by omega) ih (deep - 1) (by omega) (by omega) m33).mono ?_
  rintro _ h34 ⟨H34, x34, a34, c34, rfl, e34, b34, r34, m34⟩
  try simp only [go_sem, Nat.reduceBEq, Nat.reduceAdd, Nat.reduceLeDiff]
  refine cur_nodes [(x32, .slice a32 x32.kids.length c32), (x33, .slice a33 x33.kids.length c33)] [x32, x33] rfl slT24 rfl rfl rfl (by decide) (by decide) (allc ((r32.mono e33).mono e34) (all1 (r33.mono e34))) m34 fun H35 a35 c35 h35 e35 r35 m35 => ?_
  try simp only [go_sem, Nat.reduceBEq]
  refine (l1Below_c hl m35 20 (by decide) (by decide)).mono ?_
  rintro _ h36 ⟨n36, rfl, p36, q36, m36⟩
  try simp only [go_sem, Nat.reduceBEq]
  by_cases d39 : n36 = 0
  · simp only [decide_eq_true d39, go_sem, Nat.reduceBEq, Nat.reduceAdd, Nat.reduceLeDiff]
    refine cur_nodes [(x32, .slice a32 x32.kids.length c32)] [x32] rfl slT24 rfl rfl rfl (by decide) (by decide) (all1 (((r32.mono e33).mono e34).mono e35)) m36 fun H37 a37 c37 h37 e37 r37 m37 => ?_
    try simp only [go_sem, Nat.reduceBEq]
    refine (l15N_c _ _ _ _ _ _).mono ?_
    rintro _ _ ⟨rfl, rfl⟩
    try simp only [go_sem, Nat.reduceBEq]
    refine (l15N_c _ _ _ _ _ _).mono ?_
    rintro _ _ ⟨rfl, rfl⟩
    try simp only [go_sem, Nat.reduceBEq]
    refine cur_nodes [((Nd.mk 6 0 ⟨#[]⟩ [x32]), .slice a37 1 c37), ((Nd.mk 6 0 ⟨#[]⟩ [x32, x33]), .slice a35 2 c35)] [(Nd.mk 6 0 ⟨#[]⟩ [x32]), (Nd.mk 6 0 ⟨#[]⟩ [x32, x33])] rfl slT24 rfl rfl rfl (by decide) (by decide) (allc r37 (all1 (r35.mono e37))) m37 fun H38 a38 c38 h38 e38 r38 m38 => ?_
    try simp only [go_sem, Nat.reduceBEq]
    refine (l15N_c _ _ _ _ _ _).mono ?_
    rintro _ _ ⟨rfl, rfl⟩
    try simp only [go_sem, Nat.reduceBEq, Nat.reduceAdd, Nat.reduceLeDiff]
    exact NodP.base (((((e32.trans e33).trans e34).trans e35).trans e37).trans e38) (NodP.mk 5 0 ⟨#[]⟩ r38 rfl (by (try simp only [bsz, Nd.bulk_mk, Nd.bulks_cons, Nd.bulks_nil, List.size_toArray, List.length_nil]); omega) m38)
  simp only [decide_eq_false d39, go_sem, Nat.reduceBEq]
  by_cases d40 : n36 = 1
  · simp only [decide_eq_true d40, go_sem, Nat.reduceBEq]
    refine (l15N_c _ _ _ _ _ _).mono ?_
    rintro _ _ ⟨rfl, rfl⟩
    try simp only [go_sem, Nat.reduceBEq, Nat.reduceAdd, Nat.reduceLeDiff]
    exact NodP.base (((e32.trans e33).trans e34).trans e35) (NodP.mk 7 0 ⟨#[]⟩ r35 rfl (by (try simp only [bsz, Nd.bulks_cons, Nd.bulks_nil, List.size_toArray, List.length_nil]); omega) m36)
  simp only [decide_eq_false d40, go_sem, Nat.reduceBEq]
  by_cases d43 : n36 = 2
  · simp only [decide_eq_true d43, go_sem, Nat.reduceBEq]
    refine (l15Var_c hl m36).mono ?_
    rintro _ h41 ⟨H41, x41, a41, c41, rfl, e41, b41, r41, m41⟩
    try simp only [go_sem, Nat.reduceBEq]
    refine cur_nodes [(x41, .slice a41 x41.kids.length c41)] [x41] rfl slT24 rfl rfl rfl (by decide) (by decide) (all1 r41) m41 fun H42 a42 c42 h42 e42 r42 m42 => ?_
    try simp only [go_sem, Nat.reduceBEq]
    refine (l15N_c _ _ _ _ _ _).mono ?_
    rintro _ _ ⟨rfl, rfl⟩
    try simp only [go_sem, Nat.reduceBEq, Nat.reduceAdd, Nat.reduceLeDiff]
    exact NodP.base (((((e32.trans e33).trans e34).trans e35).trans e41).trans e42) (NodP.mk 8 0 ⟨#[112]⟩ r42 rfl (by (try simp only [bsz, Nd.bulks_cons, Nd.bulks_nil, List.size_toArray, List.length_cons, List.length_nil]); omega) m42)
  simp only [decide_eq_false d43, go_sem, Nat.reduceBEq]
  by_cases d48 : n36 = 3
  · simp only [decide_eq_true d48, go_sem]
    refine regionT_intro (lb := [79]) (.two [0, 3] 1 (.one [2, 4, 5, 6]) 4 (.one [1, 2, 5, 6])) (by kernel_rfl) ?_
    simp only [runPlan_two, runPlan_one, plk_c, plk_n, plk_s, List.getElem?_toArray, List.getElem?_cons_succ, List.getElem?_cons_zero, go_sem, Nat.reduceBEq, Nat.reduceAdd, Nat.reduceLeDiff]
    refine bothK_mk ?_ ?_
    · try simp only [go_sem, Nat.reduceBEq]
      refine (l1Below_c hl m36 2 (by decide) (by decide)).mono ?_
      rintro _ h44 ⟨n44, rfl, p44, q44, m44⟩
      try simp only [go_sem, Nat.reduceBEq]
      refine cur_nodes [(x32, .slice a32 x32.kids.length c32)] [x32] rfl slT24 rfl rfl rfl (by decide) (by decide) (all1 (((r32.mono e33).mono e34).mono e35)) m44 fun H45 a45 c45 h45 e45 r45 m45 => ?_
      try simp only [go_sem, Nat.reduceBEq, Nat.reduceAdd, Nat.reduceLeDiff]
      exact NodP.base ((((e32.trans e33).trans e34).trans e35).trans e45) (NodP.mk 9 _ ⟨#[]⟩ r45 rfl (by (try simp only [bsz, Nd.bulks_cons, Nd.bulks_nil, List.size_toArray, List.length_nil]); omega) m45)
    · try simp only [go_sem, Nat.reduceBEq]
      refine cur_nodes [(x32, .slice a32 x32.kids.length c32)] [x32] rfl slT24 rfl rfl rfl (by decide) (by decide) (all1 (((r32.mono e33).mono e34).mono e35)) m36 fun H46 a46 c46 h46 e46 r46 m46 => ?_
      try simp only [go_sem, Nat.reduceBEq]
      refine (l1Below_c hl m46 2 (by decide) (by decide)).mono ?_
      rintro _ h47 ⟨n47, rfl, p47, q47, m47⟩
      try simp only [go_sem, Nat.reduceBEq, Nat.reduceAdd, Nat.reduceLeDiff]
      exact NodP.base ((((e32.trans e33).trans e34).trans e35).trans e46) (NodP.mk 9 _ ⟨#[]⟩ r46 rfl (by (try simp only [bsz, Nd.bulks_cons, Nd.bulks_nil, List.size_toArray, List.length_nil]); omega) m47)
  simp only [decide_eq_false d48, go_sem, Nat.reduceBEq]
  by_cases d50 : n36 = 4
  · simp only [decide_eq_true d50, go_sem, Nat.reduceBEq]
    refine (l1Below_c hl m36 3 (by decide) (by decide)).mono ?_
    rintro _ h49 ⟨n49, rfl, p49, q49, m49⟩
    try simp only [go_sem, Nat.reduceBEq]
    refine (l15N_c _ _ _ _ _ _).mono ?_
    rintro _ _ ⟨rfl, rfl⟩
    try simp only [go_sem, Nat.reduceBEq, Nat.reduceAdd, Nat.reduceLeDiff]
    exact NodP.base (((e32.trans e33).trans e34).trans e35) (NodP.mk _ 0 ⟨#[]⟩ r35 rfl (by (try simp only [bsz, Nd.bulks_cons, Nd.bulks_nil, List.size_toArray, List.length_nil]); omega) m49)
  simp only [decide_eq_false d50, go_sem, Nat.reduceBEq]
  by_cases d53 : n36 = 5
  · simp only [decide_eq_true d53, go_sem]
    refine regionD_intro (lb := [91, 92]) (by kernel_rfl) ?_
    try simp only [go_sem, Nat.reduceBEq, Nat.reduceAdd, Nat.reduceLeDiff]
    refine (l15Var_c hl m36).mono ?_
    rintro _ h51 ⟨H51, x51, a51, c51, rfl, e51, b51, r51, m51⟩
    try simp only [go_sem, Nat.reduceBEq]
    refine cur_nodes [(x32, .slice a32 x32.kids.length c32), (x33, .slice a33 x33.kids.length c33), (x51, .slice a51 x51.kids.length c51)] [x32, x33, x51] rfl slT24 rfl rfl rfl (by decide) (by decide) (allc ((((r32.mono e33).mono e34).mono e35).mono e51) (allc (((r33.mono e34).mono e35).mono e51) (all1 r51))) m51 fun H52 a52 c52 h52 e52 r52 m52 => ?_
    try simp only [go_sem, Nat.reduceBEq]
    refine (l15N_c _ _ _ _ _ _).mono ?_
    rintro _ _ ⟨rfl, rfl⟩
    try simp only [go_sem, Nat.reduceBEq, Nat.reduceAdd, Nat.reduceLeDiff]
    exact NodP.base (((((e32.trans e33).trans e34).trans e35).trans e51).trans e52) (NodP.mk 14 0 ⟨#[]⟩ r52 rfl (by (try simp only [bsz, Nd.bulks_cons, Nd.bulks_nil, List.size_toArray, List.length_nil]); omega) m52)
  simp only [decide_eq_false d53, go_sem, Nat.reduceBEq]
  by_cases d55 : n36 = 6
  · simp only [decide_eq_true d55, go_sem, Nat.reduceBEq, Nat.reduceAdd, Nat.reduceLeDiff]
    refine cur_nodes [(x34, .slice a34 x34.kids.length c34), (x33, .slice a33 x33.kids.length c33)] [x34, x33] rfl slT24 rfl rfl rfl (by decide) (by decide) (allc (r34.mono e35) (all1 ((r33.mono e34).mono e35))) m36 fun H54 a54 c54 h54 e54 r54 m54 => ?_
    try simp only [go_sem, Nat.reduceBEq]
    refine (l15N_c _ _ _ _ _ _).mono ?_
    rintro _ _ ⟨rfl, rfl⟩
    try simp only [go_sem, Nat.reduceBEq, Nat.reduceAdd, Nat.reduceLeDiff]
    exact NodP.base ((((e32.trans e33).trans e34).trans e35).trans e54) (NodP.mk 15 0 ⟨#[]⟩ r54 rfl (by (try simp only [bsz, Nd.bulks_cons, Nd.bulks_nil, List.size_toArray, List.length_nil]); omega) m54)
  simp only [decide_eq_false d55, go_sem, Nat.reduceBEq]
  by_cases d57 : n36 = 7
  · simp only [decide_eq_true d57, go_sem, Nat.reduceBEq, Nat.reduceAdd, Nat.reduceLeDiff]
    refine cur_nodes [(x34, .slice a34 x34.kids.length c34), (x33, .slice a33 x33.kids.length c33)] [x34, x33] rfl slT24 rfl rfl rfl (by decide) (by decide) (allc (r34.mono e35) (all1 ((r33.mono e34).mono e35))) m36 fun H56 a56 c56 h56 e56 r56 m56 => ?_
    try simp only [go_sem, Nat.reduceBEq]
    refine (l15N_c _ _ _ _ _ _).mono ?_
    rintro _ _ ⟨rfl, rfl⟩
    try simp only [go_sem, Nat.reduceBEq, Nat.reduceAdd, Nat.reduceLeDiff]
    exact NodP.base ((((e32.trans e33).trans e34).trans e35).trans e56) (NodP.mk 15 0 ⟨#[]⟩ r56 rfl (by (try simp only [bsz, Nd.bulks_cons, Nd.bulks_nil, List.size_toArray, List.length_nil]); omega) m56)
  simp only [decide_eq_false d57, go_sem, Nat.reduceBEq]
  by_cases d59 : n36 = 8
  · simp only [decide_eq_true d59, go_sem, Nat.reduceBEq, Nat.reduceAdd, Nat.reduceLeDiff]
    refine cur_nodes [(x34, .slice a34 x34.kids.length c34), (x33, .slice a33 x33.kids.length c33)] [x34, x33] rfl slT24 rfl rfl rfl (by decide) (by decide) (allc (r34.mono e35) (all1 ((r33.mono e34).mono e35))) m36 fun H58 a58 c58 h58 e58 r58 m58 => ?_
    try simp only [go_sem, Nat.reduceBEq]
    refine (l15N_c _ _ _ _ _ _).mono ?_
    rintro _ _ ⟨rfl, rfl⟩
    try simp only [go_sem, Nat.reduceBEq, Nat.reduceAdd, Nat.reduceLeDiff]
    exact NodP.base ((((e32.trans e33).trans e34).trans e35).trans e58) (NodP.mk 15 0 ⟨#[]⟩ r58 rfl (by (try simp only [bsz, Nd.bulks_cons, Nd.bulks_nil, List.size_toArray, List.length_nil]); omega) m58)
  simp only [decide_eq_false d59, go_sem, Nat.reduceBEq]
  by_cases d61 : n36 = 9
  · simp only [decide_eq_true d61, go_sem, Nat.reduceBEq, Nat.reduceAdd, Nat.reduceLeDiff]
    refine cur_nodes [(x34, .slice a34 x34.kids.length c34), (x33, .slice a33 x33.kids.length c33)] [x34, x33] rfl slT24 rfl rfl rfl (by decide) (by decide) (allc (r34.mono e35) (all1 ((r33.mono e34).mono e35))) m36 fun H60 a60 c60 h60 e60 r60 m60 => ?_
    try simp only [go_sem, Nat.reduceBEq]
    refine (l15N_c _ _ _ _ _ _).mono ?_
    rintro _ _ ⟨rfl, rfl⟩
    try simp only [go_sem, Nat.reduceBEq, Nat.reduceAdd, Nat.reduceLeDiff]
    exact NodP.base ((((e32.trans e33).trans e34).trans e35).trans e60) (NodP.mk 16 0 ⟨#[]⟩ r60 rfl (by (try simp only [bsz, Nd.bulks_cons, Nd.bulks_nil, List.size_toArray, List.length_nil]); omega) m60)
  simp only [decide_eq_false d61, go_sem, Nat.reduceBEq]
  by_cases d64 : n36 = 10
  · simp only [decide_eq_true d64, go_sem, Nat.reduceBEq]
    refine (l15Var_c hl m36).mono ?_
    rintro _ h62 ⟨H62, x62, a62, c62, rfl, e62, b62, r62, m62⟩
    try simp only [go_sem, Nat.reduceBEq]
    refine cur_nodes [(x62, .slice a62 x62.kids.length c62)] [x62] rfl slT24 rfl rfl rfl (by decide) (by decide) (all1 r62) m62 fun H63 a63 c63 h63 e63 r63 m63 => ?_
    try simp only [go_sem, Nat.reduceBEq]
    refine (l15N_c _ _ _ _ _ _).mono ?_
    rintro _ _ ⟨rfl, rfl⟩
    try simp only [go_sem, Nat.reduceBEq, Nat.reduceAdd, Nat.reduceLeDiff]
    exact NodP.base (((((e32.trans e33).trans e34).trans e35).trans e62).trans e63) (NodP.mk 17 0 ⟨#[98]⟩ r63 rfl (by (try simp only [bsz, Nd.bulks_cons, Nd.bulks_nil, List.size_toArray, List.length_cons, List.length_nil]); omega) m63)
  simp only [decide_eq_false d64, go_sem, Nat.reduceBEq]
  by_cases d72 : n36 = 11
  · simp only [decide_eq_true d72, go_sem, Nat.reduceBEq]
    refine regionT_intro (lb := [123]) (.two [0, 3] 1 (.two [] 2 (.one [4, 5, 6]) 4 (.one [2, 5, 6])) 4 (.one [1, 2, 5, 6])) (by kernel_rfl) ?_
    simp only [runPlan_two, runPlan_one, plk_c, plk_n, plk_s, List.getElem?_toArray, List.getElem?_cons_succ, List.getElem?_cons_zero, go_sem, Nat.reduceBEq, Nat.reduceAdd, Nat.reduceLeDiff]
    refine bothK_mk ?_ ?_
    · try simp only [go_sem]
      refine cur_strs [⟨#[102]⟩, ⟨#[103]⟩, ⟨#[115, 116, 114, 108, 101, 110]⟩, ⟨#[99, 111, 117, 110, 116]⟩, ⟨#[103, 101, 110]⟩] slT47 rfl rfl rfl (by decide) (by decide) m36 fun v65 h65 m65 => ?_
      try simp only [go_sem]
      refine bothK_mk ?_ ?_
      · try simp only [go_sem, Nat.reduceBEq]
        refine (l1Str_c (ns := [⟨#[102]⟩, ⟨#[103]⟩, ⟨#[115, 116, 114, 108, 101, 110]⟩, ⟨#[99, 111, 117, 110, 116]⟩, ⟨#[103, 101, 110]⟩]) hl m65 (by decide) (by decide)).mono ?_
        rintro _ g66 ⟨s66, t66, rfl, m66⟩
        have z66 := (by decide : ∀ s ∈ ([⟨#[102]⟩, ⟨#[103]⟩, ⟨#[115, 116, 114, 108, 101, 110]⟩, ⟨#[99, 111, 117, 110, 116]⟩, ⟨#[103, 101, 110]⟩] : List ByteArray), s.size ≤ 6) s66 t66
        clear t66
        have m66 := m66.drop
        try simp only [go_sem, Nat.reduceBEq]
        refine cur_nodes [(x32, .slice a32 x32.kids.length c32)] [x32] rfl slT24 rfl rfl rfl (by decide) (by decide) (all1 (((r32.mono e33).mono e34).mono e35)) m66 fun H67 a67 c67 h67 e67 r67 m67 => ?_
        try simp only [go_sem, Nat.reduceBEq]
        refine (l15N_c _ _ _ _ _ _).mono ?_
        rintro _ _ ⟨rfl, rfl⟩
        try simp only [go_sem, Nat.reduceBEq, Nat.reduceAdd, Nat.reduceLeDiff]
        exact NodP.base ((((e32.trans e33).trans e34).trans e35).trans e67) (NodP.mk 18 0 s66 r67 rfl (by (try simp only [Nd.bulks_cons, Nd.bulks_nil]); omega) m67)
      · try simp only [go_sem, Nat.reduceBEq]
        refine cur_nodes [(x32, .slice a32 x32.kids.length c32)] [x32] rfl slT24 rfl rfl rfl (by decide) (by decide) (all1 (((r32.mono e33).mono e34).mono e35)) m65 fun H68 a68 c68 h68 e68 r68 m68 => ?_
        try simp only [go_sem, Nat.reduceBEq]
        refine (l1Str_c (ns := [⟨#[102]⟩, ⟨#[103]⟩, ⟨#[115, 116, 114, 108, 101, 110]⟩, ⟨#[99, 111, 117, 110, 116]⟩, ⟨#[103, 101, 110]⟩]) hl m68 (by decide) (by decide)).mono ?_
        rintro _ g69 ⟨s69, t69, rfl, m69⟩
        have z69 := (by decide : ∀ s ∈ ([⟨#[102]⟩, ⟨#[103]⟩, ⟨#[115, 116, 114, 108, 101, 110]⟩, ⟨#[99, 111, 117, 110, 116]⟩, ⟨#[103, 101, 110]⟩] : List ByteArray), s.size ≤ 6) s69 t69
        clear t69
        have m69 := m69.drop
        try simp only [go_sem, Nat.reduceBEq]
        refine (l15N_c _ _ _ _ _ _).mono ?_
        rintro _ _ ⟨rfl, rfl⟩
        try simp only [go_sem, Nat.reduceBEq, Nat.reduceAdd, Nat.reduceLeDiff]
        exact NodP.base ((((e32.trans e33).trans e34).trans e35).trans e68) (NodP.mk 18 0 s69 r68 rfl (by (try simp only [Nd.bulks_cons, Nd.bulks_nil]); omega) m69)
    · try simp only [go_sem, Nat.reduceBEq]
      refine cur_nodes [(x32, .slice a32 x32.kids.length c32)] [x32] rfl slT24 rfl rfl rfl (by decide) (by decide) (all1 (((r32.mono e33).mono e34).mono e35)) m36 fun H70 a70 c70 h70 e70 r70 m70 => ?_
      try simp only [go_sem]
      refine cur_strs [⟨#[102]⟩, ⟨#[103]⟩, ⟨#[115, 116, 114, 108, 101, 110]⟩, ⟨#[99, 111, 117, 110, 116]⟩, ⟨#[103, 101, 110]⟩] slT47 rfl rfl rfl (by decide) (by decide) m70 fun v71 h71 m71 => ?_
      try simp only [go_sem, Nat.reduceBEq]
      refine (l1Str_c hl m71 (by decide) (by decide)).mono ?_
      rintro _ g71 ⟨s71, t71, rfl, m71⟩
      have z71 := (by decide : ∀ s ∈ ([⟨#[102]⟩, ⟨#[103]⟩, ⟨#[115, 116, 114, 108, 101, 110]⟩, ⟨#[99, 111, 117, 110, 116]⟩, ⟨#[103, 101, 110]⟩] : List ByteArray), s.size ≤ 6) s71 t71
      clear t71
      have m71 := m71.drop
      try simp only [go_sem, Nat.reduceBEq]
      refine (l15N_c _ _ _ _ _ _).mono ?_
      rintro _ _ ⟨rfl, rfl⟩
      try simp only [go_sem, Nat.reduceBEq, Nat.reduceAdd, Nat.reduceLeDiff]
      exact NodP.base ((((e32.trans e33).trans e34).trans e35).trans e70) (NodP.mk 18 0 s71 r70 rfl (by (try simp only [Nd.bulks_cons, Nd.bulks_nil]); omega) m71)
  simp only [decide_eq_false d72, go_sem, Nat.reduceBEq]
  by_cases d80 : n36 = 12
  · simp only [decide_eq_true d80, go_sem]
    refine regionT_intro (lb := [123]) (.two [0, 3] 1 (.two [] 2 (.one [4, 5, 6]) 4 (.one [2, 5, 6])) 4 (.one [1, 2, 5, 6])) (by kernel_rfl) ?_
    simp only [runPlan_two, runPlan_one, plk_c, plk_n, plk_s, List.getElem?_toArray, List.getElem?_cons_succ, List.getElem?_cons_zero, go_sem, Nat.reduceBEq, Nat.reduceAdd, Nat.reduceLeDiff]
    refine bothK_mk ?_ ?_
    · try simp only [go_sem]
      refine cur_strs [⟨#[102]⟩, ⟨#[103]⟩, ⟨#[115, 116, 114, 108, 101, 110]⟩, ⟨#[99, 111, 117, 110, 116]⟩, ⟨#[103, 101, 110]⟩] slT47 rfl rfl rfl (by decide) (by decide) m36 fun v73 h73 m73 => ?_
      try simp only [go_sem]
      refine bothK_mk ?_ ?_
      · try simp only [go_sem, Nat.reduceBEq]
        refine (l1Str_c (ns := [⟨#[102]⟩, ⟨#[103]⟩, ⟨#[115, 116, 114, 108, 101, 110]⟩, ⟨#[99, 111, 117, 110, 116]⟩, ⟨#[103, 101, 110]⟩]) hl m73 (by decide) (by decide)).mono ?_
        rintro _ g74 ⟨s74, t74, rfl, m74⟩
        have z74 := (by decide : ∀ s ∈ ([⟨#[102]⟩, ⟨#[103]⟩, ⟨#[115, 116, 114, 108, 101, 110]⟩, ⟨#[99, 111, 117, 110, 116]⟩, ⟨#[103, 101, 110]⟩] : List ByteArray), s.size ≤ 6) s74 t74
        clear t74
        have m74 := m74.drop
        try simp only [go_sem, Nat.reduceBEq]
        refine cur_nodes [(x32, .slice a32 x32.kids.length c32)] [x32] rfl slT24 rfl rfl rfl (by decide) (by decide) (all1 (((r32.mono e33).mono e34).mono e35)) m74 fun H75 a75 c75 h75 e75 r75 m75 => ?_
        try simp only [go_sem, Nat.reduceBEq]
        refine (l15N_c _ _ _ _ _ _).mono ?_
        rintro _ _ ⟨rfl, rfl⟩
        try simp only [go_sem, Nat.reduceBEq, Nat.reduceAdd, Nat.reduceLeDiff]
        exact NodP.base ((((e32.trans e33).trans e34).trans e35).trans e75) (NodP.mk 18 0 s74 r75 rfl (by (try simp only [Nd.bulks_cons, Nd.bulks_nil]); omega) m75)
      · try simp only [go_sem, Nat.reduceBEq]
        refine cur_nodes [(x32, .slice a32 x32.kids.length c32)] [x32] rfl slT24 rfl rfl rfl (by decide) (by decide) (all1 (((r32.mono e33).mono e34).mono e35)) m73 fun H76 a76 c76 h76 e76 r76 m76 => ?_
        try simp only [go_sem, Nat.reduceBEq]
        refine (l1Str_c (ns := [⟨#[102]⟩, ⟨#[103]⟩, ⟨#[115, 116, 114, 108, 101, 110]⟩, ⟨#[99, 111, 117, 110, 116]⟩, ⟨#[103, 101, 110]⟩]) hl m76 (by decide) (by decide)).mono ?_
        rintro _ g77 ⟨s77, t77, rfl, m77⟩
        have z77 := (by decide : ∀ s ∈ ([⟨#[102]⟩, ⟨#[103]⟩, ⟨#[115, 116, 114, 108, 101, 110]⟩, ⟨#[99, 111, 117, 110, 116]⟩, ⟨#[103, 101, 110]⟩] : List ByteArray), s.size ≤ 6) s77 t77
        clear t77
        have m77 := m77.drop
        try simp only [go_sem, Nat.reduceBEq]
        refine (l15N_c _ _ _ _ _ _).mono ?_
        rintro _ _ ⟨rfl, rfl⟩
        try simp only [go_sem, Nat.reduceBEq, Nat.reduceAdd, Nat.reduceLeDiff]
        exact NodP.base ((((e32.trans e33).trans e34).trans e35).trans e76) (NodP.mk 18 0 s77 r76 rfl (by (try simp only [Nd.bulks_cons, Nd.bulks_nil]); omega) m77)
    · try simp only [go_sem, Nat.reduceBEq]
      refine cur_nodes [(x32, .slice a32 x32.kids.length c32)] [x32] rfl slT24 rfl rfl rfl (by decide) (by decide) (all1 (((r32.mono e33).mono e34).mono e35)) m36 fun H78 a78 c78 h78 e78 r78 m78 => ?_
      try simp only [go_sem]
      refine cur_strs [⟨#[102]⟩, ⟨#[103]⟩, ⟨#[115, 116, 114, 108, 101, 110]⟩, ⟨#[99, 111, 117, 110, 116]⟩, ⟨#[103, 101, 110]⟩] slT47 rfl rfl rfl (by decide) (by decide) m78 fun v79 h79 m79 => ?_
      try simp only [go_sem, Nat.reduceBEq]
      refine (l1Str_c hl m79 (by decide) (by decide)).mono ?_
      rintro _ g79 ⟨s79, t79, rfl, m79⟩
      have z79 := (by decide : ∀ s ∈ ([⟨#[102]⟩, ⟨#[103]⟩, ⟨#[115, 116, 114, 108, 101, 110]⟩, ⟨#[99, 111, 117, 110, 116]⟩, ⟨#[103, 101, 110]⟩] : List ByteArray), s.size ≤ 6) s79 t79
      clear t79
      have m79 := m79.drop
      try simp only [go_sem, Nat.reduceBEq]
      refine (l15N_c _ _ _ _ _ _).mono ?_
      rintro _ _ ⟨rfl, rfl⟩
      try simp only [go_sem, Nat.reduceBEq, Nat.reduceAdd, Nat.reduceLeDiff]
      exact NodP.base ((((e32.trans e33).trans e34).trans e35).trans e78) (NodP.mk 18 0 s79 r78 rfl (by (try simp only [Nd.bulks_cons, Nd.bulks_nil]); omega) m79)
  simp only [decide_eq_false d80, go_sem, Nat.reduceBEq]
  by_cases d83 : n36 = 13
  · simp only [decide_eq_true d83, go_sem]
    refine regionD_intro (lb := [130]) (by kernel_rfl) ?_
    try simp only [go_sem, Nat.reduceBEq]
    refine (l15Var_c hl m36).mono ?_
    rintro _ h81 ⟨H81, x81, a81, c81, rfl, e81, b81, r81, m81⟩
    try simp only [go_sem, Nat.reduceBEq, Nat.reduceAdd, Nat.reduceLeDiff]
    refine cur_nodes [(x81, .slice a81 x81.kids.length c81), (x33, .slice a33 x33.kids.length c33)] [x81, x33] rfl slT24 rfl rfl rfl (by decide) (by decide) (allc r81 (all1 (((r33.mono e34).mono e35).mono e81))) m81 fun H82 a82 c82 h82 e82 r82 m82 => ?_
    try simp only [go_sem, Nat.reduceBEq]
    refine (l15N_c _ _ _ _ _ _).mono ?_
    rintro _ _ ⟨rfl, rfl⟩
    try simp only [go_sem, Nat.reduceBEq, Nat.reduceAdd, Nat.reduceLeDiff]
    exact NodP.base (((((e32.trans e33).trans e34).trans e35).trans e81).trans e82) (NodP.mk 20 0 ⟨#[109]⟩ r82 rfl (by (try simp only [bsz, Nd.bulks_cons, Nd.bulks_nil, List.size_toArray, List.length_cons, List.length_nil]); omega) m82)
  simp only [decide_eq_false d83, go_sem, Nat.reduceBEq]
  by_cases d91 : n36 = 14
  · simp only [decide_eq_true d91, go_sem]
    refine regionT_intro (lb := [138]) (.two [0, 3] 1 (.two [] 2 (.one [4, 5, 6]) 4 (.one [2, 5, 6])) 4 (.one [1, 2, 5, 6])) (by kernel_rfl) ?_
    simp only [runPlan_two, runPlan_one, plk_c, plk_n, plk_s, List.getElem?_toArray, List.getElem?_cons_succ, List.getElem?_cons_zero, go_sem, Nat.reduceBEq, Nat.reduceAdd, Nat.reduceLeDiff]
    refine bothK_mk ?_ ?_
    · try simp only [go_sem]
      refine cur_strs [⟨#[65]⟩, ⟨#[66]⟩, ⟨#[69, 114, 114, 111, 114]⟩] slT47 rfl rfl rfl (by decide) (by decide) m36 fun v84 h84 m84 => ?_
      try simp only [go_sem]
      refine bothK_mk ?_ ?_
      · try simp only [go_sem, Nat.reduceBEq]
        refine (l1Str_c (ns := [⟨#[65]⟩, ⟨#[66]⟩, ⟨#[69, 114, 114, 111, 114]⟩]) hl m84 (by decide) (by decide)).mono ?_
        rintro _ g85 ⟨s85, t85, rfl, m85⟩
        have z85 := (by decide : ∀ s ∈ ([⟨#[65]⟩, ⟨#[66]⟩, ⟨#[69, 114, 114, 111, 114]⟩] : List ByteArray), s.size ≤ 5) s85 t85
        clear t85
        have m85 := m85.drop
        try simp only [go_sem, Nat.reduceBEq]
        refine cur_nodes [(x32, .slice a32 x32.kids.length c32)] [x32] rfl slT24 rfl rfl rfl (by decide) (by decide) (all1 (((r32.mono e33).mono e34).mono e35)) m85 fun H86 a86 c86 h86 e86 r86 m86 => ?_
        try simp only [go_sem, Nat.reduceBEq]
        refine (l15N_c _ _ _ _ _ _).mono ?_
        rintro _ _ ⟨rfl, rfl⟩
        try simp only [go_sem, Nat.reduceBEq, Nat.reduceAdd, Nat.reduceLeDiff]
        exact NodP.base ((((e32.trans e33).trans e34).trans e35).trans e86) (NodP.mk 22 0 s85 r86 rfl (by (try simp only [Nd.bulks_cons, Nd.bulks_nil]); omega) m86)
      · try simp only [go_sem, Nat.reduceBEq]
        refine cur_nodes [(x32, .slice a32 x32.kids.length c32)] [x32] rfl slT24 rfl rfl rfl (by decide) (by decide) (all1 (((r32.mono e33).mono e34).mono e35)) m84 fun H87 a87 c87 h87 e87 r87 m87 => ?_
        try simp only [go_sem, Nat.reduceBEq]
        refine (l1Str_c (ns := [⟨#[65]⟩, ⟨#[66]⟩, ⟨#[69, 114, 114, 111, 114]⟩]) hl m87 (by decide) (by decide)).mono ?_
        rintro _ g88 ⟨s88, t88, rfl, m88⟩
        have z88 := (by decide : ∀ s ∈ ([⟨#[65]⟩, ⟨#[66]⟩, ⟨#[69, 114, 114, 111, 114]⟩] : List ByteArray), s.size ≤ 5) s88 t88
        clear t88
        have m88 := m88.drop
        try simp only [go_sem, Nat.reduceBEq]
        refine (l15N_c _ _ _ _ _ _).mono ?_
        rintro _ _ ⟨rfl, rfl⟩
        try simp only [go_sem, Nat.reduceBEq, Nat.reduceAdd, Nat.reduceLeDiff]
        exact NodP.base ((((e32.trans e33).trans e34).trans e35).trans e87) (NodP.mk 22 0 s88 r87 rfl (by (try simp only [Nd.bulks_cons, Nd.bulks_nil]); omega) m88)
    · try simp only [go_sem, Nat.reduceBEq]
      refine cur_nodes [(x32, .slice a32 x32.kids.length c32)] [x32] rfl slT24 rfl rfl rfl (by decide) (by decide) (all1 (((r32.mono e33).mono e34).mono e35)) m36 fun H89 a89 c89 h89 e89 r89 m89 => ?_
      try simp only [go_sem]
      refine cur_strs [⟨#[65]⟩, ⟨#[66]⟩, ⟨#[69, 114, 114, 111, 114]⟩] slT47 rfl rfl rfl (by decide) (by decide) m89 fun v90 h90 m90 => ?_
      try simp only [go_sem, Nat.reduceBEq]
      refine (l1Str_c hl m90 (by decide) (by decide)).mono ?_
      rintro _ g90 ⟨s90, t90, rfl, m90⟩
      have z90 := (by decide : ∀ s ∈ ([⟨#[65]⟩, ⟨#[66]⟩, ⟨#[69, 114, 114, 111, 114]⟩] : List ByteArray), s.size ≤ 5) s90 t90
      clear t90
      have m90 := m90.drop
      try simp only [go_sem, Nat.reduceBEq]
      refine (l15N_c _ _ _ _ _ _).mono ?_
      rintro _ _ ⟨rfl, rfl⟩
      try simp only [go_sem, Nat.reduceBEq, Nat.reduceAdd, Nat.reduceLeDiff]
      exact NodP.base ((((e32.trans e33).trans e34).trans e35).trans e89) (NodP.mk 22 0 s90 r89 rfl (by (try simp only [Nd.bulks_cons, Nd.bulks_nil]); omega) m90)
  simp only [decide_eq_false d91, go_sem, Nat.reduceBEq]
  by_cases d99 : n36 = 15
  · simp only [decide_eq_true d99, go_sem]
    refine regionT_intro (lb := [146]) (.two [0, 3] 1 (.two [] 2 (.one [4, 5, 6]) 4 (.one [2, 5, 6])) 4 (.one [1, 2, 5, 6])) (by kernel_rfl) ?_
    simp only [runPlan_two, runPlan_one, plk_c, plk_n, plk_s, List.getElem?_toArray, List.getElem?_cons_succ, List.getElem?_cons_zero, go_sem, Nat.reduceBEq, Nat.reduceAdd, Nat.reduceLeDiff]
    refine bothK_mk ?_ ?_
    · try simp only [go_sem]
      refine cur_strs [⟨#[65, 58, 58, 115]⟩, ⟨#[115, 101, 108, 102, 58, 58, 109]⟩, ⟨#[115, 116, 97, 116, 105, 99, 58, 58, 115]⟩, ⟨#[112, 97, 114, 101, 110, 116, 58, 58, 109]⟩] slT47 rfl rfl rfl (by decide) (by decide) m36 fun v92 h92 m92 => ?_
      try simp only [go_sem]
      refine bothK_mk ?_ ?_
      · try simp only [go_sem, Nat.reduceBEq]
        refine (l1Str_c (ns := [⟨#[65, 58, 58, 115]⟩, ⟨#[115, 101, 108, 102, 58, 58, 109]⟩, ⟨#[115, 116, 97, 116, 105, 99, 58, 58, 115]⟩, ⟨#[112, 97, 114, 101, 110, 116, 58, 58, 109]⟩]) hl m92 (by decide) (by decide)).mono ?_
        rintro _ g93 ⟨s93, t93, rfl, m93⟩
        have z93 := (by decide : ∀ s ∈ ([⟨#[65, 58, 58, 115]⟩, ⟨#[115, 101, 108, 102, 58, 58, 109]⟩, ⟨#[115, 116, 97, 116, 105, 99, 58, 58, 115]⟩, ⟨#[112, 97, 114, 101, 110, 116, 58, 58, 109]⟩] : List ByteArray), s.size ≤ 9) s93 t93
        clear t93
        have m93 := m93.drop
        try simp only [go_sem, Nat.reduceBEq]
        refine cur_nodes [(x33, .slice a33 x33.kids.length c33)] [x33] rfl slT24 rfl rfl rfl (by decide) (by decide) (all1 ((r33.mono e34).mono e35)) m93 fun H94 a94 c94 h94 e94 r94 m94 => ?_
        try simp only [go_sem, Nat.reduceBEq]
        refine (l15N_c _ _ _ _ _ _).mono ?_
        rintro _ _ ⟨rfl, rfl⟩
        try simp only [go_sem, Nat.reduceBEq, Nat.reduceAdd, Nat.reduceLeDiff]
        exact NodP.base ((((e32.trans e33).trans e34).trans e35).trans e94) (NodP.mk 21 0 s93 r94 rfl (by (try simp only [Nd.bulks_cons, Nd.bulks_nil]); omega) m94)
      · try simp only [go_sem, Nat.reduceBEq]
        refine cur_nodes [(x33, .slice a33 x33.kids.length c33)] [x33] rfl slT24 rfl rfl rfl (by decide) (by decide) (all1 ((r33.mono e34).mono e35)) m92 fun H95 a95 c95 h95 e95 r95 m95 => ?_
        try simp only [go_sem, Nat.reduceBEq]
        refine (l1Str_c (ns := [⟨#[65, 58, 58, 115]⟩, ⟨#[115, 101, 108, 102, 58, 58, 109]⟩, ⟨#[115, 116, 97, 116, 105, 99, 58, 58, 115]⟩, ⟨#[112, 97, 114, 101, 110, 116, 58, 58, 109]⟩]) hl m95 (by decide) (by decide)).mono ?_
        rintro _ g96 ⟨s96, t96, rfl, m96⟩
        have z96 := (by decide : ∀ s ∈ ([⟨#[65, 58, 58, 115]⟩, ⟨#[115, 101, 108, 102, 58, 58, 109]⟩, ⟨#[115, 116, 97, 116, 105, 99, 58, 58, 115]⟩, ⟨#[112, 97, 114, 101, 110, 116, 58, 58, 109]⟩] : List ByteArray), s.size ≤ 9) s96 t96
        clear t96
        have m96 := m96.drop
        try simp only [go_sem, Nat.reduceBEq]
        refine (l15N_c _ _ _ _ _ _).mono ?_
        rintro _ _ ⟨rfl, rfl⟩
        try simp only [go_sem, Nat.reduceBEq, Nat.reduceAdd, Nat.reduceLeDiff]
        exact NodP.base ((((e32.trans e33).trans e34).trans e35).trans e95) (NodP.mk 21 0 s96 r95 rfl (by (try simp only [Nd.bulks_cons, Nd.bulks_nil]); omega) m96)
    · try simp only [go_sem, Nat.reduceBEq]
      refine cur_nodes [(x33, .slice a33 x33.kids.length c33)] [x33] rfl slT24 rfl rfl rfl (by decide) (by decide) (all1 ((r33.mono e34).mono e35)) m36 fun H97 a97 c97 h97 e97 r97 m97 => ?_
      try simp only [go_sem]
      refine cur_strs [⟨#[65, 58, 58, 115]⟩, ⟨#[115, 101, 108, 102, 58, 58, 109]⟩, ⟨#[115, 116, 97, 116, 105, 99, 58, 58, 115]⟩, ⟨#[112, 97, 114, 101, 110, 116, 58, 58, 109]⟩] slT47 rfl rfl rfl (by decide) (by decide) m97 fun v98 h98 m98 => ?_
      try simp only [go_sem, Nat.reduceBEq]
      refine (l1Str_c hl m98 (by decide) (by decide)).mono ?_
      rintro _ g98 ⟨s98, t98, rfl, m98⟩
      have z98 := (by decide : ∀ s ∈ ([⟨#[65, 58, 58, 115]⟩, ⟨#[115, 101, 108, 102, 58, 58, 109]⟩, ⟨#[115, 116, 97, 116, 105, 99, 58, 58, 115]⟩, ⟨#[112, 97, 114, 101, 110, 116, 58, 58, 109]⟩] : List ByteArray), s.size ≤ 9) s98 t98
      clear t98
      have m98 := m98.drop
      try simp only [go_sem, Nat.reduceBEq]
      refine (l15N_c _ _ _ _ _ _).mono ?_
      rintro _ _ ⟨rfl, rfl⟩
      try simp only [go_sem, Nat.reduceBEq, Nat.reduceAdd, Nat.reduceLeDiff]
      exact NodP.base ((((e32.trans e33).trans e34).trans e35).trans e97) (NodP.mk 21 0 s98 r97 rfl (by (try simp only [Nd.bulks_cons, Nd.bulks_nil]); omega) m98)
  simp only [decide_eq_false d99, go_sem, Nat.reduceBEq]
  by_cases d107 : n36 = 16
  · simp only [decide_eq_true d107, go_sem, Nat.reduceBEq, Nat.reduceAdd, Nat.reduceLeDiff]
    refine cur_nodes [(x32, .slice a32 x32.kids.length c32)] [x32] rfl slT24 rfl rfl rfl (by decide) (by decide) (all1 (((r32.mono e33).mono e34).mono e35)) m36 fun H100 a100 c100 h100 e100 r100 m100 => ?_
    try simp only [go_sem, Nat.reduceBEq]
    refine (l15N_c _ _ _ _ _ _).mono ?_
    rintro _ _ ⟨rfl, rfl⟩
    try simp only [go_sem, Nat.reduceBEq]
    refine cur_nodes [((Nd.mk 39 0 ⟨#[]⟩ [x32]), .slice a100 1 c100)] [(Nd.mk 39 0 ⟨#[]⟩ [x32])] rfl slT24 rfl rfl rfl (by decide) (by decide) (all1 r100) m100 fun H101 a101 c101 h101 e101 r101 m101 => ?_
    try simp only [go_sem, Nat.reduceBEq]
    refine (l15N_c _ _ _ _ _ _).mono ?_
    rintro _ _ ⟨rfl, rfl⟩
    try simp only [go_sem, Nat.reduceBEq, Nat.reduceAdd, Nat.reduceLeDiff]
    refine regionD_intro (lb := [162]) (by kernel_rfl) ?_
    try simp only [go_sem, Nat.reduceBEq]
    refine (l1Below_c hl m101 2 (by decide) (by decide)).mono ?_
    rintro _ h102 ⟨n102, rfl, p102, q102, m102⟩
    try simp only [go_sem, Nat.reduceBEq, Nat.reduceAdd, Nat.reduceLeDiff]
    refine (l1Below_c hl m102 2 (by decide) (by decide)).mono ?_
    rintro _ h103 ⟨n103, rfl, p103, q103, m103⟩
    try simp only [go_sem, Nat.reduceBEq, Nat.reduceAdd, Nat.reduceLeDiff]
    refine cur_nodes [((Nd.mk 24 n102 ⟨#[105]⟩ []), .slice none 0 0), ((Nd.mk 25 n103 ⟨#[98]⟩ []), .slice none 0 0), ((Nd.mk 48 0 ⟨#[]⟩ [(Nd.mk 39 0 ⟨#[]⟩ [x32])]), .slice a101 1 c101)] [(Nd.mk 24 n102 ⟨#[105]⟩ []), (Nd.mk 25 n103 ⟨#[98]⟩ []), (Nd.mk 48 0 ⟨#[]⟩ [(Nd.mk 39 0 ⟨#[]⟩ [x32])])] rfl slT24 rfl rfl rfl (by decide) (by decide) (allc (rdn_nil _) (allc (rdn_nil _) (all1 r101))) m103 fun H106 a106 c106 h106 e106 r106 m106 => ?_
    try simp only [go_sem, Nat.reduceBEq]
    refine (l15N_c _ _ _ _ _ _).mono ?_
    rintro _ _ ⟨rfl, rfl⟩
    try simp only [go_sem, Nat.reduceBEq, Nat.reduceAdd, Nat.reduceLeDiff]
    exact NodP.base ((((((e32.trans e33).trans e34).trans e35).trans e100).trans e101).trans e106) (NodP.mk 23 0 ⟨#[]⟩ r106 rfl (by (try simp only [bsz, Nd.bulk_mk, Nd.bulks_cons, Nd.bulks_nil, List.size_toArray, List.length_cons, List.length_nil]); omega) m106)
  simp only [decide_eq_false d107, go_sem, Nat.reduceBEq]
  by_cases d110 : n36 = 17
  · simp only [decide_eq_true d110, go_sem]
    refine regionD_intro (lb := [169]) (by kernel_rfl) ?_
    try simp only [go_sem, Nat.reduceBEq]
    refine (l15Var_c hl m36).mono ?_
    rintro _ h108 ⟨H108, x108, a108, c108, rfl, e108, b108, r108, m108⟩
    try simp only [go_sem, Nat.reduceBEq, Nat.reduceAdd, Nat.reduceLeDiff]
    refine cur_nodes [(x108, .slice a108 x108.kids.length c108), (x33, .slice a33 x33.kids.length c33)] [x108, x33] rfl slT24 rfl rfl rfl (by decide) (by decide) (allc r108 (all1 (((r33.mono e34).mono e35).mono e108))) m108 fun H109 a109 c109 h109 e109 r109 m109 => ?_
    try simp only [go_sem, Nat.reduceBEq]
    refine (l15N_c _ _ _ _ _ _).mono ?_
    rintro _ _ ⟨rfl, rfl⟩
    try simp only [go_sem, Nat.reduceBEq, Nat.reduceAdd, Nat.reduceLeDiff]
    exact NodP.base (((((e32.trans e33).trans e34).trans e35).trans e108).trans e109) (NodP.mk 19 0 ⟨#[]⟩ r109 rfl (by (try simp only [bsz, Nd.bulks_cons, Nd.bulks_nil, List.size_toArray, List.length_nil]); omega) m109)
  simp only [decide_eq_false d110, go_sem, Nat.reduceBEq]
  refine cur_ints [1, 2, 3, 4, 5, 6, 6, 6, 7, 9, 11, 15] slT45 rfl rfl rfl (by decide) (by decide) m36 fun v111 h111 m111 => ?_
  try simp only [go_sem, Nat.reduceBEq]
  refine (l1Int_c hl m111 (by decide) (by decide)).mono ?_
  rintro _ g111 ⟨n111, _, rfl, m111⟩
  have m111 := m111.drop
  try simp only [go_sem, Nat.reduceBEq, Nat.reduceAdd, Nat.reduceLeDiff]
  exact NodP.base (((e32.trans e33).trans e34).trans e35) (NodP.mk 10 n111 ⟨#[]⟩ r35 rfl (by (try simp only [bsz, Nd.bulks_cons, Nd.bulks_nil, List.size_toArray, List.length_nil]); omega) m111)
theorem l15Make_c (hl : l.length ≤ 1048576) : ∀ d, d ≤ 1000 → MakeS l p d
  | 0, h => l15Make_s hl 0 h fun e he => by omega
  | d + 1, h => l15Make_s hl (d + 1) h fun e he => by
    obtain rfl : e = d := by omega
    exact l15Make_c hl e (by omega)
end
end Go.Proofs.Ytconhonjkfpfmaa
