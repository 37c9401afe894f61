/-
  The draws of syntax trees: each returns some node, of a bulk that is bounded; what it makes is laid aside.
-/
import Derived.Test.YtconhonjkfpfmaaCur
import Derived.Test.YtconhonjkfpfmaaFacts
import Derived.Test.YtconhonjkfpfmaaSxCurN
import Derived.Test.YtconhonjkfpfmaaSxStill
namespace Go.Proofs.Ytconhonjkfpfmaa
set_option maxRecDepth 8000
open Go Go.Sx
section
variable {h0 h : Hp} {bag : Bag} {l : List UInt8} {p : Nat}
theorem l15N_c (k : Int) (s : ByteArray) (a : Option Addr) (n c : Nat) (h : Hp) : ACalls Try.prog 30 #[.int .i64 k, .string s, .slice a n c] h (Pu (.agg #[.int .i64 k, .int .i64 0, .string s, .slice a n c]) h) := by
  (refine enter Try.func30 rfl rfl (by kernel_rfl) [] ?_; simp only [go_sem, Nat.reduceBEq, Nat.reduceAdd, Nat.reduceLeDiff])
  exact ⟨rfl, rfl⟩
theorem l15Var_c (hl : l.length ≤ 1048576) (m : CurM h0 h l p bag) : ACalls Try.prog 29 #[pv p] h (NodP 1 h0 l p bag) := by
  (refine enter Try.func29 rfl rfl (by kernel_rfl) [] ?_; simp only [go_sem, Nat.reduceBEq])
  refine cur_strs [⟨#[97]⟩, ⟨#[98]⟩, ⟨#[99]⟩, ⟨#[105]⟩, ⟨#[111]⟩] slT47 rfl rfl rfl (by decide) (by decide) m fun v1 h1 m1 => ?_
  try simp only [go_sem, Nat.reduceBEq]
  refine (l1Str_c hl m1 (by decide) (by decide)).mono ?_
  rintro _ g1 ⟨s1, t1, rfl, m1⟩
  have z1 := (by decide : ∀ s ∈ ([⟨#[97]⟩, ⟨#[98]⟩, ⟨#[99]⟩, ⟨#[105]⟩, ⟨#[111]⟩] : List ByteArray), s.size ≤ 1) s1 t1
  clear t1
  have m1 := m1.drop
  try simp only [go_sem, Nat.reduceBEq]
  refine (l15N_c _ _ _ _ _ _).mono ?_
  rintro _ _ ⟨rfl, rfl⟩
  try simp only [go_sem, Nat.reduceBEq, Nat.reduceAdd, Nat.reduceLeDiff]
  exact NodP.leaf 4 0 s1 (by (try simp only [bsz, Nd.bulks_cons, Nd.bulks_nil, List.size_toArray, List.length_cons, List.length_nil]); omega) m1
def mB : Nat → Nat
  | 0 => 4
  | d + 1 => 20 + 3 * mB d
theorem mB_pos : ∀ d, 4 ≤ mB d
  | 0 => Nat.le_refl _
  | d + 1 => by
    have := mB_pos d
    rw [mB]
    omega
def MakeS (l : List UInt8) (p : Nat) (d : Nat) : Prop := ∀ (deep : Int), deep ≤ d → -10 ≤ deep → ∀ {h0 h : Hp} {bag : Bag}, CurM h0 h l p bag → ACalls Try.prog 23 #[pv p, .int .i64 deep] h (NodP (mB d) h0 l p bag)
theorem l15Aim_c (hl : l.length ≤ 1048576) {d : Nat} (hd : d ≤ 1000) (mk : MakeS l p d) (deep : Int) (hi : deep ≤ d + 1) (lo : -9 ≤ deep) (m : CurM h0 h l p bag) : ACalls Try.prog 44 #[pv p, .int .i64 deep] h (NodP (4 + mB d) h0 l p bag) := by
  have hB := mB_pos d
  have hw : IntKind.i64.wrap (deep - 1) = deep - 1 := IntWalk.i64_in _ (by omega)
  (refine enter Try.func44 rfl rfl (by kernel_rfl) [] ?_; simp only [go_sem, Nat.reduceBEq])
  refine (l1Below_c hl m 5 (by decide) (by decide)).mono ?_
  rintro _ h3 ⟨n3, rfl, p3, q3, m3⟩
  try simp only [go_sem, Nat.reduceBEq]
  by_cases d7 : n3 = 0
  · simp only [decide_eq_true d7, go_sem, Nat.reduceBEq]
    refine (l15Var_c hl m3).mono ?_
    rintro _ h4 ⟨H4, x4, a4, c4, rfl, e4, b4, r4, m4⟩
    try simp only [hw, go_sem, Nat.reduceBEq]
    refine (mk (deep - 1) (by omega) (by omega) m4).mono ?_
    rintro _ h5 ⟨H5, x5, a5, c5, rfl, e5, b5, r5, m5⟩
    try simp only [go_sem, Nat.reduceBEq]
    refine cur_nodes [(x4, .slice a4 x4.kids.length c4), (x5, .slice a5 x5.kids.length c5)] [x4, x5] rfl slT24 rfl rfl rfl (by decide) (by decide) (allc (r4.mono e5) (all1 r5)) m5 fun H6 a6 c6 h6 e6 r6 m6 => ?_
    try simp only [go_sem, Nat.reduceBEq]
    refine (l15N_c _ _ _ _ _ _).mono ?_
    rintro _ _ ⟨rfl, rfl⟩
    try simp only [go_sem, Nat.reduceBEq, Nat.reduceAdd, Nat.reduceLeDiff]
    exact NodP.base ((e4.trans e5).trans e6) (NodP.mk 7 0 ⟨#[]⟩ r6 rfl (by (try simp only [bsz, Nd.bulks_cons, Nd.bulks_nil, List.size_toArray, List.length_nil]); omega) m6)
  simp only [decide_eq_false d7, go_sem, Nat.reduceBEq]
  by_cases d10 : n3 = 1
  · simp only [decide_eq_true d10, go_sem, Nat.reduceBEq]
    refine (l15Var_c hl m3).mono ?_
    rintro _ h8 ⟨H8, x8, a8, c8, rfl, e8, b8, r8, m8⟩
    try simp only [go_sem, Nat.reduceBEq]
    refine cur_nodes [(x8, .slice a8 x8.kids.length c8)] [x8] rfl slT24 rfl rfl rfl (by decide) (by decide) (all1 r8) m8 fun H9 a9 c9 h9 e9 r9 m9 => ?_
    try simp only [go_sem, Nat.reduceBEq]
    refine (l15N_c _ _ _ _ _ _).mono ?_
    rintro _ _ ⟨rfl, rfl⟩
    try simp only [go_sem, Nat.reduceBEq, Nat.reduceAdd, Nat.reduceLeDiff]
    exact NodP.base (e8.trans e9) (NodP.mk 8 0 ⟨#[112]⟩ r9 rfl (by (try simp only [bsz, Nd.bulks_cons, Nd.bulks_nil, List.size_toArray, List.length_cons, List.length_nil]); omega) m9)
  simp only [decide_eq_false d10, go_sem, Nat.reduceBEq]
  refine (l15Var_c hl m3).mono ?_
  rintro _ h11 ⟨H11, x11, a11, c11, rfl, e11, b11, r11, m11⟩
  try simp only [go_sem, Nat.reduceBEq, Nat.reduceAdd, Nat.reduceLeDiff]
  exact ⟨_, x11, _, _, rfl, e11, (by omega), r11, m11⟩
end
end Go.Proofs.Ytconhonjkfpfmaa
