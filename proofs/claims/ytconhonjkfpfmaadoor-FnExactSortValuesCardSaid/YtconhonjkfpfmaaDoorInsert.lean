/-
  slices.Insert of one value: in its place, in the same block or in a new one.
-/
import Derived.Test.YtconhonjkfpfmaaDoorFacts
import Derived.Test.YtconhonjkfpfmaaDoorSxInsert
import Derived.Test.YtconhonjkfpfmaaDoorSxSub
import Derived.Test.YtconhonjkfpfmaaDoorSxLists
namespace Go.Proofs.YtconhonjkfpfmaaDoor
set_option maxRecDepth 8000
open Go Go.Sx
section
variable {h0 h : Hp} {bag : Bag}
def InsP (h0 : Hp) (cs : List Dt) (n : Nat) (bag : Bag) (u : Value) (h' : Hp) : Prop := ∃ a c, u = .slice a n c ∧ My h0 h' ((.row 5 cs, .slice a n c) :: bag)
theorem add_blk (ad : Addr) (k : Nat) : (ad.add k).block = ad.block := by unfold Addr.add; split <;> rfl
theorem hset_again {b : Nat} {o o' : Obj} : hset (hset h b o) b o' = hset h b o' := by
  funext i
  unfold hset
  split <;> rfl
set_option maxHeartbeats 1600000 in
theorem insert_c {cs xc : List Dt} {n i : Nat} {s x : Value} (m : My h0 h ((.row 5 cs, s) :: (.row 5 xc, x) :: bag)) (hn : cs.length = n * 5) (hx : xc.length = 5) (hi : i ≤ n) (hb : n ≤ 1048576) :
    ACalls Tryd.prog 68 #[s, .int .i64 (i : Nat), x] h (InsP h0 (cs.take (i * 5) ++ (xc ++ cs.drop (i * 5))) (n + 1) bag) := by
  obtain ⟨a, cap, rfl, hc, hcm, ha⟩ := m.row_shape (by decide) n hn
  obtain ⟨ax, cx, rfl, hcx, hcxm, hax⟩ := m.drop.row_shape (by decide) 1 hx
  obtain ⟨bx, rfl⟩ := hax (by decide)
  (refine enter Tryd.func68 rfl rfl (by kernel_rfl) [] ?_; simp only [go_sem, Nat.reduceBEq])
  have d10 : decide (((1 : Nat) : Int) = 0) = false := rfl
  simp only [d10, go_sem, Nat.reduceBEq]
  refine ⟨by omega, ?_⟩
  try simp only [go_sem, Nat.reduceBEq, Nat.reduceAdd, Nat.reduceLeDiff, Nat.reduceEqDiff, Int.reduceEq, not_false_eq_true, Int.reduceToNat]
  by_cases hin : i = n
  · subst hin
    simp only [decide_true, go_sem, Nat.reduceBEq]
    have hz64 : (i + 1) * 64 ≤ 140737488355328 := by omega
    refine hsem_my_append slT56 (by decide) rfl i 1 m hn hx (by show (i + 1) * 64 ≤ _; omega) (by omega) fun v h1 m1 => ?_
    obtain ⟨a1, c1, rfl, _⟩ := m1.row_shape (by decide) (i + 1) (by rw [List.length_append, hn, hx]; show i * 5 + 5 = (i + 1) * 5; omega)
    try simp only [go_sem, Nat.reduceBEq]
    refine ⟨a1, c1, rfl, ?_⟩
    rw [← hn, List.take_length, List.drop_length, List.append_nil]
    exact m1
  have hlt : i < n := by omega
  obtain ⟨b, rfl⟩ := ha (by omega)
  have w1 : IntKind.i64.wrap ((n : Int) + ((1 : Nat) : Int)) = ((n + 1 : Nat) : Int) := by rw [IntWalk.i64_in _ (by omega)]; rfl
  have wi : IntKind.i64.wrap ((i : Int) + ((1 : Nat) : Int)) = ((i + 1 : Nat) : Int) := by rw [IntWalk.i64_in _ (by omega)]; rfl
  obtain ⟨cur, e, xs, xx, hbk, _, _, hsz, htk, hxl, hone, rx, hxx, hne, back⟩ := my_ins (i := i) m (by omega) hn hx hi
  simp only [show decide ((i : Int) = (n : Int)) = false from decide_eq_false (by omega), go_sem, Nat.reduceBEq]
  refine hsem_cap slT56 ?_
  simp only [w1, go_sem, Nat.reduceBEq]
  by_cases hr : cap < n + 1
  · simp only [show decide ((cap : Int) < ((n + 1 : Nat) : Int)) = true from decide_eq_true (by omega), go_sem, Nat.reduceBEq, Int.reduceToNat]
    refine ⟨by omega, ?_⟩
    have wq : IntKind.i64.wrap (((n + 1 : Nat) : Int) - (i : Nat)) = ((n + 1 - i : Nat) : Int) := by rw [IntWalk.i64_in _ (by omega)]; omega
    have hlen : i + (n + 1 - i) = n + 1 := by omega
    have r1 := rds_own (p := 0) (c := i) (cc := cap) hbk htk hxl hone (by omega) (by omega)
    rw [Nat.zero_mul, List.drop_zero] at r1
    have r2 := rds_own (p := i) (c := n - i) (cc := cap - i) hbk htk hxl hone (by omega) (by omega)
    rw [List.take_of_length_le (by rw [List.length_drop, hxl, ← Nat.sub_mul]; exact Nat.le_refl _)] at r2
    simp only [w1, wq, if_neg (show ¬ cap = 0 by omega), Nat.zero_mul, Nat.sub_zero]
    have hz64 : (i + (n + 1 - i)) * 64 ≤ 140737488355328 := by omega
    refine hsem_grow slT56 Tryd.underlying3 (by decide) rfl r1 (by omega) (by omega) hz64 (by omega) fun b2 e2 nc cur2 hb2 hnc hncm hsz2 htk2 => ?_
    rw [hlen] at hnc ⊢
    simp only [go_sem, Nat.reduceBEq]
    refine ⟨by omega, ?_⟩
    rw [if_neg (show ¬ nc = i by omega)]
    refine hsem_copy slT56 (c := 1) (hset_same _ _ _) (rx.mono (ext_set hb2 _)) (by omega) (by rw [hsz2]; show i * 5 + 1 * 5 ≤ nc * 5; omega) fun cur3 l3 z3 => ?_
    rw [hset_again]
    simp only [go_sem]
    refine regionD_intro (lb := []) (by kernel_rfl) ?_
    simp only [wi, go_sem, Nat.reduceBEq]
    refine ⟨by omega, ?_⟩
    refine ⟨by omega, ?_⟩
    rw [if_neg (show ¬ nc = i + 1 by omega), if_neg (show ¬ cap = i by omega)]
    refine hsem_copy slT56 (c := n - i) (hset_same _ _ _) (r2.mono (ext_set hb2 _)) (by omega) (by rw [z3, hsz2]; show (i + 1) * 5 + (n - i) * 5 ≤ nc * 5; omega) fun cur4 l4 z4 => ?_
    rw [hset_again]
    simp only [go_sem, Nat.reduceBEq]
    refine ⟨_, nc, rfl, back _ b2 nc e2 cur4 (.inr hb2) (fun q o hq hne2 => by rw [hset_other hne2]; exact hq) (hset_same _ _ _) hnc hncm (by rw [z4, z3, hsz2]) ?_⟩
    rw [l4, l3]
    have lyb : (xs.drop (i * 5)).length = (n - i) * 5 := by rw [List.length_drop, hxl, Nat.sub_mul]
    have := splice_two (l := cur2.toList) (ya := xs.take (i * 5)) (xx := xx) (yb := xs.drop (i * 5)) (p := i * 5) (q := (i + 1) * 5) (by rw [List.length_take, hxl]; omega) (by rw [hxx]; omega) htk2 (by rw [lyb, Array.length_toList, hsz2]; show (i + 1) * 5 + (n - i) * 5 ≤ nc * 5; omega)
    rw [lyb, show (i + 1) * 5 + (n - i) * 5 = (n + 1) * 5 by omega] at this
    exact this
  simp only [show decide ((cap : Int) < ((n + 1 : Nat) : Int)) = false from decide_eq_false (by omega), go_sem, Nat.reduceBEq, Int.reduceToNat]
  have n0 : ¬ cap = 0 := by omega
  have n1 : ¬ cap = i + 1 := by omega
  have n2 : ¬ cap = i := by omega
  have r2 := rds_own (p := i) (c := n - i) (cc := cap - i) hbk htk hxl hone (by omega) (by omega)
  rw [List.take_of_length_le (by rw [List.length_drop, hxl, ← Nat.sub_mul]; exact Nat.le_refl _)] at r2
  obtain ⟨hneb, cu, eu, hbx⟩ := hne _ _ _ rfl (by decide)
  simp only [w1, wi, Int.toNat_natCast, Nat.sub_zero, if_neg n0, if_neg n1, Option.map_some, Addr.add_lit, Nat.zero_mul, Nat.zero_add]
  refine ⟨by omega, by omega, ?_⟩
  refine (acalls_apart (tr := 4) (run_callFunc_extern Tryd.func101 (by kernel_rfl) (by kernel_rfl) (by kernel_rfl) (e := Extern.SlicesOverlaps.overlaps #[56, 56] #[4]) (by kernel_rfl) _) Tryd.underlying56 Tryd.sizeOf26 hneb hbx hbk (by rw [hsz]; omega) Tryd.func101).mono ?_
  rintro _ _ ⟨rfl, rfl⟩
  simp only [go_sem, Nat.reduceBEq]
  refine regionD_intro (lb := []) (by kernel_rfl) ?_
  simp only [go_sem, Nat.reduceBEq]
  simp only [wi, Int.toNat_natCast, if_neg n1, if_neg n2]
  refine ⟨by omega, by omega, ?_⟩
  refine hsem_copy slT56 (c := n - i) hbk r2 (by omega) (by rw [hsz]; show (i + 1) * 5 + (n - i) * 5 ≤ cap * 5; omega) fun cur3 l3 z3 => ?_
  simp only [go_sem, Nat.reduceBEq]
  simp only [if_neg n2]
  refine ⟨by omega, ?_⟩
  refine hsem_copy slT56 (c := 1) (hset_same _ _ _) (rx.frame1 (hset_other hneb)) (by omega) (by rw [z3, hsz]; show i * 5 + 1 * 5 ≤ cap * 5; omega) fun cur4 l4 z4 => ?_
  rw [hset_again]
  simp only [go_sem, Nat.reduceBEq]
  refine ⟨_, cap, rfl, back _ b cap e cur4 (.inl rfl) (fun q o hq hne2 => by rw [hset_other hne2]; exact hq) (hset_same _ _ _) (by omega) hcm (by rw [z4, z3, hsz]) ?_⟩
  rw [l4, l3]
  have lyb : (xs.drop (i * 5)).length = (n - i) * 5 := by rw [List.length_drop, hxl, Nat.sub_mul]
  have hti : cur.toList.take (i * 5) = xs.take (i * 5) := by rw [← htk, List.take_take, Nat.min_eq_left (by omega)]
  have := splice_rev (l := cur.toList) (ya := xs.take (i * 5)) (xx := xx) (yb := xs.drop (i * 5)) (p := i * 5) (q := (i + 1) * 5) (by rw [List.length_take, hxl]; omega) (by rw [hxx]; omega) hti (by rw [lyb, Array.length_toList, hsz]; show (i + 1) * 5 + (n - i) * 5 ≤ cap * 5; omega)
  rw [lyb, show (i + 1) * 5 + (n - i) * 5 = (n + 1) * 5 by omega] at this
  exact this
end
end Go.Proofs.YtconhonjkfpfmaaDoor
