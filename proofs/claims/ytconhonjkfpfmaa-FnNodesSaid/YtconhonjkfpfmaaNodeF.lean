/-
  The draws of syntax trees: each returns some node, of a bulk that is bounded; what it makes is laid aside.
-/
import Derived.Test.YtconhonjkfpfmaaNodeD
namespace Go.Proofs.Ytconhonjkfpfmaa
set_option maxRecDepth 8000
open Go Go.Sx
section
variable {h0 h : Hp} {bag : Bag} {l : List UInt8} {p : Nat}
def CopyS (l : List UInt8) (p : Nat) (v : Nd) : Prop := v.bulk ≤ 1048576 → ∀ {h0 h : Hp} {bag : Bag} {sl : Value}, RdN h0 v.kids sl → CurM h0 h l p bag → ACalls Try.prog 24 #[.agg #[.int .i64 v.kind, .int .i64 v.num, .string v.text, sl]] h (CopyP v h0 l p bag)
theorem l15Copy_c : ∀ v : Nd, CopyS l p v := Nd.ind fun v ih hb h0 h bag sl r m => by
  have hB := Nd.bulk_eq v
  have hK := Nd.bulks_len v.kids
  obtain ⟨a, c, xs, rfl, hc, rl, hat⟩ := r.rows (by decide) v.kids.length (fm_len Nd.dt_len _)
  (refine enter Try.func24 rfl rfl (by kernel_rfl) [] ?_; simp only [go_sem, Nat.reduceBEq, Nat.reduceAdd, Nat.reduceLeDiff])
  try simp only [go_sem, Nat.reduceBEq, Nat.reduceAdd, Nat.reduceLeDiff, Nat.reduceEqDiff, Int.reduceEq, not_false_eq_true, Int.reduceToNat]
  refine aloop (ι := Hp × Nat × List Value × Option Addr × Nat) (fun x => [(4, .val (.int .i64 (x.2.1 : Nat))), (3, .box 3 0), (2, .box 2 0), (1, .box 1 0)])
    (fun x => [(3, [.int .i64 v.kind, .int .i64 v.num, .string v.text, .slice x.2.2.2.1 x.2.1 x.2.2.2.2]), (2, [.int .i64 0, .int .i64 0, .string ⟨#[]⟩, .slice none 0 0]), (1, [.int .i64 v.kind, .int .i64 v.num, .string v.text, .slice a v.kids.length c])])
    (fun x h' => x.2.1 ≤ v.kids.length ∧ Ext h0 x.1 ∧ RdL x.1 ((v.kids.take x.2.1).flatMap Nd.dt) x.2.2.1 ∧ CurM x.1 h' l p ((.row 4 (x.2.2.1.map .raw), .slice x.2.2.2.1 x.2.1 x.2.2.2.2) :: bag)) (fun x => v.kids.length - x.2.1) (h0, 0, [], none, 0) ⟨Nat.zero_le _, Ext.refl _, by simp only [List.take_zero, List.flatMap_nil, RdL_nil], m.nilkids⟩ (by repeat (first | exact wkF_e | refine wkF_c rfl ?_)) (wkB_c rfl (wkB_c rfl (wkB_c rfl wkB_e))) rfl ?_
  rintro ⟨H, i, us, a1, c1⟩ h1 ⟨hi, e0, hr, m1⟩
  have hi : i ≤ v.kids.length := hi
  have e0 : Ext h0 H := e0
  have hr : RdL H ((v.kids.take i).flatMap Nd.dt) us := hr
  have m1 : CurM H h1 l p ((.row 4 (us.map .raw), .slice a1 i c1) :: bag) := m1
  clear m
  try simp only [go_sem, Nat.reduceBEq]
  by_cases hlt : i < v.kids.length
  case neg =>
    obtain rfl : i = v.kids.length := by omega
    simp only [show decide (((v.kids.length : Nat) : Int) < (v.kids.length : Nat)) = false from decide_eq_false (by omega), go_sem, Nat.reduceBEq, Nat.reduceAdd, Nat.reduceLeDiff]
    rw [List.take_length] at hr
    exact ⟨H, us, a1, c1, rfl, e0, hr, m1⟩
  simp only [show decide ((i : Int) < (v.kids.length : Nat)) = true from decide_eq_true (by omega), go_sem]
  obtain ⟨e, he, hm⟩ := get_lt hlt
  obtain ⟨b, off, rfl, hat'⟩ := hat (by omega)
  have hbe := Nd.bulks_mem hm
  have lt : (v.kids.take i).length = i := by rw [List.length_take]; omega
  have hix : ixA (some 4) (some ⟨b, off, none⟩) v.kids.length (i : Int) = some (.pointer (some ⟨b, off + i * 4, none⟩)) := ix_nat hlt
  have ws := wrap_succ (i := i) (by omega)
  refine regionD_intro (lb := [20, 22]) (by kernel_rfl) ?_
  simp only [hix, go_sem, Nat.reduceBEq]
  refine rdn_get tyS26 (hat'.mono (e0.trans m1.my.ext)) (rl.mono e0) he rfl fun sl2 r2 => ?_
  try simp only [go_sem, Nat.reduceBEq]
  refine (ih e hm (by omega) r2 m1).mono ?_
  rintro _ h3 ⟨H3, us3, a3, c3, rfl, e3, r3, m3⟩
  obtain ⟨H4, e4, r4, m4⟩ := cur_fix m3 r3
  try simp only [go_sem, Nat.reduceBEq]
  refine cur_nodes [(Nd.mk e.kind e.num e.text e.kids, .slice a3 e.kids.length c3)] [e] (by show [Nd.mk e.kind e.num e.text e.kids] = [e]; rw [Nd.eta]) slT24 rfl rfl rfl (by decide) (by decide) (all1 r4) m4 fun H5 a5 c5 h5 e5 r5 m5 => ?_
  try simp only [go_sem, Nat.reduceBEq]
  refine cur_nadd (es := v.kids.take i) slT24 rfl rfl (by decide) m5 (hr.mono (e3.trans (e4.trans e5))) r5 (by omega) (Nat.le_of_ble_eq_true rfl) fun us6 a6 c6 h6 hr6 m6 => ?_
  have q6 : v.kids.take i ++ [e] = v.kids.take (i + 1) := (take_snoc he).symm
  have l6 : (v.kids.take (i + 1)).length = i + 1 := by rw [List.length_take]; omega
  rw [q6] at hr6 m6 ⊢
  rw [l6] at m6 ⊢
  simp only [ws, go_sem, Nat.reduceBEq, Nat.reduceAdd, Nat.reduceLeDiff]
  exact Again.intro (H5, i + 1, us6, a6, c6) (by first | omega | (simp only; omega)) ⟨hlt, e0.trans (e3.trans (e4.trans e5)), hr6, m6⟩ (by repeat (first | exact wkF_e | refine wkF_c rfl ?_)) (wkB_c rfl (wkB_c rfl (wkB_c rfl wkB_e))) rfl
end
end Go.Proofs.Ytconhonjkfpfmaa
