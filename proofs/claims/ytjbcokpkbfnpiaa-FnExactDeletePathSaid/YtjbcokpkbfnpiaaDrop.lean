/-
  What l6Drop does: the array without an entry; its cells are shared with the argument's.
-/
import Derived.Test.YtjbcokpkbfnpiaaFind
import Derived.Test.YtjbcokpkbfnpiaaSxSub
import Derived.Test.YtjbcokpkbfnpiaaSxMathW
namespace Go.Proofs.Ytjbcokpkbfnpiaa
open Go Go.Sx
/-- a value that can be read; nothing visible has turned -/
def RdV (h : Hp) (o : V) (u : Value) (h' : Hp) : Prop := ∃ a c, u = .agg #[.int .i64 o.kind, .int .i64 o.num, .string o.str, .int .i64 o.next, .slice a o.items.length c] ∧ Ext h h' ∧ RdE h' o.items (.slice a o.items.length c)
theorem sl6Drop (v : V) (k : Ky) (hl : v.items.length ≤ 1099511627776) (sl : Value) (h : Hp) (rd : RdE h v.items sl) :
    ACalls Try.prog 57 #[.agg #[.int .i64 v.kind, .int .i64 v.num, .string v.str, .int .i64 v.next, sl], .agg #[.bool k.text, .int .i64 k.num, .string k.str]] h (RdV h (v.dropKey k)) := by
  obtain ⟨a, c, xs, rfl, hc, hr, hat⟩ := rd.rows (by decide) v.items.length (fm_len edt_len _)
  (refine enter Try.func57 rfl rfl (by kernel_rfl) [] ?_; simp only [go_sem, Nat.reduceBEq, Nat.reduceAdd, Nat.reduceLeDiff])
  (refine (sFind v k hl _ _ rd).mono ?_; rintro _ _ ⟨rfl, rfl⟩; simp only [go_sem, Nat.reduceBEq])
  rw [ixI_neg]
  cases hf : v.find k with
  | none =>
    have e : v.dropKey k = v := by unfold V.dropKey; rw [hf]
    rw [e]
    simp only [Option.isNone_none, go_sem, Nat.reduceBEq, Nat.reduceAdd, Nat.reduceLeDiff]
    exact ⟨_, _, rfl, Ext.refl _, rd⟩
  | some i =>
    have e : v.dropKey k = v.withItems (v.items.take i ++ v.items.drop (i + 1)) := by unfold V.dropKey; rw [hf]
    rw [e]
    obtain ⟨x, hx, hg, hlt⟩ := V.find_get hf
    obtain ⟨a2, ys, e2, rs2, rl2⟩ := Rd.sub edt_len rd 0 i (by omega) (by omega)
    obtain ⟨a3, zs, e3, rs3, rl3⟩ := Rd.sub edt_len rd (i + 1) v.items.length (by omega) (by omega)
    have e2 : slA (some 8) a v.items.length c 0 (i : Int) = some (.slice a2 (i - 0) (c - 0)) := e2
    have wsu := wrap_succ (i := i) (by omega)
    have ly : ys.length = i * 8 := by rw [rl2.len, fm_len edt_len, List.length_take, List.length_drop]; congr 1; omega
    have lz : zs.length = (v.items.length - (i + 1)) * 8 := by rw [rl3.len, fm_len edt_len, List.length_take, List.length_drop]; congr 1; omega
    simp only [Option.isNone_some, ixI_some, go_sem, Nat.reduceBEq, Nat.reduceAdd, Nat.reduceLeDiff]
    refine regionD_intro (lb := [16, 21]) (by kernel_rfl) ?_
    simp only [go_sem]
    refine hsem_my_lit0 slT27 (My.nil (Ext.refl h)) fun v1 h1 m1 => ?_
    obtain ⟨a1, c1, rfl, _⟩ := m1.row_shape (by decide) 0 rfl
    simp only [e2, go_sem, Nat.reduceBEq]
    refine hsem_my_appendR slT27 (by decide) rfl 0 i m1 (rs2.mono m1.ext) rfl ly (by show (0 + i) * 96 ≤ _; omega) (by omega) fun v2 h2 m2 => ?_
    have m2 : My h h2 [(.row 8 (ys.map .raw), v2)] := m2
    obtain ⟨a4, c4, rfl, _⟩ := m2.row_shape (by decide) i (by rw [List.length_map, ly])
    simp only [wsu, e3, go_sem, Nat.reduceBEq]
    refine hsem_my_appendR slT27 (by decide) rfl i (v.items.length - (i + 1)) m2 (rs3.mono m2.ext) (by rw [List.length_map, ly]) lz (by show (i + (v.items.length - (i + 1))) * 96 ≤ _; omega) (by omega) fun v3 h3 m3 => ?_
    have m3 : My h h3 [(.row 8 ((ys ++ zs).map .raw), v3)] := by rw [List.map_append]; exact m3
    have ll : (v.items.take i ++ v.items.drop (i + 1)).length = i + (v.items.length - (i + 1)) := by rw [List.length_append, List.length_take, List.length_drop]; omega
    obtain ⟨a5, c5, rfl, _⟩ := m3.row_shape (by decide) (v.items.take i ++ v.items.drop (i + 1)).length (by rw [List.length_map, List.length_append, ly, lz, ll, Nat.add_mul])
    simp only [go_sem, Nat.reduceBEq, Nat.reduceAdd, Nat.reduceLeDiff]
    refine ⟨_, _, rfl, m3.ext, Rd.of_raws m3.rd ?_⟩
    rw [V.withItems_items, List.flatMap_append]
    have r2 := rl2.mono m3.ext
    have r3 := rl3.mono m3.ext
    rw [List.drop_zero, Nat.sub_zero] at r2
    rw [List.take_of_length_le (by rw [List.length_drop]; exact Nat.le_refl _)] at r3
    exact r2.append r3
end Go.Proofs.Ytjbcokpkbfnpiaa
