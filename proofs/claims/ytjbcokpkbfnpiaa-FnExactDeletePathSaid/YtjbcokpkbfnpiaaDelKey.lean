/-
  What impl.DeleteKey does: a copy without an entry.
-/
import Derived.Test.YtjbcokpkbfnpiaaDropPath
import Derived.Test.YtjbcokpkbfnpiaaSxCut
namespace Go.Proofs.Ytjbcokpkbfnpiaa
open Go Go.Sx
theorem iDeleteKey (v : V) (k : Ky) (hl : V.bulks v.items ≤ 1099511627776) (sl : Value) (h : Hp) (rd : RdE h v.items sl) :
    ACalls Try.prog 47 #[.agg #[.int .i64 v.kind, .int .i64 v.num, .string v.str, .int .i64 v.next, sl], .agg #[.bool k.text, .int .i64 k.num, .string k.str]] h (Made h (v.dropKey k)) := by
  have hlen := V.bulks_len v.items
  obtain ⟨a, c, xs, rfl, _⟩ := rd.rows (by decide) v.items.length (fm_len edt_len _)
  (refine enter Try.func47 rfl rfl (by kernel_rfl) [] ?_; simp only [go_sem, Nat.reduceBEq, Nat.reduceAdd, Nat.reduceLeDiff])
  refine (copyValue_c v hl _ _ rd).mono ?_
  rintro _ h1 ⟨a1, c1, rfl, m1⟩
  obtain ⟨a0, c0, e0, hcc, hcm, hat⟩ := m1.row_shape (by decide) v.items.length (fm_len edt_len _)
  cases e0
  simp only [go_sem, Nat.reduceBEq, Nat.reduceAdd, Nat.reduceLeDiff]
  (refine (iFindKey v k (by omega) _ _ (rd.mono m1.ext)).mono ?_; rintro _ _ ⟨rfl, rfl⟩; simp only [go_sem, Nat.reduceBEq])
  cases hf : v.find k with
  | none =>
    have e : v.dropKey k = v := by unfold V.dropKey; rw [hf]
    rw [e]
    simp only [ixI_none, go_sem]
    refine Br.intro (fun h0 => ?_) (fun h0 => ?_) <;> (try simp only [h0, go_sem, Nat.reduceBEq, Nat.reduceAdd, Nat.reduceLeDiff])
    case refine_1 => exact absurd (of_decide_eq_true h0) (by decide)
    exact ⟨_, _, rfl, m1⟩
  | some i =>
    have e : v.dropKey k = v.withItems (v.items.take i ++ v.items.drop (i + 1)) := by unfold V.dropKey; rw [hf]
    rw [e]
    obtain ⟨x, hx, hg, hlt⟩ := V.find_get hf
    obtain ⟨b, rfl⟩ := hat (by omega)
    have e2 : slA (some 8) (some ⟨b, 0, none⟩) v.items.length c1 0 (i : Int) = some (.slice (some ⟨b, 0, none⟩) i c1) := by
      rw [slA_, if_pos (by omega)]
      simp [Addr.add]
    obtain ⟨a3, ys, e3, _, _⟩ := Rd.sub edt_len m1.rd (i + 1) v.items.length (by omega) (by omega)
    have wsu := wrap_succ (i := i) (by omega)
    simp only [ixI_some, go_sem]
    refine Br.intro (fun h0 => ?_) (fun h0 => ?_) <;> (try simp only [h0, go_sem, Nat.reduceBEq, Nat.reduceAdd, Nat.reduceLeDiff])
    case refine_2 => exact absurd (of_decide_eq_false h0) (by omega)
    refine regionD_intro (lb := [15, 19]) (by kernel_rfl) ?_
    simp only [e2, wsu, e3, go_sem, Nat.reduceBEq]
    obtain ⟨f1, f2⟩ := fm_split edt_len hx
    rw [f1] at m1
    refine hsem_my_cut slT27 (by decide) rfl m1 hlt f2 (edt_len _) (by rw [fm_len edt_len, List.length_drop]) e3 (by show v.items.length * 96 ≤ _; omega) (by omega) fun v3 h3 m3 => ?_
    have ll : (v.items.take i ++ v.items.drop (i + 1)).length = i + (v.items.length - (i + 1)) := by rw [List.length_append, List.length_take, List.length_drop]; omega
    have m3 : My h h3 [(.row 8 ((v.items.take i ++ v.items.drop (i + 1)).flatMap edt), v3)] := by rw [List.flatMap_append]; exact m3
    obtain ⟨a5, c5, rfl, _⟩ := m3.row_shape (by decide) (v.items.take i ++ v.items.drop (i + 1)).length (fm_len edt_len _)
    simp only [go_sem, Nat.reduceBEq, Nat.reduceAdd, Nat.reduceLeDiff]
    exact ⟨_, _, rfl, m3⟩
end Go.Proofs.Ytjbcokpkbfnpiaa
