/-
  What putKey does: an entry of a variable's items is set or added.
-/
import Derived.Test.YtconhonjkfpfmaaDoorVar
import Derived.Test.YtconhonjkfpfmaaDoorFind
import Derived.Test.YtconhonjkfpfmaaDoorSxMathW
namespace Go.Proofs.YtconhonjkfpfmaaDoor
set_option maxRecDepth 8000
open Go Go.Sx
theorem range9 : List.range 9 = [0, 1, 2, 3, 4, 5, 6, 7, 8] := by decide
theorem range9b : List.range' 9 (10 - 9) = [9] := by decide
theorem pickO_n {ops : Array Oper} : pickO ops [] = [] := rfl
def pickS (o : Option Oper) (r : List Oper) : List Oper := match o with
  | some o => o :: r
  | none => r
theorem pick_s {o : Oper} {r : List Oper} : pickS (some o) r = o :: r := rfl
theorem pickO_c {ops : Array Oper} {i : Nat} {r : List Nat} : pickO ops (i :: r) = pickS ops[i]? (pickO ops r) := by
  rw [pickO]
  cases ops[i]? <;> rfl
theorem iPutKey {c : List Dt → Dt} {val : Value} {b off : Nat} (hd : Hold c val b off) (v : V) (k : Ky) (x : V) (hl : v.items.length ≤ 1099511627776) (ax : Option Addr) (lx cx : Nat) (h0 h : Hp) (R : Bag) (m : My h0 h ((.row 8 (x.items.flatMap edt), .slice ax lx cx) :: (c v.dt, val) :: R)) :
    ACalls Tryd.prog 90 #[.pointer (some ⟨b, off, none⟩), .agg #[.bool k.text, .int .i64 k.num, .string k.str], .agg #[.int .i64 x.kind, .int .i64 x.num, .string x.str, .int .i64 x.next, .slice ax lx cx]] h (fun u h' => u = .tuple #[] ∧ My h0 h' ((c (v.setKey k x).dt, val) :: R)) := by
  (refine enter Tryd.func90 rfl rfl (by kernel_rfl) [] ?_; simp only [go_sem, Nat.reduceBEq])
  refine regionD_intro (lb := [10]) (by kernel_rfl) ?_
  simp only [go_sem, Nat.reduceBEq]
  refine var_load hd m.swap rfl fun sv rv => ?_
  simp only [go_sem, Nat.reduceBEq, Nat.reduceAdd, Nat.reduceLeDiff]
  (refine (iFindKey v k hl _ _ rv).mono ?_; rintro _ _ ⟨rfl, rfl⟩; simp only [go_sem, Nat.reduceBEq])
  obtain ⟨av, cv, m1⟩ := var_open hd m.swap
  obtain ⟨av', cv', e5, hcc, hcm, hat⟩ := m1.row_shape (by decide) v.items.length (fm_len edt_len _)
  cases e5
  cases hf : v.find k with
  | some i =>
    obtain ⟨y, hx, hg, hlt⟩ := V.find_get hf
    have es : v.setKey k x = v.withItems (v.items.take i ++ (k, x) :: v.items.drop (i + 1)) := by
      unfold V.setKey V.setAt
      rw [hf]
      simp only [hx]
    rw [es]
    obtain ⟨b5, rfl⟩ := hat (by omega)
    simp only [ixI_some, go_sem]
    refine Br.intro (fun hz => ?_) (fun hz => ?_) <;> (try simp only [hz, go_sem])
    case refine_2 => exact absurd (of_decide_eq_false hz) (by omega)
    refine regionD_intro (lb := [19]) (by kernel_rfl) ?_
    simp only [go_sem, Nat.reduceBEq, Nat.reduceAdd]
    refine var_ldItems hd m1.drop rfl ?_
    simp only [ix_nat hlt, go_sem, Nat.reduceBEq, Nat.reduceAdd, Nat.reduceLeDiff]
    obtain ⟨c6, hd6, hc6⟩ := hold_item (b := b5) (cap := cv) hx
    have hself : v.items.take i ++ (k, y) :: v.items.drop (i + 1) = v.items := by rw [← drop_cons hx, List.take_append_drop]
    have m2 : My h0 h ((.row 8 (x.items.flatMap edt), .slice ax lx cx) :: (c6 y.dt, .slice (some ⟨b5, 0, none⟩) v.items.length cv) :: (c (vraws v (.slice (some ⟨b5, 0, none⟩) v.items.length cv)), val) :: R) := by
      rw [hc6, hself]
      exact m1.third
    refine var_store hd6 (w := x) (V.dt_len y) m2 rfl fun h3 m3 => ?_
    rw [hc6] at m3
    simp only [go_sem]
    exact var_close (v := v.withItems (v.items.take i ++ (k, x) :: v.items.drop (i + 1))) hd m3
  | none =>
    have es : v.setKey k x = ⟨v.kind, v.num, v.str, if k.text then v.next else max v.next (IntKind.i64.wrap (k.num + 1)), v.items ++ [(k, x)]⟩ := by
      unfold V.setKey
      rw [hf]
    rw [es]
    simp only [ixI_none, go_sem]
    refine Br.intro (fun hz => ?_) (fun hz => ?_) <;> (try simp only [hz, go_sem])
    case refine_1 => exact absurd (of_decide_eq_true hz) (by decide)
    refine regionS_intro (lb := [26, 27]) (pl := [25]) 9 10 11 14 [10, 11, 12, 13, 14] [12, 13, 14, 10, 11] (by kernel_rfl) ?_
    simp only [range9, range9b, pickO_c, pickO_n, pick_s, List.getElem?_toArray, List.getElem?_cons_succ, List.getElem?_cons_zero, go_sem, Nat.reduceBEq, Nat.reduceAdd]
    refine var_ldItems hd m1.drop rfl ?_
    simp only [go_sem, Nat.reduceBEq, Nat.reduceAdd, Nat.reduceLeDiff]
    refine hsem_my_lit (h0 := h) (es := [.raw (.bool false), .raw (.int .i64 0), .raw (.string ⟨#[]⟩), .raw (.int .i64 0), .raw (.int .i64 0), .raw (.string ⟨#[]⟩), .raw (.int .i64 0), .raw (.slice none 0 0)]) (parts := [(0, .agg #[.bool false, .int .i64 0, .string ⟨#[]⟩, .int .i64 0, .int .i64 0, .string ⟨#[]⟩, .int .i64 0, .slice none 0 0])]) slT24 (by decide) (by decide) (by decide) rfl rfl (by simp [Value.cells]) (bag := []) ?_ rfl rfl fun l4 h4 m4 => ?_
    · simp only [flat, List.flatMap_cons, List.flatMap_nil, List.append_nil, cells_agg, List.zip_cons_cons, List.zip_nil_right, My.raw_iff, one_bool, one_int, one_str, one_sl, and_self, true_and]
      exact My.nil (Ext.refl h)
    simp only [go_sem, Nat.reduceBEq]
    refine ⟨m4.ext, ?_⟩
    have M4 : My h0 h4 ((.row 8 [.raw (.bool false), .raw (.int .i64 0), .raw (.string ⟨#[]⟩), .raw (.int .i64 0), .raw (.int .i64 0), .raw (.string ⟨#[]⟩), .raw (.int .i64 0), .raw (.slice none 0 0)], l4) :: (.row 8 (v.items.flatMap edt), .slice av v.items.length cv) :: (c (vraws v (.slice av v.items.length cv)), val) :: (.row 8 (x.items.flatMap edt), .slice ax lx cx) :: R) := m1.add m4
    refine hsem_my_append slT24 (by decide) rfl v.items.length 1 M4.swap (fm_len edt_len _) rfl (by show (v.items.length + 1) * 96 ≤ _; omega) (by omega) fun l5 h5 m5 => ?_
    obtain ⟨a6, c6, rfl, hcc6, hcm6, hat6⟩ := m5.row_shape (by decide) (v.items.length + 1) (by rw [List.length_append, fm_len edt_len]; show _ + 8 = (v.items.length + 1) * 8; omega)
    obtain ⟨b6, rfl⟩ := hat6 (by omega)
    have hd7 : Hold (fun y => .row 8 (v.items.flatMap edt ++ (y ++ []))) (.slice (some ⟨b6, 0, none⟩) (v.items.length + 1) c6) b6 (v.items.flatMap edt).length := Hold.row (by omega)
    have ix6 := ix_nat (z := 8) (b := b6) (off := 0) (show v.items.length < v.items.length + 1 by omega)
    have toZip : ∀ {h' : Hp} {u : Value}, My h0 h' ((.row 8 (x.items.flatMap edt), .slice ax lx cx) :: (.row 8 (v.items.flatMap edt ++ [.raw (.bool false), .raw (.int .i64 0), .raw (.string ⟨#[]⟩), .raw (.int .i64 0), .raw (.int .i64 0), .raw (.string ⟨#[]⟩), .raw (.int .i64 0), .raw (.slice none 0 0)]), .slice (some ⟨b6, 0, none⟩) (v.items.length + 1) c6) :: (c (vraws v u), val) :: R) →
        My h0 h' ((edt (k, x)).zip (Value.agg #[.bool k.text, .int .i64 k.num, .string k.str, .int .i64 x.kind, .int .i64 x.num, .string x.str, .int .i64 x.next, .slice ax lx cx]).cells.toList ++ ((.row 8 (v.items.flatMap edt ++ ([.raw (.bool false), .raw (.int .i64 0), .raw (.string ⟨#[]⟩), .raw (.int .i64 0), .raw (.int .i64 0), .raw (.string ⟨#[]⟩), .raw (.int .i64 0), .raw (.slice none 0 0)] ++ [])), .slice (some ⟨b6, 0, none⟩) (v.items.length + 1) c6) :: (c (vraws v u), val) :: R)) := by
      intro h' u m6
      rw [edt_eq]
      simp only [cells_agg, List.zip_cons_cons, List.zip_nil_right, List.cons_append, List.nil_append, List.append_nil, My.raw_iff, one_bool, one_int, one_str, and_self, true_and]
      exact m6
    have closed : ∀ {h' : Hp}, My h0 h' ((.row 8 (v.items.flatMap edt ++ (edt (k, x) ++ [])), .slice (some ⟨b6, 0, none⟩) (v.items.length + 1) c6) :: (c (vraws v (.slice (some ⟨b6, 0, none⟩) (v.items.length + 1) c6)), val) :: R) → My h0 h' ((c (v.withItems (v.items ++ [(k, x)])).dt, val) :: R) := by
      intro h' m7
      refine var_close (v := v.withItems (v.items ++ [(k, x)])) (u := .slice (some ⟨b6, 0, none⟩) (v.items.length + 1) c6) hd ?_
      show My h0 h' ((.row 8 ((v.items ++ [(k, x)]).flatMap edt), _) :: _)
      rw [List.flatMap_append, List.flatMap_cons, List.flatMap_nil]
      exact m7
    simp only [go_sem]
    refine ⟨?_, ?_⟩
    · simp only [ix6, go_sem, Nat.reduceBEq]
      refine hd7.store (h0 := h0) (x := [.raw (.bool false), .raw (.int .i64 0), .raw (.string ⟨#[]⟩), .raw (.int .i64 0), .raw (.int .i64 0), .raw (.string ⟨#[]⟩), .raw (.int .i64 0), .raw (.slice none 0 0)]) (es := edt (k, x)) tyS69 (toZip m5.third) rfl (edt_len _) rfl ?_ fun h7 m7 => ?_
      · rw [fm_len edt_len]
      simp only [go_sem, Nat.reduceBEq, Nat.reduceAdd]
      refine var_setRaw hd m7.swap rfl fun h8 m8 => ?_
      have m8 := closed m8.swap
      simp only [go_sem, Nat.reduceBEq]
      refine Br.intro (fun kt => ?_) (fun kt => ?_) <;> (try simp only [kt, go_sem])
      · have kt : k.text = false := by simpa using kt
        rw [kt]
        refine regionD_intro (lb := [44]) (by kernel_rfl) ?_
        simp only [go_sem, Nat.reduceBEq, Nat.reduceAdd]
        refine var_ldNext hd m8 rfl ?_
        simp only [go_sem, Nat.reduceBEq]
        (refine (iMax _ _ _).mono ?_; rintro _ _ ⟨rfl, rfl⟩; simp only [go_sem, Nat.reduceBEq, Nat.reduceAdd])
        refine var_setNext hd m8 rfl fun h9 m9 => ?_
        simp only [go_sem]
        exact m9
      · have kt : k.text = true := by simpa using kt
        rw [kt]
        exact m8
    · simp only [go_sem, Nat.reduceBEq, Nat.reduceAdd]
      refine var_setRaw hd m5.swap rfl fun h7 m7 => ?_
      simp only [ix6, go_sem, Nat.reduceBEq]
      refine hd7.store (h0 := h0) (x := [.raw (.bool false), .raw (.int .i64 0), .raw (.string ⟨#[]⟩), .raw (.int .i64 0), .raw (.int .i64 0), .raw (.string ⟨#[]⟩), .raw (.int .i64 0), .raw (.slice none 0 0)]) (es := edt (k, x)) tyS69 (toZip m7.swap.third) rfl (edt_len _) rfl ?_ fun h8 m8 => ?_
      · rw [fm_len edt_len]
      have m8 := closed m8
      simp only [go_sem, Nat.reduceBEq]
      refine Br.intro (fun kt => ?_) (fun kt => ?_) <;> (try simp only [kt, go_sem])
      · have kt : k.text = false := by simpa using kt
        rw [kt]
        refine regionD_intro (lb := [44]) (by kernel_rfl) ?_
        simp only [go_sem, Nat.reduceBEq, Nat.reduceAdd]
        refine var_ldNext hd m8 rfl ?_
        simp only [go_sem, Nat.reduceBEq]
        (refine (iMax _ _ _).mono ?_; rintro _ _ ⟨rfl, rfl⟩; simp only [go_sem, Nat.reduceBEq, Nat.reduceAdd])
        refine var_setNext hd m8 rfl fun h9 m9 => ?_
        simp only [go_sem]
        exact m9
      · have kt : k.text = true := by simpa using kt
        rw [kt]
        exact m8
end Go.Proofs.YtconhonjkfpfmaaDoor
