/-
  What l6Set does: the array with an entry set or added; its cells are shared with the arguments'.
-/
import Derived.Test.YtpfongmnmcmnaaaGreatDoorDrop
namespace Go.Proofs.YtpfongmnmcmnaaaGreatDoor
set_option maxRecDepth 8000
open Go Go.Sx
theorem sl6Set (v : V) (k : Ky) (x : V) (hl : v.items.length ≤ 1099511627776) (sl sx : Value) (h : Hp) (rd : RdE h v.items sl) (rx : RdE h x.items sx) :
    ACalls Tryz.prog 78 #[.agg #[.int .i64 v.kind, .int .i64 v.num, .string v.str, .int .i64 v.next, sl], .agg #[.bool k.text, .int .i64 k.num, .string k.str], .agg #[.int .i64 x.kind, .int .i64 x.num, .string x.str, .int .i64 x.next, sx]] h (RdV h (v.setKey k x)) := by
  obtain ⟨a, c, xs, rfl, hc, hr, hat⟩ := rd.rows (by decide) v.items.length (fm_len edt_len _)
  obtain ⟨ax, cx, _, rfl, _⟩ := rx.rows (by decide) x.items.length (fm_len edt_len _)
  obtain ⟨a2, ys, e2, rs2, rl2⟩ := Rd.sub edt_len rd 0 v.items.length (by omega) (by omega)
  rw [List.drop_zero, Nat.sub_zero, List.take_length] at rl2
  have rs : ∃ ys, RdS h 8 (.slice a v.items.length c) ys ∧ RdL h (v.items.flatMap edt) ys := by
    have := rd
    simp only [Rd] at this
    exact this
  clear e2 rs2 rl2
  obtain ⟨zs, rs2, rl2⟩ := rs
  have ly : zs.length = v.items.length * 8 := by rw [rl2.len, fm_len edt_len]
  (refine enter Tryz.func78 rfl rfl (by kernel_rfl) [] ?_; simp only [go_sem, Nat.reduceBEq, Nat.reduceAdd, Nat.reduceLeDiff])
  refine hsem_my_lit0 slT26 (My.nil (Ext.refl h)) fun v1 h1 m1 => ?_
  obtain ⟨a1, c1, rfl, _⟩ := m1.row_shape (by decide) 0 rfl
  simp only [go_sem, Nat.reduceBEq]
  refine hsem_my_appendR slT26 (by decide) rfl 0 v.items.length m1 (rs2.mono m1.ext) rfl ly (by show (0 + v.items.length) * 96 ≤ _; omega) (by omega) fun v2 h2 m2 => ?_
  have m2 : My h h2 [(.row 8 (zs.map .raw), v2)] := m2
  obtain ⟨a4, c4, rfl, hcc, hcm, hat4⟩ := m2.row_shape (by decide) v.items.length (by rw [List.length_map, ly])
  simp only [go_sem, Nat.reduceBEq, Nat.reduceAdd, Nat.reduceLeDiff]
  (refine (sFind v k hl _ _ (rd.mono m2.ext)).mono ?_; rintro _ _ ⟨rfl, rfl⟩; simp only [go_sem, Nat.reduceBEq])
  cases hf : v.find k with
  | some i =>
    obtain ⟨y, hx, hg, hlt⟩ := V.find_get hf
    obtain ⟨e, he, _⟩ := get_lt hlt
    have es : v.setKey k x = v.withItems (v.items.take i ++ (e.1, x) :: v.items.drop (i + 1)) := by
      unfold V.setKey V.setAt
      rw [hf]
      simp only [he]
    rw [es]
    obtain ⟨b4, rfl⟩ := hat4 (by omega)
    have hlen : (v.items.take i ++ (e.1, x) :: v.items.drop (i + 1)).length = v.items.length := by rw [List.length_append, List.length_cons, List.length_take, List.length_drop]; omega
    obtain ⟨P, hP⟩ : ∃ P, P = zs.take (i * 8 + 3) := ⟨_, rfl⟩
    obtain ⟨O, hO⟩ : ∃ O, O = (zs.drop (i * 8 + 3)).take 5 := ⟨_, rfl⟩
    obtain ⟨Q, hQ⟩ : ∃ Q, Q = zs.drop (i * 8 + 8) := ⟨_, rfl⟩
    have ez : zs = P ++ (O ++ Q) := by
      rw [hP, hO, hQ, show zs.drop (i * 8 + 8) = (zs.drop (i * 8 + 3)).drop 5 from by rw [List.drop_drop], List.take_append_drop, List.take_append_drop]
    have lP : P.length = i * 8 + 3 := by rw [hP, List.length_take, ly]; omega
    have lO : O.length = 5 := by rw [hO, List.length_take, List.length_drop, ly]; omega
    obtain ⟨f1, f2⟩ := fm_split edt_len he
    have rP : RdL h ((v.items.take i).flatMap edt ++ e.1.dt) P := by
      have := rl2.take (i * 8 + 3)
      rw [← hP, f1, ← f2, List.take_length_add_append, edt_eq] at this
      exact this
    have rQ : RdL h ((v.items.drop (i + 1)).flatMap edt) Q := by
      have := rl2.drop ((i + 1) * 8)
      rw [fm_drop edt_len, show (i + 1) * 8 = i * 8 + 8 by omega, ← hQ] at this
      exact this
    simp only [ixI_some, go_sem]
    refine Br.intro (fun h0 => ?_) (fun h0 => ?_) <;> (try simp only [h0, go_sem, Nat.reduceBEq, Nat.reduceAdd, Nat.reduceLeDiff])
    case refine_2 => exact absurd (of_decide_eq_false h0) (by omega)
    simp only [ix_nat hlt, go_sem, Nat.reduceBEq, Nat.reduceAdd]
    refine hsem_my_put (z := 8) (h0 := h) (es := [.raw (.int .i64 x.kind), .raw (.int .i64 x.num), .raw (.string x.str), .raw (.int .i64 x.next), .raw (.slice ax x.items.length cx)]) (p := P.map .raw) (o := O.map .raw) (q := Q.map .raw) (bag := []) (len := v.items.length) (cap := c4) tyS28 ?_ (by omega) (by rw [List.length_map, lO]) rfl ?_ ?_ fun h3 m3 => ?_
    · simp only [cells_agg, List.zip_cons_cons, List.zip_nil_right, List.cons_append, List.nil_append, My.raw_iff, one_int, one_str, one_sl, and_self, true_and]
      rw [← List.map_append, ← List.map_append, ← ez]
      exact m2
    · rfl
    · rw [List.length_map, lP]
    simp only [go_sem, Nat.reduceBEq, Nat.reduceAdd, Nat.reduceLeDiff]
    refine ⟨some ⟨b4, 0, none⟩, c4, ?_, m3.ext, ?_⟩
    · rw [V.withItems_items, hlen]
      rfl
    rw [V.withItems_items, hlen]
    refine Rd.of_raws (us := P ++ ([.int .i64 x.kind, .int .i64 x.num, .string x.str, .int .i64 x.next, .slice ax x.items.length cx] ++ Q)) (by simpa using m3.rd) ?_
    have := (rP.mono m3.ext).append (((RdL_val_mk rx).mono m3.ext).append (rQ.mono m3.ext))
    rw [List.flatMap_append, List.flatMap_cons]
    rw [List.append_assoc] at this
    simp only [edt, List.append_assoc] at this ⊢
    exact this
  | none =>
    have es : v.setKey k x = ⟨v.kind, v.num, v.str, if k.text then v.next else max v.next (IntKind.i64.wrap (k.num + 1)), v.items ++ [(k, x)]⟩ := by
      unfold V.setKey
      rw [hf]
    rw [es]
    simp only [ixI_none, go_sem]
    refine Br.intro (fun h0 => ?_) (fun h0 => ?_) <;> (try simp only [h0, go_sem, Nat.reduceBEq, Nat.reduceAdd, Nat.reduceLeDiff])
    case refine_1 => exact absurd (of_decide_eq_true h0) (by decide)
    refine hsem_my_lit (h0 := h) (es := [.raw (.bool k.text), .raw (.int .i64 k.num), .raw (.string k.str), .raw (.int .i64 x.kind), .raw (.int .i64 x.num), .raw (.string x.str), .raw (.int .i64 x.next), .raw (.slice ax x.items.length cx)]) (parts := [(0, .agg #[.bool k.text, .int .i64 k.num, .string k.str, .int .i64 x.kind, .int .i64 x.num, .string x.str, .int .i64 x.next, .slice ax x.items.length cx])]) slT26 (by decide) (by decide) (by decide) rfl rfl (by simp [Value.cells]) (bag := [(.row 8 (zs.map .raw), .slice a4 v.items.length c4)]) ?_ rfl rfl fun l4 h4 m4 => ?_
    · simp only [flat, List.flatMap_cons, List.flatMap_nil, List.append_nil, cells_agg, List.zip_cons_cons, List.zip_nil_right, List.cons_append, List.nil_append, My.raw_iff, one_bool, one_int, one_str, one_sl, and_self, true_and]
      exact m2
    simp only [go_sem, Nat.reduceBEq]
    refine hsem_my_append slT26 (by decide) rfl v.items.length 1 m4.swap (by rw [List.length_map, ly]) rfl (by show (v.items.length + 1) * 96 ≤ _; omega) (by omega) fun l5 h5 m5 => ?_
    have m5 : My h h5 [(.row 8 (zs.map .raw ++ [.raw (.bool k.text), .raw (.int .i64 k.num), .raw (.string k.str), .raw (.int .i64 x.kind), .raw (.int .i64 x.num), .raw (.string x.str), .raw (.int .i64 x.next), .raw (.slice ax x.items.length cx)]), l5)] := m5
    obtain ⟨a6, c6, rfl, _⟩ := m5.row_shape (by decide) (v.items.length + 1) (by rw [List.length_append, List.length_map, ly]; show _ + 8 = _; omega)
    have hlen : (v.items ++ [(k, x)]).length = v.items.length + 1 := by rw [List.length_append]; rfl
    have rr : RdE h5 (v.items ++ [(k, x)]) (.slice a6 (v.items.length + 1) c6) := by
      refine Rd.of_raws (us := zs ++ ([.bool k.text, .int .i64 k.num, .string k.str] ++ [.int .i64 x.kind, .int .i64 x.num, .string x.str, .int .i64 x.next, .slice ax x.items.length cx])) (by simpa using m5.rd) ?_
      have rk : RdL h5 k.dt [.bool k.text, .int .i64 k.num, .string k.str] := by simp only [Ky.dt, RdL_cc, Rd_raw, RdL_nil, true_and, and_true]; exact ⟨rfl, rfl, rfl⟩
      have := (rl2.mono m5.ext).append (rk.append ((RdL_val_mk rx).mono m5.ext))
      rw [List.flatMap_append, List.flatMap_cons, List.flatMap_nil, List.append_nil]
      exact this
    simp only [go_sem, Nat.reduceBEq, Nat.reduceAdd, Nat.reduceLeDiff]
    refine Br.intro (fun kt => ?_) (fun kt => ?_) <;> (try simp only [kt, go_sem, Nat.reduceBEq, Nat.reduceAdd, Nat.reduceLeDiff])
    · have kt : k.text = false := by simpa using kt
      (refine (sMax v.next (IntKind.i64.wrap (k.num + 1)) _).mono ?_; rintro _ _ ⟨rfl, rfl⟩; simp only [go_sem, Nat.reduceBEq, Nat.reduceAdd, Nat.reduceLeDiff])
      rw [kt]
      refine ⟨a6, c6, ?_, m5.ext, ?_⟩
      · rw [V.items_mk, hlen]
        rfl
      · rw [V.items_mk, hlen]
        exact rr
    · have kt : k.text = true := by simpa using kt
      rw [kt]
      refine ⟨a6, c6, ?_, m5.ext, ?_⟩
      · rw [V.items_mk, hlen]
        rfl
      · rw [V.items_mk, hlen]
        exact rr
end Go.Proofs.YtpfongmnmcmnaaaGreatDoor
