/-
  What impl.DeletePath does: a copy without what a path leads to; a pointer goes down into the copy.
-/
import Derived.Test.YtjbcokpkbfnpiaaDelKey
import Derived.Test.YtjbcokpkbfnpiaaVar
namespace Go.Proofs.Ytjbcokpkbfnpiaa
open Go Go.Sx
theorem wrap_pred {n : Nat} (h0 : 0 < n) (hn : n < 9223372036854775807) : IntKind.i64.wrap ((n : Int) - 1) = ((n - 1 : Nat) : Int) := by rw [IntWalk.i64_in _ (by omega)]; omega
/-- what a pointer into a value sees: the value below, and how the whole comes of it -/
def Into (h : Hp) (b0 : Nat) (v : V) (w : V) (c : List Dt → Dt) (val : Value) (R : Bag) (plug : V → V) : Prop := plug w = v ∧ ∀ w' h', My h h' ((c w'.dt, val) :: R) → My h h' [(.ptr [] (plug w').dt [], .pointer (some ⟨b0, 0, none⟩))]
theorem iDeletePath (v : V) (path : List Ky) (hl : V.bulks v.items ≤ 1099511627776) (hp : path.length ≤ 1099511627776) (sl sp : Value) (h : Hp) (rd : RdE h v.items sl) (rp : Rd h (.row 3 (path.flatMap Ky.dt)) sp) :
    ACalls Try.prog 26 #[.agg #[.int .i64 v.kind, .int .i64 v.num, .string v.str, .int .i64 v.next, sl], sp] h (Made h (v.dropPath path)) := by
  obtain ⟨ap, cp, xp, rfl, hcp, hrp, hatp⟩ := rp.rows (by decide) path.length (fm_len Ky.dt_len _)
  obtain ⟨a, c, _, rfl, _⟩ := rd.rows (by decide) v.items.length (fm_len edt_len _)
  (refine enter Try.func26 rfl rfl (by kernel_rfl) [5] ?_; simp only [go_sem, Nat.reduceBEq, Nat.reduceAdd, Nat.reduceLeDiff])
  refine (copyValue_c v hl _ _ rd).mono ?_
  rintro _ h1 ⟨a1, c1, rfl, m1⟩
  simp only [go_sem, Nat.reduceBEq]
  refine hsem_my_alloc (z := [.int .i64 0, .int .i64 0, .string ⟨#[]⟩, .int .i64 0, .slice none 0 0]) (by kernel_rfl) rfl m1 fun b0 h2 m2 => ?_
  simp only [go_sem, Nat.reduceBEq]
  refine var_store (v := v) Hold.ptr rfl m2.swap rfl fun h3 m3 => ?_
  simp only [go_sem, Nat.reduceBEq]
  refine Br.intro (fun h0 => ?_) (fun h0 => ?_)
  · simp only [go_sem, Nat.reduceBEq]
    have e0 : path = [] := List.eq_nil_of_length_eq_zero (by have := of_decide_eq_true h0; omega)
    subst e0
    rw [V.dropPath_nil]
    refine var_take Hold.ptr m3 rfl fun a4 c4 m4 => ?_
    simp only [go_sem, Nat.reduceBEq, Nat.reduceAdd, Nat.reduceLeDiff]
    exact ⟨_, _, rfl, m4⟩
  have h0 : 0 < path.length := by have := of_decide_eq_false h0; omega
  obtain ⟨a2, ys2, e2, rs2, rl2⟩ := Rd.sub Ky.dt_len rp 0 (path.length - 1) (by omega) (by omega)
  have e2 : slA (some 3) ap path.length cp 0 ((path.length - 1 : Nat) : Int) = some (.slice a2 (path.length - 1 - 0) (cp - 0)) := e2
  rw [Nat.sub_zero, Nat.sub_zero] at e2 rs2
  rw [List.drop_zero, Nat.sub_zero] at rl2
  have rp2 : Rd h (.row 3 ((path.take (path.length - 1)).flatMap Ky.dt)) (.slice a2 (path.length - 1) cp) := by
    simp only [Rd]
    exact ⟨_, rs2, rl2⟩
  obtain ⟨a2', c2', x2, e3, _, hr2, hat2⟩ := rp2.rows (by decide) (path.length - 1) (by rw [fm_len Ky.dt_len, List.length_take]; congr 1; omega)
  cases e3
  have wpr := wrap_pred h0 (by omega)
  simp only [wpr, e2, go_sem, Nat.reduceBEq]
  refine aloop (ι := Nat × V × Nat × Nat × (List Dt → Dt) × Value × Bag × (V → V)) (fun x => [(22, .val (.int .i64 (x.1 : Nat))), (21, .val (.int .i64 (path.length - 1 : Nat))), (20, .val (.slice a2 (path.length - 1) cp)), (6, .val (.pointer (some ⟨x.2.2.1, x.2.2.2.1, none⟩))), (5, .val (.pointer (some ⟨b0, 0, none⟩))), (1, .val (.slice ap path.length cp)), (4, .box 4 0)])
    (fun _ => [(4, [.int .i64 0, .int .i64 0, .string ⟨#[]⟩, .int .i64 0, .slice none 0 0])])
    (fun x h' => x.1 ≤ path.length - 1 ∧ Hold x.2.2.2.2.1 x.2.2.2.2.2.1 x.2.2.1 x.2.2.2.1 ∧ My h h' ((x.2.2.2.2.1 x.2.1.dt, x.2.2.2.2.2.1) :: x.2.2.2.2.2.2.1) ∧ V.bulks x.2.1.items ≤ 1099511627776 ∧ Into h b0 v x.2.1 x.2.2.2.2.1 x.2.2.2.2.2.1 x.2.2.2.2.2.2.1 x.2.2.2.2.2.2.2 ∧ x.2.2.2.2.2.2.2 (x.2.1.dropPath (path.drop x.1)) = v.dropPath path)
    (fun x => path.length - x.1) (0, v, b0, 0, (fun y => .ptr [] y []), .pointer (some ⟨b0, 0, none⟩), [], id)
    ⟨Nat.zero_le _, Hold.ptr, m3, hl, ⟨rfl, fun _ _ m => m⟩, rfl⟩ (by repeat (first | exact wkF_e | refine wkF_c rfl ?_)) (wkB_c rfl wkB_e) rfl ?_
  rintro ⟨i, w, b, off, c, val, R, plug⟩ h4 ⟨hi, hd, m4, hbw, ⟨hv, wand⟩, hq⟩
  have hi : i ≤ path.length - 1 := hi
  have hd : Hold c val b off := hd
  have m4 : My h h4 ((c w.dt, val) :: R) := m4
  have hbw : V.bulks w.items ≤ 1099511627776 := hbw
  have hv : plug w = v := hv
  have hq : plug (w.dropPath (path.drop i)) = v.dropPath path := hq
  have wand : ∀ w' h', My h h' ((c w'.dt, val) :: R) → My h h' [(.ptr [] (plug w').dt [], .pointer (some ⟨b0, 0, none⟩))] := wand
  have hlw := V.bulks_len w.items
  obtain ⟨k, hk, _⟩ := get_lt (l := path) (i := i) (by omega)
  simp only [go_sem, Nat.reduceBEq]
  refine Br.intro (fun hb => ?_) (fun hb => ?_) <;> (try simp only [hb, go_sem, Nat.reduceBEq])
  · have hb : i < path.length - 1 := by have := of_decide_eq_true hb; omega
    obtain ⟨bp, offp, rfl, hatp'⟩ := hat2 (by omega)
    have wsu := wrap_succ (i := i) (by omega)
    have hk2 : (path.take (path.length - 1))[i]? = some k := by rw [List.getElem?_take, if_pos hb]; exact hk
    simp only [ix_nat hb, go_sem, Nat.reduceBEq]
    refine hsem_row (f := Ky.dt) (o := 0) (ds := k.dt) Ky.dt_len tyS57 (hatp'.mono m4.ext) (hr2.mono m4.ext) hk2 (Nat.le_refl _) rfl ?_ fun ys q1 => ?_
    · omega
    rw [RdL_key q1]
    simp only [go_sem, Nat.reduceBEq, Nat.reduceAdd, Nat.reduceLeDiff]
    refine regionD_intro (lb := [29]) (by kernel_rfl) ?_
    simp only [go_sem, Nat.reduceBEq]
    refine var_load hd m4 rfl fun sw rw_ => ?_
    simp only [go_sem, Nat.reduceBEq, Nat.reduceAdd, Nat.reduceLeDiff]
    (refine (iFindKey w k (by omega) _ _ rw_).mono ?_; rintro _ _ ⟨rfl, rfl⟩; simp only [go_sem, Nat.reduceBEq])
    obtain ⟨q, r, hqr⟩ : ∃ q r, path.drop i = k :: q :: r := by
      obtain ⟨q, hq, _⟩ := get_lt (l := path) (i := i + 1) (by omega)
      exact ⟨q, _, by rw [drop_cons hk, drop_cons hq]⟩
    rw [hqr, V.dropPath_more] at hq
    rw [ixI_neg]
    cases hf : w.find k with
    | none =>
      have hg := V.find_none hf
      rw [hg] at hq
      rw [← hq]
      simp only [Option.isNone_none, go_sem, Nat.reduceBEq]
      refine var_take Hold.ptr (wand w _ m4) rfl fun a5 c5 m5 => ?_
      simp only [go_sem, Nat.reduceBEq, Nat.reduceAdd, Nat.reduceLeDiff]
      exact ⟨_, _, rfl, m5⟩
    | some j =>
      obtain ⟨x, hx, hg, hlt⟩ := V.find_get hf
      rw [hg] at hq
      simp only [V.setKey, hf, V.setAt, hx] at hq
      obtain ⟨a5, c5, m5⟩ := var_open hd m4
      obtain ⟨a5', c5', e5, hcc, hcm, hat⟩ := m5.row_shape (by decide) w.items.length (fm_len edt_len _)
      cases e5
      obtain ⟨b5, rfl⟩ := hat (by omega)
      simp only [Option.isNone_some, ixI_some, go_sem, Nat.reduceBEq, Nat.reduceAdd]
      refine hd.load1 (i := 4) (d := .raw (.slice (some ⟨b5, 0, none⟩) w.items.length c5)) tyS27 m5.drop rfl rfl fun u ru => ?_
      obtain ⟨rfl, _⟩ := Rd_raw.1 ru
      simp only [ix_nat hlt, wsu, go_sem, Nat.reduceBEq, Nat.reduceAdd]
      obtain ⟨c6, hd6, hc6⟩ := hold_item (b := b5) (cap := c5) hx
      have hself : w.items.take j ++ (k, x) :: w.items.drop (j + 1) = w.items := by rw [← drop_cons hx, List.take_append_drop]
      have hw : w.withItems w.items = w := V.eta w
      refine Again.intro (i + 1, x, b5, j * 8 + 3, c6, .slice (some ⟨b5, 0, none⟩) w.items.length c5, (c (vraws w (.slice (some ⟨b5, 0, none⟩) w.items.length c5)), val) :: R, fun y => plug (w.withItems (w.items.take j ++ (k, y) :: w.items.drop (j + 1)))) (by first | omega | (simp only; omega)) ⟨by simp only; omega, hd6, ?_, by have := V.get_bulk hg; simp only; omega, ⟨?_, fun w' h' m => ?_⟩, ?_⟩ (by repeat (first | exact wkF_e | refine wkF_c rfl ?_)) (wkB_c rfl wkB_e) rfl
      · simp only
        rw [hc6, hself]
        exact m5
      · simp only [hself, hw]
        exact hv
      · have m : My h h' ((c6 w'.dt, .slice (some ⟨b5, 0, none⟩) w.items.length c5) :: (c (vraws w (.slice (some ⟨b5, 0, none⟩) w.items.length c5)), val) :: R) := m
        rw [hc6] at m
        exact wand _ _ (var_close (v := w.withItems (w.items.take j ++ (k, w') :: w.items.drop (j + 1))) hd m)
      · simp only
        rw [← hq]
        have : path.drop (i + 1) = q :: r := by
          have := drop_cons hk
          rw [hqr] at this
          exact (List.cons.inj this).2.symm
        rw [this]
  · have hb : i = path.length - 1 := by have := of_decide_eq_false hb; omega
    subst hb
    obtain ⟨bp, offp, rfl, hatp'⟩ := hatp h0
    have hlast : path.drop (path.length - 1) = [k] := by rw [drop_cons hk, List.drop_eq_nil_of_le (by omega)]
    rw [hlast, V.dropPath_one] at hq
    refine regionD_intro (lb := []) (by kernel_rfl) ?_
    simp only [go_sem, Nat.reduceBEq]
    refine var_load hd m4 rfl fun sw rw_ => ?_
    simp only [wpr, ix_nat (show path.length - 1 < path.length by omega), go_sem, Nat.reduceBEq]
    refine hsem_row (f := Ky.dt) (o := 0) (ds := k.dt) Ky.dt_len tyS57 (hatp'.mono m4.ext) (hrp.mono m4.ext) hk (Nat.le_refl _) rfl ?_ fun ys q1 => ?_
    · omega
    rw [RdL_key q1]
    simp only [go_sem, Nat.reduceBEq]
    refine (iDeleteKey w k hbw _ _ rw_).mono ?_
    rintro _ h5 ⟨a5, c5, rfl, m5⟩
    have M5 := m4.add m5
    simp only [go_sem, Nat.reduceBEq]
    refine var_store (v := v) hd (V.dt_len w) M5 rfl fun h6 m6 => ?_
    simp only [go_sem, Nat.reduceBEq]
    refine var_take Hold.ptr (wand _ _ m6) rfl fun a7 c7 m7 => ?_
    simp only [go_sem, Nat.reduceBEq, Nat.reduceAdd, Nat.reduceLeDiff]
    rw [← hq]
    exact ⟨_, _, rfl, m7⟩
end Go.Proofs.Ytjbcokpkbfnpiaa
