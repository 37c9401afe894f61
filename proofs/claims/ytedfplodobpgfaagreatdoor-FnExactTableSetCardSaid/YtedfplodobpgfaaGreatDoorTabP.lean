/-
  What addSlot and l7Push do to tables of the walk's own.
-/
import Derived.Test.YtedfplodobpgfaaGreatDoorTabC
import Derived.Test.YtedfplodobpgfaaGreatDoorTabF
import Derived.Test.YtedfplodobpgfaaGreatDoorVar
namespace Go.Proofs.YtedfplodobpgfaaGreatDoor
set_option maxRecDepth 8000
open Go Go.Sx
/-- a table of the walk's own -/
def OwnT (h0 : Hp) (t : Tb) (R : Bag) (u : Value) (h' : Hp) : Prop := ∃ a c a' c', u = .agg #[.bool t.hashed, .slice a t.heads.length c, .slice a' t.slots.length c', .int .i64 t.next, .int .i64 t.count] ∧ My h0 h' ((.row 1 (t.heads.flatMap idt), .slice a t.heads.length c) :: (.row 10 (t.slots.flatMap Sl.dt), .slice a' t.slots.length c') :: R)
theorem fm_push (t : Tb) (k : Ky) (x : V) : t.slots.flatMap Sl.dt ++ Sl.dt ⟨k, x, true, t.link k⟩ = (t.push k x).slots.flatMap Sl.dt := by
  show _ = (t.slots ++ [_]).flatMap Sl.dt
  rw [List.flatMap_append, List.flatMap_cons, List.flatMap_nil, List.append_nil]
theorem push_len (t : Tb) (k : Ky) (x : V) : (t.push k x).slots.length = t.slots.length + 1 := by
  show (t.slots ++ [_]).length = _
  rw [List.length_append]
  rfl
theorem push_wrap {t : Tb} (c : t.ch) : IntKind.i64.wrap (t.count + 1) = t.count + 1 := by
  have h1 := c.cnt
  have h2 := c.len
  have h3 := liveN_le t.slots
  exact IntWalk.i64_in _ (by omega)
theorem link_hashed {t : Tb} {k : Ky} (h : t.hashed = true) : t.link k = t.heads.getD (k.hash % t.heads.length) (-1) := by unfold Tb.link; rw [h]; rfl
theorem link_packed {t : Tb} {k : Ky} (h : t.hashed = false) : t.link k = -1 := by unfold Tb.link; rw [h]; rfl
theorem push_heads {t : Tb} {k : Ky} {x : V} (h : t.hashed = true) : (t.push k x).heads = t.heads.set (k.hash % t.heads.length) (t.slots.length : Nat) := by unfold Tb.push; rw [h]; rfl
theorem push_heads0 {t : Tb} {k : Ky} {x : V} (h : t.hashed = false) : (t.push k x).heads = t.heads := by unfold Tb.push; rw [h]; rfl
theorem push_hl (t : Tb) (k : Ky) (x : V) : (t.push k x).heads.length = t.heads.length := (t.push_slots k x).2
set_option maxHeartbeats 800000 in
theorem iAddSlot {c : List Dt → Dt} {val : Value} {b off : Nat} (hd : Hold c val b off) (t : Tb) (ch : t.ch) (k : Ky) (hk : k.str.size ≤ 1152921504606846976) (x : V) (ax : Option Addr) (cx : Nat) (h0 h : Hp) (R : Bag) (m : My h0 h ((.row 8 (x.items.flatMap edt), .slice ax x.items.length cx) :: (c t.dt, val) :: R)) :
    ACalls Tryz.prog 129 #[.pointer (some ⟨b, off, none⟩), .agg #[.bool k.text, .int .i64 k.num, .string k.str], .agg #[.int .i64 x.kind, .int .i64 x.num, .string x.str, .int .i64 x.next, .slice ax x.items.length cx]] h (fun u h' => u = .tuple #[] ∧ My h0 h' ((c (t.push k x).dt, val) :: R)) := by
  have hls := ch.len
  obtain ⟨a1, c1, a2, c2, m1⟩ := tb_open hd m.swap
  have mc := m1.third
  (refine enter Tryz.func129 rfl rfl (by kernel_rfl) [] ?_; simp only [go_sem, Nat.reduceBEq, Nat.reduceAdd, Nat.reduceLeDiff])
  refine hd.ld1 (i := 0) tyS4 mc rfl (by omega) ?_
  cases ht : t.hashed with
  | true =>
  have hsz := ch.size ht
  have hm : k.hash % t.heads.length < t.heads.length := Nat.mod_lt _ (by omega)
  have hh := k.hash_lt
  have em : ((k.hash : Nat) : Int) % ((t.heads.length : Nat) : Int) = ((k.hash % t.heads.length : Nat) : Int) := by omega
  obtain ⟨_, _, e1, _, _, hat1⟩ := m1.row_shape (by decide) t.heads.length (fm_len idt_len _)
  cases e1
  obtain ⟨b1, rfl⟩ := hat1 (by omega)
  simp only [go_sem, Nat.reduceBEq]
  refine regionD_still (lb := [15]) (pl := [20]) h (Ext.refl _) (by kernel_rfl) ?_
  simp only [go_sem, Nat.reduceBEq, Nat.reduceAdd, Nat.reduceLeDiff]
  refine (iKeyHash k hk _).mono ?_
  rintro _ _ ⟨rfl, rfl⟩
  simp only [go_sem, Nat.reduceBEq]
  refine ⟨Ext.refl _, ?_⟩
  refine hd.ld1 (i := 1) tyS22 mc rfl (by omega) ?_
  simp only [go_sem, Nat.reduceBEq]
  refine (iMod _ _ (by omega) (by omega) _).mono ?_
  rintro _ _ ⟨rfl, rfl⟩
  simp only [go_sem, Nat.reduceBEq]
  refine ⟨Ext.refl _, ?_⟩
  simp only [em, go_sem]
  refine hd.ld1 (i := 1) tyS22 mc rfl (by omega) ?_
  obtain ⟨xs, hr, hat⟩ := m1.at_
  simp only [ix_nat hm, go_sem, Nat.reduceBEq]
  refine hsem_num tyS3 (hat (by omega)) hr (getD_at (d := -1) hm) (by omega) ?_
  rw [← link_hashed ht]
  simp only [go_sem, Nat.reduceBEq, Nat.reduceAdd, Nat.reduceLeDiff]
  refine regionD_intro (lb := []) (by kernel_rfl) ?_
  simp only [go_sem, Nat.reduceBEq]
  refine hd.ld1 (i := 1) tyS22 mc rfl (by omega) ?_
  simp only [go_sem, Nat.reduceBEq, Nat.reduceAdd]
  refine hd.ld1 (i := 2) tyS34 mc rfl (by omega) ?_
  simp only [ix_nat hm, go_sem, Nat.reduceBEq]
  obtain ⟨cn, hn, en⟩ := hold_num (b := b1) (cap := c1) hm
  obtain ⟨w, hw⟩ := hold_self hm
  refine hn.put1 (h0 := h0) (d := .raw (.int .i64 w)) tyS3 rfl rfl (by rw [en, hw]; exact m1) (by omega) fun h2 m2 => ?_
  rw [en, ← push_heads (x := x) ht] at m2
  have mc2 := m2.third
  simp only [go_sem]
  refine regionS_at (lb := [47]) (pl := [46]) (only h2 b) only_refl 8 9 9 10 [9, 10] [9, 10] (by kernel_rfl) ?_
  simp only [rg8, rg8b, pkO_c, pkO_n, pk_s, List.getElem?_toArray, List.getElem?_cons_succ, List.getElem?_cons_zero, go_sem, Nat.reduceBEq, Nat.reduceAdd]
  refine hd.still1 (i := 2) tyS34 mc2 rfl (by omega) ?_
  simp only [go_sem, Nat.reduceBEq, Nat.reduceAdd, Nat.reduceLeDiff]
  refine hsem_my_litE (h0 := h0) (es := Sl.dt ⟨k, x, true, t.link k⟩) (parts := [(0, .agg #[.bool k.text, .int .i64 k.num, .string k.str, .int .i64 x.kind, .int .i64 x.num, .string x.str, .int .i64 x.next, .slice ax x.items.length cx, .bool true, .int .i64 (t.link k)])]) slT34 (by decide) (by decide) (by decide) rfl rfl (by simp [Value.cells])
    (bag := (.row 10 (t.slots.flatMap Sl.dt), .slice a2 t.slots.length c2) :: (c (traws t (.slice (some ⟨b1, 0, none⟩) t.heads.length c1) (.slice a2 t.slots.length c2)), val) :: (.row 1 ((t.push k x).heads.flatMap idt), .slice (some ⟨b1, 0, none⟩) t.heads.length c1) :: R) ?_ rfl (Sl.dt_len _) fun l4 h4 m4 e4 => ?_
  · simp only [flat, List.flatMap_cons, List.flatMap_nil, List.append_nil, cells_agg]
    exact slot_zip ⟨k, x, true, t.link k⟩ mc2.third.fourth
  simp only [go_sem, Nat.reduceBEq]
  obtain ⟨ob, hob⟩ := hd.there mc2
  refine ⟨only_of hob e4, ?_⟩
  refine hsem_my_appendK slT34 (by decide) rfl t.slots.length 1 m4.swap b (fun B kB => hd.mem kB) (fm_len Sl.dt_len _) (Sl.dt_len _) (by show (t.slots.length + 1) * 112 ≤ _; omega) (by omega) fun l5 h5 m5 e5 => ?_
  rw [fm_push] at m5
  obtain ⟨a6, c6, rfl, _⟩ := m5.row_shape (by decide) (t.push k x).slots.length (fm_len Sl.dt_len _)
  have e45 : h5 b = h2 b := by rw [e5, hob, e4 _ _ hob]
  simp only [go_sem, Nat.reduceBEq]
  refine ⟨only_ext e45, ?_⟩
  have m6 : My h0 h5 ((c ([.raw (.bool t.hashed), .raw (.slice (some ⟨b1, 0, none⟩) t.heads.length c1)] ++ ([.raw (.slice a2 t.slots.length c2)] ++ [.raw (.int .i64 t.next), .raw (.int .i64 t.count)])), val) :: (.row 10 ((t.push k x).slots.flatMap Sl.dt), .slice a6 (t.push k x).slots.length c6) :: (.row 1 ((t.push k x).heads.flatMap idt), .slice (some ⟨b1, 0, none⟩) t.heads.length c1) :: R) := m5.swap
  refine ⟨?_, ?_⟩ <;> (
    simp only [go_sem, Nat.reduceBEq, Nat.reduceAdd]
    refine hd.setC [.raw (.bool t.hashed), .raw (.slice (some ⟨b1, 0, none⟩) t.heads.length c1)] [.raw (.int .i64 t.next), .raw (.int .i64 t.count)] tyS34 rfl rfl m6 rfl fun h7 m7 => ?_
    simp only [go_sem, Nat.reduceBEq, Nat.reduceAdd]
    refine hd.ld1 (i := 4) tyS3 m7 rfl (by omega) ?_
    simp only [push_wrap ch, go_sem, Nat.reduceBEq, Nat.reduceAdd]
    refine hd.setC [.raw (.bool t.hashed), .raw (.slice (some ⟨b1, 0, none⟩) t.heads.length c1), .raw (.slice a6 (t.push k x).slots.length c6), .raw (.int .i64 t.next)] [] tyS3 rfl rfl m7 rfl fun h8 m8 => ?_
    simp only [go_sem]
    exact tb_close (t := t.push k x) hd m8.swap.third)
  | false =>
  have e0 := link_packed (k := k) ht
  have m2 : My h0 h ((.row 1 ((t.push k x).heads.flatMap idt), .slice a1 t.heads.length c1) :: (.row 10 (t.slots.flatMap Sl.dt), .slice a2 t.slots.length c2) :: (c (traws t (.slice a1 t.heads.length c1) (.slice a2 t.slots.length c2)), val) :: (.row 8 (x.items.flatMap edt), .slice ax x.items.length cx) :: R) := by rw [push_heads0 ht]; exact m1
  have mc2 := m2.third
  simp only [go_sem, Nat.reduceBEq]
  rw [← e0]
  refine regionS_at (lb := [47]) (pl := [46]) (only h b) only_refl 8 9 9 10 [9, 10] [9, 10] (by kernel_rfl) ?_
  simp only [rg8, rg8b, pkO_c, pkO_n, pk_s, List.getElem?_toArray, List.getElem?_cons_succ, List.getElem?_cons_zero, go_sem, Nat.reduceBEq, Nat.reduceAdd]
  refine hd.still1 (i := 2) tyS34 mc2 rfl (by omega) ?_
  simp only [go_sem, Nat.reduceBEq, Nat.reduceAdd, Nat.reduceLeDiff]
  refine hsem_my_litE (h0 := h0) (es := Sl.dt ⟨k, x, true, t.link k⟩) (parts := [(0, .agg #[.bool k.text, .int .i64 k.num, .string k.str, .int .i64 x.kind, .int .i64 x.num, .string x.str, .int .i64 x.next, .slice ax x.items.length cx, .bool true, .int .i64 (t.link k)])]) slT34 (by decide) (by decide) (by decide) rfl rfl (by simp [Value.cells])
    (bag := (.row 10 (t.slots.flatMap Sl.dt), .slice a2 t.slots.length c2) :: (c (traws t (.slice a1 t.heads.length c1) (.slice a2 t.slots.length c2)), val) :: (.row 1 ((t.push k x).heads.flatMap idt), .slice a1 t.heads.length c1) :: R) ?_ rfl (Sl.dt_len _) fun l4 h4 m4 e4 => ?_
  · simp only [flat, List.flatMap_cons, List.flatMap_nil, List.append_nil, cells_agg]
    exact slot_zip ⟨k, x, true, t.link k⟩ mc2.third.fourth
  simp only [go_sem, Nat.reduceBEq]
  obtain ⟨ob, hob⟩ := hd.there mc2
  refine ⟨only_of hob e4, ?_⟩
  refine hsem_my_appendK slT34 (by decide) rfl t.slots.length 1 m4.swap b (fun B kB => hd.mem kB) (fm_len Sl.dt_len _) (Sl.dt_len _) (by show (t.slots.length + 1) * 112 ≤ _; omega) (by omega) fun l5 h5 m5 e5 => ?_
  rw [fm_push] at m5
  obtain ⟨a6, c6, rfl, _⟩ := m5.row_shape (by decide) (t.push k x).slots.length (fm_len Sl.dt_len _)
  have e45 : h5 b = h b := by rw [e5, hob, e4 _ _ hob]
  simp only [go_sem, Nat.reduceBEq]
  refine ⟨only_ext e45, ?_⟩
  have m6 : My h0 h5 ((c ([.raw (.bool t.hashed), .raw (.slice a1 t.heads.length c1)] ++ ([.raw (.slice a2 t.slots.length c2)] ++ [.raw (.int .i64 t.next), .raw (.int .i64 t.count)])), val) :: (.row 10 ((t.push k x).slots.flatMap Sl.dt), .slice a6 (t.push k x).slots.length c6) :: (.row 1 ((t.push k x).heads.flatMap idt), .slice a1 t.heads.length c1) :: R) := m5.swap
  refine ⟨?_, ?_⟩ <;> (
    simp only [go_sem, Nat.reduceBEq, Nat.reduceAdd]
    refine hd.setC [.raw (.bool t.hashed), .raw (.slice a1 t.heads.length c1)] [.raw (.int .i64 t.next), .raw (.int .i64 t.count)] tyS34 rfl rfl m6 rfl fun h7 m7 => ?_
    simp only [go_sem, Nat.reduceBEq, Nat.reduceAdd]
    refine hd.ld1 (i := 4) tyS3 m7 rfl (by omega) ?_
    simp only [push_wrap ch, go_sem, Nat.reduceBEq, Nat.reduceAdd]
    refine hd.setC [.raw (.bool t.hashed), .raw (.slice a1 t.heads.length c1), .raw (.slice a6 (t.push k x).slots.length c6), .raw (.int .i64 t.next)] [] tyS3 rfl rfl m7 rfl fun h8 m8 => ?_
    simp only [go_sem]
    exact tb_close (t := t.push k x) hd m8.swap.third)
end Go.Proofs.YtedfplodobpgfaaGreatDoor
