/-
  The statement FnExactSetShared is proved: for each argument the law returns true; nothing is assumed.
-/
import Derived.Test.YtedfplodobpgfaaGreatDoorFnExactSetSharedAllB
import Derived.Test.YtedfplodobpgfaaGreatDoorSxHole
import Derived.Test.YtedfplodobpgfaaGreatDoorSxValid
namespace Go.Proofs.YtedfplodobpgfaaGreatDoor
set_option maxRecDepth 8000
open Go Go.Sx
section
variable {h0 h : Hp} {K : Value → Hp → Prop} {bag : Bag} {c : List Dt → Dt} {val : Value} {b off : Nat}
def vraws (v : V) (u : Value) : List Dt := [.raw (.int .i64 v.kind), .raw (.int .i64 v.num), .raw (.string v.str), .raw (.int .i64 v.next), .raw u]
/-- the items are taken out -/
theorem var_open (hd : Hold c val b off) {v : V} (m : My h0 h ((c v.dt, val) :: bag)) : ∃ a n, My h0 h ((.row 8 (v.items.flatMap edt), .slice a v.items.length n) :: (c (vraws v (.slice a v.items.length n)), val) :: bag) := by
  rw [V.dt_eq] at m
  obtain ⟨u, m⟩ := hd.open_ (X := [.raw (.int .i64 v.kind), .raw (.int .i64 v.num), .raw (.string v.str), .raw (.int .i64 v.next)]) (Y := []) m
  obtain ⟨a, n, rfl, _⟩ := m.row_shape (by decide) v.items.length (fm_len edt_len _)
  exact ⟨a, n, m⟩
/-- .. and put back, perhaps others than before -/
theorem var_close (hd : Hold c val b off) {v : V} {u : Value} (m : My h0 h ((.row 8 (v.items.flatMap edt), u) :: (c (vraws v u), val) :: bag)) : My h0 h ((c v.dt, val) :: bag) := by
  have := hd.close (X := [.raw (.int .i64 v.kind), .raw (.int .i64 v.num), .raw (.string v.str), .raw (.int .i64 v.next)]) (Y := []) m
  rw [V.dt_eq]
  exact this
theorem var_ldraw (hd : Hold c val b off) {v : V} {u : Value} {j : Nat} (m : My h0 h ((c (vraws v u), val) :: bag)) (hj : j = off) (k : K (.agg #[.int .i64 v.kind, .int .i64 v.num, .string v.str, .int .i64 v.next, u]) h) : HPure Tryz.prog (ldI 44 (.pointer (some ⟨b, j, none⟩))) h K := by
  refine hd.loadN (i := 0) (ds := vraws v u) tyS44 m rfl rfl hj fun ys r => ?_
  simp only [vraws, RdL_cons, RdL_nil, Rd_raw] at r
  obtain ⟨_, _, rfl, ⟨rfl, _⟩, _, _, rfl, ⟨rfl, _⟩, _, _, rfl, ⟨rfl, _⟩, _, _, rfl, ⟨rfl, _⟩, _, _, rfl, ⟨rfl, _⟩, rfl⟩ := r
  exact k
/-- the value is read -/
theorem var_load (hd : Hold c val b off) {v : V} {j : Nat} (m : My h0 h ((c v.dt, val) :: bag)) (hj : j = off) (k : ∀ sl, RdE h v.items sl → K (.agg #[.int .i64 v.kind, .int .i64 v.num, .string v.str, .int .i64 v.next, sl]) h) : HPure Tryz.prog (ldI 44 (.pointer (some ⟨b, j, none⟩))) h K := by
  refine hd.loadN (i := 0) (ds := v.dt) tyS44 m (by rw [List.drop_zero, List.take_of_length_le (by rw [V.dt_len]; exact Nat.le_refl _)]) (V.dt_len v) hj fun ys r => ?_
  obtain ⟨sl, rfl, rd⟩ := RdL_val r
  exact k sl rd
/-- a value of the walk's own is written -/
theorem var_store (hd : Hold c val b off) {w : V} {sl : Value} {j : Nat} {x : List Dt} (hx : x.length = 5) (m : My h0 h ((.row 8 (w.items.flatMap edt), sl) :: (c x, val) :: bag)) (hj : j = off) (k : ∀ h', My h0 h' ((c w.dt, val) :: bag) → K undef h') :
    HSem Tryz.prog (stI 44 (.pointer (some ⟨b, j, none⟩)) (.agg #[.int .i64 w.kind, .int .i64 w.num, .string w.str, .int .i64 w.next, sl])) h K := by
  refine hd.store (x := x) (es := w.dt) tyS44 ?_ hx (V.dt_len w) rfl hj k
  rw [V.dt_eq]
  simp only [cells_agg, List.zip_cons_cons, List.zip_nil_right, List.cons_append, List.nil_append, My.raw_iff, one_int, one_str, and_self, true_and]
  exact m
/-- the value is read for good: the variable is given up -/
theorem var_take (hd : Hold c val b off) {v : V} {j : Nat} (m : My h0 h ((c v.dt, val) :: bag)) (hj : j = off) (k : ∀ a n, My h0 h ((.row 8 (v.items.flatMap edt), .slice a v.items.length n) :: bag) → K (.agg #[.int .i64 v.kind, .int .i64 v.num, .string v.str, .int .i64 v.next, .slice a v.items.length n]) h) : HPure Tryz.prog (ldI 44 (.pointer (some ⟨b, j, none⟩))) h K := by
  obtain ⟨a, n, m⟩ := var_open hd m
  exact var_ldraw hd m.drop hj (k a n m.swap.drop)
/-- an item's value within the items -/
theorem hold_item {es : List (Ky × V)} {i : Nat} {e : Ky × V} {b cap : Nat} (he : es[i]? = some e) : ∃ c, Hold c (.slice (some ⟨b, 0, none⟩) es.length cap) b (i * 8 + 3) ∧ ∀ w : V, c w.dt = .row 8 ((es.take i ++ (e.1, w) :: es.drop (i + 1)).flatMap edt) := by
  obtain ⟨h1, h2⟩ := fm_split edt_len he
  have hlt := (List.getElem?_eq_some_iff.1 he).1
  refine ⟨_, (Hold.row (z := 8) (p := (es.take i).flatMap edt ++ e.1.dt) (q := (es.drop (i + 1)).flatMap edt) (by omega)).at_ ?_, fun w => ?_⟩
  · rw [List.length_append, h2]
    rfl
  · simp only [List.flatMap_append, List.flatMap_cons, edt, List.append_assoc]
/-- the slice of items is written, bare -/
theorem var_setRaw (hd : Hold c val b off) {v : V} {u : Value} {a : Option Addr} {n q j : Nat} (m : My h0 h ((c (vraws v u), val) :: bag)) (hj : j = off + 4) (k : ∀ h', My h0 h' ((c (vraws v (.slice a n q)), val) :: bag) → K undef h') :
    HSem Tryz.prog (stI 42 (.pointer (some ⟨b, j, none⟩)) (.slice a n q)) h K := by
  have m1 : My h0 h ((.raw (.slice a n q), .slice a n q) :: (c ([.raw (.int .i64 v.kind), .raw (.int .i64 v.num), .raw (.string v.str), .raw (.int .i64 v.next)] ++ ([.raw u] ++ [])), val) :: bag) := m.raw rfl
  exact (hd.sub [.raw (.int .i64 v.kind), .raw (.int .i64 v.num), .raw (.string v.str), .raw (.int .i64 v.next)] []).store (h0 := h0) (bag := bag) (x := [.raw u]) (es := [.raw (.slice a n q)]) tyS42 m1 rfl rfl rfl hj fun h' m' => k h' m'
/-- the next number is written -/
theorem var_setNext (hd : Hold c val b off) {v : V} {n : Int} {j : Nat} (m : My h0 h ((c v.dt, val) :: bag)) (hj : j = off + 3) (k : ∀ h', My h0 h' ((c (V.mk v.kind v.num v.str n v.items).dt, val) :: bag) → K undef h') :
    HSem Tryz.prog (stI 3 (.pointer (some ⟨b, j, none⟩)) (.int .i64 n)) h K := by
  rw [V.dt_eq] at m
  have m1 : My h0 h ((.raw (.int .i64 n), .int .i64 n) :: (c ([.raw (.int .i64 v.kind), .raw (.int .i64 v.num), .raw (.string v.str)] ++ ([.raw (.int .i64 v.next)] ++ [.row 8 (v.items.flatMap edt)])), val) :: bag) := m.raw rfl
  refine (hd.sub [.raw (.int .i64 v.kind), .raw (.int .i64 v.num), .raw (.string v.str)] [.row 8 (v.items.flatMap edt)]).store (h0 := h0) (bag := bag) (x := [.raw (.int .i64 v.next)]) (es := [.raw (.int .i64 n)]) tyS3 m1 rfl rfl rfl hj fun h' m' => k h' ?_
  rw [V.dt_eq]
  exact m'
/-- the next number is read -/
theorem var_ldNext (hd : Hold c val b off) {v : V} {j : Nat} (m : My h0 h ((c v.dt, val) :: bag)) (hj : j = off + 3) (k : K (.int .i64 v.next) h) : HPure Tryz.prog (ldI 3 (.pointer (some ⟨b, j, none⟩))) h K := by
  rw [V.dt_eq] at m
  refine hd.load1 (i := 3) (d := .raw (.int .i64 v.next)) tyS3 m rfl hj fun u ru => ?_
  obtain ⟨rfl, _⟩ := Rd_raw.1 ru
  exact k
/-- the kind is read -/
theorem var_ldKind (hd : Hold c val b off) {v : V} {j : Nat} (m : My h0 h ((c v.dt, val) :: bag)) (hj : j = off) (k : K (.int .i64 v.kind) h) : HPure Tryz.prog (ldI 3 (.pointer (some ⟨b, j, none⟩))) h K := by
  rw [V.dt_eq] at m
  refine hd.load1 (i := 0) (d := .raw (.int .i64 v.kind)) tyS3 m rfl hj fun u ru => ?_
  obtain ⟨rfl, _⟩ := Rd_raw.1 ru
  exact k
/-- the items' slice is read, the items taken out before -/
theorem var_ldItems (hd : Hold c val b off) {v : V} {u : Value} {j : Nat} (m : My h0 h ((c (vraws v u), val) :: bag)) (hj : j = off + 4) (k : K u h) : HPure Tryz.prog (ldI 42 (.pointer (some ⟨b, j, none⟩))) h K := by
  refine hd.load1 (i := 4) (d := .raw u) tyS42 m rfl hj fun w rw_ => ?_
  obtain ⟨rfl, _⟩ := Rd_raw.1 rw_
  exact k
end
end Go.Proofs.YtedfplodobpgfaaGreatDoor
namespace Go.Proofs.YtedfplodobpgfaaGreatDoor
set_option maxRecDepth 8000
open Go Go.Sx
/-- a table of the walk's own -/
def OwnT (h0 : Hp) (t : Tb) (R : Bag) (u : Value) (h' : Hp) : Prop := ∃ a c a' c', u = .agg #[.bool t.hashed, .slice a t.heads.length c, .slice a' t.slots.length c', .int .i64 t.next, .int .i64 t.count] ∧ My h0 h' ((.row 1 (t.heads.flatMap idt), .slice a t.heads.length c) :: (.row 10 (t.slots.flatMap Sl.dt), .slice a' t.slots.length c') :: R)
theorem fm_push (t : Tb) (k : Ky) (x : V) : t.slots.flatMap Sl.dt ++ Sl.dt ⟨k, x, true, t.link k⟩ = (t.push k x).slots.flatMap Sl.dt := by
  show _ = (t.slots ++ [_]).flatMap Sl.dt
  rw [List.flatMap_append, List.flatMap_cons, List.flatMap_nil, List.append_nil]
theorem push_wrap {t : Tb} (c : t.ch) : IntKind.i64.wrap (t.count + 1) = t.count + 1 := by
  have h1 := c.cnt
  have h2 := c.len
  have h3 := liveN_le t.slots
  exact IntWalk.i64_in _ (by omega)
theorem link_hashed {t : Tb} {k : Ky} (h : t.hashed = true) : t.link k = t.heads.getD (k.hash % t.heads.length) (-1) := by unfold Tb.link; rw [h]; rfl
theorem link_packed {t : Tb} {k : Ky} (h : t.hashed = false) : t.link k = -1 := by unfold Tb.link; rw [h]; rfl
theorem push_heads {t : Tb} {k : Ky} {x : V} (h : t.hashed = true) : (t.push k x).heads = t.heads.set (k.hash % t.heads.length) (t.slots.length : Nat) := by unfold Tb.push; rw [h]; rfl
theorem push_heads0 {t : Tb} {k : Ky} {x : V} (h : t.hashed = false) : (t.push k x).heads = t.heads := by unfold Tb.push; rw [h]; rfl
theorem push_hl (t : Tb) (k : Ky) (x : V) : (t.push k x).heads.length = t.heads.length := (t.push_slots k x).2
set_option maxHeartbeats 800000 in
theorem iAddSlot {c : List Dt → Dt} {val : Value} {b off : Nat} (hd : Hold c val b off) (t : Tb) (ch : t.ch) (k : Ky) (hk : k.str.size ≤ 1152921504606846976) (x : V) (ax : Option Addr) (cx : Nat) (h0 h : Hp) (R : Bag) (m : My h0 h ((.row 8 (x.items.flatMap edt), .slice ax x.items.length cx) :: (c t.dt, val) :: R)) :
    ACalls Tryz.prog 129 #[.pointer (some ⟨b, off, none⟩), .agg #[.bool k.text, .int .i64 k.num, .string k.str], .agg #[.int .i64 x.kind, .int .i64 x.num, .string x.str, .int .i64 x.next, .slice ax x.items.length cx]] h (fun u h' => u = .tuple #[] ∧ My h0 h' ((c (t.push k x).dt, val) :: R)) := by
  have hls := ch.len
  obtain ⟨a1, c1, a2, c2, m1⟩ := tb_open hd m.swap
  have mc := m1.third
  (refine enter Tryz.func129 rfl rfl (by kernel_rfl) [] ?_; simp only [go_sem, Nat.reduceBEq, Nat.reduceAdd, Nat.reduceLeDiff])
  refine hd.ld1 (i := 0) tyS4 mc rfl (by omega) ?_
  cases ht : t.hashed with
  | true =>
  have hsz := ch.size ht
  have hm : k.hash % t.heads.length < t.heads.length := Nat.mod_lt _ (by omega)
  have hh := k.hash_lt
  have em : ((k.hash : Nat) : Int) % ((t.heads.length : Nat) : Int) = ((k.hash % t.heads.length : Nat) : Int) := by omega
  obtain ⟨_, _, e1, _, _, hat1⟩ := m1.row_shape (by decide) t.heads.length (fm_len idt_len _)
  cases e1
  obtain ⟨b1, rfl⟩ := hat1 (by omega)
  simp only [go_sem, Nat.reduceBEq]
  refine regionD_still (lb := [15]) (pl := [20]) h (Ext.refl _) (by kernel_rfl) ?_
  simp only [go_sem, Nat.reduceBEq, Nat.reduceAdd, Nat.reduceLeDiff]
  refine (iKeyHash k hk _).mono ?_
  rintro _ _ ⟨rfl, rfl⟩
  simp only [go_sem, Nat.reduceBEq]
  refine ⟨Ext.refl _, ?_⟩
  refine hd.ld1 (i := 1) tyS22 mc rfl (by omega) ?_
  simp only [go_sem, Nat.reduceBEq]
  refine (iMod _ _ (by omega) (by omega) _).mono ?_
  rintro _ _ ⟨rfl, rfl⟩
  simp only [go_sem, Nat.reduceBEq]
  refine ⟨Ext.refl _, ?_⟩
  simp only [em, go_sem]
  refine hd.ld1 (i := 1) tyS22 mc rfl (by omega) ?_
  obtain ⟨xs, hr, hat⟩ := m1.at_
  simp only [ix_nat hm, go_sem, Nat.reduceBEq]
  refine hsem_num tyS3 (hat (by omega)) hr (getD_at (d := -1) hm) (by omega) ?_
  rw [← link_hashed ht]
  simp only [go_sem, Nat.reduceBEq, Nat.reduceAdd, Nat.reduceLeDiff]
  refine regionD_intro (lb := []) (by kernel_rfl) ?_
  simp only [go_sem, Nat.reduceBEq]
  refine hd.ld1 (i := 1) tyS22 mc rfl (by omega) ?_
  simp only [go_sem, Nat.reduceBEq, Nat.reduceAdd]
  refine hd.ld1 (i := 2) tyS34 mc rfl (by omega) ?_
  simp only [ix_nat hm, go_sem, Nat.reduceBEq]
  obtain ⟨cn, hn, en⟩ := hold_num (b := b1) (cap := c1) hm
  obtain ⟨w, hw⟩ := hold_self hm
  refine hn.put1 (h0 := h0) (d := .raw (.int .i64 w)) tyS3 rfl rfl (by rw [en, hw]; exact m1) (by omega) fun h2 m2 => ?_
  rw [en, ← push_heads (x := x) ht] at m2
  have mc2 := m2.third
  simp only [go_sem]
  refine regionS_at (lb := [47]) (pl := [46]) (only h2 b) only_refl 8 9 9 10 [9, 10] [9, 10] (by kernel_rfl) ?_
  simp only [rg8, rg8b, pkO_c, pkO_n, pk_s, List.getElem?_toArray, List.getElem?_cons_succ, List.getElem?_cons_zero, go_sem, Nat.reduceBEq, Nat.reduceAdd]
  refine hd.still1 (i := 2) tyS34 mc2 rfl (by omega) ?_
  simp only [go_sem, Nat.reduceBEq, Nat.reduceAdd, Nat.reduceLeDiff]
  refine hsem_my_litE (h0 := h0) (es := Sl.dt ⟨k, x, true, t.link k⟩) (parts := [(0, .agg #[.bool k.text, .int .i64 k.num, .string k.str, .int .i64 x.kind, .int .i64 x.num, .string x.str, .int .i64 x.next, .slice ax x.items.length cx, .bool true, .int .i64 (t.link k)])]) slT34 (by decide) (by decide) (by decide) rfl rfl (by simp [Value.cells])
    (bag := (.row 10 (t.slots.flatMap Sl.dt), .slice a2 t.slots.length c2) :: (c (traws t (.slice (some ⟨b1, 0, none⟩) t.heads.length c1) (.slice a2 t.slots.length c2)), val) :: (.row 1 ((t.push k x).heads.flatMap idt), .slice (some ⟨b1, 0, none⟩) t.heads.length c1) :: R) ?_ rfl (Sl.dt_len _) fun l4 h4 m4 e4 => ?_
  · simp only [flat, List.flatMap_cons, List.flatMap_nil, List.append_nil, cells_agg]
    exact slot_zip ⟨k, x, true, t.link k⟩ mc2.third.fourth
  simp only [go_sem, Nat.reduceBEq]
  obtain ⟨ob, hob⟩ := hd.there mc2
  refine ⟨only_of hob e4, ?_⟩
  refine hsem_my_appendK slT34 (by decide) rfl t.slots.length 1 m4.swap b (fun B kB => hd.mem kB) (fm_len Sl.dt_len _) (Sl.dt_len _) (by show (t.slots.length + 1) * 112 ≤ _; omega) (by omega) fun l5 h5 m5 e5 => ?_
  rw [fm_push] at m5
  obtain ⟨a6, c6, rfl, _⟩ := m5.row_shape (by decide) (t.push k x).slots.length (fm_len Sl.dt_len _)
  have e45 : h5 b = h2 b := by rw [e5, hob, e4 _ _ hob]
  simp only [go_sem, Nat.reduceBEq]
  refine ⟨only_ext e45, ?_⟩
  have m6 : My h0 h5 ((c ([.raw (.bool t.hashed), .raw (.slice (some ⟨b1, 0, none⟩) t.heads.length c1)] ++ ([.raw (.slice a2 t.slots.length c2)] ++ [.raw (.int .i64 t.next), .raw (.int .i64 t.count)])), val) :: (.row 10 ((t.push k x).slots.flatMap Sl.dt), .slice a6 (t.push k x).slots.length c6) :: (.row 1 ((t.push k x).heads.flatMap idt), .slice (some ⟨b1, 0, none⟩) t.heads.length c1) :: R) := m5.swap
  refine ⟨?_, ?_⟩ <;> (
    simp only [go_sem, Nat.reduceBEq, Nat.reduceAdd]
    refine hd.setC [.raw (.bool t.hashed), .raw (.slice (some ⟨b1, 0, none⟩) t.heads.length c1)] [.raw (.int .i64 t.next), .raw (.int .i64 t.count)] tyS34 rfl rfl m6 rfl fun h7 m7 => ?_
    simp only [go_sem, Nat.reduceBEq, Nat.reduceAdd]
    refine hd.ld1 (i := 4) tyS3 m7 rfl (by omega) ?_
    simp only [push_wrap ch, go_sem, Nat.reduceBEq, Nat.reduceAdd]
    refine hd.setC [.raw (.bool t.hashed), .raw (.slice (some ⟨b1, 0, none⟩) t.heads.length c1), .raw (.slice a6 (t.push k x).slots.length c6), .raw (.int .i64 t.next)] [] tyS3 rfl rfl m7 rfl fun h8 m8 => ?_
    simp only [go_sem]
    exact tb_close (t := t.push k x) hd m8.swap.third)
  | false =>
  have e0 := link_packed (k := k) ht
  have m2 : My h0 h ((.row 1 ((t.push k x).heads.flatMap idt), .slice a1 t.heads.length c1) :: (.row 10 (t.slots.flatMap Sl.dt), .slice a2 t.slots.length c2) :: (c (traws t (.slice a1 t.heads.length c1) (.slice a2 t.slots.length c2)), val) :: (.row 8 (x.items.flatMap edt), .slice ax x.items.length cx) :: R) := by rw [push_heads0 ht]; exact m1
  have mc2 := m2.third
  simp only [go_sem, Nat.reduceBEq]
  rw [← e0]
  refine regionS_at (lb := [47]) (pl := [46]) (only h b) only_refl 8 9 9 10 [9, 10] [9, 10] (by kernel_rfl) ?_
  simp only [rg8, rg8b, pkO_c, pkO_n, pk_s, List.getElem?_toArray, List.getElem?_cons_succ, List.getElem?_cons_zero, go_sem, Nat.reduceBEq, Nat.reduceAdd]
  refine hd.still1 (i := 2) tyS34 mc2 rfl (by omega) ?_
  simp only [go_sem, Nat.reduceBEq, Nat.reduceAdd, Nat.reduceLeDiff]
  refine hsem_my_litE (h0 := h0) (es := Sl.dt ⟨k, x, true, t.link k⟩) (parts := [(0, .agg #[.bool k.text, .int .i64 k.num, .string k.str, .int .i64 x.kind, .int .i64 x.num, .string x.str, .int .i64 x.next, .slice ax x.items.length cx, .bool true, .int .i64 (t.link k)])]) slT34 (by decide) (by decide) (by decide) rfl rfl (by simp [Value.cells])
    (bag := (.row 10 (t.slots.flatMap Sl.dt), .slice a2 t.slots.length c2) :: (c (traws t (.slice a1 t.heads.length c1) (.slice a2 t.slots.length c2)), val) :: (.row 1 ((t.push k x).heads.flatMap idt), .slice a1 t.heads.length c1) :: R) ?_ rfl (Sl.dt_len _) fun l4 h4 m4 e4 => ?_
  · simp only [flat, List.flatMap_cons, List.flatMap_nil, List.append_nil, cells_agg]
    exact slot_zip ⟨k, x, true, t.link k⟩ mc2.third.fourth
  simp only [go_sem, Nat.reduceBEq]
  obtain ⟨ob, hob⟩ := hd.there mc2
  refine ⟨only_of hob e4, ?_⟩
  refine hsem_my_appendK slT34 (by decide) rfl t.slots.length 1 m4.swap b (fun B kB => hd.mem kB) (fm_len Sl.dt_len _) (Sl.dt_len _) (by show (t.slots.length + 1) * 112 ≤ _; omega) (by omega) fun l5 h5 m5 e5 => ?_
  rw [fm_push] at m5
  obtain ⟨a6, c6, rfl, _⟩ := m5.row_shape (by decide) (t.push k x).slots.length (fm_len Sl.dt_len _)
  have e45 : h5 b = h b := by rw [e5, hob, e4 _ _ hob]
  simp only [go_sem, Nat.reduceBEq]
  refine ⟨only_ext e45, ?_⟩
  have m6 : My h0 h5 ((c ([.raw (.bool t.hashed), .raw (.slice a1 t.heads.length c1)] ++ ([.raw (.slice a2 t.slots.length c2)] ++ [.raw (.int .i64 t.next), .raw (.int .i64 t.count)])), val) :: (.row 10 ((t.push k x).slots.flatMap Sl.dt), .slice a6 (t.push k x).slots.length c6) :: (.row 1 ((t.push k x).heads.flatMap idt), .slice a1 t.heads.length c1) :: R) := m5.swap
  refine ⟨?_, ?_⟩ <;> (
    simp only [go_sem, Nat.reduceBEq, Nat.reduceAdd]
    refine hd.setC [.raw (.bool t.hashed), .raw (.slice a1 t.heads.length c1)] [.raw (.int .i64 t.next), .raw (.int .i64 t.count)] tyS34 rfl rfl m6 rfl fun h7 m7 => ?_
    simp only [go_sem, Nat.reduceBEq, Nat.reduceAdd]
    refine hd.ld1 (i := 4) tyS3 m7 rfl (by omega) ?_
    simp only [push_wrap ch, go_sem, Nat.reduceBEq, Nat.reduceAdd]
    refine hd.setC [.raw (.bool t.hashed), .raw (.slice a1 t.heads.length c1), .raw (.slice a6 (t.push k x).slots.length c6), .raw (.int .i64 t.next)] [] tyS3 rfl rfl m7 rfl fun h8 m8 => ?_
    simp only [go_sem]
    exact tb_close (t := t.push k x) hd m8.swap.third)
end Go.Proofs.YtedfplodobpgfaaGreatDoor
namespace Go.Proofs.YtedfplodobpgfaaGreatDoor
set_option maxRecDepth 8000
open Go Go.Sx
theorem ownT_bump {h0 h' : Hp} {t : Tb} {k : Ky} {x : V} {R : Bag} {a1 a6 : Option Addr} {c1 c6 : Nat} {n : Int} {bh : Bool} (hh : bh = t.hashed) (hn : n = ((t.push k x).bump k).next) (m : My h0 h' ((.row 1 ((t.push k x).heads.flatMap idt), .slice a1 t.heads.length c1) :: (.row 10 ((t.push k x).slots.flatMap Sl.dt), .slice a6 (t.push k x).slots.length c6) :: R)) :
    OwnT h0 ((t.push k x).bump k) R (.agg #[.bool bh, .slice a1 t.heads.length c1, .slice a6 (t.push k x).slots.length c6, .int .i64 n, .int .i64 (t.count + 1)]) h' := by
  have e : ((t.push k x).bump k).heads.length = t.heads.length := push_hl t k x
  subst hn
  subst hh
  refine ⟨a1, c1, a6, c6, ?_, ?_⟩
  · rw [e]
    rfl
  · rw [e]
    exact m
theorem sPush (t : Tb) (ch : t.ch) (k : Ky) (hk : k.str.size ≤ 1152921504606846976) (ko : keyOk k = true) (x : V) (ax a1 a2 : Option Addr) (cx c1 c2 : Nat) (h0 h : Hp) (R : Bag) (m : My h0 h ((.row 8 (x.items.flatMap edt), .slice ax x.items.length cx) :: (.row 1 (t.heads.flatMap idt), .slice a1 t.heads.length c1) :: (.row 10 (t.slots.flatMap Sl.dt), .slice a2 t.slots.length c2) :: R)) :
    ACalls Tryz.prog 117 #[.agg #[.bool t.hashed, .slice a1 t.heads.length c1, .slice a2 t.slots.length c2, .int .i64 t.next, .int .i64 t.count], .agg #[.bool k.text, .int .i64 k.num, .string k.str], .agg #[.int .i64 x.kind, .int .i64 x.num, .string x.str, .int .i64 x.next, .slice ax x.items.length cx]] h (OwnT h0 ((t.push k x).bump k) R) := by
  have hls := ch.len
  have m1 := m.swap
  (refine enter Tryz.func117 rfl rfl (by kernel_rfl) [] ?_; simp only [go_sem, Nat.reduceBEq, Nat.reduceAdd, Nat.reduceLeDiff])
  cases ht : t.hashed with
  | true =>
  have hsz := ch.size ht
  have hm : k.hash % t.heads.length < t.heads.length := Nat.mod_lt _ (by omega)
  have hh := k.hash_lt
  have em : ((k.hash : Nat) : Int).tmod ((t.heads.length : Nat) : Int) = ((k.hash % t.heads.length : Nat) : Int) := by
    rw [Int.tmod_eq_emod_of_nonneg (by omega)]
    omega
  have hm0 : (((t.heads.length : Nat) : Int) = 0) = False := eq_false (by omega)
  obtain ⟨_, _, e1, _, _, hat1⟩ := m1.row_shape (by decide) t.heads.length (fm_len idt_len _)
  cases e1
  obtain ⟨b1, rfl⟩ := hat1 (by omega)
  simp only [go_sem]
  refine regionD_intro (lb := [14, 17]) (by kernel_rfl) ?_
  simp only [go_sem, Nat.reduceBEq, Nat.reduceAdd, Nat.reduceLeDiff]
  (refine (sKeyHash k hk _).mono ?_; rintro _ _ ⟨rfl, rfl⟩; simp only [go_sem, Nat.reduceBEq])
  obtain ⟨xs, hr, hat⟩ := m1.at_
  simp only [hm0, em, ix_nat hm, go_sem, Nat.reduceBEq, not_false_eq_true]
  refine hsem_num tyS3 (hat (by omega)) hr (getD_at (d := -1) hm) (by omega) ?_
  rw [← link_hashed ht]
  simp only [ix_nat hm, go_sem, Nat.reduceBEq, Nat.reduceAdd, Nat.reduceLeDiff]
  obtain ⟨cn, hn, en⟩ := hold_num (b := b1) (cap := c1) hm
  obtain ⟨w, hw⟩ := hold_self hm
  refine hn.put1 (h0 := h0) (d := .raw (.int .i64 w)) tyS3 rfl rfl (by rw [en, hw]; exact m1) (by omega) fun h2 m2 => ?_
  rw [en, ← push_heads (x := x) ht] at m2
  have mz : My h0 h2 ((.row 8 (x.items.flatMap edt), .slice ax x.items.length cx) :: (.row 10 (t.slots.flatMap Sl.dt), .slice a2 t.slots.length c2) :: (.row 1 ((t.push k x).heads.flatMap idt), .slice (some ⟨b1, 0, none⟩) t.heads.length c1) :: R) := m2.third.third
  simp only [go_sem, Nat.reduceBEq, Nat.reduceAdd, Nat.reduceLeDiff]
  refine hsem_my_lit (h0 := h0) (es := Sl.dt ⟨k, x, true, t.link k⟩) (parts := [(0, .agg #[.bool k.text, .int .i64 k.num, .string k.str, .int .i64 x.kind, .int .i64 x.num, .string x.str, .int .i64 x.next, .slice ax x.items.length cx, .bool true, .int .i64 (t.link k)])]) slT34 (by decide) (by decide) (by decide) rfl rfl (by simp [Value.cells])
    (bag := (.row 10 (t.slots.flatMap Sl.dt), .slice a2 t.slots.length c2) :: (.row 1 ((t.push k x).heads.flatMap idt), .slice (some ⟨b1, 0, none⟩) t.heads.length c1) :: R) ?_ rfl (Sl.dt_len _) fun l4 h4 m4 => ?_
  · simp only [flat, List.flatMap_cons, List.flatMap_nil, List.append_nil, cells_agg]
    exact slot_zip ⟨k, x, true, t.link k⟩ mz
  simp only [go_sem, Nat.reduceBEq]
  refine hsem_my_append slT34 (by decide) rfl t.slots.length 1 m4.swap (fm_len Sl.dt_len _) (Sl.dt_len _) (by show (t.slots.length + 1) * 112 ≤ _; omega) (by omega) fun l5 h5 m5 => ?_
  rw [fm_push] at m5
  obtain ⟨a6, c6, rfl, _⟩ := m5.row_shape (by decide) (t.push k x).slots.length (fm_len Sl.dt_len _)
  have m6 := m5.swap
  by_cases kt : k.text = true
  · simp only [push_wrap ch, kt, go_sem, Nat.reduceBEq, Nat.reduceAdd, Nat.reduceLeDiff]
    exact ownT_bump (n := t.next) ht.symm (by rw [Tb.bump_next, kt]; rfl) m6
  · have kt : k.text = false := by simpa using kt
    have wk : IntKind.i64.wrap (k.num + 1) = k.num + 1 := by
      have := keyOk_num ko
      rw [kt] at this
      simp at this
      exact IntWalk.i64_in _ (by omega)
    simp only [push_wrap ch, wk, kt, go_sem, Nat.reduceBEq, Nat.reduceAdd, Nat.reduceLeDiff]
    (refine (sMax _ _ _).mono ?_; rintro _ _ ⟨rfl, rfl⟩; simp only [go_sem, Nat.reduceBEq, Nat.reduceAdd, Nat.reduceLeDiff])
    exact ownT_bump (n := max t.next (k.num + 1)) ht.symm (by rw [Tb.bump_next, kt]; rfl) m6
  | false =>
  have e0 := link_packed (k := k) ht
  have m2 : My h0 h ((.row 1 ((t.push k x).heads.flatMap idt), .slice a1 t.heads.length c1) :: (.row 8 (x.items.flatMap edt), .slice ax x.items.length cx) :: (.row 10 (t.slots.flatMap Sl.dt), .slice a2 t.slots.length c2) :: R) := by rw [push_heads0 ht]; exact m1
  have mz : My h0 h ((.row 8 (x.items.flatMap edt), .slice ax x.items.length cx) :: (.row 10 (t.slots.flatMap Sl.dt), .slice a2 t.slots.length c2) :: (.row 1 ((t.push k x).heads.flatMap idt), .slice a1 t.heads.length c1) :: R) := m2.third.third
  simp only [go_sem, Nat.reduceBEq, Nat.reduceAdd, Nat.reduceLeDiff]
  rw [← e0]
  refine hsem_my_lit (h0 := h0) (es := Sl.dt ⟨k, x, true, t.link k⟩) (parts := [(0, .agg #[.bool k.text, .int .i64 k.num, .string k.str, .int .i64 x.kind, .int .i64 x.num, .string x.str, .int .i64 x.next, .slice ax x.items.length cx, .bool true, .int .i64 (t.link k)])]) slT34 (by decide) (by decide) (by decide) rfl rfl (by simp [Value.cells])
    (bag := (.row 10 (t.slots.flatMap Sl.dt), .slice a2 t.slots.length c2) :: (.row 1 ((t.push k x).heads.flatMap idt), .slice a1 t.heads.length c1) :: R) ?_ rfl (Sl.dt_len _) fun l4 h4 m4 => ?_
  · simp only [flat, List.flatMap_cons, List.flatMap_nil, List.append_nil, cells_agg]
    exact slot_zip ⟨k, x, true, t.link k⟩ mz
  simp only [go_sem, Nat.reduceBEq]
  refine hsem_my_append slT34 (by decide) rfl t.slots.length 1 m4.swap (fm_len Sl.dt_len _) (Sl.dt_len _) (by show (t.slots.length + 1) * 112 ≤ _; omega) (by omega) fun l5 h5 m5 => ?_
  rw [fm_push] at m5
  obtain ⟨a6, c6, rfl, _⟩ := m5.row_shape (by decide) (t.push k x).slots.length (fm_len Sl.dt_len _)
  have m6 := m5.swap
  by_cases kt : k.text = true
  · simp only [push_wrap ch, kt, go_sem, Nat.reduceBEq, Nat.reduceAdd, Nat.reduceLeDiff]
    exact ownT_bump (n := t.next) ht.symm (by rw [Tb.bump_next, kt]; rfl) m6
  · have kt : k.text = false := by simpa using kt
    have wk : IntKind.i64.wrap (k.num + 1) = k.num + 1 := by
      have := keyOk_num ko
      rw [kt] at this
      simp at this
      exact IntWalk.i64_in _ (by omega)
    simp only [push_wrap ch, wk, kt, go_sem, Nat.reduceBEq, Nat.reduceAdd, Nat.reduceLeDiff]
    (refine (sMax _ _ _).mono ?_; rintro _ _ ⟨rfl, rfl⟩; simp only [go_sem, Nat.reduceBEq, Nat.reduceAdd, Nat.reduceLeDiff])
    exact ownT_bump (n := max t.next (k.num + 1)) ht.symm (by rw [Tb.bump_next, kt]; rfl) m6
theorem sRoom (t : Tb) (ch : t.ch) (hl : liveN t.slots < 1024) (s u : Value) (h : Hp) : ACalls Tryz.prog 116 #[.agg #[.bool t.hashed, s, u, .int .i64 t.next, .int .i64 t.count]] h (Pu (.int .i64 (roomN (liveN t.slots) : Nat)) h) := by
  have hc := ch.cnt
  rw [hc]
  generalize liveN t.slots = n at *
  (refine enter Tryz.func116 rfl rfl (by kernel_rfl) [] ?_; simp only [go_sem, Nat.reduceBEq])
  refine aloop (ι := Nat × Nat) (fun x => [(3, .val (.int .i64 (x.1 : Nat))), (1, .box 1 0)]) (fun _ => [(1, [.bool t.hashed, s, u, .int .i64 t.next, .int .i64 (n : Nat)])])
    (fun x h' => x.1 * 2 ^ x.2 = 32768 ∧ dbl n x.2 x.1 = roomN n ∧ h = h') (fun x => x.2) (8, 12) ⟨by decide, rfl, rfl⟩ (by repeat (first | exact wkF_e | refine wkF_c rfl ?_)) (wkB_c rfl wkB_e) rfl ?_
  rintro ⟨z, f⟩ _ ⟨hz, hd, rfl⟩
  have hz : z * 2 ^ f = 32768 := hz
  have hd : dbl n f z = roomN n := hd
  simp only [go_sem, Nat.reduceBEq]
  refine Br.intro (fun hb => ?_) (fun hb => ?_) <;> (try simp only [hb, go_sem, Nat.reduceBEq])
  · have hb : z ≤ n := by simpa using hb
    obtain ⟨g, rfl, e1, e2⟩ := dbl_step hb hz hl
    have w : IntKind.i64.wrap (2 * ((z : Nat) : Int)) = ((z * 2 : Nat) : Int) := by rw [IntWalk.i64_in _ (by omega)]; omega
    simp only [w, go_sem]
    exact Again.intro (z * 2, g) (by first | omega | (simp only; omega)) ⟨e1, by rw [← e2]; exact hd, rfl⟩ (by repeat (first | exact wkF_e | refine wkF_c rfl ?_)) (wkB_c rfl wkB_e) rfl
  · have hb : ¬ z ≤ n := by simpa using hb
    rw [dbl_end hb] at hd
    exact ⟨by rw [hd], rfl⟩
set_option maxHeartbeats 800000 in
theorem iRebuilt (t : Tb) (ch : t.ch) (hl : liveN t.slots < 1024) (hks : ∀ e ∈ t.slots, e.key.str.size ≤ 1152921504606846976) (a1 a2 : Option Addr) (c1 c2 : Nat) (h0 h : Hp) (R : Bag) (m : My h0 h ((.row 1 (t.heads.flatMap idt), .slice a1 t.heads.length c1) :: (.row 10 (t.slots.flatMap Sl.dt), .slice a2 t.slots.length c2) :: R)) : ACalls Tryz.prog 128 #[.agg #[.bool t.hashed, .slice a1 t.heads.length c1, .slice a2 t.slots.length c2, .int .i64 t.next, .int .i64 t.count]] h (OwnT h0 t.build R) := by
  have hls := ch.len
  have hc := ch.cnt
  have hr := roomN_spec hl
  (refine enter Tryz.func128 rfl rfl (by kernel_rfl) [4] ?_; simp only [go_sem, Nat.reduceBEq])
  refine aloop (ι := Nat × Nat) (fun x => [(3, .val (.int .i64 (x.1 : Nat))), (1, .box 1 0), (2, .box 2 0)]) (fun _ => [(1, [.bool t.hashed, .slice a1 t.heads.length c1, .slice a2 t.slots.length c2, .int .i64 t.next, .int .i64 t.count]), (2, [.bool false, .slice none 0 0, .slice none 0 0, .int .i64 0, .int .i64 0])])
    (fun x h' => x.1 * 2 ^ x.2 = 32768 ∧ dbl (liveN t.slots) x.2 x.1 = roomN (liveN t.slots) ∧ h = h') (fun x => x.2) (8, 12) ⟨by decide, rfl, rfl⟩ (by repeat (first | exact wkF_e | refine wkF_c rfl ?_)) (wkB_c rfl (wkB_c rfl wkB_e)) rfl ?_
  rintro ⟨z, f⟩ _ ⟨hz, hd, rfl⟩
  have hz : z * 2 ^ f = 32768 := hz
  have hd : dbl (liveN t.slots) f z = roomN (liveN t.slots) := hd
  simp only [go_sem, Nat.reduceBEq]
  refine Br.intro (fun hb => ?_) (fun hb => ?_) <;> (try simp only [hb, go_sem, Nat.reduceBEq])
  · have hb : z ≤ liveN t.slots := by have := of_decide_eq_true hb; omega
    obtain ⟨g, rfl, e1, e2⟩ := dbl_step hb hz hl
    have w : IntKind.i64.wrap (((z : Nat) : Int) * 2) = ((z * 2 : Nat) : Int) := by rw [IntWalk.i64_in _ (by omega)]; omega
    simp only [w, go_sem]
    exact Again.intro (z * 2, g) (by first | omega | (simp only; omega)) ⟨e1, by rw [← e2]; exact hd, rfl⟩ (by repeat (first | exact wkF_e | refine wkF_c rfl ?_)) (wkB_c rfl (wkB_c rfl wkB_e)) rfl
  have hb : ¬ z ≤ liveN t.slots := by have := of_decide_eq_false hb; omega
  rw [dbl_end hb] at hd
  subst hd
  refine regionP_intro (lb := [16]) (hm' := []) 4 (by kernel_rfl) ?_
  simp only [go_sem, Nat.reduceBEq]
  refine (noHeads_c (roomN (liveN t.slots)) (by omega) _).mono ?_
  rintro _ h3 ⟨a3, c3, rfl, m3⟩
  simp only [go_sem, Nat.reduceBEq, Nat.reduceAdd, Nat.reduceLeDiff]
  refine prom_intro rfl fun b0 T hb0 => ?_
  simp only [proF_e, proF_v, proF_b, delb_e, delb_c, cond_true, cond_false, go_sem, Nat.reduceBEq]
  have m4 := m.add m3
  have m5 : My h0 (hset h3 b0 (.cells #[.bool true, .slice a3 (roomN (liveN t.slots)) c3, .slice none 0 0, .int .i64 t.next, .int .i64 0] T (0, 0))) ((.ptr [] (t.fresh.pushAll (t.slots.take 0)).dt [], .pointer (some ⟨b0, 0, none⟩)) :: (.row 10 ([] ++ (t.slots.drop 0).flatMap Sl.dt), .slice a2 t.slots.length c2) :: (.row 1 (t.heads.flatMap idt), .slice a1 t.heads.length c1) :: R) := by
    have := my_var (h0 := h0) (e := T) (es := t.fresh.dt) (us := [.bool true, .slice a3 (roomN (liveN t.slots)) c3, .slice none 0 0, .int .i64 t.next, .int .i64 0]) (tab_zip t.fresh (y := .slice none 0 0) (m4.nilrow (a := none)).swap) hb0 rfl
    exact this.swap.third.third
  refine aloop (ι := Nat × List Dt) (fun x => [(21, .val (.int .i64 (x.1 : Nat))), (20, .val (.int .i64 (t.slots.length : Nat))), (19, .val (.slice a2 t.slots.length c2)), (4, .val (.pointer (some ⟨b0, 0, none⟩))), (2, .box 2 0)]) (fun _ => [(2, [.bool false, .slice none 0 0, .slice none 0 0, .int .i64 0, .int .i64 0])])
    (fun x h' => x.1 ≤ t.slots.length ∧ x.2.length = x.1 * 10 ∧ My h0 h' ((.ptr [] (t.fresh.pushAll (t.slots.take x.1)).dt [], .pointer (some ⟨b0, 0, none⟩)) :: (.row 10 (x.2 ++ (t.slots.drop x.1).flatMap Sl.dt), .slice a2 t.slots.length c2) :: (.row 1 (t.heads.flatMap idt), .slice a1 t.heads.length c1) :: R)) (fun x => t.slots.length - x.1) (0, [])
    ⟨Nat.zero_le _, rfl, m5⟩ (by repeat (first | exact wkF_e | refine wkF_c rfl ?_)) (wkB_c rfl wkB_e) rfl ?_
  rintro ⟨i, A⟩ h6 ⟨hi, hA, m6⟩
  have hi : i ≤ t.slots.length := hi
  have hA : A.length = i * 10 := hA
  have m6 : My h0 h6 ((.ptr [] (t.fresh.pushAll (t.slots.take i)).dt [], .pointer (some ⟨b0, 0, none⟩)) :: (.row 10 (A ++ (t.slots.drop i).flatMap Sl.dt), .slice a2 t.slots.length c2) :: (.row 1 (t.heads.flatMap idt), .slice a1 t.heads.length c1) :: R) := m6
  have way := Tb.onWay.all ch hl i hi
  simp only [go_sem, Nat.reduceBEq]
  refine Br.intro (fun hb => ?_) (fun hb => ?_) <;> (try simp only [hb, go_sem, Nat.reduceBEq])
  · have hb : i < t.slots.length := by simpa using hb
    obtain ⟨e, he, _⟩ := get_lt hb
    have wsu := wrap_succ (i := i) (by omega)
    have hke := ch.keys i e he
    have hpa := Tb.pushAll_snoc (o := t.fresh) he
    rw [drop_cons he, List.flatMap_cons] at m6
    obtain ⟨ae, ne, m7⟩ := slot_open m6.swap
    obtain ⟨_, _, es, _, _, hat⟩ := m7.swap.row_shape (by decide) t.slots.length (by rw [List.length_append, List.length_append, srw_len, hA, fm_len Sl.dt_len, List.length_drop]; omega)
    cases es
    obtain ⟨b2, rfl⟩ := hat (by omega)
    simp only [ix_nat hb, go_sem, Nat.reduceBEq]
    refine hsem_srw tyS134 m7.swap (by omega) (by omega) ?_
    unfold slC
    cases hv : e.live with
    | true =>
      rw [hv, if_pos rfl] at hpa
      simp only [go_sem, Nat.reduceBEq, Nat.reduceAdd, Nat.reduceLeDiff]
      refine (iAddSlot Hold.ptr _ way.ch e.key (by have := hks e (List.mem_of_getElem? he); omega) e.val _ _ h0 _ _ m7.swap.third.third).mono ?_
      rintro _ h8 ⟨rfl, m8⟩
      rw [← hpa] at m8
      simp only [wsu, go_sem, Nat.reduceBEq]
      refine Again.intro (i + 1, A ++ srw e (.slice ae e.val.items.length ne)) (by first | omega | (simp only; omega)) ⟨hb, ?_, ?_⟩ (by repeat (first | exact wkF_e | refine wkF_c rfl ?_)) (wkB_c rfl wkB_e) rfl
      · simp only [List.length_append, srw_len, hA]
        omega
      · simp only [List.append_assoc]
        exact m8
    | false =>
      rw [hv, if_neg (by simp)] at hpa
      simp only [wsu, go_sem, Nat.reduceBEq, Nat.reduceAdd, Nat.reduceLeDiff]
      refine Again.intro (i + 1, A ++ srw e (.slice ae e.val.items.length ne)) (by first | omega | (simp only; omega)) ⟨hb, ?_, ?_⟩ (by repeat (first | exact wkF_e | refine wkF_c rfl ?_)) (wkB_c rfl wkB_e) rfl
      · simp only [List.length_append, srw_len, hA]
        omega
      · simp only [List.append_assoc]
        rw [hpa]
        exact m7.drop.swap
  · have hb : i = t.slots.length := by simp at hb; omega
    subst hb
    rw [List.take_length] at m6
    obtain ⟨a7, c7, a8, c8, m7⟩ := tb_open (t := t.build) Hold.ptr m6
    try simp only [go_sem, Nat.reduceBEq, Nat.reduceAdd, Nat.reduceLeDiff, Nat.reduceEqDiff, Int.reduceEq, not_false_eq_true, Int.reduceToNat]
    refine tb_ldraw (tb := t.build) Hold.ptr tyS36 m7.third rfl ?_
    try simp only [go_sem, Nat.reduceBEq, Nat.reduceAdd, Nat.reduceLeDiff]
    exact ⟨a7, c7, a8, c8, rfl, m7.third.drop.third.drop.third.drop⟩
end Go.Proofs.YtedfplodobpgfaaGreatDoor
namespace Go.Proofs.YtedfplodobpgfaaGreatDoor
set_option maxRecDepth 8000
open Go Go.Sx
set_option maxHeartbeats 800000 in
theorem sBuild (t : Tb) (ch : t.ch) (hl : liveN t.slots < 1024) (hks : ∀ e ∈ t.slots, e.key.str.size ≤ 1152921504606846976) (a1 a2 : Option Addr) (c1 c2 : Nat) (h0 h : Hp) (R : Bag) (m : My h0 h ((.row 1 (t.heads.flatMap idt), .slice a1 t.heads.length c1) :: (.row 10 (t.slots.flatMap Sl.dt), .slice a2 t.slots.length c2) :: R)) : ACalls Tryz.prog 115 #[.agg #[.bool t.hashed, .slice a1 t.heads.length c1, .slice a2 t.slots.length c2, .int .i64 t.next, .int .i64 t.count], .int .i64 (roomN (liveN t.slots) : Nat)] h (OwnT h0 t.build R) := by
  have hls := ch.len
  have hc := ch.cnt
  have hr := roomN_spec hl
  (refine enter Tryz.func115 rfl rfl (by kernel_rfl) [] ?_; simp only [go_sem, Nat.reduceBEq, Nat.reduceAdd, Nat.reduceLeDiff])
  refine aloop (ι := Nat × Value) (fun x => [(6, .val (.int .i64 (x.1 : Nat))), (1, .val (.int .i64 (roomN (liveN t.slots) : Nat))), (2, .box 2 0), (5, .box 5 0), (4, .box 4 0)])
    (fun x => [(2, [.bool t.hashed, .slice a1 t.heads.length c1, .slice a2 t.slots.length c2, .int .i64 t.next, .int .i64 t.count]), (5, [.bool true, x.2, .slice none 0 0, .int .i64 t.next, .int .i64 0]), (4, [.bool false, .slice none 0 0, .slice none 0 0, .int .i64 0, .int .i64 0])])
    (fun x h' => x.1 ≤ roomN (liveN t.slots) ∧ My h0 h' ((.row 1 ((List.replicate x.1 (-1)).flatMap idt), x.2) :: (.row 1 (t.heads.flatMap idt), .slice a1 t.heads.length c1) :: (.row 10 (t.slots.flatMap Sl.dt), .slice a2 t.slots.length c2) :: R)) (fun x => roomN (liveN t.slots) - x.1) (0, .slice none 0 0)
    ⟨Nat.zero_le _, m.nilrow⟩ (by repeat (first | exact wkF_e | refine wkF_c rfl ?_)) (wkB_c rfl (wkB_c rfl (wkB_c rfl wkB_e))) rfl ?_
  rintro ⟨n, sh⟩ h1 ⟨hn, m1⟩
  have hn : n ≤ roomN (liveN t.slots) := hn
  have m1 : My h0 h1 ((.row 1 ((List.replicate n (-1)).flatMap idt), sh) :: (.row 1 (t.heads.flatMap idt), .slice a1 t.heads.length c1) :: (.row 10 (t.slots.flatMap Sl.dt), .slice a2 t.slots.length c2) :: R) := m1
  have hrl : ((List.replicate n (-1 : Int)).flatMap idt).length = n * 1 := by rw [fm_len idt_len, List.length_replicate]
  obtain ⟨a3, c3, rfl, _⟩ := m1.row_shape (by decide) n hrl
  simp only [go_sem, Nat.reduceBEq]
  refine Br.intro (fun hb => ?_) (fun hb => ?_) <;> (try simp only [hb, go_sem, Nat.reduceBEq])
  · have hb : n < roomN (liveN t.slots) := by simpa using hb
    have wsu := wrap_succ (i := n) (by omega)
    refine hsem_my_lit (h0 := h0) (es := idt (-1)) (parts := [(0, .int .i64 (-1))]) slT22 (by decide) (by decide) (by decide) rfl rfl (by simp [Value.cells]) (bag := (.row 1 ((List.replicate n (-1)).flatMap idt), .slice a3 n c3) :: (.row 1 (t.heads.flatMap idt), .slice a1 t.heads.length c1) :: (.row 10 (t.slots.flatMap Sl.dt), .slice a2 t.slots.length c2) :: R) (m1.raw (u := .int .i64 (-1)) rfl) rfl rfl fun l4 h4 m4 => ?_
    simp only [go_sem, Nat.reduceBEq]
    refine hsem_my_append slT22 (by decide) rfl n 1 m4.swap hrl rfl (by show (n + 1) * 8 ≤ _; omega) (by omega) fun l5 h5 m5 => ?_
    have e5 : (List.replicate n (-1 : Int)).flatMap idt ++ idt (-1) = (List.replicate (n + 1) (-1 : Int)).flatMap idt := by rw [List.replicate_succ', List.flatMap_append, List.flatMap_cons, List.flatMap_nil, List.append_nil]
    rw [e5] at m5
    obtain ⟨a6, c6, rfl, _⟩ := m5.row_shape (by decide) (n + 1) (by rw [fm_len idt_len, List.length_replicate])
    simp only [wsu, go_sem, Nat.reduceBEq, Nat.reduceAdd, Nat.reduceLeDiff]
    exact Again.intro (n + 1, .slice a6 (n + 1) c6) (by first | omega | (simp only; omega)) ⟨hb, m5⟩ (by repeat (first | exact wkF_e | refine wkF_c rfl ?_)) (wkB_c rfl (wkB_c rfl (wkB_c rfl wkB_e))) rfl
  have hb : n = roomN (liveN t.slots) := by simp at hb; omega
  subst hb
  have ef : t.fresh.heads.length = roomN (liveN t.slots) := by
    show (List.replicate (roomN (liveN t.slots)) (-1 : Int)).length = _
    rw [List.length_replicate]
  refine aloop (ι := Nat × List Dt × (Option Addr × Nat) × (Option Addr × Nat)) (fun x => [(7, .val (.int .i64 (x.1 : Nat))), (2, .box 2 0), (5, .box 5 0), (4, .box 4 0)])
    (fun x => [(2, [.bool t.hashed, .slice a1 t.heads.length c1, .slice a2 t.slots.length c2, .int .i64 t.next, .int .i64 t.count]), (5, [.bool (t.fresh.pushAll (t.slots.take x.1)).hashed, .slice x.2.2.1.1 (t.fresh.pushAll (t.slots.take x.1)).heads.length x.2.2.1.2, .slice x.2.2.2.1 (t.fresh.pushAll (t.slots.take x.1)).slots.length x.2.2.2.2, .int .i64 (t.fresh.pushAll (t.slots.take x.1)).next, .int .i64 (t.fresh.pushAll (t.slots.take x.1)).count]), (4, [.bool false, .slice none 0 0, .slice none 0 0, .int .i64 0, .int .i64 0])])
    (fun x h' => x.1 ≤ t.slots.length ∧ x.2.1.length = x.1 * 10 ∧ My h0 h' ((.row 1 ((t.fresh.pushAll (t.slots.take x.1)).heads.flatMap idt), .slice x.2.2.1.1 (t.fresh.pushAll (t.slots.take x.1)).heads.length x.2.2.1.2) :: (.row 10 ((t.fresh.pushAll (t.slots.take x.1)).slots.flatMap Sl.dt), .slice x.2.2.2.1 (t.fresh.pushAll (t.slots.take x.1)).slots.length x.2.2.2.2) :: (.row 10 (x.2.1 ++ (t.slots.drop x.1).flatMap Sl.dt), .slice a2 t.slots.length c2) :: (.row 1 (t.heads.flatMap idt), .slice a1 t.heads.length c1) :: R)) (fun x => t.slots.length - x.1) (0, [], (a3, c3), (none, 0))
    ⟨Nat.zero_le _, rfl, by
      show My h0 h1 ((.row 1 (t.fresh.heads.flatMap idt), .slice a3 t.fresh.heads.length c3) :: _)
      rw [ef]
      exact ((m1.nilrow (a := none)).swap.perm ((List.Perm.swap _ _ _).cons _ |>.cons _))⟩ (by repeat (first | exact wkF_e | refine wkF_c rfl ?_)) (by
      show wkB _ [(2, _), (5, [.bool true, .slice a3 t.fresh.heads.length c3, .slice none 0 0, .int .i64 t.next, .int .i64 0]), (4, _)]
      rw [ef]
      exact wkB_c rfl (wkB_c rfl (wkB_c rfl wkB_e))) rfl ?_
  rintro ⟨i, A, ⟨a5, c5⟩, ⟨a6, c6⟩⟩ h6 ⟨hi, hA, m6⟩
  have hi : i ≤ t.slots.length := hi
  have hA : A.length = i * 10 := hA
  have m6 : My h0 h6 ((.row 1 ((t.fresh.pushAll (t.slots.take i)).heads.flatMap idt), .slice a5 (t.fresh.pushAll (t.slots.take i)).heads.length c5) :: (.row 10 ((t.fresh.pushAll (t.slots.take i)).slots.flatMap Sl.dt), .slice a6 (t.fresh.pushAll (t.slots.take i)).slots.length c6) :: (.row 10 (A ++ (t.slots.drop i).flatMap Sl.dt), .slice a2 t.slots.length c2) :: (.row 1 (t.heads.flatMap idt), .slice a1 t.heads.length c1) :: R) := m6
  have way := Tb.onWay.all ch hl i hi
  simp only [go_sem, Nat.reduceBEq]
  refine Br.intro (fun hb => ?_) (fun hb => ?_) <;> (try simp only [hb, go_sem, Nat.reduceBEq, Nat.reduceAdd, Nat.reduceLeDiff])
  · have hb : i < t.slots.length := by simpa using hb
    obtain ⟨e, he, _⟩ := get_lt hb
    have wsu := wrap_succ (i := i) (by omega)
    have hke := ch.keys i e he
    have hpa := Tb.pushAll_snoc (o := t.fresh) he
    rw [drop_cons he, List.flatMap_cons] at m6
    obtain ⟨ae, ne, m7⟩ := slot_open m6.third
    obtain ⟨_, _, es, _, _, hat⟩ := m7.swap.row_shape (by decide) t.slots.length (by rw [List.length_append, List.length_append, srw_len, hA, fm_len Sl.dt_len, List.length_drop]; omega)
    cases es
    obtain ⟨b2, rfl⟩ := hat (by omega)
    simp only [ix_nat hb, go_sem, Nat.reduceBEq, Nat.reduceAdd]
    refine hsem_srwL tyS4 m7.swap (by omega) (by omega) ?_
    cases hv : e.live with
    | true =>
      rw [hv, if_pos rfl] at hpa
      have hbs : (((t.fresh.pushAll (t.slots.take i)).push e.key e.val).bump e.key) = t.fresh.pushAll (t.slots.take (i + 1)) := by
        rw [Tb.bump_same (by show e.key.text = true ∨ e.key.num < (t.fresh.pushAll (t.slots.take i)).next; rw [way.next]; exact hke.2), ← hpa]
      simp only [go_sem, Nat.reduceBEq]
      refine regionD_intro (lb := [34, 36, 42]) (by kernel_rfl) ?_
      simp only [ix_nat hb, go_sem, Nat.reduceBEq, Nat.reduceAdd, Nat.reduceLeDiff]
      refine hsem_srwK tyS40 m7.swap (by omega) (by omega) ?_
      simp only [ix_nat hb, go_sem, Nat.reduceBEq, Nat.reduceAdd]
      refine hsem_srwV tyS44 m7.swap (by omega) (by omega) ?_
      simp only [go_sem, Nat.reduceBEq]
      refine (sPush (t.fresh.pushAll (t.slots.take i)) way.ch e.key (by have := hks e (List.mem_of_getElem? he); omega) hke.1 e.val _ _ _ _ _ _ h0 _ _ m7.fourth.fourth.third).mono ?_
      rintro _ h8 ⟨a7, c7, a8, c8, rfl, m8⟩
      rw [hbs] at m8 ⊢
      simp only [wsu, go_sem, Nat.reduceBEq, Nat.reduceAdd, Nat.reduceLeDiff]
      refine Again.intro (i + 1, A ++ srw e (.slice ae e.val.items.length ne), (a7, c7), (a8, c8)) (by first | omega | (simp only; omega)) ⟨hb, ?_, ?_⟩ (by repeat (first | exact wkF_e | refine wkF_c rfl ?_)) (wkB_c rfl (wkB_c rfl (wkB_c rfl wkB_e))) rfl
      · simp only [List.length_append, srw_len, hA]
        omega
      · simp only [List.append_assoc]
        exact m8
    | false =>
      rw [hv, if_neg (by simp)] at hpa
      simp only [wsu, go_sem, Nat.reduceBEq]
      refine Again.intro (i + 1, A ++ srw e (.slice ae e.val.items.length ne), (a5, c5), (a6, c6)) (by first | omega | (simp only; omega)) ⟨hb, ?_, ?_⟩ (by repeat (first | exact wkF_e | refine wkF_c rfl ?_)) (by simp only [hpa]; exact wkB_c rfl (wkB_c rfl (wkB_c rfl wkB_e))) rfl
      · simp only [List.length_append, srw_len, hA]
        omega
      · simp only [List.append_assoc]
        rw [hpa]
        exact m7.drop.third.third
  · have hb : i = t.slots.length := by simp at hb; omega
    subst hb
    rw [List.take_length] at m6
    simp only [List.take_length, go_sem]
    try simp only [go_sem, Nat.reduceBEq, Nat.reduceAdd, Nat.reduceLeDiff, Nat.reduceEqDiff, Int.reduceEq, not_false_eq_true, Int.reduceToNat]
    exact ⟨a5, c5, a6, c6, rfl, m6.third.drop.third.drop⟩
theorem keyOk_size {k : Ky} (h : keyOk k = true) : k.str.size ≤ 400 := by
  unfold keyOk at h
  cases ht : k.text with
  | true => rw [ht] at h; simp at h; omega
  | false => rw [ht] at h; simp at h; rw [h.1]; exact Nat.zero_le _
theorem ch_ks {t : Tb} (ch : t.ch) : ∀ e ∈ t.slots, e.key.str.size ≤ 1152921504606846976 := fun e he => by
  obtain ⟨i, hi, rfl⟩ := List.mem_iff_getElem.1 he
  have := keyOk_size (ch.keys i _ (List.getElem?_eq_getElem hi)).1
  omega
theorem ownT_set {h0 h' : Hp} {t : Tb} {i : Nat} {s : Sl} {x : V} {R : Bag} {a1 a2 : Option Addr} {c1 c2 : Nat} (hs : t.slots[i]? = some s) (m : My h0 h' ((.row 1 (t.heads.flatMap idt), .slice a1 t.heads.length c1) :: (.row 10 ((t.slots.take i ++ ⟨s.key, x, s.live, s.link⟩ :: t.slots.drop (i + 1)).flatMap Sl.dt), .slice a2 t.slots.length c2) :: R)) :
    OwnT h0 (t.setVal i x) R (.agg #[.bool t.hashed, .slice a1 t.heads.length c1, .slice a2 t.slots.length c2, .int .i64 t.next, .int .i64 t.count]) h' := by
  rw [Tb.setVal_eq hs]
  refine ⟨a1, c1, a2, c2, ?_, ?_⟩
  · show _ = Value.agg #[.bool t.hashed, .slice a1 t.heads.length c1, .slice a2 (t.slots.take i ++ ⟨s.key, x, s.live, s.link⟩ :: t.slots.drop (i + 1)).length c2, .int .i64 t.next, .int .i64 t.count]
    rw [set_len hs]
  · show My h0 h' ((.row 1 (t.heads.flatMap idt), .slice a1 t.heads.length c1) :: (.row 10 _, .slice a2 (t.slots.take i ++ ⟨s.key, x, s.live, s.link⟩ :: t.slots.drop (i + 1)).length c2) :: R)
    rw [set_len hs]
    exact m
theorem put_some {t : Tb} {k : Ky} {x : V} {i : Nat} (h : t.find k = some i) : t.put k x = t.setVal i x := by unfold Tb.put; rw [h]
theorem put_none {t : Tb} {k : Ky} {x : V} (h : t.find k = none) : t.put k x = (((t.hashIf k).growIf).push k x).bump k := by unfold Tb.put; rw [h]
theorem hashIf_yes {t : Tb} {k : Ky} (h : t.hashed = false) (h2 : ¬ k = ⟨false, (t.slots.length : Nat), ⟨#[]⟩⟩ ∨ t.slots.length = 1024) : t.hashIf k = t.build := if_pos ⟨h, h2⟩
theorem hashIf_no {t : Tb} {k : Ky} (h : t.hashed = true ∨ (k = ⟨false, (t.slots.length : Nat), ⟨#[]⟩⟩ ∧ ¬ t.slots.length = 1024)) : t.hashIf k = t := by
  refine if_neg fun q => ?_
  rcases h with h | h
  · rw [h] at q; exact absurd q.1 (by simp)
  · exact q.2.elim (fun n => n h.1) h.2
theorem growIf_yes {t : Tb} (h : t.hashed = true) (h2 : t.slots.length = t.heads.length) : t.growIf = t.build := if_pos ⟨h, h2⟩
theorem growIf_no {t : Tb} (h : ¬ (t.hashed = true ∧ t.slots.length = t.heads.length)) : t.growIf = t := if_neg h
theorem build_grow {t : Tb} (ch : t.ch) (hl : liveN t.slots < 1024) : t.build.growIf = t.build := by
  have w := ch.build hl
  have hr := roomN_spec hl
  have h2 := w.len
  rw [List.take_length] at h2
  have h3 := w.size
  exact growIf_no fun q => by omega
theorem build_hashed {t : Tb} (ch : t.ch) (hl : liveN t.slots < 1024) : t.build.hashed = true := (ch.build hl).hashed
theorem build_ne {t : Tb} (ch : t.ch) (hl : liveN t.slots < 1024) : ¬ t.build.slots.length = t.build.heads.length := by
  have w := ch.build hl
  have hr := roomN_spec hl
  have h2 := w.len
  rw [List.take_length] at h2
  have h3 := w.size
  omega
theorem bump_dt_text {t : Tb} {k : Ky} (h : k.text = true) : (t.bump k).dt = t.dt := by unfold Tb.bump; rw [h]; rfl
theorem bump_dt {t : Tb} {k : Ky} (h : k.text = false) : (t.bump k).dt = [.raw (.bool t.hashed), .row 1 (t.heads.flatMap idt), .row 10 (t.slots.flatMap Sl.dt), .raw (.int .i64 (max t.next (k.num + 1))), .raw (.int .i64 t.count)] := by unfold Tb.bump; rw [h]; rfl
theorem dec_len {a b : Nat} : decide (((a : Nat) : Int) = ((b : Nat) : Int)) = decide (a = b) := decide_eq_decide.2 (by omega)
set_option maxHeartbeats 1600000 in
theorem iPut (t : Tb) (ch : t.ch) (k : Ky) (ko : keyOk k = true) (x : V) (hl : t.find k = none → liveN t.slots < 1024) (ax a1 a2 : Option Addr) (cx c1 c2 : Nat) (h0 h : Hp) (R : Bag) (m : My h0 h ((.row 8 (x.items.flatMap edt), .slice ax x.items.length cx) :: (.row 1 (t.heads.flatMap idt), .slice a1 t.heads.length c1) :: (.row 10 (t.slots.flatMap Sl.dt), .slice a2 t.slots.length c2) :: R)) :
    ACalls Tryz.prog 64 #[.agg #[.bool t.hashed, .slice a1 t.heads.length c1, .slice a2 t.slots.length c2, .int .i64 t.next, .int .i64 t.count], .agg #[.bool k.text, .int .i64 k.num, .string k.str], .agg #[.int .i64 x.kind, .int .i64 x.num, .string x.str, .int .i64 x.next, .slice ax x.items.length cx]] h (OwnT h0 (t.put k x) R) := by
  have hls := ch.len
  have hk : k.str.size ≤ 1152921504606846976 := by have := keyOk_size ko; omega
  (refine enter Tryz.func64 rfl rfl (by kernel_rfl) [3] ?_; simp only [go_sem, Nat.reduceBEq])
  refine hsem_my_box (h0 := h0) (es := t.dt) (tab_zip t m.third.third) rfl fun b0 h1 m1 => ?_
  simp only [go_sem, Nat.reduceBEq]
  refine tb_load Hold.ptr tyS36 m1 rfl fun s u r1 r2 => ?_
  simp only [go_sem, Nat.reduceBEq, Nat.reduceAdd, Nat.reduceLeDiff]
  (refine (iFind t k ch hk _ _ _ r1 r2).mono ?_; rintro _ _ ⟨rfl, rfl⟩; simp only [go_sem, Nat.reduceBEq])
  obtain ⟨a3, c3, a4, c4, m2⟩ := tb_open Hold.ptr m1
  cases hf : t.find k with
  | some i =>
    obtain ⟨s, hs, _⟩ := Tb.find_live hf
    have hlt := (List.getElem?_eq_some_iff.1 hs).1
    rw [put_some hf]
    simp only [ixI_some, go_sem]
    refine Br.intro (fun hz => ?_) (fun hz => ?_) <;> (try simp only [hz, go_sem, Nat.reduceBEq, Nat.reduceAdd])
    case refine_2 => exact absurd (of_decide_eq_false hz) (by omega)
    obtain ⟨_, _, e5, _, _, hat⟩ := m2.swap.row_shape (by decide) t.slots.length (fm_len Sl.dt_len _)
    cases e5
    obtain ⟨b2, rfl⟩ := hat (by omega)
    refine Hold.ld1 (i := 2) Hold.ptr tyS34 m2.third rfl rfl ?_
    simp only [ix_nat hlt, go_sem, Nat.reduceBEq, Nat.reduceAdd, Nat.reduceLeDiff]
    obtain ⟨c6, hd6, hc6⟩ := hold_sval (b := b2) (cap := c4) hs
    have m3 : My h0 h1 ((.row 8 (x.items.flatMap edt), .slice ax x.items.length cx) :: (c6 s.val.dt, .slice (some ⟨b2, 0, none⟩) t.slots.length c4) :: (.ptr [] (traws t (.slice a3 t.heads.length c3) (.slice (some ⟨b2, 0, none⟩) t.slots.length c4)) [], .pointer (some ⟨b0, 0, none⟩)) :: (.row 1 (t.heads.flatMap idt), .slice a3 t.heads.length c3) :: R) := by
      rw [hc6, slot_self hs]
      exact m2.fourth.fourth.fourth.third
    refine var_store hd6 (w := x) (V.dt_len _) m3 (by omega) fun h3 m4 => ?_
    rw [hc6] at m4
    simp only [go_sem, Nat.reduceBEq]
    refine tb_ldraw (tb := t) Hold.ptr tyS36 m4.swap rfl ?_
    try simp only [go_sem, Nat.reduceBEq, Nat.reduceAdd, Nat.reduceLeDiff]
    exact ownT_set hs m4.swap.drop.swap
  | none =>
  have hlv := hl hf
  have hb := ch.build hlv
  rw [put_none hf]
  simp only [ixI_none, go_sem]
  refine Br.intro (fun hz => ?_) (fun hz => ?_) <;> (try simp only [hz, go_sem, Nat.reduceBEq, Nat.reduceAdd])
  case refine_1 => exact absurd (of_decide_eq_true hz) (by decide)
  refine regionD_intro (lb := [24]) (by kernel_rfl) ?_
  simp only [go_sem, Nat.reduceBEq]
  refine Hold.ld1 (i := 0) Hold.ptr tyS4 m2.third rfl rfl ?_
  by_cases ht : t.hashed = true
  · rw [hashIf_no (.inl ht)]
    simp only [ht, go_sem, Nat.reduceBEq]
    refine Hold.ld1 (i := 0) Hold.ptr tyS4 m2.third rfl rfl ?_
    simp only [ht, go_sem, Nat.reduceBEq, Nat.reduceAdd]
    refine Hold.ld1 (i := 2) Hold.ptr tyS34 m2.third rfl rfl ?_
    simp only [go_sem, Nat.reduceBEq]
    refine Hold.ld1 (i := 1) Hold.ptr tyS22 m2.third rfl rfl ?_
    simp only [dec_len, go_sem, Nat.reduceBEq]
    by_cases hg : t.slots.length = t.heads.length
    · rw [growIf_yes ht hg]
      simp only [decide_eq_true hg, go_sem, Nat.reduceBEq]
      try simp only [go_sem, Nat.reduceBEq, Nat.reduceAdd, Nat.reduceLeDiff, Nat.reduceEqDiff, Int.reduceEq, not_false_eq_true, Int.reduceToNat]
      refine tb_ldraw (tb := t) Hold.ptr tyS36 m2.third rfl ?_
      simp only [go_sem, Nat.reduceBEq]
      refine (iRebuilt t ch hlv (ch_ks ch) _ _ _ _ h0 _ _ m2).mono ?_
      rintro _ h5 ⟨a5, c5, a6, c6, rfl, m5⟩
      simp only [go_sem, Nat.reduceBEq]
      refine tb_store (tb := t.build) Hold.ptr tyS36 (traws_len _ _ _) m5 rfl fun h6 m6 => ?_
      have m7 := m6.swap
      try simp only [go_sem, Nat.reduceBEq, Nat.reduceAdd, Nat.reduceLeDiff]
      refine (iAddSlot Hold.ptr t.build hb.ch k hk x _ _ h0 _ _ m7).mono ?_
      rintro _ h8 ⟨rfl, m8⟩
      by_cases kt : k.text = true
      · simp only [kt, go_sem, Nat.reduceBEq]
        rw [← bump_dt_text kt] at m8
        obtain ⟨a7, c7, a8, c8, m9⟩ := tb_open (t := (t.build.push k x).bump k) Hold.ptr m8
        refine tb_ldraw (tb := (t.build.push k x).bump k) Hold.ptr tyS36 m9.third rfl ?_
        try simp only [go_sem, Nat.reduceBEq, Nat.reduceAdd, Nat.reduceLeDiff]
        exact ⟨a7, c7, a8, c8, rfl, m9.third.drop⟩
      · have kt : k.text = false := by simpa using kt
        have wk : IntKind.i64.wrap (k.num + 1) = k.num + 1 := by
          have := keyOk_num ko
          rw [kt] at this
          simp at this
          exact IntWalk.i64_in _ (by omega)
        simp only [kt, go_sem, Nat.reduceBEq, Nat.reduceAdd]
        refine Hold.ld1 (i := 3) Hold.ptr tyS3 m8 rfl rfl ?_
        simp only [wk, go_sem, Nat.reduceBEq]
        (refine (iMax _ _ _).mono ?_; rintro _ _ ⟨rfl, rfl⟩; simp only [go_sem, Nat.reduceBEq, Nat.reduceAdd])
        refine Hold.setC (d := .raw (.int .i64 (t.build.push k x).next)) Hold.ptr [.raw (.bool (t.build.push k x).hashed), .row 1 ((t.build.push k x).heads.flatMap idt), .row 10 ((t.build.push k x).slots.flatMap Sl.dt)] [.raw (.int .i64 (t.build.push k x).count)] tyS3 rfl rfl m8 rfl fun h9 m9 => ?_
        have m9 : My h0 h9 ((.ptr [] ((t.build.push k x).bump k).dt [], .pointer (some ⟨b0, 0, none⟩)) :: R) := by rw [bump_dt kt]; exact m9
        obtain ⟨a7, c7, a8, c8, m10⟩ := tb_open (t := (t.build.push k x).bump k) Hold.ptr m9
        simp only [go_sem, Nat.reduceBEq]
        refine tb_ldraw (tb := (t.build.push k x).bump k) Hold.ptr tyS36 m10.third rfl ?_
        try simp only [go_sem, Nat.reduceBEq, Nat.reduceAdd, Nat.reduceLeDiff]
        exact ⟨a7, c7, a8, c8, rfl, m10.third.drop⟩
    · rw [growIf_no fun q => hg q.2]
      simp only [decide_eq_false hg, go_sem, Nat.reduceBEq, Nat.reduceAdd, Nat.reduceLeDiff]
      try simp only [go_sem, Nat.reduceBEq, Nat.reduceAdd, Nat.reduceLeDiff, Nat.reduceEqDiff, Int.reduceEq, not_false_eq_true, Int.reduceToNat]
      refine (iAddSlot Hold.ptr t ch k hk x _ _ h0 _ _ m1.swap).mono ?_
      rintro _ h8 ⟨rfl, m8⟩
      by_cases kt : k.text = true
      · simp only [kt, go_sem, Nat.reduceBEq]
        rw [← bump_dt_text kt] at m8
        obtain ⟨a7, c7, a8, c8, m9⟩ := tb_open (t := (t.push k x).bump k) Hold.ptr m8
        refine tb_ldraw (tb := (t.push k x).bump k) Hold.ptr tyS36 m9.third rfl ?_
        try simp only [go_sem, Nat.reduceBEq, Nat.reduceAdd, Nat.reduceLeDiff]
        exact ⟨a7, c7, a8, c8, rfl, m9.third.drop⟩
      · have kt : k.text = false := by simpa using kt
        have wk : IntKind.i64.wrap (k.num + 1) = k.num + 1 := by
          have := keyOk_num ko
          rw [kt] at this
          simp at this
          exact IntWalk.i64_in _ (by omega)
        simp only [kt, go_sem, Nat.reduceBEq, Nat.reduceAdd]
        refine Hold.ld1 (i := 3) Hold.ptr tyS3 m8 rfl rfl ?_
        simp only [wk, go_sem, Nat.reduceBEq]
        (refine (iMax _ _ _).mono ?_; rintro _ _ ⟨rfl, rfl⟩; simp only [go_sem, Nat.reduceBEq, Nat.reduceAdd])
        refine Hold.setC (d := .raw (.int .i64 (t.push k x).next)) Hold.ptr [.raw (.bool (t.push k x).hashed), .row 1 ((t.push k x).heads.flatMap idt), .row 10 ((t.push k x).slots.flatMap Sl.dt)] [.raw (.int .i64 (t.push k x).count)] tyS3 rfl rfl m8 rfl fun h9 m9 => ?_
        have m9 : My h0 h9 ((.ptr [] ((t.push k x).bump k).dt [], .pointer (some ⟨b0, 0, none⟩)) :: R) := by rw [bump_dt kt]; exact m9
        obtain ⟨a7, c7, a8, c8, m10⟩ := tb_open (t := (t.push k x).bump k) Hold.ptr m9
        simp only [go_sem, Nat.reduceBEq]
        refine tb_ldraw (tb := (t.push k x).bump k) Hold.ptr tyS36 m10.third rfl ?_
        try simp only [go_sem, Nat.reduceBEq, Nat.reduceAdd, Nat.reduceLeDiff]
        exact ⟨a7, c7, a8, c8, rfl, m10.third.drop⟩
  · have ht : t.hashed = false := by simpa using ht
    simp only [ht, go_sem, Nat.reduceBEq, Nat.reduceAdd, Nat.reduceLeDiff]
    refine Hold.ld1 (i := 2) Hold.ptr tyS34 m2.third rfl rfl ?_
    simp only [go_sem, Nat.reduceBEq]
    (refine (iIntKey _ _).mono ?_; rintro _ _ ⟨rfl, rfl⟩; simp only [go_sem, Nat.reduceBEq])
    have kd : decide (k.text = false ∧ k.num = ((t.slots.length : Nat) : Int) ∧ k.str = ⟨#[]⟩) = decide (k = ⟨false, (t.slots.length : Nat), ⟨#[]⟩⟩) := key_dec k ⟨false, (t.slots.length : Nat), ⟨#[]⟩⟩
    simp only [kd, go_sem]
    by_cases hq : k = ⟨false, (t.slots.length : Nat), ⟨#[]⟩⟩
    · simp only [decide_eq_true hq, Bool.not_true, go_sem, Nat.reduceBEq, Nat.reduceAdd]
      refine Hold.ld1 (i := 2) Hold.ptr tyS34 m2.third rfl rfl ?_
      simp only [go_sem, Nat.reduceBEq]
      by_cases hn : t.slots.length = 1024
      · rw [hashIf_yes ht (.inr hn), build_grow ch hlv]
        simp only [decide_eq_true (show (1024 : Int) ≤ ((t.slots.length : Nat) : Int) by omega), go_sem, Nat.reduceBEq]
        try simp only [go_sem, Nat.reduceBEq, Nat.reduceAdd, Nat.reduceLeDiff, Nat.reduceEqDiff, Int.reduceEq, not_false_eq_true, Int.reduceToNat]
        refine tb_ldraw (tb := t) Hold.ptr tyS36 m2.third rfl ?_
        simp only [go_sem, Nat.reduceBEq]
        refine (iRebuilt t ch hlv (ch_ks ch) _ _ _ _ h0 _ _ m2).mono ?_
        rintro _ h5 ⟨a5, c5, a6, c6, rfl, m5⟩
        simp only [go_sem, Nat.reduceBEq]
        refine tb_store (tb := t.build) Hold.ptr tyS36 (traws_len _ _ _) m5 rfl fun h6 m6 => ?_
        have m7 := m6.swap
        obtain ⟨a9, c9, a10, c10, m9⟩ := tb_open Hold.ptr m6
        simp only [go_sem, Nat.reduceBEq]
        refine Hold.ld1 (i := 0) Hold.ptr tyS4 m9.third rfl rfl ?_
        simp only [build_hashed ch hlv, go_sem, Nat.reduceBEq, Nat.reduceAdd]
        refine Hold.ld1 (i := 2) Hold.ptr tyS34 m9.third rfl rfl ?_
        simp only [go_sem, Nat.reduceBEq]
        refine Hold.ld1 (i := 1) Hold.ptr tyS22 m9.third rfl rfl ?_
        simp only [dec_len, decide_eq_false (build_ne ch hlv), go_sem, Nat.reduceBEq, Nat.reduceAdd, Nat.reduceLeDiff]
        try simp only [go_sem, Nat.reduceBEq, Nat.reduceAdd, Nat.reduceLeDiff, Nat.reduceEqDiff, Int.reduceEq, not_false_eq_true, Int.reduceToNat]
        refine (iAddSlot Hold.ptr t.build hb.ch k hk x _ _ h0 _ _ m7).mono ?_
        rintro _ h8 ⟨rfl, m8⟩
        by_cases kt : k.text = true
        · simp only [kt, go_sem, Nat.reduceBEq]
          rw [← bump_dt_text kt] at m8
          obtain ⟨a7, c7, a8, c8, m9⟩ := tb_open (t := (t.build.push k x).bump k) Hold.ptr m8
          refine tb_ldraw (tb := (t.build.push k x).bump k) Hold.ptr tyS36 m9.third rfl ?_
          try simp only [go_sem, Nat.reduceBEq, Nat.reduceAdd, Nat.reduceLeDiff]
          exact ⟨a7, c7, a8, c8, rfl, m9.third.drop⟩
        · have kt : k.text = false := by simpa using kt
          have wk : IntKind.i64.wrap (k.num + 1) = k.num + 1 := by
            have := keyOk_num ko
            rw [kt] at this
            simp at this
            exact IntWalk.i64_in _ (by omega)
          simp only [kt, go_sem, Nat.reduceBEq, Nat.reduceAdd]
          refine Hold.ld1 (i := 3) Hold.ptr tyS3 m8 rfl rfl ?_
          simp only [wk, go_sem, Nat.reduceBEq]
          (refine (iMax _ _ _).mono ?_; rintro _ _ ⟨rfl, rfl⟩; simp only [go_sem, Nat.reduceBEq, Nat.reduceAdd])
          refine Hold.setC (d := .raw (.int .i64 (t.build.push k x).next)) Hold.ptr [.raw (.bool (t.build.push k x).hashed), .row 1 ((t.build.push k x).heads.flatMap idt), .row 10 ((t.build.push k x).slots.flatMap Sl.dt)] [.raw (.int .i64 (t.build.push k x).count)] tyS3 rfl rfl m8 rfl fun h9 m9 => ?_
          have m9 : My h0 h9 ((.ptr [] ((t.build.push k x).bump k).dt [], .pointer (some ⟨b0, 0, none⟩)) :: R) := by rw [bump_dt kt]; exact m9
          obtain ⟨a7, c7, a8, c8, m10⟩ := tb_open (t := (t.build.push k x).bump k) Hold.ptr m9
          simp only [go_sem, Nat.reduceBEq]
          refine tb_ldraw (tb := (t.build.push k x).bump k) Hold.ptr tyS36 m10.third rfl ?_
          try simp only [go_sem, Nat.reduceBEq, Nat.reduceAdd, Nat.reduceLeDiff]
          exact ⟨a7, c7, a8, c8, rfl, m10.third.drop⟩
      · rw [hashIf_no (.inr ⟨hq, hn⟩), growIf_no fun q => by rw [ht] at q; exact absurd q.1 (by simp)]
        simp only [decide_eq_false (show ¬ (1024 : Int) ≤ ((t.slots.length : Nat) : Int) by omega), go_sem, Nat.reduceBEq]
        refine Hold.ld1 (i := 0) Hold.ptr tyS4 m2.third rfl rfl ?_
        simp only [ht, go_sem, Nat.reduceBEq, Nat.reduceAdd, Nat.reduceLeDiff]
        try simp only [go_sem, Nat.reduceBEq, Nat.reduceAdd, Nat.reduceLeDiff, Nat.reduceEqDiff, Int.reduceEq, not_false_eq_true, Int.reduceToNat]
        refine (iAddSlot Hold.ptr t ch k hk x _ _ h0 _ _ m1.swap).mono ?_
        rintro _ h8 ⟨rfl, m8⟩
        by_cases kt : k.text = true
        · simp only [kt, go_sem, Nat.reduceBEq]
          rw [← bump_dt_text kt] at m8
          obtain ⟨a7, c7, a8, c8, m9⟩ := tb_open (t := (t.push k x).bump k) Hold.ptr m8
          refine tb_ldraw (tb := (t.push k x).bump k) Hold.ptr tyS36 m9.third rfl ?_
          try simp only [go_sem, Nat.reduceBEq, Nat.reduceAdd, Nat.reduceLeDiff]
          exact ⟨a7, c7, a8, c8, rfl, m9.third.drop⟩
        · have kt : k.text = false := by simpa using kt
          have wk : IntKind.i64.wrap (k.num + 1) = k.num + 1 := by
            have := keyOk_num ko
            rw [kt] at this
            simp at this
            exact IntWalk.i64_in _ (by omega)
          simp only [kt, go_sem, Nat.reduceBEq, Nat.reduceAdd]
          refine Hold.ld1 (i := 3) Hold.ptr tyS3 m8 rfl rfl ?_
          simp only [wk, go_sem, Nat.reduceBEq]
          (refine (iMax _ _ _).mono ?_; rintro _ _ ⟨rfl, rfl⟩; simp only [go_sem, Nat.reduceBEq, Nat.reduceAdd])
          refine Hold.setC (d := .raw (.int .i64 (t.push k x).next)) Hold.ptr [.raw (.bool (t.push k x).hashed), .row 1 ((t.push k x).heads.flatMap idt), .row 10 ((t.push k x).slots.flatMap Sl.dt)] [.raw (.int .i64 (t.push k x).count)] tyS3 rfl rfl m8 rfl fun h9 m9 => ?_
          have m9 : My h0 h9 ((.ptr [] ((t.push k x).bump k).dt [], .pointer (some ⟨b0, 0, none⟩)) :: R) := by rw [bump_dt kt]; exact m9
          obtain ⟨a7, c7, a8, c8, m10⟩ := tb_open (t := (t.push k x).bump k) Hold.ptr m9
          simp only [go_sem, Nat.reduceBEq]
          refine tb_ldraw (tb := (t.push k x).bump k) Hold.ptr tyS36 m10.third rfl ?_
          try simp only [go_sem, Nat.reduceBEq, Nat.reduceAdd, Nat.reduceLeDiff]
          exact ⟨a7, c7, a8, c8, rfl, m10.third.drop⟩
    · rw [hashIf_yes ht (.inl hq), build_grow ch hlv]
      simp only [decide_eq_false hq, Bool.not_false, go_sem, Nat.reduceBEq]
      try simp only [go_sem, Nat.reduceBEq, Nat.reduceAdd, Nat.reduceLeDiff, Nat.reduceEqDiff, Int.reduceEq, not_false_eq_true, Int.reduceToNat]
      refine tb_ldraw (tb := t) Hold.ptr tyS36 m2.third rfl ?_
      simp only [go_sem, Nat.reduceBEq]
      refine (iRebuilt t ch hlv (ch_ks ch) _ _ _ _ h0 _ _ m2).mono ?_
      rintro _ h5 ⟨a5, c5, a6, c6, rfl, m5⟩
      simp only [go_sem, Nat.reduceBEq]
      refine tb_store (tb := t.build) Hold.ptr tyS36 (traws_len _ _ _) m5 rfl fun h6 m6 => ?_
      have m7 := m6.swap
      obtain ⟨a9, c9, a10, c10, m9⟩ := tb_open Hold.ptr m6
      simp only [go_sem, Nat.reduceBEq]
      refine Hold.ld1 (i := 0) Hold.ptr tyS4 m9.third rfl rfl ?_
      simp only [build_hashed ch hlv, go_sem, Nat.reduceBEq, Nat.reduceAdd]
      refine Hold.ld1 (i := 2) Hold.ptr tyS34 m9.third rfl rfl ?_
      simp only [go_sem, Nat.reduceBEq]
      refine Hold.ld1 (i := 1) Hold.ptr tyS22 m9.third rfl rfl ?_
      simp only [dec_len, decide_eq_false (build_ne ch hlv), go_sem, Nat.reduceBEq, Nat.reduceAdd, Nat.reduceLeDiff]
      try simp only [go_sem, Nat.reduceBEq, Nat.reduceAdd, Nat.reduceLeDiff, Nat.reduceEqDiff, Int.reduceEq, not_false_eq_true, Int.reduceToNat]
      refine (iAddSlot Hold.ptr t.build hb.ch k hk x _ _ h0 _ _ m7).mono ?_
      rintro _ h8 ⟨rfl, m8⟩
      by_cases kt : k.text = true
      · simp only [kt, go_sem, Nat.reduceBEq]
        rw [← bump_dt_text kt] at m8
        obtain ⟨a7, c7, a8, c8, m9⟩ := tb_open (t := (t.build.push k x).bump k) Hold.ptr m8
        refine tb_ldraw (tb := (t.build.push k x).bump k) Hold.ptr tyS36 m9.third rfl ?_
        try simp only [go_sem, Nat.reduceBEq, Nat.reduceAdd, Nat.reduceLeDiff]
        exact ⟨a7, c7, a8, c8, rfl, m9.third.drop⟩
      · have kt : k.text = false := by simpa using kt
        have wk : IntKind.i64.wrap (k.num + 1) = k.num + 1 := by
          have := keyOk_num ko
          rw [kt] at this
          simp at this
          exact IntWalk.i64_in _ (by omega)
        simp only [kt, go_sem, Nat.reduceBEq, Nat.reduceAdd]
        refine Hold.ld1 (i := 3) Hold.ptr tyS3 m8 rfl rfl ?_
        simp only [wk, go_sem, Nat.reduceBEq]
        (refine (iMax _ _ _).mono ?_; rintro _ _ ⟨rfl, rfl⟩; simp only [go_sem, Nat.reduceBEq, Nat.reduceAdd])
        refine Hold.setC (d := .raw (.int .i64 (t.build.push k x).next)) Hold.ptr [.raw (.bool (t.build.push k x).hashed), .row 1 ((t.build.push k x).heads.flatMap idt), .row 10 ((t.build.push k x).slots.flatMap Sl.dt)] [.raw (.int .i64 (t.build.push k x).count)] tyS3 rfl rfl m8 rfl fun h9 m9 => ?_
        have m9 : My h0 h9 ((.ptr [] ((t.build.push k x).bump k).dt [], .pointer (some ⟨b0, 0, none⟩)) :: R) := by rw [bump_dt kt]; exact m9
        obtain ⟨a7, c7, a8, c8, m10⟩ := tb_open (t := (t.build.push k x).bump k) Hold.ptr m9
        simp only [go_sem, Nat.reduceBEq]
        refine tb_ldraw (tb := (t.build.push k x).bump k) Hold.ptr tyS36 m10.third rfl ?_
        try simp only [go_sem, Nat.reduceBEq, Nat.reduceAdd, Nat.reduceLeDiff]
        exact ⟨a7, c7, a8, c8, rfl, m10.third.drop⟩
/-- a table of the walk's own, and a Bool -/
def OwnT2 (h0 : Hp) (t : Tb) (ok : Bool) (R : Bag) (u : Value) (h' : Hp) : Prop := ∃ w, u = .tuple #[w, .bool ok] ∧ OwnT h0 t R w h'
set_option maxHeartbeats 1600000 in
theorem sSet (t : Tb) (ch : t.ch) (k : Ky) (ko : keyOk k = true) (x : V) (ax a1 a2 : Option Addr) (cx c1 c2 : Nat) (h0 h : Hp) (R : Bag) (m : My h0 h ((.row 8 (x.items.flatMap edt), .slice ax x.items.length cx) :: (.row 1 (t.heads.flatMap idt), .slice a1 t.heads.length c1) :: (.row 10 (t.slots.flatMap Sl.dt), .slice a2 t.slots.length c2) :: R)) :
    ACalls Tryz.prog 55 #[.agg #[.bool t.hashed, .slice a1 t.heads.length c1, .slice a2 t.slots.length c2, .int .i64 t.next, .int .i64 t.count], .agg #[.bool k.text, .int .i64 k.num, .string k.str], .agg #[.int .i64 x.kind, .int .i64 x.num, .string x.str, .int .i64 x.next, .slice ax x.items.length cx]] h (OwnT2 h0 (t.set k x) (t.roomy k) R) := by
  have hls := ch.len
  have hk : k.str.size ≤ 1152921504606846976 := by have := keyOk_size ko; omega
  (refine enter Tryz.func55 rfl rfl (by kernel_rfl) [] ?_; simp only [go_sem, Nat.reduceBEq, Nat.reduceAdd, Nat.reduceLeDiff])
  (refine (sFind7 t k ch hk _ _ _ m.swap.rd m.third.rd).mono ?_; rintro _ _ ⟨rfl, rfl⟩; simp only [go_sem, Nat.reduceBEq])
  cases hf : t.find k with
  | some i =>
    obtain ⟨s, hs, _⟩ := Tb.find_live hf
    have hlt := (List.getElem?_eq_some_iff.1 hs).1
    rw [set_yes (roomy_some hf), roomy_some hf, put_some hf]
    simp only [ixI_some, go_sem]
    refine Br.intro (fun hz => ?_) (fun hz => ?_) <;> (try simp only [hz, go_sem, Nat.reduceBEq, Nat.reduceAdd, Nat.reduceLeDiff])
    case refine_2 => exact absurd (of_decide_eq_false hz) (by omega)
    obtain ⟨_, _, e5, _, _, hat⟩ := m.third.row_shape (by decide) t.slots.length (fm_len Sl.dt_len _)
    cases e5
    obtain ⟨b2, rfl⟩ := hat (by omega)
    simp only [ix_nat hlt, go_sem, Nat.reduceBEq, Nat.reduceAdd]
    obtain ⟨c6, hd6, hc6⟩ := hold_sval (b := b2) (cap := c2) hs
    have m3 : My h0 h ((.row 8 (x.items.flatMap edt), .slice ax x.items.length cx) :: (c6 s.val.dt, .slice (some ⟨b2, 0, none⟩) t.slots.length c2) :: (.row 1 (t.heads.flatMap idt), .slice a1 t.heads.length c1) :: R) := by
      rw [hc6, slot_self hs]
      exact m.third.swap
    refine var_store hd6 (w := x) (V.dt_len _) m3 (by omega) fun h3 m4 => ?_
    rw [hc6] at m4
    simp only [go_sem, Nat.reduceBEq, Nat.reduceAdd, Nat.reduceLeDiff]
    exact ⟨_, rfl, ownT_set hs m4.swap⟩
  | none =>
  have hcn := ch.cnt
  simp only [ixI_none, go_sem]
  refine Br.intro (fun hz => ?_) (fun hz => ?_) <;> (try simp only [hz, go_sem, Nat.reduceBEq, Nat.reduceAdd, Nat.reduceLeDiff])
  case refine_1 => exact absurd (of_decide_eq_true hz) (by decide)
  by_cases hlv : liveN t.slots < 1024
  case neg =>
    have hr : t.roomy k = false := by rw [roomy_none hf]; exact decide_eq_false hlv
    rw [set_no hr, hr]
    simp only [decide_eq_true (show (1024 : Int) ≤ t.count by omega), go_sem, Nat.reduceBEq, Nat.reduceAdd, Nat.reduceLeDiff]
    exact ⟨_, rfl, _, _, _, _, rfl, m.drop⟩
  have hr : t.roomy k = true := by rw [roomy_none hf]; exact decide_eq_true hlv
  have hb := ch.build hlv
  rw [set_yes hr, hr, put_none hf]
  simp only [decide_eq_false (show ¬ (1024 : Int) ≤ t.count by omega), go_sem, Nat.reduceBEq]
  by_cases ht : t.hashed = true
  · rw [hashIf_no (.inl ht)]
    have SR := sRoom t ch hlv
    simp only [ht] at SR
    have SB := sBuild t ch hlv (ch_ks ch)
    simp only [ht] at SB
    have SP := sPush t ch k hk ko x
    simp only [ht] at SP
    simp only [ht, dec_len, go_sem, Nat.reduceBEq]
    by_cases hg : t.slots.length = t.heads.length
    · rw [growIf_yes ht hg]
      simp only [decide_eq_true hg, go_sem]
      try simp only [go_sem, Nat.reduceBEq, Nat.reduceAdd, Nat.reduceLeDiff, Nat.reduceEqDiff, Int.reduceEq, not_false_eq_true, Int.reduceToNat]
      refine regionD_intro (lb := [57, 58]) (by kernel_rfl) ?_
      simp only [go_sem, Nat.reduceBEq, Nat.reduceAdd, Nat.reduceLeDiff]
      (refine (SR _ _ _).mono ?_; rintro _ _ ⟨rfl, rfl⟩; simp only [go_sem, Nat.reduceBEq])
      refine (SB _ _ _ _ h0 _ _ m.third.third).mono ?_
      rintro _ h5 ⟨a5, c5, a6, c6, rfl, m5⟩
      have m7 := m5.third
      simp only [go_sem, Nat.reduceBEq, Nat.reduceAdd, Nat.reduceLeDiff]
      try simp only [go_sem, Nat.reduceBEq, Nat.reduceAdd, Nat.reduceLeDiff, Nat.reduceEqDiff, Int.reduceEq, not_false_eq_true, Int.reduceToNat]
      refine ((sPush t.build hb.ch k hk ko x) _ _ _ _ _ _ h0 _ _ m7).mono ?_
      rintro _ h8 ⟨a7, c7, a8, c8, rfl, m8⟩
      simp only [go_sem, Nat.reduceBEq, Nat.reduceAdd, Nat.reduceLeDiff]
      exact ⟨_, rfl, a7, c7, a8, c8, rfl, m8⟩
    · rw [growIf_no fun q => hg q.2]
      simp only [decide_eq_false hg, go_sem, Nat.reduceBEq, Nat.reduceAdd, Nat.reduceLeDiff]
      try simp only [go_sem, Nat.reduceBEq, Nat.reduceAdd, Nat.reduceLeDiff, Nat.reduceEqDiff, Int.reduceEq, not_false_eq_true, Int.reduceToNat]
      refine (SP _ _ _ _ _ _ h0 _ _ m).mono ?_
      rintro _ h8 ⟨a7, c7, a8, c8, rfl, m8⟩
      simp only [go_sem, Nat.reduceBEq, Nat.reduceAdd, Nat.reduceLeDiff]
      exact ⟨_, rfl, a7, c7, a8, c8, rfl, m8⟩
  · have ht : t.hashed = false := by simpa using ht
    have SR := sRoom t ch hlv
    simp only [ht] at SR
    have SB := sBuild t ch hlv (ch_ks ch)
    simp only [ht] at SB
    have SP := sPush t ch k hk ko x
    simp only [ht] at SP
    have SPB := sPush t.build hb.ch k hk ko x
    simp only [build_hashed ch hlv] at SPB
    have kd : decide (k.text = false ∧ k.num = ((t.slots.length : Nat) : Int) ∧ k.str = ⟨#[]⟩) = decide (k = ⟨false, (t.slots.length : Nat), ⟨#[]⟩⟩) := key_dec k ⟨false, (t.slots.length : Nat), ⟨#[]⟩⟩
    simp only [ht, kd, keyT40, go_sem, Nat.reduceBEq, Nat.reduceAdd, Nat.reduceLeDiff]
    by_cases hq : k = ⟨false, (t.slots.length : Nat), ⟨#[]⟩⟩
    · simp only [decide_eq_true hq, Bool.not_true, go_sem, Nat.reduceBEq]
      by_cases hn : t.slots.length = 1024
      · rw [hashIf_yes ht (.inr hn), build_grow ch hlv]
        simp only [decide_eq_true (show ((t.slots.length : Nat) : Int) = 1024 by omega), go_sem]
        try simp only [go_sem, Nat.reduceBEq, Nat.reduceAdd, Nat.reduceLeDiff, Nat.reduceEqDiff, Int.reduceEq, not_false_eq_true, Int.reduceToNat]
        refine regionD_intro (lb := [42, 43]) (by kernel_rfl) ?_
        simp only [go_sem, Nat.reduceBEq, Nat.reduceAdd, Nat.reduceLeDiff]
        (refine (SR _ _ _).mono ?_; rintro _ _ ⟨rfl, rfl⟩; simp only [go_sem, Nat.reduceBEq])
        refine (SB _ _ _ _ h0 _ _ m.third.third).mono ?_
        rintro _ h5 ⟨a5, c5, a6, c6, rfl, m5⟩
        have m7 := m5.third
        simp only [go_sem, Nat.reduceBEq, Nat.reduceAdd, Nat.reduceLeDiff]
        simp only [build_hashed ch hlv, dec_len, decide_eq_false (build_ne ch hlv), go_sem, Nat.reduceBEq, Nat.reduceAdd, Nat.reduceLeDiff]
        try simp only [go_sem, Nat.reduceBEq, Nat.reduceAdd, Nat.reduceLeDiff, Nat.reduceEqDiff, Int.reduceEq, not_false_eq_true, Int.reduceToNat]
        refine (SPB _ _ _ _ _ _ h0 _ _ m7).mono ?_
        rintro _ h8 ⟨a7, c7, a8, c8, rfl, m8⟩
        simp only [go_sem, Nat.reduceBEq, Nat.reduceAdd, Nat.reduceLeDiff]
        exact ⟨_, rfl, a7, c7, a8, c8, rfl, m8⟩
      · rw [hashIf_no (.inr ⟨hq, hn⟩), growIf_no fun q => by rw [ht] at q; exact absurd q.1 (by simp)]
        simp only [decide_eq_false (show ¬ ((t.slots.length : Nat) : Int) = 1024 by omega), go_sem, Nat.reduceBEq, Nat.reduceAdd, Nat.reduceLeDiff]
        try simp only [go_sem, Nat.reduceBEq, Nat.reduceAdd, Nat.reduceLeDiff, Nat.reduceEqDiff, Int.reduceEq, not_false_eq_true, Int.reduceToNat]
        refine (SP _ _ _ _ _ _ h0 _ _ m).mono ?_
        rintro _ h8 ⟨a7, c7, a8, c8, rfl, m8⟩
        simp only [go_sem, Nat.reduceBEq, Nat.reduceAdd, Nat.reduceLeDiff]
        exact ⟨_, rfl, a7, c7, a8, c8, rfl, m8⟩
    · rw [hashIf_yes ht (.inl hq), build_grow ch hlv]
      simp only [decide_eq_false hq, Bool.not_false, go_sem, Nat.reduceBEq]
      try simp only [go_sem, Nat.reduceBEq, Nat.reduceAdd, Nat.reduceLeDiff, Nat.reduceEqDiff, Int.reduceEq, not_false_eq_true, Int.reduceToNat]
      refine regionD_intro (lb := [42, 43]) (by kernel_rfl) ?_
      simp only [go_sem, Nat.reduceBEq, Nat.reduceAdd, Nat.reduceLeDiff]
      (refine (SR _ _ _).mono ?_; rintro _ _ ⟨rfl, rfl⟩; simp only [go_sem, Nat.reduceBEq])
      refine (SB _ _ _ _ h0 _ _ m.third.third).mono ?_
      rintro _ h5 ⟨a5, c5, a6, c6, rfl, m5⟩
      have m7 := m5.third
      simp only [go_sem, Nat.reduceBEq, Nat.reduceAdd, Nat.reduceLeDiff]
      simp only [build_hashed ch hlv, dec_len, decide_eq_false (build_ne ch hlv), go_sem, Nat.reduceBEq, Nat.reduceAdd, Nat.reduceLeDiff]
      try simp only [go_sem, Nat.reduceBEq, Nat.reduceAdd, Nat.reduceLeDiff, Nat.reduceEqDiff, Int.reduceEq, not_false_eq_true, Int.reduceToNat]
      refine (SPB _ _ _ _ _ _ h0 _ _ m7).mono ?_
      rintro _ h8 ⟨a7, c7, a8, c8, rfl, m8⟩
      simp only [go_sem, Nat.reduceBEq, Nat.reduceAdd, Nat.reduceLeDiff]
      exact ⟨_, rfl, a7, c7, a8, c8, rfl, m8⟩
end Go.Proofs.YtedfplodobpgfaaGreatDoor
namespace Go.Proofs.YtedfplodobpgfaaGreatDoor
set_option maxRecDepth 8000
open Go Go.Sx
theorem roomy_of {t : Tb} {k : Ky} (hl : t.find k = none → liveN t.slots < 1024) : t.roomy k = true := by
  cases hf : t.find k with
  | some i => exact roomy_some hf
  | none => rw [roomy_none hf]; exact decide_eq_true (hl hf)
theorem newTab_c (h : Hp) : ACalls Tryz.prog 148 #[] h (Pu (.agg #[.bool false, .slice none 0 0, .slice none 0 0, .int .i64 0, .int .i64 0]) h) := by
  (refine enter Tryz.func148 rfl rfl (by kernel_rfl) [] ?_; simp only [go_sem, Nat.reduceBEq, Nat.reduceAdd, Nat.reduceLeDiff])
  exact ⟨rfl, rfl⟩
end Go.Proofs.YtedfplodobpgfaaGreatDoor
namespace Go.Proofs.YtedfplodobpgfaaGreatDoor
set_option maxRecDepth 8000
open Go Go.Sx
end Go.Proofs.YtedfplodobpgfaaGreatDoor
/-! The union of two arrays, in plain Lean. -/
namespace Go.Sx
open Go
namespace V
def withNext (v : V) (n : Int) : V := ⟨v.kind, v.num, v.str, n, v.items⟩
end V
theorem V.wf_entries {v : V} (h : v.wf = true) (hk : v.kind = 4) : wfEs v.next v.items [] = true ∧ 0 ≤ v.next ∧ v.next ≤ 1000000001 := by
  rw [V.wf_eq] at h
  unfold wf0 at h
  rw [if_neg (by omega), if_neg (by omega), if_neg (by omega), if_neg (by omega), if_neg (by omega), if_pos hk] at h
  simp only [Bool.and_eq_true, decide_eq_true_eq] at h
  exact ⟨h.2.2.2, h.2.2.1⟩
theorem bulks_append : ∀ p q : List (Ky × V), V.bulks (p ++ q) = V.bulks p + V.bulks q
  | [], q => by simp [V.bulks]
  | (k, v) :: r, q => by simp only [List.cons_append, V.bulks, bulks_append r q]; omega
theorem setKey_bulk (o : V) (k : Ky) (x : V) : V.bulks (o.setKey k x).items ≤ V.bulks o.items + (1 + (k.str.size + x.bulk)) ∧ (o.setKey k x).str = o.str ∧ (o.setKey k x).items.length ≤ o.items.length + 1 ∧ (o.setKey k x).kind = o.kind := by
  unfold V.setKey
  cases hf : o.find k with
  | none =>
    refine ⟨?_, rfl, ?_, rfl⟩
    · show V.bulks (o.items ++ [(k, x)]) ≤ _
      rw [bulks_append]
      simp only [V.bulks]
      omega
    · show (o.items ++ [(k, x)]).length ≤ _
      simp
  | some i =>
    simp only [V.setAt]
    cases hi : o.items[i]? with
    | none => exact ⟨by simp only; omega, rfl, by simp only; omega, rfl⟩
    | some e =>
      obtain ⟨y, hy, hg, hlt⟩ := V.find_get hf
      have e1 : e = (k, y) := by rw [hi] at hy; exact Option.some.inj hy
      subst e1
      refine ⟨?_, rfl, ?_, rfl⟩
      · have hs : V.bulks o.items = V.bulks (o.items.take i) + (1 + (k.str.size + y.bulk) + V.bulks (o.items.drop (i + 1))) := by
          conv => lhs; rw [← List.take_append_drop i o.items, drop_cons hi, bulks_append]
          simp only [V.bulks]
        show V.bulks (o.items.take i ++ (k, x) :: o.items.drop (i + 1)) ≤ _
        rw [bulks_append]
        simp only [V.bulks]
        omega
      · show (o.items.take i ++ (k, x) :: o.items.drop (i + 1)).length ≤ _
        rw [List.length_append, List.length_cons, List.length_take, List.length_drop]
        omega
end Go.Sx
/-! A value written where a path leads, in plain Lean. -/
namespace Go.Sx
open Go
namespace V
def arr : V := ⟨4, 0, ⟨#[]⟩, 0, []⟩
def asArr (v : V) : V := if v.kind = 0 then arr else v
def put : V → List Ky → Bool → V → V × Int
  | v, [], push, x => if push then (if ¬ v.asArr.kind = 4 then (v.asArr, 6) else if ¬ (0 ≤ v.asArr.next ∧ v.asArr.next ≤ 1000000000) then (v.asArr, 7) else (v.asArr.setKey ⟨false, v.asArr.next, ⟨#[]⟩⟩ x, 0)) else (x, 0)
  | v, k :: r, push, x => if ¬ v.asArr.kind = 4 then (v.asArr, 6) else if (put ((v.asArr.get k).getD null) r push x).2 = 0 then (v.asArr.setKey k (put ((v.asArr.get k).getD null) r push x).1, 0) else (v.asArr, (put ((v.asArr.get k).getD null) r push x).2)
theorem asArr_null {v : V} (h : v.kind = 0) : v.asArr = arr := by unfold asArr; rw [if_pos h]
theorem asArr_other {v : V} (h : ¬ v.kind = 0) : v.asArr = v := by unfold asArr; rw [if_neg h]
theorem put_nil_f (v x : V) : v.put [] false x = (x, 0) := by rw [put]; rfl
theorem put_nil_t (v x : V) : v.put [] true x = if ¬ v.asArr.kind = 4 then (v.asArr, 6) else if ¬ (0 ≤ v.asArr.next ∧ v.asArr.next ≤ 1000000000) then (v.asArr, 7) else (v.asArr.setKey ⟨false, v.asArr.next, ⟨#[]⟩⟩ x, 0) := by rw [put]; rfl
theorem put_cons (v : V) (k : Ky) (r : List Ky) (push : Bool) (x : V) : v.put (k :: r) push x = if ¬ v.asArr.kind = 4 then (v.asArr, 6) else if (put ((v.asArr.get k).getD null) r push x).2 = 0 then (v.asArr.setKey k (put ((v.asArr.get k).getD null) r push x).1, 0) else (v.asArr, (put ((v.asArr.get k).getD null) r push x).2) := by rw [put]
end V
theorem wf_null : V.null.wf = true := by decide
theorem wfEs_mem {x : Int} : ∀ (es : List (Ky × V)) (seen : List Ky), wfEs x es seen = true → ∀ e ∈ es, e.2.wf = true
  | [], _, _, e, he => by cases he
  | q :: r, seen, h, e, he => by
    rw [wfEs_cons] at h
    simp only [Bool.and_eq_true] at h
    cases he with
    | head => exact h.2.2.2.1
    | tail _ he => exact wfEs_mem r _ h.2.2.2.2 e he
theorem wf_get {v x : V} {k : Ky} (h : v.wf = true) (hg : v.get k = some x) : x.wf = true := by
  have hg0 := hg
  unfold V.get at hg
  cases hf : v.find k with
  | none => simp [hf] at hg
  | some i =>
    obtain ⟨y, hy, hg2, _⟩ := V.find_get hf
    rw [hg0] at hg2
    cases hg2
    have hk : v.kind = 4 := by
      unfold V.find at hf
      split at hf
      · assumption
      · cases hf
    exact wfEs_mem _ _ (V.wf_entries h hk).1 _ (List.mem_of_getElem? hy)
theorem wf_next {v : V} (h : v.wf = true) (hk : v.kind = 4) : 0 ≤ v.next := (V.wf_entries h hk).2.1
theorem getD_bulk (v : V) (k : Ky) : V.bulks ((v.get k).getD V.null).items ≤ V.bulks v.items := by
  cases hg : v.get k with
  | none => exact Nat.zero_le _
  | some x => exact V.get_bulk hg
theorem asArr_bulk (v : V) : V.bulks v.asArr.items ≤ V.bulks v.items ∧ v.asArr.bulk ≤ v.bulk := by
  unfold V.asArr
  split
  · exact ⟨Nat.zero_le _, Nat.zero_le _⟩
  · exact ⟨Nat.le_refl _, Nat.le_refl _⟩
def kbulk (p : List Ky) : Nat := (p.map fun k => 1 + k.str.size).sum
theorem kbulk_eq : ∀ p : List Ky, kbulk p = szG (fun e : Ky => e.str.size) p
  | [] => rfl
  | k :: r => by
    have := kbulk_eq r
    simp only [kbulk, szG, gsum, List.length_cons, List.map_cons, List.sum_cons] at this ⊢
    omega
theorem setKey_bulk2 (o : V) (k : Ky) (x : V) : V.bulks (o.setKey k x).items + ((o.get k).getD V.null).bulk ≤ V.bulks o.items + (1 + (k.str.size + x.bulk)) := by
  unfold V.setKey
  cases hf : o.find k with
  | none =>
    rw [V.find_none hf]
    show V.bulks (o.items ++ [(k, x)]) + V.null.bulk ≤ _
    have h0 : V.null.bulk = 0 := rfl
    rw [bulks_append, h0]
    simp only [V.bulks]
    omega
  | some i =>
    obtain ⟨y, hy, hg, hlt⟩ := V.find_get hf
    rw [hg]
    simp only [V.setAt, hy, Option.getD_some]
    have hs : V.bulks o.items = V.bulks (o.items.take i) + (1 + (k.str.size + y.bulk) + V.bulks (o.items.drop (i + 1))) := by
      conv => lhs; rw [← List.take_append_drop i o.items, drop_cons hy, bulks_append]
      simp only [V.bulks]
    show V.bulks (o.items.take i ++ (k, x) :: o.items.drop (i + 1)) + _ ≤ _
    rw [bulks_append]
    simp only [V.bulks]
    omega
theorem put_bulk : ∀ (p : List Ky) (v : V) (push : Bool) (x : V), (v.put p push x).1.bulk ≤ v.bulk + kbulk p + (1 + x.bulk)
  | [], v, push, x => by
    have ha := (asArr_bulk v).2
    cases push with
    | false => rw [V.put_nil_f]; simp only; omega
    | true =>
      rw [V.put_nil_t]
      have hs := setKey_bulk v.asArr ⟨false, v.asArr.next, ⟨#[]⟩⟩ x
      have e0 : (⟨#[]⟩ : ByteArray).size = 0 := rfl
      simp only [e0] at hs
      split
      · simp only; omega
      · split
        · simp only; omega
        · have h1 := V.bulk_eq (v.asArr.setKey ⟨false, v.asArr.next, ⟨#[]⟩⟩ x)
          have h2 := V.bulk_eq v.asArr
          rw [hs.2.1] at h1
          simp only
          omega
  | k :: r, v, push, x => by
    rw [V.put_cons]
    have ha := (asArr_bulk v).2
    have hk : kbulk (k :: r) = 1 + k.str.size + kbulk r := by simp [kbulk]
    split
    · simp only; omega
    · have ih := put_bulk r ((v.asArr.get k).getD V.null) push x
      split
      · have h1 := setKey_bulk2 v.asArr k (V.put ((v.asArr.get k).getD V.null) r push x).1
        have h2 := V.bulk_eq (v.asArr.setKey k (V.put ((v.asArr.get k).getD V.null) r push x).1)
        have h3 := V.bulk_eq v.asArr
        rw [(setKey_bulk v.asArr k (V.put ((v.asArr.get k).getD V.null) r push x).1).2.1] at h2
        simp only
        omega
      · simp only; omega
end Go.Sx
/-! Loaded trees are values; where a key stands in a table; a value written into a shared heap. -/
namespace Go.Sx
open Go
/-! a chain finds every live slot of its bucket -/
theorem chain_full {size : Nat} (hs : 0 < size) {ss : List Sl} {k : Ky} (hb : Back ss) (hl : ∀ (i : Nat) (s : Sl), ss[i]? = some s → (hdsN size ss i)[s.key.hash % size]? = some s.link) : ∀ n, n ≤ ss.length → chain ss k ((hdsN size ss n).getD (k.hash % size) (-1)) = none →
    ∀ (i : Nat) (s : Sl), i < n → ss[i]? = some s → s.live = true → ¬ s.key = k
  | 0, _, _, i, s, h, _, _ => by omega
  | n + 1, hn, hc, i, s, hi, hg, hv => by
    obtain ⟨u, hu, _⟩ := get_lt (l := ss) (i := n) (by omega)
    have hlen := hdsN_len size ss n
    have hm := Nat.mod_lt k.hash hs
    rw [hdsN_succ hu] at hc
    by_cases hbk : u.key.hash % size = k.hash % size
    · have e1 : ((hdsN size ss n).set (u.key.hash % size) (n : Nat)).getD (k.hash % size) (-1) = (n : Int) := by
        rw [hbk, List.getD_eq_getElem?_getD, List.getElem?_set, if_pos rfl, if_pos (by omega)]
        rfl
      rw [e1] at hc
      have hun : ss[((n : Nat) : Int).toNat]? = some u := by
        rw [show ((n : Nat) : Int).toNat = n by omega]
        exact hu
      by_cases hit : u.live = true ∧ u.key = k
      · rw [chain_hit (by omega) hun hit] at hc
        cases hc
      · rw [chain_miss hb (by omega) hun hit] at hc
        have hlk := hl n u hu
        rw [hbk] at hlk
        have e2 : (hdsN size ss n).getD (k.hash % size) (-1) = u.link := by rw [List.getD_eq_getElem?_getD, hlk]; rfl
        by_cases he : i = n
        · subst he
          rw [hu] at hg
          cases hg
          exact fun q => hit ⟨hv, q⟩
        · exact chain_full hs hb hl n (by omega) (by rw [e2]; exact hc) i s (by omega) hg hv
    · have e1 : ((hdsN size ss n).set (u.key.hash % size) (n : Nat)).getD (k.hash % size) (-1) = (hdsN size ss n).getD (k.hash % size) (-1) := by
        rw [List.getD_eq_getElem?_getD, List.getD_eq_getElem?_getD, List.getElem?_set, if_neg hbk]
      rw [e1] at hc
      by_cases he : i = n
      · subst he
        rw [hu] at hg
        cases hg
        exact fun q => hbk (by rw [q])
      · exact chain_full hs hb hl n (by omega) hc i s (by omega) hg hv
/-- in a right table a key that is not found stands in no live slot -/
theorem Tb.wf.find_none {t : Tb} (w : t.wf) {k : Ky} (h : t.find k = none) : ∀ s ∈ t.slots, s.live = true → ¬ s.key = k := by
  intro s hs hv
  obtain ⟨i, hi⟩ := List.getElem?_of_mem hs
  cases ht : t.hashed with
  | true =>
    obtain ⟨h1, h2, h3, h4, h5⟩ := w.hash ht
    have hc : chain t.slots k (t.heads.getD (k.hash % t.heads.length) (-1)) = none := by
      unfold Tb.find at h
      rwa [if_pos ht] at h
    have hb := w.ch.back ht
    rw [show t.heads.getD (k.hash % t.heads.length) (-1) = (hdsN t.heads.length t.slots t.slots.length).getD (k.hash % t.heads.length) (-1) from by rw [← h5]] at hc
    exact chain_full (by omega) hb h4 t.slots.length (Nat.le_refl _) hc i s (lt_of_get hi) hi hv
  | false =>
    intro hk
    have e := ((w.packed ht).2.2.2 i s hi).1
    unfold Tb.find at h
    rw [if_neg (by rw [ht]; simp)] at h
    rw [if_pos ?_] at h
    · cases h
    · rw [← hk, e]
      refine ⟨rfl, rfl, by show (0 : Int) ≤ (i : Nat); omega, ?_⟩
      show ((t.slots[((i : Nat) : Int).toNat]?).map (·.live)).getD false = true
      rw [show ((i : Nat) : Int).toNat = i by omega, hi]
      exact hv
theorem Tb.find_key {t : Tb} (c : t.ch) {k : Ky} {j : Nat} (h : t.find k = some j) : ∃ s, t.slots[j]? = some s ∧ s.live = true ∧ s.key = k := by
  have h0 := h
  unfold Tb.find at h
  split at h
  · exact chain_some _ _ _ h
  · rename_i ht
    have ht : t.hashed = false := by simpa using ht
    split at h
    · rename_i hq
      cases h
      obtain ⟨q1, q2, q3, q4⟩ := hq
      obtain ⟨s, hs, hl⟩ := Tb.find_live h0
      have e := (c.packed ht).2 _ s hs
      refine ⟨s, hs, hl, ?_⟩
      rw [e]
      obtain ⟨kt, kn, ks⟩ := k
      simp only at q1 q2 q3
      subst q1 q2
      have : ((kn.toNat : Nat) : Int) = kn := by omega
      simp only [this]
    · cases h
/-- keys of the live slots stand once -/
theorem Tb.wf.keys_once {t : Tb} (w : t.wf) : (liveK t.slots).Nodup := by
  have key : ∀ n, n ≤ t.slots.length → (liveK (t.slots.take n)).Nodup := by
    intro n
    induction n with
    | zero => intro _; simp [liveK]
    | succ n ih =>
      intro hn
      obtain ⟨s, hs, _⟩ := get_lt (l := t.slots) (i := n) (by omega)
      rw [liveK_snoc hs]
      split
      · rename_i hl
        rw [List.nodup_append]
        refine ⟨ih (by omega), by simp, fun a ha b hb hab => ?_⟩
        simp only [List.mem_singleton] at hb
        subst hab
        subst hb
        obtain ⟨j, u, hj, hu, lu, eu⟩ := mem_liveK.1 ha
        exact w.dist n j s u hj hs hu hl lu eu
      · exact ih (by omega)
  have := key t.slots.length (Nat.le_refl _)
  rwa [List.take_length] at this
theorem ldS_keys (g : V → V) : ∀ ss : List Sl, (ldS g ss).map (·.1) = liveK ss := fun ss => by
  unfold ldS liveK
  rw [List.map_map]
  rfl
theorem ldS_mem {g : V → V} {ss : List Sl} {e : Ky × V} (h : e ∈ ldS g ss) : ∃ s ∈ ss, s.live = true ∧ e = (s.key, g s.val) := by
  unfold ldS at h
  simp only [List.mem_map, List.mem_filter] at h
  obtain ⟨s, ⟨h1, h2⟩, h3⟩ := h
  exact ⟨s, h1, h2, h3.symm⟩
/-- entries with right keys that stand once are an array's -/
theorem wfEs_of {x : Int} : ∀ (es : List (Ky × V)) (seen : List Ky), (∀ e ∈ es, keyOk e.1 = true ∧ (e.1.text = true ∨ e.1.num < x) ∧ e.2.wf = true) → (es.map (·.1)).Nodup → (∀ e ∈ es, e.1 ∉ seen) → wfEs x es seen = true
  | [], seen, _, _, _ => wfEs_nil x seen
  | e :: r, seen, h, hd, hs => by
    rw [wfEs_cons]
    obtain ⟨h1, h2, h3⟩ := h e (by simp)
    rw [List.map_cons, List.nodup_cons] at hd
    have hr := wfEs_of (x := x) r (seen ++ [e.1]) (fun u hu => h u (by simp [hu])) hd.2 fun u hu hm => by
      rcases List.mem_append.1 hm with hm | hm
      · exact hs u (by simp [hu]) hm
      · simp only [List.mem_singleton] at hm
        exact hd.1 (List.mem_map.2 ⟨u, hu, hm⟩)
    have h4 := hs e (by simp)
    rw [h1, h3, hr]
    rcases h2 with h2 | h2
    · simp [h2, h4]
    · simp [h4]
      exact .inr h2
/-- what is loaded from a right heap is right -/
theorem ld_wf {l : List Bk} (h : hOk l) : ∀ (f : Nat) (v : V), weighed l f v → (ldF l f v).wf = true
  | 0, v, w => by
    by_cases h5 : v.kind = 5
    · obtain ⟨n, hn⟩ := w.2 h5
      cases hn
    · exact (held_other w.1 h5).2
  | f + 1, v, w => by
    by_cases h5 : v.kind = 5
    · rw [ldF_handle h5]
      obtain ⟨q1, q2, q3⟩ := held_num w.1 h5
      have hbk := h.blk _ _ (blk_at q2)
      have hT := ((bkOk_live (by omega)).1 hbk).2.1
      have wt := (blk l v.num.toNat).tab.isTab_iff.1 hT
      have kids := w.kids h.inR h5
      rw [V.wf_eq]
      unfold wf0
      have e4 : (⟨4, 0, ⟨#[]⟩, (blk l v.num.toNat).tab.next, ldS (ldF l f) (blk l v.num.toNat).tab.slots⟩ : V).kind = 4 := rfl
      have hes : wfEs (blk l v.num.toNat).tab.next (ldS (ldF l f) (blk l v.num.toNat).tab.slots) [] = true := by
        refine wfEs_of _ _ (fun e he => ?_) (by rw [ldS_keys]; exact wt.keys_once) (fun _ _ hm => by cases hm)
        obtain ⟨s, hs, hl, rfl⟩ := ldS_mem he
        obtain ⟨k, hk⟩ := List.getElem?_of_mem hs
        have := wt.keys k s hk
        exact ⟨this.1, this.2.1, ld_wf h f s.val (kids k s hk hl)⟩
      have hnx := wt.next
      rw [e4]
      simp only [Int.reduceEq, not_false_eq_true, decide_true, not_true_eq_false, decide_false, Bool.false_and, Bool.true_and, Bool.not_false, if_false, if_true, or_self]
      simp only [V.str_mk, V.num_mk, V.next_mk, V.items_mk, hes, decide_eq_true hnx]
      simp
    · rw [ldF_other h5]
      exact (held_other w.1 h5).2
/-- a loaded tree weighs what its block weighs -/
theorem ld_weight {l : List Bk} (hin : inR l) : ∀ (f : Nat) (v : V), weighed l f v → ∀ n, (v.kind = 5 → wtF l f v.num.toNat = some n) → (¬ v.kind = 5 → n = 1) → (ldF l f v).weight = n
  | 0, v, w, n, h, k => by
    by_cases h5 : v.kind = 5
    · have := h h5
      cases this
    · rw [ldF_other h5, V.weight_eq, if_neg (held_other w.1 h5).1, k h5]
  | f + 1, v, w, n, h, k => by
    by_cases h5 : v.kind = 5
    · have hn := h h5
      rw [wtF] at hn
      simp only [Option.map_eq_some_iff] at hn
      obtain ⟨m, hm, rfl⟩ := hn
      rw [ldF_handle h5, V.weight_eq]
      have key : ∀ (ss : List Sl) (m : Nat), (∀ s ∈ ss, s.live = true → weighed l f s.val) → sumW (wtF l f) ss = some m → V.weights (ldS (ldF l f) ss) = m := by
        intro ss
        induction ss with
        | nil =>
          intro m _ hm
          cases hm
          exact V.weights_nil
        | cons s r ih =>
          intro m hs hm
          rw [sumW] at hm
          unfold ldS at ih ⊢
          rw [List.filter_cons]
          cases hl : s.live with
          | false =>
            rw [hl] at hm
            simp only [Bool.false_eq_true, if_false] at hm ⊢
            exact ih m (fun u hu => hs u (by simp [hu])) hm
          | true =>
            rw [hl] at hm
            simp only [if_true] at hm ⊢
            cases h1 : (if s.val.kind = 5 then wtF l f s.val.num.toNat else some 1) with
            | none => rw [h1] at hm; cases hm
            | some a =>
              cases h2 : sumW (wtF l f) r with
              | none => rw [h1, h2] at hm; cases hm
              | some b =>
                rw [h1, h2] at hm
                have e : a + b = m := Option.some.inj hm
                have i1 := ih b (fun u hu => hs u (by simp [hu])) h2
                have i2 := ld_weight hin f s.val (hs s (by simp) hl) a (fun q => by rw [if_pos q] at h1; exact h1) (fun q => by rw [if_neg q] at h1; exact (Option.some.inj h1).symm)
                rw [List.map_cons, V.weights_cons, i1, i2]
                exact e
      have := key _ m (fun s hs hl => by
        obtain ⟨k, hk⟩ := List.getElem?_of_mem hs
        exact w.kids hin h5 k s hk hl) hm
      show (if (4 : Int) = 4 then 1 + V.weights (ldS (ldF l f) (blk l v.num.toNat).tab.slots) else 1) = m + 1
      rw [if_pos rfl, this]
      omega
    · rw [ldF_other h5, V.weight_eq, if_neg (held_other w.1 h5).1, k h5]
theorem ld_valid {l : List Bk} (h : hOk l) {v : V} (hv : isHeld l v = true) : (ldF l 200 v).valid = true := by
  have w := h.weighed hv
  have hw : (ldF l 200 v).weight ≤ 200 := by
    by_cases h5 : v.kind = 5
    · obtain ⟨q1, q2, q3⟩ := held_num hv h5
      obtain ⟨n, hn, hwt⟩ := h.light _ _ (blk_at q2) q3
      rw [ld_weight h.inR 200 v w n (fun _ => hwt.fuel hn) (fun q => absurd h5 q)]
      exact hn
    · rw [ld_weight h.inR 200 v w 1 (fun q => absurd q h5) (fun _ => rfl)]
      omega
  unfold V.valid
  rw [decide_eq_true hw, ld_wf h 200 v w]
  rfl
/-! the value of a key: in the heap, and in the tree -/
def innerH (l : List Bk) (i : Nat) (k : Ky) : V := match (blk l i).tab.find k with
  | some j => (((blk l i).tab.slots[j]?).map (·.val)).getD V.zero
  | none => V.zero
def inner0 (l : List Bk) (v : V) (k : Ky) : V := if v.kind = 5 then innerH l v.num.toNat k else V.zero
theorem innerH_some {l : List Bk} {i j : Nat} {k : Ky} {s : Sl} (h : (blk l i).tab.find k = some j) (hs : (blk l i).tab.slots[j]? = some s) : innerH l i k = s.val := by
  unfold innerH
  rw [h]
  simp only [hs]
  rfl
theorem innerH_none {l : List Bk} {i : Nat} {k : Ky} (h : (blk l i).tab.find k = none) : innerH l i k = V.zero := by
  unfold innerH
  rw [h]
theorem fk_nodup {es : List (Ky × V)} {k : Ky} {x : V} (hd : (es.map (·.1)).Nodup) (hm : (k, x) ∈ es) (n : Nat) : ∃ j, fk es k n = some (n + j) ∧ es[j]? = some (k, x) := by
  induction es generalizing n with
  | nil => cases hm
  | cons e r ih =>
    rw [List.map_cons, List.nodup_cons] at hd
    by_cases he : e.1 = k
    · refine ⟨0, by rw [fk, if_pos he]; rfl, ?_⟩
      cases hm with
      | head => rfl
      | tail _ hm => exact absurd (List.mem_map.2 ⟨(k, x), hm, rfl⟩) (by rw [← he]; exact hd.1)
    · rcases List.mem_cons.1 hm with hm | hm
      · rw [← hm] at he
        exact absurd rfl he
      · obtain ⟨j, h1, h2⟩ := ih hd.2 hm (n + 1)
        refine ⟨j + 1, by rw [fk, if_neg he, h1]; congr 1; omega, by simpa using h2⟩
theorem get_ld {l : List Bk} (h : hOk l) {f : Nat} {v : V} (w : weighed l (f + 1) v) (h5 : v.kind = 5) (k : Ky) : ((ldF l (f + 1) v).get k).getD V.null = ldF l f (innerH l v.num.toNat k) := by
  obtain ⟨q1, q2, q3⟩ := held_num w.1 h5
  have hbk := h.blk _ _ (blk_at q2)
  have wt := (blk l v.num.toNat).tab.isTab_iff.1 ((bkOk_live (by omega)).1 hbk).2.1
  rw [ldF_handle h5]
  have hfind : (⟨4, 0, ⟨#[]⟩, (blk l v.num.toNat).tab.next, ldS (ldF l f) (blk l v.num.toNat).tab.slots⟩ : V).find k = fk (ldS (ldF l f) (blk l v.num.toNat).tab.slots) k 0 := rfl
  cases hf : (blk l v.num.toNat).tab.find k with
  | some j =>
    obtain ⟨s, hs, hl, hk⟩ := Tb.find_key wt.ch hf
    have hm : (k, ldF l f s.val) ∈ ldS (ldF l f) (blk l v.num.toNat).tab.slots := by
      unfold ldS
      simp only [List.mem_map, List.mem_filter]
      exact ⟨s, ⟨List.mem_of_getElem? hs, hl⟩, by rw [hk]⟩
    obtain ⟨i, h1, h2⟩ := fk_nodup (by rw [ldS_keys]; exact wt.keys_once) hm 0
    rw [innerH_some hf hs]
    unfold V.get
    rw [hfind, h1]
    show (Option.bind (some (0 + i)) fun i => ((ldS (ldF l f) (blk l v.num.toNat).tab.slots)[i]?).map (·.2)).getD V.null = _
    rw [Nat.zero_add, Option.bind_some, h2]
    rfl
  | none =>
    have hno : k ∉ (ldS (ldF l f) (blk l v.num.toNat).tab.slots).map (·.1) := by
      rw [ldS_keys]
      intro hm
      unfold liveK at hm
      simp only [List.mem_map, List.mem_filter] at hm
      obtain ⟨s, ⟨hs, hl⟩, hk⟩ := hm
      exact wt.find_none hf s hs hl hk
    have := (fk_first (ldS (ldF l f) (blk l v.num.toNat).tab.slots) k 0).2 hno
    rw [innerH_none hf]
    unfold V.get
    rw [hfind, this]
    show V.null = ldF l f V.zero
    rw [ldF_other (by decide)]
    rfl
/-- where a path can be written: there are arrays all along, or nothing -/
def pathOk (l : List Bk) : List Ky → V → Bool → Prop
  | [], v, push => push = true → v.kind = 0 ∨ (v.kind = 5 ∧ (blk l v.num.toNat).tab.next ≤ 1000000000)
  | k :: r, v, push => (v.kind = 0 ∨ v.kind = 5) ∧ pathOk l r (inner0 l v k) push
theorem ld_kind {l : List Bk} {f : Nat} {v : V} (w : weighed l f v) (h : ¬ ¬ (ldF l f v).asArr.kind = 4) : v.kind = 0 ∨ v.kind = 5 := by
  by_cases h5 : v.kind = 5
  · exact .inr h5
  · rw [ldF_other h5] at h
    by_cases h0 : v.kind = 0
    · exact .inl h0
    · rw [V.asArr_other h0] at h
      exact absurd (held_other w.1 h5).1 h
theorem weighed.zero (l : List Bk) (f : Nat) : weighed l f V.zero := ⟨by unfold isHeld; rw [if_neg (by decide)]; decide, fun h => absurd h (by decide)⟩
theorem weighed.inner {l : List Bk} (h : hOk l) {f : Nat} {v : V} (w : weighed l (f + 1) v) (k : Ky) : weighed l f (inner0 l v k) := by
  unfold inner0
  split
  · rename_i h5
    cases hf : (blk l v.num.toNat).tab.find k with
    | some j =>
      obtain ⟨s, hs, hl⟩ := Tb.find_live hf
      rw [innerH_some hf hs]
      exact w.kids h.inR h5 j s hs hl
    | none =>
      rw [innerH_none hf]
      exact weighed.zero l f
  · exact weighed.zero l f
theorem weighed.up {l : List Bk} {f : Nat} {v : V} (w : weighed l f v) : weighed l (f + 1) v := ⟨w.1, fun h => by
  obtain ⟨n, hn⟩ := w.2 h
  exact ⟨n, wtF_mono l f _ _ hn⟩⟩
theorem pathOk_null {l : List Bk} : ∀ (p : List Ky) (push : Bool), pathOk l p V.zero push
  | [], _ => fun _ => .inl rfl
  | k :: r, push => ⟨.inl rfl, by unfold inner0; rw [if_neg (by decide)]; exact pathOk_null r push⟩
theorem pathOk_of {l : List Bk} (h : hOk l) (push : Bool) (y : V) : ∀ (p : List Ky) (f : Nat) (v : V), weighed l f v → ((ldF l f v).put p push y).2 = 0 → pathOk l p v push
  | [], f, v, w, hp => by
    intro hq
    subst hq
    rw [V.put_nil_t] at hp
    split at hp
    · simp at hp
    · rename_i hk
      rcases ld_kind w hk with h0 | h5
      · exact .inl h0
      · refine .inr ⟨h5, ?_⟩
        split at hp
        · simp at hp
        · rename_i hn
          cases f with
          | zero =>
            obtain ⟨n, hn⟩ := w.2 h5
            cases hn
          | succ f =>
            have e : (ldF l (f + 1) v).asArr = ldF l (f + 1) v := V.asArr_other (by rw [ldF_handle h5]; show ¬ (4 : Int) = 0; decide)
            rw [e, ldF_handle h5] at hn
            have hn : ¬ ¬ (0 ≤ (blk l v.num.toNat).tab.next ∧ (blk l v.num.toNat).tab.next ≤ 1000000000) := hn
            omega
  | k :: r, f, v, w, hp => by
    rw [V.put_cons] at hp
    split at hp
    · simp at hp
    · rename_i hk
      refine ⟨ld_kind w hk, ?_⟩
      have hp2 : (V.put (((ldF l f v).asArr.get k).getD V.null) r push y).2 = 0 := by
        split at hp
        · assumption
        · exact hp
      by_cases h5 : v.kind = 5
      · cases f with
        | zero =>
          obtain ⟨n, hn⟩ := w.2 h5
          cases hn
        | succ f =>
          have e : (ldF l (f + 1) v).asArr = ldF l (f + 1) v := V.asArr_other (by rw [ldF_handle h5]; show ¬ (4 : Int) = 0; decide)
          rw [e, get_ld h w h5] at hp2
          have e2 : inner0 l v k = innerH l v.num.toNat k := if_pos h5
          rw [← e2] at hp2
          exact pathOk_of h push y r f _ (w.inner h k) hp2
      · have e2 : inner0 l v k = V.zero := if_neg h5
        rw [e2]
        exact pathOk_null r push
/-- the path is no longer than the written tree is heavy -/
theorem weights_mem : ∀ {es : List (Ky × V)} {e : Ky × V}, e ∈ es → e.2.weight ≤ V.weights es
  | u :: r, e, h => by
    rw [V.weights_cons]
    cases h with
    | head => omega
    | tail _ h => have := weights_mem h; omega
theorem setKey_mem (o : V) (k : Ky) (x : V) : (k, x) ∈ (o.setKey k x).items := by
  unfold V.setKey
  cases hf : o.find k with
  | none => show (k, x) ∈ o.items ++ [(k, x)]; simp
  | some i =>
    obtain ⟨y, hy, _, _⟩ := V.find_get hf
    simp only [V.setAt, hy]
    show (k, x) ∈ o.items.take i ++ (k, x) :: o.items.drop (i + 1)
    simp
theorem put_heavy (push : Bool) (x : V) : ∀ (p : List Ky) (v : V), (v.put p push x).2 = 0 → p.length ≤ (v.put p push x).1.weight
  | [], _, _ => Nat.zero_le _
  | k :: r, v, h => by
    rw [V.put_cons] at h ⊢
    by_cases h4 : v.asArr.kind = 4
    case neg =>
      rw [if_pos h4] at h
      simp at h
    rw [if_neg (fun q => q h4)] at h ⊢
    by_cases h0 : (V.put ((v.asArr.get k).getD V.null) r push x).2 = 0
    case neg =>
      rw [if_neg h0] at h
      exact absurd h h0
    rw [if_pos h0]
    have ih := put_heavy push x r _ h0
    have hk : (v.asArr.setKey k (V.put ((v.asArr.get k).getD V.null) r push x).1).kind = 4 := by rw [(setKey_bulk _ _ _).2.2.2, h4]
    have := weights_mem (setKey_mem v.asArr k (V.put ((v.asArr.get k).getD V.null) r push x).1)
    simp only at this
    show r.length + 1 ≤ (v.asArr.setKey k (V.put ((v.asArr.get k).getD V.null) r push x).1).weight
    rw [V.weight_eq, if_pos hk]
    omega
end Go.Sx
namespace Go.Sx
open Go
/-! a value written into a shared heap -/
def shareSl : List Bk → List Sl → List Bk
  | l, [] => l
  | l, s :: r => shareSl (if s.live then shareH l s.val else l) r
theorem shareSl_append (p q : List Sl) : ∀ l, shareSl l (p ++ q) = shareSl (shareSl l p) q := by
  induction p with
  | nil => intro l; rfl
  | cons e r ih => intro l; rw [List.cons_append, shareSl, shareSl, ih]
theorem shareSl_snoc {l : List Bk} {ss : List Sl} {i : Nat} {s : Sl} (h : ss[i]? = some s) : shareSl l (ss.take (i + 1)) = if s.live then shareH (shareSl l (ss.take i)) s.val else shareSl l (ss.take i) := by
  rw [take_snoc h, shareSl_append]
  rfl
theorem shareSl_len : ∀ (ss : List Sl) (l : List Bk), (shareSl l ss).length = l.length
  | [], _ => rfl
  | s :: r, l => by
    rw [shareSl, shareSl_len r]
    split
    · exact shareH_len l s.val
    · rfl
/-- the block's own copy: its table shared out, one reference less -/
def splitH (l : List Bk) (i : Nat) : List Bk := (shareSl l (blk l i).tab.slots).set i ((blk (shareSl l (blk l i).tab.slots) i).withC ((blk (shareSl l (blk l i).tab.slots) i).count - 1))
def ownH (l : List Bk) (v : V) : List Bk × Nat :=
  if v.kind = 5 then (if (blk l v.num.toNat).count = 1 then (l, v.num.toNat) else (allocH (splitH l v.num.toNat) (blk l v.num.toNat).tab, freeN (splitH l v.num.toNat)))
  else (allocH l tb0, freeN l)
def setT (l : List Bk) (i : Nat) (k : Ky) (x : V) : List Bk := l.set i ((blk l i).withT ((blk l i).tab.put k x))
def wrH : List Ky → List Bk → V → Bool → V → List Bk × V
  | [], l, v, push, x => if push then (setT (ownH l v).1 (ownH l v).2 ⟨false, (blk (ownH l v).1 (ownH l v).2).tab.next, ⟨#[]⟩⟩ x, hnd (ownH l v).2) else (dropF (slotsN l + 1) l v, x)
  | k :: r, l, v, push, x => (setT (wrH r (ownH l v).1 (innerH (ownH l v).1 (ownH l v).2 k) push x).1 (ownH l v).2 k (wrH r (ownH l v).1 (innerH (ownH l v).1 (ownH l v).2 k) push x).2, hnd (ownH l v).2)
theorem wrH_drop (l : List Bk) (v x : V) : wrH [] l v false x = (dropF (slotsN l + 1) l v, x) := by rw [wrH]; rfl
theorem wrH_push (l : List Bk) (v x : V) : wrH [] l v true x = (setT (ownH l v).1 (ownH l v).2 ⟨false, (blk (ownH l v).1 (ownH l v).2).tab.next, ⟨#[]⟩⟩ x, hnd (ownH l v).2) := by rw [wrH]; rfl
theorem wrH_cons (k : Ky) (r : List Ky) (l : List Bk) (v : V) (push : Bool) (x : V) : wrH (k :: r) l v push x = (setT (wrH r (ownH l v).1 (innerH (ownH l v).1 (ownH l v).2 k) push x).1 (ownH l v).2 k (wrH r (ownH l v).1 (innerH (ownH l v).1 (ownH l v).2 k) push x).2, hnd (ownH l v).2) := by rw [wrH]
/-- what is right of a heap all through a write -/
structure sInv (c : Int) (L B : Nat) (l : List Bk) : Prop where
  inn : hIn l.length c l
  ch : allCh l
  few : ∀ (i : Nat) (b : Bk), l[i]? = some b → liveN b.tab.slots ≤ L
  small : ∀ (i : Nat) (b : Bk), l[i]? = some b → ∀ s ∈ b.tab.slots, s.val.bulk ≤ B
  hd : ∀ (i : Nat) (b : Bk), l[i]? = some b → b.tab.heads.length ≤ 1024
/-- one block is another one: what is asked of it -/
theorem sInv.set {c : Int} {L B : Nat} {l : List Bk} (h : sInv c L B l) (i : Nat) {u : Bk} (hc : 0 ≤ u.count ∧ u.count ≤ c) (hch : u.tab.ch) (hl : liveN u.tab.slots ≤ L) (hs : ∀ s ∈ u.tab.slots, s.val.bulk ≤ B) (hr : ∀ s ∈ u.tab.slots, s.live = true → refIn l.length s.val) (hh : u.tab.heads.length ≤ 1024) : sInv c L B (l.set i u) := by
  refine ⟨⟨rfl, fun j b hb k s hk hv h5 => ?_, fun j b hb => ?_⟩, fun j b hb => ?_, fun j b hb => ?_, fun j b hb => ?_, fun j b hb => ?_⟩
  · rw [List.length_set]
    rcases set_getB hb with ⟨rfl, rfl⟩ | hb
    · exact hr s (List.mem_of_getElem? hk) hv h5
    · exact h.inn.num j b hb k s hk hv h5
  · rcases set_getB hb with ⟨rfl, rfl⟩ | hb
    · exact hc
    · exact h.inn.cnt j b hb
  · rcases set_getB hb with ⟨rfl, rfl⟩ | hb
    · exact hch
    · exact h.ch j b hb
  · rcases set_getB hb with ⟨rfl, rfl⟩ | hb
    · exact hl
    · exact h.few j b hb
  · rcases set_getB hb with ⟨rfl, rfl⟩ | hb
    · exact hs
    · exact h.small j b hb
  · rcases set_getB hb with ⟨rfl, rfl⟩ | hb
    · exact hh
    · exact h.hd j b hb
theorem sInv.heads {c : Int} {L B : Nat} {l : List Bk} (h : sInv c L B l) (i : Nat) : (blk l i).tab.heads.length ≤ 1024 := by
  by_cases hi : i < l.length
  · exact h.hd i _ (blk_at hi)
  · rw [blk_out (by omega)]
    exact Nat.zero_le _
theorem sInv.bk {c : Int} {L B : Nat} {l : List Bk} (h : sInv c L B l) (i : Nat) : (blk l i).tab.ch ∧ liveN (blk l i).tab.slots ≤ L ∧ (∀ s ∈ (blk l i).tab.slots, s.val.bulk ≤ B) ∧ (∀ s ∈ (blk l i).tab.slots, s.live = true → refIn l.length s.val) := by
  by_cases hi : i < l.length
  · have hb := blk_at hi
    refine ⟨h.ch i _ hb, h.few i _ hb, h.small i _ hb, fun s hs hv h5 => ?_⟩
    obtain ⟨k, hk⟩ := List.getElem?_of_mem hs
    exact h.inn.num i _ hb k s hk hv h5
  · rw [blk_out (by omega)]
    refine ⟨tb0_ch, Nat.zero_le _, fun s hs => ?_, fun s hs => ?_⟩
    · cases hs
    · cases hs
theorem sInv.count {c : Int} {L B : Nat} {l : List Bk} (h : sInv c L B l) {i : Nat} (hi : i < l.length) : 0 ≤ (blk l i).count ∧ (blk l i).count ≤ c := h.inn.cnt i _ (blk_at hi)
theorem sInv.up {c c' : Int} {L L' B : Nat} {l : List Bk} (h : sInv c L B l) (hc : c ≤ c') (hL : L ≤ L') : sInv c' L' B l :=
  ⟨⟨rfl, h.inn.num, fun i b hb => (by have := h.inn.cnt i b hb; omega)⟩, h.ch, fun i b hb => (by have := h.few i b hb; omega), h.small, h.hd⟩
theorem sInv.share {c : Int} {L B : Nat} {l : List Bk} (h : sInv c L B l) (hc : 0 ≤ c) (v : V) : sInv (c + 1) L B (shareH l v) := by
  unfold shareH
  split
  · by_cases hi : v.num.toNat < l.length
    · obtain ⟨b1, b2, b3, b4⟩ := h.bk v.num.toNat
      have b5 := h.count hi
      exact (h.up (by omega) (Nat.le_refl _)).set _ ⟨by show 0 ≤ (blk l v.num.toNat).count + 1; omega, by show (blk l v.num.toNat).count + 1 ≤ c + 1; omega⟩ b1 b2 b3 b4 (h.heads v.num.toNat)
    · rw [List.set_eq_of_length_le (by omega)]
      exact h.up (by omega) (Nat.le_refl _)
  · exact h.up (by omega) (Nat.le_refl _)
theorem sInv.shareSl {L B : Nat} : ∀ (ss : List Sl) {c : Int} {l : List Bk}, sInv c L B l → 0 ≤ c → sInv (c + ss.length) L B (shareSl l ss)
  | [], c, l, h, _ => h.up (by simp) (Nat.le_refl _)
  | s :: r, c, l, h, hc => by
    rw [Go.Sx.shareSl, List.length_cons]
    split
    · exact (sInv.shareSl r (h.share hc s.val) (by omega)).up (by omega) (Nat.le_refl _)
    · exact (sInv.shareSl r h hc).up (by omega) (Nat.le_refl _)
/-- tables stay, counts do not fall -/
theorem share_blk (l : List Bk) (v : V) (i : Nat) : (blk (shareH l v) i).tab = (blk l i).tab ∧ (blk l i).count ≤ (blk (shareH l v) i).count := by
  unfold shareH
  split
  · by_cases he : v.num.toNat = i
    · by_cases hi : i < l.length
      · rw [he, blk_set_same hi]
        exact ⟨rfl, by show (blk l i).count ≤ (blk l i).count + 1; omega⟩
      · rw [List.set_eq_of_length_le (by omega)]
        exact ⟨rfl, Int.le_refl _⟩
    · rw [blk_set_ne he]
      exact ⟨rfl, Int.le_refl _⟩
  · exact ⟨rfl, Int.le_refl _⟩
theorem shareSl_blk : ∀ (ss : List Sl) (l : List Bk) (i : Nat), (blk (Go.Sx.shareSl l ss) i).tab = (blk l i).tab ∧ (blk l i).count ≤ (blk (Go.Sx.shareSl l ss) i).count
  | [], l, i => ⟨rfl, Int.le_refl _⟩
  | s :: r, l, i => by
    rw [Go.Sx.shareSl]
    obtain ⟨h1, h2⟩ := shareSl_blk r (if s.live then shareH l s.val else l) i
    split at h1
    · rename_i hl
      rw [if_pos hl] at h2
      rw [if_pos hl]
      obtain ⟨h3, h4⟩ := share_blk l s.val i
      exact ⟨h1.trans h3, by omega⟩
    · rename_i hl
      rw [if_neg hl] at h2
      rw [if_neg hl]
      exact ⟨h1, h2⟩
theorem sInv.alloc {c : Int} {L B : Nat} {l : List Bk} (h : sInv c L B l) (hc : 1 ≤ c) {t : Tb} (hch : t.ch) (hl : liveN t.slots ≤ L) (hs : ∀ s ∈ t.slots, s.val.bulk ≤ B) (hr : ∀ s ∈ t.slots, s.live = true → refIn l.length s.val) (hh : t.heads.length ≤ 1024) : sInv c L B (allocH l t) := by
  unfold allocH
  split
  · exact h.set _ ⟨by show (0 : Int) ≤ 1; decide, hc⟩ hch hl hs hr hh
  · have key : ∀ {j : Nat} {b : Bk}, (l ++ [⟨1, t⟩])[j]? = some b → l[j]? = some b ∨ b = ⟨1, t⟩ := fun hb => by
      rcases snoc_get hb with ⟨_, q⟩ | ⟨_, q⟩
      · exact .inl q
      · exact .inr q
    refine ⟨⟨rfl, fun j b hb k s hk hv h5 => ?_, fun j b hb => ?_⟩, fun j b hb => ?_, fun j b hb => ?_, fun j b hb => ?_, fun j b hb => ?_⟩
    · rw [List.length_append, List.length_singleton]
      rcases key hb with q | rfl
      · have := h.inn.num j b q k s hk hv h5
        omega
      · have := hr s (List.mem_of_getElem? hk) hv h5
        omega
    · rcases key hb with q | rfl
      · exact h.inn.cnt j b q
      · exact ⟨by show (0 : Int) ≤ 1; decide, hc⟩
    · rcases key hb with q | rfl
      · exact h.ch j b q
      · exact hch
    · rcases key hb with q | rfl
      · exact h.few j b q
      · exact hl
    · rcases key hb with q | rfl
      · exact h.small j b q
      · exact hs
    · rcases key hb with q | rfl
      · exact h.hd j b q
      · exact hh
theorem allocH_at (l : List Bk) (t : Tb) : blk (allocH l t) (freeN l) = ⟨1, t⟩ := by
  have := freeN_le l
  unfold allocH
  split
  · rename_i h
    exact blk_set_same h
  · have e : freeN l = l.length := by omega
    unfold blk
    rw [List.getD_eq_getElem?_getD, e, List.getElem?_append_right (Nat.le_refl _), Nat.sub_self]
    rfl
theorem allocH_other {l : List Bk} {t : Tb} {i : Nat} (hi : i < l.length) (hc : 0 < (blk l i).count) : blk (allocH l t) i = blk l i := by
  have hne : ¬ freeN l = i := fun e => by
    have := freeN_at (l := l) (b := blk l i) (by rw [e]; exact blk_at hi)
    omega
  unfold allocH
  split
  · exact blk_set_ne hne
  · unfold blk
    rw [List.getD_eq_getElem?_getD, List.getD_eq_getElem?_getD, List.getElem?_append_left hi]
/-- what the blocks that were there keep on the way down -/
structure down (l0 l : List Bk) : Prop where
  len : l0.length ≤ l.length
  same : ∀ i, i < l0.length → 0 < (blk l0 i).count → (blk l i).tab = (blk l0 i).tab ∧ 0 < (blk l i).count
theorem down.refl (l : List Bk) : down l l := ⟨Nat.le_refl _, fun _ _ h => ⟨rfl, h⟩⟩
theorem down.share {l0 l : List Bk} (h : down l0 l) (v : V) : down l0 (shareH l v) := ⟨by rw [shareH_len]; exact h.len, fun i hi hc => by
  obtain ⟨h1, h2⟩ := h.same i hi hc
  obtain ⟨h3, h4⟩ := share_blk l v i
  exact ⟨h3.trans h1, by omega⟩⟩
theorem down.alloc {l0 l : List Bk} (h : down l0 l) (t : Tb) : down l0 (allocH l t) := ⟨by have := (allocH_len l t).1; have := h.len; omega, fun i hi hc => by
  obtain ⟨h1, h2⟩ := h.same i hi hc
  have := h.len
  rw [allocH_other (by omega) h2]
  exact ⟨h1, h2⟩⟩
theorem splitH_len (l : List Bk) (i : Nat) : (splitH l i).length = l.length := by unfold splitH; rw [List.length_set, shareSl_len]
theorem down.split {l0 l : List Bk} (h : down l0 l) {i : Nat} (hi : i < l.length) (h2 : 2 ≤ (blk l i).count) : down l0 (splitH l i) := by
  refine ⟨by rw [splitH_len]; exact h.len, fun j hj hc => ?_⟩
  obtain ⟨h3, h4⟩ := h.same j hj hc
  obtain ⟨h5, h6⟩ := shareSl_blk (blk l i).tab.slots l j
  unfold splitH
  by_cases he : i = j
  · subst he
    rw [blk_set_same (by rw [shareSl_len]; exact hi)]
    refine ⟨h5.trans h3, ?_⟩
    show 0 < (blk (shareSl l (blk l i).tab.slots) i).count - 1
    omega
  · rw [blk_set_ne he]
    exact ⟨h5.trans h3, by omega⟩
/-- a value that is held in the first heap, or nothing -/
def was (l0 : List Bk) (v : V) : Prop := v.kind = 5 → 0 ≤ v.num ∧ v.num.toNat < l0.length ∧ 0 < (blk l0 v.num.toNat).count
theorem held_was {l : List Bk} {v : V} (h : isHeld l v = true) : was l v := fun k => held_num h k
theorem inner_was {l : List Bk} (h : inR l) {v : V} (w : was l v) (k : Ky) : was l (inner0 l v k) := by
  unfold inner0
  split
  · rename_i h5
    obtain ⟨q1, q2, q3⟩ := w h5
    cases hf : (blk l v.num.toNat).tab.find k with
    | some j =>
      obtain ⟨s, hs, hl⟩ := Tb.find_live hf
      rw [innerH_some hf hs]
      exact held_was (h _ _ (blk_at q2) j s hs hl)
    | none =>
      rw [innerH_none hf]
      intro q
      exact absurd q (by decide)
  · intro q
    exact absurd q (by decide)
theorem tb0_find (k : Ky) : tb0.find k = none := by
  unfold Tb.find
  rw [if_neg (by simp [tb0])]
  rw [if_neg]
  rintro ⟨_, _, _, q⟩
  simp [tb0] at q
def tab0 (l0 : List Bk) (v : V) : Tb := if v.kind = 5 then (blk l0 v.num.toNat).tab else tb0
theorem inner_tab {l0 l : List Bk} {v : V} {i : Nat} (h : (blk l i).tab = tab0 l0 v) (k : Ky) : innerH l i k = inner0 l0 v k := by
  unfold inner0 innerH
  rw [h]
  unfold tab0
  by_cases h5 : v.kind = 5
  · rw [if_pos h5, if_pos h5]
  · rw [if_neg h5, if_neg h5, tb0_find]
/-- a heap's own copy of a value: what stays, what the block is -/
theorem own_ok {c : Int} {L B : Nat} {l0 l : List Bk} (hd : down l0 l) (hi : sInv c L B l) (hc : 1 ≤ c) {v : V} (w : was l0 v) :
    down l0 (ownH l v).1 ∧ sInv (c + 1024) L B (ownH l v).1 ∧ (ownH l v).2 < (ownH l v).1.length ∧ (ownH l v).1.length ≤ l.length + 1 ∧ l.length ≤ (ownH l v).1.length ∧ (blk (ownH l v).1 (ownH l v).2).tab = tab0 l0 v := by
  unfold ownH
  by_cases h5 : v.kind = 5
  · rw [if_pos h5]
    obtain ⟨q1, q2, q3⟩ := w h5
    obtain ⟨s1, s2⟩ := hd.same _ q2 q3
    have hlen := hd.len
    have hin : (blk l v.num.toNat).tab = tab0 l0 v := by unfold tab0; rw [if_pos h5, s1]
    split
    · exact ⟨hd, hi.up (by omega) (Nat.le_refl _), by show v.num.toNat < l.length; omega, by show l.length ≤ l.length + 1; omega, Nat.le_refl _, hin⟩
    · rename_i h1
      have hlt : v.num.toNat < l.length := by omega
      obtain ⟨b1, b2, b3, b4⟩ := hi.bk v.num.toNat
      have hls := b1.len
      have i1 := sInv.shareSl (blk l v.num.toNat).tab.slots hi (by omega)
      obtain ⟨t1, t2⟩ := shareSl_blk (blk l v.num.toNat).tab.slots l v.num.toNat
      obtain ⟨c1, c2, c3, c4⟩ := i1.bk v.num.toNat
      have cc := i1.count (i := v.num.toNat) (by rw [shareSl_len]; exact hlt)
      have i2 : sInv (c + (blk l v.num.toNat).tab.slots.length) L B (splitH l v.num.toNat) := i1.set _ ⟨by show 0 ≤ (blk (shareSl l (blk l v.num.toNat).tab.slots) v.num.toNat).count - 1; omega, by show (blk (shareSl l (blk l v.num.toNat).tab.slots) v.num.toNat).count - 1 ≤ _; omega⟩ c1 c2 c3 c4 (i1.heads v.num.toNat)
      have d2 := hd.split hlt (by omega)
      have al := allocH_len (splitH l v.num.toNat) (blk l v.num.toNat).tab
      have sl := splitH_len l v.num.toNat
      refine ⟨d2.alloc _, (i2.alloc (by omega) b1 b2 b3 (fun s hs hv => by rw [sl]; exact b4 s hs hv) (hi.heads v.num.toNat)).up (by omega) (Nat.le_refl _), al.2.2, by show (allocH _ _).length ≤ _; omega, by show _ ≤ (allocH _ _).length; omega, ?_⟩
      show (blk (allocH (splitH l v.num.toNat) (blk l v.num.toNat).tab) (freeN (splitH l v.num.toNat))).tab = _
      rw [allocH_at]
      exact hin
  · rw [if_neg h5]
    have al := allocH_len l tb0
    refine ⟨hd.alloc _, (hi.alloc hc tb0_ch (Nat.zero_le _) (fun s hs => by cases hs) (fun s hs => by cases hs) (Nat.zero_le _)).up (by omega) (Nat.le_refl _), al.2.2, al.2.1, al.1, ?_⟩
    show (blk (allocH l tb0) (freeN l)).tab = _
    rw [allocH_at]
    unfold tab0
    rw [if_neg h5]
/-- what holds of the values of a table holds of those of the table with one more -/
theorem put_vals {Q : Bool → V → Prop} {t : Tb} {k : Ky} {x : V} (ht : ∀ s ∈ t.slots, Q s.live s.val) (hx : Q true x) : ∀ s ∈ (t.put k x).slots, Q s.live s.val := by
  have pushed : ∀ (o : Tb) (q : Ky) (y : V), (∀ s ∈ o.slots, Q s.live s.val) → Q true y → ∀ s ∈ (o.push q y).slots, Q s.live s.val := fun o q y ho hy s hs => by
    have hs : s ∈ o.slots ++ [⟨q, y, true, o.link q⟩] := hs
    rcases List.mem_append.1 hs with hs | hs
    · exact ho s hs
    · simp only [List.mem_singleton] at hs
      subst hs
      exact hy
  have all : ∀ (ss : List Sl) (o : Tb), (∀ s ∈ o.slots, Q s.live s.val) → (∀ s ∈ ss, Q s.live s.val) → ∀ s ∈ (o.pushAll ss).slots, Q s.live s.val := by
    intro ss
    induction ss with
    | nil => intro o ho _; exact ho
    | cons u r ih =>
      intro o ho hs
      rw [Tb.pushAll]
      refine ih _ ?_ fun s h => hs s (by simp [h])
      split
      · rename_i hu
        exact pushed o u.key u.val ho (by have := hs u (by simp); rwa [hu] at this)
      · exact ho
  have built : ∀ o : Tb, (∀ s ∈ o.slots, Q s.live s.val) → ∀ s ∈ o.build.slots, Q s.live s.val := fun o ho => all o.slots o.fresh (fun s hs => by cases hs) ho
  unfold Tb.put
  split
  · rename_i j hf
    obtain ⟨u, hu, hl⟩ := Tb.find_live hf
    rw [Tb.setVal_eq hu]
    intro s hs
    have hs : s ∈ t.slots.take j ++ ⟨u.key, x, u.live, u.link⟩ :: t.slots.drop (j + 1) := hs
    rcases List.mem_append.1 hs with hs | hs
    · exact ht s (List.mem_of_mem_take hs)
    · rcases List.mem_cons.1 hs with rfl | hs
      · show Q u.live x
        rw [hl]
        exact hx
      · exact ht s (List.mem_of_mem_drop hs)
  · have h1 : ∀ s ∈ (t.hashIf k).slots, Q s.live s.val := by
      unfold Tb.hashIf
      split
      · exact built t ht
      · exact ht
    have h2 : ∀ s ∈ ((t.hashIf k).growIf).slots, Q s.live s.val := by
      unfold Tb.growIf
      split
      · exact built _ h1
      · exact h1
    exact pushed _ k x h2 hx
theorem push_heads' (o : Tb) (k : Ky) (x : V) : (o.push k x).heads.length = o.heads.length := (o.push_slots k x).2
theorem put_heads {t : Tb} (c : t.ch) (h : t.heads.length ≤ 1024) (k : Ky) (x : V) (hl : t.find k = none → liveN t.slots < 1024) : (t.put k x).heads.length ≤ 1024 := by
  have built : ∀ {o : Tb}, o.ch → liveN o.slots < 1024 → o.build.heads.length ≤ 1024 := fun co lo => by
    rw [(co.build lo).size]
    exact (roomN_spec lo).2.1
  unfold Tb.put
  split
  · unfold Tb.setVal
    split
    · exact h
    · exact h
  · rename_i hf
    have l1 := hl hf
    obtain ⟨c1, l2, _⟩ := c.hashIf l1 k
    have h1 : (t.hashIf k).heads.length ≤ 1024 := by
      unfold Tb.hashIf
      split
      · exact built c l1
      · exact h
    have h2 : ((t.hashIf k).growIf).heads.length ≤ 1024 := by
      unfold Tb.growIf
      split
      · exact built c1 l2
      · exact h1
    show (((t.hashIf k).growIf).push k x).heads.length ≤ 1024
    rw [push_heads']
    exact h2
theorem setT_ok {c : Int} {L B : Nat} {l : List Bk} (h : sInv c L B l) {i : Nat} (hi : i < l.length) {k : Ky} (hk : keyOk k = true) {x : V} (hx : x.bulk ≤ B) (hr : refIn l.length x) (hL : L < 1024) : sInv c (L + 1) B (setT l i k x) := by
  obtain ⟨b1, b2, b3, b4⟩ := h.bk i
  have b5 := h.count hi
  have hl : (blk l i).tab.find k = none → liveN (blk l i).tab.slots < 1024 := fun _ => by omega
  have pl := put_live b1 k x hl
  refine (h.up (Int.le_refl _) (Nat.le_succ _)).set i b5 (b1.put x hk hl) (by show liveN ((blk l i).tab.put k x).slots ≤ L + 1; omega) ?_ ?_ (put_heads b1 (h.heads i) k x hl)
  · exact put_vals (Q := fun _ w => w.bulk ≤ B) b3 hx
  · intro s hs hv
    exact put_vals (Q := fun b w => b = true → refIn l.length w) b4 (fun _ => hr) s hs hv
theorem setT_len (l : List Bk) (i : Nat) (k : Ky) (x : V) : (setT l i k x).length = l.length := by unfold setT; rw [List.length_set]
/-- dropping: the tables stay, or are gone -/
theorem drop_tab : ∀ (f : Nat) (l : List Bk) (v : V) (i : Nat), (blk (dropF f l v) i).tab = (blk l i).tab ∨ (blk (dropF f l v) i).tab = tb0
  | 0, l, v, i => .inl rfl
  | f + 1, l, v, i => by
    rw [dropF]
    split
    · split
      · by_cases he : v.num.toNat = i
        · by_cases hi : i < l.length
          · rw [he, blk_set_same hi]
            exact .inl rfl
          · rw [List.set_eq_of_length_le (by omega)]
            exact .inl rfl
        · rw [blk_set_ne he]
          exact .inl rfl
      · have key : ∀ (ss : List Sl) (l' : List Bk), (blk (dropS (dropF f) l' ss) i).tab = (blk l' i).tab ∨ (blk (dropS (dropF f) l' ss) i).tab = tb0 := by
          intro ss
          induction ss with
          | nil => intro l'; exact .inl rfl
          | cons s r ih =>
            intro l'
            rw [dropS]
            rcases ih (if s.live then dropF f l' s.val else l') with h | h
            · rw [h]
              split
              · exact drop_tab f l' s.val i
              · exact .inl rfl
            · exact .inr h
        rcases key (blk l v.num.toNat).tab.slots (l.set v.num.toNat bk0) with h | h
        · rw [h]
          by_cases he : v.num.toNat = i
          · by_cases hi : i < l.length
            · rw [he, blk_set_same hi]
              exact .inr rfl
            · rw [List.set_eq_of_length_le (by omega)]
              exact .inl rfl
          · rw [blk_set_ne he]
            exact .inl rfl
        · exact .inr h
    · exact .inl rfl
theorem drop_ok {c : Int} {L B : Nat} {l : List Bk} (h : sInv c L B l) {v : V} (hr : refIn l.length v) (f : Nat) : sInv c L B (dropF f l v) ∧ (dropF f l v).length = l.length := by
  obtain ⟨i1, _⟩ := drop_in f l v h.inn hr
  have hlen := i1.len
  have key : ∀ (j : Nat) (b : Bk), (dropF f l v)[j]? = some b → b.tab = (blk l j).tab ∨ b.tab = tb0 := fun j b hb => by
    have := drop_tab f l v j
    rwa [blk_get hb] at this
  refine ⟨⟨by rw [hlen]; exact i1, fun j b hb => ?_, fun j b hb => ?_, fun j b hb => ?_, fun j b hb => ?_⟩, hlen⟩
  · rcases key j b hb with q | q
    · rw [q]; exact (h.bk j).1
    · rw [q]; exact tb0_ch
  · rcases key j b hb with q | q
    · rw [q]; exact (h.bk j).2.1
    · rw [q]; exact Nat.zero_le _
  · rcases key j b hb with q | q
    · rw [q]; exact (h.bk j).2.2.1
    · rw [q]; intro s hs; cases hs
  · rcases key j b hb with q | q
    · rw [q]; exact h.heads j
    · rw [q]; exact Nat.zero_le _
theorem refIn.up {n m : Nat} {v : V} (h : refIn n v) (k : n ≤ m) : refIn m v := fun q => by
  have := h q
  omega
theorem hnd_ref {i n : Nat} (h : i < n) : refIn n (hnd i) := fun _ => by
  show (0 : Int) ≤ (i : Nat) ∧ ((i : Nat) : Int).toNat < n
  omega
theorem push_key {n : Int} (h0 : 0 ≤ n) (h1 : n ≤ 1000000000) : keyOk ⟨false, n, ⟨#[]⟩⟩ = true := by
  unfold keyOk
  simp
  omega
/-- a write: what is right of the heap that comes of it -/
theorem wr_ok {B : Nat} {l0 : List Bk} (hR : inR l0) (hC : allCh l0) (push : Bool) {x : V} (hx : x.bulk ≤ B) : ∀ (p : List Ky) {c : Int} {L : Nat} {l : List Bk} {v : V}, (∀ k ∈ p, keyOk k = true) → down l0 l → sInv c L B l → 1 ≤ c → L + p.length + 1 ≤ 1024 → was l0 v → pathOk l0 p v push → refIn l.length x →
    sInv (c + 1024 * ((p.length : Int) + 1)) (L + p.length + 1) B (wrH p l v push x).1 ∧ (wrH p l v push x).1.length ≤ l.length + p.length + 1 ∧ l.length ≤ (wrH p l v push x).1.length ∧ refIn (wrH p l v push x).1.length (wrH p l v push x).2 ∧ (wrH p l v push x).2.bulk ≤ B
  | [], c, L, l, v, hk, hd, hi, hc, hL, w, po, hr => by
    cases push with
    | false =>
      rw [wrH_drop]
      have hrv : refIn l.length v := fun q => by
        have := w q
        have := hd.len
        omega
      obtain ⟨i1, i2⟩ := drop_ok hi hrv (slotsN l + 1)
      refine ⟨i1.up (by simp; omega) (by omega), by simp only [i2]; omega, by simp only [i2]; exact Nat.le_refl _, by simp only [i2]; exact hr, hx⟩
    | true =>
      rw [wrH_push]
      obtain ⟨d1, i1, o1, o2, o3, o4⟩ := own_ok hd hi hc w
      have hn : 0 ≤ (tab0 l0 v).next ∧ (tab0 l0 v).next ≤ 1000000000 := by
        unfold tab0
        rcases po rfl with h0 | ⟨h5, hn⟩
        · rw [if_neg (by omega)]
          exact ⟨Int.le_refl _, by decide⟩
        · rw [if_pos h5]
          have := ((hC.blk v.num.toNat).next).1
          exact ⟨this, hn⟩
      have hkk : keyOk ⟨false, (blk (ownH l v).1 (ownH l v).2).tab.next, ⟨#[]⟩⟩ = true := by rw [o4]; exact push_key hn.1 hn.2
      have s1 := setT_ok i1 o1 hkk hx (hr.up o3) (by simp at hL; omega)
      refine ⟨s1.up (by simp) (by simp), ?_, ?_, ?_, Nat.zero_le _⟩
      · simp only [setT_len]; simp; omega
      · simp only [setT_len]; exact o3
      · simp only [setT_len]; exact hnd_ref o1
  | k :: r, c, L, l, v, hk, hd, hi, hc, hL, w, po, hr => by
    rw [wrH_cons]
    obtain ⟨d1, i1, o1, o2, o3, o4⟩ := own_ok hd hi hc w
    have e := inner_tab o4 k
    rw [e]
    simp only [List.length_cons] at hL ⊢
    obtain ⟨w1, w2, w3, w4, w5⟩ := wr_ok hR hC push hx r (fun q hq => hk q (by simp [hq])) d1 i1 (by omega) (by omega) (inner_was hR w k) po.2 (hr.up o3)
    have s1 := setT_ok w1 (i := (ownH l v).2) (by omega) (hk k (by simp)) w5 w4 (by omega)
    refine ⟨s1.up (by omega) (by omega), ?_, ?_, ?_, Nat.zero_le _⟩
    · simp only [setT_len]; omega
    · simp only [setT_len]; omega
    · simp only [setT_len]; exact hnd_ref (by omega)
end Go.Sx
namespace Go.Sx
open Go
theorem sumW_live {g : Nat → Option Nat} (hg : ∀ i n, g i = some n → 1 ≤ n) : ∀ (ss : List Sl) (m : Nat), sumW g ss = some m → liveN ss ≤ m
  | [], m, _ => Nat.zero_le _
  | s :: r, m, h => by
    rw [sumW] at h
    rw [show s :: r = [s] ++ r from rfl, liveN_append, liveN_one]
    cases hl : s.live with
    | false =>
      rw [hl] at h
      simp only [Bool.false_eq_true, if_false] at h ⊢
      have := sumW_live hg r m h
      omega
    | true =>
      rw [hl] at h
      simp only [if_true] at h ⊢
      cases h1 : (if s.val.kind = 5 then g s.val.num.toNat else some 1) with
      | none => rw [h1] at h; cases h
      | some a =>
        cases h2 : sumW g r with
        | none => rw [h1, h2] at h; cases h
        | some b =>
          rw [h1, h2] at h
          have e : a + b = m := Option.some.inj h
          have i1 := sumW_live hg r b h2
          have ha : 1 ≤ a := by
            split at h1
            · exact hg _ _ h1
            · have := Option.some.inj h1
              omega
          omega
theorem wtF_pos {l : List Bk} : ∀ (f i n : Nat), wtF l f i = some n → 1 ≤ n
  | 0, _, _, h => by cases h
  | f + 1, i, n, h => by
    rw [wtF] at h
    simp only [Option.map_eq_some_iff] at h
    obtain ⟨m, _, rfl⟩ := h
    omega
theorem hOk.sInv {l : List Bk} (h : hOk l) (hb : szG Bk.bulk l ≤ 1048576) : sInv 1000000000000 199 1048576 l := by
  refine ⟨h.hIn, h.ch, fun i b hbk => ?_, fun i b hbk s hs => ?_, fun i b hbk => ?_⟩
  · by_cases hc : 0 < b.count
    · obtain ⟨n, hn, hw⟩ := h.light i b hbk hc
      obtain ⟨m, ⟨f, hm⟩, rfl⟩ := Wt.iff.1 hw
      rw [blk_get hbk] at hm
      have := sumW_live (wtF_pos f) _ _ hm
      omega
    · have := h.blk i b hbk
      by_cases h0 : b.count = 0
      · rw [bkOk_free h0] at this
        rw [free_slots this]
        exact Nat.zero_le _
      · have := ((bkOk_live h0).1 this).1
        omega
  · have h1 := slots_bulk hbk
    have h2 := ((tab_slots b.tab).2 s hs).1
    omega
  · have := h.blk i b hbk
    by_cases h0 : b.count = 0
    · rw [bkOk_free h0] at this
      rw [free_tab this]
      exact Nat.zero_le _
    · have w := b.tab.isTab_iff.1 ((bkOk_live h0).1 this).2.1
      cases ht : b.tab.hashed with
      | true => exact (w.hash ht).1.2
      | false => have := (w.packed ht).1; omega
theorem szG_le {α : Type} {w : α → Nat} {M : Nat} : ∀ {l : List α}, (∀ a ∈ l, w a ≤ M) → szG w l ≤ l.length * (1 + M)
  | [], _ => by simp [szG, gsum]
  | a :: r, h => by
    have h1 := h a (by simp)
    have h2 := szG_le (w := w) (M := M) (l := r) fun b hb => h b (by simp [hb])
    rw [szG_cons, List.length_cons, Nat.add_mul]
    omega
theorem tab_small {B : Nat} {t : Tb} (c : t.ch) (hs : ∀ s ∈ t.slots, s.val.bulk ≤ B) (hh : t.heads.length ≤ 1024) : t.bulk ≤ 1024 + 1024 * (401 + B) := by
  have h1 : szG Sl.bulk t.slots ≤ t.slots.length * (1 + (400 + B)) := szG_le fun s h => by
    have h2 := hs s h
    obtain ⟨k, hk⟩ := List.getElem?_of_mem h
    have h3 : s.key.str.size ≤ 400 := by
      have := (c.keys k s hk).1
      unfold keyOk at this
      cases ht : s.key.text with
      | true => rw [ht] at this; simp at this; omega
      | false => rw [ht] at this; simp at this; rw [this.1]; exact Nat.zero_le _
    have e : Sl.bulk s = s.key.str.size + s.val.bulk := rfl
    omega
  have h2 := c.len
  have h3 : t.slots.length * (1 + (400 + B)) ≤ 1024 * (1 + (400 + B)) := Nat.mul_le_mul_right _ h2
  unfold Tb.bulk
  omega
theorem sInv.tabs {c : Int} {L B : Nat} {l : List Bk} (h : sInv c L B l) (i : Nat) : (blk l i).tab.bulk ≤ 1024 + 1024 * (401 + B) := by
  obtain ⟨b1, _, b3, _⟩ := h.bk i
  exact tab_small b1 b3 (h.heads i)
theorem sInv.bulk {c : Int} {L B : Nat} {l : List Bk} (h : sInv c L B l) : szG Bk.bulk l ≤ l.length * (1 + (1024 + 1024 * (401 + B))) := szG_le fun b hb => by
  obtain ⟨i, hi⟩ := List.getElem?_of_mem hb
  have := h.tabs i
  rwa [blk_get hi] at this
/-! what SetShared does -/
def putCode (v : V) (p : List Ky) (push : Bool) (x : V) : Int := if (v.put p push x).2 = 0 then (if (v.put p push x).1.weight ≤ 200 then 0 else 9) else (v.put p push x).2
def shC (l : List Bk) (v : V) (p : List Ky) (push : Bool) (x : V) : Int := putCode (ldF l 200 v) p push (ldF l 200 x)
def root (rs : List V) (i : Int) : V := rs.getD i.toNat V.zero
def inRg (rs : List V) (i : Int) : Bool := decide (0 ≤ i ∧ i ≤ (rs.length : Int) - 1)
def setShOk (l : List Bk) (rs : List V) (i : Int) (p : List Ky) (j : Int) : Bool := inRg rs i && (inRg rs j && (countedB l rs && p.all keyOk))
def setSh (l : List Bk) (rs : List V) (i : Int) (p : List Ky) (push : Bool) (j : Int) : List Bk × V × Int :=
  if setShOk l rs i p j then (if shC l (root rs i) p push (root rs j) = 0 then ((wrH p (shareH l (root rs j)) (root rs i) push (root rs j)).1, (wrH p (shareH l (root rs j)) (root rs i) push (root rs j)).2, 0) else (l, root rs i, shC l (root rs i) p push (root rs j))) else (l, V.zero, 5)
theorem root_get {rs : List V} {i : Int} (h : inRg rs i = true) : rs[i.toNat]? = some (root rs i) ∧ 0 ≤ i ∧ i.toNat < rs.length := by
  unfold inRg at h
  have h := of_decide_eq_true h
  refine ⟨?_, h.1, by omega⟩
  unfold root
  rw [List.getD_eq_getElem?_getD, List.getElem?_eq_getElem (by omega)]
  rfl
theorem countedB_iff {l : List Bk} {rs : List V} : countedB l rs = true ↔ hOk l ∧ (∀ v ∈ rs, isHeld l v = true) ∧ sameC l (counts l rs) = true := by
  unfold countedB allHeld
  simp only [Bool.and_eq_true, heapB_iff, List.all_eq_true]
/-- what a write that is let through leans on -/
structure setGo (l : List Bk) (rs : List V) (i : Int) (p : List Ky) (push : Bool) (j : Int) : Prop where
  ok : hOk l
  hv : isHeld l (root rs i) = true
  hx : isHeld l (root rs j) = true
  keys : ∀ k ∈ p, keyOk k = true
  path : pathOk l p (root rs i) push
  len : p.length ≤ 200
theorem setGo.of {l : List Bk} {rs : List V} {i j : Int} {p : List Ky} {push : Bool} (h : setShOk l rs i p j = true) (h0 : shC l (root rs i) p push (root rs j) = 0) : setGo l rs i p push j := by
  unfold setShOk at h
  simp only [Bool.and_eq_true, List.all_eq_true] at h
  obtain ⟨h1, h2, h3, h4⟩ := h
  obtain ⟨hk, hh, _⟩ := countedB_iff.1 h3
  have hv := hh _ (List.mem_of_getElem? (root_get h1).1)
  have hx := hh _ (List.mem_of_getElem? (root_get h2).1)
  unfold shC putCode at h0
  have hp : ((ldF l 200 (root rs i)).put p push (ldF l 200 (root rs j))).2 = 0 := by
    split at h0
    · assumption
    · exact h0
  rw [if_pos hp] at h0
  have hw : ((ldF l 200 (root rs i)).put p push (ldF l 200 (root rs j))).1.weight ≤ 200 := by
    split at h0
    · assumption
    · cases h0
  have := put_heavy push (ldF l 200 (root rs j)) p _ hp
  exact ⟨hk, hv, hx, h4, pathOk_of hk push _ p 200 _ (hk.weighed hv) hp, by omega⟩
theorem setGo.start {l : List Bk} {rs : List V} {i j : Int} {p : List Ky} {push : Bool} (g : setGo l rs i p push j) (hb : szG Bk.bulk l ≤ 1048576) :
    down l (shareH l (root rs j)) ∧ sInv 1000000000001 199 1048576 (shareH l (root rs j)) ∧ was l (root rs i) ∧ refIn (shareH l (root rs j)).length (root rs j) ∧ (root rs j).bulk ≤ 1048576 := by
  refine ⟨(down.refl l).share _, (g.ok.sInv hb).share (by decide) _, held_was g.hv, ?_, ?_⟩
  · rw [shareH_len]
    exact held_ref g.hx
  · have := held_items g.hx
    have e := V.bulk_eq (root rs j)
    rw [this.1] at e
    have z : V.bulks [] = 0 := rfl
    omega
theorem setGo.fin {l : List Bk} {rs : List V} {i j : Int} {p : List Ky} {push : Bool} (g : setGo l rs i p push j) (hb : szG Bk.bulk l ≤ 1048576) :
    szG Bk.bulk (wrH p (shareH l (root rs j)) (root rs i) push (root rs j)).1 ≤ 1126999418470400 * 1 + 1126999418470400 ∧ (wrH p (shareH l (root rs j)) (root rs i) push (root rs j)).2.bulk ≤ 1048576 := by
  obtain ⟨d, s, w, r, b⟩ := g.start hb
  obtain ⟨w1, w2, w3, w4, w5⟩ := wr_ok g.ok.inR g.ok.ch push b p g.keys d s (by decide) (by have := g.len; omega) w g.path r
  refine ⟨?_, w5⟩
  have h1 := w1.bulk
  have h2 := szG_len (w := Bk.bulk) l
  rw [shareH_len] at w2
  have h3 := g.len
  have h4 : (wrH p (shareH l (root rs j)) (root rs i) push (root rs j)).1.length ≤ 1048777 := by omega
  have h5 : (wrH p (shareH l (root rs j)) (root rs i) push (root rs j)).1.length * (1 + (1024 + 1024 * (401 + 1048576))) ≤ 1048777 * (1 + (1024 + 1024 * (401 + 1048576))) := Nat.mul_le_mul_right _ h4
  omega
theorem setSh_bulk (l : List Bk) (rs : List V) (i : Int) (p : List Ky) (push : Bool) (j : Int) (hb : szG Bk.bulk l ≤ 1048576) (hr : szG V.bulk rs ≤ 1048576) : szG Bk.bulk (setSh l rs i p push j).1 ≤ 2253998836940800 ∧ (setSh l rs i p push j).2.1.bulk ≤ 1048576 := by
  unfold setSh
  split
  · rename_i h
    split
    · rename_i h0
      have := (setGo.of h h0).fin hb
      exact ⟨by simp only; omega, this.2⟩
    · refine ⟨by simp only; omega, ?_⟩
      unfold setShOk at h
      simp only [Bool.and_eq_true] at h
      have := szG_mem (w := V.bulk) (List.mem_of_getElem? (root_get h.1).1)
      simp only
      omega
  · exact ⟨by simp only; omega, Nat.zero_le _⟩
end Go.Sx
/-! What storing a value needs. -/
namespace Go.Sx
open Go
theorem allocH_in {l : List Bk} {t : Tb} (h : freeN l < l.length) : allocH l t = l.set (freeN l) ⟨1, t⟩ := if_pos h
theorem allocH_out {l : List Bk} {t : Tb} (h : freeN l = l.length) : allocH l t = l ++ [⟨1, t⟩] := if_neg (by omega)
theorem app_set (l : List Bk) (u w : Bk) : (l ++ [u]).set l.length w = l ++ [w] := by
  rw [List.set_append_right _ _ (Nat.le_refl _), Nat.sub_self]
  rfl
section
variable {P : Program} {h0 h : Hp} {K : Value → Hp → Prop} {bag : Bag}
/-- one thing is laid aside: it becomes part of the base -/
theorem My.part {d : Dt} {v : Value} (m : My h0 h ((d, v) :: bag)) : ∃ h', My h0 h' [(d, v)] ∧ My h' h bag := by
  obtain ⟨B1, B2, l1, l2, k2, k3, k4⟩ := My.cons_iff.1 m
  obtain ⟨n1, n2, n3⟩ := List.nodup_append.1 k2
  have k4' : ∀ b o, h0 b = some o → h b = some o := k4
  refine ⟨fun b => if b ∈ B1 then h b else h0 b, My.cons_iff.2 ⟨B1, [], l1.frame fun b hb => by simp only [if_pos hb], by simp [OwL], by simpa using n1, fun b hb => k3 b (by simpa using .inl (by simpa using hb)), fun i o hi => ?_⟩, ⟨B2, l2, n2, fun b hb => ?_⟩, fun i o hi => ?_⟩
  · have hn : i ∉ B1 := fun hb => by
      rw [k3 i (List.mem_append.2 (.inl hb))] at hi
      cases hi
    simp only [if_neg hn]
    exact hi
  · have hn : b ∉ B1 := fun h1 => n3 b h1 b hb rfl
    simp only [if_neg hn]
    exact k3 b (List.mem_append.2 (.inr hb))
  · have hi : (if i ∈ B1 then h i else h0 i) = some o := hi
    split at hi
    · exact hi
    · exact k4' i o hi
/-- a value, and a heap in a variable -/
def HpR (h0 : Hp) (w : V) (l : List Bk) (bp : Nat) (R : Bag) (u : Value) (h' : Hp) : Prop := ∃ b c a n, u = .agg #[.int .i64 w.kind, .int .i64 w.num, .string w.str, .int .i64 w.next, .slice b w.items.length c] ∧ My h0 h' ((.row 8 (w.items.flatMap edt), .slice b w.items.length c) :: HpB l a n bp R)
end
end Go.Sx
namespace Go.Proofs.YtedfplodobpgfaaGreatDoor
set_option maxRecDepth 8000
open Go Go.Sx
theorem rg9 : List.range 9 = [0, 1, 2, 3, 4, 5, 6, 7, 8] := by decide
theorem rg9b : List.range' 9 (9 - 9) = [] := by decide
theorem iHandle (i : Nat) (h : Hp) : ACalls Tryz.prog 161 #[.int .i64 (i : Nat)] h (Pu (.agg #[.int .i64 5, .int .i64 (i : Nat), .string ⟨#[]⟩, .int .i64 0, .slice none 0 0]) h) := by
  (refine enter Tryz.func161 rfl rfl (by kernel_rfl) [] ?_; simp only [go_sem, Nat.reduceBEq, Nat.reduceAdd, Nat.reduceLeDiff])
  exact ⟨rfl, rfl⟩
set_option maxHeartbeats 1600000 in
theorem iAlloc (l : List Bk) (t : Tb) (hl : l.length ≤ 1099511627776) (hc : ∀ b ∈ l, 0 ≤ b.count) (a1 a2 a : Option Addr) (n1 n2 n bp : Nat) (R : Bag) (h0 h : Hp) (m : My h0 h ((.row 1 (t.heads.flatMap idt), .slice a1 t.heads.length n1) :: (.row 10 (t.slots.flatMap Sl.dt), .slice a2 t.slots.length n2) :: HpB l a n bp R)) : ACalls Tryz.prog 149 #[.pointer (some ⟨bp, 0, none⟩), .agg #[.bool t.hashed, .slice a1 t.heads.length n1, .slice a2 t.slots.length n2, .int .i64 t.next, .int .i64 t.count]] h (HpR h0 (hnd (freeN l)) (allocH l t) bp R) := by
  have m : My h0 h ((.row 1 (t.heads.flatMap idt), .slice a1 t.heads.length n1) :: (.row 10 (t.slots.flatMap Sl.dt), .slice a2 t.slots.length n2) :: (.row 6 (l.flatMap Bk.dt), .slice a l.length n) :: (.ptr [] [.raw (.slice a l.length n)] [], .pointer (some ⟨bp, 0, none⟩)) :: R) := m
  obtain ⟨_, _, es, _, _, hat⟩ := m.third.row_shape (by decide) l.length (fm_len Bk.dt_len _)
  cases es
  (refine enter Tryz.func149 rfl rfl (by kernel_rfl) [] ?_; simp only [go_sem, Nat.reduceBEq])
  refine Hold.ld1 (i := 0) Hold.ptr tyS58 m.fourth rfl rfl ?_
  try simp only [go_sem, Nat.reduceBEq]
  refine aloop (ι := Nat) (fun i => [(12, .val (.int .i64 (i : Nat))), (11, .val (.int .i64 (l.length : Nat))), (10, .val (.slice a l.length n)), (4, .box 4 0), (3, .box 3 0), (0, .val (.pointer (some ⟨bp, 0, none⟩)))])
    (fun _ => [(4, [.int .i64 0, .int .i64 0, .string ⟨#[]⟩, .int .i64 0, .slice none 0 0]), (3, [.bool t.hashed, .slice a1 t.heads.length n1, .slice a2 t.slots.length n2, .int .i64 t.next, .int .i64 t.count])])
    (fun i h' => i ≤ l.length ∧ h' = h ∧ ∀ (j : Nat) (b : Bk), j < i → l[j]? = some b → 0 < b.count) (fun i => l.length - i) 0
    ⟨Nat.zero_le _, rfl, fun j b hj => by omega⟩ (by repeat (first | exact wkF_e | refine wkF_c rfl ?_)) (wkB_c rfl (wkB_c rfl wkB_e)) rfl ?_
  rintro i hx ⟨hi, rfl, pr⟩
  have hi : i ≤ l.length := hi
  have pr : ∀ (j : Nat) (b : Bk), j < i → l[j]? = some b → 0 < b.count := pr
  try simp only [go_sem, Nat.reduceBEq]
  refine Br.intro (fun hq => ?_) (fun hq => ?_) <;> (try simp only [hq, go_sem, Nat.reduceBEq])
  · have hq : i < l.length := by simpa using hq
    obtain ⟨b, rfl⟩ := hat (by omega)
    obtain ⟨e, he, hm⟩ := get_lt hq
    have wsu := wrap_succ (i := i) (by omega)
    have hce := hc e hm
    obtain ⟨_, _, _, eqs, _, hr6, hat6⟩ := m.third.rd.rows (by decide) l.length (fm_len Bk.dt_len _)
    cases eqs
    obtain ⟨b6, o6, eq6, hat6⟩ := hat6 (by omega)
    cases eq6
    simp only [ix_nat hq, go_sem, Nat.reduceBEq]
    refine hsem_blk tyS107 hat6 hr6 he (by omega) fun s2 u2 rh ru => ?_
    obtain ⟨a3, c3, _, rfl, _⟩ := rh.rows (by decide) e.tab.heads.length (fm_len idt_len _)
    obtain ⟨a4, c4, _, rfl, _⟩ := ru.rows (by decide) e.tab.slots.length (fm_len Sl.dt_len _)
    try simp only [go_sem, Nat.reduceBEq, Nat.reduceAdd, Nat.reduceLeDiff]
    by_cases hz : e.count = 0
    · have hfr : freeN l = i := freeN_is pr hi fun b hb => by
        rw [he] at hb
        cases hb
        omega
      simp only [decide_eq_true hz, go_sem]
      refine regionD_intro (lb := [25]) (by kernel_rfl) ?_
      simp only [go_sem, Nat.reduceBEq]
      refine Hold.ld1 (i := 0) Hold.ptr tyS58 m.fourth rfl rfl ?_
      obtain ⟨c, hd, hcu⟩ := hold_bk (l := l) (b := b) (cap := n) hq
      have m2 : My h0 hx ((.row 1 (t.heads.flatMap idt), .slice a1 t.heads.length n1) :: (.row 10 (t.slots.flatMap Sl.dt), .slice a2 t.slots.length n2) :: (c (blk l i).dt, .slice (some ⟨b, 0, none⟩) l.length n) :: (.ptr [] [.raw (.slice (some ⟨b, 0, none⟩) l.length n)] [], .pointer (some ⟨bp, 0, none⟩)) :: R) := by
        rw [hcu, set_blk hq]
        exact m
      simp only [ix_nat hq, go_sem, Nat.reduceBEq, Nat.reduceAdd, Nat.reduceLeDiff]
      refine bk_store hd (u := ⟨1, t⟩) tyS107 (Bk.dt_len _) m2 (by omega) fun h4 m4 => ?_
      rw [hcu] at m4
      try simp only [go_sem, Nat.reduceBEq]
      (refine (iHandle i _).mono ?_; rintro _ _ ⟨rfl, rfl⟩; simp only [go_sem, Nat.reduceBEq, Nat.reduceAdd, Nat.reduceLeDiff])
      refine ⟨none, 0, some ⟨b, 0, none⟩, n, by rw [hfr]; rfl, ?_⟩
      rw [allocH_in (by rw [hfr]; exact hq), hfr]
      unfold HpB
      rw [List.length_set]
      exact m4.nilrow
    · simp only [decide_eq_false hz, wsu, go_sem, Nat.reduceBEq]
      refine Again.intro (i + 1) (by first | omega | (simp only; omega)) ⟨hq, rfl, fun j b hj hb => ?_⟩ (by repeat (first | exact wkF_e | refine wkF_c rfl ?_)) (wkB_c rfl (wkB_c rfl wkB_e)) rfl
      by_cases hji : j = i
      · subst hji
        rw [he] at hb
        cases hb
        omega
      · exact pr j b (by omega) hb
  · have hq : i = l.length := by simp at hq; omega
    subst hq
    have hfr : freeN l = l.length := freeN_is pr hi fun b hb => by simp at hb
    have hw1 : IntKind.i64.wrap (((l.length + 1 : Nat) : Int) - 1) = ((l.length : Nat) : Int) := by rw [IntWalk.i64_in _ (by omega)]; omega
    refine regionS_at (lb := [36]) (pl := [35]) (only hx bp) only_refl 9 9 9 10 [9, 10, 11] [9, 10, 11] (by kernel_rfl) ?_
    simp only [rg9, rg9b, pkO_c, pkO_n, pk_s, List.getElem?_toArray, List.getElem?_cons_succ, List.getElem?_cons_zero, go_sem, Nat.reduceBEq]
    refine Hold.still1 (i := 0) Hold.ptr tyS58 m.fourth rfl rfl ?_
    try simp only [go_sem, Nat.reduceBEq, Nat.reduceAdd, Nat.reduceLeDiff]
    refine hsem_my_litE (h0 := h0) (es := Bk.dt ⟨1, t⟩) (parts := [(0, .agg #[.int .i64 1, .bool t.hashed, .slice a1 t.heads.length n1, .slice a2 t.slots.length n2, .int .i64 t.next, .int .i64 t.count])]) slT58 (by decide) (by decide) (by decide) rfl rfl (by simp [Value.cells]) (bag := HpB l a n bp R) ?_ rfl (Bk.dt_len _) fun l4 h4 m4 e4 => ?_
    · simp only [flat, List.flatMap_cons, List.flatMap_nil, List.append_nil, cells_agg]
      exact bk_zip ⟨1, t⟩ m
    have m4 : My h0 h4 ((.row 6 (Bk.dt ⟨1, t⟩), l4) :: (.row 6 (l.flatMap Bk.dt), .slice a l.length n) :: (.ptr [] [.raw (.slice a l.length n)] [], .pointer (some ⟨bp, 0, none⟩)) :: R) := m4
    obtain ⟨ob, hob⟩ := Hold.there (x := [.raw (.slice a l.length n)]) Hold.ptr m.fourth
    try simp only [go_sem, Nat.reduceBEq]
    refine ⟨only_of hob e4, ?_⟩
    refine hsem_my_appendK slT58 (by decide) rfl l.length 1 m4.swap bp (fun B kB => Hold.mem (x := [.raw (.slice a l.length n)]) Hold.ptr kB) (fm_len Bk.dt_len _) (Bk.dt_len _) (by show (l.length + 1) * 80 ≤ _; omega) (by omega) fun l5 h5 m5 e5 => ?_
    have e45 : h5 bp = hx bp := by rw [e5, hob, e4 _ _ hob]
    have m5 : My h0 h5 ((.row 6 (l.flatMap Bk.dt ++ Bk.dt ⟨1, t⟩), l5) :: (.ptr [] [.raw (.slice a l.length n)] [], .pointer (some ⟨bp, 0, none⟩)) :: R) := m5
    rw [show l.flatMap Bk.dt ++ Bk.dt ⟨1, t⟩ = (l ++ [(⟨1, t⟩ : Bk)]).flatMap Bk.dt by rw [List.flatMap_append, List.flatMap_cons, List.flatMap_nil, List.append_nil]] at m5
    obtain ⟨a6, c6, rfl, _⟩ := m5.row_shape (by decide) (l.length + 1) (by rw [fm_len Bk.dt_len, List.length_append, List.length_singleton])
    try simp only [go_sem]
    refine ⟨only_ext e45, ?_⟩
    try simp only [go_sem, Nat.reduceBEq, Nat.reduceAdd, Nat.reduceLeDiff, Nat.reduceEqDiff, Int.reduceEq, not_false_eq_true, Int.reduceToNat]
    refine ⟨?_, ?_⟩ <;> (
      try simp only [go_sem, Nat.reduceBEq]
      refine Hold.put1 Hold.ptr (d := .raw (.slice a l.length n)) tyS58 rfl rfl m5.swap rfl fun h6 m6 => ?_
      try simp only [go_sem, Nat.reduceBEq]
      refine Hold.ld1 (i := 0) Hold.ptr tyS58 m6 rfl rfl ?_
      try simp only [hw1, go_sem, Nat.reduceBEq]
      (refine (iHandle l.length _).mono ?_; rintro _ _ ⟨rfl, rfl⟩; simp only [go_sem, Nat.reduceBEq, Nat.reduceAdd, Nat.reduceLeDiff])
      refine ⟨none, 0, a6, c6, by rw [hfr]; rfl, ?_⟩
      rw [allocH_out hfr]
      unfold HpB
      rw [List.length_append, List.length_singleton]
      exact m6.swap.nilrow)
set_option maxHeartbeats 1600000 in
theorem sAlloc (l : List Bk) (t : Tb) (hl : l.length ≤ 1099511627776) (hc : ∀ b ∈ l, 0 ≤ b.count) (a1 a2 a : Option Addr) (n1 n2 n bp : Nat) (R : Bag) (h0 h : Hp) (m : My h0 h ((.row 1 (t.heads.flatMap idt), .slice a1 t.heads.length n1) :: (.row 10 (t.slots.flatMap Sl.dt), .slice a2 t.slots.length n2) :: HpB l a n bp R)) : ACalls Tryz.prog 145 #[.pointer (some ⟨bp, 0, none⟩), .agg #[.bool t.hashed, .slice a1 t.heads.length n1, .slice a2 t.slots.length n2, .int .i64 t.next, .int .i64 t.count]] h (HpR h0 (hnd (freeN l)) (allocH l t) bp R) := by
  have m : My h0 h ((.row 1 (t.heads.flatMap idt), .slice a1 t.heads.length n1) :: (.row 10 (t.slots.flatMap Sl.dt), .slice a2 t.slots.length n2) :: (.row 6 (l.flatMap Bk.dt), .slice a l.length n) :: (.ptr [] [.raw (.slice a l.length n)] [], .pointer (some ⟨bp, 0, none⟩)) :: R) := m
  obtain ⟨_, _, es, _, _, hat⟩ := m.third.row_shape (by decide) l.length (fm_len Bk.dt_len _)
  cases es
  (refine enter Tryz.func145 rfl rfl (by kernel_rfl) [] ?_; simp only [go_sem, Nat.reduceBEq])
  refine aloop (ι := Nat) (fun i => [(5, .val (.int .i64 (i : Nat))), (4, .box 4 0), (3, .box 3 0), (0, .val (.pointer (some ⟨bp, 0, none⟩)))])
    (fun _ => [(4, [.int .i64 0, .int .i64 0, .string ⟨#[]⟩, .int .i64 0, .slice none 0 0]), (3, [.bool t.hashed, .slice a1 t.heads.length n1, .slice a2 t.slots.length n2, .int .i64 t.next, .int .i64 t.count])])
    (fun i h' => i ≤ l.length ∧ h' = h ∧ ∀ (j : Nat) (b : Bk), j < i → l[j]? = some b → 0 < b.count) (fun i => l.length - i) 0
    ⟨Nat.zero_le _, rfl, fun j b hj => by omega⟩ (by repeat (first | exact wkF_e | refine wkF_c rfl ?_)) (wkB_c rfl (wkB_c rfl wkB_e)) rfl ?_
  rintro i hx ⟨hi, rfl, pr⟩
  have hi : i ≤ l.length := hi
  have pr : ∀ (j : Nat) (b : Bk), j < i → l[j]? = some b → 0 < b.count := pr
  try simp only [go_sem, Nat.reduceBEq]
  refine Hold.ld1 (i := 0) Hold.ptr tyS58 m.fourth rfl rfl ?_
  by_cases hq : i < l.length
  · have dq : decide (((i : Nat) : Int) < ((l.length : Nat) : Int)) = true := decide_eq_true (by omega)
    have dn : decide (((i : Nat) : Int) = ((l.length : Nat) : Int)) = false := decide_eq_false (by omega)
    obtain ⟨b, rfl⟩ := hat (by omega)
    obtain ⟨e, he, hm⟩ := get_lt hq
    have ebk : blk l i = e := by
      have := blk_at hq
      rw [he] at this
      exact (Option.some.inj this).symm
    have wsu := wrap_succ (i := i) (by omega)
    have hce := hc e hm
    simp only [dq, go_sem, Nat.reduceBEq]
    refine Hold.ld1 (i := 0) Hold.ptr tyS58 m.fourth rfl rfl ?_
    simp only [ix_nat hq, go_sem, Nat.reduceBEq]
    refine bcnt_ld hq tyS3 m.third (by omega) ?_
    rw [ebk]
    try simp only [go_sem, Nat.reduceBEq]
    refine Br.intro (fun hp => ?_) (fun hp => ?_) <;> (try simp only [hp, go_sem, Nat.reduceBEq])
    · have hp : 0 < e.count := by simpa using hp
      try simp only [wsu, go_sem]
      refine Again.intro (i + 1) (by first | omega | (simp only; omega)) ⟨hq, rfl, fun j b hj hb => ?_⟩ (by repeat (first | exact wkF_e | refine wkF_c rfl ?_)) (wkB_c rfl (wkB_c rfl wkB_e)) rfl
      by_cases hji : j = i
      · subst hji
        rw [he] at hb
        cases hb
        exact hp
      · exact pr j b (by omega) hb
    · have hp : ¬ 0 < e.count := by simpa using hp
      have hfr : freeN l = i := freeN_is pr hi fun b hb => by
        rw [he] at hb
        cases hb
        exact hp
      try simp only [go_sem, Nat.reduceBEq, Nat.reduceAdd, Nat.reduceLeDiff, Nat.reduceEqDiff, Int.reduceEq, not_false_eq_true, Int.reduceToNat]
      refine Hold.ld1 (i := 0) Hold.ptr tyS58 m.fourth rfl rfl ?_
      simp only [dn, go_sem, Nat.reduceBEq]
      have hqq := hq
      refine regionD_intro (lb := [48]) (by kernel_rfl) ?_
      simp only [go_sem, Nat.reduceBEq]
      refine Hold.ld1 (i := 0) Hold.ptr tyS58 m.fourth rfl rfl ?_
      obtain ⟨c, hd, hcu⟩ := hold_bk (l := l) (b := b) (cap := n) hqq
      have m2 : My h0 hx ((.row 1 (t.heads.flatMap idt), .slice a1 t.heads.length n1) :: (.row 10 (t.slots.flatMap Sl.dt), .slice a2 t.slots.length n2) :: (c (blk l i).dt, .slice (some ⟨b, 0, none⟩) (l).length n) :: (.ptr [] [.raw (.slice (some ⟨b, 0, none⟩) (l).length n)] [], .pointer (some ⟨bp, 0, none⟩)) :: R) := by
        rw [hcu, set_blk hqq]
        exact m
      try simp only [go_sem, Nat.reduceBEq, Nat.reduceAdd, Nat.reduceLeDiff]
      simp only [ix_nat hqq, go_sem, Nat.reduceBEq]
      refine bk_store hd (u := ⟨1, t⟩) tyS107 (Bk.dt_len _) m2 (by omega) fun h4 m4 => ?_
      rw [hcu] at m4
      try simp only [go_sem, Nat.reduceBEq, Nat.reduceAdd, Nat.reduceLeDiff]
      refine ⟨none, 0, some ⟨b, 0, none⟩, n, by rw [hfr]; rfl, ?_⟩
      rw [allocH_in (by rw [hfr]; exact hq), hfr]
      unfold HpB
      rw [List.length_set]
      exact m4.nilrow
  · have hq : i = l.length := by omega
    subst hq
    have hfr : freeN l = l.length := freeN_is pr hi fun b hb => by simp at hb
    have dq : decide (((l.length : Nat) : Int) < ((l.length : Nat) : Int)) = false := decide_eq_false (by omega)
    simp only [dq, go_sem, Nat.reduceBEq]
    refine Hold.ld1 (i := 0) Hold.ptr tyS58 m.fourth rfl rfl ?_
    have dn : decide (((l.length : Nat) : Int) = ((l.length : Nat) : Int)) = true := decide_eq_true rfl
    simp only [go_sem, Nat.reduceBEq]
    refine Hold.ld1 (i := 0) Hold.ptr tyS58 m.fourth rfl rfl ?_
    try simp only [go_sem, Nat.reduceBEq]
    refine hsem_my_lit (h0 := h0) (es := Bk.dt bk0) (parts := [(0, .agg #[.int .i64 0, .bool false, .slice none 0 0, .slice none 0 0, .int .i64 0, .int .i64 0])]) slT58 (by decide) (by decide) (by decide) rfl rfl (by simp [Value.cells]) (bag := (.row 1 (t.heads.flatMap idt), .slice a1 t.heads.length n1) :: (.row 10 (t.slots.flatMap Sl.dt), .slice a2 t.slots.length n2) :: HpB l a n bp R) ?_ rfl (Bk.dt_len _) fun l4 h4 m4 => ?_
    · simp only [flat, List.flatMap_cons, List.flatMap_nil, List.append_nil, cells_agg]
      exact bk_zip bk0 ((m.nilrow (z := 10)).nilrow (z := 1))
    have m4 : My h0 h4 ((.row 6 (Bk.dt bk0), l4) :: (.row 1 (t.heads.flatMap idt), .slice a1 t.heads.length n1) :: (.row 10 (t.slots.flatMap Sl.dt), .slice a2 t.slots.length n2) :: (.row 6 (l.flatMap Bk.dt), .slice a l.length n) :: (.ptr [] [.raw (.slice a l.length n)] [], .pointer (some ⟨bp, 0, none⟩)) :: R) := m4
    try simp only [go_sem, Nat.reduceBEq]
    refine hsem_my_append slT58 (by decide) rfl l.length 1 m4.fourth (fm_len Bk.dt_len _) (Bk.dt_len _) (by show (l.length + 1) * 80 ≤ _; omega) (by omega) fun l5 h5 m5 => ?_
    have m5 : My h0 h5 ((.row 6 (l.flatMap Bk.dt ++ Bk.dt bk0), l5) :: (.row 1 (t.heads.flatMap idt), .slice a1 t.heads.length n1) :: (.row 10 (t.slots.flatMap Sl.dt), .slice a2 t.slots.length n2) :: (.ptr [] [.raw (.slice a l.length n)] [], .pointer (some ⟨bp, 0, none⟩)) :: R) := m5
    rw [show l.flatMap Bk.dt ++ Bk.dt bk0 = (l ++ [bk0]).flatMap Bk.dt by rw [List.flatMap_append, List.flatMap_cons, List.flatMap_nil, List.append_nil]] at m5
    obtain ⟨a6, c6, rfl, _, _, hat6⟩ := m5.row_shape (by decide) (l ++ [bk0]).length (fm_len Bk.dt_len _)
    have hlb : (l ++ [bk0]).length = l.length + 1 := by rw [List.length_append, List.length_singleton]
    obtain ⟨b, rfl⟩ := hat6 (by omega)
    have hqq : l.length < (l ++ [bk0]).length := by omega
    try simp only [go_sem, Nat.reduceBEq]
    refine Hold.put1 Hold.ptr (d := .raw (.slice a l.length n)) tyS58 rfl rfl m5.fourth rfl fun h6 m6 => ?_
    have m6 := m6.swap.fourth.fourth
    try simp only [go_sem]
    refine regionD_intro (lb := [48]) (by kernel_rfl) ?_
    simp only [go_sem, Nat.reduceBEq]
    refine Hold.ld1 (i := 0) Hold.ptr tyS58 m6.fourth rfl rfl ?_
    obtain ⟨c, hd, hcu⟩ := hold_bk (l := (l ++ [bk0])) (b := b) (cap := c6) hqq
    have m2 : My h0 h6 ((.row 1 (t.heads.flatMap idt), .slice a1 t.heads.length n1) :: (.row 10 (t.slots.flatMap Sl.dt), .slice a2 t.slots.length n2) :: (c (blk (l ++ [bk0]) l.length).dt, .slice (some ⟨b, 0, none⟩) ((l ++ [bk0])).length c6) :: (.ptr [] [.raw (.slice (some ⟨b, 0, none⟩) ((l ++ [bk0])).length c6)] [], .pointer (some ⟨bp, 0, none⟩)) :: R) := by
      rw [hcu, set_blk hqq]
      exact m6
    try simp only [go_sem, Nat.reduceBEq, Nat.reduceAdd, Nat.reduceLeDiff]
    simp only [ix_nat hqq, go_sem, Nat.reduceBEq]
    refine bk_store hd (u := ⟨1, t⟩) tyS107 (Bk.dt_len _) m2 (by omega) fun h4 m4 => ?_
    rw [hcu] at m4
    try simp only [go_sem, Nat.reduceBEq, Nat.reduceAdd, Nat.reduceLeDiff]
    refine ⟨none, 0, some ⟨b, 0, none⟩, c6, by rw [hfr]; rfl, ?_⟩
    rw [app_set, hlb] at m4
    rw [allocH_out hfr]
    unfold HpB
    rw [List.length_append, List.length_singleton]
    exact m4.nilrow
end Go.Proofs.YtedfplodobpgfaaGreatDoor
namespace Go.Proofs.YtedfplodobpgfaaGreatDoor
set_option maxRecDepth 8000
open Go Go.Sx
/-- the value itself, or a handle of a block made anew -/
def HpOwn (h0 : Hp) (l : List Bk) (v : V) (w : Value) (bp : Nat) (R : Bag) (u : Value) (h' : Hp) : Prop :=
  if v.kind = 5 ∧ (blk l v.num.toNat).count = 1 then u = w ∧ ∃ a n, My h0 h' (HpB l a n bp R) else HpR h0 (hnd (ownH l v).2) (ownH l v).1 bp R u h'
def HpSame (h0 : Hp) (l : List Bk) (w : Value) (bp : Nat) (R : Bag) (u : Value) (h' : Hp) : Prop := u = w ∧ ∃ a n, My h0 h' (HpB l a n bp R)
theorem HpOwn_same {h0 : Hp} {l : List Bk} {v : V} {w : Value} {bp : Nat} {R : Bag} (h : v.kind = 5 ∧ (blk l v.num.toNat).count = 1) : HpOwn h0 l v w bp R = HpSame h0 l w bp R := by
  funext u h'
  unfold HpOwn
  rw [if_pos h]
  rfl
theorem HpOwn_new {h0 : Hp} {l : List Bk} {v : V} {w : Value} {bp : Nat} {R : Bag} (h : ¬ (v.kind = 5 ∧ (blk l v.num.toNat).count = 1)) : HpOwn h0 l v w bp R = HpR h0 (hnd (ownH l v).2) (ownH l v).1 bp R := by
  funext u h'
  unfold HpOwn
  rw [if_neg h]
theorem own_new {l : List Bk} {v : V} (h : ¬ v.kind = 5) : ownH l v = (allocH l tb0, freeN l) := if_neg h
theorem own_split {l : List Bk} {v : V} (h : v.kind = 5) (k : ¬ (blk l v.num.toNat).count = 1) : ownH l v = (allocH (splitH l v.num.toNat) (blk l v.num.toNat).tab, freeN (splitH l v.num.toNat)) := by
  unfold ownH
  rw [if_pos h, if_neg k]
theorem inv_cnts {c : Int} {L B : Nat} {l : List Bk} (h : sInv c L B l) : ∀ b ∈ l, 0 ≤ b.count := fun b hb => by
  obtain ⟨i, hi⟩ := List.getElem?_of_mem hb
  exact (h.inn.cnt i b hi).1
set_option maxHeartbeats 1600000 in
theorem iOwn {c : Int} {L B : Nat} (l : List Bk) (v : V) (hi : sInv c L B l) (hc1 : 1 ≤ c) (hcb : c ≤ 1099511627776) (hB : B ≤ 1048576) (hlb : l.length ≤ 1099511627775) (hk : v.kind = 0 ∨ v.kind = 5) (hr : refIn l.length v) (hp : v.kind = 5 → 0 < (blk l v.num.toNat).count) (av : Option Addr) (nv cv : Nat) (a : Option Addr) (n bp : Nat) (R : Bag) (h0 h : Hp) (my : My h0 h (HpB l a n bp R)) : ACalls Tryz.prog 153 #[.pointer (some ⟨bp, 0, none⟩), .agg #[.int .i64 v.kind, .int .i64 v.num, .string v.str, .int .i64 v.next, .slice av nv cv]] h (HpOwn h0 l v (.agg #[.int .i64 v.kind, .int .i64 v.num, .string v.str, .int .i64 v.next, .slice av nv cv]) bp R) := by
  (refine enter Tryz.func153 rfl rfl (by kernel_rfl) [] ?_; simp only [go_sem, Nat.reduceBEq])
  by_cases h5 : v.kind = 5
  case neg =>
    have hz : v.kind = 0 := hk.resolve_right h5
    rw [HpOwn_new (fun q => h5 q.1), own_new h5]
    simp only [decide_eq_false h5, Bool.not_false, go_sem, Nat.reduceBEq]
    (refine (newTab_c _).mono ?_; rintro _ _ ⟨rfl, rfl⟩; simp only [go_sem, Nat.reduceBEq])
    try simp only [go_sem, Nat.reduceBEq, Nat.reduceAdd, Nat.reduceLeDiff, Nat.reduceEqDiff, Int.reduceEq, not_false_eq_true, Int.reduceToNat]
    refine (iAlloc l tb0 (by omega) (inv_cnts hi) none none a 0 0 n bp R h0 _ ((my.nilrow (z := 10)).nilrow (z := 1))).mono ?_
    rintro _ h2 ⟨b2, c2, a2, n2, rfl, m2⟩
    try simp only [go_sem, Nat.reduceBEq, Nat.reduceAdd, Nat.reduceLeDiff]
    exact ⟨b2, c2, a2, n2, rfl, m2⟩
  obtain ⟨q1, q2⟩ := hr h5
  have hpos := hp h5
  obtain ⟨w1, w2⟩ := hi.count q2
  have hz : ¬ v.kind = 0 := by omega
  have my : My h0 h ((.row 6 (l.flatMap Bk.dt), .slice a l.length n) :: (.ptr [] [.raw (.slice a l.length n)] [], .pointer (some ⟨bp, 0, none⟩)) :: R) := my
  obtain ⟨_, _, es, _, _, hat⟩ := my.row_shape (by decide) l.length (fm_len Bk.dt_len _)
  cases es
  obtain ⟨b, rfl⟩ := hat (by omega)
  simp only [decide_eq_true h5, Bool.not_true, go_sem]
  refine regionD_intro (lb := [19]) (by kernel_rfl) ?_
  simp only [go_sem, Nat.reduceBEq]
  refine Hold.ld1 (i := 0) Hold.ptr tyS58 my.swap rfl rfl ?_
  simp only [ix_int q1 q2, go_sem, Nat.reduceBEq]
  refine bcnt_ld q2 tyS3 my (by omega) ?_
  by_cases h1 : (blk l v.num.toNat).count = 1
  · rw [HpOwn_same ⟨h5, h1⟩]
    simp only [decide_eq_true h1, go_sem, Nat.reduceBEq, Nat.reduceAdd, Nat.reduceLeDiff]
    exact ⟨rfl, _, n, my⟩
  rw [HpOwn_new (fun q => h1 q.2), own_split h5 h1]
  simp only [decide_eq_false h1, go_sem, Nat.reduceBEq]
  refine regionD_intro (lb := [30]) (by kernel_rfl) ?_
  simp only [go_sem, Nat.reduceBEq]
  refine Hold.ld1 (i := 0) Hold.ptr tyS58 my.swap rfl rfl ?_
  have htb := hi.tabs v.num.toNat
  obtain ⟨tch, _, tsm, trf⟩ := hi.bk v.num.toNat
  have tlen := tch.len
  have hbk := blk_at q2
  generalize htt : (blk l v.num.toNat).tab = t at *
  obtain ⟨_, _, _, eqs, _, hr6, hat6⟩ := my.rd.rows (by decide) l.length (fm_len Bk.dt_len _)
  cases eqs
  obtain ⟨b6, o6, eq6, hat6⟩ := hat6 (by omega)
  cases eq6
  simp only [ix_int q1 q2, go_sem, Nat.reduceBEq]
  refine hsem_btab tyS36 hat6 hr6 hbk (by omega) fun s2 u2 rh ru => ?_
  rw [htt] at rh ru ⊢
  try simp only [go_sem, Nat.reduceBEq]
  refine (copyTable_c t (by omega) _ _ _ rh ru).mono ?_
  rintro _ h2 ⟨a4, c4, a5, c5, rfl, m2⟩
  have m2 : My h0 h2 (HpB l (some ⟨b, 0, none⟩) n bp ((.row 1 (t.heads.flatMap idt), .slice a4 t.heads.length c4) :: (.row 10 (t.slots.flatMap Sl.dt), .slice a5 t.slots.length c5) :: R)) := (my.add m2).fourth.fourth
  try simp only [go_sem, Nat.reduceBEq, Nat.reduceAdd, Nat.reduceLeDiff]
  refine aloop (ι := Nat) (fun k => [(38, .val (.int .i64 (k : Nat))), (37, .val (.int .i64 (t.slots.length : Nat))), (36, .val (.slice a5 t.slots.length c5)), (5, .box 5 0), (4, .box 4 0), (3, .box 3 0), (0, .val (.pointer (some ⟨bp, 0, none⟩)))]) (fun _ => [(5, [.bool t.hashed, .slice a4 t.heads.length c4, .slice a5 t.slots.length c5, .int .i64 t.next, .int .i64 t.count]), (4, [.int .i64 0, .int .i64 0, .string ⟨#[]⟩, .int .i64 0, .slice none 0 0]), (3, [.int .i64 v.kind, .int .i64 v.num, .string v.str, .int .i64 v.next, .slice av nv cv])])
    (fun k h' => k ≤ t.slots.length ∧ My h0 h' (HpB (shareSl l (t.slots.take k)) (some ⟨b, 0, none⟩) n bp ((.row 1 (t.heads.flatMap idt), .slice a4 t.heads.length c4) :: (.row 10 (t.slots.flatMap Sl.dt), .slice a5 t.slots.length c5) :: R))) (fun k => t.slots.length - k) 0
    ⟨Nat.zero_le _, m2⟩ (by repeat (first | exact wkF_e | refine wkF_c rfl ?_)) (wkB_c rfl (wkB_c rfl (wkB_c rfl wkB_e))) rfl ?_
  rintro k h6 ⟨hkl, m6⟩
  have hkl : k ≤ t.slots.length := hkl
  have m6 : My h0 h6 (HpB (shareSl l (t.slots.take k)) (some ⟨b, 0, none⟩) n bp ((.row 1 (t.heads.flatMap idt), .slice a4 t.heads.length c4) :: (.row 10 (t.slots.flatMap Sl.dt), .slice a5 t.slots.length c5) :: R)) := m6
  have inv := hi.shareSl (t.slots.take k) (by omega)
  have hle : (t.slots.take k).length ≤ t.slots.length := by rw [List.length_take]; omega
  try simp only [go_sem, Nat.reduceBEq]
  refine Br.intro (fun hq => ?_) (fun hq => ?_) <;> (try simp only [hq, go_sem, Nat.reduceBEq])
  · have hq : k < t.slots.length := by simpa using hq
    obtain ⟨e, he, hme⟩ := get_lt hq
    have wsu := wrap_succ (i := k) (by omega)
    have rs : Rd h6 (.row 10 (t.slots.flatMap Sl.dt)) (.slice a5 t.slots.length c5) := m6.fourth.rd
    obtain ⟨_, _, xs, eq, _, hrs, hats⟩ := rs.rows (by decide) t.slots.length (fm_len Sl.dt_len _)
    cases eq
    obtain ⟨b4, o4, rfl, hatq⟩ := hats (by omega)
    simp only [ix_nat hq, go_sem, Nat.reduceBEq]
    refine hsem_slot tyS134 hatq hrs he rfl fun s5 rd5 => ?_
    obtain ⟨a6, c6, _, rfl, _⟩ := rd5.rows (by decide) e.val.items.length (fm_len edt_len _)
    cases hv : e.live with
    | false =>
      try simp only [wsu, go_sem, Nat.reduceBEq, Nat.reduceAdd, Nat.reduceLeDiff]
      exact Again.intro (k + 1) (by first | omega | (simp only; omega)) ⟨hq, by rw [shareSl_snoc he, hv]; exact m6⟩ (by repeat (first | exact wkF_e | refine wkF_c rfl ?_)) (wkB_c rfl (wkB_c rfl (wkB_c rfl wkB_e))) rfl
    | true =>
      try simp only [go_sem, Nat.reduceBEq, Nat.reduceAdd, Nat.reduceLeDiff]
      have hrf : refIn (shareSl l (t.slots.take k)).length e.val := by rw [shareSl_len]; exact trf e hme hv
      refine (iShare (shareSl l (t.slots.take k)) e.val hrf (fun q => ?_) _ _ _ _ _ _ _ h0 _ m6).mono ?_
      · obtain ⟨p1, p2⟩ := inv.count (hrf q).2
        exact ⟨p1, by omega⟩
      rintro _ h7 ⟨rfl, m7⟩
      try simp only [wsu, go_sem, Nat.reduceBEq]
      exact Again.intro (k + 1) (by first | omega | (simp only; omega)) ⟨hq, by rw [shareSl_snoc he, hv, if_pos rfl]; exact m7⟩ (by repeat (first | exact wkF_e | refine wkF_c rfl ?_)) (wkB_c rfl (wkB_c rfl (wkB_c rfl wkB_e))) rfl
  have hq : k = t.slots.length := by simp at hq; omega
  subst hq
  rw [List.take_length] at m6 inv
  obtain ⟨sb1, sb2⟩ := shareSl_blk t.slots l v.num.toNat
  have hsl : (shareSl l t.slots).length = l.length := shareSl_len _ _
  have hspl : splitH l v.num.toNat = (shareSl l t.slots).set v.num.toNat ((blk (shareSl l t.slots) v.num.toNat).withC ((blk (shareSl l t.slots) v.num.toNat).count - 1)) := by
    unfold splitH
    rw [htt]
  generalize shareSl l t.slots = l1 at *
  have q3 : v.num.toNat < l1.length := by omega
  obtain ⟨p1, p2⟩ := inv.count q3
  have hw : IntKind.i64.wrap ((blk l1 v.num.toNat).count - 1) = (blk l1 v.num.toNat).count - 1 := IntWalk.i64_in _ (by omega)
  have hcn : ∀ b ∈ splitH l v.num.toNat, 0 ≤ b.count := fun b hb => by
    rw [hspl] at hb
    rcases List.mem_or_eq_of_mem_set hb with hb | rfl
    · exact inv_cnts inv b hb
    · show 0 ≤ (blk l1 v.num.toNat).count - 1
      omega
  try simp only [go_sem, Nat.reduceBEq, Nat.reduceAdd, Nat.reduceLeDiff, Nat.reduceEqDiff, Int.reduceEq, not_false_eq_true, Int.reduceToNat]
  refine regionD_intro (lb := [54]) (by kernel_rfl) ?_
  simp only [go_sem, Nat.reduceBEq]
  refine Hold.ld1 (i := 0) Hold.ptr tyS58 m6.swap rfl rfl ?_
  simp only [ix_int q1 q3, go_sem, Nat.reduceBEq]
  refine bcnt_ld q3 tyS3 m6 (by omega) ?_
  simp only [ix_int q1 q3, hw, go_sem, Nat.reduceBEq]
  refine bcnt_st _ q3 tyS3 m6 (by omega) fun h8 m8 => ?_
  rw [← hspl] at m8
  have hsl2 : l1.length = (splitH l v.num.toNat).length := by rw [splitH_len]; exact hsl
  rw [hsl2] at m8
  try simp only [go_sem, Nat.reduceBEq, Nat.reduceAdd, Nat.reduceLeDiff]
  refine (iAlloc (splitH l v.num.toNat) t (by omega) hcn a4 a5 _ c4 c5 n bp R h0 _ (My.fourth (My.fourth m8))).mono ?_
  rintro _ h9 ⟨b2, c2, a2, n2, rfl, m9⟩
  try simp only [go_sem, Nat.reduceBEq, Nat.reduceAdd, Nat.reduceLeDiff]
  exact ⟨b2, c2, a2, n2, rfl, m9⟩
set_option maxHeartbeats 1600000 in
theorem sOwn {c : Int} {L B : Nat} (l : List Bk) (v : V) (hi : sInv c L B l) (hc1 : 1 ≤ c) (hcb : c ≤ 1099511627776) (hB : B ≤ 1048576) (hlb : l.length ≤ 1099511627775) (hk : v.kind = 0 ∨ v.kind = 5) (hr : refIn l.length v) (hp : v.kind = 5 → 0 < (blk l v.num.toNat).count) (av : Option Addr) (nv cv : Nat) (a : Option Addr) (n bp : Nat) (R : Bag) (h0 h : Hp) (my : My h0 h (HpB l a n bp R)) : ACalls Tryz.prog 151 #[.pointer (some ⟨bp, 0, none⟩), .agg #[.int .i64 v.kind, .int .i64 v.num, .string v.str, .int .i64 v.next, .slice av nv cv]] h (HpOwn h0 l v (.agg #[.int .i64 v.kind, .int .i64 v.num, .string v.str, .int .i64 v.next, .slice av nv cv]) bp R) := by
  (refine enter Tryz.func151 rfl rfl (by kernel_rfl) [] ?_; simp only [go_sem, Nat.reduceBEq])
  by_cases h5 : v.kind = 5
  case neg =>
    have hz : v.kind = 0 := hk.resolve_right h5
    rw [HpOwn_new (fun q => h5 q.1), own_new h5]
    simp only [decide_eq_true hz, go_sem, Nat.reduceBEq]
    try simp only [go_sem, Nat.reduceBEq, Nat.reduceAdd, Nat.reduceLeDiff, Nat.reduceEqDiff, Int.reduceEq, not_false_eq_true, Int.reduceToNat]
    refine (sAlloc l tb0 (by omega) (inv_cnts hi) none none a 0 0 n bp R h0 _ ((my.nilrow (z := 10)).nilrow (z := 1))).mono ?_
    rintro _ h2 ⟨b2, c2, a2, n2, rfl, m2⟩
    try simp only [go_sem, Nat.reduceBEq, Nat.reduceAdd, Nat.reduceLeDiff]
    exact ⟨b2, c2, a2, n2, rfl, m2⟩
  obtain ⟨q1, q2⟩ := hr h5
  have hpos := hp h5
  obtain ⟨w1, w2⟩ := hi.count q2
  have hz : ¬ v.kind = 0 := by omega
  have my : My h0 h ((.row 6 (l.flatMap Bk.dt), .slice a l.length n) :: (.ptr [] [.raw (.slice a l.length n)] [], .pointer (some ⟨bp, 0, none⟩)) :: R) := my
  obtain ⟨_, _, es, _, _, hat⟩ := my.row_shape (by decide) l.length (fm_len Bk.dt_len _)
  cases es
  obtain ⟨b, rfl⟩ := hat (by omega)
  simp only [decide_eq_false hz, go_sem]
  refine regionD_intro (lb := [18]) (by kernel_rfl) ?_
  simp only [go_sem, Nat.reduceBEq]
  refine Hold.ld1 (i := 0) Hold.ptr tyS58 my.swap rfl rfl ?_
  simp only [ix_int q1 q2, go_sem, Nat.reduceBEq]
  refine bcnt_ld q2 tyS3 my (by omega) ?_
  by_cases h1 : (blk l v.num.toNat).count = 1
  · rw [HpOwn_same ⟨h5, h1⟩]
    simp only [decide_eq_true h1, go_sem, Nat.reduceBEq, Nat.reduceAdd, Nat.reduceLeDiff]
    exact ⟨rfl, _, n, my⟩
  rw [HpOwn_new (fun q => h1 q.2), own_split h5 h1]
  simp only [decide_eq_false h1, go_sem, Nat.reduceBEq]
  refine regionD_intro (lb := [29]) (by kernel_rfl) ?_
  simp only [go_sem, Nat.reduceBEq]
  refine Hold.ld1 (i := 0) Hold.ptr tyS58 my.swap rfl rfl ?_
  have htb := hi.tabs v.num.toNat
  obtain ⟨tch, _, tsm, trf⟩ := hi.bk v.num.toNat
  have tlen := tch.len
  have hbk := blk_at q2
  generalize htt : (blk l v.num.toNat).tab = t at *
  obtain ⟨_, _, _, eqs, _, hr6, hat6⟩ := my.rd.rows (by decide) l.length (fm_len Bk.dt_len _)
  cases eqs
  obtain ⟨b6, o6, eq6, hat6⟩ := hat6 (by omega)
  cases eq6
  simp only [ix_int q1 q2, go_sem, Nat.reduceBEq]
  refine hsem_btab tyS36 hat6 hr6 hbk (by omega) fun s2 u2 rh ru => ?_
  rw [htt] at rh ru ⊢
  try simp only [go_sem, Nat.reduceBEq]
  refine (l7Copy_c t (by omega) _ _ _ rh ru).mono ?_
  rintro _ h2 ⟨a4, c4, a5, c5, rfl, m2⟩
  have m2 : My h0 h2 (HpB l (some ⟨b, 0, none⟩) n bp ((.row 1 (t.heads.flatMap idt), .slice a4 t.heads.length c4) :: (.row 10 (t.slots.flatMap Sl.dt), .slice a5 t.slots.length c5) :: R)) := (my.add m2).fourth.fourth
  try simp only [go_sem, Nat.reduceBEq, Nat.reduceAdd, Nat.reduceLeDiff]
  refine aloop (ι := Nat) (fun k => [(6, .val (.int .i64 (k : Nat))), (5, .box 5 0), (4, .box 4 0), (3, .box 3 0), (0, .val (.pointer (some ⟨bp, 0, none⟩)))]) (fun _ => [(5, [.bool t.hashed, .slice a4 t.heads.length c4, .slice a5 t.slots.length c5, .int .i64 t.next, .int .i64 t.count]), (4, [.int .i64 0, .int .i64 0, .string ⟨#[]⟩, .int .i64 0, .slice none 0 0]), (3, [.int .i64 v.kind, .int .i64 v.num, .string v.str, .int .i64 v.next, .slice av nv cv])])
    (fun k h' => k ≤ t.slots.length ∧ My h0 h' (HpB (shareSl l (t.slots.take k)) (some ⟨b, 0, none⟩) n bp ((.row 1 (t.heads.flatMap idt), .slice a4 t.heads.length c4) :: (.row 10 (t.slots.flatMap Sl.dt), .slice a5 t.slots.length c5) :: R))) (fun k => t.slots.length - k) 0
    ⟨Nat.zero_le _, m2⟩ (by repeat (first | exact wkF_e | refine wkF_c rfl ?_)) (wkB_c rfl (wkB_c rfl (wkB_c rfl wkB_e))) rfl ?_
  rintro k h6 ⟨hkl, m6⟩
  have hkl : k ≤ t.slots.length := hkl
  have m6 : My h0 h6 (HpB (shareSl l (t.slots.take k)) (some ⟨b, 0, none⟩) n bp ((.row 1 (t.heads.flatMap idt), .slice a4 t.heads.length c4) :: (.row 10 (t.slots.flatMap Sl.dt), .slice a5 t.slots.length c5) :: R)) := m6
  have inv := hi.shareSl (t.slots.take k) (by omega)
  have hle : (t.slots.take k).length ≤ t.slots.length := by rw [List.length_take]; omega
  try simp only [go_sem, Nat.reduceBEq]
  refine Br.intro (fun hq => ?_) (fun hq => ?_) <;> (try simp only [hq, go_sem, Nat.reduceBEq])
  · have hq : k < t.slots.length := by simpa using hq
    obtain ⟨e, he, hme⟩ := get_lt hq
    have wsu := wrap_succ (i := k) (by omega)
    have rs : Rd h6 (.row 10 (t.slots.flatMap Sl.dt)) (.slice a5 t.slots.length c5) := m6.fourth.rd
    obtain ⟨_, _, xs, eq, _, hrs, hats⟩ := rs.rows (by decide) t.slots.length (fm_len Sl.dt_len _)
    cases eq
    obtain ⟨b4, o4, rfl, hatq⟩ := hats (by omega)
    simp only [ix_nat hq, go_sem, Nat.reduceBEq, Nat.reduceAdd]
    refine hsem_slive tyS4 hatq hrs he rfl ?_
    cases hv : e.live with
    | false =>
      try simp only [wsu, go_sem, Nat.reduceBEq]
      exact Again.intro (k + 1) (by first | omega | (simp only; omega)) ⟨hq, by rw [shareSl_snoc he, hv]; exact m6⟩ (by repeat (first | exact wkF_e | refine wkF_c rfl ?_)) (wkB_c rfl (wkB_c rfl (wkB_c rfl wkB_e))) rfl
    | true =>
      simp only [ix_nat hq, go_sem, Nat.reduceBEq, Nat.reduceAdd]
      refine hsem_sval tyS44 hatq hrs he rfl fun s5 rd5 => ?_
      obtain ⟨a6, c6, _, rfl, _⟩ := rd5.rows (by decide) e.val.items.length (fm_len edt_len _)
      try simp only [go_sem, Nat.reduceBEq]
      have hrf : refIn (shareSl l (t.slots.take k)).length e.val := by rw [shareSl_len]; exact trf e hme hv
      refine (sShare (shareSl l (t.slots.take k)) e.val hrf (fun q => ?_) _ _ _ _ _ _ _ h0 _ m6).mono ?_
      · obtain ⟨p1, p2⟩ := inv.count (hrf q).2
        exact ⟨p1, by omega⟩
      rintro _ h7 ⟨rfl, m7⟩
      try simp only [wsu, go_sem, Nat.reduceBEq]
      exact Again.intro (k + 1) (by first | omega | (simp only; omega)) ⟨hq, by rw [shareSl_snoc he, hv, if_pos rfl]; exact m7⟩ (by repeat (first | exact wkF_e | refine wkF_c rfl ?_)) (wkB_c rfl (wkB_c rfl (wkB_c rfl wkB_e))) rfl
  have hq : k = t.slots.length := by simp at hq; omega
  subst hq
  rw [List.take_length] at m6 inv
  obtain ⟨sb1, sb2⟩ := shareSl_blk t.slots l v.num.toNat
  have hsl : (shareSl l t.slots).length = l.length := shareSl_len _ _
  have hspl : splitH l v.num.toNat = (shareSl l t.slots).set v.num.toNat ((blk (shareSl l t.slots) v.num.toNat).withC ((blk (shareSl l t.slots) v.num.toNat).count - 1)) := by
    unfold splitH
    rw [htt]
  generalize shareSl l t.slots = l1 at *
  have q3 : v.num.toNat < l1.length := by omega
  obtain ⟨p1, p2⟩ := inv.count q3
  have hw : IntKind.i64.wrap ((blk l1 v.num.toNat).count - 1) = (blk l1 v.num.toNat).count - 1 := IntWalk.i64_in _ (by omega)
  have hcn : ∀ b ∈ splitH l v.num.toNat, 0 ≤ b.count := fun b hb => by
    rw [hspl] at hb
    rcases List.mem_or_eq_of_mem_set hb with hb | rfl
    · exact inv_cnts inv b hb
    · show 0 ≤ (blk l1 v.num.toNat).count - 1
      omega
  try simp only [go_sem, Nat.reduceBEq, Nat.reduceAdd, Nat.reduceLeDiff, Nat.reduceEqDiff, Int.reduceEq, not_false_eq_true, Int.reduceToNat]
  refine regionD_intro (lb := [60, 66]) (by kernel_rfl) ?_
  simp only [go_sem, Nat.reduceBEq]
  refine Hold.ld1 (i := 0) Hold.ptr tyS58 m6.swap rfl rfl ?_
  simp only [go_sem, Nat.reduceBEq]
  refine Hold.ld1 (i := 0) Hold.ptr tyS58 m6.swap rfl rfl ?_
  simp only [ix_int q1 q3, go_sem, Nat.reduceBEq]
  refine bcnt_ld q3 tyS3 m6 (by omega) ?_
  simp only [ix_int q1 q3, hw, go_sem, Nat.reduceBEq]
  refine bcnt_st _ q3 tyS3 m6 (by omega) fun h8 m8 => ?_
  rw [← hspl] at m8
  have hsl2 : l1.length = (splitH l v.num.toNat).length := by rw [splitH_len]; exact hsl
  rw [hsl2] at m8
  try simp only [go_sem, Nat.reduceBEq, Nat.reduceAdd, Nat.reduceLeDiff]
  refine (sAlloc (splitH l v.num.toNat) t (by omega) hcn a4 a5 _ c4 c5 n bp R h0 _ (My.fourth (My.fourth m8))).mono ?_
  rintro _ h9 ⟨b2, c2, a2, n2, rfl, m9⟩
  try simp only [go_sem, Nat.reduceBEq, Nat.reduceAdd, Nat.reduceLeDiff]
  exact ⟨b2, c2, a2, n2, rfl, m9⟩
end Go.Proofs.YtedfplodobpgfaaGreatDoor
namespace Go.Proofs.YtedfplodobpgfaaGreatDoor
set_option maxRecDepth 8000
open Go Go.Sx
/-- numbers made anew -/
def MadeN (h : Hp) (l : List Int) (u : Value) (h' : Hp) : Prop := ∃ a c, u = .slice a l.length c ∧ My h h' [(.row 1 (l.flatMap idt), .slice a l.length c)]
theorem hit_no1 {n : Nat} {v : V} (h : ¬ v.kind = 5) : hit n v = false := by unfold hit; rw [decide_eq_false h]; rfl
theorem hit_no2 {n : Nat} {v : V} (h : ¬ (0 ≤ v.num ∧ v.num ≤ (n : Int) - 1)) : hit n v = false := by unfold hit; rw [decide_eq_false h, Bool.and_false]
theorem hit_yes {n : Nat} {v : V} (h : v.kind = 5) (k : 0 ≤ v.num ∧ v.num ≤ (n : Int) - 1) : hit n v = true := by unfold hit; rw [decide_eq_true h, decide_eq_true k]; rfl
theorem cnt1_no {l : List Int} {v : V} (h : hit l.length v = false) : cnt1 l v = l := if_neg (by rw [h]; simp)
theorem cnt1_yes {l : List Int} {v : V} (h : hit l.length v = true) : cnt1 l v = l.set v.num.toNat (l.getD v.num.toNat 0 + 1) := if_pos h
theorem small_get {l : List Int} {n i : Nat} (h : smallC l n) (hn : n ≤ 1099511627776) (hi : i < l.length) : IntKind.i64.wrap (l.getD i 0 + 1) = l.getD i 0 + 1 := by
  have := h _ (getD_mem (d := 0) hi)
  exact IntWalk.i64_in _ (by omega)
def Cnted (h0 : Hp) (l : List Int) (n bo bp : Nat) (u : Value) (h' : Hp) : Prop := u = .tuple #[] ∧ My h0 h' [(.row 1 (l.flatMap idt), .slice (some ⟨bo, 0, none⟩) n n), (.ptr [] [.raw (.slice (some ⟨bo, 0, none⟩) n n)] [], .pointer (some ⟨bp, 0, none⟩))]
theorem iCount1 (l : List Int) (n : Nat) (hn : l.length = n) (hn1 : n ≤ 1048576) (m : Nat) (hm : m ≤ 1099511627776) (hsm : smallC l m) (v : V) (a : Option Addr) (k c bo bp : Nat) (h0 h : Hp)
    (my : My h0 h [(.row 1 (l.flatMap idt), .slice (some ⟨bo, 0, none⟩) n n), (.ptr [] [.raw (.slice (some ⟨bo, 0, none⟩) n n)] [], .pointer (some ⟨bp, 0, none⟩))]) :
    ACalls Tryz.prog 140 #[.agg #[.int .i64 v.kind, .int .i64 v.num, .string v.str, .int .i64 v.next, .slice a k c], .pointer (some ⟨bp, 0, none⟩)] h (Cnted h0 (cnt1 l v) n bo bp) := by
  have hw : IntKind.i64.wrap ((n : Int) - 1) = (n : Int) - 1 := IntWalk.i64_in _ (by omega)
  subst hn
  (refine enter Tryz.func140 rfl rfl (by kernel_rfl) [] ?_; simp only [go_sem, Nat.reduceBEq])
  by_cases h5 : v.kind = 5
  case neg =>
    simp only [decide_eq_false h5, go_sem, Nat.reduceBEq]
    exact ⟨rfl, by rw [cnt1_no (hit_no1 h5)]; exact my⟩
  simp only [decide_eq_true h5, go_sem, Nat.reduceBEq]
  refine Hold.ld1 (i := 0) Hold.ptr tyS22 my.swap rfl rfl ?_
  simp only [hw, go_sem, Nat.reduceBEq]
  (refine (iInRange _ _ _ _).mono ?_; rintro _ _ ⟨rfl, rfl⟩; simp only [go_sem, Nat.reduceBEq])
  by_cases hr : 0 ≤ v.num ∧ v.num ≤ (l.length : Int) - 1
  case neg =>
    simp only [decide_eq_false hr, go_sem]
    exact ⟨rfl, by rw [cnt1_no (hit_no2 hr)]; exact my⟩
  have hlt : v.num.toNat < l.length := by omega
  have hsw := small_get hsm hm hlt
  simp only [decide_eq_true hr, go_sem, Nat.reduceBEq]
  refine Hold.ld1 (i := 0) Hold.ptr tyS22 my.swap rfl rfl ?_
  obtain ⟨ys, hry, haty⟩ := my.at_
  simp only [ix_int hr.1 hlt, go_sem, Nat.reduceBEq]
  refine hsem_num tyS3 (haty (by omega)) hry (getD_at (d := 0) hlt) (by omega) ?_
  simp only [ix_int hr.1 hlt, hsw, go_sem, Nat.reduceBEq]
  obtain ⟨cn, hn', en⟩ := hold_num (es := l) (b := bo) (cap := l.length) hlt
  obtain ⟨x, hx⟩ := hold_self (es := l) hlt
  refine hn'.put1 (h0 := h0) (d := .raw (.int .i64 x)) tyS3 rfl rfl (by rw [en, hx]; exact my) (by omega) fun h5' m5 => ?_
  rw [en] at m5
  try simp only [go_sem]
  refine ⟨rfl, ?_⟩
  rw [cnt1_yes (hit_yes h5 hr)]
  exact m5
set_option maxHeartbeats 800000 in
theorem iCountRefs (l : List Bk) (rs : List V) (hb : szG Bk.bulk l ≤ 1048576) (hbr : szG V.bulk rs ≤ 1048576) (s u : Value) (h : Hp) (r1 : RdB h l s) (r2 : Rd h (.row 5 (rs.flatMap V.dt)) u) : ACalls Tryz.prog 81 #[.agg #[s], u] h (MadeN h (counts l rs)) := by
  have hlen := szG_len (w := Bk.bulk) l
  have hlr := szG_len (w := V.bulk) rs
  obtain ⟨a1, c1, xs1, rfl, hc1, hr1, hat1⟩ := r1.rows (by decide) l.length (fm_len Bk.dt_len _)
  obtain ⟨a2, c2, xs2, rfl, hc2, hr2, hat2⟩ := r2.rows (by decide) rs.length (fm_len V.dt_len _)
  (refine enter Tryz.func81 rfl rfl (by kernel_rfl) [5] ?_; simp only [go_sem, Nat.reduceBEq])
  refine hsem_my_make slT22 (by decide) rfl rfl (by omega) (by decide) (My.nil (Ext.refl h)) fun bo h1 m1 => ?_
  have m1 : My h h1 [(.row 1 (zeros [.int .i64 0] l.length), .slice (some ⟨bo, 0, none⟩) l.length l.length)] := m1
  rw [zeros_int] at m1
  try simp only [go_sem, Nat.reduceBEq]
  refine hsem_my_alloc (z := [.slice none 0 0]) (by kernel_rfl) rfl m1 fun bp h2 m2 => ?_
  try simp only [go_sem, Nat.reduceBEq]
  refine Hold.store Hold.ptr (es := [.raw (.slice (some ⟨bo, 0, none⟩) l.length l.length)]) tyS22 (m2.raw (u := .slice (some ⟨bo, 0, none⟩) l.length l.length) rfl) rfl rfl rfl rfl fun h3 m3 => ?_
  have m3 := m3.swap
  try simp only [go_sem, Nat.reduceBEq]
  refine aloop (ι := Nat) (fun i => [(20, .val (.int .i64 (i : Nat))), (19, .val (.int .i64 (rs.length : Nat))), (18, .val (.slice a2 rs.length c2)), (6, .val (.func (.func 140) #[] #[.pointer (some ⟨bp, 0, none⟩)])), (5, .val (.pointer (some ⟨bp, 0, none⟩))), (2, .box 2 0)]) (fun _ => [(2, [.slice a1 l.length c1])])
    (fun i h' => i ≤ rs.length ∧ My h h' [(.row 1 ((cntV (List.replicate l.length 0) (rs.take i)).flatMap idt), .slice (some ⟨bo, 0, none⟩) l.length l.length), (.ptr [] [.raw (.slice (some ⟨bo, 0, none⟩) l.length l.length)] [], .pointer (some ⟨bp, 0, none⟩))]) (fun i => rs.length - i) 0
    ⟨Nat.zero_le _, m3⟩ (by repeat (first | exact wkF_e | refine wkF_c rfl ?_)) (wkB_c rfl wkB_e) rfl ?_
  rintro i h4 ⟨hi, m4⟩
  have hi : i ≤ rs.length := hi
  have m4 : My h h4 [(.row 1 ((cntV (List.replicate l.length 0) (rs.take i)).flatMap idt), .slice (some ⟨bo, 0, none⟩) l.length l.length), (.ptr [] [.raw (.slice (some ⟨bo, 0, none⟩) l.length l.length)] [], .pointer (some ⟨bp, 0, none⟩))] := m4
  try simp only [go_sem, Nat.reduceBEq]
  refine Br.intro (fun hq => ?_) (fun hq => ?_) <;> (try simp only [hq, go_sem, Nat.reduceBEq])
  · have hq : i < rs.length := by simpa using hq
    obtain ⟨b2, o2, rfl, hat2'⟩ := hat2 (by omega)
    obtain ⟨e, he, hm⟩ := get_lt hq
    have wsu := wrap_succ (i := i) (by omega)
    have hsm := (smallC.zero l.length).vals (es := rs.take i)
    have htk : (rs.take i).length ≤ rs.length := by rw [List.length_take]; omega
    simp only [ix_nat hq, go_sem, Nat.reduceBEq]
    refine hsem_vrow tyS44 (hat2'.mono m4.ext) (hr2.mono m4.ext) he rfl fun s2 rd2 => ?_
    obtain ⟨a5, c5, _, rfl, _⟩ := rd2.rows (by decide) e.items.length (fm_len edt_len _)
    try simp only [go_sem, Nat.reduceBEq, Nat.reduceAdd, Nat.reduceLeDiff]
    refine (iCount1 _ l.length (by rw [cntV_len, List.length_replicate]) (by omega) _ (by omega) hsm e a5 _ c5 bo bp h _ m4).mono ?_
    rintro _ h5 ⟨rfl, m5⟩
    rw [← cntV_snoc he] at m5
    try simp only [wsu, go_sem, Nat.reduceBEq]
    exact Again.intro (i + 1) (by first | omega | (simp only; omega)) ⟨hq, m5⟩ (by repeat (first | exact wkF_e | refine wkF_c rfl ?_)) (wkB_c rfl wkB_e) rfl
  have hq : i = rs.length := by simp at hq; omega
  subst hq
  rw [List.take_length] at m4
  have hsm0 := (smallC.zero l.length).vals (es := rs)
  try simp only [go_sem, Nat.reduceBEq, Nat.reduceAdd, Nat.reduceLeDiff, Nat.reduceEqDiff, Int.reduceEq, not_false_eq_true, Int.reduceToNat]
  generalize hcv : cntV (List.replicate l.length 0) rs = cv at *
  have hcl : cv.length = l.length := by rw [← hcv, cntV_len, List.length_replicate]
  refine aloop (ι := Nat) (fun i => [(31, .val (.int .i64 (i : Nat))), (30, .val (.int .i64 (l.length : Nat))), (29, .val (.slice a1 l.length c1)), (6, .val (.func (.func 140) #[] #[.pointer (some ⟨bp, 0, none⟩)])), (5, .val (.pointer (some ⟨bp, 0, none⟩)))]) (fun _ => [])
    (fun i h' => i ≤ l.length ∧ My h h' [(.row 1 ((cntBl cv (l.take i)).flatMap idt), .slice (some ⟨bo, 0, none⟩) l.length l.length), (.ptr [] [.raw (.slice (some ⟨bo, 0, none⟩) l.length l.length)] [], .pointer (some ⟨bp, 0, none⟩))]) (fun i => l.length - i) 0
    ⟨Nat.zero_le _, m4⟩ (by repeat (first | exact wkF_e | refine wkF_c rfl ?_)) wkB_e rfl ?_
  rintro i h5 ⟨hi, m5⟩
  have hi : i ≤ l.length := hi
  have m5 : My h h5 [(.row 1 ((cntBl cv (l.take i)).flatMap idt), .slice (some ⟨bo, 0, none⟩) l.length l.length), (.ptr [] [.raw (.slice (some ⟨bo, 0, none⟩) l.length l.length)] [], .pointer (some ⟨bp, 0, none⟩))] := m5
  have hsm1 := hsm0.blocks (es := l.take i)
  have htk := szG_take (w := Bk.bulk) l i
  try simp only [go_sem, Nat.reduceBEq]
  refine Br.intro (fun hq => ?_) (fun hq => ?_) <;> (try simp only [hq, go_sem, Nat.reduceBEq])
  · have hq : i < l.length := by simpa using hq
    obtain ⟨b1, o1, rfl, hat1'⟩ := hat1 (by omega)
    obtain ⟨b, hbk, hm⟩ := get_lt hq
    have hsb := slots_bulk hbk
    obtain ⟨hsl, hsv⟩ := tab_slots b.tab
    have wsu := wrap_succ (i := i) (by omega)
    simp only [ix_nat hq, go_sem, Nat.reduceBEq]
    refine hpure_base m5.ext (hsem_blk tyS107 hat1' hr1 hbk rfl fun s3 u3 rh ru => ?_)
    obtain ⟨a3, c3, xs3, rfl, hc3, hr3, hat3⟩ := rh.rows (by decide) b.tab.heads.length (fm_len idt_len _)
    obtain ⟨a4, c4, xs4, rfl, hc4, hr4, hat4⟩ := ru.rows (by decide) b.tab.slots.length (fm_len Sl.dt_len _)
    try simp only [go_sem, Nat.reduceBEq, Nat.reduceAdd, Nat.reduceLeDiff]
    refine aloop (ι := Nat) (fun k => [(39, .val (.int .i64 (k : Nat))), (38, .val (.int .i64 (b.tab.slots.length : Nat))), (37, .val (.slice a4 b.tab.slots.length c4)), (31, .val (.int .i64 (i : Nat))), (30, .val (.int .i64 (l.length : Nat))), (29, .val (.slice (some ⟨b1, o1, none⟩) l.length c1)), (6, .val (.func (.func 140) #[] #[.pointer (some ⟨bp, 0, none⟩)])), (5, .val (.pointer (some ⟨bp, 0, none⟩)))]) (fun _ => [])
      (fun k h' => k ≤ b.tab.slots.length ∧ My h h' [(.row 1 ((cntSl (cntBl cv (l.take i)) (b.tab.slots.take k)).flatMap idt), .slice (some ⟨bo, 0, none⟩) l.length l.length), (.ptr [] [.raw (.slice (some ⟨bo, 0, none⟩) l.length l.length)] [], .pointer (some ⟨bp, 0, none⟩))]) (fun k => b.tab.slots.length - k) 0
      ⟨Nat.zero_le _, m5⟩ (by repeat (first | exact wkF_e | refine wkF_c rfl ?_)) wkB_e rfl ?_
    rintro k h6 ⟨hk, m6⟩
    have hk : k ≤ b.tab.slots.length := hk
    have m6 : My h h6 [(.row 1 ((cntSl (cntBl cv (l.take i)) (b.tab.slots.take k)).flatMap idt), .slice (some ⟨bo, 0, none⟩) l.length l.length), (.ptr [] [.raw (.slice (some ⟨bo, 0, none⟩) l.length l.length)] [], .pointer (some ⟨bp, 0, none⟩))] := m6
    have hsm2 := hsm1.slots (es := b.tab.slots.take k)
    have htk2 : (b.tab.slots.take k).length ≤ b.tab.slots.length := by rw [List.length_take]; omega
    try simp only [go_sem, Nat.reduceBEq]
    refine Br.intro (fun hkb => ?_) (fun hkb => ?_) <;> (try simp only [hkb, go_sem, Nat.reduceBEq, Nat.reduceEqDiff])
    · have hkb : k < b.tab.slots.length := by simpa using hkb
      obtain ⟨b4, o4, rfl, hat4'⟩ := hat4 (by omega)
      obtain ⟨e, he, hme⟩ := get_lt hkb
      have wsk := wrap_succ (i := k) (by omega)
      simp only [ix_nat hkb, go_sem, Nat.reduceBEq]
      refine hsem_slot tyS134 (hat4'.mono m6.ext) (hr4.mono m6.ext) he rfl fun s5 rd5 => ?_
      obtain ⟨a5, c5, _, rfl, _⟩ := rd5.rows (by decide) e.val.items.length (fm_len edt_len _)
      cases hv : e.live with
      | false =>
        simp only [wsk, go_sem, Nat.reduceBEq, Nat.reduceAdd, Nat.reduceLeDiff]
        exact Again.intro (k + 1) (by first | omega | (simp only; omega)) ⟨hkb, by rw [cntSl_snoc he, hv]; exact m6⟩ (by repeat (first | exact wkF_e | refine wkF_c rfl ?_)) wkB_e rfl
      | true =>
        try simp only [go_sem, Nat.reduceBEq, Nat.reduceAdd, Nat.reduceLeDiff]
        refine (iCount1 _ l.length (by rw [cntSl_len, cntBl_len, hcl]) (by omega) _ (by omega) hsm2 e.val a5 _ c5 bo bp h _ m6).mono ?_
        rintro _ h7 ⟨rfl, m7⟩
        try simp only [wsk, go_sem, Nat.reduceBEq]
        exact Again.intro (k + 1) (by first | omega | (simp only; omega)) ⟨hkb, by rw [cntSl_snoc he, hv]; exact m7⟩ (by repeat (first | exact wkF_e | refine wkF_c rfl ?_)) wkB_e rfl
    · have hkb : k = b.tab.slots.length := by simp at hkb; omega
      subst hkb
      rw [List.take_length, ← cntBl_snoc hbk] at m6
      simp only [wsu, go_sem]
      exact Again.intro (i + 1) (by first | omega | (simp only; omega)) ⟨hq, m6⟩ (by repeat (first | exact wkF_e | refine wkF_c rfl ?_)) wkB_e rfl
  · have hq : i = l.length := by simp at hq; omega
    subst hq
    rw [List.take_length] at m5
    try simp only [go_sem, Nat.reduceBEq, Nat.reduceAdd, Nat.reduceLeDiff, Nat.reduceEqDiff, Int.reduceEq, not_false_eq_true, Int.reduceToNat]
    refine Hold.ld1 (i := 0) Hold.ptr tyS22 m5.swap rfl rfl ?_
    try simp only [go_sem, Nat.reduceBEq]
    have hcc : counts l rs = cntBl cv l := by unfold counts; rw [hcv]
    have hl2 : (cntBl cv l).length = l.length := by rw [cntBl_len, hcl]
    refine ⟨some ⟨bo, 0, none⟩, l.length, ?_, ?_⟩
    · rw [hcc, hl2]
    · rw [hcc, hl2]
      exact m5.swap.drop
set_option maxHeartbeats 800000 in
theorem sCounts (l : List Bk) (rs : List V) (hb : szG Bk.bulk l ≤ 1048576) (hbr : szG V.bulk rs ≤ 1048576) (s u : Value) (h : Hp) (r1 : RdB h l s) (r2 : Rd h (.row 5 (rs.flatMap V.dt)) u) : ACalls Tryz.prog 75 #[.agg #[s], u] h (MadeN h (counts l rs)) := by
  have hlen := szG_len (w := Bk.bulk) l
  have hlr := szG_len (w := V.bulk) rs
  obtain ⟨a1, c1, xs1, rfl, hc1, hr1, hat1⟩ := r1.rows (by decide) l.length (fm_len Bk.dt_len _)
  obtain ⟨a2, c2, xs2, rfl, hc2, hr2, hat2⟩ := r2.rows (by decide) rs.length (fm_len V.dt_len _)
  have hw : IntKind.i64.wrap ((l.length : Int) - 1) = (l.length : Int) - 1 := IntWalk.i64_in _ (by omega)
  (refine enter Tryz.func75 rfl rfl (by kernel_rfl) [] ?_; simp only [go_sem, Nat.reduceBEq])
  refine hsem_my_make slT22 (by decide) rfl rfl (by omega) (by decide) (My.nil (Ext.refl h)) fun bo h1 m1 => ?_
  have m1 : My h h1 [(.row 1 (zeros [.int .i64 0] l.length), .slice (some ⟨bo, 0, none⟩) l.length l.length)] := m1
  rw [zeros_int] at m1
  try simp only [go_sem, Nat.reduceBEq]
  refine aloop (ι := Nat) (fun i => [(6, .val (.int .i64 (i : Nat))), (5, .val (.slice (some ⟨bo, 0, none⟩) l.length l.length)), (1, .val (.slice a2 rs.length c2)), (2, .box 2 0)]) (fun _ => [(2, [.slice a1 l.length c1])])
    (fun i h' => i ≤ rs.length ∧ My h h' [(.row 1 ((cntV (List.replicate l.length 0) (rs.take i)).flatMap idt), .slice (some ⟨bo, 0, none⟩) l.length l.length)]) (fun i => rs.length - i) 0
    ⟨Nat.zero_le _, m1⟩ (by repeat (first | exact wkF_e | refine wkF_c rfl ?_)) (wkB_c rfl wkB_e) rfl ?_
  rintro i h4 ⟨hi, m4⟩
  have hi : i ≤ rs.length := hi
  have m4 : My h h4 [(.row 1 ((cntV (List.replicate l.length 0) (rs.take i)).flatMap idt), .slice (some ⟨bo, 0, none⟩) l.length l.length)] := m4
  have hsm := (smallC.zero l.length).vals (es := rs.take i)
  have htk : (rs.take i).length ≤ rs.length := by rw [List.length_take]; omega
  have hcl0 : (cntV (List.replicate l.length 0) (rs.take i)).length = l.length := by rw [cntV_len, List.length_replicate]
  try simp only [go_sem, Nat.reduceBEq]
  refine Br.intro (fun hq => ?_) (fun hq => ?_) <;> (try simp only [hq, go_sem, Nat.reduceBEq])
  · have hq : i < rs.length := by simpa using hq
    obtain ⟨b2, o2, rfl, hat2'⟩ := hat2 (by omega)
    obtain ⟨e, he, hm⟩ := get_lt hq
    have wsu := wrap_succ (i := i) (by omega)
    have hsn := cntV_snoc (l := List.replicate l.length 0) he
    generalize cntV (List.replicate l.length 0) (rs.take i) = cv at *
    simp only [ix_nat hq, go_sem, Nat.reduceBEq]
    refine hsem_vkind tyS3 (hat2'.mono m4.ext) (hr2.mono m4.ext) he rfl ?_
    by_cases h5 : e.kind = 5
    case neg =>
      simp only [decide_eq_false h5, wsu, go_sem, Nat.reduceBEq]
      exact Again.intro (i + 1) (by first | omega | (simp only; omega)) ⟨hq, by rw [hsn, cnt1_no (hit_no1 h5)]; exact m4⟩ (by repeat (first | exact wkF_e | refine wkF_c rfl ?_)) (wkB_c rfl wkB_e) rfl
    simp only [decide_eq_true h5, ix_nat hq, go_sem, Nat.reduceBEq]
    refine hsem_vnum tyS3 (hat2'.mono m4.ext) (hr2.mono m4.ext) he (by omega) ?_
    simp only [hw, go_sem, Nat.reduceBEq]
    (refine (l1In_c _ _ _ _).mono ?_; rintro _ _ ⟨rfl, rfl⟩; simp only [go_sem, Nat.reduceBEq])
    by_cases hr : 0 ≤ e.num ∧ e.num ≤ (l.length : Int) - 1
    case neg =>
      simp only [decide_eq_false hr, wsu, go_sem, Nat.reduceBEq]
      exact Again.intro (i + 1) (by first | omega | (simp only; omega)) ⟨hq, by rw [hsn, cnt1_no (hit_no2 (by rw [hcl0]; exact hr))]; exact m4⟩ (by repeat (first | exact wkF_e | refine wkF_c rfl ?_)) (wkB_c rfl wkB_e) rfl
    have hlt : e.num.toNat < l.length := by omega
    have hsw := small_get hsm (by omega) (by rw [hcl0]; exact hlt)
    simp only [decide_eq_true hr, go_sem]
    refine regionD_intro (lb := []) (by kernel_rfl) ?_
    simp only [ix_nat hq, go_sem, Nat.reduceBEq]
    refine hsem_vnum tyS3 (hat2'.mono m4.ext) (hr2.mono m4.ext) he (by omega) ?_
    simp only [ix_nat hq, go_sem, Nat.reduceBEq]
    refine hsem_vnum tyS3 (hat2'.mono m4.ext) (hr2.mono m4.ext) he (by omega) ?_
    obtain ⟨ys, hry, haty⟩ := m4.at_
    simp only [ix_int hr.1 hlt, go_sem, Nat.reduceBEq]
    refine hsem_num tyS3 (haty (by omega)) hry (getD_at (d := 0) (by rw [hcl0]; exact hlt)) (by omega) ?_
    simp only [ix_int hr.1 hlt, hsw, go_sem, Nat.reduceBEq]
    obtain ⟨cn, hn', en⟩ := hold_num (es := cv) (b := bo) (cap := l.length) (i := e.num.toNat) (by omega)
    rw [hcl0] at hn'
    obtain ⟨x, hx⟩ := hold_self (es := cv) (i := e.num.toNat) (by omega)
    refine hn'.put1 (h0 := h) (d := .raw (.int .i64 x)) tyS3 rfl rfl (by rw [en, hx]; exact m4) (by omega) fun h5' m5 => ?_
    rw [en] at m5
    try simp only [wsu, go_sem, Nat.reduceBEq]
    exact Again.intro (i + 1) (by first | omega | (simp only; omega)) ⟨hq, by rw [hsn, cnt1_yes (hit_yes h5 (by rw [hcl0]; exact hr))]; exact m5⟩ (by repeat (first | exact wkF_e | refine wkF_c rfl ?_)) (wkB_c rfl wkB_e) rfl
  have hq : i = rs.length := by simp at hq; omega
  subst hq
  rw [List.take_length] at m4
  have hsm0 := (smallC.zero l.length).vals (es := rs)
  try simp only [go_sem, Nat.reduceBEq, Nat.reduceAdd, Nat.reduceLeDiff, Nat.reduceEqDiff, Int.reduceEq, not_false_eq_true, Int.reduceToNat]
  generalize hcv : cntV (List.replicate l.length 0) rs = cv at *
  have hcl : cv.length = l.length := by rw [← hcv, cntV_len, List.length_replicate]
  refine aloop (ι := Nat) (fun i => [(7, .val (.int .i64 (i : Nat))), (5, .val (.slice (some ⟨bo, 0, none⟩) l.length l.length)), (2, .box 2 0)]) (fun _ => [(2, [.slice a1 l.length c1])])
    (fun i h' => i ≤ l.length ∧ My h h' [(.row 1 ((cntBl cv (l.take i)).flatMap idt), .slice (some ⟨bo, 0, none⟩) l.length l.length)]) (fun i => l.length - i) 0
    ⟨Nat.zero_le _, m4⟩ (by repeat (first | exact wkF_e | refine wkF_c rfl ?_)) (wkB_c rfl wkB_e) rfl ?_
  rintro i h5 ⟨hi, m5⟩
  have hi : i ≤ l.length := hi
  have m5 : My h h5 [(.row 1 ((cntBl cv (l.take i)).flatMap idt), .slice (some ⟨bo, 0, none⟩) l.length l.length)] := m5
  have hsm1 := hsm0.blocks (es := l.take i)
  have htk := szG_take (w := Bk.bulk) l i
  try simp only [go_sem, Nat.reduceBEq]
  refine Br.intro (fun hq => ?_) (fun hq => ?_) <;> (try simp only [hq, go_sem, Nat.reduceBEq])
  · have hq : i < l.length := by simpa using hq
    obtain ⟨b1, o1, rfl, hat1'⟩ := hat1 (by omega)
    obtain ⟨b, hbk, hm⟩ := get_lt hq
    have hsb := slots_bulk hbk
    obtain ⟨hsl, hsv⟩ := tab_slots b.tab
    have wsu := wrap_succ (i := i) (by omega)
    simp only [ix_nat hq, go_sem, Nat.reduceBEq, Nat.reduceAdd]
    refine hpure_base m5.ext (hsem_bslots tyS34 hat1' hr1 hbk (by omega) fun u ru => ?_)
    obtain ⟨a4, c4, xs4, rfl, hc4, hr4, hat4⟩ := ru.rows (by decide) b.tab.slots.length (fm_len Sl.dt_len _)
    try simp only [go_sem, Nat.reduceBEq]
    refine aloop (ι := Nat) (fun k => [(9, .val (.int .i64 (k : Nat))), (8, .val (.slice a4 b.tab.slots.length c4)), (7, .val (.int .i64 (i : Nat))), (5, .val (.slice (some ⟨bo, 0, none⟩) l.length l.length)), (2, .box 2 0)]) (fun _ => [(2, [.slice (some ⟨b1, o1, none⟩) l.length c1])])
      (fun k h' => k ≤ b.tab.slots.length ∧ My h h' [(.row 1 ((cntSl (cntBl cv (l.take i)) (b.tab.slots.take k)).flatMap idt), .slice (some ⟨bo, 0, none⟩) l.length l.length)]) (fun k => b.tab.slots.length - k) 0
      ⟨Nat.zero_le _, m5⟩ (by repeat (first | exact wkF_e | refine wkF_c rfl ?_)) (wkB_c rfl wkB_e) rfl ?_
    rintro k h6 ⟨hk, m6⟩
    have hk : k ≤ b.tab.slots.length := hk
    have m6 : My h h6 [(.row 1 ((cntSl (cntBl cv (l.take i)) (b.tab.slots.take k)).flatMap idt), .slice (some ⟨bo, 0, none⟩) l.length l.length)] := m6
    have hsm2 := hsm1.slots (es := b.tab.slots.take k)
    have htk2 : (b.tab.slots.take k).length ≤ b.tab.slots.length := by rw [List.length_take]; omega
    have hcl2 : (cntSl (cntBl cv (l.take i)) (b.tab.slots.take k)).length = l.length := by rw [cntSl_len, cntBl_len, hcl]
    try simp only [go_sem, Nat.reduceBEq]
    refine Br.intro (fun hkb => ?_) (fun hkb => ?_) <;> (try simp only [hkb, go_sem, Nat.reduceBEq, Nat.reduceEqDiff])
    · have hkb : k < b.tab.slots.length := by simpa using hkb
      obtain ⟨b4, o4, rfl, hat4'⟩ := hat4 (by omega)
      obtain ⟨e, he, hme⟩ := get_lt hkb
      have wsk := wrap_succ (i := k) (by omega)
      have hsn := cntSl_snoc (l := cntBl cv (l.take i)) he
      generalize cntSl (cntBl cv (l.take i)) (b.tab.slots.take k) = dv at *
      simp only [ix_nat hkb, go_sem, Nat.reduceBEq, Nat.reduceAdd]
      refine hsem_slive tyS4 (hat4'.mono m6.ext) (hr4.mono m6.ext) he rfl ?_
      cases hv : e.live with
      | false =>
        simp only [wsk, go_sem, Nat.reduceBEq]
        exact Again.intro (k + 1) (by first | omega | (simp only; omega)) ⟨hkb, by rw [hsn, hv]; exact m6⟩ (by repeat (first | exact wkF_e | refine wkF_c rfl ?_)) (wkB_c rfl wkB_e) rfl
      | true =>
      simp only [ix_nat hkb, go_sem, Nat.reduceBEq, Nat.reduceAdd]
      refine hsem_skind tyS3 (hat4'.mono m6.ext) (hr4.mono m6.ext) he (by omega) ?_
      by_cases h5 : e.val.kind = 5
      case neg =>
        simp only [decide_eq_false h5, wsk, go_sem, Nat.reduceBEq]
        exact Again.intro (k + 1) (by first | omega | (simp only; omega)) ⟨hkb, by rw [hsn, hv, if_pos rfl, cnt1_no (hit_no1 h5)]; exact m6⟩ (by repeat (first | exact wkF_e | refine wkF_c rfl ?_)) (wkB_c rfl wkB_e) rfl
      simp only [decide_eq_true h5, ix_nat hkb, go_sem, Nat.reduceBEq, Nat.reduceAdd]
      refine hsem_snum tyS3 (hat4'.mono m6.ext) (hr4.mono m6.ext) he (by omega) ?_
      simp only [hw, go_sem, Nat.reduceBEq]
      (refine (l1In_c _ _ _ _).mono ?_; rintro _ _ ⟨rfl, rfl⟩; simp only [go_sem, Nat.reduceBEq])
      by_cases hr : 0 ≤ e.val.num ∧ e.val.num ≤ (l.length : Int) - 1
      case neg =>
        simp only [decide_eq_false hr, wsk, go_sem, Nat.reduceBEq]
        exact Again.intro (k + 1) (by first | omega | (simp only; omega)) ⟨hkb, by rw [hsn, hv, if_pos rfl, cnt1_no (hit_no2 (by rw [hcl2]; exact hr))]; exact m6⟩ (by repeat (first | exact wkF_e | refine wkF_c rfl ?_)) (wkB_c rfl wkB_e) rfl
      have hlt : e.val.num.toNat < l.length := by omega
      have hsw := small_get hsm2 (by omega) (by rw [hcl2]; exact hlt)
      simp only [decide_eq_true hr, go_sem]
      refine regionD_intro (lb := []) (by kernel_rfl) ?_
      simp only [ix_nat hkb, go_sem, Nat.reduceBEq, Nat.reduceAdd]
      refine hsem_snum tyS3 (hat4'.mono m6.ext) (hr4.mono m6.ext) he (by omega) ?_
      simp only [ix_nat hkb, go_sem, Nat.reduceBEq, Nat.reduceAdd]
      refine hsem_snum tyS3 (hat4'.mono m6.ext) (hr4.mono m6.ext) he (by omega) ?_
      obtain ⟨ys, hry, haty⟩ := m6.at_
      simp only [ix_int hr.1 hlt, go_sem, Nat.reduceBEq]
      refine hsem_num tyS3 (haty (by omega)) hry (getD_at (d := 0) (by rw [hcl2]; exact hlt)) (by omega) ?_
      simp only [ix_int hr.1 hlt, hsw, go_sem, Nat.reduceBEq]
      obtain ⟨cn, hn', en⟩ := hold_num (es := dv) (b := bo) (cap := l.length) (i := e.val.num.toNat) (by omega)
      rw [hcl2] at hn'
      obtain ⟨x, hx⟩ := hold_self (es := dv) (i := e.val.num.toNat) (by omega)
      refine hn'.put1 (h0 := h) (d := .raw (.int .i64 x)) tyS3 rfl rfl (by rw [en, hx]; exact m6) (by omega) fun h7 m7 => ?_
      rw [en] at m7
      try simp only [wsk, go_sem, Nat.reduceBEq]
      exact Again.intro (k + 1) (by first | omega | (simp only; omega)) ⟨hkb, by rw [hsn, hv, if_pos rfl, cnt1_yes (hit_yes h5 (by rw [hcl2]; exact hr))]; exact m7⟩ (by repeat (first | exact wkF_e | refine wkF_c rfl ?_)) (wkB_c rfl wkB_e) rfl
    · have hkb : k = b.tab.slots.length := by simp at hkb; omega
      subst hkb
      rw [List.take_length, ← cntBl_snoc hbk] at m6
      simp only [wsu, go_sem]
      exact Again.intro (i + 1) (by first | omega | (simp only; omega)) ⟨hq, m6⟩ (by repeat (first | exact wkF_e | refine wkF_c rfl ?_)) (wkB_c rfl wkB_e) rfl
  · have hq : i = l.length := by simp at hq; omega
    subst hq
    rw [List.take_length] at m5
    try simp only [go_sem, Nat.reduceBEq, Nat.reduceAdd, Nat.reduceLeDiff, Nat.reduceEqDiff, Int.reduceEq, not_false_eq_true, Int.reduceToNat]
    have hcc : counts l rs = cntBl cv l := by unfold counts; rw [hcv]
    have hl2 : (cntBl cv l).length = l.length := by rw [cntBl_len, hcl]
    refine ⟨some ⟨bo, 0, none⟩, l.length, ?_, ?_⟩
    · rw [hcc, hl2]
    · rw [hcc, hl2]
      exact m5
end Go.Proofs.YtedfplodobpgfaaGreatDoor
namespace Go.Proofs.YtedfplodobpgfaaGreatDoor
set_option maxRecDepth 8000
open Go Go.Sx
set_option maxHeartbeats 800000 in
theorem iIsCounted (l : List Bk) (rs : List V) (hb : szG Bk.bulk l ≤ 1048576) (hbr : szG V.bulk rs ≤ 1048576) (s u : Value) (h : Hp) (r1 : RdB h l s) (r2 : Rd h (.row 5 (rs.flatMap V.dt)) u) (hE : Env h) : ACalls Tryz.prog 28 #[.agg #[s], u] h (Is (.bool (countedB l rs)) h) := by
  have hlen := szG_len (w := Bk.bulk) l
  have hlr := szG_len (w := V.bulk) rs
  obtain ⟨a1, c1, xs1, rfl, hc1, hr1, hat1⟩ := r1.rows (by decide) l.length (fm_len Bk.dt_len _)
  obtain ⟨a2, c2, xs2, rfl, hc2, hr2, hat2⟩ := r2.rows (by decide) rs.length (fm_len V.dt_len _)
  (refine enter Tryz.func28 rfl rfl (by kernel_rfl) [] ?_; simp only [go_sem, Nat.reduceBEq, Nat.reduceLeDiff])
  refine (iIsHeap l hb _ _ r1 hE).mono ?_
  rintro _ h1 ⟨rfl, e1⟩
  cases hH : heapB l with
  | false =>
    simp only [Bool.not_false, go_sem, Nat.reduceBEq]
    exact ⟨by rw [counted_no1 hH], e1⟩
  | true =>
  simp only [Bool.not_true, go_sem, Nat.reduceBEq]
  refine aloop (ι := Nat) (fun i => [(14, .val (.int .i64 (i : Nat))), (13, .val (.int .i64 (rs.length : Nat))), (12, .val (.slice a2 rs.length c2)), (1, .val (.slice a2 rs.length c2)), (2, .box 2 0)]) (fun _ => [(2, [.slice a1 l.length c1])])
    (fun i h' => i ≤ rs.length ∧ Ext h h' ∧ ∀ (j : Nat) (v : V), j < i → rs[j]? = some v → isHeld l v = true) (fun i => rs.length - i) 0
    ⟨Nat.zero_le _, e1, fun j v hj => by omega⟩ (by repeat (first | exact wkF_e | refine wkF_c rfl ?_)) (wkB_c rfl wkB_e) rfl ?_
  rintro i h2 ⟨hi, e2, pr⟩
  have hi : i ≤ rs.length := hi
  have pr : ∀ (j : Nat) (v : V), j < i → rs[j]? = some v → isHeld l v = true := pr
  try simp only [go_sem, Nat.reduceBEq]
  refine Br.intro (fun hq => ?_) (fun hq => ?_) <;> (try simp only [hq, go_sem, Nat.reduceBEq, Nat.reduceLeDiff])
  · have hq : i < rs.length := by simpa using hq
    obtain ⟨b2, o2, rfl, hat2'⟩ := hat2 (by omega)
    obtain ⟨e, he, hm⟩ := get_lt hq
    have wsu := wrap_succ (i := i) (by omega)
    have hbe := szG_mem (w := V.bulk) hm
    simp only [ix_nat hq, go_sem, Nat.reduceBEq]
    refine hsem_vrow tyS44 (hat2'.mono e2) (hr2.mono e2) he rfl fun s2 rd2 => ?_
    obtain ⟨a5, c5, _, rfl, _⟩ := rd2.rows (by decide) e.items.length (fm_len edt_len _)
    try simp only [go_sem, Nat.reduceBEq, Nat.reduceAdd, Nat.reduceLeDiff]
    refine (iIsHeld l e (by omega) (by omega) _ _ _ (r1.mono e2) rd2 (hE.ext e2)).mono ?_
    rintro _ h3 ⟨rfl, e3⟩
    cases hhd : isHeld l e with
    | false =>
      simp only [Bool.not_false, go_sem, Nat.reduceBEq]
      exact ⟨by rw [counted_no2 hm hhd], e2.trans e3⟩
    | true =>
      simp only [Bool.not_true, wsu, go_sem, Nat.reduceBEq]
      refine Again.intro (i + 1) (by first | omega | (simp only; omega)) ⟨hq, e2.trans e3, fun j v hj hv => ?_⟩ (by repeat (first | exact wkF_e | refine wkF_c rfl ?_)) (wkB_c rfl wkB_e) rfl
      by_cases hji : j = i
      · subst hji
        rw [he] at hv
        cases hv
        exact hhd
      · exact pr j v (by omega) hv
  have hq : i = rs.length := by simp at hq; omega
  subst hq
  have hall : ∀ v ∈ rs, isHeld l v = true := fun v hv => by
    obtain ⟨j, hj⟩ := List.getElem?_of_mem hv
    exact pr j v (lt_of_get hj) hj
  try simp only [go_sem, Nat.reduceBEq, Nat.reduceAdd, Nat.reduceLeDiff, Nat.reduceEqDiff, Int.reduceEq, not_false_eq_true, Int.reduceToNat]
  refine (iCountRefs l rs hb hbr _ _ _ (r1.mono e2) (r2.mono e2)).mono ?_
  rintro _ h3 ⟨a3, c3, rfl, m3⟩
  have hcl := counts_len l rs
  obtain ⟨_, _, e5, _, _, hat3⟩ := m3.row_shape (by decide) (counts l rs).length (fm_len idt_len _)
  cases e5
  have e3 := e2.trans m3.ext
  try simp only [go_sem, Nat.reduceBEq]
  refine aloop (ι := Nat) (fun i => [(27, .val (.int .i64 (i : Nat))), (26, .val (.int .i64 ((counts l rs).length : Nat))), (25, .val (.slice a3 (counts l rs).length c3)), (2, .box 2 0)]) (fun _ => [(2, [.slice a1 l.length c1])])
    (fun i h' => i ≤ (counts l rs).length ∧ h' = h3 ∧ ∀ j, j < i → (blk l j).count = (counts l rs).getD j 0) (fun i => (counts l rs).length - i) 0
    ⟨Nat.zero_le _, rfl, fun j hj => by omega⟩ (by repeat (first | exact wkF_e | refine wkF_c rfl ?_)) (wkB_c rfl wkB_e) rfl ?_
  rintro i _ ⟨hi, rfl, ps⟩
  have hi : i ≤ (counts l rs).length := hi
  have ps : ∀ j, j < i → (blk l j).count = (counts l rs).getD j 0 := ps
  try simp only [go_sem, Nat.reduceBEq]
  refine Br.intro (fun hq => ?_) (fun hq => ?_) <;> (try simp only [hq, go_sem, Nat.reduceBEq])
  · have hq : i < (counts l rs).length := by simpa using hq
    obtain ⟨b3, rfl⟩ := hat3 (by omega)
    obtain ⟨b1, o1, rfl, hat1'⟩ := hat1 (by omega)
    obtain ⟨ys, hry, haty⟩ := m3.at_
    have wsu := wrap_succ (i := i) (by omega)
    have hil : i < l.length := by omega
    simp only [ix_nat hq, go_sem, Nat.reduceBEq]
    refine hsem_num tyS3 (haty (by omega)) hry (getD_at (d := 0) hq) (by omega) ?_
    simp only [ix_nat hil, go_sem, Nat.reduceBEq]
    refine hsem_bcnt tyS3 (hat1'.mono e3) (hr1.mono e3) (blk_at hil) rfl ?_
    by_cases heq : (blk l i).count = (counts l rs).getD i 0
    · simp only [decide_eq_true heq, Bool.not_true, wsu, go_sem, Nat.reduceBEq]
      refine Again.intro (i + 1) (by first | omega | (simp only; omega)) ⟨hq, rfl, fun j hj => ?_⟩ (by repeat (first | exact wkF_e | refine wkF_c rfl ?_)) (wkB_c rfl wkB_e) rfl
      by_cases hji : j = i
      · subst hji; exact heq
      · exact ps j (by omega)
    · simp only [decide_eq_false heq, Bool.not_false, go_sem, Nat.reduceBEq]
      exact ⟨by rw [counted_no3 (Bool.eq_false_iff.2 fun k => heq (sameC_iff.1 k i hq))], e3⟩
  · have hq : i = (counts l rs).length := by simp at hq; omega
    subst hq
    try simp only [go_sem, Nat.reduceBEq, Nat.reduceAdd, Nat.reduceLeDiff, Nat.reduceEqDiff, Int.reduceEq, not_false_eq_true, Int.reduceToNat]
    exact ⟨by rw [counted_yes hH hall (sameC_iff.2 ps)], e3⟩
set_option maxHeartbeats 800000 in
theorem sIsCounted (l : List Bk) (rs : List V) (hb : szG Bk.bulk l ≤ 1048576) (hbr : szG V.bulk rs ≤ 1048576) (s u : Value) (h : Hp) (r1 : RdB h l s) (r2 : Rd h (.row 5 (rs.flatMap V.dt)) u) : ACalls Tryz.prog 25 #[.agg #[s], u] h (Is (.bool (countedB l rs)) h) := by
  have hlen := szG_len (w := Bk.bulk) l
  have hlr := szG_len (w := V.bulk) rs
  obtain ⟨a1, c1, xs1, rfl, hc1, hr1, hat1⟩ := r1.rows (by decide) l.length (fm_len Bk.dt_len _)
  obtain ⟨a2, c2, xs2, rfl, hc2, hr2, hat2⟩ := r2.rows (by decide) rs.length (fm_len V.dt_len _)
  (refine enter Tryz.func25 rfl rfl (by kernel_rfl) [] ?_; simp only [go_sem, Nat.reduceBEq, Nat.reduceLeDiff])
  refine (sCounts l rs hb hbr _ _ _ r1 r2).mono ?_
  rintro _ h3 ⟨a3, c3, rfl, m3⟩
  have hcl := counts_len l rs
  obtain ⟨_, _, e5, _, _, hat3⟩ := m3.row_shape (by decide) (counts l rs).length (fm_len idt_len _)
  cases e5
  have e3 := m3.ext
  try simp only [go_sem, Nat.reduceBEq]
  refine aloop (ι := Nat) (fun i => [(6, .val (.int .i64 (i : Nat))), (5, .val (.slice a3 (counts l rs).length c3)), (1, .val (.slice a2 rs.length c2)), (2, .box 2 0)]) (fun _ => [(2, [.slice a1 l.length c1])])
    (fun i h' => i ≤ (counts l rs).length ∧ h' = h3 ∧ ∀ j, j < i → (blk l j).count = (counts l rs).getD j 0) (fun i => (counts l rs).length - i) 0
    ⟨Nat.zero_le _, rfl, fun j hj => by omega⟩ (by repeat (first | exact wkF_e | refine wkF_c rfl ?_)) (wkB_c rfl wkB_e) rfl ?_
  rintro i _ ⟨hi, rfl, ps⟩
  have hi : i ≤ (counts l rs).length := hi
  have ps : ∀ j, j < i → (blk l j).count = (counts l rs).getD j 0 := ps
  try simp only [go_sem, Nat.reduceBEq]
  refine Br.intro (fun hq => ?_) (fun hq => ?_) <;> (try simp only [hq, go_sem])
  · have hq : i < (counts l rs).length := by simpa using hq
    obtain ⟨b3, rfl⟩ := hat3 (by omega)
    obtain ⟨b1, o1, rfl, hat1'⟩ := hat1 (by omega)
    obtain ⟨ys, hry, haty⟩ := m3.at_
    have wsu := wrap_succ (i := i) (by omega)
    have hil : i < l.length := by omega
    refine regionD_intro (lb := [22]) (by kernel_rfl) ?_
    simp only [ix_nat hq, go_sem, Nat.reduceBEq]
    refine hsem_num tyS3 (haty (by omega)) hry (getD_at (d := 0) hq) (by omega) ?_
    simp only [ix_nat hil, go_sem, Nat.reduceBEq]
    refine hsem_bcnt tyS3 (hat1'.mono e3) (hr1.mono e3) (blk_at hil) rfl ?_
    by_cases heq : (blk l i).count = (counts l rs).getD i 0
    · simp only [decide_eq_true heq.symm, Bool.not_true, wsu, go_sem, Nat.reduceBEq]
      refine Again.intro (i + 1) (by first | omega | (simp only; omega)) ⟨hq, rfl, fun j hj => ?_⟩ (by repeat (first | exact wkF_e | refine wkF_c rfl ?_)) (wkB_c rfl wkB_e) rfl
      by_cases hji : j = i
      · subst hji; exact heq
      · exact ps j (by omega)
    · simp only [decide_eq_false (fun q => heq (Eq.symm q)), Bool.not_false, go_sem, Nat.reduceBEq]
      exact ⟨by rw [counted_no3 (Bool.eq_false_iff.2 fun k => heq (sameC_iff.1 k i hq))], e3⟩
  have hq : i = (counts l rs).length := by simp at hq; omega
  subst hq
  try simp only [go_sem, Nat.reduceBEq, Nat.reduceAdd, Nat.reduceLeDiff, Nat.reduceEqDiff, Int.reduceEq, not_false_eq_true, Int.reduceToNat]
  refine aloop (ι := Nat) (fun i => [(7, .val (.int .i64 (i : Nat))), (1, .val (.slice a2 rs.length c2)), (2, .box 2 0)]) (fun _ => [(2, [.slice a1 l.length c1])])
    (fun i h' => i ≤ rs.length ∧ Ext h h' ∧ ∀ (j : Nat) (v : V), j < i → rs[j]? = some v → isHeld l v = true) (fun i => rs.length - i) 0
    ⟨Nat.zero_le _, e3, fun j v hj => by omega⟩ (by repeat (first | exact wkF_e | refine wkF_c rfl ?_)) (wkB_c rfl wkB_e) rfl ?_
  rintro i h2 ⟨hi, e2, pr⟩
  have hi : i ≤ rs.length := hi
  have pr : ∀ (j : Nat) (v : V), j < i → rs[j]? = some v → isHeld l v = true := pr
  try simp only [go_sem, Nat.reduceBEq]
  refine Br.intro (fun hq => ?_) (fun hq => ?_) <;> (try simp only [hq, go_sem, Nat.reduceBEq, Nat.reduceLeDiff])
  · have hq : i < rs.length := by simpa using hq
    obtain ⟨b2, o2, rfl, hat2'⟩ := hat2 (by omega)
    obtain ⟨e, he, hm⟩ := get_lt hq
    have wsu := wrap_succ (i := i) (by omega)
    have hbe := szG_mem (w := V.bulk) hm
    refine regionD_intro (lb := [34]) (by kernel_rfl) ?_
    simp only [ix_nat hq, go_sem, Nat.reduceBEq, Nat.reduceLeDiff]
    refine hsem_vrow tyS44 (hat2'.mono e2) (hr2.mono e2) he rfl fun s2 rd2 => ?_
    obtain ⟨a5, c5, _, rfl, _⟩ := rd2.rows (by decide) e.items.length (fm_len edt_len _)
    try simp only [go_sem, Nat.reduceBEq]
    refine (sIsHeld l e (by omega) (by omega) _ _ _ (r1.mono e2) rd2).mono ?_
    rintro _ h4 ⟨rfl, e4⟩
    cases hhd : isHeld l e with
    | false =>
      simp only [Bool.not_false, go_sem, Nat.reduceBEq]
      exact ⟨by rw [counted_no2 hm hhd], e2.trans e4⟩
    | true =>
      simp only [Bool.not_true, wsu, go_sem, Nat.reduceBEq]
      refine Again.intro (i + 1) (by first | omega | (simp only; omega)) ⟨hq, e2.trans e4, fun j v hj hv => ?_⟩ (by repeat (first | exact wkF_e | refine wkF_c rfl ?_)) (wkB_c rfl wkB_e) rfl
      by_cases hji : j = i
      · subst hji
        rw [he] at hv
        cases hv
        exact hhd
      · exact pr j v (by omega) hv
  have hq : i = rs.length := by simp at hq; omega
  subst hq
  have hall : ∀ v ∈ rs, isHeld l v = true := fun v hv => by
    obtain ⟨j, hj⟩ := List.getElem?_of_mem hv
    exact pr j v (lt_of_get hj) hj
  try simp only [go_sem, Nat.reduceBEq, Nat.reduceAdd, Nat.reduceLeDiff, Nat.reduceEqDiff, Int.reduceEq, not_false_eq_true, Int.reduceToNat]
  refine (sIsHeap l hb _ _ (r1.mono e2)).mono ?_
  rintro _ h5 ⟨rfl, e5⟩
  try simp only [go_sem, Nat.reduceBEq]
  refine ⟨?_, e2.trans e5⟩
  cases hH : heapB l with
  | false => rw [counted_no1 hH]
  | true => rw [counted_yes hH hall (sameC_iff.2 ps)]
end Go.Proofs.YtedfplodobpgfaaGreatDoor
