/-
  A part of the abstract machine over the model's Code, or of the proof that what it shows holds of the model; no program is in sight, and nothing is assumed.
-/
import Derived.Test.YtconhonjkfpfmaaDoorSxHole
import Derived.Test.YtconhonjkfpfmaaDoorSxTab
/-! What stands still in one block while others are written; numbers in slices; slots of slices of the walk's own. -/
namespace Go.Sx
open Go
/-- the heap, of which one block alone is looked at -/
def only (h : Hp) (b : Nat) : Hp := fun i => if i = b then h i else none
theorem only_ext {h h' : Hp} {b : Nat} (e : h' b = h b) : Ext (only h b) h' := by
  intro i o hi
  unfold only at hi
  split at hi
  · rename_i he
    subst he
    rw [e]
    exact hi
  · cases hi
theorem only_refl {h : Hp} {b : Nat} : Ext (only h b) h := only_ext rfl
theorem only_of {h h' : Hp} {b : Nat} {o : Obj} (hb : h b = some o) (e : Ext h h') : Ext (only h b) h' := only_ext (by rw [hb]; exact e _ _ hb)
section
variable {P : Program} {h0 h : Hp} {K : Value → Hp → Prop} {bag : Bag} {c : List Dt → Dt} {val : Value} {b off : Nat}
theorem Hold.there (hd : Hold c val b off) {x : List Dt} (m : My h0 h ((c x, val) :: bag)) : ∃ o, h b = some o := by
  obtain ⟨xs, _, cur, e, f, hb, _⟩ := hd.rd m
  exact ⟨_, hb⟩
/-- a raw cell is read where its block stands still -/
theorem Hold.still1 (hd : Hold c val b off) {t n i j : Nat} {x : List Dt} {u : Value} (ht : tyS P t = some (false, n)) (m : My h0 h ((c x, val) :: bag)) (hi : x[i]? = some (.raw u)) (hj : j = off + i) (k : K u (only h b)) : HPure P (ldI t (.pointer (some ⟨b, j, none⟩))) (only h b) K := by
  obtain ⟨xs, hr, cur, e, f, hb, hs, hg⟩ := hd.rd m
  obtain ⟨v, hv, rv⟩ := hr.get hi
  obtain ⟨rfl, _⟩ := Rd_raw.1 rv
  exact hsem_at1 ht ⟨cur, e, f, by unfold only; rw [if_pos rfl]; exact hb, rfl, hg⟩ hv hj k
/-- 'append' that leaves a block of another thing of the bag alone -/
theorem hsem_my_appendK {t ty : Nat} {s : SlT} (hs : slT P t = some s) (hz0 : 0 < s.z) (hzl : s.zero.length = s.z) {v x : Value} (n m : Nat) {cs news : List Dt} (my : My h0 h ((.row s.z cs, v) :: (.row s.z news, x) :: bag)) (b : Nat)
    (hbk : ∀ B, OwL h (bag.map (·.1)) (bag.map (·.2)) B → b ∈ B)
    (hn : cs.length = n * s.z) (hm : news.length = m * s.z) (hb : (n + m) * s.by_ ≤ 140737488355328) (hb2 : n + m ≤ 140737488355328) (k : ∀ v' h', My h0 h' ((.row s.z (cs ++ news), v') :: bag) → h' b = h b → K v' h') : HSem P (apI #[t, t] ty #[v, x]) h K := by
  obtain ⟨B1, B2, l1, l2, k2, k3, k4⟩ := My.cons_iff.1 my
  simp only [Ow] at l1
  obtain ⟨xs, C1, C2, o1, o2, rfl⟩ := l1
  simp only [List.map_cons, OwL_cc, Ow] at l2
  obtain ⟨_, B3, ⟨ys, D1, D2, o3, o4, rfl⟩, l3, rfl⟩ := l2
  have hC1 : ∀ b ∈ C2 ++ (D1 ++ D2) ++ B3, b ∉ C1 := by
    intro b hb hb'
    have : (C1 ++ (C2 ++ (D1 ++ D2) ++ B3)).Nodup := by simpa using k2
    exact (List.nodup_append.1 this).2.2 b hb' b hb rfl
  refine hsem_append hs hz0 hzl o1 o3.rd (by rw [o2.len, hn]) (by rw [o4.len, hm]) hb hb2 fun v' h' B' ho hbut hB => k v' h' ?_ ?_
  · have fr : ∀ {ds : List Dt} {ys : List Value} {B : List Nat}, OwL h ds ys B → (∀ b ∈ B, b ∈ C2 ++ (D1 ++ D2) ++ B3) → OwL h' ds ys B := fun k hB => k.frame fun b' hb' => by
      obtain ⟨o, ho⟩ := k.there b' hb'
      rw [hbut b' o ho (hC1 b' (hB b' hb')), ho]
    have hB'n : B'.Nodup := ho.nodup
    have hB'd : ∀ b ∈ B', b ∉ C2 ++ (D1 ++ D2) ++ B3 := by
      intro b hb hb'
      rcases hB b hb with h1 | h1
      · exact hC1 b hb' h1
      · have : ∃ o, h b = some o := by
          simp only [List.mem_append] at hb'
          rcases hb' with (h2 | h2 | h2) | h2
          · exact o2.there b h2
          · exact o3.there b h2
          · exact o4.there b h2
          · exact l3.there b h2
        obtain ⟨o, ho⟩ := this
        rw [h1] at ho
        cases ho
    rw [My.cons_iff]
    refine ⟨B' ++ (C2 ++ D2), B3, ?_, fr l3 (by simp +contextual), ?_, ?_, ?_⟩
    · simp only [Ow]
      exact ⟨_, B', _, ho, (fr o2 (by simp +contextual)).append (fr o4 (by simp +contextual)), rfl⟩
    · rw [List.append_assoc]
      refine List.nodup_append.2 ⟨hB'n, ?_, ?_⟩
      · have h1 : (C2 ++ (D1 ++ D2) ++ B3).Nodup := by
          have : (C1 ++ (C2 ++ (D1 ++ D2) ++ B3)).Nodup := by simpa using k2
          exact (List.nodup_append.1 this).2.1
        have hp : (C2 ++ (D1 ++ D2) ++ B3).Perm (D1 ++ (C2 ++ D2 ++ B3)) := by
          simp only [← List.append_assoc]
          refine List.Perm.append_right B3 (List.Perm.append_right D2 ?_)
          exact List.perm_append_comm
        exact (List.nodup_append.1 (hp.nodup_iff.1 h1)).2.1
      · intro a ha b hb hab
        subst hab
        refine hB'd a ha ?_
        simp only [List.mem_append] at hb ⊢
        rcases hb with (h | h) | h <;> simp [h]
    · intro b hb
      simp only [List.mem_append] at hb
      rcases hb with (h1 | h1 | h1) | h1
      · rcases hB b h1 with h2 | h2
        · exact k3 b (by simp [h2])
        · exact none_of_ext k4 h2
      · exact k3 b (by simp [h1])
      · exact k3 b (by simp [h1])
      · exact k3 b (by simp [h1])
    · exact hbut.ext k4 fun b hb => k3 b (by simp [hb])
  · have hm := hbk B3 l3
    obtain ⟨o, ho⟩ := l3.there b hm
    rw [hbut b o ho (hC1 b (by simp [hm])), ho]
/-- the block of a thing with a hole is among the bag's -/
theorem Hold.mem (hd : Hold c val b off) {x : List Dt} {B : List Nat} (k : OwL h (((c x, val) :: bag).map (·.1)) (((c x, val) :: bag).map (·.2)) B) : b ∈ B := by
  simp only [List.map_cons, OwL_cc] at k
  obtain ⟨B1, B2, k1, k2, rfl⟩ := k
  obtain ⟨e, xp, xs, xq, Bp, Bx, Bq, hb, hp, ox, rfl, _⟩ := hd h x B1 k1
  simp
theorem idt_raws : ∀ l : List Int, l.flatMap idt = (l.map (Value.int .i64)).map .raw
  | [] => rfl
  | a :: r => by rw [List.flatMap_cons, List.map_cons, List.map_cons, idt_raws r]; rfl
theorem RdL_ints {l : List Int} {xs : List Value} (r : RdL h (l.flatMap idt) xs) : xs = l.map (Value.int .i64) := by
  rw [idt_raws] at r
  exact r.of_raws
/-- numbers are appended to an empty slice -/
theorem hsem_copyI {t ty e : Nat} {l : List Int} {v sl : Value} (hs : slT P t = some ⟨e, 1, 8, [.int .i64 0]⟩) (m : My h0 h ((.row 1 [], v) :: bag)) (rd : RdI h l sl) (hl : l.length ≤ 1099511627776) (k : ∀ v' h', My h0 h' ((.row 1 (l.flatMap idt), v') :: bag) → K v' h') : HSem P (apI #[t, t] ty #[v, sl]) h K := by
  simp only [Rd] at rd
  obtain ⟨xs, r1, r2⟩ := rd
  have hx := RdL_ints r2
  refine hsem_my_appendR hs (Nat.zero_lt_one) rfl 0 l.length m r1 rfl (by rw [hx, List.length_map]; simp) (by show (0 + l.length) * 8 ≤ _; omega) (by omega) fun v' h' m' => k v' h' ?_
  rw [List.nil_append, hx, ← idt_raws] at m'
  exact m'
/-- the cells of a slot -/
def slC (e : Sl) (sl : Value) : List Value := [.bool e.key.text, .int .i64 e.key.num, .string e.key.str, .int .i64 e.val.kind, .int .i64 e.val.num, .string e.val.str, .int .i64 e.val.next, sl, .bool e.live, .int .i64 e.link]
theorem slot_zip (e : Sl) {sl : Value} (m : My h0 h ((.row 8 (e.val.items.flatMap edt), sl) :: bag)) : My h0 h ((Sl.dt e).zip (slC e sl) ++ bag) := by
  simp only [Sl.dt_eq, slC, List.zip_cons_cons, List.zip_nil_right, List.cons_append, List.nil_append, My.raw_iff, one_bool, one_int, one_str, and_self, true_and]
  exact ((m.raw (u := .int .i64 e.link) rfl).raw (u := .bool e.live) rfl).third
/-- a slot whose items are taken out -/
def srw (e : Sl) (u : Value) : List Dt := [.raw (.bool e.key.text), .raw (.int .i64 e.key.num), .raw (.string e.key.str), .raw (.int .i64 e.val.kind), .raw (.int .i64 e.val.num), .raw (.string e.val.str), .raw (.int .i64 e.val.next), .raw u, .raw (.bool e.live), .raw (.int .i64 e.link)]
theorem srw_len (e : Sl) (u : Value) : (srw e u).length = 10 := rfl
theorem slot_open {A R : List Dt} {e : Sl} {v : Value} (m : My h0 h ((.row 10 (A ++ (Sl.dt e ++ R)), v) :: bag)) : ∃ a n, My h0 h ((.row 8 (e.val.items.flatMap edt), .slice a e.val.items.length n) :: (.row 10 (A ++ (srw e (.slice a e.val.items.length n) ++ R)), v) :: bag) := by
  rw [Sl.dt_eq] at m
  obtain ⟨u, m1⟩ := m.openAt (A := A) (R := R) (j := 7) rfl
  obtain ⟨a, n, rfl, _⟩ := m1.row_shape (by decide) e.val.items.length (fm_len edt_len _)
  exact ⟨a, n, m1⟩
/-- the load of such a slot -/
theorem hsem_srw {t bb j : Nat} {A R : List Dt} {e : Sl} {u : Value} {len cap : Nat} (ht : tyS P t = some (true, 10)) (m : My h0 h ((.row 10 (A ++ (srw e u ++ R)), .slice (some ⟨bb, 0, none⟩) len cap) :: bag)) (h0l : 0 < len) (hj : j = A.length)
    (k : K (.agg (slC e u).toArray) h) : HPure P (ldI t (.pointer (some ⟨bb, j, none⟩))) h K := by
  obtain ⟨xs, hr, hat⟩ := m.at_
  refine hsem_getN ht (hat h0l) hr (i := j) (ds := srw e u) ?_ rfl (by omega) fun ys r => ?_
  · rw [hj, List.drop_left, List.take_left' (srw_len e u)]
  · have : srw e u = (slC e u).map .raw := rfl
    rw [this] at r
    rw [r.of_raws]
    exact k
/-- a slot's value within the slots -/
theorem hold_sval {es : List Sl} {i : Nat} {e : Sl} {b cap : Nat} (he : es[i]? = some e) : ∃ c, Hold c (.slice (some ⟨b, 0, none⟩) es.length cap) b (i * 10 + 3) ∧ ∀ w : V, c w.dt = .row 10 ((es.take i ++ ⟨e.key, w, e.live, e.link⟩ :: es.drop (i + 1)).flatMap Sl.dt) := by
  obtain ⟨h1, h2⟩ := fm_split Sl.dt_len he
  have hlt := (List.getElem?_eq_some_iff.1 he).1
  refine ⟨_, (Hold.row (z := 10) (p := (es.take i).flatMap Sl.dt ++ e.key.dt) (q := [.raw (.bool e.live), .raw (.int .i64 e.link)] ++ (es.drop (i + 1)).flatMap Sl.dt) (by omega)).at_ ?_, fun w => ?_⟩
  · rw [List.length_append, h2]
    rfl
  · simp only [List.flatMap_append, List.flatMap_cons, Sl.dt, List.append_assoc, List.cons_append, List.nil_append]
/-- .. whether it lives -/
theorem hold_slive {es : List Sl} {i : Nat} {e : Sl} {b cap : Nat} (he : es[i]? = some e) : ∃ c, Hold c (.slice (some ⟨b, 0, none⟩) es.length cap) b (i * 10 + 8) ∧ ∀ w : Bool, c [.raw (.bool w)] = .row 10 ((es.take i ++ ⟨e.key, e.val, w, e.link⟩ :: es.drop (i + 1)).flatMap Sl.dt) := by
  obtain ⟨h1, h2⟩ := fm_split Sl.dt_len he
  have hlt := (List.getElem?_eq_some_iff.1 he).1
  refine ⟨_, (Hold.row (z := 10) (p := (es.take i).flatMap Sl.dt ++ (e.key.dt ++ e.val.dt)) (q := [.raw (.int .i64 e.link)] ++ (es.drop (i + 1)).flatMap Sl.dt) (by omega)).at_ ?_, fun w => ?_⟩
  · rw [List.length_append, h2, List.length_append, V.dt_len, Ky.dt_len]
  · simp only [List.flatMap_append, List.flatMap_cons, Sl.dt, List.append_assoc, List.cons_append, List.nil_append]
/-- a number within numbers -/
theorem hold_num {es : List Int} {i : Nat} {b cap : Nat} (hi : i < es.length) : ∃ c, Hold c (.slice (some ⟨b, 0, none⟩) es.length cap) b (i * 1) ∧ ∀ w : Int, c [.raw (.int .i64 w)] = .row 1 ((es.set i w).flatMap idt) := by
  obtain ⟨e, he, _⟩ := get_lt hi
  obtain ⟨h1, h2⟩ := fm_split idt_len he
  refine ⟨_, (Hold.row (z := 1) (p := (es.take i).flatMap idt) (q := (es.drop (i + 1)).flatMap idt) (by omega)).at_ h2.symm, fun w => ?_⟩
  rw [set_split w hi, List.flatMap_append, List.flatMap_cons]
  rfl
/-- a raw cell is written -/
theorem Hold.put1 (hd : Hold c val b off) {t j : Nat} {d : Dt} {u : Value} (ht : tyS P t = some (false, 1)) (hu : oneCell u = true) (hc : u.cells.toList = [u]) (m : My h0 h ((c [d], val) :: bag)) (hj : j = off) (k : ∀ h', My h0 h' ((c [.raw u], val) :: bag) → K undef h') : HSem P (stI t (.pointer (some ⟨b, j, none⟩)) u) h K :=
  hd.store (x := [d]) (es := [.raw u]) ht (by rw [hc]; exact m.raw hu) rfl rfl (by rw [hc]; rfl) hj k
theorem hold_self {es : List Int} {i : Nat} (hi : i < es.length) : ∃ w, es.set i w = es := by
  refine ⟨es[i], ?_⟩
  exact List.set_getElem_self hi
theorem slot_self {es : List Sl} {i : Nat} {e : Sl} (he : es[i]? = some e) : es.take i ++ (⟨e.key, e.val, e.live, e.link⟩ : Sl) :: es.drop (i + 1) = es := by
  rw [show (⟨e.key, e.val, e.live, e.link⟩ : Sl) = e from rfl, ← drop_cons he, List.take_append_drop]
/-- a raw cell is read -/
theorem Hold.ld1 (hd : Hold c val b off) {t n i j : Nat} {x : List Dt} {u : Value} (ht : tyS P t = some (false, n)) (m : My h0 h ((c x, val) :: bag)) (hi : x[i]? = some (.raw u)) (hj : j = off + i) (k : K u h) : HPure P (ldI t (.pointer (some ⟨b, j, none⟩))) h K :=
  hd.load1 ht m hi hj fun v rv => by
    obtain ⟨rfl, _⟩ := Rd_raw.1 rv
    exact k
/-- one of some cells is written, bare -/
theorem Hold.setC (hd : Hold c val b off) {t j : Nat} (X Y : List Dt) {d : Dt} {u : Value} (ht : tyS P t = some (false, 1)) (hu : oneCell u = true) (hc : u.cells.toList = [u]) (m : My h0 h ((c (X ++ ([d] ++ Y)), val) :: bag)) (hj : j = off + X.length) (k : ∀ h', My h0 h' ((c (X ++ ([.raw u] ++ Y)), val) :: bag) → K undef h') : HSem P (stI t (.pointer (some ⟨b, j, none⟩)) u) h K :=
  (hd.sub X Y).put1 ht hu hc m hj k
/-! a table that lies in memory -/
def traws (t : Tb) (x y : Value) : List Dt := [.raw (.bool t.hashed), .raw x, .raw y, .raw (.int .i64 t.next), .raw (.int .i64 t.count)]
theorem traws_len (t : Tb) (x y : Value) : (traws t x y).length = 5 := rfl
theorem tb_open (hd : Hold c val b off) {t : Tb} (m : My h0 h ((c t.dt, val) :: bag)) : ∃ a n a' n', My h0 h ((.row 1 (t.heads.flatMap idt), .slice a t.heads.length n) :: (.row 10 (t.slots.flatMap Sl.dt), .slice a' t.slots.length n') :: (c (traws t (.slice a t.heads.length n) (.slice a' t.slots.length n')), val) :: bag) := by
  unfold Tb.dt at m
  obtain ⟨u, m1⟩ := hd.open_ (X := [.raw (.bool t.hashed)]) (d := .row 1 (t.heads.flatMap idt)) (Y := [.row 10 (t.slots.flatMap Sl.dt), .raw (.int .i64 t.next), .raw (.int .i64 t.count)]) m
  obtain ⟨a, n, rfl, _⟩ := m1.row_shape (by decide) t.heads.length (fm_len idt_len _)
  obtain ⟨w, m2⟩ := hd.open_ (X := [.raw (.bool t.hashed), .raw (.slice a t.heads.length n)]) (d := .row 10 (t.slots.flatMap Sl.dt)) (Y := [.raw (.int .i64 t.next), .raw (.int .i64 t.count)]) m1.swap
  obtain ⟨a', n', rfl, _⟩ := m2.row_shape (by decide) t.slots.length (fm_len Sl.dt_len _)
  exact ⟨a, n, a', n', m2.third⟩
theorem tb_close (hd : Hold c val b off) {t : Tb} {x y : Value} (m : My h0 h ((.row 1 (t.heads.flatMap idt), x) :: (.row 10 (t.slots.flatMap Sl.dt), y) :: (c (traws t x y), val) :: bag)) : My h0 h ((c t.dt, val) :: bag) := by
  have m1 := hd.close (X := [.raw (.bool t.hashed), .raw x]) (d := .row 10 (t.slots.flatMap Sl.dt)) (Y := [.raw (.int .i64 t.next), .raw (.int .i64 t.count)]) m.third.third
  exact hd.close (X := [.raw (.bool t.hashed)]) (d := .row 1 (t.heads.flatMap idt)) (Y := [.row 10 (t.slots.flatMap Sl.dt), .raw (.int .i64 t.next), .raw (.int .i64 t.count)]) m1.swap
/-- a table's parts are known: the variable is given up -/
theorem tb_ldraw (hd : Hold c val b off) {t j : Nat} {tb : Tb} {x y : Value} (ht : tyS P t = some (true, 5)) (m : My h0 h ((c (traws tb x y), val) :: bag)) (hj : j = off) (k : K (.agg #[.bool tb.hashed, x, y, .int .i64 tb.next, .int .i64 tb.count]) h) : HPure P (ldI t (.pointer (some ⟨b, j, none⟩))) h K := by
  refine hd.loadN (i := 0) (ds := traws tb x y) ht m rfl rfl hj fun ys r => ?_
  simp only [traws, RdL_cons, RdL_nil, Rd_raw] at r
  obtain ⟨_, _, rfl, ⟨rfl, _⟩, _, _, rfl, ⟨rfl, _⟩, _, _, rfl, ⟨rfl, _⟩, _, _, rfl, ⟨rfl, _⟩, _, _, rfl, ⟨rfl, _⟩, rfl⟩ := r
  exact k
/-- the table is read -/
theorem tb_load (hd : Hold c val b off) {t j : Nat} {tb : Tb} (ht : tyS P t = some (true, 5)) (m : My h0 h ((c tb.dt, val) :: bag)) (hj : j = off) (k : ∀ x y, RdI h tb.heads x → RdT h tb.slots y → K (.agg #[.bool tb.hashed, x, y, .int .i64 tb.next, .int .i64 tb.count]) h) : HPure P (ldI t (.pointer (some ⟨b, j, none⟩))) h K :=
  hd.loadN (i := 0) (ds := tb.dt) ht m (by rw [List.drop_zero, List.take_of_length_le (by rw [Tb.dt_len]; exact Nat.le_refl _)]) (Tb.dt_len tb) hj fun ys r => by
    obtain ⟨x, y, rfl, r1, r2⟩ := RdL_tab r
    exact k x y r1 r2
theorem tab_zip (t : Tb) {x y : Value} (m : My h0 h ((.row 1 (t.heads.flatMap idt), x) :: (.row 10 (t.slots.flatMap Sl.dt), y) :: bag)) : My h0 h ((Tb.dt t).zip [.bool t.hashed, x, y, .int .i64 t.next, .int .i64 t.count] ++ bag) := by
  simp only [Tb.dt, List.zip_cons_cons, List.zip_nil_right, List.cons_append, List.nil_append, My.raw_iff, one_bool, and_self, true_and]
  exact ((m.raw (u := .int .i64 t.count) rfl).raw (u := .int .i64 t.next) rfl).fourth.fourth
/-- a table is written -/
theorem tb_store (hd : Hold c val b off) {t j : Nat} {tb : Tb} {x y : Value} {z : List Dt} (ht : tyS P t = some (true, 5)) (hz : z.length = 5) (m : My h0 h ((.row 1 (tb.heads.flatMap idt), x) :: (.row 10 (tb.slots.flatMap Sl.dt), y) :: (c z, val) :: bag)) (hj : j = off) (k : ∀ h', My h0 h' ((c tb.dt, val) :: bag) → K undef h') :
    HSem P (stI t (.pointer (some ⟨b, j, none⟩)) (.agg #[.bool tb.hashed, x, y, .int .i64 tb.next, .int .i64 tb.count])) h K :=
  hd.store (x := z) (es := tb.dt) ht (tab_zip tb m) hz (Tb.dt_len tb) rfl hj k
/-- A slice literal; nothing that was there has turned. -/
theorem hsem_my_litE {t n : Nat} {s : SlT} {parts : List (Nat × Value)} {es : List Dt} (hs : slT P t = some s) (hz : 0 < s.z) (hn0 : 0 < n) (hn : n * s.z ≤ 16777216) (hlen : parts.length = n) (hi : parts.map (·.1) = List.range n) (hp : ∀ p ∈ parts, p.2.cells.size = s.z)
    (my : My h0 h (es.zip (flat parts) ++ bag)) (hfl : (flat parts).length = n * s.z) (hel : es.length = n * s.z) (k : ∀ v h', My h0 h' ((.row s.z es, v) :: bag) → Ext h h' → K v h') : HSem P (bsI t n parts.toArray) h K :=
  hsem_buildSlice hs hz hn0 hn hlen hi hp fun b hb => k _ _ (my_new my hb (by rw [hel, hfl]) (Nat.le_refl _) (by
    have := Nat.le_trans (Nat.le_mul_of_pos_right n hz) hn
    simp only [maxLen]; omega) (by simpa using hfl) hfl (by simp [← hfl]) (fun h => by omega)) (ext_set hb _)
end
/-! regions that stand still in part -/
section
variable {P : Program} {hm : List Nat} {l : List Oper} {K : Fr → Bx → Hp → Prop} {fr : Fr} {bx : Bx} {h : Hp}
theorem regionS_at {lb pl : List Nat} (hS : Hp) (hE : Ext hS h) (c d p q : Nat) (A B : List Nat) (hok : okSplit P hm lb pl l.toArray ⟨c, d, p, q, A, B⟩ = true)
    (hr : arun P ⟨hm, lb, pl, some hS⟩ l.toArray (pickO l.toArray (List.range c)) (arun P ⟨hm, lb, [], none⟩ l.toArray (pickO l.toArray (List.range' c (d - c))) (bothK (arun P ⟨hm, lb, [], none⟩ l.toArray (pickO l.toArray A) K) (arun P ⟨hm, lb, [], none⟩ l.toArray (pickO l.toArray B) K))) fr bx h) : regionDD P hm l K fr bx h :=
  .inr (.inl ⟨lb, pl, some hS, ⟨c, d, p, q, A, B⟩, hE, hok, hr⟩)
theorem plk_n {ops : Array Oper} : pickO ops [] = [] := rfl
def plkS (o : Option Oper) (r : List Oper) : List Oper := match o with
  | some o => o :: r
  | none => r
theorem plk_s {o : Oper} {r : List Oper} : plkS (some o) r = o :: r := rfl
theorem plk_c {ops : Array Oper} {i : Nat} {r : List Nat} : pickO ops (i :: r) = plkS ops[i]? (pickO ops r) := by
  rw [pickO]
  cases ops[i]? <;> rfl
theorem runPlan_one {m : Mo} {ops : Array Oper} {L : List Nat} : runPlan P m ops K (.one L) = arun P m ops (pickO ops L) K := (rfl)
theorem runPlan_two {m : Mo} {ops : Array Oper} {pre : List Nat} {p q : Nat} {A B : Plan} : runPlan P m ops K (.two pre p A q B) = arun P m ops (pickO ops pre) (bothK (arun P m ops (pickO ops [p]) (runPlan P m ops K A)) (arun P m ops (pickO ops [q]) (runPlan P m ops K B))) := (rfl)
theorem bothK_mk {A B : Fr → Bx → Hp → Prop} (h1 : A fr bx h) (h2 : B fr bx h) : bothK A B fr bx h := ⟨h1, h2⟩
/-- a variable that the region makes is seen behind it -/
theorem regionP_intro {lb hm' : List Nat} (d : Nat) (hok : okDraw P hm' lb [] l.toArray = true) (hr : arun P ⟨hm', lb, [], none⟩ l.toArray l (prom d K) fr bx h) : regionDD P hm l K fr bx h :=
  (.inr (.inr (.inl ⟨d, ⟨hm', lb, [], none⟩, trivial, hok, hr⟩)))
theorem prom_intro {d : Nat} {cs : List Value} (hc : lkb bx d = some cs) (k : ∀ b T, h b = none → K (proF d b fr) (delb d bx) (hset h b (.cells cs.toArray T (0, 0)))) : prom d K fr bx h := by
  unfold prom
  rw [hc]
  intro b T hb
  exact k b T hb
/-- a box becomes a variable ahead of the region; some of the region's loads stand still -/
theorem regionQ_intro {lb pl : List Nat} (d : Nat) {cs : List Value} (hc : lkb bx d = some cs) (hok : okDraw P hm lb pl l.toArray = true)
    (k : ∀ b T, h b = none → arun P ⟨hm, lb, pl, some (hset h b (.cells cs.toArray T (0, 0)))⟩ l.toArray l K (proF d b fr) (delb d bx) (hset h b (.cells cs.toArray T (0, 0)))) : regionDD P hm l K fr bx h :=
  (.inr (.inr (.inr (.inl ⟨d, prom_intro hc fun b T hb => ⟨⟨hm, lb, pl, some (hset h b (.cells cs.toArray T (0, 0)))⟩, Ext.refl _, hok, k b T hb⟩⟩))))
theorem proF_e {d b : Nat} : proF d b [] = [] := rfl
theorem proF_v {d b i : Nat} {v : Value} {r : Fr} : proF d b ((i, .val v) :: r) = (i, .val v) :: proF d b r := rfl
theorem proF_b {d b i k off : Nat} {r : Fr} : proF d b ((i, .box k off) :: r) = (i, bif k == d then .val (.pointer (some ⟨b, off, none⟩)) else .box k off) :: proF d b r := rfl
theorem delb_e {d : Nat} : delb d [] = [] := rfl
theorem delb_c {d k : Nat} {c : List Value} {r : Bx} : delb d ((k, c) :: r) = bif k == d then delb d r else (k, c) :: delb d r := rfl
theorem pkO_n {ops : Array Oper} : pickO ops [] = [] := rfl
def pkS (o : Option Oper) (r : List Oper) : List Oper := match o with
  | some o => o :: r
  | none => r
theorem pk_s {o : Oper} {r : List Oper} : pkS (some o) r = o :: r := rfl
theorem pkO_c {ops : Array Oper} {i : Nat} {r : List Nat} : pickO ops (i :: r) = pkS ops[i]? (pickO ops r) := by
  rw [pickO]
  cases ops[i]? <;> rfl
theorem rg8 : List.range 8 = [0, 1, 2, 3, 4, 5, 6, 7] := by decide
theorem rg8b : List.range' 8 (9 - 8) = [8] := by decide
end
end Go.Sx
namespace Go.Sx
open Go
section
variable {P : Program} {h0 h : Hp} {K : Value → Hp → Prop} {bag : Bag}
/-- parts of a slot whose items are taken out -/
theorem hsem_srwK {t bb j : Nat} {A R : List Dt} {e : Sl} {u : Value} {len cap : Nat} (ht : tyS P t = some (true, 3)) (m : My h0 h ((.row 10 (A ++ (srw e u ++ R)), .slice (some ⟨bb, 0, none⟩) len cap) :: bag)) (h0l : 0 < len) (hj : j = A.length)
    (k : K (.agg #[.bool e.key.text, .int .i64 e.key.num, .string e.key.str]) h) : HPure P (ldI t (.pointer (some ⟨bb, j, none⟩))) h K := by
  obtain ⟨xs, hr, hat⟩ := m.at_
  refine hsem_getN ht (hat h0l) hr (i := j) (ds := e.key.dt) ?_ rfl (by omega) fun ys r => ?_
  · rw [hj, List.drop_left]
    rfl
  · rw [RdL_key r]
    exact k
theorem hsem_srwV {t bb j : Nat} {A R : List Dt} {e : Sl} {u : Value} {len cap : Nat} (ht : tyS P t = some (true, 5)) (m : My h0 h ((.row 10 (A ++ (srw e u ++ R)), .slice (some ⟨bb, 0, none⟩) len cap) :: bag)) (h0l : 0 < len) (hj : j = A.length + 3)
    (k : K (.agg #[.int .i64 e.val.kind, .int .i64 e.val.num, .string e.val.str, .int .i64 e.val.next, u]) h) : HPure P (ldI t (.pointer (some ⟨bb, j, none⟩))) h K := by
  obtain ⟨xs, hr, hat⟩ := m.at_
  refine hsem_getN ht (hat h0l) hr (i := j) (ds := ([.int .i64 e.val.kind, .int .i64 e.val.num, .string e.val.str, .int .i64 e.val.next, u] : List Value).map .raw) ?_ rfl (by omega) fun ys r => ?_
  · rw [hj, ← List.drop_drop, List.drop_left]
    rfl
  · rw [r.of_raws]
    exact k
theorem hsem_srwL {t n bb j : Nat} {A R : List Dt} {e : Sl} {u : Value} {len cap : Nat} (ht : tyS P t = some (false, n)) (m : My h0 h ((.row 10 (A ++ (srw e u ++ R)), .slice (some ⟨bb, 0, none⟩) len cap) :: bag)) (h0l : 0 < len) (hj : j = A.length + 8)
    (k : K (.bool e.live) h) : HPure P (ldI t (.pointer (some ⟨bb, j, none⟩))) h K := by
  refine hsem_my_get (cs := srw e u) (j := 8) ht m h0l rfl hj fun v hv => ?_
  obtain ⟨rfl, _⟩ := Rd_raw.1 hv
  exact k
theorem Tb.bump_same {t : Tb} {k : Ky} (h : k.text = true ∨ k.num < t.next) : t.bump k = t := by
  unfold Tb.bump
  cases kt : k.text with
  | true => rfl
  | false =>
    rw [kt] at h
    have h := h.resolve_left (by simp)
    have : max t.next (k.num + 1) = t.next := by omega
    rw [show (if false = true then t.next else max t.next (k.num + 1)) = max t.next (k.num + 1) from rfl, this]
theorem Tb.bump_next {t : Tb} {k : Ky} : (t.bump k).next = if k.text then t.next else max t.next (k.num + 1) := rfl
theorem Tb.setVal_eq {t : Tb} {i : Nat} {s : Sl} {v : V} (h : t.slots[i]? = some s) : t.setVal i v = ⟨t.hashed, t.heads, t.slots.take i ++ ⟨s.key, v, s.live, s.link⟩ :: t.slots.drop (i + 1), t.next, t.count⟩ := by
  unfold Tb.setVal
  rw [h]
theorem Tb.kill_eq {t : Tb} {i : Nat} {s : Sl} (h : t.slots[i]? = some s) : t.kill i = ⟨t.hashed, t.heads, t.slots.take i ++ ⟨s.key, V.zero, false, s.link⟩ :: t.slots.drop (i + 1), t.next, t.count - 1⟩ := by
  unfold Tb.kill
  rw [h]
theorem dbl_step {c f s : Nat} (h : s ≤ c) (hf : s * 2 ^ f = 32768) (hc : c < 1024) : ∃ g, f = g + 1 ∧ s * 2 * 2 ^ g = 32768 ∧ dbl c f s = dbl c g (s * 2) := by
  cases f with
  | zero => simp at hf; omega
  | succ g => exact ⟨g, rfl, by rw [← hf, Nat.pow_succ, Nat.mul_assoc, Nat.mul_comm 2], dbl_up h⟩
theorem dbl_end {c f s : Nat} (h : ¬ s ≤ c) : dbl c f s = s := by
  cases f with
  | zero => rfl
  | succ g => exact dbl_stop h
end
end Go.Sx
