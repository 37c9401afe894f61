/-
  A part of the abstract machine over the model's Code, or of the proof that what it shows holds of the model; no program is in sight, and nothing is assumed.
-/
import Derived.Test.YtedfplodobpgfaaGreatDoorSxTabI
/-! The array of a table; the table of an array; how many references there are. -/
namespace Go.Sx
open Go
/-- the entries of the live slots -/
def vent (ss : List Sl) : List (Ky × V) := (ss.filter (·.live)).map fun s => (s.key, s.val)
theorem vent_snoc {ss : List Sl} {i : Nat} {s : Sl} (h : ss[i]? = some s) : vent (ss.take (i + 1)) = if s.live then vent (ss.take i) ++ [(s.key, s.val)] else vent (ss.take i) := by
  unfold vent
  rw [take_snoc h, List.filter_append, List.map_append]
  cases hl : s.live <;> simp [hl]
theorem vent_len (ss : List Sl) : (vent ss).length = liveN ss := List.length_map ..
theorem vent_le (ss : List Sl) (i : Nat) : (vent (ss.take i)).length ≤ i := by
  rw [vent_len]
  have := liveN_le (ss.take i)
  rw [List.length_take] at this
  omega
theorem vent_bulks : ∀ ss : List Sl, V.bulks (vent ss) ≤ szG Sl.bulk ss
  | [] => by simp [vent, V.bulks]
  | s :: r => by
    have h1 := vent_bulks r
    have e2 : Sl.bulk s = s.key.str.size + s.val.bulk := rfl
    rw [szG_cons]
    unfold vent at h1 ⊢
    rw [List.filter_cons]
    split
    · rw [List.map_cons]
      simp only [V.bulks]
      omega
    · omega
def Tb.value (t : Tb) : V := ⟨4, 0, ⟨#[]⟩, t.next, vent t.slots⟩
theorem Tb.value_bulk (t : Tb) : V.bulks t.value.items ≤ t.bulk := by
  have := vent_bulks t.slots
  show V.bulks (vent t.slots) ≤ _
  unfold Tb.bulk
  omega
/-! the table of an array -/
def tb0 : Tb := ⟨false, [], [], 0, 0⟩
theorem tb0_ch : tb0.ch := ⟨fun h => (by cases h), fun h => (by cases h), fun h => (by cases h), fun h => (by cases h), fun _ => ⟨Nat.zero_le _, fun i s hs => by simp [tb0] at hs⟩, ⟨Int.le_refl _, by decide⟩, fun i s hs => (by simp [tb0] at hs), rfl⟩
/-- some entries are set, one after the other -/
def tabL (t : Tb) : List (Ky × V) → Tb
  | [] => t
  | e :: r => tabL (t.put e.1 e.2) r
theorem tabL_append (p q : List (Ky × V)) : ∀ t, tabL t (p ++ q) = tabL (tabL t p) q := by
  induction p with
  | nil => intro t; rfl
  | cons e r ih => intro t; rw [List.cons_append, tabL, tabL, ih]
theorem tabL_snoc {t : Tb} {es : List (Ky × V)} {i : Nat} {e : Ky × V} (h : es[i]? = some e) : tabL t (es.take (i + 1)) = (tabL t (es.take i)).put e.1 e.2 := by
  rw [take_snoc h, tabL_append]
  rfl
theorem build_live {t : Tb} (c : t.ch) (hl : liveN t.slots < 1024) : liveN t.build.slots ≤ liveN t.slots := by
  have w := c.build hl
  have h1 := liveN_le t.build.slots
  have h2 := w.len
  rw [List.take_length] at h2
  omega
theorem put_live {t : Tb} (c : t.ch) (k : Ky) (x : V) (hl : t.find k = none → liveN t.slots < 1024) : liveN (t.put k x).slots ≤ liveN t.slots + 1 := by
  unfold Tb.put
  split
  · unfold Tb.setVal
    split
    · rename_i s hs
      have := liveN_set hs (⟨s.key, x, s.live, s.link⟩ : Sl)
      show liveN (t.slots.take _ ++ (⟨s.key, x, s.live, s.link⟩ : Sl) :: t.slots.drop _) ≤ _
      have e : (⟨s.key, x, s.live, s.link⟩ : Sl).live = s.live := rfl
      rw [e] at this
      omega
    · omega
  · rename_i hf
    have hl := hl hf
    have h1 : liveN (t.hashIf k).slots ≤ liveN t.slots := by
      unfold Tb.hashIf
      split
      · exact build_live c hl
      · exact Nat.le_refl _
    have c1 := (c.hashIf hl k)
    have h2 : liveN ((t.hashIf k).growIf).slots ≤ liveN (t.hashIf k).slots := by
      unfold Tb.growIf
      split
      · exact build_live c1.1 c1.2.1
      · exact Nat.le_refl _
    show liveN ((((t.hashIf k).growIf).slots) ++ [_]) ≤ _
    rw [liveN_append, liveN_one]
    split <;> omega
/-- what is right of the table on the way: few entries, their keys right -/
theorem tabL_ok {t : Tb} (c : t.ch) : ∀ {es : List (Ky × V)}, (∀ e ∈ es, keyOk e.1 = true) → liveN t.slots + es.length ≤ 1024 → (tabL t es).ch ∧ liveN (tabL t es).slots ≤ liveN t.slots + es.length := by
  intro es
  induction es generalizing t with
  | nil => intro _ _; exact ⟨c, by simp [tabL]⟩
  | cons e r ih =>
    intro hk hl
    rw [List.length_cons] at hl
    have c1 := c.put (k := e.1) e.2 (hk e (by simp)) fun _ => by omega
    have l1 := put_live c e.1 e.2 fun _ => by omega
    have := ih c1 (fun u hu => hk u (by simp [hu])) (by omega)
    rw [tabL, List.length_cons]
    exact ⟨this.1, by omega⟩
theorem tabL_at {t : Tb} (c : t.ch) {es : List (Ky × V)} (hk : ∀ e ∈ es, keyOk e.1 = true) (hl : liveN t.slots + es.length ≤ 1024) (i : Nat) : (tabL t (es.take i)).ch ∧ (i < es.length → liveN (tabL t (es.take i)).slots < 1024) := by
  have h1 : (es.take i).length ≤ i := by rw [List.length_take]; omega
  have h2 : (es.take i).length ≤ es.length := by rw [List.length_take]; omega
  obtain ⟨q1, q2⟩ := tabL_ok c (es := es.take i) (fun e he => hk e (List.mem_of_mem_take he)) (by omega)
  exact ⟨q1, fun hi => by omega⟩
theorem tabL_bulk (t : Tb) : ∀ es : List (Ky × V), (tabL t es).bulk ≤ t.bulk + V.bulks es + 65537 * es.length := by
  intro es
  induction es generalizing t with
  | nil => simp [tabL]
  | cons e r ih =>
    obtain ⟨k, x⟩ := e
    have h1 := t.put_bulk k x
    have h2 := ih (t.put k x)
    rw [tabL, List.length_cons]
    simp only [V.bulks]
    omega
/-- the table with another next number -/
def Tb.withN (t : Tb) (n : Int) : Tb := ⟨t.hashed, t.heads, t.slots, n, t.count⟩
def V.isArr (v : V) : Bool := v.valid && decide (v.kind = 4)
def V.table (v : V) : Tb := if v.isArr then (tabL tb0 v.items).withN v.next else tb0
theorem table_yes {v : V} (h : v.isArr = true) : v.table = (tabL tb0 v.items).withN v.next := if_pos h
theorem table_no {v : V} (h : v.isArr = false) : v.table = tb0 := if_neg (by rw [h]; simp)
/-- the keys of a right array are right; it has few entries -/
theorem wfEs_keys : ∀ {es : List (Ky × V)} {x : Int} {seen : List Ky}, wfEs x es seen = true → ∀ e ∈ es, keyOk e.1 = true ∧ e.2.wf = true
  | [], _, _, _, e, he => by cases he
  | u :: r, x, seen, h, e, he => by
    rw [wfEs_cons] at h
    simp only [Bool.and_eq_true] at h
    cases he with
    | head => exact ⟨h.1, h.2.2.2.1⟩
    | tail _ he => exact wfEs_keys h.2.2.2.2 e he
theorem weights_len : ∀ es : List (Ky × V), es.length ≤ V.weights es
  | [] => Nat.zero_le _
  | e :: r => by
    have := weights_len r
    have h1 : 1 ≤ e.2.weight := by rw [V.weight_eq]; split <;> omega
    rw [V.weights_cons, List.length_cons]
    omega
theorem arr_ok {v : V} (h : v.isArr = true) : (∀ e ∈ v.items, keyOk e.1 = true ∧ e.2.wf = true) ∧ v.items.length < 200 ∧ 0 ≤ v.next ∧ v.next ≤ 1000000001 := by
  unfold V.isArr V.valid at h
  simp only [Bool.and_eq_true, decide_eq_true_eq] at h
  obtain ⟨⟨hw, hf⟩, hk⟩ := h
  rw [V.wf_eq] at hf
  unfold wf0 at hf
  simp [hk] at hf
  rw [V.weight_eq, if_pos hk] at hw
  have := weights_len v.items
  exact ⟨wfEs_keys hf.2.2.2, by omega, hf.2.2.1⟩
theorem table_bulk (v : V) : v.table.bulk ≤ v.bulk + 65537 * 200 := by
  have hb := V.bulk_eq v
  unfold V.table
  split
  · rename_i h
    have h1 := tabL_bulk tb0 v.items
    have h2 := (arr_ok h).2.1
    have e : tb0.bulk = 0 := rfl
    show (tabL tb0 v.items).bulk ≤ _
    omega
  · have e : tb0.bulk = 0 := rfl
    omega
/-! counts of references -/
def hit (n : Nat) (v : V) : Bool := decide (v.kind = 5) && decide (0 ≤ v.num ∧ v.num ≤ (n : Int) - 1)
def cnt1 (l : List Int) (v : V) : List Int := if hit l.length v then l.set v.num.toNat (l.getD v.num.toNat 0 + 1) else l
def cntV (l : List Int) : List V → List Int
  | [] => l
  | v :: r => cntV (cnt1 l v) r
def cntSl (l : List Int) : List Sl → List Int
  | [] => l
  | s :: r => cntSl (if s.live then cnt1 l s.val else l) r
def cntBl (l : List Int) : List Bk → List Int
  | [] => l
  | b :: r => cntBl (cntSl l b.tab.slots) r
theorem cnt1_len (l : List Int) (v : V) : (cnt1 l v).length = l.length := by
  unfold cnt1
  split
  · rw [List.length_set]
  · rfl
theorem cntV_append (p q : List V) : ∀ l, cntV l (p ++ q) = cntV (cntV l p) q := by
  induction p with
  | nil => intro l; rfl
  | cons e r ih => intro l; rw [List.cons_append, cntV, cntV, ih]
theorem cntSl_append (p q : List Sl) : ∀ l, cntSl l (p ++ q) = cntSl (cntSl l p) q := by
  induction p with
  | nil => intro l; rfl
  | cons e r ih => intro l; rw [List.cons_append, cntSl, cntSl, ih]
theorem cntBl_append (p q : List Bk) : ∀ l, cntBl l (p ++ q) = cntBl (cntBl l p) q := by
  induction p with
  | nil => intro l; rfl
  | cons e r ih => intro l; rw [List.cons_append, cntBl, cntBl, ih]
theorem cntV_snoc {l : List Int} {es : List V} {i : Nat} {e : V} (h : es[i]? = some e) : cntV l (es.take (i + 1)) = cnt1 (cntV l (es.take i)) e := by
  rw [take_snoc h, cntV_append]
  rfl
theorem cntSl_snoc {l : List Int} {es : List Sl} {i : Nat} {e : Sl} (h : es[i]? = some e) : cntSl l (es.take (i + 1)) = if e.live then cnt1 (cntSl l (es.take i)) e.val else cntSl l (es.take i) := by
  rw [take_snoc h, cntSl_append]
  rfl
theorem cntBl_snoc {l : List Int} {es : List Bk} {i : Nat} {e : Bk} (h : es[i]? = some e) : cntBl l (es.take (i + 1)) = cntSl (cntBl l (es.take i)) e.tab.slots := by
  rw [take_snoc h, cntBl_append]
  rfl
theorem cntV_len : ∀ (es : List V) (l : List Int), (cntV l es).length = l.length
  | [], _ => rfl
  | e :: r, l => by rw [cntV, cntV_len r, cnt1_len]
theorem cntSl_len : ∀ (es : List Sl) (l : List Int), (cntSl l es).length = l.length
  | [], _ => rfl
  | e :: r, l => by
    rw [cntSl, cntSl_len r]
    split
    · exact cnt1_len _ _
    · rfl
theorem cntBl_len : ∀ (es : List Bk) (l : List Int), (cntBl l es).length = l.length
  | [], _ => rfl
  | e :: r, l => by rw [cntBl, cntBl_len r, cntSl_len]
/-- the counts are small: there are few references -/
def smallC (l : List Int) (n : Nat) : Prop := ∀ x ∈ l, 0 ≤ x ∧ x ≤ (n : Int)
theorem smallC.one {l : List Int} {n : Nat} (h : smallC l n) (v : V) : smallC (cnt1 l v) (n + 1) := by
  intro x hx
  unfold cnt1 at hx
  split at hx
  · rename_i hh
    rcases List.mem_or_eq_of_mem_set hx with hx | hx
    · have := h x hx
      omega
    · have hlt : v.num.toNat < l.length := by
        unfold hit at hh
        simp only [Bool.and_eq_true, decide_eq_true_eq] at hh
        omega
      have := h _ (getD_mem (d := 0) hlt)
      omega
  · have := h x hx
    omega
theorem smallC.up {l : List Int} {n m : Nat} (h : smallC l n) (k : n ≤ m) : smallC l m := fun x hx => by
  have := h x hx
  omega
theorem smallC.vals : ∀ {es : List V} {l : List Int} {n : Nat}, smallC l n → smallC (cntV l es) (n + es.length)
  | [], _, _, h => h
  | e :: r, l, n, h => by
    have := smallC.vals (es := r) (h.one e)
    rw [cntV, List.length_cons]
    exact this.up (by omega)
theorem smallC.slots : ∀ {es : List Sl} {l : List Int} {n : Nat}, smallC l n → smallC (cntSl l es) (n + es.length)
  | [], _, _, h => h
  | e :: r, l, n, h => by
    rw [cntSl, List.length_cons]
    split
    · exact (smallC.slots (es := r) (h.one e.val)).up (by omega)
    · exact (smallC.slots (es := r) h).up (by omega)
theorem smallC.blocks : ∀ {es : List Bk} {l : List Int} {n : Nat}, smallC l n → smallC (cntBl l es) (n + szG Bk.bulk es)
  | [], _, _, h => h
  | e :: r, l, n, h => by
    have h1 := smallC.slots (es := e.tab.slots) h
    have h2 := smallC.blocks (es := r) h1
    have h3 := szG_len (w := Sl.bulk) e.tab.slots
    have e1 : Bk.bulk e = e.tab.heads.length + szG Sl.bulk e.tab.slots := rfl
    rw [cntBl, szG_cons]
    exact h2.up (by omega)
theorem smallC.zero (n : Nat) : smallC (List.replicate n 0) 0 := fun x hx => by
  rw [List.mem_replicate] at hx
  omega
/-- how many references there are to each block -/
def counts (l : List Bk) (roots : List V) : List Int := cntBl (cntV (List.replicate l.length 0) roots) l
theorem counts_len (l : List Bk) (roots : List V) : (counts l roots).length = l.length := by
  unfold counts
  rw [cntBl_len, cntV_len, List.length_replicate]
end Go.Sx
namespace Go.Sx
open Go
section
variable {P : Program} {h : Hp} {K : Value → Hp → Prop}
/-- What is loaded may be read in an earlier heap. -/
theorem hpure_base {s : Sem Value} {hB : Hp} (e : Ext hB h) (k : HPure P s hB fun v _ => K v h) : HPure P s h K := by
  obtain ⟨v, h1, h2⟩ := k
  exact ⟨v, fun w q => h1 w ⟨fun b o hb => q.vis b o (e b o hb)⟩, h2⟩
/-- The load of a block. -/
theorem hsem_blk {t b off i j : Nat} {es : List Bk} {e : Bk} {xs : List Value} (ht : tyS P t = some (true, 6)) (hat : At h ⟨b, off, none⟩ xs) (hr : RdL h (es.flatMap Bk.dt) xs) (hi : es[i]? = some e) (hj : j = off + i * 6)
    (k : ∀ s u, RdI h e.tab.heads s → RdT h e.tab.slots u → K (.agg #[.int .i64 e.count, .bool e.tab.hashed, s, u, .int .i64 e.tab.next, .int .i64 e.tab.count]) h) : HPure P (ldI t (.pointer (some ⟨b, j, none⟩))) h K :=
  hsem_row (f := Bk.dt) (o := 0) Bk.dt_len ht hat hr hi (Nat.le_refl _) (by rw [List.drop_zero, List.take_of_length_le (by rw [Bk.dt_len]; exact Nat.le_refl _)]) (by simpa using hj) fun ys r => by
    obtain ⟨s, u, rfl, hs, hu⟩ := RdL_blk r
    exact k s u hs hu
/-- The load of a block's table. -/
theorem hsem_btab {t b off i j : Nat} {es : List Bk} {e : Bk} {xs : List Value} (ht : tyS P t = some (true, 5)) (hat : At h ⟨b, off, none⟩ xs) (hr : RdL h (es.flatMap Bk.dt) xs) (hi : es[i]? = some e) (hj : j = off + i * 6 + 1)
    (k : ∀ s u, RdI h e.tab.heads s → RdT h e.tab.slots u → K (.agg #[.bool e.tab.hashed, s, u, .int .i64 e.tab.next, .int .i64 e.tab.count]) h) : HPure P (ldI t (.pointer (some ⟨b, j, none⟩))) h K :=
  hsem_row (f := Bk.dt) (o := 1) (ds := e.tab.dt) Bk.dt_len ht hat hr hi (by omega) (by simp [Bk.dt, Tb.dt]) (by omega) fun ys r => by
    obtain ⟨s, u, rfl, hs, hu⟩ := RdL_tab r
    exact k s u hs hu
/-- The load of a block's count. -/
theorem hsem_bcnt {t n b off i j : Nat} {es : List Bk} {e : Bk} {xs : List Value} (ht : tyS P t = some (false, n)) (hat : At h ⟨b, off, none⟩ xs) (hr : RdL h (es.flatMap Bk.dt) xs) (hi : es[i]? = some e) (hj : j = off + i * 6)
    (k : K (.int .i64 e.count) h) : HPure P (ldI t (.pointer (some ⟨b, j, none⟩))) h K :=
  hsem_cell (f := Bk.dt) (o := 0) (d := .raw (.int .i64 e.count)) Bk.dt_len ht hat hr hi (by omega) (by rw [Bk.dt_eq]; rfl) (by omega) fun u hu => by
    obtain ⟨rfl, _⟩ := Rd_raw.1 hu
    exact k
/-- The load of a block's slots. -/
theorem hsem_bslots {t n b off i j : Nat} {es : List Bk} {e : Bk} {xs : List Value} (ht : tyS P t = some (false, n)) (hat : At h ⟨b, off, none⟩ xs) (hr : RdL h (es.flatMap Bk.dt) xs) (hi : es[i]? = some e) (hj : j = off + i * 6 + 3)
    (k : ∀ u, RdT h e.tab.slots u → K u h) : HPure P (ldI t (.pointer (some ⟨b, j, none⟩))) h K :=
  hsem_cell (f := Bk.dt) (o := 3) (d := .row 10 (e.tab.slots.flatMap Sl.dt)) Bk.dt_len ht hat hr hi (by omega) (by rw [Bk.dt_eq]; rfl) (by omega) fun u hu => k u hu
/-- The load of a number of a slot's value. -/
theorem hsem_snum {t n b off i j : Nat} {es : List Sl} {e : Sl} {xs : List Value} (ht : tyS P t = some (false, n)) (hat : At h ⟨b, off, none⟩ xs) (hr : RdL h (es.flatMap Sl.dt) xs) (hi : es[i]? = some e) (hj : j = off + i * 10 + 4)
    (k : K (.int .i64 e.val.num) h) : HPure P (ldI t (.pointer (some ⟨b, j, none⟩))) h K :=
  hsem_cell (f := Sl.dt) (o := 4) (d := .raw (.int .i64 e.val.num)) Sl.dt_len ht hat hr hi (by omega) (by rw [Sl.dt_eq]; rfl) (by omega) fun u hu => by
    obtain ⟨rfl, _⟩ := Rd_raw.1 hu
    exact k
theorem hsem_skind {t n b off i j : Nat} {es : List Sl} {e : Sl} {xs : List Value} (ht : tyS P t = some (false, n)) (hat : At h ⟨b, off, none⟩ xs) (hr : RdL h (es.flatMap Sl.dt) xs) (hi : es[i]? = some e) (hj : j = off + i * 10 + 3)
    (k : K (.int .i64 e.val.kind) h) : HPure P (ldI t (.pointer (some ⟨b, j, none⟩))) h K :=
  hsem_cell (f := Sl.dt) (o := 3) (d := .raw (.int .i64 e.val.kind)) Sl.dt_len ht hat hr hi (by omega) (by rw [Sl.dt_eq]; rfl) (by omega) fun u hu => by
    obtain ⟨rfl, _⟩ := Rd_raw.1 hu
    exact k
end
theorem ix_int {z len b off : Nat} {n : Int} (h0 : 0 ≤ n) (hi : n.toNat < len) : ixA (some z) (some ⟨b, off, none⟩) len n = some (.pointer (some ⟨b, off + n.toNat * z, none⟩)) := by
  have := ix_nat (z := z) (b := b) (off := off) hi
  rwa [show ((n.toNat : Nat) : Int) = n by omega] at this
theorem zeros_int : ∀ n, zeros [.int .i64 0] n = (List.replicate n (0 : Int)).flatMap idt
  | 0 => rfl
  | n + 1 => by
    rw [zeros, zeros_int n, List.replicate_succ, List.flatMap_cons]
    rfl
theorem slots_bulk {l : List Bk} {i : Nat} {b : Bk} (h : l[i]? = some b) : b.tab.bulk ≤ szG Bk.bulk l := by
  have := szG_mem (w := Bk.bulk) (List.mem_of_getElem? h)
  have e : Bk.bulk b = b.tab.bulk := rfl
  omega
theorem tab_slots (t : Tb) : t.slots.length ≤ t.bulk ∧ ∀ s ∈ t.slots, s.val.bulk ≤ t.bulk ∧ s.key.str.size ≤ t.bulk := by
  refine ⟨?_, fun s hs => ?_⟩
  · have := szG_len (w := Sl.bulk) t.slots
    unfold Tb.bulk
    omega
  · have := szG_mem (w := Sl.bulk) hs
    have e : Sl.bulk s = s.key.str.size + s.val.bulk := rfl
    unfold Tb.bulk
    omega
section
variable {P : Program} {h : Hp} {K : Value → Hp → Prop}
theorem hsem_vrow {t b off i j : Nat} {es : List V} {e : V} {xs : List Value} (ht : tyS P t = some (true, 5)) (hat : At h ⟨b, off, none⟩ xs) (hr : RdL h (es.flatMap V.dt) xs) (hi : es[i]? = some e) (hj : j = off + i * 5)
    (k : ∀ sl, RdE h e.items sl → K (.agg #[.int .i64 e.kind, .int .i64 e.num, .string e.str, .int .i64 e.next, sl]) h) : HPure P (ldI t (.pointer (some ⟨b, j, none⟩))) h K :=
  hsem_row (f := V.dt) (o := 0) V.dt_len ht hat hr hi (Nat.le_refl _) (by rw [List.drop_zero, List.take_of_length_le (by rw [V.dt_len]; exact Nat.le_refl _)]) (by simpa using hj) fun ys r => by
    obtain ⟨sl, rfl, hs⟩ := RdL_val r
    exact k sl hs
theorem hsem_vkind {t n b off i j : Nat} {es : List V} {e : V} {xs : List Value} (ht : tyS P t = some (false, n)) (hat : At h ⟨b, off, none⟩ xs) (hr : RdL h (es.flatMap V.dt) xs) (hi : es[i]? = some e) (hj : j = off + i * 5)
    (k : K (.int .i64 e.kind) h) : HPure P (ldI t (.pointer (some ⟨b, j, none⟩))) h K :=
  hsem_cell (f := V.dt) (o := 0) (d := .raw (.int .i64 e.kind)) V.dt_len ht hat hr hi (by omega) (by rw [V.dt_eq]; rfl) (by omega) fun u hu => by
    obtain ⟨rfl, _⟩ := Rd_raw.1 hu
    exact k
theorem hsem_vnum {t n b off i j : Nat} {es : List V} {e : V} {xs : List Value} (ht : tyS P t = some (false, n)) (hat : At h ⟨b, off, none⟩ xs) (hr : RdL h (es.flatMap V.dt) xs) (hi : es[i]? = some e) (hj : j = off + i * 5 + 1)
    (k : K (.int .i64 e.num) h) : HPure P (ldI t (.pointer (some ⟨b, j, none⟩))) h K :=
  hsem_cell (f := V.dt) (o := 1) (d := .raw (.int .i64 e.num)) V.dt_len ht hat hr hi (by omega) (by rw [V.dt_eq]; rfl) (by omega) fun u hu => by
    obtain ⟨rfl, _⟩ := Rd_raw.1 hu
    exact k
end
end Go.Sx
namespace Go.Sx
open Go
/-! a key set in a copy -/
def tsetOf (t : Tb) (k : Ky) (v : V) : Tb × Bool := if t.isTab && keyOk k then (t.set k v, t.roomy k) else (t, false)
theorem tset_yes {t : Tb} {k : Ky} {v : V} (h : t.isTab = true) (hk : keyOk k = true) : tsetOf t k v = (t.set k v, t.roomy k) := if_pos (by rw [h, hk]; rfl)
theorem tset_no1 {t : Tb} {k : Ky} {v : V} (h : t.isTab = false) : tsetOf t k v = (t, false) := if_neg (by rw [h]; simp)
theorem tset_no2 {t : Tb} {k : Ky} {v : V} (h : keyOk k = false) : tsetOf t k v = (t, false) := if_neg (by rw [h]; simp)
theorem tset_bulk (t : Tb) (k : Ky) (v : V) : (tsetOf t k v).1.bulk ≤ t.bulk + k.str.size + v.bulk + 65537 := by
  unfold tsetOf
  split
  · show (t.set k v).bulk ≤ _
    unfold Tb.set
    split
    · exact t.put_bulk k v
    · omega
  · simp only; omega
end Go.Sx
