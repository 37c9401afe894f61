/-
  A part of the abstract machine over the model's Code, or of the proof that what it shows holds of the model; no program is in sight, and nothing is assumed.
-/
import Derived.Test.YtconhonjkfpfmaaDoorSxValid
/-! Hash tables in plain Lean: hashes, chains, what a table must be like, how a key is found, set, taken out; sizes of slots, tables, blocks. -/
namespace Go.Sx
open Go
def Sl.bulk (s : Sl) : Nat := s.key.str.size + s.val.bulk
def Tb.bulk (t : Tb) : Nat := t.heads.length + szG Sl.bulk t.slots
def Bk.bulk (b : Bk) : Nat := b.tab.bulk
/-- Numbers, slots, blocks in memory. -/
abbrev RdI (h : Hp) (l : List Int) (sl : Value) : Prop := Rd h (.row 1 (l.flatMap idt)) sl
abbrev RdT (h : Hp) (l : List Sl) (sl : Value) : Prop := Rd h (.row 10 (l.flatMap Sl.dt)) sl
abbrev RdB (h : Hp) (l : List Bk) (sl : Value) : Prop := Rd h (.row 6 (l.flatMap Bk.dt)) sl
theorem RdL_slot {h : Hp} {e : Sl} {ys : List Value} (r : RdL h e.dt ys) :
    ∃ sl, ys = [.bool e.key.text, .int .i64 e.key.num, .string e.key.str, .int .i64 e.val.kind, .int .i64 e.val.num, .string e.val.str, .int .i64 e.val.next, sl, .bool e.live, .int .i64 e.link] ∧ RdE h e.val.items sl := by
  unfold Sl.dt at r
  obtain ⟨ks, zs, rfl, r1, r2⟩ := r.split
  obtain ⟨vs, ws, rfl, r3, r4⟩ := r2.split
  obtain ⟨sl, rfl, hs⟩ := RdL_val r3
  simp only [RdL_cons, RdL_nil, Rd_raw] at r4
  obtain ⟨_, _, rfl, ⟨rfl, _⟩, _, _, rfl, ⟨rfl, _⟩, rfl⟩ := r4
  rw [RdL_key r1]
  exact ⟨sl, rfl, hs⟩
theorem RdL_tab {h : Hp} {e : Tb} {ys : List Value} (r : RdL h e.dt ys) : ∃ s u, ys = [.bool e.hashed, s, u, .int .i64 e.next, .int .i64 e.count] ∧ RdI h e.heads s ∧ RdT h e.slots u := by
  simp only [Tb.dt, RdL_cons, RdL_nil, Rd_raw] at r
  obtain ⟨_, _, rfl, ⟨rfl, _⟩, s, _, rfl, hs, u, _, rfl, hu, _, _, rfl, ⟨rfl, _⟩, _, _, rfl, ⟨rfl, _⟩, rfl⟩ := r
  exact ⟨s, u, rfl, hs, hu⟩
theorem RdL_blk {h : Hp} {e : Bk} {ys : List Value} (r : RdL h e.dt ys) : ∃ s u, ys = [.int .i64 e.count, .bool e.tab.hashed, s, u, .int .i64 e.tab.next, .int .i64 e.tab.count] ∧ RdI h e.tab.heads s ∧ RdT h e.tab.slots u := by
  simp only [Bk.dt, RdL_cons, Rd_raw] at r
  obtain ⟨_, _, rfl, ⟨rfl, _⟩, r⟩ := r
  obtain ⟨s, u, rfl, hs, hu⟩ := RdL_tab r
  exact ⟨s, u, rfl, hs, hu⟩
theorem Tb.dt_len (t : Tb) : t.dt.length = 5 := rfl
section
variable {P : Program} {h : Hp} {K : Value → Hp → Prop}
/-- The load of a slot. -/
theorem hsem_slot {t b off i j : Nat} {es : List Sl} {e : Sl} {xs : List Value} (ht : tyS P t = some (true, 10)) (hat : At h ⟨b, off, none⟩ xs) (hr : RdL h (es.flatMap Sl.dt) xs) (hi : es[i]? = some e) (hj : j = off + i * 10)
    (k : ∀ sl, RdE h e.val.items sl → K (.agg #[.bool e.key.text, .int .i64 e.key.num, .string e.key.str, .int .i64 e.val.kind, .int .i64 e.val.num, .string e.val.str, .int .i64 e.val.next, sl, .bool e.live, .int .i64 e.link]) h) : HPure P (ldI t (.pointer (some ⟨b, j, none⟩))) h K :=
  hsem_row (f := Sl.dt) (o := 0) Sl.dt_len ht hat hr hi (Nat.le_refl _) (by rw [List.drop_zero, List.take_of_length_le (by rw [Sl.dt_len]; exact Nat.le_refl _)]) (by simpa using hj) fun ys r => by
    obtain ⟨sl, rfl, hs⟩ := RdL_slot r
    exact k sl hs
/-- The load of a slot's key. -/
theorem hsem_skey {t b off i j : Nat} {es : List Sl} {e : Sl} {xs : List Value} (ht : tyS P t = some (true, 3)) (hat : At h ⟨b, off, none⟩ xs) (hr : RdL h (es.flatMap Sl.dt) xs) (hi : es[i]? = some e) (hj : j = off + i * 10)
    (k : K (.agg #[.bool e.key.text, .int .i64 e.key.num, .string e.key.str]) h) : HPure P (ldI t (.pointer (some ⟨b, j, none⟩))) h K :=
  hsem_row (f := Sl.dt) (o := 0) (ds := e.key.dt) Sl.dt_len ht hat hr hi (by omega) (by simp [Sl.dt, Ky.dt]) (by simpa using hj) fun ys r => by
    rw [RdL_key r]
    exact k
/-- The load of a slot's value. -/
theorem hsem_sval {t b off i j : Nat} {es : List Sl} {e : Sl} {xs : List Value} (ht : tyS P t = some (true, 5)) (hat : At h ⟨b, off, none⟩ xs) (hr : RdL h (es.flatMap Sl.dt) xs) (hi : es[i]? = some e) (hj : j = off + i * 10 + 3)
    (k : ∀ sl, RdE h e.val.items sl → K (.agg #[.int .i64 e.val.kind, .int .i64 e.val.num, .string e.val.str, .int .i64 e.val.next, sl]) h) : HPure P (ldI t (.pointer (some ⟨b, j, none⟩))) h K :=
  hsem_row (f := Sl.dt) (o := 3) (ds := e.val.dt) Sl.dt_len ht hat hr hi (by omega) (by simp [Sl.dt, Ky.dt, V.dt_eq]) (by omega) fun ys r => by
    obtain ⟨sl, rfl, hs⟩ := RdL_val r
    exact k sl hs
/-- The load of whether a slot lives. -/
theorem hsem_slive {t n b off i j : Nat} {es : List Sl} {e : Sl} {xs : List Value} (ht : tyS P t = some (false, n)) (hat : At h ⟨b, off, none⟩ xs) (hr : RdL h (es.flatMap Sl.dt) xs) (hi : es[i]? = some e) (hj : j = off + i * 10 + 8)
    (k : K (.bool e.live) h) : HPure P (ldI t (.pointer (some ⟨b, j, none⟩))) h K :=
  hsem_cell (f := Sl.dt) (o := 8) (d := .raw (.bool e.live)) Sl.dt_len ht hat hr hi (by omega) (by rw [Sl.dt_eq]; rfl) (by omega) fun u hu => by
    obtain ⟨rfl, _⟩ := Rd_raw.1 hu
    exact k
/-- The load of a slot's link. -/
theorem hsem_slink {t n b off i j : Nat} {es : List Sl} {e : Sl} {xs : List Value} (ht : tyS P t = some (false, n)) (hat : At h ⟨b, off, none⟩ xs) (hr : RdL h (es.flatMap Sl.dt) xs) (hi : es[i]? = some e) (hj : j = off + i * 10 + 9)
    (k : K (.int .i64 e.link) h) : HPure P (ldI t (.pointer (some ⟨b, j, none⟩))) h K :=
  hsem_cell (f := Sl.dt) (o := 9) (d := .raw (.int .i64 e.link)) Sl.dt_len ht hat hr hi (by omega) (by rw [Sl.dt_eq]; rfl) (by omega) fun u hu => by
    obtain ⟨rfl, _⟩ := Rd_raw.1 hu
    exact k
/-- The load of a number. -/
theorem hsem_num {t n b off i j : Nat} {es : List Int} {e : Int} {xs : List Value} (ht : tyS P t = some (false, n)) (hat : At h ⟨b, off, none⟩ xs) (hr : RdL h (es.flatMap idt) xs) (hi : es[i]? = some e) (hj : j = off + i * 1)
    (k : K (.int .i64 e) h) : HPure P (ldI t (.pointer (some ⟨b, j, none⟩))) h K :=
  hsem_cell (f := idt) (o := 0) (d := .raw (.int .i64 e)) idt_len ht hat hr hi (by omega) rfl (by omega) fun u hu => by
    obtain ⟨rfl, _⟩ := Rd_raw.1 hu
    exact k
end
/-! hashes -/
def hstep (d : Nat) (c : UInt8) : Nat := (d * 1000003 + c.toNat + 13) % 2147483647
def hashT (s : ByteArray) : Nat := s.data.toList.foldl hstep 11
theorem hstep_lt (d : Nat) (c : UInt8) : hstep d c < 2147483647 := by unfold hstep; omega
theorem hfold_lt : ∀ (l : List UInt8) (d : Nat), d < 2147483647 → l.foldl hstep d < 2147483647
  | [], _, h => h
  | c :: r, d, _ => hfold_lt r (hstep d c) (hstep_lt d c)
theorem hfold_snoc {l : List UInt8} {i : Nat} {c : UInt8} (h : l[i]? = some c) : (l.take (i + 1)).foldl hstep 11 = hstep ((l.take i).foldl hstep 11) c := by
  rw [take_snoc h, List.foldl_append, List.foldl_cons, List.foldl_nil]
def Ky.hash (k : Ky) : Nat := if k.text then hashT k.str else (k.num % 2147483647).toNat
theorem Ky.hash_lt (k : Ky) : k.hash < 2147483647 := by
  unfold Ky.hash
  split
  · exact hfold_lt _ _ (by omega)
  · omega
/-! what a table must be like -/
def V.isZero (v : V) : Bool := decide (v.kind = 0) && (decide (v.num = 0) && (decide (v.str = ⟨#[]⟩) && (decide (v.next = 0) && decide (v.items.length = 0))))
/-- the heads of the first n slots -/
def hdsN (size : Nat) (ss : List Sl) : Nat → List Int
  | 0 => List.replicate size (-1)
  | n + 1 => match ss[n]? with
    | some s => (hdsN size ss n).set (s.key.hash % size) (n : Nat)
    | none => hdsN size ss n
theorem hdsN_len (size : Nat) (ss : List Sl) : ∀ n, (hdsN size ss n).length = size
  | 0 => by simp [hdsN]
  | n + 1 => by
    rw [hdsN]
    split
    · rw [List.length_set, hdsN_len size ss n]
    · exact hdsN_len size ss n
theorem hdsN_mem (size : Nat) (ss : List Sl) : ∀ n x, x ∈ hdsN size ss n → -1 ≤ x ∧ x < n
  | 0, x, h => by
    rw [hdsN, List.mem_replicate] at h
    omega
  | n + 1, x, h => by
    rw [hdsN] at h
    split at h
    · rcases List.mem_or_eq_of_mem_set h with h | h
      · have := hdsN_mem size ss n x h
        omega
      · omega
    · have := hdsN_mem size ss n x h
      omega
theorem hdsN_append (size : Nat) (ss us : List Sl) : ∀ n, n ≤ ss.length → hdsN size (ss ++ us) n = hdsN size ss n
  | 0, _ => rfl
  | n + 1, h => by
    rw [hdsN, hdsN, List.getElem?_append_left (by omega), hdsN_append size ss us n (by omega)]
theorem hdsN_succ {size : Nat} {ss : List Sl} {n : Nat} {s : Sl} (h : ss[n]? = some s) : hdsN size ss (n + 1) = (hdsN size ss n).set (s.key.hash % size) (n : Nat) := by
  rw [hdsN, h]
/-- how many slots live -/
def liveN (ss : List Sl) : Nat := (ss.filter (·.live)).length
theorem liveN_le (ss : List Sl) : liveN ss ≤ ss.length := List.length_filter_le _ _
theorem liveN_append (p q : List Sl) : liveN (p ++ q) = liveN p + liveN q := by unfold liveN; rw [List.filter_append, List.length_append]
theorem liveN_snoc {ss : List Sl} {i : Nat} {s : Sl} (h : ss[i]? = some s) : liveN (ss.take (i + 1)) = liveN (ss.take i) + if s.live then 1 else 0 := by
  rw [take_snoc h, liveN_append]
  congr 1
  unfold liveN
  cases hl : s.live <;> simp [hl]
theorem liveN_one (s : Sl) : liveN [s] = if s.live then 1 else 0 := by
  unfold liveN
  cases hl : s.live <;> simp [hl]
/-- 'and' of two numbers -/
def bandI (a b : Int) : Int := IntKind.i64.wrap ((BitVec.ofInt IntKind.i64.bits a &&& BitVec.ofInt IntKind.i64.bits b).toNat : Int)
theorem vbin_bandI {P : Program} {nc : Bool} {t : Nat} {a b : Int} : vbin P .and t nc (.int .i64 a) (.int .i64 b) = some (.int .i64 (bandI a b)) := vbin_and
/-- a power of two, as the program asks it -/
def p2 (n : Nat) : Bool := decide (bandI (n : Int) (IntKind.i64.wrap ((n : Int) - 1)) = 0)
structure Tb.wf (t : Tb) : Prop where
  next : 0 ≤ t.next ∧ t.next ≤ 1000000001
  keys : ∀ (i : Nat) (s : Sl), t.slots[i]? = some s → keyOk s.key = true ∧ (s.key.text = true ∨ s.key.num < t.next) ∧ (s.live = true ∨ s.val.isZero = true)
  dist : ∀ (i j : Nat) (s u : Sl), j < i → t.slots[i]? = some s → t.slots[j]? = some u → s.live = true → u.live = true → ¬ u.key = s.key
  cnt : t.count = liveN t.slots
  packed : t.hashed = false → t.heads.length = 0 ∧ (t.slots.length : Int) ≤ t.next ∧ t.slots.length ≤ 1024 ∧ ∀ (i : Nat) (s : Sl), t.slots[i]? = some s → s.key = ⟨false, (i : Nat), ⟨#[]⟩⟩ ∧ s.link = -1
  hash : t.hashed = true → (8 ≤ t.heads.length ∧ t.heads.length ≤ 1024) ∧ p2 t.heads.length = true ∧ t.slots.length ≤ t.heads.length ∧
    (∀ (i : Nat) (s : Sl), t.slots[i]? = some s → (hdsN t.heads.length t.slots i)[s.key.hash % t.heads.length]? = some s.link) ∧ t.heads = hdsN t.heads.length t.slots t.slots.length
/-! how a key is found -/
def chn (ss : List Sl) (k : Ky) : Nat → Int → Option Nat
  | 0, _ => none
  | f + 1, i => if i < 0 then none else match ss[i.toNat]? with
    | some s => if s.live = true ∧ s.key = k then some i.toNat else chn ss k f s.link
    | none => none
/-- each link of a chain goes back -/
def Back (ss : List Sl) : Prop := ∀ (i : Nat) (s : Sl), ss[i]? = some s → -1 ≤ s.link ∧ s.link < i
theorem chn_fuel {ss : List Sl} {k : Ky} (hb : Back ss) : ∀ (f g : Nat) (i : Int), i < f → i < g → chn ss k f i = chn ss k g i
  | 0, g, i, h, _ => by
    cases g with
    | zero => rfl
    | succ g => rw [chn, chn, if_pos (by omega)]
  | f + 1, 0, i, _, h => by rw [chn, chn, if_pos (by omega)]
  | f + 1, g + 1, i, hf, hg => by
    rw [chn, chn]
    split
    · rfl
    · split
      · rename_i hs
        have := hb _ _ hs
        rw [chn_fuel hb f g _ (by omega) (by omega)]
      · rfl
/-- the chain from a place on -/
def chain (ss : List Sl) (k : Ky) (i : Int) : Option Nat := chn ss k (i + 1).toNat i
theorem chain_neg {ss : List Sl} {k : Ky} {i : Int} (h : i < 0) : chain ss k i = none := by
  unfold chain
  cases (i + 1).toNat with
  | zero => rfl
  | succ f => rw [chn, if_pos h]
theorem chain_hit {ss : List Sl} {k : Ky} {i : Int} {s : Sl} (h0 : 0 ≤ i) (hs : ss[i.toNat]? = some s) (h : s.live = true ∧ s.key = k) : chain ss k i = some i.toNat := by
  unfold chain
  rw [show (i + 1).toNat = i.toNat + 1 by omega, chn, if_neg (by omega), hs]
  simp only
  rw [if_pos h]
theorem chain_miss {ss : List Sl} {k : Ky} {i : Int} {s : Sl} (hb : Back ss) (h0 : 0 ≤ i) (hs : ss[i.toNat]? = some s) (h : ¬ (s.live = true ∧ s.key = k)) : chain ss k i = chain ss k s.link := by
  unfold chain
  rw [show (i + 1).toNat = i.toNat + 1 by omega, chn, if_neg (by omega), hs]
  simp only
  rw [if_neg h]
  have := hb _ _ hs
  exact chn_fuel hb _ _ _ (by omega) (by omega)
theorem chain_some {ss : List Sl} {k : Ky} : ∀ (f : Nat) (i : Int) (j : Nat), chn ss k f i = some j → ∃ s, ss[j]? = some s ∧ s.live = true ∧ s.key = k
  | 0, _, _, h => by cases h
  | f + 1, i, j, h => by
    rw [chn] at h
    split at h
    · cases h
    · split at h
      · rename_i s hs
        split at h
        · rename_i hk
          cases h
          exact ⟨s, hs, hk⟩
        · exact chain_some f _ _ h
      · cases h
/-- the live slot of a key -/
def Tb.find (t : Tb) (k : Ky) : Option Nat :=
  if t.hashed then chain t.slots k (t.heads.getD (k.hash % t.heads.length) (-1))
  else if k.text = false ∧ k.str = ⟨#[]⟩ ∧ 0 ≤ k.num ∧ ((t.slots[k.num.toNat]?).map (·.live)).getD false = true then some k.num.toNat else none
theorem Tb.find_live {t : Tb} {k : Ky} {i : Nat} (h : t.find k = some i) : ∃ s, t.slots[i]? = some s ∧ s.live = true := by
  unfold Tb.find at h
  split at h
  · obtain ⟨s, h1, h2, _⟩ := chain_some _ _ _ h
    exact ⟨s, h1, h2⟩
  · split at h
    · rename_i hc
      cases h
      cases hs : t.slots[k.num.toNat]? with
      | none => rw [hs] at hc; simp at hc
      | some s => rw [hs] at hc; exact ⟨s, rfl, by simpa using hc.2.2.2⟩
    · cases h
/-- what the walks along a table lean on -/
structure Tb.ch (t : Tb) : Prop where
  back : t.hashed = true → Back t.slots
  heads : t.hashed = true → ∀ x ∈ t.heads, -1 ≤ x ∧ x < t.slots.length
  size : t.hashed = true → 8 ≤ t.heads.length ∧ t.heads.length ≤ 1024
  room : t.hashed = true → t.slots.length ≤ t.heads.length
  packed : t.hashed = false → t.slots.length ≤ 1024 ∧ ∀ (i : Nat) (s : Sl), t.slots[i]? = some s → s.key = ⟨false, (i : Nat), ⟨#[]⟩⟩
  next : 0 ≤ t.next ∧ t.next ≤ 1000000001
  keys : ∀ (i : Nat) (s : Sl), t.slots[i]? = some s → keyOk s.key = true ∧ (s.key.text = true ∨ s.key.num < t.next)
  cnt : t.count = liveN t.slots
theorem Tb.wf.ch {t : Tb} (w : t.wf) : t.ch where
  back h i s hs := by
    have h1 := (w.hash h).2.2.2.1 i s hs
    have h2 := hdsN_mem _ _ _ _ (List.mem_of_getElem? h1)
    omega
  heads h x hx := by
    rw [(w.hash h).2.2.2.2] at hx
    exact hdsN_mem _ _ _ _ hx
  size h := (w.hash h).1
  room h := (w.hash h).2.2.1
  packed h := ⟨(w.packed h).2.2.1, fun i s hs => ((w.packed h).2.2.2 i s hs).1⟩
  next := w.next
  keys i s hs := ⟨(w.keys i s hs).1, (w.keys i s hs).2.1⟩
  cnt := w.cnt
theorem Tb.ch.len {t : Tb} (c : t.ch) : t.slots.length ≤ 1024 := by
  cases h : t.hashed with
  | true => have := c.room h; have := c.size h; omega
  | false => exact (c.packed h).1
end Go.Sx
namespace Go.Sx
open Go
/-! how a table is changed -/
def Tb.link (t : Tb) (k : Ky) : Int := if t.hashed then t.heads.getD (k.hash % t.heads.length) (-1) else -1
/-- a live slot at the end -/
def Tb.push (t : Tb) (k : Ky) (v : V) : Tb := ⟨t.hashed, if t.hashed then t.heads.set (k.hash % t.heads.length) (t.slots.length : Nat) else t.heads, t.slots ++ [⟨k, v, true, t.link k⟩], t.next, t.count + 1⟩
/-- the next free number goes behind a key -/
def Tb.bump (t : Tb) (k : Ky) : Tb := ⟨t.hashed, t.heads, t.slots, if k.text then t.next else max t.next (k.num + 1), t.count⟩
/-- a power of two above a number -/
def dbl (c : Nat) : Nat → Nat → Nat
  | 0, s => s
  | f + 1, s => if s ≤ c then dbl c f (s * 2) else s
def roomN (c : Nat) : Nat := dbl c 12 8
theorem dbl_up {c f s : Nat} (h : s ≤ c) : dbl c (f + 1) s = dbl c f (s * 2) := by rw [dbl, if_pos h]
theorem dbl_stop {c f s : Nat} (h : ¬ s ≤ c) : dbl c (f + 1) s = s := by rw [dbl, if_neg h]
theorem roomN_spec {c : Nat} (h : c < 1024) : 8 ≤ roomN c ∧ roomN c ≤ 1024 ∧ c < roomN c := by
  unfold roomN
  by_cases h0 : 8 ≤ c
  case neg => rw [dbl_stop (by omega)]; omega
  rw [dbl_up (by omega)]
  by_cases h1 : 16 ≤ c
  case neg => rw [dbl_stop (by omega)]; omega
  rw [dbl_up (by omega)]
  by_cases h2 : 32 ≤ c
  case neg => rw [dbl_stop (by omega)]; omega
  rw [dbl_up (by omega)]
  by_cases h3 : 64 ≤ c
  case neg => rw [dbl_stop (by omega)]; omega
  rw [dbl_up (by omega)]
  by_cases h4 : 128 ≤ c
  case neg => rw [dbl_stop (by omega)]; omega
  rw [dbl_up (by omega)]
  by_cases h5 : 256 ≤ c
  case neg => rw [dbl_stop (by omega)]; omega
  rw [dbl_up (by omega)]
  by_cases h6 : 512 ≤ c
  case neg => rw [dbl_stop (by omega)]; omega
  rw [dbl_up (by omega)]
  rw [dbl_stop (by omega)]
  omega
def Tb.fresh (t : Tb) : Tb := ⟨true, List.replicate (roomN (liveN t.slots)) (-1), [], t.next, 0⟩
/-- live slots are added -/
def Tb.pushAll (o : Tb) : List Sl → Tb
  | [] => o
  | s :: r => Tb.pushAll (if s.live then o.push s.key s.val else o) r
theorem Tb.pushAll_append (p q : List Sl) : ∀ o : Tb, o.pushAll (p ++ q) = (o.pushAll p).pushAll q := by
  induction p with
  | nil => intro o; rfl
  | cons s r ih => intro o; rw [List.cons_append, Tb.pushAll, Tb.pushAll, ih]
theorem Tb.pushAll_snoc {o : Tb} {l : List Sl} {i : Nat} {s : Sl} (h : l[i]? = some s) : o.pushAll (l.take (i + 1)) = if s.live then (o.pushAll (l.take i)).push s.key s.val else o.pushAll (l.take i) := by
  rw [take_snoc h, Tb.pushAll_append]
  rfl
/-- the hashed table of the live slots -/
def Tb.build (t : Tb) : Tb := t.fresh.pushAll t.slots
def Tb.setVal (t : Tb) (i : Nat) (v : V) : Tb :=
  match t.slots[i]? with
  | some s => ⟨t.hashed, t.heads, t.slots.take i ++ ⟨s.key, v, s.live, s.link⟩ :: t.slots.drop (i + 1), t.next, t.count⟩
  | none => t
def V.zero : V := ⟨0, 0, ⟨#[]⟩, 0, []⟩
/-- a slot is emptied -/
def Tb.kill (t : Tb) (i : Nat) : Tb :=
  match t.slots[i]? with
  | some s => ⟨t.hashed, t.heads, t.slots.take i ++ ⟨s.key, V.zero, false, s.link⟩ :: t.slots.drop (i + 1), t.next, t.count - 1⟩
  | none => t
def Tb.drop (t : Tb) (k : Ky) : Tb := match t.find k with
  | some i => t.kill i
  | none => t
/-- a packed table that a key does not fit into is hashed -/
def Tb.hashIf (t : Tb) (k : Ky) : Tb := if t.hashed = false ∧ (¬ k = ⟨false, (t.slots.length : Nat), ⟨#[]⟩⟩ ∨ t.slots.length = 1024) then t.build else t
/-- a full hashed table is built anew -/
def Tb.growIf (t : Tb) : Tb := if t.hashed = true ∧ t.slots.length = t.heads.length then t.build else t
def Tb.put (t : Tb) (k : Ky) (v : V) : Tb := match t.find k with
  | some i => t.setVal i v
  | none => (((t.hashIf k).growIf).push k v).bump k
/-! what stays -/
theorem getD_mem {l : List Int} {i : Nat} {d : Int} (h : i < l.length) : l.getD i d ∈ l := by
  rw [List.getD_eq_getElem?_getD, List.getElem?_eq_getElem h]
  exact List.getElem_mem h
theorem getD_at {l : List Int} {i : Nat} {d : Int} (h : i < l.length) : l[i]? = some (l.getD i d) := by
  rw [List.getD_eq_getElem?_getD, List.getElem?_eq_getElem h]
  rfl
theorem Tb.ch.link {t : Tb} (c : t.ch) (k : Ky) : -1 ≤ t.link k ∧ t.link k < t.slots.length := by
  unfold Tb.link
  split
  · rename_i h
    have := c.size h
    exact c.heads h _ (getD_mem (Nat.mod_lt _ (by omega)))
  · omega
theorem snoc_get {α : Type} {l : List α} {x : α} {i : Nat} {s : α} (h : (l ++ [x])[i]? = some s) : (i < l.length ∧ l[i]? = some s) ∨ (i = l.length ∧ s = x) := by
  by_cases hi : i < l.length
  · rw [List.getElem?_append_left hi] at h
    exact .inl ⟨hi, h⟩
  · rw [List.getElem?_append_right (by omega)] at h
    have := (List.getElem?_eq_some_iff.1 h).1
    simp only [List.length_singleton] at this
    have e : i - l.length = 0 := by omega
    rw [e] at h
    simp at h
    exact .inr ⟨by omega, h.symm⟩
/-- what a push asks: room, and a key that goes on where the table is packed -/
def Tb.fits (t : Tb) (k : Ky) : Prop := (t.hashed = true → t.slots.length < t.heads.length) ∧ (t.hashed = false → t.slots.length < 1024 ∧ k = ⟨false, (t.slots.length : Nat), ⟨#[]⟩⟩)
theorem Tb.ch.push {t : Tb} (c : t.ch) {k : Ky} (v : V) (hf : t.fits k) (hk : keyOk k = true) (hn : k.text = true ∨ k.num < t.next) : (t.push k v).ch where
  back h i s hs := by
    have h : t.hashed = true := h
    rcases snoc_get (show (t.slots ++ [_])[i]? = some s from hs) with ⟨_, hs⟩ | ⟨rfl, rfl⟩
    · exact c.back h i s hs
    · exact c.link k
  heads h x hx := by
    have h : t.hashed = true := h
    have hx : x ∈ (if t.hashed then t.heads.set (k.hash % t.heads.length) (t.slots.length : Nat) else t.heads) := hx
    rw [if_pos h] at hx
    have hl : (t.push k v).slots.length = t.slots.length + 1 := by simp [Tb.push]
    rw [hl]
    rcases List.mem_or_eq_of_mem_set hx with hx | hx
    · have := c.heads h x hx
      omega
    · omega
  size h := by
    have h : t.hashed = true := h
    have := c.size h
    have e : (t.push k v).heads.length = t.heads.length := by simp [Tb.push, h]
    omega
  room h := by
    have h : t.hashed = true := h
    have := hf.1 h
    have e : (t.push k v).heads.length = t.heads.length := by simp [Tb.push, h]
    have hl : (t.push k v).slots.length = t.slots.length + 1 := by simp [Tb.push]
    omega
  packed h := by
    have h : t.hashed = false := h
    have h1 := hf.2 h
    have hl : (t.push k v).slots.length = t.slots.length + 1 := by simp [Tb.push]
    refine ⟨by omega, fun i s hs => ?_⟩
    rcases snoc_get (show (t.slots ++ [_])[i]? = some s from hs) with ⟨_, hs⟩ | ⟨rfl, rfl⟩
    · exact (c.packed h).2 i s hs
    · exact h1.2
  next := c.next
  keys i s hs := by
    rcases snoc_get (show (t.slots ++ [_])[i]? = some s from hs) with ⟨_, hs⟩ | ⟨rfl, rfl⟩
    · exact c.keys i s hs
    · exact ⟨hk, hn⟩
  cnt := by
    show t.count + 1 = ((liveN (t.slots ++ [⟨k, v, true, t.link k⟩]) : Nat) : Int)
    rw [liveN_append, liveN_one, c.cnt]
    simp
theorem keyOk_num {k : Ky} (h : keyOk k = true) : k.text = true ∨ (-1000000000 ≤ k.num ∧ k.num ≤ 1000000000) := by
  unfold keyOk at h
  cases ht : k.text with
  | true => exact .inl rfl
  | false => rw [ht] at h; simp at h; exact .inr h.2
/-- with a greater next number -/
theorem Tb.ch.withNext {t : Tb} (c : t.ch) {n : Int} (h1 : t.next ≤ n) (h2 : n ≤ 1000000001) : (Tb.mk t.hashed t.heads t.slots n t.count).ch where
  back := c.back
  heads := c.heads
  size := c.size
  room := c.room
  packed := c.packed
  next := ⟨by have := c.next; show 0 ≤ n; omega, h2⟩
  keys i s hs := by
    have := c.keys i s hs
    refine ⟨this.1, this.2.imp id fun h => ?_⟩
    show s.key.num < n
    omega
  cnt := c.cnt
theorem Tb.bumpNext {t : Tb} (c : t.ch) {k : Ky} (hk : keyOk k = true) : t.next ≤ (t.bump k).next ∧ (t.bump k).next ≤ 1000000001 ∧ (k.text = true ∨ k.num < (t.bump k).next) := by
  have h1 := c.next
  have h2 := keyOk_num hk
  unfold Tb.bump
  show t.next ≤ (if k.text then t.next else max t.next (k.num + 1)) ∧ _
  cases ht : k.text with
  | true => simp; omega
  | false =>
    rw [ht] at h2
    simp at h2
    simp
    omega
/-- a push whose key may lie behind the next number -/
theorem Tb.ch.pushBump {t : Tb} (c : t.ch) {k : Ky} (v : V) (hf : t.fits k) (hk : keyOk k = true) : ((t.push k v).bump k).ch := by
  have h1 := Tb.bumpNext c hk
  have c1 := c.withNext (n := (t.bump k).next) h1.1 h1.2.1
  exact c1.push v hf hk h1.2.2
theorem Tb.fresh_ch {t : Tb} (c : t.ch) (hl : liveN t.slots < 1024) : t.fresh.ch := by
  have hr := roomN_spec hl
  refine ⟨fun _ i s hs => (by simp [Tb.fresh] at hs), fun _ x hx => ?_, fun _ => ?_, fun _ => Nat.zero_le _, fun h => (by cases h), c.next, fun i s hs => (by simp [Tb.fresh] at hs), rfl⟩
  · have hx : x ∈ List.replicate (roomN (liveN t.slots)) (-1) := hx
    rw [List.mem_replicate] at hx
    show -1 ≤ x ∧ x < 0
    omega
  · show 8 ≤ (List.replicate (roomN (liveN t.slots)) (-1 : Int)).length ∧ (List.replicate (roomN (liveN t.slots)) (-1 : Int)).length ≤ 1024
    rw [List.length_replicate]
    omega
/-- the table that grows: what is right of it on the way -/
structure Tb.onWay (t o : Tb) (i : Nat) : Prop where
  ch : o.ch
  hashed : o.hashed = true
  size : o.heads.length = roomN (liveN t.slots)
  next : o.next = t.next
  len : o.slots.length = liveN (t.slots.take i)
theorem Tb.onWay.start {t : Tb} (c : t.ch) (hl : liveN t.slots < 1024) : t.onWay (t.fresh.pushAll (t.slots.take 0)) 0 := by
  refine ⟨Tb.fresh_ch c hl, rfl, ?_, rfl, rfl⟩
  show (List.replicate (roomN (liveN t.slots)) (-1 : Int)).length = _
  rw [List.length_replicate]
theorem liveN_take (ss : List Sl) (i : Nat) : liveN (ss.take i) ≤ liveN ss := by
  conv => rhs; rw [← List.take_append_drop i ss, liveN_append]
  omega
theorem Tb.onWay.fits {t o : Tb} {i : Nat} {s : Sl} (w : t.onWay o i) (hl : liveN t.slots < 1024) (hs : t.slots[i]? = some s) (hv : s.live = true) (k : Ky) : o.fits k := by
  have h1 := liveN_take t.slots (i + 1)
  rw [liveN_snoc hs, if_pos hv] at h1
  have hr := roomN_spec hl
  have h2 := w.len
  have h3 := w.size
  refine ⟨fun _ => by omega, fun h => ?_⟩
  rw [w.hashed] at h
  cases h
theorem Tb.onWay.step {t o : Tb} {i : Nat} {s : Sl} (w : t.onWay o i) (c : t.ch) (hl : liveN t.slots < 1024) (hs : t.slots[i]? = some s) (hv : s.live = true) : t.onWay (o.push s.key s.val) (i + 1) := by
  have hk := c.keys i s hs
  refine ⟨w.ch.push s.val (w.fits hl hs hv _) hk.1 (by rw [w.next]; exact hk.2), w.hashed, ?_, w.next, ?_⟩
  · rw [← w.size]
    simp [Tb.push, w.hashed]
  · rw [liveN_snoc hs, if_pos hv, ← w.len]
    simp [Tb.push]
theorem Tb.onWay.skip {t o : Tb} {i : Nat} {s : Sl} (w : t.onWay o i) (hs : t.slots[i]? = some s) (hv : s.live = false) : t.onWay o (i + 1) := by
  refine ⟨w.ch, w.hashed, w.size, w.next, ?_⟩
  rw [liveN_snoc hs, w.len, hv]
  simp
theorem Tb.onWay.all {t : Tb} (c : t.ch) (hl : liveN t.slots < 1024) : ∀ i, i ≤ t.slots.length → t.onWay (t.fresh.pushAll (t.slots.take i)) i
  | 0, _ => Tb.onWay.start c hl
  | i + 1, h => by
    obtain ⟨s, hs, _⟩ := get_lt (l := t.slots) (i := i) (by omega)
    have w := Tb.onWay.all c hl i (by omega)
    rw [Tb.pushAll_snoc hs]
    cases hv : s.live with
    | true => exact w.step c hl hs hv
    | false => exact w.skip hs hv
theorem Tb.ch.build {t : Tb} (c : t.ch) (hl : liveN t.slots < 1024) : t.onWay t.build t.slots.length := by
  have := Tb.onWay.all c hl t.slots.length (Nat.le_refl _)
  rw [List.take_length] at this
  exact this
theorem liveN_set {ss : List Sl} {i : Nat} {s : Sl} (hs : ss[i]? = some s) (u : Sl) : liveN (ss.take i ++ u :: ss.drop (i + 1)) + (if s.live then 1 else 0) = liveN ss + (if u.live then 1 else 0) := by
  have h1 : liveN ss = liveN (ss.take i) + ((if s.live then 1 else 0) + liveN (ss.drop (i + 1))) := by
    conv => lhs; rw [← List.take_append_drop i ss, drop_cons hs, show s :: ss.drop (i + 1) = [s] ++ ss.drop (i + 1) from rfl, liveN_append, liveN_append, liveN_one]
  rw [show u :: ss.drop (i + 1) = [u] ++ ss.drop (i + 1) from rfl, liveN_append, liveN_append, liveN_one]
  omega
theorem set_get {α : Type} {l : List α} {i j : Nat} {s u x : α} (hs : l[i]? = some s) (h : (l.take i ++ u :: l.drop (i + 1))[j]? = some x) : (j = i ∧ x = u) ∨ (j ≠ i ∧ l[j]? = some x) := by
  have hi := (List.getElem?_eq_some_iff.1 hs).1
  have e : l.take i ++ u :: l.drop (i + 1) = l.set i u := (set_split u hi).symm
  rw [e, List.getElem?_set] at h
  by_cases hj : i = j
  · subst hj
    rw [if_pos rfl, if_pos hi] at h
    cases h
    exact .inl ⟨rfl, rfl⟩
  · rw [if_neg hj] at h
    exact .inr ⟨fun k => hj k.symm, h⟩
theorem set_len {α : Type} {l : List α} {i : Nat} {s u : α} (hs : l[i]? = some s) : (l.take i ++ u :: l.drop (i + 1)).length = l.length := by
  have hi := (List.getElem?_eq_some_iff.1 hs).1
  rw [← set_split u hi, List.length_set]
/-- a slot whose key and link stay -/
theorem Tb.ch.setSlot {t : Tb} (c : t.ch) {i : Nat} {s u : Sl} (hs : t.slots[i]? = some s) (hk : u.key = s.key) (hl : u.link = s.link) {n : Int} (hn : n + (if s.live then 1 else 0) = t.count + (if u.live then 1 else 0)) :
    (Tb.mk t.hashed t.heads (t.slots.take i ++ u :: t.slots.drop (i + 1)) t.next n).ch := by
  have len := set_len (u := u) hs
  refine ⟨fun h j x hx => ?_, fun h x hx => ?_, c.size, fun h => ?_, fun h => ⟨?_, fun j x hx => ?_⟩, c.next, fun j x hx => ?_, ?_⟩
  · rcases set_get hs hx with ⟨rfl, rfl⟩ | ⟨_, hx⟩
    · rw [hl]; exact c.back h _ _ hs
    · exact c.back h _ _ hx
  · have := c.heads h x hx
    show -1 ≤ x ∧ x < ((t.slots.take i ++ u :: t.slots.drop (i + 1)).length : Nat)
    rw [len]; exact this
  · show (t.slots.take i ++ u :: t.slots.drop (i + 1)).length ≤ _
    rw [len]; exact c.room h
  · show (t.slots.take i ++ u :: t.slots.drop (i + 1)).length ≤ _
    rw [len]; exact (c.packed h).1
  · rcases set_get hs hx with ⟨rfl, rfl⟩ | ⟨_, hx⟩
    · rw [hk]; exact (c.packed h).2 _ _ hs
    · exact (c.packed h).2 _ _ hx
  · rcases set_get hs hx with ⟨rfl, rfl⟩ | ⟨_, hx⟩
    · rw [hk]; exact c.keys _ _ hs
    · exact c.keys _ _ hx
  · have h1 := liveN_set hs u
    have h2 := c.cnt
    show n = ((liveN (t.slots.take i ++ u :: t.slots.drop (i + 1)) : Nat) : Int)
    cases h3 : s.live <;> cases h4 : u.live <;> rw [h3, h4] at h1 hn <;> simp at h1 hn <;> omega
theorem Tb.ch.setVal {t : Tb} (c : t.ch) (i : Nat) (v : V) : (t.setVal i v).ch := by
  unfold Tb.setVal
  split
  · rename_i s hs
    exact c.setSlot (u := ⟨s.key, v, s.live, s.link⟩) hs rfl rfl rfl
  · exact c
theorem Tb.ch.kill {t : Tb} (c : t.ch) {i : Nat} {s : Sl} (hs : t.slots[i]? = some s) (hv : s.live = true) : (t.kill i).ch := by
  unfold Tb.kill
  rw [hs]
  refine c.setSlot (u := ⟨s.key, V.zero, false, s.link⟩) hs rfl rfl ?_
  simp [hv]
theorem Tb.ch.hashIf {t : Tb} (c : t.ch) (hl : liveN t.slots < 1024) (k : Ky) : (t.hashIf k).ch ∧ liveN (t.hashIf k).slots < 1024 ∧ ((t.hashIf k).hashed = false → t.slots.length < 1024 ∧ k = ⟨false, ((t.hashIf k).slots.length : Nat), ⟨#[]⟩⟩ ∧ t.hashIf k = t) := by
  unfold Tb.hashIf
  split
  · have w := c.build hl
    refine ⟨w.ch, ?_, fun h => ?_⟩
    · have h1 := liveN_le t.build.slots
      have h2 := w.len
      rw [List.take_length] at h2
      omega
    · rw [w.hashed] at h; cases h
  · rename_i hc
    refine ⟨c, hl, fun h => ?_⟩
    have h1 := (c.packed h).1
    simp only [h, true_and, not_or, Classical.not_not] at hc
    exact ⟨by omega, hc.1, rfl⟩
theorem Tb.ch.growIf {t : Tb} (c : t.ch) (hl : liveN t.slots < 1024) : t.growIf.ch ∧ (t.growIf.hashed = true → t.growIf.slots.length < t.growIf.heads.length) ∧ (t.growIf.hashed = false → t.growIf = t) := by
  unfold Tb.growIf
  split
  · have w := c.build hl
    have hr := roomN_spec hl
    have h2 := w.len
    rw [List.take_length] at h2
    have h3 := w.size
    refine ⟨w.ch, fun _ => by omega, fun h => ?_⟩
    rw [w.hashed] at h; cases h
  · rename_i hc
    refine ⟨c, fun h => ?_, fun _ => rfl⟩
    have := c.room h
    simp only [h, true_and] at hc
    omega
theorem Tb.put_fits {t : Tb} (c : t.ch) (hl : liveN t.slots < 1024) (k : Ky) : ((t.hashIf k).growIf).ch ∧ ((t.hashIf k).growIf).fits k := by
  obtain ⟨c1, l1, p1⟩ := c.hashIf hl k
  obtain ⟨c2, g1, g2⟩ := c1.growIf l1
  refine ⟨c2, g1, fun h => ?_⟩
  have e := g2 h
  rw [e] at h ⊢
  obtain ⟨q1, q2, q3⟩ := p1 h
  rw [q3] at q2 ⊢
  exact ⟨q1, q2⟩
theorem Tb.ch.put {t : Tb} (c : t.ch) {k : Ky} (v : V) (hk : keyOk k = true) (hl : t.find k = none → liveN t.slots < 1024) : (t.put k v).ch := by
  unfold Tb.put
  split
  · exact c.setVal _ v
  · rename_i hf
    obtain ⟨c1, f1⟩ := Tb.put_fits c (hl hf) k
    exact c1.pushBump v f1 hk
end Go.Sx
namespace Go.Sx
open Go
/-! how much a table holds -/
theorem szG_append {α : Type} {w : α → Nat} (p q : List α) : szG w (p ++ q) = szG w p + szG w q := by
  unfold szG gsum
  rw [List.length_append, List.map_append, List.sum_append]
  omega
theorem szG_one {α : Type} {w : α → Nat} (a : α) : szG w [a] = 1 + w a := by simp [szG, gsum]
theorem szG_cons {α : Type} {w : α → Nat} (a : α) (r : List α) : szG w (a :: r) = 1 + w a + szG w r := by
  rw [show a :: r = [a] ++ r from rfl, szG_append, szG_one]
theorem szG_split {α : Type} {w : α → Nat} {l : List α} {i : Nat} {a : α} (h : l[i]? = some a) (u : α) : szG w (l.take i ++ u :: l.drop (i + 1)) + w a = szG w l + w u := by
  conv => rhs; rw [← List.take_append_drop i l, drop_cons h, szG_append, szG_cons]
  rw [szG_append, szG_cons]
  omega
theorem szG_take {α : Type} {w : α → Nat} (l : List α) (i : Nat) : szG w (l.take i) ≤ szG w l := by
  conv => rhs; rw [← List.take_append_drop i l, szG_append]
  omega
theorem szG_len {α : Type} {w : α → Nat} (l : List α) : l.length ≤ szG w l := by unfold szG; omega
theorem szG_mem {α : Type} {w : α → Nat} {l : List α} {a : α} (h : a ∈ l) : w a + 1 ≤ szG w l := by
  have h1 := gsum_mem (w := w) h
  have h2 := List.length_pos_of_mem h
  unfold szG
  omega
theorem Tb.kill_bulk (t : Tb) (i : Nat) : (t.kill i).bulk ≤ t.bulk := by
  unfold Tb.kill
  split
  · rename_i s hs
    have := szG_split (w := Sl.bulk) hs ⟨s.key, V.zero, false, s.link⟩
    have e : Sl.bulk ⟨s.key, V.zero, false, s.link⟩ = s.key.str.size := rfl
    have e2 : Sl.bulk s = s.key.str.size + s.val.bulk := rfl
    unfold Tb.bulk
    show t.heads.length + szG Sl.bulk (t.slots.take i ++ _ :: t.slots.drop (i + 1)) ≤ _
    omega
  · omega
theorem Tb.drop_bulk (t : Tb) (k : Ky) : (t.drop k).bulk ≤ t.bulk := by
  unfold Tb.drop
  split
  · exact t.kill_bulk _
  · omega
theorem Tb.setVal_bulk (t : Tb) (i : Nat) (v : V) : (t.setVal i v).bulk ≤ t.bulk + v.bulk := by
  unfold Tb.setVal
  split
  · rename_i s hs
    have := szG_split (w := Sl.bulk) hs ⟨s.key, v, s.live, s.link⟩
    have e : Sl.bulk ⟨s.key, v, s.live, s.link⟩ = s.key.str.size + v.bulk := rfl
    have e2 : Sl.bulk s = s.key.str.size + s.val.bulk := rfl
    unfold Tb.bulk
    show t.heads.length + szG Sl.bulk (t.slots.take i ++ _ :: t.slots.drop (i + 1)) ≤ _
    omega
  · omega
theorem Tb.push_slots (t : Tb) (k : Ky) (v : V) : szG Sl.bulk (t.push k v).slots = szG Sl.bulk t.slots + (1 + (k.str.size + v.bulk)) ∧ (t.push k v).heads.length = t.heads.length := by
  refine ⟨?_, ?_⟩
  · show szG Sl.bulk (t.slots ++ [_]) = _
    rw [szG_append, szG_one]
    rfl
  · unfold Tb.push
    show (if t.hashed then _ else _ : List Int).length = _
    split
    · rw [List.length_set]
    · rfl
theorem Tb.pushAll_slots : ∀ (l : List Sl) (o : Tb), szG Sl.bulk (o.pushAll l).slots ≤ szG Sl.bulk o.slots + szG Sl.bulk l ∧ (o.pushAll l).heads.length = o.heads.length
  | [], o => by simp [Tb.pushAll]
  | s :: r, o => by
    rw [Tb.pushAll, szG_cons]
    have h := Tb.pushAll_slots r (if s.live then o.push s.key s.val else o)
    have h2 := o.push_slots s.key s.val
    have e2 : Sl.bulk s = s.key.str.size + s.val.bulk := rfl
    split at h
    · rename_i hl
      rw [if_pos hl]
      omega
    · rename_i hl
      rw [if_neg hl]
      omega
theorem dbl_le (c : Nat) : ∀ f s, dbl c f s ≤ s * 2 ^ f
  | 0, s => by simp [dbl]
  | f + 1, s => by
    rw [dbl]
    have := dbl_le c f (s * 2)
    have e : s * 2 * 2 ^ f = s * 2 ^ (f + 1) := by rw [Nat.pow_succ, Nat.mul_assoc, Nat.mul_comm 2]
    have h1 : s * 1 ≤ s * 2 ^ (f + 1) := Nat.mul_le_mul_left s (Nat.one_le_two_pow)
    split <;> omega
theorem roomN_le (c : Nat) : roomN c ≤ 32768 := by
  have := dbl_le c 12 8
  unfold roomN
  omega
theorem Tb.build_slots (t : Tb) : szG Sl.bulk t.build.slots ≤ szG Sl.bulk t.slots ∧ t.build.heads.length ≤ 32768 := by
  have h := Tb.pushAll_slots t.slots t.fresh
  have e : szG Sl.bulk t.fresh.slots = 0 := rfl
  have e2 : t.fresh.heads.length = roomN (liveN t.slots) := by
    show (List.replicate (roomN (liveN t.slots)) (-1 : Int)).length = _
    rw [List.length_replicate]
  have := roomN_le (liveN t.slots)
  unfold Tb.build
  omega
theorem Tb.build_bulk (t : Tb) : t.build.bulk ≤ t.bulk + 32768 := by
  have := t.build_slots
  unfold Tb.bulk
  omega
theorem Tb.bump_bulk (t : Tb) (k : Ky) : (t.bump k).bulk = t.bulk := rfl
theorem Tb.hashIf_bulk (t : Tb) (k : Ky) : (t.hashIf k).bulk ≤ t.bulk + 32768 := by
  unfold Tb.hashIf
  split
  · exact t.build_bulk
  · omega
theorem Tb.growIf_bulk (t : Tb) : t.growIf.bulk ≤ t.bulk + 32768 := by
  unfold Tb.growIf
  split
  · exact t.build_bulk
  · omega
theorem Tb.put_bulk (t : Tb) (k : Ky) (v : V) : (t.put k v).bulk ≤ t.bulk + k.str.size + v.bulk + 65537 := by
  unfold Tb.put
  split
  · have := t.setVal_bulk (i := ‹Nat›) v
    omega
  · rw [Tb.bump_bulk]
    have h1 := t.hashIf_bulk k
    have h2 := (t.hashIf k).growIf_bulk
    have h3 := (t.hashIf k).growIf.push_slots k v
    generalize (t.hashIf k).growIf = g at *
    unfold Tb.bulk at *
    omega
theorem cntS_bulk : ∀ l : List Sl, cntG cS l ≤ 9 * szG Sl.bulk l
  | [] => by simp [cntG]
  | s :: r => by
    have h1 := cntS_bulk r
    have h2 := cntEs_bulk s.val.items
    have h3 := V.bulk_eq s.val
    have e2 : Sl.bulk s = s.key.str.size + s.val.bulk := rfl
    have e : cS s = (7 + cntEs s.val.items) + 2 := rfl
    rw [szG_cons, cntG]
    omega
theorem cntI_len : ∀ l : List Int, cntG cI l = l.length
  | [] => rfl
  | a :: r => by
    rw [cntG, cntI_len r, List.length_cons]
    unfold cI
    omega
theorem cntT_bulk (t : Tb) : cntG cI t.heads + cntG cS t.slots ≤ 9 * t.bulk := by
  have h1 := cntS_bulk t.slots
  have h2 := cntI_len t.heads
  unfold Tb.bulk
  omega
theorem cntB_bulk : ∀ l : List Bk, cntG cB l ≤ 9 * szG Bk.bulk l
  | [] => by simp [cntG]
  | s :: r => by
    have h1 := cntB_bulk r
    have h2 := cntT_bulk s.tab
    have e2 : Bk.bulk s = s.tab.bulk := rfl
    have e : cB s = 2 + cntG cI s.tab.heads + cntG cS s.tab.slots + 2 := rfl
    rw [szG_cons, cntG]
    omega
/-! whether a table is right, as a Bool -/
def allIx (n : Nat) (p : Nat → Bool) : Bool := (List.range n).all p
theorem allIx_iff {n : Nat} {p : Nat → Bool} : allIx n p = true ↔ ∀ i, i < n → p i = true := by
  unfold allIx
  rw [List.all_eq_true]
  exact ⟨fun h i hi => h i (List.mem_range.2 hi), fun h i hi => h i (List.mem_range.1 hi)⟩
def at_ {α : Type} (l : List α) (i : Nat) (p : α → Bool) : Bool := match l[i]? with
  | some a => p a
  | none => true
theorem at_iff {α : Type} {l : List α} {i : Nat} {p : α → Bool} : at_ l i p = true ↔ ∀ a, l[i]? = some a → p a = true := by
  unfold at_
  cases l[i]? with
  | none => simp
  | some a => simp
theorem allAt_iff {α : Type} {l : List α} {p : Nat → α → Bool} : allIx l.length (fun i => at_ l i (p i)) = true ↔ ∀ i a, l[i]? = some a → p i a = true := by
  rw [allIx_iff]
  constructor
  · intro h i a ha
    exact at_iff.1 (h i (List.getElem?_eq_some_iff.1 ha).1) a ha
  · intro h i _
    exact at_iff.2 fun a ha => h i a ha
def Tb.isTab (t : Tb) : Bool :=
  decide (0 ≤ t.next ∧ t.next ≤ 1000000001) &&
  (allIx t.slots.length (fun i => at_ t.slots i fun (s : Sl) => keyOk s.key && ((s.key.text || decide (s.key.num < t.next)) && (s.live || s.val.isZero))) &&
  (allIx t.slots.length (fun i => at_ t.slots i fun (s : Sl) => allIx t.slots.length fun j => at_ t.slots j fun (u : Sl) => !(decide (j < i) && (s.live && (u.live && decide (u.key = s.key))))) &&
  (decide (t.count = liveN t.slots) &&
  (if t.hashed then decide (8 ≤ t.heads.length ∧ t.heads.length ≤ 1024) && (p2 t.heads.length && (decide (t.slots.length ≤ t.heads.length) &&
      (allIx t.slots.length (fun i => at_ t.slots i fun (s : Sl) => decide ((hdsN t.heads.length t.slots i)[s.key.hash % t.heads.length]? = some s.link)) && decide (t.heads = hdsN t.heads.length t.slots t.slots.length))))
   else decide (t.heads.length = 0) && (decide ((t.slots.length : Int) ≤ t.next) && (decide (t.slots.length ≤ 1024) && allIx t.slots.length fun i => at_ t.slots i fun (s : Sl) => decide (s.key = ⟨false, (i : Nat), ⟨#[]⟩⟩) && decide (s.link = -1)))))))
theorem Tb.isTab_iff (t : Tb) : t.isTab = true ↔ t.wf := by
  unfold Tb.isTab
  constructor
  · intro h
    cases hh : t.hashed with
    | true =>
      simp only [hh, if_true, Bool.and_eq_true, decide_eq_true_eq, allAt_iff] at h
      obtain ⟨h1, h2, h3, h4, h5, h6, h7, h8, h9⟩ := h
      refine ⟨h1, fun i s hs => ?_, fun i j s u hj hs hu ls lu => ?_, h4, fun k => (by rw [hh] at k; cases k), fun _ => ⟨h5, h6, h7, h8, h9⟩⟩
      · have := h2 i s hs
        simpa using this
      · have := h3 i s hs j u hu
        simpa [hj, ls, lu] using this
    | false =>
      simp only [hh, Bool.false_eq_true, if_false, Bool.and_eq_true, decide_eq_true_eq, allAt_iff] at h
      obtain ⟨h1, h2, h3, h4, h5, h6, h7, h8⟩ := h
      refine ⟨h1, fun i s hs => ?_, fun i j s u hj hs hu ls lu => ?_, h4, fun _ => ⟨h5, h6, h7, h8⟩, fun k => by rw [hh] at k; cases k⟩
      · have := h2 i s hs
        simpa using this
      · have := h3 i s hs j u hu
        simpa [hj, ls, lu] using this
  · intro w
    have k2 : ∀ (i : Nat) (s : Sl), t.slots[i]? = some s → (keyOk s.key && ((s.key.text || decide (s.key.num < t.next)) && (s.live || s.val.isZero))) = true := fun i s hs => by simpa using w.keys i s hs
    have k3 : ∀ (i : Nat) (s : Sl), t.slots[i]? = some s → ∀ (j : Nat) (u : Sl), t.slots[j]? = some u → (!(decide (j < i) && (s.live && (u.live && decide (u.key = s.key))))) = true := fun i s hs j u hu => by
      by_cases hj : j < i
      · cases ls : s.live with
        | false => simp
        | true =>
          cases lu : u.live with
          | false => simp
          | true =>
            have := w.dist i j s u hj hs hu ls lu
            simp [this]
      · simp [hj]
    cases hh : t.hashed with
    | true =>
      simp only [if_true, Bool.and_eq_true, decide_eq_true_eq, allAt_iff]
      obtain ⟨q1, q2, q3, q4, q5⟩ := w.hash hh
      exact ⟨w.next, fun i s hs => by simpa using k2 i s hs, k3, w.cnt, q1, q2, q3, q4, q5⟩
    | false =>
      simp only [Bool.false_eq_true, if_false, Bool.and_eq_true, decide_eq_true_eq, allAt_iff]
      obtain ⟨q1, q2, q3, q4⟩ := w.packed hh
      exact ⟨w.next, fun i s hs => by simpa using k2 i s hs, k3, w.cnt, q1, q2, q3, q4⟩
end Go.Sx
