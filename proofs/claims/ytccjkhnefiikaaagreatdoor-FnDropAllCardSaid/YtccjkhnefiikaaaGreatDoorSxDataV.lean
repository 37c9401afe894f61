/-
  A part of the abstract machine over the model's Code, or of the proof that what it shows holds of the model; no program is in sight, and nothing is assumed.
-/
import Derived.Test.YtccjkhnefiikaaaGreatDoorSxLists
/-! Keys, values, entries: their data and how they lie in memory. -/
namespace Go.Sx
open Go
structure Ky where
  text : Bool
  num : Int
  str : ByteArray
deriving DecidableEq
inductive V where
  | mk (kind num : Int) (str : ByteArray) (next : Int) (items : List (Ky × V))
namespace V
def kind : V → Int | ⟨k, _, _, _, _⟩ => k
def num : V → Int | ⟨_, n, _, _, _⟩ => n
def str : V → ByteArray | ⟨_, _, s, _, _⟩ => s
def next : V → Int | ⟨_, _, _, x, _⟩ => x
def items : V → List (Ky × V) | ⟨_, _, _, _, es⟩ => es
theorem kind_mk {k n : Int} {s : ByteArray} {x : Int} {es : List (Ky × V)} : (V.mk k n s x es).kind = k := (rfl)
theorem num_mk {k n : Int} {s : ByteArray} {x : Int} {es : List (Ky × V)} : (V.mk k n s x es).num = n := (rfl)
theorem str_mk {k n : Int} {s : ByteArray} {x : Int} {es : List (Ky × V)} : (V.mk k n s x es).str = s := (rfl)
theorem next_mk {k n : Int} {s : ByteArray} {x : Int} {es : List (Ky × V)} : (V.mk k n s x es).next = x := (rfl)
theorem items_mk {k n : Int} {s : ByteArray} {x : Int} {es : List (Ky × V)} : (V.mk k n s x es).items = es := (rfl)
attribute [go_sem] kind_mk num_mk str_mk next_mk items_mk
theorem eta (v : V) : V.mk v.kind v.num v.str v.next v.items = v := by cases v; rfl
theorem ind {M : V → Prop} (h : ∀ v : V, (∀ e ∈ v.items, M e.2) → M v) : ∀ v, M v
  | ⟨k, n, s, x, es⟩ => h _ (go es)
where go : ∀ es : List (Ky × V), ∀ e ∈ es, M e.2
  | [], _, he => by cases he
  | (k, v) :: r, e, he => by
    cases he with
    | head => exact V.ind h v
    | tail _ he => exact go r e he
end V
def Ky.dt (k : Ky) : List Dt := [.raw (.bool k.text), .raw (.int .i64 k.num), .raw (.string k.str)]
mutual
def V.dt : V → List Dt
  | ⟨k, n, s, x, es⟩ => [.raw (.int .i64 k), .raw (.int .i64 n), .raw (.string s), .raw (.int .i64 x), .row 8 (V.dts es)]
def V.dts : List (Ky × V) → List Dt
  | [] => []
  | (k, v) :: r => (k.dt ++ V.dt v) ++ V.dts r
end
def edt (e : Ky × V) : List Dt := e.1.dt ++ e.2.dt
theorem V.dts_eq : ∀ es : List (Ky × V), V.dts es = es.flatMap edt
  | [] => by simp only [V.dts, List.flatMap_nil]
  | (k, v) :: r => by simp only [V.dts, List.flatMap_cons, V.dts_eq r, edt]
theorem V.dt_eq (v : V) : v.dt = [.raw (.int .i64 v.kind), .raw (.int .i64 v.num), .raw (.string v.str), .raw (.int .i64 v.next), .row 8 (v.items.flatMap edt)] := by
  cases v; simp only [V.dt, V.dts_eq]; rfl
theorem Ky.dt_len (k : Ky) : k.dt.length = 3 := rfl
theorem V.dt_len (v : V) : v.dt.length = 5 := by rw [V.dt_eq]; rfl
theorem edt_len (e : Ky × V) : (edt e).length = 8 := by simp only [edt, List.length_append, Ky.dt_len, V.dt_len]
theorem edt_eq (e : Ky × V) : edt e = [.raw (.bool e.1.text), .raw (.int .i64 e.1.num), .raw (.string e.1.str), .raw (.int .i64 e.2.kind), .raw (.int .i64 e.2.num), .raw (.string e.2.str), .raw (.int .i64 e.2.next), .row 8 (e.2.items.flatMap edt)] := by
  simp only [edt, Ky.dt, V.dt_eq]; rfl

/-- Entries in memory. -/
abbrev RdE (h : Hp) (es : List (Ky × V)) (sl : Value) : Prop := Rd h (.row 8 (es.flatMap edt)) sl
theorem RdL_key {h : Hp} {k : Ky} {ys : List Value} (r : RdL h k.dt ys) : ys = [.bool k.text, .int .i64 k.num, .string k.str] := by
  simp only [Ky.dt, RdL_cons, RdL_nil, Rd_raw] at r
  obtain ⟨_, _, rfl, ⟨rfl, _⟩, _, _, rfl, ⟨rfl, _⟩, _, _, rfl, ⟨rfl, _⟩, rfl⟩ := r
  rfl
theorem RdL_val {h : Hp} {v : V} {ys : List Value} (r : RdL h v.dt ys) : ∃ sl, ys = [.int .i64 v.kind, .int .i64 v.num, .string v.str, .int .i64 v.next, sl] ∧ RdE h v.items sl := by
  simp only [V.dt_eq, RdL_cons, RdL_nil, Rd_raw] at r
  obtain ⟨_, _, rfl, ⟨rfl, _⟩, _, _, rfl, ⟨rfl, _⟩, _, _, rfl, ⟨rfl, _⟩, _, _, rfl, ⟨rfl, _⟩, sl, _, rfl, hs, rfl⟩ := r
  exact ⟨sl, rfl, hs⟩
theorem RdL_entry {h : Hp} {e : Ky × V} {ys : List Value} (r : RdL h (edt e) ys) :
    ∃ sl, ys = [.bool e.1.text, .int .i64 e.1.num, .string e.1.str, .int .i64 e.2.kind, .int .i64 e.2.num, .string e.2.str, .int .i64 e.2.next, sl] ∧ RdE h e.2.items sl := by
  obtain ⟨ys, zs, rfl, r1, r2⟩ := r.split
  obtain ⟨sl, rfl, hs⟩ := RdL_val r2
  rw [RdL_key r1]
  exact ⟨sl, rfl, hs⟩
theorem RdL_val_mk {h : Hp} {v : V} {sl : Value} (hs : RdE h v.items sl) : RdL h v.dt [.int .i64 v.kind, .int .i64 v.num, .string v.str, .int .i64 v.next, sl] := by
  simp only [V.dt_eq, RdL_cc, Rd_raw, RdL_nil, true_and, and_true]
  exact ⟨rfl, rfl, rfl, rfl, hs⟩
section
variable {P : Program} {h : Hp} {K : Value → Hp → Prop}
/-- The load of an entry. -/
theorem hsem_entry {t b off i j : Nat} {es : List (Ky × V)} {e : Ky × V} {xs : List Value} (ht : tyS P t = some (true, 8)) (hat : At h ⟨b, off, none⟩ xs) (hr : RdL h (es.flatMap edt) xs) (hi : es[i]? = some e) (hj : j = off + i * 8)
    (k : ∀ sl, RdE h e.2.items sl → K (.agg #[.bool e.1.text, .int .i64 e.1.num, .string e.1.str, .int .i64 e.2.kind, .int .i64 e.2.num, .string e.2.str, .int .i64 e.2.next, sl]) h) : HPure P (ldI t (.pointer (some ⟨b, j, none⟩))) h K :=
  hsem_row (f := edt) (o := 0) edt_len ht hat hr hi (Nat.le_refl _) (by rw [List.drop_zero, List.take_of_length_le (by rw [edt_len]; exact Nat.le_refl _)]) (by simpa using hj) fun ys r => by
    obtain ⟨sl, rfl, hs⟩ := RdL_entry r
    exact k sl hs
/-- The load of an entry's key. -/
theorem hsem_ekey {t b off i j : Nat} {es : List (Ky × V)} {e : Ky × V} {xs : List Value} (ht : tyS P t = some (true, 3)) (hat : At h ⟨b, off, none⟩ xs) (hr : RdL h (es.flatMap edt) xs) (hi : es[i]? = some e) (hj : j = off + i * 8)
    (k : K (.agg #[.bool e.1.text, .int .i64 e.1.num, .string e.1.str]) h) : HPure P (ldI t (.pointer (some ⟨b, j, none⟩))) h K :=
  hsem_row (f := edt) (o := 0) (ds := e.1.dt) edt_len ht hat hr hi (by omega) (by simp [edt, Ky.dt]) (by simpa using hj) fun ys r => by
    rw [RdL_key r]
    exact k
/-- The load of an entry's value. -/
theorem hsem_eval {t b off i j : Nat} {es : List (Ky × V)} {e : Ky × V} {xs : List Value} (ht : tyS P t = some (true, 5)) (hat : At h ⟨b, off, none⟩ xs) (hr : RdL h (es.flatMap edt) xs) (hi : es[i]? = some e) (hj : j = off + i * 8 + 3)
    (k : ∀ sl, RdE h e.2.items sl → K (.agg #[.int .i64 e.2.kind, .int .i64 e.2.num, .string e.2.str, .int .i64 e.2.next, sl]) h) : HPure P (ldI t (.pointer (some ⟨b, j, none⟩))) h K :=
  hsem_row (f := edt) (o := 3) (ds := e.2.dt) edt_len ht hat hr hi (by omega) (by simp [edt, Ky.dt, V.dt_eq]) (by omega) fun ys r => by
    obtain ⟨sl, rfl, hs⟩ := RdL_val r
    exact k sl hs
end
mutual
/-- How much a value holds. -/
def V.bulk : V → Nat
  | ⟨_, _, s, _, es⟩ => s.size + V.bulks es
def V.bulks : List (Ky × V) → Nat
  | [] => 0
  | (k, v) :: r => 1 + (k.str.size + V.bulk v) + V.bulks r
end
theorem V.bulk_eq (v : V) : v.bulk = v.str.size + V.bulks v.items := by cases v; simp only [V.bulk]; rfl
mutual
/-- The numbers fit; no text and no slice is longer than Go allows. -/
def V.ok : V → Prop
  | ⟨k, n, s, x, es⟩ => (IntKind.i64.min ≤ k ∧ k ≤ IntKind.i64.max) ∧ (IntKind.i64.min ≤ n ∧ n ≤ IntKind.i64.max) ∧ s.size ≤ maxLen ∧ (IntKind.i64.min ≤ x ∧ x ≤ IntKind.i64.max) ∧ es.length ≤ maxLen ∧ V.oks es
def V.oks : List (Ky × V) → Prop
  | [] => True
  | (k, v) :: r => (IntKind.i64.min ≤ k.num ∧ k.num ≤ IntKind.i64.max) ∧ k.str.size ≤ maxLen ∧ V.ok v ∧ V.oks r
end
def Ky.ok (k : Ky) : Prop := (IntKind.i64.min ≤ k.num ∧ k.num ≤ IntKind.i64.max) ∧ k.str.size ≤ maxLen
theorem V.ok_str {v : V} (h : v.ok) : v.str.size ≤ maxLen := by cases v; simp only [V.ok] at h; exact h.2.2.1
theorem V.ok_num {v : V} (h : v.ok) : IntKind.i64.min ≤ v.num ∧ v.num ≤ IntKind.i64.max := by cases v; simp only [V.ok] at h; exact h.2.1
theorem V.ok_kind {v : V} (h : v.ok) : IntKind.i64.min ≤ v.kind ∧ v.kind ≤ IntKind.i64.max := by cases v; simp only [V.ok] at h; exact h.1
theorem V.ok_next {v : V} (h : v.ok) : IntKind.i64.min ≤ v.next ∧ v.next ≤ IntKind.i64.max := by cases v; simp only [V.ok] at h; exact h.2.2.2.1
theorem V.ok_len {v : V} (h : v.ok) : v.items.length ≤ maxLen := by cases v; simp only [V.ok] at h; exact h.2.2.2.2.1
theorem V.ok_items {v : V} (h : v.ok) : V.oks v.items := by cases v; simp only [V.ok] at h; exact h.2.2.2.2.2
theorem V.oks_mem : ∀ {es : List (Ky × V)} {e : Ky × V}, V.oks es → e ∈ es → e.1.ok ∧ e.2.ok
  | (k, v) :: r, e, h, he => by
    simp only [V.oks] at h
    cases he with
    | head => exact ⟨⟨h.1, h.2.1⟩, h.2.2.1⟩
    | tail _ he => exact V.oks_mem h.2.2.2 he
end Go.Sx
namespace Go.Sx
open Go
/-! ### The marks of the laws -/
def mdig (k : Nat) (acc : List UInt8) : List UInt8 := if k = 0 then acc else mdig (k / 10) (UInt8.ofNat (48 + k % 10) :: acc)
termination_by k
decreasing_by omega
def mtext (k : Nat) : ByteArray := if k = 0 then ⟨#[109, 48]⟩ else ⟨(109 :: mdig k []).toArray⟩
theorem mdig_step {k : Nat} (hk : 0 < k) (acc : List UInt8) : mdig k acc = mdig (k / 10) (UInt8.ofNat (48 + k % 10) :: acc) := by
  rw [mdig, if_neg (by omega)]
theorem mdig_zero (acc : List UInt8) : mdig 0 acc = acc := by rw [mdig, if_pos rfl]
def mbit (k : Nat) : Bool := decide (((k : Nat) : Int).tmod 3 = 0)
mutual
def V.cnt : V → Nat
  | ⟨_, _, _, _, es⟩ => cntEs es
/-- how many cells the marks of entries count -/
def cntEs : List (Ky × V) → Nat
  | [] => 0
  | (_, v) :: r => (7 + V.cnt v) + cntEs r
end
mutual
def V.mk_ : V → Nat → V
  | ⟨_, _, _, _, es⟩, k => ⟨(k : Nat), (k + 1 : Nat), mtext (k + 2), (k + 3 : Nat), mkEs es (k + 4)⟩
/-- the marked entries -/
def mkEs : List (Ky × V) → Nat → List (Ky × V)
  | [], _ => []
  | (_, v) :: r, k => (⟨mbit k, (k + 1 : Nat), mtext (k + 2)⟩, V.mk_ v (k + 3)) :: mkEs r (k + (7 + V.cnt v))
end
theorem V.cnt_eq (v : V) : v.cnt = cntEs v.items := by cases v; simp only [V.cnt]; rfl
theorem V.mk_eq (v : V) (k : Nat) : v.mk_ k = ⟨(k : Nat), (k + 1 : Nat), mtext (k + 2), (k + 3 : Nat), mkEs v.items (k + 4)⟩ := by cases v; simp only [V.mk_]; rfl
def mkE (k : Nat) (e : Ky × V) : Ky × V := (⟨mbit k, (k + 1 : Nat), mtext (k + 2)⟩, ⟨(k + 3 : Nat), (k + 4 : Nat), mtext (k + 5), (k + 6 : Nat), mkEs e.2.items (k + 7)⟩)
theorem mkEs_cons (e : Ky × V) (r : List (Ky × V)) (k : Nat) : mkEs (e :: r) k = mkE k e :: mkEs r (k + (7 + cntEs e.2.items)) := by
  obtain ⟨q, v⟩ := e
  simp only [mkEs, V.mk_eq, V.cnt_eq, mkE]
theorem cntEs_cons (e : Ky × V) (r : List (Ky × V)) : cntEs (e :: r) = (7 + cntEs e.2.items) + cntEs r := by
  obtain ⟨q, v⟩ := e
  simp only [cntEs, V.cnt_eq]
theorem cntEs_append : ∀ p q : List (Ky × V), cntEs (p ++ q) = cntEs p + cntEs q
  | [], q => by simp [cntEs]
  | e :: p, q => by rw [List.cons_append, cntEs_cons, cntEs_cons, cntEs_append p q]; omega
theorem mkEs_append : ∀ (p q : List (Ky × V)) (k : Nat), mkEs (p ++ q) k = mkEs p k ++ mkEs q (k + cntEs p)
  | [], q, k => by simp [mkEs, cntEs]
  | e :: p, q, k => by rw [List.cons_append, mkEs_cons, mkEs_cons, mkEs_append p q, cntEs_cons, List.cons_append, Nat.add_assoc]
theorem take_snoc {α : Type} {l : List α} {i : Nat} {a : α} (hi : l[i]? = some a) : l.take (i + 1) = l.take i ++ [a] := by rw [List.take_add_one, hi]; rfl
theorem cntEs_snoc {es : List (Ky × V)} {i : Nat} {e : Ky × V} (hi : es[i]? = some e) : cntEs (es.take (i + 1)) = cntEs (es.take i) + (7 + cntEs e.2.items) := by
  rw [take_snoc hi, cntEs_append, cntEs_cons]; simp [cntEs]
theorem mkEs_snoc {es : List (Ky × V)} {i : Nat} {e : Ky × V} (hi : es[i]? = some e) (k : Nat) : mkEs (es.take (i + 1)) k = mkEs (es.take i) k ++ [mkE (k + cntEs (es.take i)) e] := by
  rw [take_snoc hi, mkEs_append, mkEs_cons]; simp [mkEs]
theorem mkEs_len : ∀ (es : List (Ky × V)) (k : Nat), (mkEs es k).length = es.length
  | [], _ => rfl
  | e :: r, k => by rw [mkEs_cons, List.length_cons, List.length_cons, mkEs_len r]
theorem cntEs_le {es : List (Ky × V)} {i : Nat} {e : Ky × V} (hi : es[i]? = some e) : cntEs (es.take i) + (7 + cntEs e.2.items) ≤ cntEs es := by
  rw [← cntEs_snoc hi]
  conv => rhs; rw [← List.take_append_drop (i + 1) es, cntEs_append]
  omega
theorem mkEs_get {es : List (Ky × V)} {i : Nat} {e : Ky × V} (hi : es[i]? = some e) (k : Nat) : (mkEs es k)[i]? = some (mkE (k + cntEs (es.take i)) e) := by
  have hlt := (List.getElem?_eq_some_iff.1 hi).1
  conv => lhs; rw [← List.take_append_drop (i + 1) es, mkEs_append, mkEs_snoc hi]
  have : (mkEs (es.take i) k).length = i := by rw [mkEs_len, List.length_take]; omega
  rw [List.getElem?_append_left (by simp [this]), List.getElem?_append_right (by omega), this]
  simp
mutual
theorem V.cnt_bulk : ∀ v : V, v.cnt ≤ 7 * v.bulk
  | ⟨_, _, s, _, es⟩ => by
    have := cntEs_bulk es
    simp only [V.cnt, V.bulk]
    omega
theorem cntEs_bulk : ∀ es : List (Ky × V), cntEs es ≤ 7 * V.bulks es
  | [] => by simp [cntEs]
  | (k, v) :: r => by
    have := V.cnt_bulk v
    have := cntEs_bulk r
    simp only [cntEs, V.bulks]
    omega
end
theorem drop_cons {α : Type} {l : List α} {i : Nat} {a : α} (hi : l[i]? = some a) : l.drop i = a :: l.drop (i + 1) := by
  obtain ⟨h1, rfl⟩ := List.getElem?_eq_some_iff.1 hi
  exact List.drop_eq_getElem_cons h1
theorem cntEs_pos : ∀ es : List (Ky × V), es.length ≤ cntEs es
  | [] => Nat.le_refl _
  | e :: r => by
    have := cntEs_pos r
    rw [cntEs_cons, List.length_cons]
    omega
end Go.Sx
