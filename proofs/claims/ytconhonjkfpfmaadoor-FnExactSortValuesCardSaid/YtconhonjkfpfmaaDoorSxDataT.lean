/-
  A part of the abstract machine over the model's Code, or of the proof that what it shows holds of the model; no program is in sight, and nothing is assumed.
-/
import Derived.Test.YtconhonjkfpfmaaDoorSxDataV
/-! Marks of lists in general; slots, tables, blocks, nodes: their data. -/
namespace Go.Sx
open Go
section
variable {α : Type} {c : α → Nat} {m : Nat → α → α}
def cntG (c : α → Nat) : List α → Nat
  | [] => 0
  | e :: r => c e + cntG c r
def mkG (c : α → Nat) (m : Nat → α → α) : List α → Nat → List α
  | [], _ => []
  | e :: r, k => m k e :: mkG c m r (k + c e)
def gsum (w : α → Nat) (l : List α) : Nat := (l.map w).sum
def szG (w : α → Nat) (l : List α) : Nat := l.length + gsum w l
theorem gsum_snoc {w : α → Nat} {es : List α} {i : Nat} {e : α} (hi : es[i]? = some e) : gsum w (es.take (i + 1)) = gsum w (es.take i) + w e := by
  rw [List.take_add_one, hi]; simp [gsum]
theorem gsum_split (w : α → Nat) (es : List α) (k : Nat) : gsum w es = gsum w (es.take k) + gsum w (es.drop k) := by
  unfold gsum; rw [← List.sum_append, ← List.map_append, List.take_append_drop]
theorem gsum_mem {w : α → Nat} : ∀ {es : List α} {e : α}, e ∈ es → w e ≤ gsum w es
  | a :: r, e, he => by
    cases he with
    | head => simp [gsum]
    | tail _ he => have := gsum_mem (w := w) he; simp only [gsum, List.map_cons, List.sum_cons] at this ⊢; omega
theorem cntG_append : ∀ p q : List α, cntG c (p ++ q) = cntG c p + cntG c q
  | [], q => by simp [cntG]
  | e :: p, q => by rw [List.cons_append, cntG, cntG, cntG_append p q]; omega
theorem mkG_append : ∀ (p q : List α) (k : Nat), mkG c m (p ++ q) k = mkG c m p k ++ mkG c m q (k + cntG c p)
  | [], q, k => by simp [mkG, cntG]
  | e :: p, q, k => by rw [List.cons_append, mkG, mkG, mkG_append p q, cntG, List.cons_append, Nat.add_assoc]
theorem cntG_snoc {l : List α} {i : Nat} {e : α} (hi : l[i]? = some e) : cntG c (l.take (i + 1)) = cntG c (l.take i) + c e := by
  rw [take_snoc hi, cntG_append]; simp [cntG]
theorem mkG_snoc {l : List α} {i : Nat} {e : α} (hi : l[i]? = some e) (k : Nat) : mkG c m (l.take (i + 1)) k = mkG c m (l.take i) k ++ [m (k + cntG c (l.take i)) e] := by
  rw [take_snoc hi, mkG_append]; simp [mkG]
theorem mkG_len : ∀ (l : List α) (k : Nat), (mkG c m l k).length = l.length
  | [], _ => rfl
  | e :: r, k => by rw [mkG, List.length_cons, List.length_cons, mkG_len r]
theorem cntG_le {l : List α} {i : Nat} {e : α} (hi : l[i]? = some e) : cntG c (l.take i) + c e ≤ cntG c l := by
  rw [← cntG_snoc hi]
  conv => rhs; rw [← List.take_append_drop (i + 1) l, cntG_append]
  omega
theorem mkG_get {l : List α} {i : Nat} {e : α} (hi : l[i]? = some e) (k : Nat) : (mkG c m l k)[i]? = some (m (k + cntG c (l.take i)) e) := by
  have hlt := (List.getElem?_eq_some_iff.1 hi).1
  conv => lhs; rw [← List.take_append_drop (i + 1) l, mkG_append, mkG_snoc hi]
  have : (mkG c m (l.take i) k).length = i := by rw [mkG_len, List.length_take]; omega
  rw [List.getElem?_append_left (by simp [this]), List.getElem?_append_right (by omega), this]
  simp
theorem cntG_pos (hc : ∀ a, 1 ≤ c a) : ∀ l : List α, l.length ≤ cntG c l
  | [] => Nat.le_refl _
  | e :: r => by
    have := cntG_pos hc r
    have := hc e
    rw [cntG, List.length_cons]
    omega
end
/-! keys, numbers, values -/
theorem Ky.dt_eq (k : Ky) : k.dt = [.raw (.bool k.text), .raw (.int .i64 k.num), .raw (.string k.str)] := rfl
def cK (_ : Ky) : Nat := 3
def mkK (k : Nat) (_ : Ky) : Ky := ⟨mbit k, (k + 1 : Nat), mtext (k + 2)⟩
def idt (n : Int) : List Dt := [.raw (.int .i64 n)]
theorem idt_len (n : Int) : (idt n).length = 1 := rfl
theorem idt_eq (n : Int) : idt n = [.raw (.int .i64 n)] := rfl
def cI (_ : Int) : Nat := 1
def mkI (k : Nat) (_ : Int) : Int := (k : Nat)
def cV (v : V) : Nat := 4 + cntEs v.items
def mkV1 (k : Nat) (v : V) : V := ⟨(k : Nat), (k + 1 : Nat), mtext (k + 2), (k + 3 : Nat), mkEs v.items (k + 4)⟩
theorem cntK_len : ∀ l : List Ky, cntG cK l = 3 * l.length
  | [] => rfl
  | k :: r => by rw [cntG, cntK_len r, List.length_cons]; unfold cK; omega
theorem cntV_bulk : ∀ l : List V, cntG cV l ≤ 7 * szG V.bulk l
  | [] => by simp [cntG]
  | v :: r => by
    have h1 := cntV_bulk r
    have h2 := cntEs_bulk v.items
    have h3 := V.bulk_eq v
    simp only [cntG, szG, gsum, cV, List.length_cons, List.map_cons, List.sum_cons] at h1 ⊢
    omega
/-! slots, tables, blocks -/
structure Sl where
  key : Ky
  val : V
  live : Bool
  link : Int
structure Tb where
  hashed : Bool
  heads : List Int
  slots : List Sl
  next : Int
  count : Int
structure Bk where
  count : Int
  tab : Tb
def Sl.dt (s : Sl) : List Dt := s.key.dt ++ (s.val.dt ++ [.raw (.bool s.live), .raw (.int .i64 s.link)])
theorem Sl.dt_eq (e : Sl) : e.dt = [.raw (.bool e.key.text), .raw (.int .i64 e.key.num), .raw (.string e.key.str), .raw (.int .i64 e.val.kind), .raw (.int .i64 e.val.num), .raw (.string e.val.str), .raw (.int .i64 e.val.next), .row 8 (e.val.items.flatMap edt), .raw (.bool e.live), .raw (.int .i64 e.link)] := by
  simp only [Sl.dt, Ky.dt, V.dt_eq]; rfl
theorem Sl.dt_len (e : Sl) : e.dt.length = 10 := by rw [Sl.dt_eq]; rfl
def cS (s : Sl) : Nat := (7 + cntEs s.val.items) + 2
def mkS (k : Nat) (s : Sl) : Sl := ⟨⟨mbit k, (k + 1 : Nat), mtext (k + 2)⟩, ⟨(k + 3 : Nat), (k + 4 : Nat), mtext (k + 5), (k + 6 : Nat), mkEs s.val.items (k + 7)⟩, mbit (k + 7 + cntEs s.val.items), ((k + 7 + cntEs s.val.items) + 1 : Nat)⟩
def Tb.dt (t : Tb) : List Dt := [.raw (.bool t.hashed), .row 1 (t.heads.flatMap idt), .row 10 (t.slots.flatMap Sl.dt), .raw (.int .i64 t.next), .raw (.int .i64 t.count)]
def Bk.dt (b : Bk) : List Dt := .raw (.int .i64 b.count) :: b.tab.dt
theorem Bk.dt_eq (e : Bk) : e.dt = [.raw (.int .i64 e.count), .raw (.bool e.tab.hashed), .row 1 (e.tab.heads.flatMap idt), .row 10 (e.tab.slots.flatMap Sl.dt), .raw (.int .i64 e.tab.next), .raw (.int .i64 e.tab.count)] := rfl
theorem Bk.dt_len (e : Bk) : e.dt.length = 6 := rfl
def cB (b : Bk) : Nat := 2 + cntG cI b.tab.heads + cntG cS b.tab.slots + 2
def mkB (k : Nat) (b : Bk) : Bk := ⟨(k : Nat), ⟨mbit (k + 1), mkG cI mkI b.tab.heads (k + 2), mkG cS mkS b.tab.slots (k + 2 + cntG cI b.tab.heads), (k + 2 + cntG cI b.tab.heads + cntG cS b.tab.slots : Nat), ((k + 2 + cntG cI b.tab.heads + cntG cS b.tab.slots) + 1 : Nat)⟩⟩
theorem cS_pos (s : Sl) : 1 ≤ cS s := by unfold cS; omega
theorem cB_pos (b : Bk) : 1 ≤ cB b := by unfold cB; omega
theorem cV_pos (v : V) : 1 ≤ cV v := by unfold cV; omega
/-! nodes -/
inductive Nd where
  | mk (kind num : Int) (text : ByteArray) (kids : List Nd)
namespace Nd
def kind : Nd → Int | ⟨k, _, _, _⟩ => k
def num : Nd → Int | ⟨_, n, _, _⟩ => n
def text : Nd → ByteArray | ⟨_, _, s, _⟩ => s
def kids : Nd → List Nd | ⟨_, _, _, l⟩ => l
theorem kind_mk {k n : Int} {s : ByteArray} {l : List Nd} : (Nd.mk k n s l).kind = k := (rfl)
theorem num_mk {k n : Int} {s : ByteArray} {l : List Nd} : (Nd.mk k n s l).num = n := (rfl)
theorem text_mk {k n : Int} {s : ByteArray} {l : List Nd} : (Nd.mk k n s l).text = s := (rfl)
theorem kids_mk {k n : Int} {s : ByteArray} {l : List Nd} : (Nd.mk k n s l).kids = l := (rfl)
attribute [go_sem] kind_mk num_mk text_mk kids_mk
theorem eta (v : Nd) : Nd.mk v.kind v.num v.text v.kids = v := by cases v; rfl
theorem ind {M : Nd → Prop} (h : ∀ v : Nd, (∀ e ∈ v.kids, M e) → M v) : ∀ v, M v
  | ⟨k, n, s, es⟩ => h _ (go es)
where go : ∀ es : List Nd, ∀ e ∈ es, M e
  | [], _, he => by cases he
  | v :: r, e, he => by
    cases he with
    | head => exact Nd.ind h v
    | tail _ he => exact go r e he
end Nd
mutual
def Nd.dt : Nd → List Dt
  | ⟨k, n, s, l⟩ => [.raw (.int .i64 k), .raw (.int .i64 n), .raw (.string s), .row 4 (Nd.dts l)]
def Nd.dts : List Nd → List Dt
  | [] => []
  | v :: r => Nd.dt v ++ Nd.dts r
end
theorem Nd.dts_eq : ∀ l : List Nd, Nd.dts l = l.flatMap Nd.dt
  | [] => by simp only [Nd.dts, List.flatMap_nil]
  | v :: r => by simp only [Nd.dts, List.flatMap_cons, Nd.dts_eq r]
theorem Nd.dt_eq (v : Nd) : v.dt = [.raw (.int .i64 v.kind), .raw (.int .i64 v.num), .raw (.string v.text), .row 4 (v.kids.flatMap Nd.dt)] := by
  cases v; simp only [Nd.dt, Nd.dts_eq]; rfl
theorem Nd.dt_len (v : Nd) : v.dt.length = 4 := by rw [Nd.dt_eq]; rfl
mutual
def Nd.bulk : Nd → Nat
  | ⟨_, _, s, l⟩ => s.size + Nd.bulks l
def Nd.bulks : List Nd → Nat
  | [] => 0
  | v :: r => 1 + Nd.bulk v + Nd.bulks r
end
theorem Nd.bulk_eq (v : Nd) : v.bulk = v.text.size + Nd.bulks v.kids := by cases v; simp only [Nd.bulk]; rfl
mutual
def Nd.ok : Nd → Prop
  | ⟨k, n, s, l⟩ => (IntKind.i64.min ≤ k ∧ k ≤ IntKind.i64.max) ∧ (IntKind.i64.min ≤ n ∧ n ≤ IntKind.i64.max) ∧ s.size ≤ maxLen ∧ l.length ≤ maxLen ∧ Nd.oks l
def Nd.oks : List Nd → Prop
  | [] => True
  | v :: r => Nd.ok v ∧ Nd.oks r
end
theorem Nd.ok_text {v : Nd} (h : v.ok) : v.text.size ≤ maxLen := by cases v; simp only [Nd.ok] at h; exact h.2.2.1
theorem Nd.ok_num {v : Nd} (h : v.ok) : IntKind.i64.min ≤ v.num ∧ v.num ≤ IntKind.i64.max := by cases v; simp only [Nd.ok] at h; exact h.2.1
theorem Nd.ok_kind {v : Nd} (h : v.ok) : IntKind.i64.min ≤ v.kind ∧ v.kind ≤ IntKind.i64.max := by cases v; simp only [Nd.ok] at h; exact h.1
theorem Nd.ok_len {v : Nd} (h : v.ok) : v.kids.length ≤ maxLen := by cases v; simp only [Nd.ok] at h; exact h.2.2.2.1
theorem Nd.ok_kids {v : Nd} (h : v.ok) : Nd.oks v.kids := by cases v; simp only [Nd.ok] at h; exact h.2.2.2.2
theorem Nd.oks_mem : ∀ {l : List Nd} {e : Nd}, Nd.oks l → e ∈ l → e.ok
  | v :: r, e, h, he => by
    simp only [Nd.oks] at h
    cases he with
    | head => exact h.1
    | tail _ he => exact Nd.oks_mem h.2 he
def Sl.ok (s : Sl) : Prop := s.key.ok ∧ s.val.ok ∧ IntKind.i64.min ≤ s.link ∧ s.link ≤ IntKind.i64.max
structure Tb.ok (t : Tb) : Prop where
  heads : ∀ n ∈ t.heads, IntKind.i64.min ≤ n ∧ n ≤ IntKind.i64.max
  slots : ∀ s ∈ t.slots, s.ok
  next : IntKind.i64.min ≤ t.next ∧ t.next ≤ IntKind.i64.max
  count : IntKind.i64.min ≤ t.count ∧ t.count ≤ IntKind.i64.max
  lh : t.heads.length ≤ maxLen
  ls : t.slots.length ≤ maxLen
structure Bk.ok (b : Bk) : Prop where
  count : IntKind.i64.min ≤ b.count ∧ b.count ≤ IntKind.i64.max
  tab : b.tab.ok
/-! nodes: how they lie in memory; size, depth, yields -/
abbrev RdN (h : Hp) (l : List Nd) (sl : Value) : Prop := Rd h (.row 4 (l.flatMap Nd.dt)) sl
theorem RdL_node {h : Hp} {v : Nd} {ys : List Value} (r : RdL h v.dt ys) : ∃ sl, ys = [.int .i64 v.kind, .int .i64 v.num, .string v.text, sl] ∧ RdN h v.kids sl := by
  simp only [Nd.dt_eq, RdL_cons, RdL_nil, Rd_raw] at r
  obtain ⟨_, _, rfl, ⟨rfl, _⟩, _, _, rfl, ⟨rfl, _⟩, _, _, rfl, ⟨rfl, _⟩, sl, _, rfl, hs, rfl⟩ := r
  exact ⟨sl, rfl, hs⟩
theorem RdL_node_mk {h : Hp} {v : Nd} {sl : Value} (hs : RdN h v.kids sl) : RdL h v.dt [.int .i64 v.kind, .int .i64 v.num, .string v.text, sl] := by
  simp only [Nd.dt_eq, RdL_cc, Rd_raw, RdL_nil, true_and, and_true]
  exact ⟨rfl, rfl, rfl, hs⟩
theorem hsem_node {P : Program} {h : Hp} {K : Value → Hp → Prop} {t b off i j : Nat} {es : List Nd} {e : Nd} {xs : List Value} (ht : tyS P t = some (true, 4)) (hat : At h ⟨b, off, none⟩ xs) (hr : RdL h (es.flatMap Nd.dt) xs) (hi : es[i]? = some e) (hj : j = off + i * 4)
    (k : ∀ sl, RdN h e.kids sl → K (.agg #[.int .i64 e.kind, .int .i64 e.num, .string e.text, sl]) h) : HPure P (ldI t (.pointer (some ⟨b, j, none⟩))) h K :=
  hsem_row (f := Nd.dt) (o := 0) (ds := e.dt) Nd.dt_len ht hat hr hi (Nat.le_refl _) (by rw [List.drop_zero, List.take_of_length_le (by rw [Nd.dt_len]; exact Nat.le_refl _)]) (by simpa using hj) fun ys r => by
    obtain ⟨sl, rfl, hs⟩ := RdL_node r
    exact k sl hs
theorem Nd.bulks_eq : ∀ l : List Nd, Nd.bulks l = szG Nd.bulk l
  | [] => by simp [Nd.bulks, szG, gsum]
  | v :: r => by
    have := Nd.bulks_eq r
    simp only [szG, gsum, List.length_cons, List.map_cons, List.sum_cons] at this ⊢
    simp only [Nd.bulks, this]
    omega
theorem Nd.bulks_mem : ∀ {l : List Nd} {e : Nd}, e ∈ l → e.bulk ≤ Nd.bulks l
  | v :: r, e, he => by
    simp only [Nd.bulks]
    cases he with
    | head => omega
    | tail _ he => have := Nd.bulks_mem he; omega
theorem Nd.bulks_len (l : List Nd) : l.length ≤ Nd.bulks l := by rw [Nd.bulks_eq]; unfold szG; omega
mutual
def Nd.size : Nd → Nat
  | ⟨_, _, _, l⟩ => 1 + Nd.sizes l
def Nd.sizes : List Nd → Nat
  | [] => 0
  | v :: r => Nd.size v + Nd.sizes r
end
theorem Nd.size_eq (v : Nd) : v.size = 1 + Nd.sizes v.kids := by cases v; simp only [Nd.size]; rfl
theorem Nd.sizes_eq : ∀ l : List Nd, Nd.sizes l = gsum Nd.size l
  | [] => by simp [Nd.sizes, gsum]
  | v :: r => by simp only [Nd.sizes, Nd.sizes_eq r, gsum, List.map_cons, List.sum_cons]
mutual
theorem Nd.size_bulk : ∀ v : Nd, v.size ≤ 1 + v.bulk
  | ⟨_, _, s, l⟩ => by have := Nd.sizes_bulk l; simp only [Nd.size, Nd.bulk]; omega
theorem Nd.sizes_bulk : ∀ l : List Nd, Nd.sizes l ≤ Nd.bulks l
  | [] => by simp [Nd.sizes]
  | v :: r => by have := Nd.size_bulk v; have := Nd.sizes_bulk r; simp only [Nd.sizes, Nd.bulks]; omega
end
def gmax {α : Type} (w : α → Nat) : List α → Nat
  | [] => 0
  | a :: r => max (w a) (gmax w r)
theorem gmax_append {α : Type} {w : α → Nat} : ∀ p q : List α, gmax w (p ++ q) = max (gmax w p) (gmax w q)
  | [], q => by simp [gmax]
  | a :: p, q => by rw [List.cons_append, gmax, gmax, gmax_append p q]; omega
theorem gmax_snoc {α : Type} {w : α → Nat} {l : List α} {i : Nat} {e : α} (hi : l[i]? = some e) : gmax w (l.take (i + 1)) = max (gmax w (l.take i)) (w e) := by
  rw [take_snoc hi, gmax_append]; simp [gmax]
theorem gmax_le {α : Type} {w : α → Nat} {b : Nat} : ∀ {l : List α}, (∀ e ∈ l, w e ≤ b) → gmax w l ≤ b
  | [], _ => by simp [gmax]
  | a :: r, h => by
    have h1 := h a (by simp)
    have h2 := gmax_le (w := w) (b := b) (l := r) fun e he => h e (by simp [he])
    simp only [gmax]; omega
mutual
def Nd.depth : Nd → Nat
  | ⟨_, _, _, l⟩ => Nd.depths l + 1
def Nd.depths : List Nd → Nat
  | [] => 0
  | v :: r => max (Nd.depth v) (Nd.depths r)
end
theorem Nd.depths_eq : ∀ l : List Nd, Nd.depths l = gmax Nd.depth l
  | [] => by simp [Nd.depths, gmax]
  | v :: r => by simp only [Nd.depths, Nd.depths_eq r, gmax]
theorem Nd.depth_eq (v : Nd) : v.depth = gmax Nd.depth v.kids + 1 := by cases v; simp only [Nd.depth, Nd.depths_eq]; rfl
mutual
theorem Nd.depth_size : ∀ v : Nd, v.depth ≤ v.size
  | ⟨_, _, _, l⟩ => by have := Nd.depths_size l; simp only [Nd.size, Nd.depth]; omega
theorem Nd.depths_size : ∀ l : List Nd, Nd.depths l ≤ Nd.sizes l
  | [] => by simp [Nd.depths]
  | v :: r => by have := Nd.depth_size v; have := Nd.depths_size r; simp only [Nd.sizes, Nd.depths]; omega
end
mutual
def Nd.yields : Nd → Bool
  | ⟨k, _, _, l⟩ => decide (k = 46) || Nd.anyY l
def Nd.anyY : List Nd → Bool
  | [] => false
  | v :: r => (!decide (v.kind = 23) && Nd.yields v) || Nd.anyY r
end
theorem Nd.yields_eq (v : Nd) : v.yields = (decide (v.kind = 46) || Nd.anyY v.kids) := by cases v; simp only [Nd.yields]; rfl
theorem Nd.anyY_cons (v : Nd) (r : List Nd) : Nd.anyY (v :: r) = ((!decide (v.kind = 23) && v.yields) || Nd.anyY r) := by simp only [Nd.anyY]
theorem Nd.anyY_nil : Nd.anyY [] = false := by simp only [Nd.anyY]
/-! what the laws' size functions leave of a bound -/
/-- what is left -/
def less (l : Int) (n : Nat) : Int := if (n : Int) ≤ l then l - n else -1
theorem less_add {l : Int} {a b : Nat} (h : 0 ≤ less l a) : less (less l a) b = less l (a + b) := by
  unfold less at *; split at h <;> (repeat' split) <;> omega
theorem less_neg {l : Int} {a b : Nat} (h : less l a < 0) : less l (a + b) = -1 := by
  unfold less at *; split at h <;> (repeat' split) <;> omega
theorem less_is {l : Int} {n : Nat} (h : less l n < 0) : less l n = -1 := by unfold less at *; split at h <;> (try split) <;> omega
theorem less_wrap {l : Int} {n : Nat} (h0 : 0 ≤ l) (h1 : l ≤ 1048576) (hn : n ≤ maxLen) : IntKind.i64.wrap (l - n) = l - n := IntWalk.i64_in _ (by unfold maxLen at hn; omega)
theorem less_le {l : Int} {n : Nat} (h1 : l ≤ 1048576) : less l n ≤ 1048576 := by unfold less; split <;> omega
end Go.Sx
