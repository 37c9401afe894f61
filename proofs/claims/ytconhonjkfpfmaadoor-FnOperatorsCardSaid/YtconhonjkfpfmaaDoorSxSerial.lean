/-
  A part of the abstract machine over the model's Code, or of the proof that what it shows holds of the model; no program is in sight, and nothing is assumed.
-/
import Derived.Test.YtconhonjkfpfmaaDoorSxDataT
import Derived.Lib.ItoaLen
/-! Values that are the same; plain values; the text of a value. -/
namespace Go.Sx
open Go
mutual
def V.same : V → V → Bool
  | ⟨k, n, s, _, es⟩, ⟨k', n', s', _, fs⟩ => decide (k = k') && (decide (n = n') && (decide (s = s') && (decide (es.length = fs.length) && sameEs es fs)))
def sameEs : List (Ky × V) → List (Ky × V) → Bool
  | [], _ => true
  | _ :: _, [] => false
  | (k, v) :: r, (k', v') :: r' => decide (k = k') && (V.same v v' && sameEs r r')
end
theorem V.same_eq (a b : V) : V.same a b = (decide (a.kind = b.kind) && (decide (a.num = b.num) && (decide (a.str = b.str) && (decide (a.items.length = b.items.length) && sameEs a.items b.items)))) := by
  cases a; cases b; rw [V.same]; rfl
theorem sameEs_nil (l : List (Ky × V)) : sameEs [] l = true := by rw [sameEs]
theorem sameEs_cons (e f : Ky × V) (r t : List (Ky × V)) : sameEs (e :: r) (f :: t) = (decide (e.1 = f.1) && (V.same e.2 f.2 && sameEs r t)) := by
  obtain ⟨k, v⟩ := e; obtain ⟨k', v'⟩ := f; rw [sameEs]
theorem sameEs_at {es fs : List (Ky × V)} {i : Nat} {e f : Ky × V} (he : es[i]? = some e) (hf : fs[i]? = some f) : sameEs (es.drop i) (fs.drop i) = (decide (e.1 = f.1) && (V.same e.2 f.2 && sameEs (es.drop (i + 1)) (fs.drop (i + 1)))) := by
  rw [drop_cons he, drop_cons hf, sameEs_cons]
mutual
def V.plain : V → Bool
  | ⟨k, _, _, _, es⟩ => if k = 4 then plainEs es else decide (0 ≤ k ∧ k ≤ 3)
def plainEs : List (Ky × V) → Bool
  | [] => true
  | (_, v) :: r => V.plain v && plainEs r
end
theorem V.plain_eq (v : V) : v.plain = if v.kind = 4 then plainEs v.items else decide (0 ≤ v.kind ∧ v.kind ≤ 3) := by cases v; rw [V.plain]; rfl
theorem plainEs_nil : plainEs [] = true := by rw [plainEs]
theorem plainEs_cons (e : Ky × V) (r : List (Ky × V)) : plainEs (e :: r) = (e.2.plain && plainEs r) := by obtain ⟨k, v⟩ := e; rw [plainEs]
theorem plainEs_at {es : List (Ky × V)} {i : Nat} {e : Ky × V} (he : es[i]? = some e) : plainEs (es.drop i) = (e.2.plain && plainEs (es.drop (i + 1))) := by rw [drop_cons he, plainEs_cons]
def flatSer (k n : Int) (s : ByteArray) : List UInt8 :=
  if k = 0 then [78, 59] else if k = 1 then [98, 58] ++ Lib.itoa n ++ [59] else if k = 2 then [105, 58] ++ Lib.itoa n ++ [59] else [115, 58] ++ Lib.itoa s.size ++ [58] ++ s.data.toList ++ [59]
def Ky.asV (k : Ky) : V := if k.text then ⟨3, 0, k.str, 0, []⟩ else ⟨2, k.num, ⟨#[]⟩, 0, []⟩
def Ky.ser (k : Ky) : List UInt8 := flatSer k.asV.kind k.asV.num k.asV.str
mutual
def V.ser : V → List UInt8
  | ⟨k, n, s, x, es⟩ => if 0 ≤ k ∧ k ≤ 3 then flatSer k n s else [97, 58] ++ Lib.itoa es.length ++ [58] ++ Lib.itoa x ++ [123] ++ serEs es ++ [125]
def serEs : List (Ky × V) → List UInt8
  | [] => []
  | (k, v) :: r => k.ser ++ v.ser ++ serEs r
end
theorem V.ser_eq (v : V) : v.ser = if 0 ≤ v.kind ∧ v.kind ≤ 3 then flatSer v.kind v.num v.str else [97, 58] ++ Lib.itoa v.items.length ++ [58] ++ Lib.itoa v.next ++ [123] ++ serEs v.items ++ [125] := by
  cases v; rw [V.ser]; rfl
theorem serEs_nil : serEs [] = [] := by rw [serEs]
theorem serEs_cons (e : Ky × V) (r : List (Ky × V)) : serEs (e :: r) = e.1.ser ++ e.2.ser ++ serEs r := by obtain ⟨k, v⟩ := e; rw [serEs]
theorem serEs_append : ∀ p q : List (Ky × V), serEs (p ++ q) = serEs p ++ serEs q
  | [], q => by rw [serEs_nil]; rfl
  | e :: p, q => by rw [List.cons_append, serEs_cons, serEs_cons, serEs_append p q]; simp only [List.append_assoc]
theorem serEs_snoc {es : List (Ky × V)} {i : Nat} {e : Ky × V} (hi : es[i]? = some e) : serEs (es.take (i + 1)) = serEs (es.take i) ++ (e.1.ser ++ e.2.ser) := by
  rw [take_snoc hi, serEs_append, serEs_cons, serEs_nil, List.append_nil]
theorem i64_len {n : Nat} (h : n ≤ maxLen) : IntKind.i64.min ≤ ((n : Nat) : Int) ∧ ((n : Nat) : Int) ≤ IntKind.i64.max := by
  unfold maxLen at h
  have h1 : IntKind.i64.min = -9223372036854775808 := by decide
  have h2 : IntKind.i64.max = 9223372036854775807 := by decide
  omega
theorem itoa_le21 {n : Int} (h : IntKind.i64.min ≤ n ∧ n ≤ IntKind.i64.max) : (Lib.itoa n).length ≤ 21 := Lib.itoa_length_le n h.1 h.2
theorem flat_len {k n : Int} {s : ByteArray} (h : IntKind.i64.min ≤ n ∧ n ≤ IntKind.i64.max) (hs : s.size ≤ maxLen) : (flatSer k n s).length ≤ s.size + 30 := by
  have h1 := itoa_le21 h
  have h2 := itoa_le21 (n := (s.size : Int)) (i64_len hs)
  have h3 : s.data.toList.length = s.size := Array.length_toList
  unfold flatSer
  split
  · simp
  · split
    · simp only [List.length_append, List.length_cons, List.length_nil]; omega
    · split
      · simp only [List.length_append, List.length_cons, List.length_nil]; omega
      · simp only [List.length_append, List.length_cons, List.length_nil]; omega
theorem kser_len {k : Ky} (h : k.ok) : k.ser.length ≤ k.str.size + 30 := by
  obtain ⟨h1, h2⟩ := h
  unfold Ky.ser Ky.asV
  split
  · exact flat_len (by simp only [V.num_mk]; decide) h2
  · have := flat_len (k := 2) (s := ⟨#[]⟩) h1 (Nat.zero_le _)
    have h0 : (⟨#[]⟩ : ByteArray).size = 0 := rfl
    rw [h0] at this
    exact Nat.le_trans this (by omega)
theorem serEs_len : ∀ (es : List (Ky × V)) (_ : ∀ e ∈ es, e.1.ok ∧ e.2.ser.length ≤ 128 * e.2.bulk + 90), (serEs es).length ≤ 128 * V.bulks es
  | [], _ => by rw [serEs_nil]; exact Nat.zero_le _
  | e :: r, h => by
    obtain ⟨o1, h1⟩ := h e (by simp)
    have h2 := serEs_len r fun x hx => h x (by simp [hx])
    have h3 := kser_len o1
    rw [serEs_cons]
    obtain ⟨k, v⟩ := e
    simp only [V.bulks, List.length_append] at *
    omega
theorem ser_len : ∀ v : V, v.ok → v.ser.length ≤ 128 * v.bulk + 90 := V.ind fun v ih ok => by
  have h1 := serEs_len v.items fun e he => ⟨(V.oks_mem (V.ok_items ok) he).1, ih e he (V.oks_mem (V.ok_items ok) he).2⟩
  have h2 := V.bulk_eq v
  have h3 := itoa_le21 (V.ok_next ok)
  have hl := V.ok_len ok
  have h4 := itoa_le21 (n := (v.items.length : Int)) (i64_len hl)
  rw [V.ser_eq]
  split
  · have := flat_len (k := v.kind) (V.ok_num ok) (V.ok_str ok)
    omega
  · simp only [List.length_append, List.length_cons, List.length_nil]
    omega
theorem serEs_take {es : List (Ky × V)} (ok : V.oks es) (i : Nat) : (serEs (es.take i)).length ≤ 128 * V.bulks (es.take i) :=
  serEs_len _ fun e he => ⟨(V.oks_mem ok (List.mem_of_mem_take he)).1, ser_len _ (V.oks_mem ok (List.mem_of_mem_take he)).2⟩
theorem bulks_add : ∀ p q : List (Ky × V), V.bulks (p ++ q) = V.bulks p + V.bulks q
  | [], q => by simp [V.bulks]
  | (k, v) :: p, q => by simp only [List.cons_append, V.bulks, bulks_add p q]; omega
theorem bulks_cut {es : List (Ky × V)} {i : Nat} {e : Ky × V} (he : es[i]? = some e) : V.bulks (es.take i) + (1 + (e.1.str.size + e.2.bulk)) ≤ V.bulks es := by
  have h1 : V.bulks es = V.bulks (es.take i) + V.bulks (es.drop i) := by rw [← bulks_add, List.take_append_drop]
  rw [h1, drop_cons he]
  obtain ⟨k, v⟩ := e
  simp only [V.bulks]
  omega
theorem asV_kind (k : Ky) : 0 ≤ k.asV.kind ∧ k.asV.kind ≤ 3 := by unfold Ky.asV; split <;> simp only [V.kind_mk] <;> decide
theorem asV_num {k : Ky} (h : k.ok) : IntKind.i64.min ≤ k.asV.num ∧ k.asV.num ≤ IntKind.i64.max := by
  unfold Ky.asV; split
  · simp only [V.num_mk]; decide
  · simp only [V.num_mk]; exact h.1
theorem asV_str (k : Ky) : k.asV.str.size ≤ k.str.size := by
  unfold Ky.asV; split
  · simp only [V.str_mk]; exact Nat.le_refl _
  · simp only [V.str_mk]; exact Nat.zero_le _
theorem bytes_add (a b : List UInt8) : (⟨a.toArray⟩ : ByteArray) ++ ⟨b.toArray⟩ = ⟨(a ++ b).toArray⟩ := by
  apply ByteArray.ext
  simp
theorem bytes_addS (a : List UInt8) (s : ByteArray) : (⟨a.toArray⟩ : ByteArray) ++ s = ⟨(a ++ s.data.toList).toArray⟩ := by
  apply ByteArray.ext
  simp
theorem i64_room {n : Nat} (h : n ≤ 9223372036854775807) : ((n : Nat) : Int) ≤ IntKind.i64.max := by
  have h2 : IntKind.i64.max = 9223372036854775807 := by decide
  omega
theorem bytes_id (s : ByteArray) : s = ⟨s.data.toList.toArray⟩ := by
  apply ByteArray.ext
  simp
end Go.Sx
