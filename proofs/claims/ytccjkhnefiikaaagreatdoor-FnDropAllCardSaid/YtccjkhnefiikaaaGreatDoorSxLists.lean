/-
  A part of the abstract machine over the model's Code, or of the proof that what it shows holds of the model; no program is in sight, and nothing is assumed.
-/
import Derived.Test.YtccjkhnefiikaaaGreatDoorSxBag
/-! Slices of structs: lists of things, 'z' cells to a thing. -/
namespace Go.Sx
open Go
section
variable {α : Type} {f : α → List Dt} {z : Nat}
theorem fm_len (hf : ∀ a, (f a).length = z) : ∀ (l : List α), (l.flatMap f).length = l.length * z
  | [] => by simp
  | a :: l => by simp [hf a, fm_len hf l, Nat.add_mul, Nat.add_comm]
theorem fm_split (hf : ∀ a, (f a).length = z) : ∀ {l : List α} {i : Nat} {a : α}, l[i]? = some a → l.flatMap f = (l.take i).flatMap f ++ (f a ++ (l.drop (i + 1)).flatMap f) ∧ ((l.take i).flatMap f).length = i * z
  | [], i, a, hi => by simp at hi
  | b :: l, 0, a, hi => by simp at hi; subst hi; simp
  | b :: l, i + 1, a, hi => by
    simp at hi
    obtain ⟨h1, h2⟩ := fm_split hf hi
    refine ⟨?_, ?_⟩
    · simp only [List.flatMap_cons, List.take_succ_cons, List.drop_succ_cons, List.append_assoc]
      rw [← h1]
    · simp only [List.flatMap_cons, List.take_succ_cons, List.length_append, hf b, h2, Nat.add_mul, Nat.one_mul]
      omega
theorem fm_take (hf : ∀ a, (f a).length = z) {l : List α} {i : Nat} {a : α} (hi : l[i]? = some a) (o n : Nat) (ho : o + n ≤ z) : ((l.flatMap f).drop (i * z + o)).take n = ((f a).drop o).take n := by
  obtain ⟨h1, h2⟩ := fm_split hf hi
  rw [h1, ← h2, ← List.drop_drop, List.drop_left, List.drop_append_of_le_length (by rw [hf]; omega), List.take_append_of_le_length (by rw [List.length_drop, hf]; omega)]
theorem fm_get (hf : ∀ a, (f a).length = z) {l : List α} {i : Nat} {a : α} (hi : l[i]? = some a) (o : Nat) (ho : o < z) : (l.flatMap f)[i * z + o]? = (f a)[o]? := by
  obtain ⟨h1, h2⟩ := fm_split hf hi
  rw [h1, ← h2, List.getElem?_append_right (by omega), Nat.add_sub_cancel_left, List.getElem?_append_left (by rw [hf]; omega)]
theorem get_lt {l : List α} {i : Nat} (hi : i < l.length) : ∃ a, l[i]? = some a ∧ a ∈ l := ⟨l[i], List.getElem?_eq_getElem hi, List.getElem_mem hi⟩

variable {P : Program} {h : Hp} {K : Value → Hp → Prop}
/-- The load of an element, or of some cells of an element. -/
theorem hsem_row {t n b off i j o : Nat} {l : List α} {a : α} {xs : List Value} {ds : List Dt} (hf : ∀ a, (f a).length = z) (ht : tyS P t = some (true, n)) (hat : At h ⟨b, off, none⟩ xs) (hr : RdL h (l.flatMap f) xs) (hi : l[i]? = some a)
    (ho : o + n ≤ z) (hd : ((f a).drop o).take n = ds) (hj : j = off + (i * z + o)) (k : ∀ ys, RdL h ds ys → K (.agg ys.toArray) h) : HPure P (ldI t (.pointer (some ⟨b, j, none⟩))) h K := by
  subst hd
  refine hsem_getN ht hat hr (fm_take hf hi o n ho) ?_ hj k
  rw [List.length_take, List.length_drop, hf]
  omega
/-- The load of one cell of an element. -/
theorem hsem_cell {t n b off i j o : Nat} {l : List α} {a : α} {xs : List Value} {d : Dt} (hf : ∀ a, (f a).length = z) (ht : tyS P t = some (false, n)) (hat : At h ⟨b, off, none⟩ xs) (hr : RdL h (l.flatMap f) xs) (hi : l[i]? = some a)
    (ho : o < z) (hd : (f a)[o]? = some d) (hj : j = off + (i * z + o)) (k : ∀ v, Rd h d v → K v h) : HPure P (ldI t (.pointer (some ⟨b, j, none⟩))) h K :=
  hsem_get1 ht hat hr ((fm_get hf hi o ho).trans hd) hj k
theorem ix_nat {z len b off i : Nat} (hi : i < len) : ixA (some z) (some ⟨b, off, none⟩) len (i : Int) = some (.pointer (some ⟨b, off + i * z, none⟩)) := ixA_nat hi
theorem i64max : IntKind.i64.max = 9223372036854775807 := by decide
theorem wrap_succ {i : Nat} (hi : i < 9223372036854775807) : IntKind.i64.wrap ((i : Int) + 1) = ((i + 1 : Nat) : Int) := by rw [IntWalk.i64_in _ (by omega)]; rfl
end
end Go.Sx
namespace Go.Sx
open Go
/-! ### Elements of slices of the walk's own -/
section
variable {P : Program} {h0 h : Hp} {K : Value → Hp → Prop} {bag : Bag} {z : Nat} {v : Value}
/-- The store of an element, the things that it holds first in the bag. -/
theorem hsem_my_put {t n b off len cap : Nat} {ag : Bool} {p o q es : List Dt} {u : Value} (ht : tyS P t = some (ag, n)) (m : My h0 h (es.zip u.cells.toList ++ ((.row z (p ++ (o ++ q)), .slice (some ⟨b, 0, none⟩) len cap) :: bag)))
    (h0l : 0 < len) (ho : o.length = n) (he : es.length = n) (hu : u.cells.toList.length = n) (hoff : off = p.length) (k : ∀ h', My h0 h' ((.row z (p ++ (es ++ q)), .slice (some ⟨b, 0, none⟩) len cap) :: bag) → K undef h') :
    HSem P (stI t (.pointer (some ⟨b, off, none⟩)) u) h K :=
  hsem_my_store ht (m.perm List.perm_middle) h0l ho he hu hoff k
theorem set_split {α : Type} {cs : List α} {j : Nat} (x : α) (hj : j < cs.length) : cs.set j x = cs.take j ++ x :: cs.drop (j + 1) := List.set_eq_take_append_cons_drop.trans (if_pos hj)
theorem at_split {α : Type} {cs : List α} {j : Nat} {d : α} (hj : cs[j]? = some d) : cs = cs.take j ++ d :: cs.drop (j + 1) := by
  have h1 := (List.getElem?_eq_some_iff.1 hj)
  obtain ⟨h1, rfl⟩ := h1
  rw [List.getElem_cons_drop, List.take_append_drop]
/-- The store of one plain cell of an element. -/
theorem hsem_my_cell {t n b off len cap j : Nat} {A R cs : List Dt} {u : Value} (ht : tyS P t = some (false, n)) (hn : n = 1) (m : My h0 h ((.row z (A ++ (cs ++ R)), .slice (some ⟨b, 0, none⟩) len cap) :: bag)) (h0l : 0 < len) (hj : j < cs.length) (hu : oneCell u = true) (hc : u.cells.toList = [u])
    (hoff : off = A.length + j) (k : ∀ h', My h0 h' ((.row z (A ++ (cs.set j (.raw u) ++ R)), .slice (some ⟨b, 0, none⟩) len cap) :: bag) → K undef h') : HSem P (stI t (.pointer (some ⟨b, off, none⟩)) u) h K := by
  subst hn
  obtain ⟨d, hd⟩ : ∃ d, cs[j]? = some d := ⟨_, List.getElem?_eq_getElem hj⟩
  have e1 : A ++ (cs ++ R) = (A ++ cs.take j) ++ ([d] ++ (cs.drop (j + 1) ++ R)) := by
    conv => lhs; rw [at_split hd]
    simp
  rw [e1] at m
  have hz : (([.raw u] : List Dt).zip u.cells.toList ++ ((.row z ((A ++ cs.take j) ++ ([d] ++ (cs.drop (j + 1) ++ R))), .slice (some ⟨b, 0, none⟩) len cap) :: bag)) = (.raw u, u) :: (.row z ((A ++ cs.take j) ++ ([d] ++ (cs.drop (j + 1) ++ R))), .slice (some ⟨b, 0, none⟩) len cap) :: bag := by rw [hc]; rfl
  refine hsem_my_put ht (es := [.raw u]) (by rw [hz]; exact m.raw hu) h0l rfl rfl (by rw [hc]; rfl) (by rw [hoff, List.length_append, List.length_take]; omega) fun h' m' => k h' ?_
  rw [set_split _ hj]
  simpa using m'
/-- A cell of an element is taken out. -/
theorem My.openAt {A R cs : List Dt} {j : Nat} {d : Dt} (m : My h0 h ((.row z (A ++ (cs ++ R)), v) :: bag)) (hj : cs[j]? = some d) : ∃ u, My h0 h ((d, u) :: (.row z (A ++ (cs.set j (.raw u) ++ R)), v) :: bag) := by
  have e1 : A ++ (cs ++ R) = (A ++ cs.take j) ++ d :: (cs.drop (j + 1) ++ R) := by
    conv => lhs; rw [at_split hj]
    simp
  rw [e1] at m
  obtain ⟨u, m⟩ := m.open_
  refine ⟨u, ?_⟩
  rw [set_split _ (List.getElem?_eq_some_iff.1 hj).1]
  simpa using m
theorem My.closeAt {A R cs : List Dt} {j : Nat} {d : Dt} {u : Value} (m : My h0 h ((d, u) :: (.row z (A ++ (cs ++ R)), v) :: bag)) (hj : cs[j]? = some (.raw u)) : My h0 h ((.row z (A ++ (cs.set j d ++ R)), v) :: bag) := by
  have e1 : A ++ (cs ++ R) = (A ++ cs.take j) ++ .raw u :: (cs.drop (j + 1) ++ R) := by
    conv => lhs; rw [at_split hj]
    simp
  rw [e1] at m
  have := m.close
  rw [set_split _ (List.getElem?_eq_some_iff.1 hj).1]
  simpa using this
/-- The load of one cell of an element. -/
theorem hsem_my_get {t n b off len cap j : Nat} {A R cs : List Dt} {d : Dt} (ht : tyS P t = some (false, n)) (m : My h0 h ((.row z (A ++ (cs ++ R)), .slice (some ⟨b, 0, none⟩) len cap) :: bag)) (h0l : 0 < len) (hj : cs[j]? = some d)
    (hoff : off = A.length + j) (k : ∀ u, Rd h d u → K u h) : HPure P (ldI t (.pointer (some ⟨b, off, none⟩))) h K := by
  obtain ⟨xs, hr, hat⟩ := m.at_
  refine hsem_get1 ht (hat h0l) hr (i := off) ?_ (by omega) k
  rw [hoff, List.getElem?_append_right (by omega), Nat.add_sub_cancel_left, List.getElem?_append_left (List.getElem?_eq_some_iff.1 hj).1, hj]
theorem zeros_succ (zero : List Value) (n : Nat) : zeros zero (n + 1) = zero.map .raw ++ zeros zero n := rfl
/-- 'make([]T, n)' -/
theorem hsem_my_make {t n : Nat} {s : SlT} (hs : slT P t = some s) (_ : 0 < s.z) (hzl : s.zero.length = s.z) (h1 : oneCells s.zero = true) (hn : n ≤ 1048576) (hb : s.by_ ≤ 1024) (my : My h0 h bag)
    (k : ∀ b h', My h0 h' ((.row s.z (zeros s.zero n), .slice (some ⟨b, 0, none⟩) n n) :: bag) → K (.slice (some ⟨b, 0, none⟩) n n) h') : HSem P (msI t (.int .i64 n) (.int .i64 n)) h K := by
  obtain ⟨i, zv, u1, u2, u3, u4, u5, u6⟩ := slT_some hs
  have hzs : zv.cells.size = s.z := by rw [← hzl, ← u6]; simp
  have hcur : ∀ n : Nat, ((Array.range (n * s.z)).map (zv.cells[· % zv.cells.size]!)).toList = (zeros s.zero n).map fun d => match d with | .raw u => u | _ => undef := by
    intro n
    induction n with
    | zero =>
      rw [Nat.zero_mul, show ((Array.range 0).map (zv.cells[· % zv.cells.size]!) : Array Value) = #[] from Array.eq_empty_of_size_eq_zero (by simp)]
      rfl
    | succ n ih =>
      rw [zeros_succ, List.map_append, ← ih]
      apply List.ext_getElem?
      intro q
      simp only [Array.toList_map, Array.toList_range, List.getElem?_map, List.getElem?_append, List.length_map, hzl, hzs]
      rw [Nat.add_mul, Nat.one_mul]
      by_cases hq : q < s.z
      · rw [if_pos hq, List.getElem?_range (by omega)]
        simp only [Option.map_some]
        rw [Nat.mod_eq_of_lt hq]
        have : q < zv.cells.size := by omega
        rw [getElem!_pos zv.cells q this]
        have h2 : s.zero[q]? = some zv.cells[q] := by
          rw [← u6, Array.getElem?_toList, Array.getElem?_eq_getElem this]
        rw [h2]
        rfl
      · rw [if_neg hq]
        by_cases hq2 : q < n * s.z + s.z
        · rw [List.getElem?_range (by omega), List.getElem?_range (by omega)]
          simp only [Option.map_some]
          rw [show q % s.z = (q - s.z) % s.z from Nat.mod_eq_sub_mod (by omega)]
        · rw [List.getElem?_eq_none (by simp; omega), List.getElem?_eq_none (by simp; omega)]
  have hraws : ∀ n : Nat, ∃ us : List Value, zeros s.zero n = us.map .raw ∧ oneCells us = true ∧ ((zeros s.zero n).map fun d => match d with | .raw u => u | _ => undef) = us := by
    intro n
    induction n with
    | zero => exact ⟨[], rfl, rfl, rfl⟩
    | succ n ih =>
      obtain ⟨us, e1, e2, e3⟩ := ih
      refine ⟨s.zero ++ us, by rw [zeros_succ, e1, List.map_append], by rw [oneCells_append, h1, e2]; rfl, ?_⟩
      rw [zeros_succ, List.map_append, e3]
      congr 1
      rw [List.map_map]
      exact List.map_id' _
  obtain ⟨us, e1, e2, e3⟩ := hraws n
  have hl : us.length = n * s.z := by
    have := zeros_len s.zero n
    rw [e1, List.length_map, hzl] at this
    exact this
  refine hsem_alloc (v := fun b => .slice (some ⟨b, 0, none⟩) n n) (o := .cells us.toArray s.e (0, 0)) (fun w _ => ?_) (fun b hb => k b _ (my_new (us := us) (e := s.e) ?_ hb (by rw [e1]; simp) (Nat.le_refl _) (by unfold maxLen; omega) (by simpa using hl) hl (by rw [← hl]; exact List.take_length) (fun h => h)))
  · have hbn : (s.by_ : Int) * (n : Int) ≤ 281474976710656 := by
      have := Nat.mul_le_mul hb hn
      rw [← Int.natCast_mul]
      omega
    have harr : (Array.range (n * s.z)).map (zv.cells[· % zv.cells.size]!) = us.toArray := by
      apply Array.ext'
      rw [hcur, e3]
    have hr := run_make (P := P) w t s.e i zv u1 u2 u3 .i64 .i64 n n (by omega) (Int.le_refl _) (by rw [u5]; exact hbn) (by omega)
    simp only [Int.toNat_natCast, u4, madeCells, harr] at hr
    exact hr
  · rw [e1]
    have : ∀ us : List Value, oneCells us = true → My h0 h (((us.map Dt.raw).zip us) ++ bag) := by
      intro us
      induction us with
      | nil => intro _; simpa using my
      | cons u us ih =>
        intro hu
        simp only [oneCells, Bool.and_eq_true] at hu
        exact (ih hu.2).raw hu.1
    exact this us e2
end
end Go.Sx
namespace Go.Sx
open Go
theorem zeros_sub (zero : List Value) {n i : Nat} (hi : i < n) : zeros zero (n - i) = zero.map .raw ++ zeros zero (n - (i + 1)) := by
  rw [show n - i = (n - (i + 1)) + 1 by omega, zeros_succ]
theorem arr_eta (ys : List Value) : (Value.agg ys.toArray) = .agg ys.toArray := (rfl)
section
variable {h0 h : Hp} {bag : Bag}
theorem My.fifth {a b c d e : Dt × Value} (m : My h0 h (a :: b :: c :: d :: e :: bag)) : My h0 h (e :: a :: b :: c :: d :: bag) := (m.perm ((((List.Perm.swap e d bag).cons c).cons b).cons a)).fourth
theorem My.sixth {a b c d e f : Dt × Value} (m : My h0 h (a :: b :: c :: d :: e :: f :: bag)) : My h0 h (f :: a :: b :: c :: d :: e :: bag) := (m.perm (((((List.Perm.swap f e bag).cons d).cons c).cons b).cons a)).fifth
theorem My.seventh {a b c d e f g : Dt × Value} (m : My h0 h (a :: b :: c :: d :: e :: f :: g :: bag)) : My h0 h (g :: a :: b :: c :: d :: e :: f :: bag) := (m.perm ((((((List.Perm.swap g f bag).cons e).cons d).cons c).cons b).cons a)).sixth
theorem My.eighth {a b c d e f g i : Dt × Value} (m : My h0 h (a :: b :: c :: d :: e :: f :: g :: i :: bag)) : My h0 h (i :: a :: b :: c :: d :: e :: f :: g :: bag) := (m.perm (((((((List.Perm.swap i g bag).cons f).cons e).cons d).cons c).cons b).cons a)).seventh
end
theorem nat_neg (n : Nat) : decide (((n : Nat) : Int) < 0) = false := decide_eq_false (by omega)
end Go.Sx
