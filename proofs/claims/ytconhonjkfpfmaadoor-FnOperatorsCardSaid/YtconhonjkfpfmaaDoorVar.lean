/-
  A variable of type Value that lies in the heap: how it is read and written, and how its items are taken out.
-/
import Derived.Test.YtconhonjkfpfmaaDoorCopy
import Derived.Test.YtconhonjkfpfmaaDoorSxHole
import Derived.Test.YtconhonjkfpfmaaDoorSxMathW
namespace Go.Proofs.YtconhonjkfpfmaaDoor
set_option maxRecDepth 8000
open Go Go.Sx
section
variable {h0 h : Hp} {K : Value → Hp → Prop} {bag : Bag} {c : List Dt → Dt} {val : Value} {b off : Nat}
def vraws (v : V) (u : Value) : List Dt := [.raw (.int .i64 v.kind), .raw (.int .i64 v.num), .raw (.string v.str), .raw (.int .i64 v.next), .raw u]
/-- the items are taken out -/
theorem var_open (hd : Hold c val b off) {v : V} (m : My h0 h ((c v.dt, val) :: bag)) : ∃ a n, My h0 h ((.row 8 (v.items.flatMap edt), .slice a v.items.length n) :: (c (vraws v (.slice a v.items.length n)), val) :: bag) := by
  rw [V.dt_eq] at m
  obtain ⟨u, m⟩ := hd.open_ (X := [.raw (.int .i64 v.kind), .raw (.int .i64 v.num), .raw (.string v.str), .raw (.int .i64 v.next)]) (Y := []) m
  obtain ⟨a, n, rfl, _⟩ := m.row_shape (by decide) v.items.length (fm_len edt_len _)
  exact ⟨a, n, m⟩
/-- .. and put back, perhaps others than before -/
theorem var_close (hd : Hold c val b off) {v : V} {u : Value} (m : My h0 h ((.row 8 (v.items.flatMap edt), u) :: (c (vraws v u), val) :: bag)) : My h0 h ((c v.dt, val) :: bag) := by
  have := hd.close (X := [.raw (.int .i64 v.kind), .raw (.int .i64 v.num), .raw (.string v.str), .raw (.int .i64 v.next)]) (Y := []) m
  rw [V.dt_eq]
  exact this
theorem var_ldraw (hd : Hold c val b off) {v : V} {u : Value} {j : Nat} (m : My h0 h ((c (vraws v u), val) :: bag)) (hj : j = off) (k : K (.agg #[.int .i64 v.kind, .int .i64 v.num, .string v.str, .int .i64 v.next, u]) h) : HPure Tryd.prog (ldI 26 (.pointer (some ⟨b, j, none⟩))) h K := by
  refine hd.loadN (i := 0) (ds := vraws v u) tyS26 m rfl rfl hj fun ys r => ?_
  simp only [vraws, RdL_cons, RdL_nil, Rd_raw] at r
  obtain ⟨_, _, rfl, ⟨rfl, _⟩, _, _, rfl, ⟨rfl, _⟩, _, _, rfl, ⟨rfl, _⟩, _, _, rfl, ⟨rfl, _⟩, _, _, rfl, ⟨rfl, _⟩, rfl⟩ := r
  exact k
/-- the value is read -/
theorem var_load (hd : Hold c val b off) {v : V} {j : Nat} (m : My h0 h ((c v.dt, val) :: bag)) (hj : j = off) (k : ∀ sl, RdE h v.items sl → K (.agg #[.int .i64 v.kind, .int .i64 v.num, .string v.str, .int .i64 v.next, sl]) h) : HPure Tryd.prog (ldI 26 (.pointer (some ⟨b, j, none⟩))) h K := by
  refine hd.loadN (i := 0) (ds := v.dt) tyS26 m (by rw [List.drop_zero, List.take_of_length_le (by rw [V.dt_len]; exact Nat.le_refl _)]) (V.dt_len v) hj fun ys r => ?_
  obtain ⟨sl, rfl, rd⟩ := RdL_val r
  exact k sl rd
/-- a value of the walk's own is written -/
theorem var_store (hd : Hold c val b off) {w : V} {sl : Value} {j : Nat} {x : List Dt} (hx : x.length = 5) (m : My h0 h ((.row 8 (w.items.flatMap edt), sl) :: (c x, val) :: bag)) (hj : j = off) (k : ∀ h', My h0 h' ((c w.dt, val) :: bag) → K undef h') :
    HSem Tryd.prog (stI 26 (.pointer (some ⟨b, j, none⟩)) (.agg #[.int .i64 w.kind, .int .i64 w.num, .string w.str, .int .i64 w.next, sl])) h K := by
  refine hd.store (x := x) (es := w.dt) tyS26 ?_ hx (V.dt_len w) rfl hj k
  rw [V.dt_eq]
  simp only [cells_agg, List.zip_cons_cons, List.zip_nil_right, List.cons_append, List.nil_append, My.raw_iff, one_int, one_str, and_self, true_and]
  exact m
/-- the value is read for good: the variable is given up -/
theorem var_take (hd : Hold c val b off) {v : V} {j : Nat} (m : My h0 h ((c v.dt, val) :: bag)) (hj : j = off) (k : ∀ a n, My h0 h ((.row 8 (v.items.flatMap edt), .slice a v.items.length n) :: bag) → K (.agg #[.int .i64 v.kind, .int .i64 v.num, .string v.str, .int .i64 v.next, .slice a v.items.length n]) h) : HPure Tryd.prog (ldI 26 (.pointer (some ⟨b, j, none⟩))) h K := by
  obtain ⟨a, n, m⟩ := var_open hd m
  exact var_ldraw hd m.drop hj (k a n m.swap.drop)
/-- an item's value within the items -/
theorem hold_item {es : List (Ky × V)} {i : Nat} {e : Ky × V} {b cap : Nat} (he : es[i]? = some e) : ∃ c, Hold c (.slice (some ⟨b, 0, none⟩) es.length cap) b (i * 8 + 3) ∧ ∀ w : V, c w.dt = .row 8 ((es.take i ++ (e.1, w) :: es.drop (i + 1)).flatMap edt) := by
  obtain ⟨h1, h2⟩ := fm_split edt_len he
  have hlt := (List.getElem?_eq_some_iff.1 he).1
  refine ⟨_, (Hold.row (z := 8) (p := (es.take i).flatMap edt ++ e.1.dt) (q := (es.drop (i + 1)).flatMap edt) (by omega)).at_ ?_, fun w => ?_⟩
  · rw [List.length_append, h2]
    rfl
  · simp only [List.flatMap_append, List.flatMap_cons, edt, List.append_assoc]
/-- the slice of items is written, bare -/
theorem var_setRaw (hd : Hold c val b off) {v : V} {u : Value} {a : Option Addr} {n q j : Nat} (m : My h0 h ((c (vraws v u), val) :: bag)) (hj : j = off + 4) (k : ∀ h', My h0 h' ((c (vraws v (.slice a n q)), val) :: bag) → K undef h') :
    HSem Tryd.prog (stI 24 (.pointer (some ⟨b, j, none⟩)) (.slice a n q)) h K := by
  have m1 : My h0 h ((.raw (.slice a n q), .slice a n q) :: (c ([.raw (.int .i64 v.kind), .raw (.int .i64 v.num), .raw (.string v.str), .raw (.int .i64 v.next)] ++ ([.raw u] ++ [])), val) :: bag) := m.raw rfl
  exact (hd.sub [.raw (.int .i64 v.kind), .raw (.int .i64 v.num), .raw (.string v.str), .raw (.int .i64 v.next)] []).store (h0 := h0) (bag := bag) (x := [.raw u]) (es := [.raw (.slice a n q)]) tyS24 m1 rfl rfl rfl hj fun h' m' => k h' m'
/-- the items' slice is written -/
theorem var_setItems (hd : Hold c val b off) {v : V} {u : Value} {es : List (Ky × V)} {a : Option Addr} {n q j : Nat} (m : My h0 h ((.row 8 (es.flatMap edt), .slice a n q) :: (c (vraws v u), val) :: bag)) (hj : j = off + 4) (k : ∀ h', My h0 h' ((c (v.withItems es).dt, val) :: bag) → K undef h') :
    HSem Tryd.prog (stI 24 (.pointer (some ⟨b, j, none⟩)) (.slice a n q)) h K := by
  refine (hd.sub [.raw (.int .i64 v.kind), .raw (.int .i64 v.num), .raw (.string v.str), .raw (.int .i64 v.next)] []).store (x := [.raw u]) (es := [.row 8 (es.flatMap edt)]) tyS24 m rfl rfl rfl hj fun h' m' => k h' ?_
  rw [V.dt_eq]
  exact m'
/-- the next number is written -/
theorem var_setNext (hd : Hold c val b off) {v : V} {n : Int} {j : Nat} (m : My h0 h ((c v.dt, val) :: bag)) (hj : j = off + 3) (k : ∀ h', My h0 h' ((c (V.mk v.kind v.num v.str n v.items).dt, val) :: bag) → K undef h') :
    HSem Tryd.prog (stI 3 (.pointer (some ⟨b, j, none⟩)) (.int .i64 n)) h K := by
  rw [V.dt_eq] at m
  have m1 : My h0 h ((.raw (.int .i64 n), .int .i64 n) :: (c ([.raw (.int .i64 v.kind), .raw (.int .i64 v.num), .raw (.string v.str)] ++ ([.raw (.int .i64 v.next)] ++ [.row 8 (v.items.flatMap edt)])), val) :: bag) := m.raw rfl
  refine (hd.sub [.raw (.int .i64 v.kind), .raw (.int .i64 v.num), .raw (.string v.str)] [.row 8 (v.items.flatMap edt)]).store (h0 := h0) (bag := bag) (x := [.raw (.int .i64 v.next)]) (es := [.raw (.int .i64 n)]) tyS3 m1 rfl rfl rfl hj fun h' m' => k h' ?_
  rw [V.dt_eq]
  exact m'
/-- the next number is read -/
theorem var_ldNext (hd : Hold c val b off) {v : V} {j : Nat} (m : My h0 h ((c v.dt, val) :: bag)) (hj : j = off + 3) (k : K (.int .i64 v.next) h) : HPure Tryd.prog (ldI 3 (.pointer (some ⟨b, j, none⟩))) h K := by
  rw [V.dt_eq] at m
  refine hd.load1 (i := 3) (d := .raw (.int .i64 v.next)) tyS3 m rfl hj fun u ru => ?_
  obtain ⟨rfl, _⟩ := Rd_raw.1 ru
  exact k
/-- the kind is read -/
theorem var_ldKind (hd : Hold c val b off) {v : V} {j : Nat} (m : My h0 h ((c v.dt, val) :: bag)) (hj : j = off) (k : K (.int .i64 v.kind) h) : HPure Tryd.prog (ldI 3 (.pointer (some ⟨b, j, none⟩))) h K := by
  rw [V.dt_eq] at m
  refine hd.load1 (i := 0) (d := .raw (.int .i64 v.kind)) tyS3 m rfl hj fun u ru => ?_
  obtain ⟨rfl, _⟩ := Rd_raw.1 ru
  exact k
/-- the items' slice is read, the items taken out before -/
theorem var_ldItems (hd : Hold c val b off) {v : V} {u : Value} {j : Nat} (m : My h0 h ((c (vraws v u), val) :: bag)) (hj : j = off + 4) (k : K u h) : HPure Tryd.prog (ldI 24 (.pointer (some ⟨b, j, none⟩))) h K := by
  refine hd.load1 (i := 4) (d := .raw u) tyS24 m rfl hj fun w rw_ => ?_
  obtain ⟨rfl, _⟩ := Rd_raw.1 rw_
  exact k
end
end Go.Proofs.YtconhonjkfpfmaaDoor
