/-
  A variable of type Value that lies in the heap: how it is read and written, and how its items are taken out.
-/
import Derived.Test.YtjbcokpkbfnpiaaCopy
import Derived.Test.YtjbcokpkbfnpiaaSxHole
namespace Go.Proofs.Ytjbcokpkbfnpiaa
open Go Go.Sx
section
variable {h0 h : Hp} {K : Value → Hp → Prop} {bag : Bag} {c : List Dt → Dt} {val : Value} {b off : Nat}
def vraws (v : V) (u : Value) : List Dt := [.raw (.int .i64 v.kind), .raw (.int .i64 v.num), .raw (.string v.str), .raw (.int .i64 v.next), .raw u]
/-- the items are taken out -/
theorem var_open (hd : Hold c val b off) {v : V} (m : My h0 h ((c v.dt, val) :: bag)) : ∃ a n, My h0 h ((.row 8 (v.items.flatMap edt), .slice a v.items.length n) :: (c (vraws v (.slice a v.items.length n)), val) :: bag) := by
  rw [V.dt_eq] at m
  obtain ⟨u, m⟩ := hd.open_ (X := [.raw (.int .i64 v.kind), .raw (.int .i64 v.num), .raw (.string v.str), .raw (.int .i64 v.next)]) (Y := []) m
  obtain ⟨a, n, rfl, _⟩ := m.row_shape (by decide) v.items.length (fm_len edt_len _)
  exact ⟨a, n, m⟩
/-- .. and put back, perhaps others than before -/
theorem var_close (hd : Hold c val b off) {v : V} {u : Value} (m : My h0 h ((.row 8 (v.items.flatMap edt), u) :: (c (vraws v u), val) :: bag)) : My h0 h ((c v.dt, val) :: bag) := by
  have := hd.close (X := [.raw (.int .i64 v.kind), .raw (.int .i64 v.num), .raw (.string v.str), .raw (.int .i64 v.next)]) (Y := []) m
  rw [V.dt_eq]
  exact this
theorem var_ldraw (hd : Hold c val b off) {v : V} {u : Value} {j : Nat} (m : My h0 h ((c (vraws v u), val) :: bag)) (hj : j = off) (k : K (.agg #[.int .i64 v.kind, .int .i64 v.num, .string v.str, .int .i64 v.next, u]) h) : HPure Try.prog (ldI 29 (.pointer (some ⟨b, j, none⟩))) h K := by
  refine hd.loadN (i := 0) (ds := vraws v u) tyS29 m rfl rfl hj fun ys r => ?_
  simp only [vraws, RdL_cons, RdL_nil, Rd_raw] at r
  obtain ⟨_, _, rfl, ⟨rfl, _⟩, _, _, rfl, ⟨rfl, _⟩, _, _, rfl, ⟨rfl, _⟩, _, _, rfl, ⟨rfl, _⟩, _, _, rfl, ⟨rfl, _⟩, rfl⟩ := r
  exact k
/-- the value is read -/
theorem var_load (hd : Hold c val b off) {v : V} {j : Nat} (m : My h0 h ((c v.dt, val) :: bag)) (hj : j = off) (k : ∀ sl, RdE h v.items sl → K (.agg #[.int .i64 v.kind, .int .i64 v.num, .string v.str, .int .i64 v.next, sl]) h) : HPure Try.prog (ldI 29 (.pointer (some ⟨b, j, none⟩))) h K := by
  refine hd.loadN (i := 0) (ds := v.dt) tyS29 m (by rw [List.drop_zero, List.take_of_length_le (by rw [V.dt_len]; exact Nat.le_refl _)]) (V.dt_len v) hj fun ys r => ?_
  obtain ⟨sl, rfl, rd⟩ := RdL_val r
  exact k sl rd
/-- a value of the walk's own is written -/
theorem var_store (hd : Hold c val b off) {v w : V} {sl : Value} {j : Nat} {x : List Dt} (hx : x.length = 5) (m : My h0 h ((.row 8 (w.items.flatMap edt), sl) :: (c x, val) :: bag)) (hj : j = off) (k : ∀ h', My h0 h' ((c w.dt, val) :: bag) → K undef h') :
    HSem Try.prog (stI 29 (.pointer (some ⟨b, j, none⟩)) (.agg #[.int .i64 w.kind, .int .i64 w.num, .string w.str, .int .i64 w.next, sl])) h K := by
  refine hd.store (x := x) (es := w.dt) tyS29 ?_ hx (V.dt_len w) rfl hj k
  rw [V.dt_eq]
  simp only [cells_agg, List.zip_cons_cons, List.zip_nil_right, List.cons_append, List.nil_append, My.raw_iff, one_int, one_str, and_self, true_and]
  exact m
/-- the value is read for good: the variable is given up -/
theorem var_take (hd : Hold c val b off) {v : V} {j : Nat} (m : My h0 h ((c v.dt, val) :: bag)) (hj : j = off) (k : ∀ a n, My h0 h ((.row 8 (v.items.flatMap edt), .slice a v.items.length n) :: bag) → K (.agg #[.int .i64 v.kind, .int .i64 v.num, .string v.str, .int .i64 v.next, .slice a v.items.length n]) h) : HPure Try.prog (ldI 29 (.pointer (some ⟨b, j, none⟩))) h K := by
  obtain ⟨a, n, m⟩ := var_open hd m
  exact var_ldraw hd m.drop hj (k a n m.swap.drop)
/-- an item's value within the items -/
theorem hold_item {es : List (Ky × V)} {i : Nat} {e : Ky × V} {b cap : Nat} (he : es[i]? = some e) : ∃ c, Hold c (.slice (some ⟨b, 0, none⟩) es.length cap) b (i * 8 + 3) ∧ ∀ w : V, c w.dt = .row 8 ((es.take i ++ (e.1, w) :: es.drop (i + 1)).flatMap edt) := by
  obtain ⟨h1, h2⟩ := fm_split edt_len he
  have hlt := (List.getElem?_eq_some_iff.1 he).1
  refine ⟨_, (Hold.row (z := 8) (p := (es.take i).flatMap edt ++ e.1.dt) (q := (es.drop (i + 1)).flatMap edt) (by omega)).at_ ?_, fun w => ?_⟩
  · rw [List.length_append, h2]
    rfl
  · simp only [List.flatMap_append, List.flatMap_cons, edt, List.append_assoc]
end
end Go.Proofs.Ytjbcokpkbfnpiaa
