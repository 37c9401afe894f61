/-
  A part of the abstract machine over the model's Code, or of the proof that what it shows holds of the model; no program is in sight, and nothing is assumed.
-/
import Derived.Test.YtconhonjkfpfmaaSxLib
import Derived.Test.YtconhonjkfpfmaaSxOwn
import Derived.Shelf.Vars
/-! A variable of the library's own holds some number. -/
namespace Go.Sx
open Go
theorem at_of_cell {w : World} {g : Nat} {u : Value} (h : w.cell? ⟨g, 0, none⟩ = some u) : At (vis w) ⟨g, 0, none⟩ [u] := by
  unfold World.cell? at h
  unfold At vis
  simp only at h ⊢
  split at h
  · rename_i cs e x hb
    refine ⟨cs, e, x, hb, trivial, fun j v hj => ?_⟩
    cases j with
    | zero =>
      have hj : some u = some v := by simpa using hj
      rw [← hj]
      simpa using h
    | succ j => simp at hj
  all_goals simp at h
theorem below_drew (w : World) (k : Nat) : RowKit.Below w.heap.size w (w.drewN k) := ⟨rfl, rfl, rfl, Nat.le_refl _, fun _ _ => rfl⟩
/-- a cell of the visible heap is the world's -/
theorem cell_of_at {h : Hp} {w : World} (s : Sim h w) {g : Nat} {u : Value} (k : At h ⟨g, 0, none⟩ [u]) : w.cell? ⟨g, 0, none⟩ = some u := by
  have := at_cells s k 0 u rfl
  rw [Addr.add_lit] at this
  exact this
end Go.Sx
