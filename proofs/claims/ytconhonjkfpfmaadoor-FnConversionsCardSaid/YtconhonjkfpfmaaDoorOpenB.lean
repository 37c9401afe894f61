/-
  An argument of type []byte that can be read as data reads as bytes in the abstract machine.
-/
import Derived.Test.YtconhonjkfpfmaaDoorFacts
import Derived.Test.YtconhonjkfpfmaaDoorSxOpen
namespace Go.Proofs.YtconhonjkfpfmaaDoor
set_option maxRecDepth 8000
open Go Go.Sx Go.ChangeShapes Go.WideShapes Go.RowKit Go.ChangeMaps
section
variable {H : Type} {enc : TypeId × Value → H} {w : World} {base : Nat} {sp : Nat → Bool} {held : Bool}
def bdt (b : UInt8) : List Dt := [.raw (.int .u8 b.toNat)]
theorem openB {v0 : Value} {d : DataW H} {ps : List MemPlace} (h : DataW.Trod enc Tryd.prog w base sp held 22 v0 d ps) (h1 : oneCell v0 = true) :
    ∃ (l : List UInt8), RdS (vis w) 1 v0 (bcells l) := by
  obtain ⟨n, h⟩ := h
  obtain ⟨l, v, e, _, _, hrd⟩ := open_list (α := UInt8) (f := bdt) (ok := fun _ => True) (z := 1) Tryd.underlying22 (by kernel_rfl) (by decide) (fun n' cs' x' _ h' => by
    obtain ⟨m, e, h0, h2⟩ := trod_one Tryd.underlying5 h'
    have h0 : 0 ≤ m := h0
    have h2 : m ≤ 255 := h2
    refine ⟨UInt8.ofNat m.toNat, trivial, ?_⟩
    have h3 : (UInt8.ofNat m.toNat).toNat = m.toNat := by
      rw [UInt8.toNat_ofNat']
      exact Nat.mod_eq_of_lt (by show m.toNat < 256; omega)
    rw [e]
    simp only [bdt, RdL_cons, RdL_nil, Rd_raw]
    exact ⟨_, _, rfl, ⟨by rw [h3, Int.toNat_of_nonneg h0], rfl⟩, rfl⟩) h
  have : v0 = v := by cases v0 <;> first | (simp [Value.cells] at e; exact e) | (simp [oneCell] at h1)
  subst this
  refine ⟨l, ?_⟩
  simp only [Rd] at hrd
  obtain ⟨xs, r1, r2⟩ := hrd
  have r2 : RdL (vis w) ((bcells l).map .raw) xs := by
    have : ∀ l : List UInt8, l.flatMap bdt = (bcells l).map .raw := by
      intro l
      induction l with
      | nil => rfl
      | cons b r ih => simp only [List.flatMap_cons, ih, bdt, bcells, List.map_cons, List.cons_append, List.nil_append]
    rw [← this]
    exact r2
  rwa [r2.of_raws] at r1
end
end Go.Proofs.YtconhonjkfpfmaaDoor
