/-
  A part of the abstract machine over the model's Code, or of the proof that what it shows holds of the model; no program is in sight, and nothing is assumed.
-/
import Derived.Test.YtconhonjkfpfmaaDoorSxLaw
import Derived.Lib.LaidTab
import Derived.Lib.ItoaNum
import Derived.Sort.Grow
import Derived.Deep.Draws
/-! Calls into Go's library by the shelf's contracts: what they make stays out of sight; tables of the library's. -/
namespace Go.Sx
open Go
section
variable {P : Program} {f : Nat} {args : Array Value} {h h' : Hp}
/-- A contract that ends below the heap is a call that changes nothing visible. -/
theorem acalls_below {v : Value} (hp : plainFn P f = true) (hc : ∀ w, Sim h w → Calls P f args w fun e w' => e = .returned v ∧ RowKit.Below w.heap.size w w') : ACalls P f args h (Pu v h) :=
  .inl ⟨hp, fun w s => (hc w s).mono fun e w' ⟨he, hb⟩ => ⟨v, h, he, ⟨fun b o ho => (hb.block b (by
    have := s.vis b o ho
    exact (Array.getElem?_eq_some_iff.1 this).1)).trans (s.vis b o ho)⟩, ⟨hb.os, hb.tape, hb.output, hb.size, fun b hlt hn => ⟨hb.block b hlt, hn⟩⟩, rfl, rfl⟩⟩
theorem below_grow (w : World) (k : Nat) (os : Array Obj) : RowKit.Below w.heap.size w (Sort.grow (w.drewN k) os) :=
  ⟨rfl, rfl, rfl, by simp [Sort.grow, World.drewN], fun b hb => by
    show (w.heap ++ os)[b]? = w.heap[b]?
    rw [Array.getElem?_append_left hb]⟩
/-- A table of the library's lies in the visible heap. -/
def TabH (P : Program) (h : Hp) (name : String) (k : IntKind) (zs : List Int) : Prop := ∃ g e x, P.globalNamed name = some g ∧ h g = some (.cells (zs.map fun z => Value.int k z).toArray e x)
theorem TabH.ext {name : String} {k : IntKind} {zs : List Int} (e : Ext h h') (t : TabH P h name k zs) : TabH P h' name k zs := by
  obtain ⟨g, a, x, h1, h2⟩ := t
  exact ⟨g, a, x, h1, e g _ h2⟩
theorem TabH.is {name : String} {k : IntKind} {zs : List Int} {w : World} (s : Sim h w) (t : TabH P h name k zs) : Lib.TabIs P w name k zs := by
  obtain ⟨g, a, x, h1, h2⟩ := t
  unfold Lib.TabIs World.var?
  rw [h1]
  simp only [Option.bind_some, s.vis g _ h2]
theorem TabH.of {name : String} {k : IntKind} {zs : List Int} {w : World} (t : Lib.TabIs P w name k zs) : TabH P (vis w) name k zs := by
  unfold Lib.TabIs World.var? at t
  cases hg : P.globalNamed name with
  | none => rw [hg] at t; cases t
  | some g =>
    rw [hg] at t
    simp only [Option.bind_some] at t
    split at t
    · rename_i cs e x hb
      cases t
      exact ⟨g, e, x, hg, hb⟩
    · cases t
end
end Go.Sx
