/-
  An argument of type Token that can be read as data reads as a token in the abstract machine.
-/
import Derived.Test.YtcaljbefchapoaaDoorTok
import Derived.Test.YtcaljbefchapoaaDoorSxOpen
namespace Go.Proofs.YtcaljbefchapoaaDoor
set_option maxRecDepth 8000
open Go Go.Sx Go.ChangeShapes Go.WideShapes Go.RowKit Go.ChangeMaps
section
variable {H : Type} {enc : TypeId × Value → H} {w : World} {base : Nat} {sp : Nat → Bool} {held : Bool}
theorem openTok {v0 : Value} {d : DataW H} {ps : List MemPlace} {r : Reach} {b0 : Nat} (hval : Value.okWide Tryd.prog w r b0 23 v0) (h : DataW.Trod enc Tryd.prog w base sp held 23 v0 d ps) :
    ∃ (t : Tk), v0 = .agg #[.int .i64 t.kind, .int .i64 t.num, .string t.text, .int .i64 t.at_] ∧ t.ok := by
  obtain ⟨n, h⟩ := h
  obtain ⟨hl, m, _, hf⟩ := trod_fields Tryd.underlying23 h
  unfold Value.okWide at hval
  rw [Tryd.underlying23] at hval
  obtain ⟨cs, rfl, _⟩ := hval
  obtain ⟨cs⟩ := cs
  have hl : cs.length = 4 := hl
  match cs, hl with
  | [c0, c1, c2, c3], _ =>
    obtain ⟨y0, h0⟩ := hf 0 _ rfl
    obtain ⟨y1, h1⟩ := hf 1 _ rfl
    obtain ⟨y2, h2⟩ := hf 2 _ rfl
    obtain ⟨y3, h3⟩ := hf 3 _ rfl
    obtain ⟨k, e0, b0⟩ := trod_one Tryd.underlying3 h0
    obtain ⟨q, e1, b1⟩ := trod_one Tryd.underlying3 h1
    obtain ⟨s, e2, _, b2⟩ := DataW.trod_string Tryd.underlying9 h2
    obtain ⟨x, e3, b3⟩ := trod_one Tryd.underlying3 h3
    have e0 : [c0] = [.int .i64 k] := e0
    have e1 : [c1] = [.int .i64 q] := e1
    have e2 : [c2] = [.string s] := e2
    have e3 : [c3] = [.int .i64 x] := e3
    cases e0; cases e1; cases e2; cases e3
    exact ⟨⟨k, q, s, x⟩, rfl, b0, b1, b2, b3⟩
end
end Go.Proofs.YtcaljbefchapoaaDoor
