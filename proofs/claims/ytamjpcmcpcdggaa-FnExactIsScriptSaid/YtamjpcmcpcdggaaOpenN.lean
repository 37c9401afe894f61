/-
  An argument of type Node that can be read as data reads as a node in the abstract machine.
-/
import Derived.Test.YtamjpcmcpcdggaaFacts
import Derived.Test.YtamjpcmcpcdggaaSxOpen
import Derived.Test.YtamjpcmcpcdggaaSxDataT
namespace Go.Proofs.Ytamjpcmcpcdggaa
set_option maxRecDepth 8000
open Go Go.Sx Go.ChangeShapes Go.WideShapes Go.RowKit Go.ChangeMaps
section
variable {H : Type} {enc : TypeId × Value → H} {w : World} {base : Nat} {sp : Nat → Bool} {held : Bool}
theorem openN_ : ∀ (n : Nat) {cs : List Value} {x : DataW H × List MemPlace}, DataW.trod enc Try.prog w base sp held n 24 cs = some x → ∃ v : Nd, v.ok ∧ RdL (vis w) v.dt cs := by
  intro n
  induction n using Nat.strongRecOn with
  | _ n ih =>
    intro cs x h
    obtain ⟨hl, m, hm, hf⟩ := trod_fields Try.underlying24 h
    have hl : cs.length = 4 := hl
    match cs, hl with
    | [c0, c1, c2, c3], _ =>
      obtain ⟨y0, h0⟩ := hf 0 _ rfl
      obtain ⟨y1, h1⟩ := hf 1 _ rfl
      obtain ⟨y2, h2⟩ := hf 2 _ rfl
      obtain ⟨y3, h3⟩ := hf 3 _ rfl
      obtain ⟨k, e0, b0⟩ := trod_one Try.underlying3 h0
      obtain ⟨q, e1, b1⟩ := trod_one Try.underlying3 h1
      obtain ⟨s, e2, _, b2⟩ := DataW.trod_string Try.underlying9 h2
      have e0 : [c0] = [.int .i64 k] := e0
      have e1 : [c1] = [.int .i64 q] := e1
      have e2 : [c2] = [.string s] := e2
      cases e0; cases e1; cases e2
      obtain ⟨es, v, e3, hok, hlen, hrd⟩ := open_list (α := Nd) (f := Nd.dt) (ok := Nd.ok) (z := 4) Try.underlying22 (by kernel_rfl) (by decide) (fun n' cs' x' hn' h' => ih n' (by omega) h') h3
      have e3 : [c3] = [v] := e3
      cases e3
      refine ⟨⟨k, q, s, es⟩, ?_, ?_⟩
      · simp only [Nd.ok]
        refine ⟨b0, b1, b2, hlen, ?_⟩
        have : ∀ l : List Nd, (∀ e ∈ l, e.ok) → Nd.oks l := by
          intro l
          induction l with
          | nil => intro _; simp only [Nd.oks]
          | cons e r ihl =>
            intro hall
            simp only [Nd.oks]
            exact ⟨hall e (by simp), ihl fun e he => hall e (by simp [he])⟩
        exact this es hok
      · exact RdL_node_mk (v := ⟨k, q, s, es⟩) hrd
theorem openN {v0 : Value} {d : DataW H} {ps : List MemPlace} {r : Reach} {b0 : Nat} (hval : Value.okWide Try.prog w r b0 24 v0) (h : DataW.Trod enc Try.prog w base sp held 24 v0 d ps) :
    ∃ (v : Nd) (sl : Value), v0 = .agg #[.int .i64 v.kind, .int .i64 v.num, .string v.text, sl] ∧ v.ok ∧ RdN (vis w) v.kids sl := by
  obtain ⟨n, h⟩ := h
  obtain ⟨v, hok, hr⟩ := openN_ n h
  obtain ⟨sl, he, hs⟩ := RdL_node hr
  unfold Value.okWide at hval
  rw [Try.underlying24] at hval
  obtain ⟨cs, rfl, _⟩ := hval
  refine ⟨v, sl, ?_, hok, hs⟩
  have : cs.toList = _ := he
  rw [← this]
end
end Go.Proofs.Ytamjpcmcpcdggaa
