/-
  A part of the abstract machine over the model's Code, or of the proof that what it shows holds of the model; no program is in sight, and nothing is assumed.
-/
import Derived.Test.YtccjkhnefiikaaaGreatDoorSxHeap
import Derived.ProofKit
import Derived.OpenShut
import Derived.Below
import Derived.WideKeyArgs
import Derived.ChangeMaps5
import Derived.Carry
/-! From the abstract machine to a statement: a law that answers true and leaves what was there alone. -/
namespace Go.Sx
open Go Go.ChangeShapes Go.WideShapes Go.RowKit

/-- The whole heap is visible. -/
def vis (w : World) : Hp := fun b => w.heap[b]?
section
variable {P : Program}
theorem ACalls.plain {f : Nat} {args : Array Value} {h : Hp} {R : Value → Hp → Prop} (hA : ACalls P f args h R) (hp : plainFn P f = true) (w : World) (hw : Sim h w) : Calls P f args w fun e w' => ∃ v h', e = .returned v ∧ Sim h' w' ∧ Frm h w h' w' ∧ R v h' := by
  rcases hA with hA | hA
  · exact hA.2 w hw
  · obtain ⟨v, h1, _⟩ := hA w hw
    rw [plainFn_run hp] at h1
    cases h1
theorem to_below {f : Nat} {args : Array Value} {W : World} (hA : ACalls P f args (vis W) (Is (.bool true) (vis W))) (hp : plainFn P f = true := by kernel_rfl) : Calls P f args W fun e w' => e = .returned (.bool true) ∧ Below W.heap.size W w' :=
  (hA.plain hp W ⟨fun _ _ hb => hb⟩).mono fun e w' ⟨v, h', he, hs, hf, ⟨hv, hx⟩⟩ => by
    subst hv
    refine ⟨he, hf.os, hf.tape, hf.output, hf.size, fun k hk => ?_⟩
    have hb : vis W k = some W.heap[k] := Array.getElem?_eq_getElem hk
    have h1 := hs.vis k _ (hx k _ hb)
    rw [h1]
    exact hb.symm

variable {H : Type} {enc : TypeId × Value → H}
theorem trodAll_stays (hl : laidOutB P = true) {W W' : World} (hb : Below W.heap.size W W') : ∀ (ts : List TypeId) (vs : List Value) (ds : List (DataW H)) (ps : List MemPlace), (∀ t ∈ ts, P.readableRec t = true ∧ t < P.types.size) →
    DataW.TrodAll enc P W 0 (fun _ => true) true ts vs ds ps → (∀ x ∈ ps, x.block < W.heap.size) → ∀ sp' : Nat → Bool, (∀ p ∈ ps, sp' p.block = true) → DataW.TrodAll enc P W' 0 sp' true ts vs ds ps
  | [], vs, ds, ps, _, h, _, sp', _ => by
    obtain ⟨rfl, rfl, rfl⟩ := trodAll_nil h
    exact trodAll_mk0
  | t :: ts, vs, ds, ps, ht, h, hlt, sp', hsp => by
    obtain ⟨v, vs', d, ds', p, q, rfl, rfl, rfl, h0, h1⟩ := trodAll_cons h
    refine trodAll_cons_mk (WideElems.Trod_stays hl (ht t (by simp)).1 (ht t (by simp)).2 h0 (fun x hx => hb.same (hlt x (by simp [hx]))) (fun x hx => hsp x (by simp [hx]))) ?_
    exact trodAll_stays hl hb ts vs' ds' q (fun t' h' => ht t' (by simp [h'])) h1 (fun x hx => hlt x (by simp [hx])) sp' (fun x hx => hsp x (by simp [hx]))

/-- What the last step of a law's row asks, out of the walk. -/
theorem law_post {s : ChangeSpec} {f : Func} {tb : Nat} {W W' : World} {args : Array Value} {ds gs : List (DataW H)} {before : List MemPlace} (hl : laidOutB P = true) (hp' : (f.params.toList.all fun t => P.readableRec t && Nat.ble (t + 1) P.types.size) = true)
    (hr : f.resultTypes = #[tb]) (hu : P.underlying tb = some .bool) (hvars : s.vars = []) (hW : DataW.Whole enc P f.params.toList s.vars false W args.toList ds gs before) (hres : (s.fn H ds).results = [.lit (.bool true)]) (hargs : (s.fn H ds).args = ds)
    (hvs : (s.fn H ds).vars = []) (hb : Below W.heap.size W W') : s.post enc P f false true false false W args (.bool true) W' := by
  have hp : ∀ t ∈ f.params.toList, P.readableRec t = true ∧ t < P.types.size := fun t ht => by
    have := List.all_eq_true.1 hp' t ht
    simp only [Bool.and_eq_true] at this
    exact ⟨this.1, Nat.le_of_ble_eq_true this.2⟩
  have hlt : ∀ p ∈ before, p.block < W.heap.size := fun p hp => hW.lt p hp
  have hW' := hW
  obtain ⟨p, q, hA, hV, rfl, hfz, hnd⟩ := hW
  rw [hvars] at hV
  obtain ⟨rfl, rfl⟩ := trodVars_none hV
  simp only [List.append_nil] at *
  refine ⟨ds, [], p, [], p, [], hW', ?_, ?_, ?_, ?_, fun h => by cases h⟩
  · simp only [List.append_nil, hres, hr]
    exact trodAll_mk1 (shut_bool hu true)
  · simp only [List.append_nil, hargs]
    exact trodAll_stays hl hb _ _ _ _ hp hA hlt _ (fun x hx => by simpa using hlt x hx)
  · simp only [List.append_nil, hvs, hvars]
    rfl
  · exact World.keptBut_mono (fun x hx => ⟨hx, .inr (.inl hx)⟩) (hb.frame (· ∈ p))
end
end Go.Sx
