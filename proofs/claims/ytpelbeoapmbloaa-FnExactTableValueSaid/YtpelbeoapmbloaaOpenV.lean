/-
  An argument of type Key, Value, Entry, or a slice of keys, that can be read as data reads as one in the abstract machine.
-/
import Derived.Test.YtpelbeoapmbloaaFacts
import Derived.Test.YtpelbeoapmbloaaSxOpen
namespace Go.Proofs.Ytpelbeoapmbloaa
set_option maxRecDepth 8000
open Go Go.Sx Go.ChangeShapes Go.WideShapes Go.RowKit Go.ChangeMaps
section
variable {H : Type} {enc : TypeId × Value → H} {w : World} {base : Nat} {sp : Nat → Bool} {held : Bool}
theorem openKey {n : Nat} {cs : List Value} {x : DataW H × List MemPlace} (h : DataW.trod enc Try.prog w base sp held n 90 cs = some x) : ∃ k : Ky, k.ok ∧ RdL (vis w) k.dt cs := by
  obtain ⟨hl, m, _, hf⟩ := trod_fields Try.underlying90 h
  have hl : cs.length = 3 := hl
  match cs, hl with
  | [c0, c1, c2], _ =>
    obtain ⟨y0, h0⟩ := hf 0 _ rfl
    obtain ⟨y1, h1⟩ := hf 1 _ rfl
    obtain ⟨y2, h2⟩ := hf 2 _ rfl
    obtain ⟨b, e0⟩ := trod_bool1 Try.underlying4 h0
    obtain ⟨k, e1, b1⟩ := trod_one Try.underlying3 h1
    obtain ⟨s, e2, _, b2⟩ := DataW.trod_string Try.underlying9 h2
    have e0 : [c0] = [.bool b] := e0
    have e1 : [c1] = [.int .i64 k] := e1
    have e2 : [c2] = [.string s] := e2
    cases e0; cases e1; cases e2
    exact ⟨⟨b, k, s⟩, ⟨b1, b2⟩, by simp only [Ky.dt, RdL_cc, Rd_raw, RdL_nil, true_and, and_true]; exact ⟨rfl, rfl, rfl⟩⟩
theorem openV_ : ∀ (n : Nat) {cs : List Value} {x : DataW H × List MemPlace}, DataW.trod enc Try.prog w base sp held n 79 cs = some x → ∃ v : V, v.ok ∧ RdL (vis w) v.dt cs := by
  intro n
  induction n using Nat.strongRecOn with
  | _ n ih =>
    intro cs x h
    obtain ⟨hl, m, hm, hf⟩ := trod_fields Try.underlying79 h
    have hl : cs.length = 5 := hl
    match cs, hl with
    | [c0, c1, c2, c3, c4], _ =>
      obtain ⟨y0, h0⟩ := hf 0 _ rfl
      obtain ⟨y1, h1⟩ := hf 1 _ rfl
      obtain ⟨y2, h2⟩ := hf 2 _ rfl
      obtain ⟨y3, h3⟩ := hf 3 _ rfl
      obtain ⟨y4, h4⟩ := hf 4 _ rfl
      obtain ⟨k, e0, b0⟩ := trod_one Try.underlying3 h0
      obtain ⟨q, e1, b1⟩ := trod_one Try.underlying3 h1
      obtain ⟨s, e2, _, b2⟩ := DataW.trod_string Try.underlying9 h2
      obtain ⟨nx, e3, b3⟩ := trod_one Try.underlying3 h3
      have e0 : [c0] = [.int .i64 k] := e0
      have e1 : [c1] = [.int .i64 q] := e1
      have e2 : [c2] = [.string s] := e2
      have e3 : [c3] = [.int .i64 nx] := e3
      cases e0; cases e1; cases e2; cases e3
      obtain ⟨es, v, e4, hok, hlen, hrd⟩ := open_list (α := Ky × V) (f := edt) (ok := fun e => e.1.ok ∧ e.2.ok) (z := 8) Try.underlying77 (by kernel_rfl) (by decide) (fun n' cs' x' hn' h' => by
        obtain ⟨hl', m', hm', hf'⟩ := trod_fields Try.underlying109 h'
        obtain ⟨z0, g0⟩ := hf' 0 _ rfl
        obtain ⟨z1, g1⟩ := hf' 1 _ rfl
        have hl' : cs'.length = 8 := hl'
        obtain ⟨ky, ko, kr⟩ := openKey g0
        obtain ⟨v', vo, vr⟩ := ih m' (by omega) g1
        have kr : RdL (vis w) ky.dt (cs'.take 3) := kr
        have vr : RdL (vis w) v'.dt ((cs'.drop 3).take 5) := vr
        refine ⟨(ky, v'), ⟨ko, vo⟩, ?_⟩
        have : cs' = cs'.take 3 ++ (cs'.drop 3).take 5 := by
          rw [List.take_of_length_le (l := cs'.drop 3) (by rw [List.length_drop]; omega), List.take_append_drop]
        rw [this]
        exact kr.append vr) h4
      have e4 : [c4] = [v] := e4
      cases e4
      refine ⟨⟨k, q, s, nx, es⟩, ?_, ?_⟩
      · simp only [V.ok]
        refine ⟨b0, b1, b2, b3, hlen, ?_⟩
        have : ∀ l : List (Ky × V), (∀ e ∈ l, e.1.ok ∧ e.2.ok) → V.oks l := by
          intro l
          induction l with
          | nil => intro _; simp only [V.oks]
          | cons e r ihl =>
            intro hall
            obtain ⟨ky, v'⟩ := e
            have := hall (ky, v') (by simp)
            simp only [V.oks]
            exact ⟨this.1.1, this.1.2, this.2, ihl fun e he => hall e (by simp [he])⟩
        exact this es hok
      · exact RdL_val_mk (v := ⟨k, q, s, nx, es⟩) hrd
theorem openV {v0 : Value} {d : DataW H} {ps : List MemPlace} {r : Reach} {b0 : Nat} (hval : Value.okWide Try.prog w r b0 79 v0) (h : DataW.Trod enc Try.prog w base sp held 79 v0 d ps) :
    ∃ (v : V) (sl : Value), v0 = .agg #[.int .i64 v.kind, .int .i64 v.num, .string v.str, .int .i64 v.next, sl] ∧ v.ok ∧ RdE (vis w) v.items sl := by
  obtain ⟨n, h⟩ := h
  obtain ⟨v, hok, hr⟩ := openV_ n h
  obtain ⟨sl, he, hs⟩ := RdL_val hr
  unfold Value.okWide at hval
  rw [Try.underlying79] at hval
  obtain ⟨cs, rfl, _⟩ := hval
  refine ⟨v, sl, ?_, hok, hs⟩
  have : cs.toList = _ := he
  rw [← this]
theorem openValueS {v0 : Value} {d : DataW H} {ps : List MemPlace} (h : DataW.Trod enc Try.prog w base sp held 43 v0 d ps) (h1 : oneCell v0 = true) :
    ∃ (l : List V), (∀ k ∈ l, k.ok) ∧ l.length ≤ maxLen ∧ Rd (vis w) (.row 5 (l.flatMap V.dt)) v0 := by
  obtain ⟨n, h⟩ := h
  obtain ⟨l, v, e, hok, hlen, hrd⟩ := open_list (α := V) (f := V.dt) (ok := V.ok) (z := 5) Try.underlying43 (by kernel_rfl) (by decide) (fun n' cs' x' _ h' => openV_ n' h') h
  have : v0 = v := by cases v0 <;> first | (simp [Value.cells] at e; exact e) | (simp [oneCell] at h1)
  subst this
  exact ⟨l, hok, hlen, hrd⟩
end
end Go.Proofs.Ytpelbeoapmbloaa
