/-
  Arguments of the types Table and Heap that can be read as data read as tables and blocks in the abstract machine.
-/
import Derived.Test.YtpelbeoapmbloaaOpenV
import Derived.Test.YtpelbeoapmbloaaSxTab
namespace Go.Proofs.Ytpelbeoapmbloaa
set_option maxRecDepth 8000
open Go Go.Sx Go.ChangeShapes Go.WideShapes Go.RowKit Go.ChangeMaps
section
variable {H : Type} {enc : TypeId × Value → H} {w : World} {base : Nat} {sp : Nat → Bool} {held : Bool}
theorem openSl_ {n : Nat} {cs : List Value} {x : DataW H × List MemPlace} (h : DataW.trod enc Try.prog w base sp held n 92 cs = some x) : ∃ s : Sl, s.ok ∧ RdL (vis w) s.dt cs := by
  obtain ⟨hl, m, hm, hf⟩ := trod_fields Try.underlying92 h
  have hl : cs.length = 10 := hl
  obtain ⟨z0, g0⟩ := hf 0 _ rfl
  obtain ⟨z1, g1⟩ := hf 1 _ rfl
  obtain ⟨z2, g2⟩ := hf 2 _ rfl
  obtain ⟨z3, g3⟩ := hf 3 _ rfl
  obtain ⟨ky, ko, kr⟩ := openKey g0
  obtain ⟨v, vo, vr⟩ := openV_ _ g1
  obtain ⟨b, e2⟩ := trod_bool1 Try.underlying4 g2
  obtain ⟨k, e3, b3⟩ := trod_one Try.underlying3 g3
  have kr : RdL (vis w) ky.dt (cs.take 3) := kr
  have vr : RdL (vis w) v.dt ((cs.drop 3).take 5) := vr
  have e2 : (cs.drop 8).take 1 = [.bool b] := e2
  have e3 : (cs.drop 9).take 1 = [.int .i64 k] := e3
  refine ⟨⟨ky, v, b, k⟩, ⟨ko, vo, b3⟩, ?_⟩
  have e : cs = cs.take 3 ++ ((cs.drop 3).take 5 ++ [.bool b, .int .i64 k]) := by
    match cs, hl with
    | [c0, c1, c2, c3, c4, c5, c6, c7, c8, c9], _ =>
      simp at e2 e3
      subst e2
      subst e3
      rfl
  rw [e]
  unfold Sl.dt
  refine kr.append (vr.append ?_)
  simp only [RdL_cc, Rd_raw, RdL_nil, true_and, and_true]
  exact ⟨rfl, rfl⟩
theorem openTb_ {n : Nat} {cs : List Value} {x : DataW H × List MemPlace} (h : DataW.trod enc Try.prog w base sp held n 25 cs = some x) : ∃ t : Tb, t.ok ∧ RdL (vis w) t.dt cs := by
  obtain ⟨hl, m, hm, hf⟩ := trod_fields Try.underlying25 h
  have hl : cs.length = 5 := hl
  match cs, hl with
  | [c0, c1, c2, c3, c4], _ =>
    obtain ⟨y0, h0⟩ := hf 0 _ rfl
    obtain ⟨y1, h1⟩ := hf 1 _ rfl
    obtain ⟨y2, h2⟩ := hf 2 _ rfl
    obtain ⟨y3, h3⟩ := hf 3 _ rfl
    obtain ⟨y4, h4⟩ := hf 4 _ rfl
    obtain ⟨b, e0⟩ := trod_bool1 Try.underlying4 h0
    obtain ⟨nx, e3, b3⟩ := trod_one Try.underlying3 h3
    obtain ⟨ct, e4, b4⟩ := trod_one Try.underlying3 h4
    have e0 : [c0] = [.bool b] := e0
    have e3 : [c3] = [.int .i64 nx] := e3
    have e4 : [c4] = [.int .i64 ct] := e4
    cases e0; cases e3; cases e4
    obtain ⟨hs, v1, e1, hok, hlen, hrd⟩ := open_list (α := Int) (f := idt) (ok := fun n => IntKind.i64.min ≤ n ∧ n ≤ IntKind.i64.max) (z := 1) Try.underlying22 (by kernel_rfl) (by decide) (fun n' cs' x' _ h' => by
      obtain ⟨q, e, b⟩ := trod_one Try.underlying3 h'
      subst e
      refine ⟨q, b, ?_⟩
      simp only [idt, RdL_cc, Rd_raw, RdL_nil, true_and, and_true]
      rfl) h1
    have e1 : [c1] = [v1] := e1
    cases e1
    obtain ⟨ss, v2, e2, sok, slen, srd⟩ := open_list (α := Sl) (f := Sl.dt) (ok := Sl.ok) (z := 10) Try.underlying23 (by kernel_rfl) (by decide) (fun n' cs' x' _ h' => openSl_ h') h2
    have e2 : [c2] = [v2] := e2
    cases e2
    refine ⟨⟨b, hs, ss, nx, ct⟩, ⟨hok, sok, b3, b4, hlen, slen⟩, ?_⟩
    simp only [Tb.dt, RdL_cc, Rd_raw, RdL_nil, true_and, and_true]
    exact ⟨rfl, hrd, srd, rfl, rfl⟩
theorem openT {v0 : Value} {d : DataW H} {ps : List MemPlace} {r : Reach} {b0 : Nat} (hval : Value.okWide Try.prog w r b0 25 v0) (h : DataW.Trod enc Try.prog w base sp held 25 v0 d ps) :
    ∃ (t : Tb) (s u : Value), v0 = .agg #[.bool t.hashed, s, u, .int .i64 t.next, .int .i64 t.count] ∧ t.ok ∧ RdI (vis w) t.heads s ∧ RdT (vis w) t.slots u := by
  obtain ⟨n, h⟩ := h
  obtain ⟨t, hok, hr⟩ := openTb_ h
  obtain ⟨s, u, he, hs, hu⟩ := RdL_tab hr
  unfold Value.okWide at hval
  rw [Try.underlying25] at hval
  obtain ⟨cs, rfl, _⟩ := hval
  refine ⟨t, s, u, ?_, hok, hs, hu⟩
  have : cs.toList = _ := he
  rw [← this]
theorem openKey1 {v0 : Value} {d : DataW H} {ps : List MemPlace} {r : Reach} {b0 : Nat} (hval : Value.okWide Try.prog w r b0 90 v0) (h : DataW.Trod enc Try.prog w base sp held 90 v0 d ps) :
    ∃ k : Ky, v0 = .agg #[.bool k.text, .int .i64 k.num, .string k.str] ∧ k.ok := by
  obtain ⟨n, h⟩ := h
  obtain ⟨k, hok, hr⟩ := openKey h
  have he := RdL_key hr
  unfold Value.okWide at hval
  rw [Try.underlying90] at hval
  obtain ⟨cs, rfl, _⟩ := hval
  refine ⟨k, ?_, hok⟩
  have : cs.toList = _ := he
  rw [← this]
theorem openBk_ {n : Nat} {cs : List Value} {x : DataW H × List MemPlace} (h : DataW.trod enc Try.prog w base sp held n 98 cs = some x) : ∃ t : Bk, t.ok ∧ RdL (vis w) t.dt cs := by
  obtain ⟨hl, m, hm, hf⟩ := trod_fields Try.underlying98 h
  have hl : cs.length = 6 := hl
  obtain ⟨z0, g0⟩ := hf 0 _ rfl
  obtain ⟨z1, g1⟩ := hf 1 _ rfl
  obtain ⟨k, e0, b0⟩ := trod_one Try.underlying3 g0
  obtain ⟨t, tok, tr⟩ := openTb_ g1
  have e0 : (cs.drop 0).take 1 = [.int .i64 k] := e0
  have tr : RdL (vis w) t.dt ((cs.drop 1).take 5) := tr
  refine ⟨⟨k, t⟩, ⟨b0, tok⟩, ?_⟩
  have e : cs = .int .i64 k :: (cs.drop 1).take 5 := by
    match cs, hl with
    | [c0, c1, c2, c3, c4, c5], _ =>
      simp at e0
      subst e0
      rfl
  rw [e]
  unfold Bk.dt
  exact RdL_cc.2 ⟨Rd_raw.2 ⟨rfl, rfl⟩, tr⟩
theorem openH {v0 : Value} {d : DataW H} {ps : List MemPlace} {r : Reach} {b0 : Nat} (hval : Value.okWide Try.prog w r b0 42 v0) (h : DataW.Trod enc Try.prog w base sp held 42 v0 d ps) :
    ∃ (l : List Bk) (s : Value), v0 = .agg #[s] ∧ (∀ b ∈ l, b.ok) ∧ l.length ≤ maxLen ∧ RdB (vis w) l s := by
  obtain ⟨n, h⟩ := h
  unfold Value.okWide at hval
  rw [Try.underlying42] at hval
  obtain ⟨cs, rfl, _⟩ := hval
  obtain ⟨hl, m, hm, hf⟩ := trod_fields Try.underlying42 h
  have hl : cs.toList.length = 1 := hl
  obtain ⟨z0, g0⟩ := hf 0 _ rfl
  obtain ⟨l, v, e, hok, hlen, hrd⟩ := open_list (α := Bk) (f := Bk.dt) (ok := Bk.ok) (z := 6) Try.underlying40 (by kernel_rfl) (by decide) (fun n' cs' x' _ h' => openBk_ h') g0
  have e : (cs.toList.drop 0).take 1 = [v] := e
  have e2 : cs.toList = [v] := by rw [List.drop_zero, List.take_of_length_le (by omega)] at e; exact e
  refine ⟨l, v, ?_, hok, hlen, hrd⟩
  rw [← e2]
end
end Go.Proofs.Ytpelbeoapmbloaa
