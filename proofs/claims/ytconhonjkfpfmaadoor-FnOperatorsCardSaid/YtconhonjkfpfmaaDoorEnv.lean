/-
  strconv.Atoi by the shelf's contract, and the errors that it returns.
-/
import Derived.Test.YtconhonjkfpfmaaDoorDoor
import Derived.Test.YtconhonjkfpfmaaDoorSxCanon
import Derived.Lib.AtoiErrMem
namespace Go.Proofs.YtconhonjkfpfmaaDoor
set_option maxRecDepth 8000
open Go Go.Sx
def ErrH (P : Program) (h : Hp) (name : String) : Prop := ∃ g tp p e x, P.globalNamed name = some g ∧ h g = some (.cells #[.iface tp p] e x)
theorem ErrH.ext {P : Program} {h h' : Hp} {name : String} (e : Ext h h') (t : ErrH P h name) : ErrH P h' name := by
  obtain ⟨g, tp, p, a, x, h1, h2⟩ := t
  exact ⟨g, tp, p, a, x, h1, e g _ h2⟩
theorem ErrH.var {P : Program} {h : Hp} {name : String} {w : World} (s : Sim h w) (t : ErrH P h name) : ∃ tp p, w.var? P name = some #[.iface tp p] := by
  obtain ⟨g, tp, p, a, x, h1, h2⟩ := t
  refine ⟨tp, p, ?_⟩
  unfold World.var?
  rw [h1]
  simp only [Option.bind_some, s.vis g _ h2]
theorem trod_iface {P : Program} {w : World} {sp : Nat → Bool} {fuel t : Nat} {cs : List Value} {nm : String} {d : DataW Unit} {ps : List MemPlace} (hi : isIfc P t = true) (h : DataW.trod (fun _ => ()) P w 0 sp false fuel t cs = some (.iface nm d, ps)) : ∃ u v, cs = [.iface u v] := by
  cases fuel with
  | zero => simp [DataW.trod] at h
  | succ n =>
    have hu : ∃ ms, P.underlying t = some (.interface ms) := by
      unfold isIfc at hi
      split at hi
      · rename_i ms hm
        exact ⟨ms, hm⟩
      · cases hi
    obtain ⟨ms, hu⟩ := hu
    unfold DataW.trod at h
    rw [hu] at h
    split at h <;> simp_all
theorem err_of {P : Program} {W : World} {name nm : String} {d : DataW Unit} {laid : List (String × DataW Unit)} {g t : Nat} (hg : P.globalNamed name = some g) (hty : (P.globals[g]?).map (·.type) = some t) (hi : isIfc P t = true)
    (hf : (laid.filter fun x => x.1 == name) = [(name, .iface nm d)]) (h : laidMet P laid W) : ErrH P (vis W) name := by
  have h2 := h.filter fun x => x.1 == name
  rw [hf] at h2
  obtain ⟨ps, ⟨g', t', cs, fuel, p, q, hg', ht', hvar, hd, _, _⟩, _⟩ := h2
  obtain rfl := Option.some.inj (hg.symm.trans hg')
  obtain rfl := Option.some.inj (hty.symm.trans ht')
  obtain ⟨u, v, hcs⟩ := trod_iface hi hd
  have hcs : cs = #[.iface u v] := by
    cases cs
    simp only at hcs
    rw [hcs]
  subst hcs
  unfold World.var? at hvar
  rw [hg] at hvar
  simp only [Option.bind_some] at hvar
  split at hvar
  · rename_i cs e x hb
    cases hvar
    exact ⟨g, u, v, e, x, hg, hb⟩
  · cases hvar
/-- what the library's variables hold -/
structure Env (h : Hp) : Prop where
  pow : Pow h
  syn : ErrH Tryd.prog h "strconv.ErrSyntax"
  rng : ErrH Tryd.prog h "strconv.ErrRange"
theorem Env.ext {h h' : Hp} (t : Env h) (e : Ext h h') : Env h' := ⟨t.pow.ext e, t.syn.ext e, t.rng.ext e⟩
theorem acalls_belowR {P : Program} {f : Nat} {args : Array Value} {h : Hp} {R : Value → Prop} (hp : plainFn P f = true) (hc : ∀ w, Sim h w → Calls P f args w fun e w' => ∃ v, e = .returned v ∧ R v ∧ RowKit.Below w.heap.size w w') : ACalls P f args h (fun v h' => R v ∧ h = h') :=
  ⟨hp, fun w s => (hc w s).mono fun e w' ⟨v, he, hr, hb⟩ => ⟨v, h, he, ⟨fun b o ho => (hb.block b (by
    have := s.vis b o ho
    exact (Array.getElem?_eq_some_iff.1 this).1)).trans (s.vis b o ho)⟩, ⟨hb.os, hb.tape, hb.output, hb.size, fun b hlt hn => ⟨hb.block b hlt, hn⟩⟩, hr, rfl⟩⟩
def AtoiR (s : ByteArray) (v : Value) : Prop := (∃ n, Lib.atoiAll s.data.toList = .ok n ∧ v = .tuple #[.int .i64 n, .nilIface]) ∨ ((∀ n, Lib.atoiAll s.data.toList ≠ .ok n) ∧ ∃ m t p, v = .tuple #[.int .i64 m, .iface t p])
theorem atoi_c (s : ByteArray) (hs : s.size ≤ 1048576) (h : Hp) (hE : Env h) : ACalls Tryd.prog 124 #[.string s] h (fun v h' => AtoiR s v ∧ h = h') := by
  refine acalls_belowR (by kernel_rfl) fun w sm => ?_
  rcases hx : Lib.atoiAll s.data.toList with n | _ | _
  · refine (Tryd.strconv_Atoi_ok s (by omega) n hx w).mono fun e w' ⟨he, hw⟩ => ⟨_, he, .inl ⟨n, hx, rfl⟩, ?_⟩
    rcases hw with rfl | ⟨t, rfl⟩
    · exact RowKit.Below.refl _ _
    · exact Lib.bytesWorld_below w _ _
  · obtain ⟨tp, p, hv⟩ := hE.syn.var sm
    exact (Tryd.strconv_Atoi_syntax_var s (by omega) hx tp p w hv).mono fun e w' ⟨N, he, _, _, hb⟩ => ⟨_, he, .inr ⟨fun n => (by rw [hx]; simp), _, _, _, rfl⟩, hb⟩
  · obtain ⟨tp, p, hv⟩ := hE.rng.var sm
    exact (Tryd.strconv_Atoi_range_var s (by omega) hx tp p w hv).mono fun e w' ⟨N, he, _, _, hb⟩ => ⟨_, he, .inr ⟨fun n => (by rw [hx]; simp), _, _, _, rfl⟩, hb⟩
theorem env_of {W : World} {laid : List (String × DataW Unit)} (hp : Pow (vis W)) (hf1 : (laid.filter fun x => x.1 == "strconv.ErrSyntax") = [("strconv.ErrSyntax", .iface "*errors.errorString" (.ptr (.agg [.lit (.string [105, 110, 118, 97, 108, 105, 100, 32, 115, 121, 110, 116, 97, 120])])))])
    (hf2 : (laid.filter fun x => x.1 == "strconv.ErrRange") = [("strconv.ErrRange", .iface "*errors.errorString" (.ptr (.agg [.lit (.string [118, 97, 108, 117, 101, 32, 111, 117, 116, 32, 111, 102, 32, 114, 97, 110, 103, 101])])))]) (h : laidMet Tryd.prog laid W) : Env (vis W) :=
  ⟨hp, err_of (g := 2) (t := 122) (by kernel_rfl) (by kernel_rfl) (by kernel_rfl) hf1 h, err_of (g := 3) (t := 122) (by kernel_rfl) (by kernel_rfl) (by kernel_rfl) hf2 h⟩
end Go.Proofs.YtconhonjkfpfmaaDoor
