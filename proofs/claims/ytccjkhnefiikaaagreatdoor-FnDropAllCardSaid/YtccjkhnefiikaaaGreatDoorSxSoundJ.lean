/-
  A part of the abstract machine over the model's Code, or of the proof that what it shows holds of the model; no program is in sight, and nothing is assumed.
-/
import Derived.Test.YtccjkhnefiikaaaGreatDoorSxSoundI
namespace Go.Sx
open Go
section
variable {P : Program} {h0 h h' : Hp} {w0 w w' : World} {n : Nat} {β : Nat → Nat} {fr fr1 fr' : Fr} {bx bx1 : Bx} {a : Act} {ops : Array Oper} {hm lb : List Nat}

def resSem (tmps : Array Value) : ResultVar → Sem Value
  | .tmp t => pure (tmps.getD t undef)
  | .cell a t => do loadVar t (← asAddr (tmps.getD a undef))
theorem ares_run (R : Rel h0 w0 n β fr bx h a w) {r : ResultVar} {v : Value} (hr : ares1 P fr bx r = some v) : (resSem a.tmps r).run P w = .ok v w := by
  have := ares1_run R hr
  cases r with
  | tmp t => exact this
  | cell t ty =>
    simp only [resSem] at this ⊢
    cases hp : a.tmps.getD t undef <;> rw [hp] at this <;> try (simp [Instr.loadAt, Instr.sureAddr] at this; done)
    rename_i ad
    cases ad with
    | none => simp [Instr.loadAt, Instr.sureAddr] at this
    | some ad => simpa [Instr.loadAt, Instr.sureAddr, asAddr] using this
theorem aresL_run (R : Rel h0 w0 n β fr bx h a w) : ∀ (rs : List ResultVar) (vs : List Value), aresL P fr bx rs = some vs → (rs.mapM (resSem a.tmps)).run P w = .ok vs w
  | [], vs, hr => by simp [aresL] at hr; subst hr; simp
  | r :: rs, vs, hr => by
    simp only [aresL] at hr
    split at hr
    · rename_i v hv
      cases hl : aresL P fr bx rs with
      | none => simp [hl] at hr
      | some us =>
        simp [hl] at hr
        subst hr
        have h1 := ares_run R hv
        have h2 := aresL_run R rs us hl
        simp only [List.mapM_cons, Sem.run_bind, h1, Result.andThen_ok, h2, Sem.run_pure]
    · simp at hr
theorem results_run (R : Rel h0 w0 n β fr bx h a w) {fn : Func} {vs : List Value} (hr : aresL P fr bx fn.results.toList = some vs) :
    (results fn a.tmps).run P w = .ok (wrapRes vs) w := by
  have hm := aresL_run R _ _ hr
  have he : results fn a.tmps = (do let vs ← fn.results.mapM (resSem a.tmps); pure (if h : vs.size = 1 then vs[0] else .tuple vs)) := by
    unfold results
    congr 1
  rw [he, Array.mapM_eq_mapM_toList]
  simp only [bind_map_left, Sem.run_bind]
  rw [hm]
  simp only [Result.andThen_ok, Sem.run_pure]
  match vs with
  | [] => rfl
  | [v] => rfl
  | v :: u :: r => simp [wrapRes]

/-- **A function's contract, out of its body.** -/
theorem acalls_of {f : Nat} {fn : Func} {c : Code} {args : Array Value} {R : Value → Hp → Prop} (hf : P.funcs[f]? = some fn) (hb : fn.body = some c) (hp : plainFn P f = true)
    (hmix : P.follows .mixedOrders = true) (hok : okCode fn.ntmps c = true) (hn : args.size ≤ fn.ntmps) (hm : List Nat) (hA : awp P hm c (aend P fn.results.toList R) (argFr 0 args.toList) [] h) : ACalls P f args h R := by
  refine .inl ⟨hp, fun w hw => ?_⟩
  have R0 : Rel h w fn.ntmps (fun _ => 0) (argFr 0 args.toList) [] h { tmps := args ++ Array.replicate (fn.ntmps - args.size) undef, defers := [] } w := by
    refine ⟨⟨fun i v hv => ?_, fun k cs hk => by simp [lkb] at hk⟩, rfl, by simp; omega, hw, Frm.refl h w, fun k cs hk => by simp [lkb] at hk, fun k k' cs cs' hk => by simp [lkb] at hk, fun i k off hv => ?_⟩
    · obtain ⟨u, rfl, _, hu⟩ := argFr_lk _ _ _ _ hv
      simp only [Nat.sub_zero] at hu
      have hlt : i < args.size := by
        have := (List.getElem?_eq_some_iff.1 hu).1
        simpa using this
      have hu' : args[i]? = some u := by simpa using hu
      have hu2 : args[i] = u := by rw [Array.getElem?_eq_getElem hlt] at hu'; simpa using hu'
      simp [conc, Array.getElem?_append, hlt, hu2]
    · obtain ⟨u, e, _, _⟩ := argFr_lk _ _ _ _ hv
      cases e
  refine calls_of_wp hf hb (Code.wp_mono (fun e a' w' q => ?_) (awp_sound hmix c hok _ _ _ _ _ _ _ R0 hA))
  obtain ⟨β, fr, bx, h', R', q⟩ := q
  cases e with
  | normal =>
    obtain ⟨vs, hvs, k⟩ := cval_some q
    exact ⟨R'.defers, _, results_run R' hvs, _, h', rfl, R'.sim, R'.frm, k⟩
  | ret =>
    obtain ⟨vs, hvs, k⟩ := cval_some q
    exact ⟨R'.defers, _, results_run R' hvs, _, h', rfl, R'.sim, R'.frm, k⟩
  | exit id => exact q.elim
  | goto l => exact q.elim
  | panic ch => exact q.elim
  | outgrown => exact q.elim
end
end Go.Sx
namespace Go.Sx
open Go
/-- What a function is asked once and for all, by the kernel. -/
def okFn (P : Program) (f : Nat) (fn : Func) (c : Code) (k : Nat) : Bool := plainFn P f && P.follows .mixedOrders && okCode fn.ntmps c && Nat.ble k fn.ntmps
theorem enter {P : Program} {h : Hp} {f : Nat} {fn : Func} {c : Code} {rs : List ResultVar} {args : Array Value} {R : Value → Hp → Prop} (hf : P.funcs[f]? = some fn) (hb : fn.body = some c) (hr : fn.results = rs.toArray)
    (hk : okFn P f fn c args.size = true) (hm : List Nat) (hA : awp P hm c (aend P rs R) (argFr 0 args.toList) [] h) : ACalls P f args h R := by
  simp only [okFn, Bool.and_eq_true] at hk
  obtain ⟨⟨⟨h1, h2⟩, h3⟩, h4⟩ := hk
  refine acalls_of hf hb h1 h2 h3 (Nat.le_of_ble_eq_true h4) hm ?_
  rw [hr]
  exact hA
end Go.Sx
