/-
  A part of the abstract machine over the model's Code, or of the proof that what it shows holds of the model; no program is in sight, and nothing is assumed.
-/
import Derived.Test.YtccjkhnefiikaaaGreatDoorSxSoundE
namespace Go.Sx
open Go
section
variable {P : Program} {h0 h h' : Hp} {w0 w w' : World} {n : Nat} {β : Nat → Nat} {fr fr1 : Fr} {bx bx1 : Bx} {a : Act}

theorem vval_some {x : Option AV} {K : Value → Prop} (h : vval x K) : ∃ v, x = some (.val v) ∧ K v := by
  unfold vval at h
  split at h
  · exact ⟨_, rfl, h⟩
  · exact h.elim
theorem cval_some {x : Option (List Value)} {K : List Value → Prop} (h : cval x K) : ∃ v, x = some v ∧ K v := by
  unfold cval at h
  split at h
  · exact ⟨_, rfl, h⟩
  · exact h.elim
theorem aval_some {x : Option AV} {K : AV → Prop} (h : aval x K) : ∃ v, x = some v ∧ K v := by
  unfold aval at h
  split at h
  · exact ⟨_, rfl, h⟩
  · exact h.elim

theorem run_unit {s : Sem Unit} {v : Value} {w' : World} (h : (do s; pure undef : Sem Value).run P w = .ok v w') : v = undef ∧ (do s; pure Next.skip : Sem Next).run P w = .ok .skip w' := by
  simp only [Sem.run_bind] at h ⊢
  cases hs : s.run P w with
  | ok u w1 =>
    simp only [hs, Result.andThen_ok, Sem.run_pure, Result.ok.injEq] at h ⊢
    exact ⟨h.1.symm, by simpa using h.2⟩
  | halt x w1 => simp [hs] at h

theorem args_eq (L : Loc β fr bx a w) {args : Array Operand} {vs : List Value} (h : vals (args.toList.map (ev fr)) = some vs) : args.map a.eval = vs.toArray := by
  have := vals_map L _ _ h
  rw [← this]
  apply Array.ext'
  simp

theorem plainFn_run {g : Nat} {args : Array Value} (hp : plainFn P g = true) : (callFunc g args).run P w = .ok (.enter g args) w := by
  unfold plainFn at hp
  cases hf : P.funcs[g]? with
  | none => simp [hf] at hp
  | some fn =>
    simp [hf] at hp
    cases hb : fn.body with
    | none => simp [hb] at hp
    | some c => simp [callFunc, hf, hp.1, hb]

theorem aop_sound {m : Mo} {o : Oper} {Q : Exit → Act → World → Prop} {K : AV → Bx → Hp → Prop} (R : Rel h0 w0 n β fr bx h a w) (hd : ∀ k, o.dst = some k → k < n)
    (hE : ExtO m.hs h) (hA : aop P m o fr bx h K) : o.wp P a w (Nx h0 w0 n fr o.dst fun v bx h => ExtO m.hs h ∧ K v bx h) Q := by
  have L := R.toLoc
  have wl : ∀ {o' : Oper}, (∀ k, o'.dst = some k → k < n) → (aval (lop P fr bx o'.op) fun v => K v bx h) → o'.wp P a w (Nx h0 w0 n fr o'.dst fun v bx h => ExtO m.hs h ∧ K v bx h) Q := fun hd hA => by
    refine wp_lop R hd ?_
    obtain ⟨v, hv, k⟩ := aval_some hA
    rw [hv]
    exact ⟨hE, k⟩
  obtain ⟨dst, op, ty, pos, aft, gd⟩ := o
  cases op <;> simp only [aop] at hA
  case box t x =>
    split at hA
    · exact hA.elim
    · rename_i d
      split at hA
      · obtain ⟨v, hx, hK⟩ := vval_some hA
        refine wp_hop R hd (s := bxI t v) (fun u w1 hr => .inl ?_) hK
        simp only [execOp, L.ev_ hx, conc]
        exact run_value hr
      · obtain ⟨v, hx, hn, hK⟩ := vval_some hA
        have R1 := R.newBox hn v.cells.toList t
        unfold Oper.wp
        have hr : (execOp a.eval ⟨some d, .box t x, ty, pos, aft, gd⟩).run P w = .ok (.value (.pointer (some ⟨w.heap.size, 0, none⟩))) { w with heap := w.heap.push (.cells v.cells t) } := by
          simp only [execOp, L.ev_ hx, conc]
          exact run_value (by simp [Instr.box, newVar, newRow])
        rw [hr]
        have := R1.put (some d) hd (.box d 0) (by intro k off e; cases e; exact ⟨v.cells.toList, by simp [lkb]⟩)
        exact ⟨.box d 0, (d, v.cells.toList) :: bx, h, _, by simpa [conc] using this, hE, hK⟩
  case alloc t =>
    split at hA
    · exact hA.elim
    · rename_i d
      split at hA
      · refine wp_hop R hd (s := alI t) (fun u w1 hr => .inl ?_) hA
        simp only [execOp]
        exact run_value hr
      · obtain ⟨z, hz, hn, hK⟩ := cval_some hA
        obtain ⟨zv, hzr, rfl⟩ := zeroC_some (w := w) hz
        have R1 := R.newBox hn zv.cells.toList t
        unfold Oper.wp
        have hr : (execOp a.eval ⟨some d, .alloc t, ty, pos, aft, gd⟩).run P w = .ok (.value (.pointer (some ⟨w.heap.size, 0, none⟩))) { w with heap := w.heap.push (.cells zv.cells t) } := by
          simp only [execOp]
          exact run_value (by simp [Instr.alloc, newVar, newRow, hzr])
        rw [hr]
        have := R1.put (some d) hd (.box d 0) (by intro k off e; cases e; exact ⟨zv.cells.toList, by simp [lkb]⟩)
        exact ⟨.box d 0, (d, zv.cells.toList) :: bx, h, _, by simpa [conc] using this, hE, hK⟩
  case store t x v =>
    obtain ⟨u, hu, hA⟩ := vval_some hA
    split at hA
    · rename_i k off hx
      obtain ⟨cs, hcs, hty, h1, hl, hK⟩ := cval_some hA
      obtain ⟨T, hT⟩ := R.boxes k cs hcs
      obtain ⟨w', e, e1, e2, e3, e4, e5, e6⟩ := storeCells_run (P := P) u.cells.toList (β k) off 0 cs.toArray T w hT (by simpa using hl) h1
      have hsz : (sizeOf t).run P w = .ok u.cells.size w := by
        cases ht : tyS P t with
        | none => simp [ht] at hty
        | some q =>
          obtain ⟨b, z⟩ := q
          simp [ht] at hty
          subst hty
          exact (tyS_some ht).2
      have hr : (execOp a.eval ⟨dst, .store t x v, ty, pos, aft, gd⟩).run P w = .ok .skip w' := by
        simp only [execOp, L.ev_ hx, L.ev_ hu, conc]
        simp [Instr.storeAt, Instr.sureAddr, storeVar, hsz, e]
      unfold Oper.wp
      rw [hr]
      have R1 := R.setBox (cs' := splice cs off u.cells.toList) hcs ⟨T, by simpa using e1⟩ e2 e3 ⟨e4, e5, e6⟩
      exact ⟨.val undef, _, h, β, R1.put dst hd (.val undef) (by intro k off e; cases e), hE, hK⟩
    · rename_i p hx
      refine wp_hop R hd (s := stI t p u) (fun v1 w1 hr => .inr ?_) hA
      simp only [execOp, L.ev_ hx, L.ev_ hu, conc]
      exact run_unit hr
    · exact hA.elim
  case load t x =>
    split at hA
    · rename_i p hx
      have pure : ∀ v, (Instr.loadAt t p).run P w = .ok v w → K (.val v) bx h → (⟨dst, .load t x, ty, pos, aft, gd⟩ : Oper).wp P a w (Nx h0 w0 n fr dst fun v bx h => ExtO m.hs h ∧ K v bx h) Q := fun v hr k => by
        refine wp_value R hd (v := .val v) ?_ (by intro k off e; cases e) ⟨hE, k⟩
        simp only [execOp, L.ev_ hx, conc]
        exact run_value hr
      split at hA
      · exact hA.elim
      · split at hA
        · unfold hstb at hA
          split at hA
          · rename_i hS hms
            obtain ⟨v, hr, k⟩ := hA
            rw [hms] at hE
            exact pure v (hr w ⟨fun b o hb => R.sim.vis b o (hE b o hb)⟩) k
          · exact hA.elim
        · obtain ⟨v, hr, k⟩ := hA
          exact pure v (hr w R.sim) k
    · split at hA
      · exact hA.elim
      · exact wl hd hA
  case convert s d x =>
    obtain ⟨v, hx, hA⟩ := vval_some hA
    split at hA
    · rename_i k i
      obtain ⟨u, hu, hK⟩ := vval_some hA
      obtain ⟨u', hu', e⟩ := mapv_some hu
      cases e
      unfold vconv at hu'
      split at hu'
      · rename_i ks kd ki n' hks hkd hv
        simp only [Option.some.injEq] at hu'
        subst hu'
        cases hv
        refine wp_value R hd (v := .val (.int kd (kd.wrap i))) ?_ (by intro k off e; cases e) ⟨hE, hK⟩
        simp only [execOp, L.ev_ hx, conc]
        refine run_value ?_
        simp [convert, run_ty (intT_ty hks), run_ty (intT_ty hkd), Conv.intToInt]
      · simp at hu'
    · refine wp_hop R hd (s := cvI s d v) (fun u w1 hr => .inl ?_) hA
      simp only [execOp, L.ev_ hx, conc]
      exact run_value hr
  case makeFunc fn first captured =>
    obtain ⟨f, hf, hA⟩ := cval_some hA
    obtain ⟨c, hc, hK⟩ := cval_some hA
    refine wp_value R hd (v := .val (.func fn f.toArray c.toArray)) ?_ (by intro k off e; cases e) ⟨hE, hK⟩
    simp only [execOp, args_eq L hf, args_eq L hc, conc]
    exact run_value rfl
  case buildSlice t k parts =>
    obtain ⟨vs, hvs, hA⟩ := cval_some hA
    refine wp_hop R hd (fun u w1 hr => .inl ?_) hA
    have hv' : vals ((parts.toList.map (·.2)).map (ev fr)) = some vs := by simpa [Function.comp_def] using hvs
    have hm := vals_map L _ _ hv'
    have he : (parts.map fun (i, x) => (i, a.eval x)) = ((parts.toList.map (·.1)).zip vs).toArray := by
      apply Array.ext'
      rw [← hm]
      simp [List.zip_map']
    simp only [execOp, he]
    exact run_value hr
  case makeSlice t l c =>
    obtain ⟨lv, hl, hA⟩ := vval_some hA
    obtain ⟨cv, hc, hA⟩ := vval_some hA
    refine wp_hop R hd (fun u w1 hr => .inl ?_) hA
    simp only [execOp, L.ev_ hl, L.ev_ hc, conc]
    exact run_value hr
  case makeMap t r =>
    cases r with
    | some r => simp [lop, aval] at hA
    | none =>
      refine wp_hop R hd (fun u w1 hr => .inl ?_) hA
      simp only [execOp, Option.map_none]
      exact run_value hr
  case lookup t x i ok =>
    obtain ⟨xv, hx, hA⟩ := vval_some hA
    obtain ⟨iv, hi, hA⟩ := vval_some hA
    refine wp_hop R hd (fun u w1 hr => .inl ?_) hA
    simp only [execOp, L.ev_ hx, L.ev_ hi, conc]
    exact run_value hr
  case mapUpdate t x i v =>
    obtain ⟨xv, hx, hA⟩ := vval_some hA
    obtain ⟨iv, hi, hA⟩ := vval_some hA
    obtain ⟨vv, hv, hA⟩ := vval_some hA
    refine wp_hop R hd (fun u w1 hr => .inr ?_) hA
    simp only [execOp, L.ev_ hx, L.ev_ hi, L.ev_ hv, conc]
    exact run_unit hr
  case call c =>
    obtain ⟨callee, args, argTypes⟩ := c
    simp only at hA
    split at hA
    · split at hA
      · rename_i x t hargs htys
        obtain ⟨args⟩ := args
        obtain ⟨argTypes⟩ := argTypes
        simp only at hargs htys
        subst hargs htys
        split at hA
        · obtain ⟨xv, hx, hA⟩ := vval_some hA
          refine wp_hop R hd (fun u w1 hr => .inl ?_) hA
          have hr : (Builtin.len_ #[t] ty #[xv]).run P w = .ok u w1 := hr
          simp only [execOp, resolve, invoke, builtin, Sem.run_bind, Sem.run_pure, Result.andThen_ok]
          simp only [List.map_toArray, List.map_cons, List.map_nil, L.ev_ hx, conc]
          simp [hr]
        · exact wl hd (by simpa [lop] using hA)
      · exact hA.elim
    · obtain ⟨vs, hvs, hA⟩ := cval_some hA
      refine wp_hop R hd (fun u w1 hr => .inl ?_) hA
      unfold apI at hr
      simp only [execOp, resolve, invoke, builtin, Sem.run_bind, Sem.run_pure, Result.andThen_ok, args_eq L hvs]
      simp [hr]
    · obtain ⟨vs, hvs, hA⟩ := cval_some hA
      refine wp_hop R hd (fun u w1 hr => .inl ?_) hA
      unfold cqI at hr
      simp only [execOp, resolve, invoke, builtin, Sem.run_bind, Sem.run_pure, Result.andThen_ok, args_eq L hvs]
      simp [hr]
    · obtain ⟨vs, hvs, hA⟩ := cval_some hA
      refine wp_hop R hd (fun u w1 hr => .inl ?_) hA
      unfold cpI at hr
      simp only [execOp, resolve, invoke, builtin, Sem.run_bind, Sem.run_pure, Result.andThen_ok, args_eq L hvs]
      simp [hr]
    · rename_i f
      obtain ⟨fv, hf, hA⟩ := vval_some hA
      split at hA
      · rename_i g first captured
        obtain ⟨vs, hvs, hC⟩ := cval_some hA
        rcases hC with ⟨hp, hC⟩ | hX
        case inr =>
          obtain ⟨v, hv, hK⟩ := hX w R.sim
          have hr : (execOp a.eval ⟨dst, .call ⟨.value f, args, argTypes⟩, ty, pos, aft, gd⟩).run P w = .ok (.value v) w := by
            simp only [execOp, resolve, L.ev_ hf, conc, Deferred.ofValue, args_eq L hvs, Sem.run_bind, Sem.run_pure, Result.andThen_ok, invoke, hv]
          unfold Oper.wp
          rw [hr]
          exact ⟨.val v, bx, h, β, R.put dst hd (.val v) (by intro k off e; cases e), hK⟩
        have hr : (execOp a.eval ⟨dst, .call ⟨.value f, args, argTypes⟩, ty, pos, aft, gd⟩).run P w = .ok (.enter g (first ++ vs.toArray ++ captured)) w := by
          simp only [execOp, resolve, L.ev_ hf, conc, Deferred.ofValue, args_eq L hvs, Sem.run_bind, Sem.run_pure, Result.andThen_ok, invoke, plainFn_run hp]
        unfold Oper.wp
        rw [hr]
        refine (hC w R.sim).mono fun e w1 ⟨v, h1, he, hs, hfm, hK⟩ => ?_
        subst he
        exact ⟨.val v, bx, h1, β, (R.step hs hfm).put dst hd (.val v) (by intro k off e; cases e), hK⟩
      · exact hA.elim
    · exact hA.elim
  all_goals exact wl hd hA
end
end Go.Sx
