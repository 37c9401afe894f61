/-
  The statement FnOperators is proved: for each argument the law returns true; nothing is assumed.
-/
import Derived.Test.YtconhonjkfpfmaaDoorFnOperatorsAllA
import Derived.Test.YtconhonjkfpfmaaDoorNum
import Derived.Test.YtconhonjkfpfmaaDoorSxOwn
import Derived.Test.YtconhonjkfpfmaaDoorRows
import Derived.Test.YtconhonjkfpfmaaDoorTie
import Derived.Test.YtconhonjkfpfmaaDoorCards
import Derived.ProofKit
import Derived.LaidMore
import Derived.OpenShut
import Derived.Stop.Joined
import Derived.SevenTiedAt
namespace Go.Proofs.YtconhonjkfpfmaaDoor
set_option maxRecDepth 8000
open Go Go.Sx
theorem big_c (l : List UInt8) (sl : Value) (h : Hp) (rd : RdS h 1 sl (bcells l)) : ACalls Tryd.prog 7 #[sl] h (Pu (.bool (decide (1048576 < l.length))) h) := by
  have hbl : (bcells l).length = l.length * 1 := by simp [bcells]
  obtain ⟨a, c, rfl, _⟩ := rd.slice l.length (by decide) hbl
  (refine enter Tryd.func7 rfl rfl (by kernel_rfl) [] ?_; simp only [go_sem, Nat.reduceBEq])
  exact ⟨by rw [show decide ((1048576 : Int) < (l.length : Nat)) = decide (1048576 < l.length) from decide_eq_decide.2 (by omega)], rfl⟩
end Go.Proofs.YtconhonjkfpfmaaDoor
namespace Go.Proofs.YtconhonjkfpfmaaDoor
set_option maxRecDepth 8000
open Go Go.Sx Go.ChangeShapes Go.WideShapes Go.ChangeAt Go.RowKit Go.ChangeMaps
theorem own : ownKnob Tryd.prog.godebug = none := by kernel_rfl
theorem laidOut : laidOutB Tryd.prog = true := by kernel_rfl
set_option maxHeartbeats 3200000 in
theorem FnOperators_law (l : List UInt8) (sl : Value) (h : Hp) (rd : RdS h 1 sl (bcells l)) (hE : Env h) : ACalls Tryd.prog 5 #[sl] h (Is (.bool true) h) := by
  have hbl : (bcells l).length = l.length * 1 := by simp [bcells]
  obtain ⟨a, c, rfl, _⟩ := rd.slice l.length (by decide) hbl
  (refine enter Tryd.func5 rfl rfl (by kernel_rfl) [] ?_; simp only [go_sem, Nat.reduceBEq])
  (refine (big_c l _ _ rd).mono ?_; rintro _ _ ⟨rfl, rfl⟩; simp only [go_sem, Nat.reduceBEq])
  by_cases hl : 1048576 < l.length
  · simp only [decide_eq_true hl, go_sem, Nat.reduceBEq]
    exact ⟨rfl, Ext.refl _⟩
  simp only [decide_eq_false hl, go_sem, Nat.reduceBEq]
  refine (drawArith_c (by omega) rd (My.nil (Ext.refl h))).mono ?_
  rintro _ h1 ⟨p, x, a, b, rfl, m1⟩
  have e1 := m1.my.ext
  clear m1
  obtain ⟨qa, qb⟩ := quot_rem a b
  have qs := sum_undo a b
  simp only [go_sem, Nat.reduceBEq]
  refine (iArith 4 a b _).mono ?_
  rintro _ h2 ⟨rfl, e2⟩
  have E2 := e1.trans e2
  simp only [go_sem, Nat.reduceBEq]
  refine (iArith 5 a b _).mono ?_
  rintro _ h3 ⟨rfl, e3⟩
  have E3 := E2.trans e3
  rw [qa]
  simp only [go_sem, Nat.reduceBEq]
  have i0 := i64_lo
  have i1 := i64_hi
  by_cases c5 : (arith 5 a b).2 = 0
  · obtain ⟨q1, q2⟩ := qb (by rw [qa]; exact c5)
    simp only [decide_eq_true c5, q1, decide_true, Bool.not_true, go_sem, Nat.reduceBEq]
    simp only [decide_eq_false (show ¬ IntKind.i64.wrap (b * b) ≤ IntKind.i64.wrap ((arith 5 a b).1 * (arith 5 a b).1) by omega), go_sem, Nat.reduceBEq]
    refine (iArith 1 a b _).mono ?_
    rintro _ h4 ⟨rfl, e4⟩
    have E4 := E3.trans e4
    simp only [go_sem, Nat.reduceBEq]
    refine (iArith 2 (arith 1 a b).1 b _).mono ?_
    rintro _ h5 ⟨rfl, e5⟩
    have E5 := E4.trans e5
    simp only [go_sem, Nat.reduceBEq]
    by_cases c1 : (arith 1 a b).2 = 0
    · have qd := qs c1
      have qd1 : (arith 2 (arith 1 a b).1 b).1 = a := by rw [qd]
      have qd2 : (arith 2 (arith 1 a b).1 b).2 = 0 := by rw [qd]
      simp only [decide_eq_true c1, qd1, qd2, decide_true, Bool.not_true, go_sem, Nat.reduceBEq]
      refine (drawBinary_c (by omega) (rd.mono E5) (My.nil (Ext.refl h5))).mono ?_
      rintro _ h6 ⟨p2, op, v, w, av, aw, cv, cw, rfl, o0, o1, okv, okw, hbv, hbw, m6⟩
      have E6 := E5.trans m6.my.ext
      have rv6 : RdE h6 v.items (.slice av v.items.length cv) := m6.my.rd2
      have rw6 : RdE h6 w.items (.slice aw w.items.length cw) := m6.my.rd
      clear m6
      simp only [go_sem, Nat.reduceBEq, Nat.reduceAdd, Nat.reduceLeDiff]
      refine (iBinary op (by omega) v w okv okw (by omega) (by omega) _ _ _ rv6 rw6 (hE.ext E6)).mono ?_
      rintro _ h7 ⟨a7, c7, rfl, m7⟩
      have e7 := m7.ext
      clear m7
      have E7 := E6.trans e7
      have rv7 := rv6.mono e7
      have rw7 := rw6.mono e7
      simp only [go_sem, Nat.reduceBEq, Nat.reduceAdd, Nat.reduceLeDiff]
      refine (iBinary 7 (by omega) v w okv okw (by omega) (by omega) _ _ _ rv7 rw7 (hE.ext E7)).mono ?_
      rintro _ h8 ⟨a8, c8, rfl, m8⟩
      have e8 := m8.ext
      clear m8
      have E8 := E7.trans e8
      have rv8 := rv7.mono e8
      have rw8 := rw7.mono e8
      simp only [go_sem, Nat.reduceBEq, Nat.reduceAdd, Nat.reduceLeDiff]
      refine (iBinary 8 (by omega) v w okv okw (by omega) (by omega) _ _ _ rv8 rw8 (hE.ext E8)).mono ?_
      rintro _ h9 ⟨a9, c9, rfl, m9⟩
      have e9 := m9.ext
      clear m9
      have E9 := E8.trans e9
      have hs := eq_ne v w
      have he := bin_err op v w
      simp only [go_sem, Nat.reduceBEq, Nat.reduceAdd, Nat.reduceLeDiff]
      by_cases c9 : (binOf op v w).2 = 0
      · simp only [decide_eq_true c9, hs, decide_true, go_sem, Nat.reduceBEq]
        exact ⟨rfl, E9⟩
      · obtain ⟨k0, kn⟩ : (binOf op v w).1.kind = 0 ∧ errName (binOf op v w).2 ≠ ⟨#[]⟩ := by
          rcases he with he | he
          · exact absurd he c9
          · exact he
        simp only [decide_eq_false c9, k0, decide_true, go_sem, Nat.reduceBEq]
        refine (iErrorName _ _).mono ?_
        rintro _ h10 ⟨rfl, e10⟩
        simp only [decide_eq_false kn, hs, decide_true, Bool.not_false, go_sem, Nat.reduceBEq]
        exact ⟨rfl, E9.trans e10⟩
    · simp only [decide_eq_false c1, go_sem, Nat.reduceBEq]
      refine (drawBinary_c (by omega) (rd.mono E5) (My.nil (Ext.refl h5))).mono ?_
      rintro _ h6 ⟨p2, op, v, w, av, aw, cv, cw, rfl, o0, o1, okv, okw, hbv, hbw, m6⟩
      have E6 := E5.trans m6.my.ext
      have rv6 : RdE h6 v.items (.slice av v.items.length cv) := m6.my.rd2
      have rw6 : RdE h6 w.items (.slice aw w.items.length cw) := m6.my.rd
      clear m6
      simp only [go_sem, Nat.reduceBEq, Nat.reduceAdd, Nat.reduceLeDiff]
      refine (iBinary op (by omega) v w okv okw (by omega) (by omega) _ _ _ rv6 rw6 (hE.ext E6)).mono ?_
      rintro _ h7 ⟨a7, c7, rfl, m7⟩
      have e7 := m7.ext
      clear m7
      have E7 := E6.trans e7
      have rv7 := rv6.mono e7
      have rw7 := rw6.mono e7
      simp only [go_sem, Nat.reduceBEq, Nat.reduceAdd, Nat.reduceLeDiff]
      refine (iBinary 7 (by omega) v w okv okw (by omega) (by omega) _ _ _ rv7 rw7 (hE.ext E7)).mono ?_
      rintro _ h8 ⟨a8, c8, rfl, m8⟩
      have e8 := m8.ext
      clear m8
      have E8 := E7.trans e8
      have rv8 := rv7.mono e8
      have rw8 := rw7.mono e8
      simp only [go_sem, Nat.reduceBEq, Nat.reduceAdd, Nat.reduceLeDiff]
      refine (iBinary 8 (by omega) v w okv okw (by omega) (by omega) _ _ _ rv8 rw8 (hE.ext E8)).mono ?_
      rintro _ h9 ⟨a9, c9, rfl, m9⟩
      have e9 := m9.ext
      clear m9
      have E9 := E8.trans e9
      have hs := eq_ne v w
      have he := bin_err op v w
      simp only [go_sem, Nat.reduceBEq, Nat.reduceAdd, Nat.reduceLeDiff]
      by_cases c9 : (binOf op v w).2 = 0
      · simp only [decide_eq_true c9, hs, decide_true, go_sem, Nat.reduceBEq]
        exact ⟨rfl, E9⟩
      · obtain ⟨k0, kn⟩ : (binOf op v w).1.kind = 0 ∧ errName (binOf op v w).2 ≠ ⟨#[]⟩ := by
          rcases he with he | he
          · exact absurd he c9
          · exact he
        simp only [decide_eq_false c9, k0, decide_true, go_sem, Nat.reduceBEq]
        refine (iErrorName _ _).mono ?_
        rintro _ h10 ⟨rfl, e10⟩
        simp only [decide_eq_false kn, hs, decide_true, Bool.not_false, go_sem, Nat.reduceBEq]
        exact ⟨rfl, E9.trans e10⟩
  · simp only [decide_eq_false c5, go_sem, Nat.reduceBEq]
    refine (iArith 1 a b _).mono ?_
    rintro _ h4 ⟨rfl, e4⟩
    have E4 := E3.trans e4
    simp only [go_sem, Nat.reduceBEq]
    refine (iArith 2 (arith 1 a b).1 b _).mono ?_
    rintro _ h5 ⟨rfl, e5⟩
    have E5 := E4.trans e5
    simp only [go_sem, Nat.reduceBEq]
    by_cases c1 : (arith 1 a b).2 = 0
    · have qd := qs c1
      have qd1 : (arith 2 (arith 1 a b).1 b).1 = a := by rw [qd]
      have qd2 : (arith 2 (arith 1 a b).1 b).2 = 0 := by rw [qd]
      simp only [decide_eq_true c1, qd1, qd2, decide_true, Bool.not_true, go_sem, Nat.reduceBEq]
      refine (drawBinary_c (by omega) (rd.mono E5) (My.nil (Ext.refl h5))).mono ?_
      rintro _ h6 ⟨p2, op, v, w, av, aw, cv, cw, rfl, o0, o1, okv, okw, hbv, hbw, m6⟩
      have E6 := E5.trans m6.my.ext
      have rv6 : RdE h6 v.items (.slice av v.items.length cv) := m6.my.rd2
      have rw6 : RdE h6 w.items (.slice aw w.items.length cw) := m6.my.rd
      clear m6
      simp only [go_sem, Nat.reduceBEq, Nat.reduceAdd, Nat.reduceLeDiff]
      refine (iBinary op (by omega) v w okv okw (by omega) (by omega) _ _ _ rv6 rw6 (hE.ext E6)).mono ?_
      rintro _ h7 ⟨a7, c7, rfl, m7⟩
      have e7 := m7.ext
      clear m7
      have E7 := E6.trans e7
      have rv7 := rv6.mono e7
      have rw7 := rw6.mono e7
      simp only [go_sem, Nat.reduceBEq, Nat.reduceAdd, Nat.reduceLeDiff]
      refine (iBinary 7 (by omega) v w okv okw (by omega) (by omega) _ _ _ rv7 rw7 (hE.ext E7)).mono ?_
      rintro _ h8 ⟨a8, c8, rfl, m8⟩
      have e8 := m8.ext
      clear m8
      have E8 := E7.trans e8
      have rv8 := rv7.mono e8
      have rw8 := rw7.mono e8
      simp only [go_sem, Nat.reduceBEq, Nat.reduceAdd, Nat.reduceLeDiff]
      refine (iBinary 8 (by omega) v w okv okw (by omega) (by omega) _ _ _ rv8 rw8 (hE.ext E8)).mono ?_
      rintro _ h9 ⟨a9, c9, rfl, m9⟩
      have e9 := m9.ext
      clear m9
      have E9 := E8.trans e9
      have hs := eq_ne v w
      have he := bin_err op v w
      simp only [go_sem, Nat.reduceBEq, Nat.reduceAdd, Nat.reduceLeDiff]
      by_cases c9 : (binOf op v w).2 = 0
      · simp only [decide_eq_true c9, hs, decide_true, go_sem, Nat.reduceBEq]
        exact ⟨rfl, E9⟩
      · obtain ⟨k0, kn⟩ : (binOf op v w).1.kind = 0 ∧ errName (binOf op v w).2 ≠ ⟨#[]⟩ := by
          rcases he with he | he
          · exact absurd he c9
          · exact he
        simp only [decide_eq_false c9, k0, decide_true, go_sem, Nat.reduceBEq]
        refine (iErrorName _ _).mono ?_
        rintro _ h10 ⟨rfl, e10⟩
        simp only [decide_eq_false kn, hs, decide_true, Bool.not_false, go_sem, Nat.reduceBEq]
        exact ⟨rfl, E9.trans e10⟩
    · simp only [decide_eq_false c1, go_sem, Nat.reduceBEq]
      refine (drawBinary_c (by omega) (rd.mono E5) (My.nil (Ext.refl h5))).mono ?_
      rintro _ h6 ⟨p2, op, v, w, av, aw, cv, cw, rfl, o0, o1, okv, okw, hbv, hbw, m6⟩
      have E6 := E5.trans m6.my.ext
      have rv6 : RdE h6 v.items (.slice av v.items.length cv) := m6.my.rd2
      have rw6 : RdE h6 w.items (.slice aw w.items.length cw) := m6.my.rd
      clear m6
      simp only [go_sem, Nat.reduceBEq, Nat.reduceAdd, Nat.reduceLeDiff]
      refine (iBinary op (by omega) v w okv okw (by omega) (by omega) _ _ _ rv6 rw6 (hE.ext E6)).mono ?_
      rintro _ h7 ⟨a7, c7, rfl, m7⟩
      have e7 := m7.ext
      clear m7
      have E7 := E6.trans e7
      have rv7 := rv6.mono e7
      have rw7 := rw6.mono e7
      simp only [go_sem, Nat.reduceBEq, Nat.reduceAdd, Nat.reduceLeDiff]
      refine (iBinary 7 (by omega) v w okv okw (by omega) (by omega) _ _ _ rv7 rw7 (hE.ext E7)).mono ?_
      rintro _ h8 ⟨a8, c8, rfl, m8⟩
      have e8 := m8.ext
      clear m8
      have E8 := E7.trans e8
      have rv8 := rv7.mono e8
      have rw8 := rw7.mono e8
      simp only [go_sem, Nat.reduceBEq, Nat.reduceAdd, Nat.reduceLeDiff]
      refine (iBinary 8 (by omega) v w okv okw (by omega) (by omega) _ _ _ rv8 rw8 (hE.ext E8)).mono ?_
      rintro _ h9 ⟨a9, c9, rfl, m9⟩
      have e9 := m9.ext
      clear m9
      have E9 := E8.trans e9
      have hs := eq_ne v w
      have he := bin_err op v w
      simp only [go_sem, Nat.reduceBEq, Nat.reduceAdd, Nat.reduceLeDiff]
      by_cases c9 : (binOf op v w).2 = 0
      · simp only [decide_eq_true c9, hs, decide_true, go_sem, Nat.reduceBEq]
        exact ⟨rfl, E9⟩
      · obtain ⟨k0, kn⟩ : (binOf op v w).1.kind = 0 ∧ errName (binOf op v w).2 ≠ ⟨#[]⟩ := by
          rcases he with he | he
          · exact absurd he c9
          · exact he
        simp only [decide_eq_false c9, k0, decide_true, go_sem, Nat.reduceBEq]
        refine (iErrorName _ _).mono ?_
        rintro _ h10 ⟨rfl, e10⟩
        simp only [decide_eq_false kn, hs, decide_true, Bool.not_false, go_sem, Nat.reduceBEq]
        exact ⟨rfl, E9.trans e10⟩
theorem FnOperators_met (os : Os) (args : Array Value) : laidMetH Tryd.prog Rows.fnOperatorsRow.laid ((World.doorLaid Tryd.prog 400 os).forCall (fun _ _ => 0) ⟨#[], args, []⟩).memory :=
  laidMetH_of_parts3 (fuel := 8) (laidMet_of_run' 8 (by kernel_rfl) (by kernel_rfl)) (by kernel_rfl) (by kernel_rfl)
set_option maxRecDepth 100000 in
theorem FnOperators_lifted (os : Os) (started : os.Started) (H : Type) (enc : TypeId × Value → H) :
    ReturnsInHanded {} Tryd.checked os 5 .any (fun w args => (Rows.fnOperatorsSpec.pre enc Tryd.prog Tryd.f5 Rows.fnOperatorsRow.domain false w args ∧ laidMetH Tryd.prog Rows.fnOperatorsRow.laid w) ∧ sizedMet enc Tryd.prog Tryd.f5 (OpenSpec.ofChange Rows.fnOperatorsSpec) false w args) (Rows.fnOperatorsSpec.post enc Tryd.prog Tryd.f5 false true false false) := by
  refine returnsInHanded_of_change_and (C := Tryd.checked) (X := fun w _ => laidMetH Tryd.prog Rows.fnOperatorsRow.laid w) (fun _ _ _ hh h => h.of_heap hh) own started (by kernel_rfl) Tryd.func5
    (ChangeSpec.witness_shaped (enc := enc) (C := Tryd.checked) (os := os) (X := fun w _ => laidMetH Tryd.prog Rows.fnOperatorsRow.laid w) false (World.doorLaid Tryd.prog 400 os) #[.slice none 0 0] 8 rfl (World.shaped_of_RefB (by kernel_rfl) (by kernel_rfl)) (by kernel_rfl) (by kernel_rfl) (by kernel_rfl) (FnOperators_met os _)) ?_
  intro W base args ds gs before hval0 hW _ _ hL _
  have hT : Pow (vis W) := pow_of (by kernel_rfl) (by rw [MakeChecks.laidMetH_plain _ _ _ (by kernel_rfl)] at hL; exact hL)
  have hE : Env (vis W) := env_of hT (by kernel_rfl) (by kernel_rfl) (by rw [MakeChecks.laidMetH_plain _ _ _ (by kernel_rfl)] at hL; exact hL)
  have hval : ∀ (j : Nat) t v, Tryd.f5.params[j]? = some t → args[j]? = some v → Value.okWide Tryd.prog W .any base t v := hval0
  have hW' := hW
  obtain ⟨p, q, hA0, hV, rfl, _, _⟩ := hW
  have hA : DataW.TrodAll enc Tryd.prog W 0 (fun _ => true) true Tryd.f5.params.toList args.toList ds p := hA0
  rw [Tryd.params5] at hA hval
  obtain ⟨v0, vs0, d0, ds0, p0, q0, hargs, rfl, rfl, h0, r0⟩ := trodAll_cons hA
  obtain ⟨rfl, rfl, rfl⟩ := trodAll_nil r0
  obtain rfl : args = #[v0] := by cases args; simp_all
  obtain ⟨rfl, rfl⟩ := trodVars_none hV
  obtain ⟨_, _, _, rfl⟩ := okWide_slice Tryd.underlying22 (hval 0 22 v0 rfl rfl)
  obtain ⟨a0, e0⟩ := openB h0 rfl
  clear hA0 hval0
  simp only [List.append_nil] at hW'
  exact (to_below (FnOperators_law a0 _ _ e0 hE)).mono fun e W' ⟨he, hb⟩ => ⟨_, he, law_post laidOut (by kernel_rfl) rfl Tryd.underlying4 rfl hW' rfl rfl rfl hb⟩
theorem FnOperators_proved : Rows.FnOperatorsSaid :=
  OpenClaim.holds_of_wide 5 Tryd.f5 rfl rfl rfl rfl rfl rfl rfl ⟨rfl, rfl, rfl, rfl, rfl⟩ rfl rfl rfl rfl rfl (by kernel_rfl) Tryd.func5 (by kernel_rfl)
    (of_decide_eq_true (by kernel_rfl)) (by unfold Func.isWrapper; first | (rw [if_pos (by decide +kernel)]; kernel_rfl) | (rw [if_neg (by decide +kernel)]; exact ⟨rfl, rfl⟩))
    (fun os started H enc _ => FnOperators_lifted os started H enc)
theorem FnOperators_card : Rows.FnOperatorsCardSaid :=
  Claim7.holds_tied_plain_at .later [] Rows.fnOperatorsCard.laidKinds true Rows.fnOperatorsCard.stood.harness Rows.fnOperatorsCard.stood.looks
    FnOperators_proved (fun _ h => by cases h) (by kernel_rfl) (fun _ h => by cases h) fnOperators_row_tie rfl ⟨rfl, rfl⟩ (by kernel_rfl) rfl
    (fun f fn hf hfn => by
      obtain rfl : f = 5 := Option.some.inj ((show Tryd.prog.funcNamed Rows.fnOperatorsRow.func = some 5 by kernel_rfl).symm.trans hf) |>.symm
      obtain rfl : fn = Tryd.f5 := (Option.some.inj (Tryd.func5.symm.trans hfn)).symm
      exact ⟨by kernel_rfl, fun j t ht => by
        rw [Tryd.params5] at ht
        have hm : t ∈ [22] := by simpa using Array.mem_of_getElem? ht
        have hall : ([22].all fun u => !Tryd.prog.wantsStandIn u) = true := by kernel_rfl
        exact (show Tryd.prog.wantsStandIn t = false by simpa using List.all_eq_true.1 hall t hm)⟩)
    (by kernel_rfl)
end Go.Proofs.YtconhonjkfpfmaaDoor
