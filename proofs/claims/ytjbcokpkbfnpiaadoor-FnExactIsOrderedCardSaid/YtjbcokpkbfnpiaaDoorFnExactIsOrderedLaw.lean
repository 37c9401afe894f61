/-
  The statement FnExactIsOrdered is proved: for each argument the law returns true; nothing is assumed.
-/
import Derived.Test.YtjbcokpkbfnpiaaDoorOrd
import Derived.Test.YtjbcokpkbfnpiaaDoorValSEq
import Derived.Test.YtjbcokpkbfnpiaaDoorSzValueS
import Derived.Test.YtjbcokpkbfnpiaaDoorOpenV
import Derived.Test.YtjbcokpkbfnpiaaDoorRows
import Derived.Test.YtjbcokpkbfnpiaaDoorTie
import Derived.Test.YtjbcokpkbfnpiaaDoorCards
import Derived.ProofKit
import Derived.LaidMore
import Derived.OpenShut
import Derived.Stop.Joined
import Derived.SevenTiedAt
namespace Go.Proofs.YtjbcokpkbfnpiaaDoor
set_option maxRecDepth 8000
open Go Go.Sx Go.ChangeShapes Go.WideShapes Go.ChangeAt Go.RowKit Go.ChangeMaps
theorem own : ownKnob Tryd.prog.godebug = none := by kernel_rfl
theorem laidOut : laidOutB Tryd.prog = true := by kernel_rfl
theorem FnExactIsOrdered_law (l : List V) (ok0 : ∀ k ∈ l, k.ok) (l0 : l.length ≤ maxLen) (s0 : Value) (h : Hp) (r0 : Rd h (.row 5 (l.flatMap V.dt)) s0) (hT : Pow h) : ACalls Tryd.prog 6 #[s0] h (Is (.bool true) h) := by
  obtain ⟨sa0, sc0, _, rfl, _⟩ := r0.rows (by decide) l.length (fm_len V.dt_len _)
  (refine enter Tryd.func6 rfl rfl (by kernel_rfl) [] ?_; simp only [go_sem, Nat.reduceBEq, Nat.reduceAdd, Nat.reduceLeDiff, Nat.reduceEqDiff, Int.reduceEq, not_false_eq_true, Int.reduceToNat])
  (refine (szValueS_c l ok0 l0 _ _ _ r0 (by decide) (by decide)).mono ?_; rintro _ _ ⟨rfl, rfl⟩; simp only [go_sem, Nat.reduceBEq, Nat.reduceAdd, Nat.reduceLeDiff, Nat.reduceEqDiff, Int.reduceEq, not_false_eq_true, Int.reduceToNat])
  refine Br.intro (fun hb => ?_) (fun hb => ?_) <;> (try simp only [hb, go_sem, Nat.reduceBEq, Nat.reduceAdd, Nat.reduceLeDiff, Nat.reduceEqDiff, Int.reduceEq, not_false_eq_true, Int.reduceToNat])
  · exact ⟨rfl, Ext.refl _⟩
  have f : 0 ≤ less 1048576 (szG V.bulk l) := by simpa using hb
  have f : (szG V.bulk l) ≤ 1048576 := by unfold less at f; split at f <;> omega
  have hb0 : szG V.bulk l ≤ 1048576 := by omega
  have hC0 := cntV_bulk l
  refine (toValueS_c l hb0 _ _ r0).mono ?_
  rintro _ h1 m1
  obtain ⟨a1, c1, rfl, _⟩ := m1.row_shape (by decide) l.length (fm_len V.dt_len _)
  have M1 := m1
  simp only [go_sem, Nat.reduceBEq, Nat.reduceAdd, Nat.reduceLeDiff, Nat.reduceEqDiff, Int.reduceEq, not_false_eq_true, Int.reduceToNat]
  refine (sOrdered l ok0 (by omega) _ _ M1.rd (hT.ext M1.ext)).mono ?_
  rintro _ h2 ⟨rfl, e2⟩
  have M2 := M1.mono e2
  simp only [go_sem, Nat.reduceBEq, Nat.reduceAdd, Nat.reduceLeDiff, Nat.reduceEqDiff, Int.reduceEq, not_false_eq_true, Int.reduceToNat]
  have M3 := M2.drop
  refine (toValueS_c l hb0 _ _ (r0.mono M3.ext)).mono ?_
  rintro _ h4 m4
  obtain ⟨a4, c4, rfl, _⟩ := m4.row_shape (by decide) l.length (fm_len V.dt_len _)
  have M4 := M3.add m4
  simp only [go_sem, Nat.reduceBEq, Nat.reduceAdd, Nat.reduceLeDiff, Nat.reduceEqDiff, Int.reduceEq, not_false_eq_true, Int.reduceToNat]
  refine (iOrdered l ok0 (by omega) _ _ M4.rd (hT.ext M4.ext)).mono ?_
  rintro _ h5 ⟨rfl, e5⟩
  have M5 := M4.mono e5
  simp only [go_sem, Nat.reduceBEq, Nat.reduceAdd, Nat.reduceLeDiff, Nat.reduceEqDiff, Int.reduceEq, not_false_eq_true, Int.reduceToNat]
  refine (toValueS_c l hb0 _ _ (r0.mono M5.ext)).mono ?_
  rintro _ h6 m6
  obtain ⟨a6, c6, rfl, _⟩ := m6.row_shape (by decide) l.length (fm_len V.dt_len _)
  have M6 := M5.add m6
  simp only [go_sem, Nat.reduceBEq, Nat.reduceAdd, Nat.reduceLeDiff, Nat.reduceEqDiff, Int.reduceEq, not_false_eq_true, Int.reduceToNat]
  (refine (eqValueS_c l (by omega) _ _ _ (M6.drop).rd M6.rd).mono ?_; rintro _ _ ⟨rfl, rfl⟩; simp only [go_sem, Nat.reduceBEq, Nat.reduceAdd, Nat.reduceLeDiff, Nat.reduceEqDiff, Int.reduceEq, not_false_eq_true, Int.reduceToNat])
  have M7 := M6.drop
  exact ⟨rfl, M7.ext⟩
theorem FnExactIsOrdered_met (os : Os) (args : Array Value) : laidMetH Tryd.prog Rows.fnExactIsOrderedRow.laid ((World.doorLaid Tryd.prog 400 os).forCall (fun _ _ => 0) ⟨#[], args, []⟩).memory :=
  laidMetH_of_parts3 (fuel := 8) (laidMet_of_run' 8 (by kernel_rfl) (by kernel_rfl)) (by kernel_rfl) (by kernel_rfl)
set_option maxRecDepth 100000 in
theorem FnExactIsOrdered_lifted (os : Os) (started : os.Started) (H : Type) (enc : TypeId × Value → H) :
    ReturnsInHanded {} Tryd.checked os 6 .any (fun w args => (Rows.fnExactIsOrderedSpec.pre enc Tryd.prog Tryd.f6 Rows.fnExactIsOrderedRow.domain false w args ∧ laidMetH Tryd.prog Rows.fnExactIsOrderedRow.laid w) ∧ sizedMet enc Tryd.prog Tryd.f6 (OpenSpec.ofChange Rows.fnExactIsOrderedSpec) false w args) (Rows.fnExactIsOrderedSpec.post enc Tryd.prog Tryd.f6 false true false false) := by
  refine returnsInHanded_of_change_and (C := Tryd.checked) (X := fun w _ => laidMetH Tryd.prog Rows.fnExactIsOrderedRow.laid w) (fun _ _ _ hh h => h.of_heap hh) own started (by kernel_rfl) Tryd.func6
    (ChangeSpec.witness_shaped (enc := enc) (C := Tryd.checked) (os := os) (X := fun w _ => laidMetH Tryd.prog Rows.fnExactIsOrderedRow.laid w) false (World.doorLaid Tryd.prog 400 os) #[.slice none 0 0] 8 rfl (World.shaped_of_RefB (by kernel_rfl) (by kernel_rfl)) (by kernel_rfl) (by kernel_rfl) (by kernel_rfl) (FnExactIsOrdered_met os _)) ?_
  intro W base args ds gs before hval0 hW _ _ hL _
  have hT : Pow (vis W) := pow_of (by kernel_rfl) (by rw [MakeChecks.laidMetH_plain _ _ _ (by kernel_rfl)] at hL; exact hL)
  have hval : ∀ (j : Nat) t v, Tryd.f6.params[j]? = some t → args[j]? = some v → Value.okWide Tryd.prog W .any base t v := hval0
  have hW' := hW
  obtain ⟨p, q, hA0, hV, rfl, _, _⟩ := hW
  have hA : DataW.TrodAll enc Tryd.prog W 0 (fun _ => true) true Tryd.f6.params.toList args.toList ds p := hA0
  rw [Tryd.params6] at hA hval
  obtain ⟨v0, vs0, d0, ds0, p0, q0, hargs, rfl, rfl, h0, r0⟩ := trodAll_cons hA
  obtain ⟨rfl, rfl, rfl⟩ := trodAll_nil r0
  obtain rfl : args = #[v0] := by cases args; simp_all
  obtain ⟨rfl, rfl⟩ := trodVars_none hV
  obtain ⟨_, _, _, rfl⟩ := okWide_slice Tryd.underlying36 (hval 0 36 v0 rfl rfl)
  obtain ⟨a0, w0, l0, e0⟩ := openValueS h0 rfl
  clear hA0 hval0
  simp only [List.append_nil] at hW'
  exact (to_below (FnExactIsOrdered_law a0 w0 l0 _ _ e0 hT)).mono fun e W' ⟨he, hb⟩ => ⟨_, he, law_post laidOut (by kernel_rfl) rfl Tryd.underlying4 rfl hW' rfl rfl rfl hb⟩
theorem FnExactIsOrdered_proved : Rows.FnExactIsOrderedSaid :=
  OpenClaim.holds_of_wide 6 Tryd.f6 rfl rfl rfl rfl rfl rfl rfl ⟨rfl, rfl, rfl, rfl, rfl⟩ rfl rfl rfl rfl rfl (by kernel_rfl) Tryd.func6 (by kernel_rfl)
    (of_decide_eq_true (by kernel_rfl)) (by unfold Func.isWrapper; first | (rw [if_pos (by decide +kernel)]; kernel_rfl) | (rw [if_neg (by decide +kernel)]; exact ⟨rfl, rfl⟩))
    (fun os started H enc _ => FnExactIsOrdered_lifted os started H enc)
theorem FnExactIsOrdered_card : Rows.FnExactIsOrderedCardSaid :=
  Claim7.holds_tied_plain_at .later [] Rows.fnExactIsOrderedCard.laidKinds true Rows.fnExactIsOrderedCard.stood.harness Rows.fnExactIsOrderedCard.stood.looks
    FnExactIsOrdered_proved (fun _ h => by cases h) (by kernel_rfl) (fun _ h => by cases h) fnExactIsOrdered_row_tie rfl ⟨rfl, rfl⟩ (by kernel_rfl) rfl
    (fun f fn hf hfn => by
      obtain rfl : f = 6 := Option.some.inj ((show Tryd.prog.funcNamed Rows.fnExactIsOrderedRow.func = some 6 by kernel_rfl).symm.trans hf) |>.symm
      obtain rfl : fn = Tryd.f6 := (Option.some.inj (Tryd.func6.symm.trans hfn)).symm
      exact ⟨by kernel_rfl, fun j t ht => by
        rw [Tryd.params6] at ht
        have hm : t ∈ [36] := by simpa using Array.mem_of_getElem? ht
        have hall : ([36].all fun u => !Tryd.prog.wantsStandIn u) = true := by kernel_rfl
        exact (show Tryd.prog.wantsStandIn t = false by simpa using List.all_eq_true.1 hall t hm)⟩)
    (by kernel_rfl)
end Go.Proofs.YtjbcokpkbfnpiaaDoor
