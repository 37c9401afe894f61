/-
  The statement FnExactRelation is proved: for each argument the law returns true; nothing is assumed.
-/
import Derived.Test.YtcaljbefchapoaaRel
namespace Go.Proofs.Ytcaljbefchapoaa
open Go Go.Sx Go.ChangeShapes Go.WideShapes Go.ChangeAt Go.RowKit Go.ChangeMaps
theorem own : ownKnob Try.prog.godebug = none := by kernel_rfl
theorem laidOut : laidOutB Try.prog = true := by kernel_rfl
theorem FnExactRelation_law (a : Int) (_ : IntKind.i64.min ≤ a ∧ a ≤ IntKind.i64.max) (b : Int) (_ : IntKind.i64.min ≤ b ∧ b ≤ IntKind.i64.max) (h : Hp) : ACalls Try.prog 3 #[.int .i64 a, .int .i64 b] h (Is (.bool true) h) := by
  (refine enter Try.func3 rfl rfl (by kernel_rfl) [] ?_; simp only [go_sem, Nat.reduceBEq])
  refine (sRelation a b _).mono ?_
  rintro _ _ ⟨rfl, e1⟩
  simp only [go_sem, Nat.reduceBEq]
  refine (iRelation a b _).mono ?_
  rintro _ _ ⟨rfl, e2⟩
  simp only [go_sem, Nat.reduceBEq]
  exact ⟨rfl, e1.trans e2⟩
theorem FnExactRelation_lifted (os : Os) (started : os.Started) (H : Type) (enc : TypeId × Value → H) :
    ReturnsInHanded {} Try.checked os 3 .any (Rows.fnExactRelationSpec.pre6 enc Try.prog Try.f3 Rows.fnExactRelationRow.domain false) (Rows.fnExactRelationSpec.post enc Try.prog Try.f3 false true false false) := by
  refine returnsInHanded_of_change (C := Try.checked) own started (by kernel_rfl) Try.func3
    (ChangeSpec.witness6 (enc := enc) (C := Try.checked) false ⟨#[], #[.int .i64 0, .int .i64 0], []⟩ 8 (by kernel_rfl) (by kernel_rfl) (by kernel_rfl) (by kernel_rfl)) ?_
  intro W base args ds gs before hval0 hW _ _
  have hval : ∀ (j : Nat) t v, Try.f3.params[j]? = some t → args[j]? = some v → Value.okWide Try.prog W .any base t v := hval0
  have hW' := hW
  obtain ⟨p, q, hA0, hV, rfl, _, _⟩ := hW
  have hA : DataW.TrodAll enc Try.prog W 0 (fun _ => true) true Try.f3.params.toList args.toList ds p := hA0
  rw [Try.params3] at hA hval
  obtain ⟨v0, vs0, d0, ds0, p0, q0, hargs, rfl, rfl, h0, r0⟩ := trodAll_cons hA
  obtain ⟨v1, vs1, d1, ds1, p1, q1, rfl, rfl, rfl, h1, r1⟩ := trodAll_cons r0
  obtain ⟨rfl, rfl, rfl⟩ := trodAll_nil r1
  obtain rfl : args = #[v0, v1] := by cases args; simp_all
  obtain ⟨rfl, rfl⟩ := trodVars_none hV
  obtain ⟨a0, rfl, rfl, rfl, w0⟩ := open_int Try.underlying3 (hval 0 3 v0 rfl rfl) h0
  obtain ⟨a1, rfl, rfl, rfl, w1⟩ := open_int Try.underlying3 (hval 1 3 v1 rfl rfl) h1
  clear hA0 hval0
  simp only [List.append_nil] at hW'
  exact (to_below (FnExactRelation_law a0 (by simpa only [Lit.wf, Bool.and_eq_true, decide_eq_true_eq] using w0) a1 (by simpa only [Lit.wf, Bool.and_eq_true, decide_eq_true_eq] using w1) _ )).mono fun e W' ⟨he, hb⟩ => ⟨_, he, law_post laidOut (by kernel_rfl) rfl Try.underlying4 rfl hW' rfl rfl rfl hb⟩
theorem FnExactRelation_proved : Rows.FnExactRelationSaid :=
  OpenClaim.holds_of_wide 3 Try.f3 rfl rfl rfl rfl rfl rfl rfl ⟨rfl, rfl, rfl, rfl, rfl⟩ rfl rfl rfl rfl rfl (by kernel_rfl) Try.func3 (by kernel_rfl)
    (of_decide_eq_true (by kernel_rfl)) (by unfold Func.isWrapper; first | (rw [if_pos (by decide +kernel)]; kernel_rfl) | (rw [if_neg (by decide +kernel)]; exact ⟨rfl, rfl⟩))
    (fun os started H enc _ => FnExactRelation_lifted os started H enc)
end Go.Proofs.Ytcaljbefchapoaa
