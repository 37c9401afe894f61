/-
  The statement FnExactArith is proved: for each argument the law returns true; nothing is assumed.
-/
import Derived.Test.YtcaljbefchapoaaArith
namespace Go.Proofs.Ytcaljbefchapoaa
open Go Go.Sx Go.ChangeShapes Go.WideShapes Go.ChangeAt Go.RowKit Go.ChangeMaps
theorem own : ownKnob Try.prog.godebug = none := by kernel_rfl
theorem laidOut : laidOutB Try.prog = true := by kernel_rfl
theorem FnExactArith_law (a : Int) (_ : IntKind.i64.min ≤ a ∧ a ≤ IntKind.i64.max) (b : Int) (_ : IntKind.i64.min ≤ b ∧ b ≤ IntKind.i64.max) (c : Int) (_ : IntKind.i64.min ≤ c ∧ c ≤ IntKind.i64.max) (h : Hp) : ACalls Try.prog 5 #[.int .i64 a, .int .i64 b, .int .i64 c] h (Is (.bool true) h) := by
  (refine enter Try.func5 rfl rfl (by kernel_rfl) [] ?_; simp only [go_sem, Nat.reduceBEq])
  refine (sArith a b c _).mono ?_
  rintro _ _ ⟨rfl, e1⟩
  simp only [go_sem, Nat.reduceBEq]
  refine (iArith a b c _).mono ?_
  rintro _ _ ⟨rfl, e2⟩
  simp only [go_sem, Nat.reduceBEq]
  exact ⟨rfl, e1.trans e2⟩
theorem FnExactArith_lifted (os : Os) (started : os.Started) (H : Type) (enc : TypeId × Value → H) :
    ReturnsInHanded {} Try.checked os 5 .any (Rows.fnExactArithSpec.pre6 enc Try.prog Try.f5 Rows.fnExactArithRow.domain false) (Rows.fnExactArithSpec.post enc Try.prog Try.f5 false true false false) := by
  refine returnsInHanded_of_change (C := Try.checked) own started (by kernel_rfl) Try.func5
    (ChangeSpec.witness6 (enc := enc) (C := Try.checked) false ⟨#[], #[.int .i64 0, .int .i64 0, .int .i64 0], []⟩ 8 (by kernel_rfl) (by kernel_rfl) (by kernel_rfl) (by kernel_rfl)) ?_
  intro W base args ds gs before hval0 hW _ _
  have hval : ∀ (j : Nat) t v, Try.f5.params[j]? = some t → args[j]? = some v → Value.okWide Try.prog W .any base t v := hval0
  have hW' := hW
  obtain ⟨p, q, hA0, hV, rfl, _, _⟩ := hW
  have hA : DataW.TrodAll enc Try.prog W 0 (fun _ => true) true Try.f5.params.toList args.toList ds p := hA0
  rw [Try.params5] at hA hval
  obtain ⟨v0, vs0, d0, ds0, p0, q0, hargs, rfl, rfl, h0, r0⟩ := trodAll_cons hA
  obtain ⟨v1, vs1, d1, ds1, p1, q1, rfl, rfl, rfl, h1, r1⟩ := trodAll_cons r0
  obtain ⟨v2, vs2, d2, ds2, p2, q2, rfl, rfl, rfl, h2, r2⟩ := trodAll_cons r1
  obtain ⟨rfl, rfl, rfl⟩ := trodAll_nil r2
  obtain rfl : args = #[v0, v1, v2] := by cases args; simp_all
  obtain ⟨rfl, rfl⟩ := trodVars_none hV
  obtain ⟨a0, rfl, rfl, rfl, w0⟩ := open_int Try.underlying3 (hval 0 3 v0 rfl rfl) h0
  obtain ⟨a1, rfl, rfl, rfl, w1⟩ := open_int Try.underlying3 (hval 1 3 v1 rfl rfl) h1
  obtain ⟨a2, rfl, rfl, rfl, w2⟩ := open_int Try.underlying3 (hval 2 3 v2 rfl rfl) h2
  clear hA0 hval0
  simp only [List.append_nil] at hW'
  exact (to_below (FnExactArith_law a0 (by simpa only [Lit.wf, Bool.and_eq_true, decide_eq_true_eq] using w0) a1 (by simpa only [Lit.wf, Bool.and_eq_true, decide_eq_true_eq] using w1) a2 (by simpa only [Lit.wf, Bool.and_eq_true, decide_eq_true_eq] using w2) _ )).mono fun e W' ⟨he, hb⟩ => ⟨_, he, law_post laidOut (by kernel_rfl) rfl Try.underlying4 rfl hW' rfl rfl rfl hb⟩
theorem FnExactArith_proved : Rows.FnExactArithSaid :=
  OpenClaim.holds_of_wide 5 Try.f5 rfl rfl rfl rfl rfl rfl rfl ⟨rfl, rfl, rfl, rfl, rfl⟩ rfl rfl rfl rfl rfl (by kernel_rfl) Try.func5 (by kernel_rfl)
    (of_decide_eq_true (by kernel_rfl)) (by unfold Func.isWrapper; first | (rw [if_pos (by decide +kernel)]; kernel_rfl) | (rw [if_neg (by decide +kernel)]; exact ⟨rfl, rfl⟩))
    (fun os started H enc _ => FnExactArith_lifted os started H enc)
end Go.Proofs.Ytcaljbefchapoaa
