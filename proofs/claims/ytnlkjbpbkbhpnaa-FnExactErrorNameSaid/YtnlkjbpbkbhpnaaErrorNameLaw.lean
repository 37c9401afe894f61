/-
  The statement FnExactErrorName is proved: for each argument the law returns true; nothing is assumed.
-/
import Derived.Test.YtnlkjbpbkbhpnaaErrs
namespace Go.Proofs.Ytnlkjbpbkbhpnaa
open Go Go.Sx Go.ChangeShapes Go.WideShapes Go.ChangeAt Go.RowKit Go.ChangeMaps
theorem own : ownKnob Try.prog.godebug = none := by kernel_rfl
theorem laidOut : laidOutB Try.prog = true := by kernel_rfl
theorem FnExactErrorName_law (a : Int) (_ : IntKind.i64.min ≤ a ∧ a ≤ IntKind.i64.max) (h : Hp) : ACalls Try.prog 8 #[.int .i64 a] h (Is (.bool true) h) := by
  refine enter Try.func8 rfl rfl (by kernel_rfl) [] ?_
  simp only [go_sem, Nat.reduceBEq]
  refine (sErrorName _ _).mono ?_
  rintro _ _ ⟨rfl, e1⟩
  simp only [go_sem, Nat.reduceBEq, decide_true, Bool.not_true]
  refine (iErrorName _ _).mono ?_
  rintro _ _ ⟨rfl, e2⟩
  simp only [go_sem, Nat.reduceBEq, decide_true, Bool.not_true]
  exact ⟨rfl, e1.trans e2⟩
theorem FnExactErrorName_lifted (os : Os) (started : os.Started) (H : Type) (enc : TypeId × Value → H) :
    ReturnsInHanded {} Try.checked os 8 .any (Rows.fnExactErrorNameSpec.pre6 enc Try.prog Try.f8 Rows.fnExactErrorNameRow.domain false) (Rows.fnExactErrorNameSpec.post enc Try.prog Try.f8 false true false false) := by
  refine returnsInHanded_of_change (C := Try.checked) own started (by kernel_rfl) Try.func8
    (ChangeSpec.witness6 (enc := enc) (C := Try.checked) false ⟨#[], #[.int .i64 0], []⟩ 8 (by kernel_rfl) (by kernel_rfl) (by kernel_rfl) (by kernel_rfl)) ?_
  intro W base args ds gs before hval0 hW _ _
  have hval : ∀ (j : Nat) t v, Try.f8.params[j]? = some t → args[j]? = some v → Value.okWide Try.prog W .any base t v := hval0
  have hW' := hW
  obtain ⟨p, q, hA0, hV, rfl, _, _⟩ := hW
  have hA : DataW.TrodAll enc Try.prog W 0 (fun _ => true) true Try.f8.params.toList args.toList ds p := hA0
  rw [Try.params8] at hA hval
  obtain ⟨v0, vs0, d0, ds0, p0, q0, hargs, rfl, rfl, h0, r0⟩ := trodAll_cons hA
  obtain ⟨rfl, rfl, rfl⟩ := trodAll_nil r0
  obtain rfl : args = #[v0] := by cases args; simp_all
  obtain ⟨rfl, rfl⟩ := trodVars_none hV
  obtain ⟨a0, rfl, rfl, rfl, w0⟩ := open_int Try.underlying3 (hval 0 3 v0 rfl rfl) h0
  clear hA0 hval0
  simp only [List.append_nil] at hW'
  exact (to_below (FnExactErrorName_law a0 (by simpa only [Lit.wf, Bool.and_eq_true, decide_eq_true_eq] using w0) _)).mono fun e W' ⟨he, hb⟩ => ⟨_, he, law_post laidOut (by kernel_rfl) rfl Try.underlying4 rfl hW' rfl rfl rfl hb⟩
theorem FnExactErrorName_proved : Rows.FnExactErrorNameSaid :=
  OpenClaim.holds_of_wide 8 Try.f8 rfl rfl rfl rfl rfl rfl rfl ⟨rfl, rfl, rfl, rfl, rfl⟩ rfl rfl rfl rfl rfl (by kernel_rfl) Try.func8 (by kernel_rfl)
    (of_decide_eq_true (by kernel_rfl)) (by unfold Func.isWrapper; first | (rw [if_pos (by decide +kernel)]; kernel_rfl) | (rw [if_neg (by decide +kernel)]; exact ⟨rfl, rfl⟩))
    (fun os started H enc _ => FnExactErrorName_lifted os started H enc)
end Go.Proofs.Ytnlkjbpbkbhpnaa
