/-
  The statement FnExactTokenText is proved: for each argument the law returns true; nothing is assumed.
-/
import Derived.Test.YtcaljbefchapoaaDoorTok
import Derived.Test.YtcaljbefchapoaaDoorOpenTok
import Derived.Test.YtcaljbefchapoaaDoorRows
import Derived.Test.YtcaljbefchapoaaDoorTie
import Derived.Test.YtcaljbefchapoaaDoorCards
import Derived.ProofKit
import Derived.LaidMore
import Derived.OpenShut
import Derived.Stop.Joined
import Derived.SevenTiedAt
namespace Go.Proofs.YtcaljbefchapoaaDoor
set_option maxRecDepth 8000
open Go Go.Sx Go.ChangeShapes Go.WideShapes Go.ChangeAt Go.RowKit Go.ChangeMaps
theorem own : ownKnob Tryd.prog.godebug = none := by kernel_rfl
theorem laidOut : laidOutB Tryd.prog = true := by kernel_rfl
theorem FnExactTokenText_law (t : Tk) (ok : t.ok) (h : Hp) (hT : Pow h) : ACalls Tryd.prog 3 #[.agg #[.int .i64 t.kind, .int .i64 t.num, .string t.text, .int .i64 t.at_]] h (Is (.bool true) h) := by
  (refine enter Tryd.func3 rfl rfl (by kernel_rfl) [] ?_; simp only [go_sem, Nat.reduceBEq, Nat.reduceAdd, Nat.reduceLeDiff])
  (refine (szToken_c t ok _ (by decide) (by decide) _).mono ?_; rintro _ _ ⟨rfl, rfl⟩; simp only [go_sem, Nat.reduceBEq])
  refine Br.intro (fun hb => ?_) (fun hb => ?_) <;> (try simp only [hb, go_sem, Nat.reduceBEq, Nat.reduceAdd, Nat.reduceLeDiff])
  · exact ⟨rfl, Ext.refl _⟩
  have f : 0 ≤ less 1048576 t.text.size := by simpa using hb
  have f : t.text.size ≤ 1048576 := by unfold less at f; split at f <;> omega
  (refine (toToken_c t _).mono ?_; rintro _ _ ⟨rfl, rfl⟩; simp only [go_sem, Nat.reduceBEq])
  refine (sTokenText t ok f _ hT).mono ?_
  rintro _ h1 ⟨rfl, e1⟩
  simp only [go_sem, Nat.reduceBEq, Nat.reduceAdd, Nat.reduceLeDiff]
  (refine (toToken_c t _).mono ?_; rintro _ _ ⟨rfl, rfl⟩; simp only [go_sem, Nat.reduceBEq])
  refine (iTokenText t ok f _ (hT.ext e1)).mono ?_
  rintro _ h2 ⟨rfl, e2⟩
  simp only [go_sem, Nat.reduceBEq]
  exact ⟨rfl, e1.trans e2⟩
theorem FnExactTokenText_met (os : Os) (args : Array Value) : laidMetH Tryd.prog Rows.fnExactTokenTextRow.laid ((World.doorLaid Tryd.prog 400 os).forCall (fun _ _ => 0) ⟨#[], args, []⟩).memory :=
  laidMetH_of_parts3 (fuel := 8) (laidMet_of_run' 8 (by kernel_rfl) (by kernel_rfl)) (by kernel_rfl) (by kernel_rfl)
set_option maxRecDepth 100000 in
theorem FnExactTokenText_lifted (os : Os) (started : os.Started) (H : Type) (enc : TypeId × Value → H) :
    ReturnsInHanded {} Tryd.checked os 3 .any (fun w args => (Rows.fnExactTokenTextSpec.pre enc Tryd.prog Tryd.f3 Rows.fnExactTokenTextRow.domain false w args ∧ laidMetH Tryd.prog Rows.fnExactTokenTextRow.laid w) ∧ sizedMet enc Tryd.prog Tryd.f3 (OpenSpec.ofChange Rows.fnExactTokenTextSpec) false w args) (Rows.fnExactTokenTextSpec.post enc Tryd.prog Tryd.f3 false true false false) := by
  refine returnsInHanded_of_change_and (C := Tryd.checked) (X := fun w _ => laidMetH Tryd.prog Rows.fnExactTokenTextRow.laid w) (fun _ _ _ hh h => h.of_heap hh) own started (by kernel_rfl) Tryd.func3
    (ChangeSpec.witness_shaped (enc := enc) (C := Tryd.checked) (os := os) (X := fun w _ => laidMetH Tryd.prog Rows.fnExactTokenTextRow.laid w) false (World.doorLaid Tryd.prog 400 os) #[.agg #[.int .i64 0, .int .i64 0, .string ⟨#[]⟩, .int .i64 0]] 8 rfl (World.shaped_of_RefB (by kernel_rfl) (by kernel_rfl)) (by kernel_rfl) (by kernel_rfl) (by kernel_rfl) (FnExactTokenText_met os _)) ?_
  intro W base args ds gs before hval0 hW _ _ hL _
  have hT : Pow (vis W) := pow_of (by kernel_rfl) (by rw [MakeChecks.laidMetH_plain _ _ _ (by kernel_rfl)] at hL; exact hL)
  have hval : ∀ (j : Nat) t v, Tryd.f3.params[j]? = some t → args[j]? = some v → Value.okWide Tryd.prog W .any base t v := hval0
  have hW' := hW
  obtain ⟨p, q, hA0, hV, rfl, _, _⟩ := hW
  have hA : DataW.TrodAll enc Tryd.prog W 0 (fun _ => true) true Tryd.f3.params.toList args.toList ds p := hA0
  rw [Tryd.params3] at hA hval
  obtain ⟨v0, vs0, d0, ds0, p0, q0, hargs, rfl, rfl, h0, r0⟩ := trodAll_cons hA
  obtain ⟨rfl, rfl, rfl⟩ := trodAll_nil r0
  obtain rfl : args = #[v0] := by cases args; simp_all
  obtain ⟨rfl, rfl⟩ := trodVars_none hV
  obtain ⟨a0, rfl, w0⟩ := openTok (hval 0 23 v0 rfl rfl) h0
  clear hA0 hval0
  simp only [List.append_nil] at hW'
  exact (to_below (FnExactTokenText_law a0 w0 _  hT)).mono fun e W' ⟨he, hb⟩ => ⟨_, he, law_post laidOut (by kernel_rfl) rfl Tryd.underlying4 rfl hW' rfl rfl rfl hb⟩
theorem FnExactTokenText_proved : Rows.FnExactTokenTextSaid :=
  OpenClaim.holds_of_wide 3 Tryd.f3 rfl rfl rfl rfl rfl rfl rfl ⟨rfl, rfl, rfl, rfl, rfl⟩ rfl rfl rfl rfl rfl (by kernel_rfl) Tryd.func3 (by kernel_rfl)
    (of_decide_eq_true (by kernel_rfl)) (by unfold Func.isWrapper; first | (rw [if_pos (by decide +kernel)]; kernel_rfl) | (rw [if_neg (by decide +kernel)]; exact ⟨rfl, rfl⟩))
    (fun os started H enc _ => FnExactTokenText_lifted os started H enc)
theorem FnExactTokenText_card : Rows.FnExactTokenTextCardSaid :=
  Claim7.holds_tied_plain_at .later [] Rows.fnExactTokenTextCard.laidKinds true Rows.fnExactTokenTextCard.stood.harness Rows.fnExactTokenTextCard.stood.looks
    FnExactTokenText_proved (fun _ h => by cases h) (by kernel_rfl) (fun _ h => by cases h) fnExactTokenText_row_tie rfl ⟨rfl, rfl⟩ (by kernel_rfl) rfl
    (fun f fn hf hfn => by
      obtain rfl : f = 3 := Option.some.inj ((show Tryd.prog.funcNamed Rows.fnExactTokenTextRow.func = some 3 by kernel_rfl).symm.trans hf) |>.symm
      obtain rfl : fn = Tryd.f3 := (Option.some.inj (Tryd.func3.symm.trans hfn)).symm
      exact ⟨by kernel_rfl, fun j t ht => by
        rw [Tryd.params3] at ht
        have hm : t ∈ [23] := by simpa using Array.mem_of_getElem? ht
        have hall : ([23].all fun u => !Tryd.prog.wantsStandIn u) = true := by kernel_rfl
        exact (show Tryd.prog.wantsStandIn t = false by simpa using List.all_eq_true.1 hall t hm)⟩)
    (by kernel_rfl)
end Go.Proofs.YtcaljbefchapoaaDoor
