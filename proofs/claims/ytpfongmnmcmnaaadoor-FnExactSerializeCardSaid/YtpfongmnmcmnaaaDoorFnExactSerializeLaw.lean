/-
  The statement FnExactSerialize is proved: for each argument the law returns true; nothing is assumed.
-/
import Derived.Test.YtpfongmnmcmnaaaDoorSerial
import Derived.Test.YtpfongmnmcmnaaaDoorValEq
import Derived.Test.YtpfongmnmcmnaaaDoorValSz
import Derived.Test.YtpfongmnmcmnaaaDoorOpenV
import Derived.Test.YtpfongmnmcmnaaaDoorRows
import Derived.Test.YtpfongmnmcmnaaaDoorTie
import Derived.Test.YtpfongmnmcmnaaaDoorCards
import Derived.ProofKit
import Derived.LaidMore
import Derived.OpenShut
import Derived.Stop.Joined
import Derived.SevenTiedAt
namespace Go.Proofs.YtpfongmnmcmnaaaDoor
set_option maxRecDepth 8000
open Go Go.Sx Go.ChangeShapes Go.WideShapes Go.ChangeAt Go.RowKit Go.ChangeMaps
theorem own : ownKnob Tryd.prog.godebug = none := by kernel_rfl
theorem laidOut : laidOutB Tryd.prog = true := by kernel_rfl
theorem FnExactSerialize_law (v : V) (ok0 : v.ok) (s0 : Value) (h : Hp) (r0 : RdE h v.items s0) (hE : Env h) : ACalls Tryd.prog 3 #[.agg #[.int .i64 v.kind, .int .i64 v.num, .string v.str, .int .i64 v.next, s0]] h (Is (.bool true) h) := by
  obtain ⟨sa0, sc0, _, rfl, _⟩ := r0.rows (by decide) v.items.length (fm_len edt_len _)
  (refine enter Tryd.func3 rfl rfl (by kernel_rfl) [] ?_; simp only [go_sem, Nat.reduceBEq, Nat.reduceAdd, Nat.reduceLeDiff])
  (refine (szValue_c v ok0 _ _ _ r0 (by decide) (by decide)).mono ?_; rintro _ _ ⟨rfl, rfl⟩; simp only [go_sem, Nat.reduceBEq])
  refine Br.intro (fun hb => ?_) (fun hb => ?_) <;> (try simp only [hb, go_sem, Nat.reduceBEq, Nat.reduceAdd, Nat.reduceLeDiff])
  · exact ⟨rfl, Ext.refl _⟩
  have f : 0 ≤ less 1048576 (v.bulk) := by simpa using hb
  have f : (v.bulk) ≤ 1048576 := by unfold less at f; split at f <;> omega
  have hb0 : v.bulk ≤ 1048576 := by omega
  have hB0 := V.bulk_eq v
  have hC0 := cntEs_bulk v.items
  refine (toV_c v hb0 _ _ r0).mono ?_
  rintro _ h1 ⟨a1, c1, rfl, m1⟩
  have M1 := m1
  simp only [go_sem, Nat.reduceBEq]
  refine (sSerialize v ok0 (by omega) _ _ M1.rd).mono ?_
  rintro _ h2 ⟨rfl, e2⟩
  have M2 := M1.mono e2
  simp only [go_sem, Nat.reduceBEq, Nat.reduceAdd, Nat.reduceLeDiff]
  have M3 := M2.drop
  refine (toV_c v hb0 _ _ (r0.mono M3.ext)).mono ?_
  rintro _ h4 ⟨a4, c4, rfl, m4⟩
  have M4 := M3.add m4
  simp only [go_sem, Nat.reduceBEq, Nat.reduceAdd, Nat.reduceLeDiff]
  refine (iSerialize v ok0 (by omega) _ _ M4.rd (hE.ext M4.ext)).mono ?_
  rintro _ h5 ⟨rfl, e5⟩
  have M5 := M4.mono e5
  simp only [go_sem, Nat.reduceBEq]
  refine regionD_intro (lb := [35, 36]) (by kernel_rfl) ?_
  simp only [go_sem, Nat.reduceBEq, Nat.reduceAdd, Nat.reduceLeDiff]
  refine (toV_c v hb0 _ _ (r0.mono M5.ext)).mono ?_
  rintro _ h6 ⟨a6, c6, rfl, m6⟩
  have M6 := M5.add m6
  simp only [go_sem, Nat.reduceBEq]
  (refine (eqValue_c v (by omega) _ _ _ (M6.drop).rd M6.rd).mono ?_; rintro _ _ ⟨rfl, rfl⟩; simp only [go_sem, Nat.reduceBEq])
  have M7 := M6.drop
  exact ⟨rfl, M7.ext⟩
theorem FnExactSerialize_met (os : Os) (args : Array Value) : laidMetH Tryd.prog Rows.fnExactSerializeRow.laid ((World.doorLaid Tryd.prog 400 os).forCall (fun _ _ => 0) ⟨#[], args, []⟩).memory :=
  laidMetH_of_parts3 (fuel := 8) (laidMet_of_run' 8 (by kernel_rfl) (by kernel_rfl)) (by kernel_rfl) (by kernel_rfl)
set_option maxRecDepth 100000 in
theorem FnExactSerialize_lifted (os : Os) (started : os.Started) (H : Type) (enc : TypeId × Value → H) :
    ReturnsInHanded {} Tryd.checked os 3 .any (fun w args => (Rows.fnExactSerializeSpec.pre enc Tryd.prog Tryd.f3 Rows.fnExactSerializeRow.domain false w args ∧ laidMetH Tryd.prog Rows.fnExactSerializeRow.laid w) ∧ sizedMet enc Tryd.prog Tryd.f3 (OpenSpec.ofChange Rows.fnExactSerializeSpec) false w args) (Rows.fnExactSerializeSpec.post enc Tryd.prog Tryd.f3 false true false false) := by
  refine returnsInHanded_of_change_and (C := Tryd.checked) (X := fun w _ => laidMetH Tryd.prog Rows.fnExactSerializeRow.laid w) (fun _ _ _ hh h => h.of_heap hh) own started (by kernel_rfl) Tryd.func3
    (ChangeSpec.witness_shaped (enc := enc) (C := Tryd.checked) (os := os) (X := fun w _ => laidMetH Tryd.prog Rows.fnExactSerializeRow.laid w) false (World.doorLaid Tryd.prog 400 os) #[.agg #[.int .i64 0, .int .i64 0, .string ⟨#[]⟩, .int .i64 0, .slice none 0 0]] 8 rfl (World.shaped_of_RefB (by kernel_rfl) (by kernel_rfl)) (by kernel_rfl) (by kernel_rfl) (by kernel_rfl) (FnExactSerialize_met os _)) ?_
  intro W base args ds gs before hval0 hW _ _ hL _
  have hT : Pow (vis W) := pow_of (by kernel_rfl) (by rw [MakeChecks.laidMetH_plain _ _ _ (by kernel_rfl)] at hL; exact hL)
  have hE : Env (vis W) := env_of hT (by kernel_rfl) (by kernel_rfl) (by rw [MakeChecks.laidMetH_plain _ _ _ (by kernel_rfl)] at hL; exact hL)
  have hval : ∀ (j : Nat) t v, Tryd.f3.params[j]? = some t → args[j]? = some v → Value.okWide Tryd.prog W .any base t v := hval0
  have hW' := hW
  obtain ⟨p, q, hA0, hV, rfl, _, _⟩ := hW
  have hA : DataW.TrodAll enc Tryd.prog W 0 (fun _ => true) true Tryd.f3.params.toList args.toList ds p := hA0
  rw [Tryd.params3] at hA hval
  obtain ⟨v0, vs0, d0, ds0, p0, q0, hargs, rfl, rfl, h0, r0⟩ := trodAll_cons hA
  obtain ⟨rfl, rfl, rfl⟩ := trodAll_nil r0
  obtain rfl : args = #[v0] := by cases args; simp_all
  obtain ⟨rfl, rfl⟩ := trodVars_none hV
  obtain ⟨a0, s0, rfl, w0, e0⟩ := openV (hval 0 24 v0 rfl rfl) h0
  clear hA0 hval0
  simp only [List.append_nil] at hW'
  exact (to_below (FnExactSerialize_law a0 w0 s0 _ e0 hE)).mono fun e W' ⟨he, hb⟩ => ⟨_, he, law_post laidOut (by kernel_rfl) rfl Tryd.underlying4 rfl hW' rfl rfl rfl hb⟩
theorem FnExactSerialize_proved : Rows.FnExactSerializeSaid :=
  OpenClaim.holds_of_wide 3 Tryd.f3 rfl rfl rfl rfl rfl rfl rfl ⟨rfl, rfl, rfl, rfl, rfl⟩ rfl rfl rfl rfl rfl (by kernel_rfl) Tryd.func3 (by kernel_rfl)
    (of_decide_eq_true (by kernel_rfl)) (by unfold Func.isWrapper; first | (rw [if_pos (by decide +kernel)]; kernel_rfl) | (rw [if_neg (by decide +kernel)]; exact ⟨rfl, rfl⟩))
    (fun os started H enc _ => FnExactSerialize_lifted os started H enc)
theorem FnExactSerialize_card : Rows.FnExactSerializeCardSaid :=
  Claim7.holds_tied_plain_at .later [] Rows.fnExactSerializeCard.laidKinds true Rows.fnExactSerializeCard.stood.harness Rows.fnExactSerializeCard.stood.looks
    FnExactSerialize_proved (fun _ h => by cases h) (by kernel_rfl) (fun _ h => by cases h) fnExactSerialize_row_tie rfl ⟨rfl, rfl⟩ (by kernel_rfl) rfl
    (fun f fn hf hfn => by
      obtain rfl : f = 3 := Option.some.inj ((show Tryd.prog.funcNamed Rows.fnExactSerializeRow.func = some 3 by kernel_rfl).symm.trans hf) |>.symm
      obtain rfl : fn = Tryd.f3 := (Option.some.inj (Tryd.func3.symm.trans hfn)).symm
      exact ⟨by kernel_rfl, fun j t ht => by
        rw [Tryd.params3] at ht
        have hm : t ∈ [24] := by simpa using Array.mem_of_getElem? ht
        have hall : ([24].all fun u => !Tryd.prog.wantsStandIn u) = true := by kernel_rfl
        exact (show Tryd.prog.wantsStandIn t = false by simpa using List.all_eq_true.1 hall t hm)⟩)
    (by kernel_rfl)
end Go.Proofs.YtpfongmnmcmnaaaDoor
