/-
  The statement FnExactToNumber is proved: for each argument the law returns true; nothing is assumed.
-/
import Derived.Test.YtjbcokpkbfnpiaaToV
import Derived.Test.YtjbcokpkbfnpiaaValEq
import Derived.Test.YtjbcokpkbfnpiaaValSz
import Derived.Test.YtjbcokpkbfnpiaaOpenV
namespace Go.Proofs.Ytjbcokpkbfnpiaa
open Go Go.Sx Go.ChangeShapes Go.WideShapes Go.ChangeAt Go.RowKit Go.ChangeMaps
theorem own : ownKnob Try.prog.godebug = none := by kernel_rfl
theorem laidOut : laidOutB Try.prog = true := by kernel_rfl
theorem FnExactToNumber_law (v : V) (ok : v.ok) (sl : Value) (h : Hp) (rd : RdE h v.items sl) : ACalls Try.prog 5 #[.agg #[.int .i64 v.kind, .int .i64 v.num, .string v.str, .int .i64 v.next, sl]] h (Is (.bool true) h) := by
  (refine enter Try.func5 rfl rfl (by kernel_rfl) [] ?_; simp only [go_sem, Nat.reduceBEq, Nat.reduceAdd, Nat.reduceLeDiff])
  (refine (szValue_c v ok sl _ _ rd (by decide) (by decide)).mono ?_; rintro _ _ ⟨rfl, rfl⟩; simp only [go_sem, Nat.reduceBEq])
  refine Br.intro (fun hb => ?_) (fun hb => ?_) <;> (try simp only [hb, go_sem, Nat.reduceBEq, Nat.reduceAdd, Nat.reduceLeDiff])
  · exact ⟨rfl, Ext.refl _⟩
  have hb : v.bulk ≤ 1048576 := by have := of_decide_eq_false hb; unfold less at this; split at this <;> omega
  have hs : v.str.size ≤ 1152921504606846976 := by have := V.bulk_eq v; omega
  refine (toV_c v hb _ _ rd).mono ?_
  rintro _ h1 ⟨a1, c1, rfl, m1⟩
  simp only [go_sem, Nat.reduceBEq]
  have rd1 := rd.mono m1.ext
  (refine (sToNumber v hs _ _ m1.rd).mono ?_; rintro _ _ ⟨rfl, rfl⟩; simp only [go_sem, Nat.reduceBEq, Nat.reduceAdd, Nat.reduceLeDiff])
  refine (toV_c v hb _ _ rd1).mono ?_
  rintro _ h2 ⟨a2, c2, rfl, m2⟩
  simp only [go_sem, Nat.reduceBEq, Nat.reduceAdd, Nat.reduceLeDiff]
  have rd2 := rd1.mono m2.ext
  (refine (iToNumber v hs _ _ m2.rd).mono ?_; rintro _ _ ⟨rfl, rfl⟩; simp only [go_sem, Nat.reduceBEq])
  refine regionD_intro (lb := [35, 36]) (by kernel_rfl) ?_
  simp only [go_sem, Nat.reduceBEq, Nat.reduceAdd, Nat.reduceLeDiff]
  refine (toV_c v hb _ _ rd2).mono ?_
  rintro _ h3 ⟨a3, c3, rfl, m3⟩
  simp only [go_sem, Nat.reduceBEq]
  (refine (eqValue_c v (by have := V.bulk_eq v; omega) _ _ _ (m2.rd.mono m3.ext) m3.rd).mono ?_; rintro _ _ ⟨rfl, rfl⟩; simp only [go_sem, Nat.reduceBEq])
  exact ⟨rfl, (m1.ext.trans m2.ext).trans m3.ext⟩
theorem FnExactToNumber_lifted (os : Os) (started : os.Started) (H : Type) (enc : TypeId × Value → H) :
    ReturnsInHanded {} Try.checked os 5 .any (Rows.fnExactToNumberSpec.pre6 enc Try.prog Try.f5 Rows.fnExactToNumberRow.domain false) (Rows.fnExactToNumberSpec.post enc Try.prog Try.f5 false true false false) := by
  refine returnsInHanded_of_change (C := Try.checked) own started (by kernel_rfl) Try.func5
    (ChangeSpec.witness6 (enc := enc) (C := Try.checked) false ⟨#[], #[.agg #[.int .i64 0, .int .i64 0, .string ⟨#[]⟩, .int .i64 0, .slice none 0 0]], []⟩ 8 (by kernel_rfl) (by kernel_rfl) (by kernel_rfl) (by kernel_rfl)) ?_
  intro W base args ds gs before hval0 hW _ _
  have hval : ∀ (j : Nat) t v, Try.f5.params[j]? = some t → args[j]? = some v → Value.okWide Try.prog W .any base t v := hval0
  have hW' := hW
  obtain ⟨p, q, hA0, hV, rfl, _, _⟩ := hW
  have hA : DataW.TrodAll enc Try.prog W 0 (fun _ => true) true Try.f5.params.toList args.toList ds p := hA0
  rw [Try.params5] at hA hval
  obtain ⟨v0, vs0, d0, ds0, p0, q0, hargs, rfl, rfl, h0, r0⟩ := trodAll_cons hA
  obtain ⟨rfl, rfl, rfl⟩ := trodAll_nil r0
  obtain rfl : args = #[v0] := by cases args; simp_all
  obtain ⟨rfl, rfl⟩ := trodVars_none hV
  obtain ⟨a0, s0, rfl, w0, e0⟩ := openV (hval 0 24 v0 rfl rfl) h0
  clear hA0 hval0
  simp only [List.append_nil] at hW'
  exact (to_below (FnExactToNumber_law a0 w0 s0 _ e0)).mono fun e W' ⟨he, hb⟩ => ⟨_, he, law_post laidOut (by kernel_rfl) rfl Try.underlying4 rfl hW' rfl rfl rfl hb⟩
theorem FnExactToNumber_proved : Rows.FnExactToNumberSaid :=
  OpenClaim.holds_of_wide 5 Try.f5 rfl rfl rfl rfl rfl rfl rfl ⟨rfl, rfl, rfl, rfl, rfl⟩ rfl rfl rfl rfl rfl (by kernel_rfl) Try.func5 (by kernel_rfl)
    (of_decide_eq_true (by kernel_rfl)) (by unfold Func.isWrapper; first | (rw [if_pos (by decide +kernel)]; kernel_rfl) | (rw [if_neg (by decide +kernel)]; exact ⟨rfl, rfl⟩))
    (fun os started H enc _ => FnExactToNumber_lifted os started H enc)
end Go.Proofs.Ytjbcokpkbfnpiaa
