/-
  The statement FnExactIsScript is proved: for each argument the law returns true; nothing is assumed.
-/
import Derived.Test.YtamjpcmcpcdggaaTreeX
import Derived.Test.YtamjpcmcpcdggaaNodeEq
import Derived.Test.YtamjpcmcpcdggaaOpenN
import Derived.HandedShaped
namespace Go.Proofs.Ytamjpcmcpcdggaa
set_option maxRecDepth 8000
open Go Go.Sx Go.ChangeShapes Go.WideShapes Go.ChangeAt Go.RowKit Go.ChangeMaps
theorem own : ownKnob Try.prog.godebug = none := by kernel_rfl
theorem laidOut : laidOutB Try.prog = true := by kernel_rfl
theorem FnExactIsScript_law (v : Nd) (ok0 : v.ok) (s0 : Value) (h : Hp) (r0 : RdN h v.kids s0) (hM : Mx h) : ACalls Try.prog 5 #[.agg #[.int .i64 v.kind, .int .i64 v.num, .string v.text, s0]] h (Is (.bool true) h) := by
  obtain ⟨sa0, sc0, _, rfl, _⟩ := r0.rows (by decide) v.kids.length (fm_len Nd.dt_len _)
  (refine enter Try.func5 rfl rfl (by kernel_rfl) [] ?_; simp only [go_sem, Nat.reduceBEq, Nat.reduceAdd, Nat.reduceLeDiff])
  (refine (szNode_c v ok0 _ _ _ r0 (by decide) (by decide)).mono ?_; rintro _ _ ⟨rfl, rfl⟩; simp only [go_sem, Nat.reduceBEq])
  refine Br.intro (fun hb => ?_) (fun hb => ?_) <;> (try simp only [hb, go_sem, Nat.reduceBEq, Nat.reduceAdd, Nat.reduceLeDiff])
  · exact ⟨rfl, Ext.refl _⟩
  have f : 0 ≤ less 1048576 (v.bulk) := by simpa using hb
  have f : (v.bulk) ≤ 1048576 := by unfold less at f; split at f <;> omega
  have hb0 : v.bulk ≤ 1048576 := by omega
  have hB0 := Nd.bulk_eq v
  refine (toN_c v hb0 _ _ r0).mono ?_
  rintro _ h1 ⟨a1, c1, rfl, m1⟩
  have M1 := m1
  simp only [go_sem, Nat.reduceBEq]
  refine (sIsScript v (by omega) _ _ M1.rd).mono ?_
  rintro _ h2 ⟨rfl, e2⟩
  have M2 := M1.mono e2
  simp only [go_sem, Nat.reduceBEq, Nat.reduceAdd, Nat.reduceLeDiff]
  have M3 := M2.drop
  refine (toN_c v hb0 _ _ (r0.mono M3.ext)).mono ?_
  rintro _ h4 ⟨a4, c4, rfl, m4⟩
  have M4 := M3.add m4
  simp only [go_sem, Nat.reduceBEq, Nat.reduceAdd, Nat.reduceLeDiff]
  refine (iIsScript v (by omega) _ _ M4.rd (hM.ext M4.ext)).mono ?_
  rintro _ h5 ⟨rfl, e5⟩
  have M5 := M4.mono e5
  simp only [go_sem, Nat.reduceBEq]
  refine regionD_intro (lb := [22, 23]) (by kernel_rfl) ?_
  simp only [go_sem, Nat.reduceBEq, Nat.reduceAdd, Nat.reduceLeDiff]
  refine (toN_c v hb0 _ _ (r0.mono M5.ext)).mono ?_
  rintro _ h6 ⟨a6, c6, rfl, m6⟩
  have M6 := M5.add m6
  simp only [go_sem, Nat.reduceBEq]
  (refine (eqNode_c v (by omega) _ _ _ (M6.drop).rd M6.rd).mono ?_; rintro _ _ ⟨rfl, rfl⟩; simp only [go_sem, Nat.reduceBEq])
  have M7 := M6.drop
  exact ⟨rfl, M7.ext⟩
theorem FnExactIsScript_lifted (os : Os) (started : os.Started) (H : Type) (enc : TypeId × Value → H) :
    ReturnsInHanded {} Try.checked os 5 .any (Rows.fnExactIsScriptSpec.pre6 enc Try.prog Try.f5 Rows.fnExactIsScriptRow.domain false) (Rows.fnExactIsScriptSpec.post enc Try.prog Try.f5 false true false false) := by
  refine returnsInHanded_of_change_shaped (C := Try.checked) own started (by kernel_rfl) Try.func5
    (ChangeSpec.witness6 (enc := enc) (C := Try.checked) false ⟨#[], #[.agg #[.int .i64 0, .int .i64 0, .string ⟨#[]⟩, .slice none 0 0]], []⟩ 8 (by kernel_rfl) (by kernel_rfl) (by kernel_rfl) (by kernel_rfl)) ?_
  intro W base args ds gs before hval0 hW _ _ hsh _
  have hM : Mx (vis W) := mx_of hsh
  have hval : ∀ (j : Nat) t v, Try.f5.params[j]? = some t → args[j]? = some v → Value.okWide Try.prog W .any base t v := hval0
  have hW' := hW
  obtain ⟨p, q, hA0, hV, rfl, _, _⟩ := hW
  have hA : DataW.TrodAll enc Try.prog W 0 (fun _ => true) true Try.f5.params.toList args.toList ds p := hA0
  rw [Try.params5] at hA hval
  obtain ⟨v0, vs0, d0, ds0, p0, q0, hargs, rfl, rfl, h0, r0⟩ := trodAll_cons hA
  obtain ⟨rfl, rfl, rfl⟩ := trodAll_nil r0
  obtain rfl : args = #[v0] := by cases args; simp_all
  obtain ⟨rfl, rfl⟩ := trodVars_none hV
  obtain ⟨a0, s0, rfl, w0, e0⟩ := openN (hval 0 24 v0 rfl rfl) h0
  clear hA0 hval0
  simp only [List.append_nil] at hW'
  exact (to_below (FnExactIsScript_law a0 w0 s0 _ e0 hM)).mono fun e W' ⟨he, hb⟩ => ⟨_, he, law_post laidOut (by kernel_rfl) rfl Try.underlying4 rfl hW' rfl rfl rfl hb⟩
theorem FnExactIsScript_proved : Rows.FnExactIsScriptSaid :=
  OpenClaim.holds_of_wide 5 Try.f5 rfl rfl rfl rfl rfl rfl rfl ⟨rfl, rfl, rfl, rfl, rfl⟩ rfl rfl rfl rfl rfl (by kernel_rfl) Try.func5 (by kernel_rfl)
    (of_decide_eq_true (by kernel_rfl)) (by unfold Func.isWrapper; first | (rw [if_pos (by decide +kernel)]; kernel_rfl) | (rw [if_neg (by decide +kernel)]; exact ⟨rfl, rfl⟩))
    (fun os started H enc _ => FnExactIsScript_lifted os started H enc)
end Go.Proofs.Ytamjpcmcpcdggaa
