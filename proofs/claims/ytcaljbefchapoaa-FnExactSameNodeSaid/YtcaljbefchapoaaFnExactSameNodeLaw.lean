/-
  The statement FnExactSameNode is proved: for each argument the law returns true; nothing is assumed.
-/
import Derived.Test.YtcaljbefchapoaaNodeFn
import Derived.Test.YtcaljbefchapoaaNodeEq
import Derived.Test.YtcaljbefchapoaaOpenN
namespace Go.Proofs.Ytcaljbefchapoaa
open Go Go.Sx Go.ChangeShapes Go.WideShapes Go.ChangeAt Go.RowKit Go.ChangeMaps
theorem own : ownKnob Try.prog.godebug = none := by kernel_rfl
theorem laidOut : laidOutB Try.prog = true := by kernel_rfl
theorem FnExactSameNode_law (v : Nd) (ok0 : v.ok) (s0 : Value) (u : Nd) (ok1 : u.ok) (s1 : Value) (h : Hp) (r0 : RdN h v.kids s0) (r1 : RdN h u.kids s1) : ACalls Try.prog 9 #[.agg #[.int .i64 v.kind, .int .i64 v.num, .string v.text, s0], .agg #[.int .i64 u.kind, .int .i64 u.num, .string u.text, s1]] h (Is (.bool true) h) := by
  obtain ⟨sa0, sc0, _, rfl, _⟩ := r0.rows (by decide) v.kids.length (fm_len Nd.dt_len _)
  obtain ⟨sa1, sc1, _, rfl, _⟩ := r1.rows (by decide) u.kids.length (fm_len Nd.dt_len _)
  (refine enter Try.func9 rfl rfl (by kernel_rfl) [] ?_; simp only [go_sem, Nat.reduceBEq, Nat.reduceAdd, Nat.reduceLeDiff])
  (refine (szNode_c v ok0 _ _ _ r0 (by decide) (by decide)).mono ?_; rintro _ _ ⟨rfl, rfl⟩; simp only [go_sem, Nat.reduceBEq])
  refine Br.intro (fun hb => ?_) (fun hb => ?_) <;> (try simp only [hb, go_sem, Nat.reduceBEq, Nat.reduceAdd, Nat.reduceLeDiff])
  · exact ⟨rfl, Ext.refl _⟩
  have f : 0 ≤ less 1048576 (v.bulk) := by simpa using hb
  (refine (szNode_c u ok1 _ _ _ r1 f (less_le (by decide))).mono ?_; rintro _ _ ⟨rfl, rfl⟩; simp only [go_sem, Nat.reduceBEq])
  rw [less_add f]
  refine Br.intro (fun hb => ?_) (fun hb => ?_) <;> (try simp only [hb, go_sem, Nat.reduceBEq])
  · exact ⟨rfl, Ext.refl _⟩
  have f : 0 ≤ less 1048576 ((v.bulk) + u.bulk) := by simpa using hb
  have f : ((v.bulk) + u.bulk) ≤ 1048576 := by unfold less at f; split at f <;> omega
  have hb0 : v.bulk ≤ 1048576 := by omega
  have hB0 := Nd.bulk_eq v
  have hb1 : u.bulk ≤ 1048576 := by omega
  have hB1 := Nd.bulk_eq u
  refine regionD_intro (lb := [20, 22]) (by kernel_rfl) ?_
  simp only [go_sem, Nat.reduceBEq, Nat.reduceAdd, Nat.reduceLeDiff]
  refine (toN_c v hb0 _ _ r0).mono ?_
  rintro _ h1 ⟨a1, c1, rfl, m1⟩
  have M1 := m1
  simp only [go_sem, Nat.reduceBEq, Nat.reduceAdd, Nat.reduceLeDiff]
  refine (toN_c u hb1 _ _ (r1.mono M1.ext)).mono ?_
  rintro _ h2 ⟨a2, c2, rfl, m2⟩
  have M2 := M1.add m2
  simp only [go_sem, Nat.reduceBEq]
  refine (sSameNode v u (by omega) (by omega) _ _ _ (M2.drop).rd M2.rd).mono ?_
  rintro _ _ ⟨rfl, b1, rfl, hq1⟩
  simp only [go_sem, Nat.reduceBEq, Nat.reduceAdd, Nat.reduceLeDiff]
  have M3 := M2.swap
  have M4 := M3.drop
  have M5 := M4.drop
  refine (toN_c v hb0 _ _ (r0.mono M5.ext)).mono ?_
  rintro _ h6 ⟨a6, c6, rfl, m6⟩
  have M6 := M5.add m6
  simp only [go_sem, Nat.reduceBEq, Nat.reduceAdd, Nat.reduceLeDiff]
  refine (toN_c u hb1 _ _ (r1.mono M6.ext)).mono ?_
  rintro _ h7 ⟨a7, c7, rfl, m7⟩
  have M7 := M6.add m7
  simp only [go_sem, Nat.reduceBEq, Nat.reduceAdd, Nat.reduceLeDiff]
  refine (iSameNode v u (by omega) (by omega) _ _ _ (M7.drop).rd M7.rd).mono ?_
  rintro _ _ ⟨rfl, b2, rfl, hq2⟩
  obtain rfl : b2 = b1 := Bool.eq_iff_iff.2 (hq2.trans hq1.symm)
  simp only [go_sem, Nat.reduceBEq]
  refine regionD_intro (lb := [35, 36]) (by kernel_rfl) ?_
  simp only [go_sem, Nat.reduceBEq, Nat.reduceAdd, Nat.reduceLeDiff]
  refine (toN_c v hb0 _ _ (r0.mono M7.ext)).mono ?_
  rintro _ h8 ⟨a8, c8, rfl, m8⟩
  have M8 := M7.add m8
  simp only [go_sem, Nat.reduceBEq]
  (refine (eqNode_c v (by omega) _ _ _ (M8.drop.drop).rd M8.rd).mono ?_; rintro _ _ ⟨rfl, rfl⟩; simp only [go_sem, Nat.reduceBEq])
  have M9 := M8.drop
  refine regionD_intro (lb := [40, 41]) (by kernel_rfl) ?_
  simp only [go_sem, Nat.reduceBEq, Nat.reduceAdd, Nat.reduceLeDiff]
  refine (toN_c u hb1 _ _ (r1.mono M9.ext)).mono ?_
  rintro _ h10 ⟨a10, c10, rfl, m10⟩
  have M10 := M9.add m10
  simp only [go_sem, Nat.reduceBEq]
  (refine (eqNode_c u (by omega) _ _ _ (M10.drop).rd M10.rd).mono ?_; rintro _ _ ⟨rfl, rfl⟩; simp only [go_sem, Nat.reduceBEq])
  have M11 := M10.drop
  exact ⟨rfl, M11.ext⟩
theorem FnExactSameNode_lifted (os : Os) (started : os.Started) (H : Type) (enc : TypeId × Value → H) :
    ReturnsInHanded {} Try.checked os 9 .any (Rows.fnExactSameNodeSpec.pre6 enc Try.prog Try.f9 Rows.fnExactSameNodeRow.domain false) (Rows.fnExactSameNodeSpec.post enc Try.prog Try.f9 false true false false) := by
  refine returnsInHanded_of_change (C := Try.checked) own started (by kernel_rfl) Try.func9
    (ChangeSpec.witness6 (enc := enc) (C := Try.checked) false ⟨#[], #[.agg #[.int .i64 0, .int .i64 0, .string ⟨#[]⟩, .slice none 0 0], .agg #[.int .i64 0, .int .i64 0, .string ⟨#[]⟩, .slice none 0 0]], []⟩ 8 (by kernel_rfl) (by kernel_rfl) (by kernel_rfl) (by kernel_rfl)) ?_
  intro W base args ds gs before hval0 hW _ _
  have hval : ∀ (j : Nat) t v, Try.f9.params[j]? = some t → args[j]? = some v → Value.okWide Try.prog W .any base t v := hval0
  have hW' := hW
  obtain ⟨p, q, hA0, hV, rfl, _, _⟩ := hW
  have hA : DataW.TrodAll enc Try.prog W 0 (fun _ => true) true Try.f9.params.toList args.toList ds p := hA0
  rw [Try.params9] at hA hval
  obtain ⟨v0, vs0, d0, ds0, p0, q0, hargs, rfl, rfl, h0, r0⟩ := trodAll_cons hA
  obtain ⟨v1, vs1, d1, ds1, p1, q1, rfl, rfl, rfl, h1, r1⟩ := trodAll_cons r0
  obtain ⟨rfl, rfl, rfl⟩ := trodAll_nil r1
  obtain rfl : args = #[v0, v1] := by cases args; simp_all
  obtain ⟨rfl, rfl⟩ := trodVars_none hV
  obtain ⟨a0, s0, rfl, w0, e0⟩ := openN (hval 0 30 v0 rfl rfl) h0
  obtain ⟨a1, s1, rfl, w1, e1⟩ := openN (hval 1 30 v1 rfl rfl) h1
  clear hA0 hval0
  simp only [List.append_nil] at hW'
  exact (to_below (FnExactSameNode_law a0 w0 s0 a1 w1 s1 _ e0 e1)).mono fun e W' ⟨he, hb⟩ => ⟨_, he, law_post laidOut (by kernel_rfl) rfl Try.underlying4 rfl hW' rfl rfl rfl hb⟩
theorem FnExactSameNode_proved : Rows.FnExactSameNodeSaid :=
  OpenClaim.holds_of_wide 9 Try.f9 rfl rfl rfl rfl rfl rfl rfl ⟨rfl, rfl, rfl, rfl, rfl⟩ rfl rfl rfl rfl rfl (by kernel_rfl) Try.func9 (by kernel_rfl)
    (of_decide_eq_true (by kernel_rfl)) (by unfold Func.isWrapper; first | (rw [if_pos (by decide +kernel)]; kernel_rfl) | (rw [if_neg (by decide +kernel)]; exact ⟨rfl, rfl⟩))
    (fun os started H enc _ => FnExactSameNode_lifted os started H enc)
end Go.Proofs.Ytcaljbefchapoaa
