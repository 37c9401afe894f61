/-
  The statement FnExactTableValue is proved: for each argument the law returns true; nothing is assumed.
-/
import Derived.Test.YtpelbeoapmbloaaTabV
import Derived.Test.YtpelbeoapmbloaaTabL
import Derived.Test.YtpelbeoapmbloaaOpenT
import Derived.Test.YtpelbeoapmbloaaRowEntryS
namespace Go.Proofs.Ytpelbeoapmbloaa
set_option maxRecDepth 8000
open Go Go.Sx Go.ChangeShapes Go.WideShapes Go.ChangeAt Go.RowKit Go.ChangeMaps
theorem own : ownKnob Try.prog.godebug = none := by kernel_rfl
theorem laidOut : laidOutB Try.prog = true := by kernel_rfl
theorem FnExactTableValue_law (t : Tb) (ok0 : t.ok) (s0 u0 : Value) (h : Hp) (r0 : RdI h t.heads s0) (q0 : RdT h t.slots u0) : ACalls Try.prog 3 #[.agg #[.bool t.hashed, s0, u0, .int .i64 t.next, .int .i64 t.count]] h (Is (.bool true) h) := by
  obtain ⟨sa0, sc0, _, rfl, _⟩ := r0.rows (by decide) t.heads.length (fm_len idt_len _)
  obtain ⟨ua0, uc0, _, rfl, _⟩ := q0.rows (by decide) t.slots.length (fm_len Sl.dt_len _)
  (refine enter Try.func3 rfl rfl (by kernel_rfl) [] ?_; simp only [go_sem, Nat.reduceBEq, Nat.reduceAdd, Nat.reduceLeDiff])
  (refine (szTable_c t ok0 _ _ _ _ r0 q0 (by decide) (by decide)).mono ?_; rintro _ _ ⟨rfl, rfl⟩; simp only [go_sem, Nat.reduceBEq])
  refine Br.intro (fun hb => ?_) (fun hb => ?_) <;> (try simp only [hb, go_sem, Nat.reduceBEq, Nat.reduceAdd, Nat.reduceLeDiff])
  · exact ⟨rfl, Ext.refl _⟩
  have f : 0 ≤ less 1048576 (t.bulk) := by simpa using hb
  have f : (t.bulk) ≤ 1048576 := by unfold less at f; split at f <;> omega
  have hb0 : t.bulk ≤ 1048576 := by omega
  have hC0 := cntT_bulk t
  have hW := t.value_bulk
  have hR0 := cntEs_bulk t.value.items
  refine (toTable_c t hb0 _ _ _ r0 q0).mono ?_
  rintro _ h1 ⟨a1, c1, a1', c1', rfl, m1⟩
  have M1 := m1
  simp only [go_sem, Nat.reduceBEq]
  refine (sTableValue t (by omega) _ _ _ M1.rd (M1.drop).rd).mono ?_
  rintro _ h2 ⟨a2_0, c2_0,  rfl, m2⟩
  have M2 := M1.add m2
  simp only [go_sem, Nat.reduceBEq, Nat.reduceAdd, Nat.reduceLeDiff]
  have M3 := M2.third
  have M4 := M3.third
  have M5 := M4.drop
  have M6 := M5.drop
  refine (toTable_c t hb0 _ _ _ (r0.mono M6.ext) (q0.mono M6.ext)).mono ?_
  rintro _ h7 ⟨a7, c7, a7', c7', rfl, m7⟩
  have M7 := M6.add m7
  simp only [go_sem, Nat.reduceBEq, Nat.reduceAdd, Nat.reduceLeDiff]
  refine (iTableValue t (by omega) _ _ _ M7.rd (M7.drop).rd).mono ?_
  rintro _ h8 ⟨a8_0, c8_0,  rfl, m8⟩
  have M8 := M7.add m8
  simp only [go_sem, Nat.reduceBEq, Nat.reduceAdd, Nat.reduceLeDiff]
  (refine (eqValue_c t.value (by omega) _ _ _ M8.rd (M8.drop.drop.drop).rd).mono ?_; rintro _ _ ⟨rfl, rfl⟩; simp only [go_sem, Nat.reduceBEq])
  refine regionD_intro (lb := [27, 28]) (by kernel_rfl) ?_
  simp only [go_sem, Nat.reduceBEq, Nat.reduceAdd, Nat.reduceLeDiff]
  refine (toTable_c t hb0 _ _ _ (r0.mono M8.ext) (q0.mono M8.ext)).mono ?_
  rintro _ h9 ⟨a9, c9, a9', c9', rfl, m9⟩
  have M9 := M8.add m9
  simp only [go_sem, Nat.reduceBEq]
  (refine (eqTable_c t (by omega) _ _ _ _ _ (M9.drop.drop.drop).rd (M9.drop.drop.drop.drop).rd M9.rd (M9.drop).rd).mono ?_; rintro _ _ ⟨rfl, rfl⟩; simp only [go_sem, Nat.reduceBEq, Nat.reduceAdd, Nat.reduceLeDiff])
  have M10 := M9.drop
  have M11 := M10.drop
  have M12 := M11.third
  have M13 := M12.third
  refine (markTable_c t 1 (by omega) _ _ _ _ _ M13).mono ?_
  rintro _ h14 ⟨rfl, M14⟩
  simp only [nat_neg, go_sem, Nat.reduceBEq, Nat.reduceAdd, Nat.reduceLeDiff]
  (refine (eqValue_c t.value (by omega) _ _ _ (M14.drop.drop).rd (M14.drop.drop.drop).rd).mono ?_; rintro _ _ ⟨rfl, rfl⟩; simp only [go_sem, Nat.reduceBEq, Nat.reduceAdd, Nat.reduceLeDiff])
  have M15 := M14.third
  refine (markValue_c t.value 1 (by omega) _ _ _ _ M15).mono ?_
  rintro _ h16 ⟨rfl, M16⟩
  simp only [go_sem, Nat.reduceBEq, Nat.reduceAdd, Nat.reduceLeDiff]
  refine (heldValue_c t.value _ _ _ _ 1 (by omega) _ _ M16.rd).mono ?_
  rintro _ h17 ⟨rfl, e17⟩
  have M18 := M16.mono e17
  simp only [go_sem, Nat.reduceBEq]
  rw [nat_neg]
  simp only [go_sem, Nat.reduceBEq, Nat.reduceAdd, Nat.reduceLeDiff]
  refine (toTable_c t hb0 _ _ _ (r0.mono M18.ext) (q0.mono M18.ext)).mono ?_
  rintro _ h19 ⟨a19, c19, a19', c19', rfl, m19⟩
  have M19 := M18.add m19
  simp only [go_sem, Nat.reduceBEq]
  refine (iTableValue t (by omega) _ _ _ M19.rd (M19.drop).rd).mono ?_
  rintro _ h20 ⟨a20_0, c20_0,  rfl, m20⟩
  have M20 := M19.add m20
  simp only [go_sem, Nat.reduceBEq, Nat.reduceAdd, Nat.reduceLeDiff]
  have M21 := M20.third
  have M22 := M21.third
  have M23 := M22.drop
  have M24 := M23.drop
  (refine (eqValue_c t.value (by omega) _ _ _ M24.rd (M24.drop.drop.drop.drop).rd).mono ?_; rintro _ _ ⟨rfl, rfl⟩; simp only [go_sem, Nat.reduceBEq, Nat.reduceAdd, Nat.reduceLeDiff])
  refine (heldValue_c t.value _ _ _ _ 1 (by omega) _ _ (M24.drop).rd).mono ?_
  rintro _ h25 ⟨rfl, e25⟩
  have M26 := M24.mono e25
  simp only [go_sem, Nat.reduceBEq]
  rw [nat_neg]
  simp only [go_sem, Nat.reduceBEq]
  exact ⟨rfl, M26.ext⟩
theorem FnExactTableValue_lifted (os : Os) (started : os.Started) (H : Type) (enc : TypeId × Value → H) :
    ReturnsInHanded {} Try.checked os 3 .any (Rows.fnExactTableValueSpec.pre6 enc Try.prog Try.f3 Rows.fnExactTableValueRow.domain false) (Rows.fnExactTableValueSpec.post enc Try.prog Try.f3 false true false false) := by
  refine returnsInHanded_of_change (C := Try.checked) own started (by kernel_rfl) Try.func3
    (ChangeSpec.witness6 (enc := enc) (C := Try.checked) false ⟨#[], #[.agg #[.bool false, .slice none 0 0, .slice none 0 0, .int .i64 0, .int .i64 0]], []⟩ 8 (by kernel_rfl) (by kernel_rfl) (by kernel_rfl) (by kernel_rfl)) ?_
  intro W base args ds gs before hval0 hW _ _
  have hval : ∀ (j : Nat) t v, Try.f3.params[j]? = some t → args[j]? = some v → Value.okWide Try.prog W .any base t v := hval0
  have hW' := hW
  obtain ⟨p, q, hA0, hV, rfl, _, _⟩ := hW
  have hA : DataW.TrodAll enc Try.prog W 0 (fun _ => true) true Try.f3.params.toList args.toList ds p := hA0
  rw [Try.params3] at hA hval
  obtain ⟨v0, vs0, d0, ds0, p0, q0, hargs, rfl, rfl, h0, r0⟩ := trodAll_cons hA
  obtain ⟨rfl, rfl, rfl⟩ := trodAll_nil r0
  obtain rfl : args = #[v0] := by cases args; simp_all
  obtain ⟨rfl, rfl⟩ := trodVars_none hV
  obtain ⟨a0, s0, t0, rfl, w0, e0, f0⟩ := openT (hval 0 25 v0 rfl rfl) h0
  clear hA0 hval0
  simp only [List.append_nil] at hW'
  exact (to_below (FnExactTableValue_law a0 w0 s0 t0 _ e0 f0)).mono fun e W' ⟨he, hb⟩ => ⟨_, he, law_post laidOut (by kernel_rfl) rfl Try.underlying4 rfl hW' rfl rfl rfl hb⟩
theorem FnExactTableValue_proved : Rows.FnExactTableValueSaid :=
  OpenClaim.holds_of_wide 3 Try.f3 rfl rfl rfl rfl rfl rfl rfl ⟨rfl, rfl, rfl, rfl, rfl⟩ rfl rfl rfl rfl rfl (by kernel_rfl) Try.func3 (by kernel_rfl)
    (of_decide_eq_true (by kernel_rfl)) (by unfold Func.isWrapper; first | (rw [if_pos (by decide +kernel)]; kernel_rfl) | (rw [if_neg (by decide +kernel)]; exact ⟨rfl, rfl⟩))
    (fun os started H enc _ => FnExactTableValue_lifted os started H enc)
end Go.Proofs.Ytpelbeoapmbloaa
