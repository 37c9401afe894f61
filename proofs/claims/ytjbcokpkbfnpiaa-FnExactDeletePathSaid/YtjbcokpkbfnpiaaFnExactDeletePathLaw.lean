/-
  The statement FnExactDeletePath is proved: for each argument the law returns true; nothing is assumed.
-/
import Derived.Test.YtjbcokpkbfnpiaaDelPath
import Derived.Test.YtjbcokpkbfnpiaaValEq
import Derived.Test.YtjbcokpkbfnpiaaValSz
import Derived.Test.YtjbcokpkbfnpiaaSzKeyS
import Derived.Test.YtjbcokpkbfnpiaaOpenV
import Derived.Test.YtjbcokpkbfnpiaaRowEntryS
import Derived.Test.YtjbcokpkbfnpiaaRowKeyS
namespace Go.Proofs.Ytjbcokpkbfnpiaa
open Go Go.Sx Go.ChangeShapes Go.WideShapes Go.ChangeAt Go.RowKit Go.ChangeMaps
theorem own : ownKnob Try.prog.godebug = none := by kernel_rfl
theorem laidOut : laidOutB Try.prog = true := by kernel_rfl
theorem FnExactDeletePath_law (v : V) (ok0 : v.ok) (s0 : Value) (ks : List Ky) (ok1 : ∀ k ∈ ks, k.ok) (l1 : ks.length ≤ maxLen) (s1 : Value) (h : Hp) (r0 : RdE h v.items s0) (r1 : Rd h (.row 3 (ks.flatMap Ky.dt)) s1) : ACalls Try.prog 7 #[.agg #[.int .i64 v.kind, .int .i64 v.num, .string v.str, .int .i64 v.next, s0], s1] h (Is (.bool true) h) := by
  obtain ⟨sa0, sc0, _, rfl, _⟩ := r0.rows (by decide) v.items.length (fm_len edt_len _)
  obtain ⟨sa1, sc1, _, rfl, _⟩ := r1.rows (by decide) ks.length (fm_len Ky.dt_len _)
  (refine enter Try.func7 rfl rfl (by kernel_rfl) [] ?_; simp only [go_sem, Nat.reduceBEq, Nat.reduceAdd, Nat.reduceLeDiff])
  (refine (szValue_c v ok0 _ _ _ r0 (by decide) (by decide)).mono ?_; rintro _ _ ⟨rfl, rfl⟩; simp only [go_sem, Nat.reduceBEq])
  refine Br.intro (fun hb => ?_) (fun hb => ?_) <;> (try simp only [hb, go_sem, Nat.reduceBEq])
  · exact ⟨rfl, Ext.refl _⟩
  have f : 0 ≤ less 1048576 (v.bulk) := by simpa using hb
  (refine (szKeyS_c ks ok1 l1 _ _ _ r1 f (less_le (by decide))).mono ?_; rintro _ _ ⟨rfl, rfl⟩; simp only [go_sem, Nat.reduceBEq])
  rw [less_add f]
  refine Br.intro (fun hb => ?_) (fun hb => ?_) <;> (try simp only [hb, go_sem, Nat.reduceBEq, Nat.reduceAdd, Nat.reduceLeDiff])
  · exact ⟨rfl, Ext.refl _⟩
  have f : 0 ≤ less 1048576 ((v.bulk) + szG (fun e : Ky => e.str.size) ks) := by simpa using hb
  have f : ((v.bulk) + szG (fun e : Ky => e.str.size) ks) ≤ 1048576 := by unfold less at f; split at f <;> omega
  have hb0 : v.bulk ≤ 1048576 := by omega
  have hB0 := V.bulk_eq v
  have hC0 := cntEs_bulk v.items
  have hb1 : ks.length ≤ 1048576 := by unfold szG at f; omega
  have hC1 := cntK_len ks
  have hW := (dropPath_bulk ks v).1
  have hR0 := cntEs_bulk (v.dropPath ks).items
  refine (toV_c v hb0 _ _ r0).mono ?_
  rintro _ h1 ⟨a1, c1, rfl, m1⟩
  have M1 := m1
  simp only [go_sem, Nat.reduceBEq]
  refine (toKeyS_c ks hb1 _ _ (r1.mono M1.ext)).mono ?_
  rintro _ h2 m2
  obtain ⟨a2, c2, rfl, _⟩ := m2.row_shape (by decide) ks.length (fm_len Ky.dt_len _)
  have M2 := M1.add m2
  simp only [go_sem, Nat.reduceBEq]
  refine (sDeletePath v ks (by omega) (by omega) _ _ _ (M2.drop).rd M2.rd).mono ?_
  rintro _ h3 ⟨a3_0, c3_0,  rfl, m3⟩
  have M3 := M2.add m3
  simp only [go_sem, Nat.reduceBEq, Nat.reduceAdd, Nat.reduceLeDiff]
  have M4 := M3.third
  have M5 := M4.drop
  have M6 := M5.swap
  have M7 := M6.drop
  refine (toV_c v hb0 _ _ (r0.mono M7.ext)).mono ?_
  rintro _ h8 ⟨a8, c8, rfl, m8⟩
  have M8 := M7.add m8
  simp only [go_sem, Nat.reduceBEq, Nat.reduceAdd, Nat.reduceLeDiff]
  refine (toKeyS_c ks hb1 _ _ (r1.mono M8.ext)).mono ?_
  rintro _ h9 m9
  obtain ⟨a9, c9, rfl, _⟩ := m9.row_shape (by decide) ks.length (fm_len Ky.dt_len _)
  have M9 := M8.add m9
  simp only [go_sem, Nat.reduceBEq, Nat.reduceAdd, Nat.reduceLeDiff]
  refine (iDeletePath v ks (by omega) (by omega) _ _ _ (M9.drop).rd M9.rd).mono ?_
  rintro _ h10 ⟨a10_0, c10_0,  rfl, m10⟩
  have M10 := M9.add m10
  simp only [go_sem, Nat.reduceBEq, Nat.reduceAdd, Nat.reduceLeDiff]
  (refine (eqValue_c (v.dropPath ks) (by omega) _ _ _ M10.rd (M10.drop.drop.drop).rd).mono ?_; rintro _ _ ⟨rfl, rfl⟩; simp only [go_sem, Nat.reduceBEq])
  refine regionD_intro (lb := [40, 41]) (by kernel_rfl) ?_
  simp only [go_sem, Nat.reduceBEq, Nat.reduceAdd, Nat.reduceLeDiff]
  refine (toV_c v hb0 _ _ (r0.mono M10.ext)).mono ?_
  rintro _ h11 ⟨a11, c11, rfl, m11⟩
  have M11 := M10.add m11
  simp only [go_sem, Nat.reduceBEq]
  (refine (eqValue_c v (by omega) _ _ _ (M11.drop.drop.drop).rd M11.rd).mono ?_; rintro _ _ ⟨rfl, rfl⟩; simp only [go_sem, Nat.reduceBEq])
  have M12 := M11.drop
  refine (toKeyS_c ks hb1 _ _ (r1.mono M12.ext)).mono ?_
  rintro _ h13 m13
  obtain ⟨a13, c13, rfl, _⟩ := m13.row_shape (by decide) ks.length (fm_len Ky.dt_len _)
  have M13 := M12.add m13
  simp only [go_sem, Nat.reduceBEq]
  (refine (eqKeyS_c ks (by omega) _ _ _ (M13.drop.drop).rd M13.rd).mono ?_; rintro _ _ ⟨rfl, rfl⟩; simp only [go_sem, Nat.reduceBEq, Nat.reduceAdd, Nat.reduceLeDiff])
  have M14 := M13.drop
  have M15 := M14.third
  refine (markValue_c v 1 (by omega) _ _ _ _ M15).mono ?_
  rintro _ h16 ⟨rfl, M16⟩
  simp only [go_sem, Nat.reduceBEq]
  have M17 := M16.third
  refine (markKeyS_c ks (1 + cntEs v.items) (by omega) _ _ _ _ M17).mono ?_
  rintro _ h18 ⟨rfl, M18⟩
  simp only [nat_neg, go_sem, Nat.reduceBEq, Nat.reduceAdd, Nat.reduceLeDiff]
  (refine (eqValue_c (v.dropPath ks) (by omega) _ _ _ (M18.drop.drop).rd (M18.drop.drop.drop).rd).mono ?_; rintro _ _ ⟨rfl, rfl⟩; simp only [go_sem, Nat.reduceBEq, Nat.reduceAdd, Nat.reduceLeDiff])
  have M19 := M18.third
  refine (markValue_c (v.dropPath ks) 1 (by omega) _ _ _ _ M19).mono ?_
  rintro _ h20 ⟨rfl, M20⟩
  simp only [go_sem, Nat.reduceBEq, Nat.reduceAdd, Nat.reduceLeDiff]
  refine (heldValue_c (v.dropPath ks) _ _ _ _ 1 (by omega) _ _ M20.rd).mono ?_
  rintro _ h21 ⟨rfl, e21⟩
  have M22 := M20.mono e21
  simp only [go_sem, Nat.reduceBEq]
  rw [nat_neg]
  simp only [go_sem, Nat.reduceBEq, Nat.reduceAdd, Nat.reduceLeDiff]
  refine (toV_c v hb0 _ _ (r0.mono M22.ext)).mono ?_
  rintro _ h23 ⟨a23, c23, rfl, m23⟩
  have M23 := M22.add m23
  simp only [go_sem, Nat.reduceBEq]
  refine (toKeyS_c ks hb1 _ _ (r1.mono M23.ext)).mono ?_
  rintro _ h24 m24
  obtain ⟨a24, c24, rfl, _⟩ := m24.row_shape (by decide) ks.length (fm_len Ky.dt_len _)
  have M24 := M23.add m24
  simp only [go_sem, Nat.reduceBEq]
  refine (iDeletePath v ks (by omega) (by omega) _ _ _ (M24.drop).rd M24.rd).mono ?_
  rintro _ h25 ⟨a25_0, c25_0,  rfl, m25⟩
  have M25 := M24.add m25
  simp only [go_sem, Nat.reduceBEq, Nat.reduceAdd, Nat.reduceLeDiff]
  have M26 := M25.third
  have M27 := M26.drop
  have M28 := M27.swap
  have M29 := M28.drop
  (refine (eqValue_c (v.dropPath ks) (by omega) _ _ _ M29.rd (M29.drop.drop.drop.drop).rd).mono ?_; rintro _ _ ⟨rfl, rfl⟩; simp only [go_sem, Nat.reduceBEq, Nat.reduceAdd, Nat.reduceLeDiff])
  refine (heldValue_c (v.dropPath ks) _ _ _ _ 1 (by omega) _ _ (M29.drop).rd).mono ?_
  rintro _ h30 ⟨rfl, e30⟩
  have M31 := M29.mono e30
  simp only [go_sem, Nat.reduceBEq]
  rw [nat_neg]
  simp only [go_sem, Nat.reduceBEq]
  exact ⟨rfl, M31.ext⟩
theorem FnExactDeletePath_lifted (os : Os) (started : os.Started) (H : Type) (enc : TypeId × Value → H) :
    ReturnsInHanded {} Try.checked os 7 .any (Rows.fnExactDeletePathSpec.pre6 enc Try.prog Try.f7 Rows.fnExactDeletePathRow.domain false) (Rows.fnExactDeletePathSpec.post enc Try.prog Try.f7 false true false false) := by
  refine returnsInHanded_of_change (C := Try.checked) own started (by kernel_rfl) Try.func7
    (ChangeSpec.witness6 (enc := enc) (C := Try.checked) false ⟨#[], #[.agg #[.int .i64 0, .int .i64 0, .string ⟨#[]⟩, .int .i64 0, .slice none 0 0], .slice none 0 0], []⟩ 8 (by kernel_rfl) (by kernel_rfl) (by kernel_rfl) (by kernel_rfl)) ?_
  intro W base args ds gs before hval0 hW _ _
  have hval : ∀ (j : Nat) t v, Try.f7.params[j]? = some t → args[j]? = some v → Value.okWide Try.prog W .any base t v := hval0
  have hW' := hW
  obtain ⟨p, q, hA0, hV, rfl, _, _⟩ := hW
  have hA : DataW.TrodAll enc Try.prog W 0 (fun _ => true) true Try.f7.params.toList args.toList ds p := hA0
  rw [Try.params7] at hA hval
  obtain ⟨v0, vs0, d0, ds0, p0, q0, hargs, rfl, rfl, h0, r0⟩ := trodAll_cons hA
  obtain ⟨v1, vs1, d1, ds1, p1, q1, rfl, rfl, rfl, h1, r1⟩ := trodAll_cons r0
  obtain ⟨rfl, rfl, rfl⟩ := trodAll_nil r1
  obtain rfl : args = #[v0, v1] := by cases args; simp_all
  obtain ⟨rfl, rfl⟩ := trodVars_none hV
  obtain ⟨a0, s0, rfl, w0, e0⟩ := openV (hval 0 24 v0 rfl rfl) h0
  obtain ⟨_, _, _, rfl⟩ := okWide_slice Try.underlying36 (hval 1 36 v1 rfl rfl)
  obtain ⟨a1, w1, l1, e1⟩ := openKeyS h1 rfl
  clear hA0 hval0
  simp only [List.append_nil] at hW'
  exact (to_below (FnExactDeletePath_law a0 w0 s0 a1 w1 l1 _ _ e0 e1)).mono fun e W' ⟨he, hb⟩ => ⟨_, he, law_post laidOut (by kernel_rfl) rfl Try.underlying4 rfl hW' rfl rfl rfl hb⟩
theorem FnExactDeletePath_proved : Rows.FnExactDeletePathSaid :=
  OpenClaim.holds_of_wide 7 Try.f7 rfl rfl rfl rfl rfl rfl rfl ⟨rfl, rfl, rfl, rfl, rfl⟩ rfl rfl rfl rfl rfl (by kernel_rfl) Try.func7 (by kernel_rfl)
    (of_decide_eq_true (by kernel_rfl)) (by unfold Func.isWrapper; first | (rw [if_pos (by decide +kernel)]; kernel_rfl) | (rw [if_neg (by decide +kernel)]; exact ⟨rfl, rfl⟩))
    (fun os started H enc _ => FnExactDeletePath_lifted os started H enc)
end Go.Proofs.Ytjbcokpkbfnpiaa
