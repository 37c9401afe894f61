/-
  The statement FnExactLooseEqual is proved: for each argument the law returns true; nothing is assumed.
-/
import Derived.Test.YtjbcokpkbfnpiaaDoorOrd
import Derived.Test.YtjbcokpkbfnpiaaDoorValEq
import Derived.Test.YtjbcokpkbfnpiaaDoorValSz
import Derived.Test.YtjbcokpkbfnpiaaDoorOpenV
import Derived.Test.YtjbcokpkbfnpiaaDoorRows
import Derived.Test.YtjbcokpkbfnpiaaDoorTie
import Derived.Test.YtjbcokpkbfnpiaaDoorCards
import Derived.ProofKit
import Derived.LaidMore
import Derived.OpenShut
import Derived.Stop.Joined
import Derived.SevenTiedAt
namespace Go.Proofs.YtjbcokpkbfnpiaaDoor
set_option maxRecDepth 8000
open Go Go.Sx Go.ChangeShapes Go.WideShapes Go.ChangeAt Go.RowKit Go.ChangeMaps
theorem own : ownKnob Tryd.prog.godebug = none := by kernel_rfl
theorem laidOut : laidOutB Tryd.prog = true := by kernel_rfl
theorem FnExactLooseEqual_law (v : V) (ok0 : v.ok) (s0 : Value) (u : V) (ok1 : u.ok) (s1 : Value) (h : Hp) (r0 : RdE h v.items s0) (r1 : RdE h u.items s1) (hT : Pow h) : ACalls Tryd.prog 5 #[.agg #[.int .i64 v.kind, .int .i64 v.num, .string v.str, .int .i64 v.next, s0], .agg #[.int .i64 u.kind, .int .i64 u.num, .string u.str, .int .i64 u.next, s1]] h (Is (.bool true) h) := by
  obtain ⟨sa0, sc0, _, rfl, _⟩ := r0.rows (by decide) v.items.length (fm_len edt_len _)
  obtain ⟨sa1, sc1, _, rfl, _⟩ := r1.rows (by decide) u.items.length (fm_len edt_len _)
  (refine enter Tryd.func5 rfl rfl (by kernel_rfl) [] ?_; simp only [go_sem, Nat.reduceBEq, Nat.reduceAdd, Nat.reduceLeDiff])
  (refine (szValue_c v ok0 _ _ _ r0 (by decide) (by decide)).mono ?_; rintro _ _ ⟨rfl, rfl⟩; simp only [go_sem, Nat.reduceBEq])
  refine Br.intro (fun hb => ?_) (fun hb => ?_) <;> (try simp only [hb, go_sem, Nat.reduceBEq, Nat.reduceAdd, Nat.reduceLeDiff])
  · exact ⟨rfl, Ext.refl _⟩
  have f : 0 ≤ less 1048576 (v.bulk) := by simpa using hb
  (refine (szValue_c u ok1 _ _ _ r1 f (less_le (by decide))).mono ?_; rintro _ _ ⟨rfl, rfl⟩; simp only [go_sem, Nat.reduceBEq])
  rw [less_add f]
  refine Br.intro (fun hb => ?_) (fun hb => ?_) <;> (try simp only [hb, go_sem, Nat.reduceBEq])
  · exact ⟨rfl, Ext.refl _⟩
  have f : 0 ≤ less 1048576 ((v.bulk) + u.bulk) := by simpa using hb
  have f : ((v.bulk) + u.bulk) ≤ 1048576 := by unfold less at f; split at f <;> omega
  have hb0 : v.bulk ≤ 1048576 := by omega
  have hB0 := V.bulk_eq v
  have hC0 := cntEs_bulk v.items
  have hb1 : u.bulk ≤ 1048576 := by omega
  have hB1 := V.bulk_eq u
  have hC1 := cntEs_bulk u.items
  refine regionD_intro (lb := [20, 22]) (by kernel_rfl) ?_
  simp only [go_sem, Nat.reduceBEq, Nat.reduceAdd, Nat.reduceLeDiff]
  refine (toV_c v hb0 _ _ r0).mono ?_
  rintro _ h1 ⟨a1, c1, rfl, m1⟩
  have M1 := m1
  simp only [go_sem, Nat.reduceBEq, Nat.reduceAdd, Nat.reduceLeDiff]
  refine (toV_c u hb1 _ _ (r1.mono M1.ext)).mono ?_
  rintro _ h2 ⟨a2, c2, rfl, m2⟩
  have M2 := M1.add m2
  simp only [go_sem, Nat.reduceBEq]
  refine (sLoose v u ok0 ok1 (by omega) (by omega) _ _ _ (M2.drop).rd M2.rd (hT.ext M2.ext)).mono ?_
  rintro _ h3 ⟨rfl, e3⟩
  have M3 := M2.mono e3
  simp only [go_sem, Nat.reduceBEq, Nat.reduceAdd, Nat.reduceLeDiff]
  have M4 := M3.swap
  have M5 := M4.drop
  have M6 := M5.drop
  refine (toV_c v hb0 _ _ (r0.mono M6.ext)).mono ?_
  rintro _ h7 ⟨a7, c7, rfl, m7⟩
  have M7 := M6.add m7
  simp only [go_sem, Nat.reduceBEq, Nat.reduceAdd, Nat.reduceLeDiff]
  refine (toV_c u hb1 _ _ (r1.mono M7.ext)).mono ?_
  rintro _ h8 ⟨a8, c8, rfl, m8⟩
  have M8 := M7.add m8
  simp only [go_sem, Nat.reduceBEq, Nat.reduceAdd, Nat.reduceLeDiff]
  refine (iLoose v u ok0 ok1 (by omega) (by omega) _ _ _ (M8.drop).rd M8.rd (hT.ext M8.ext)).mono ?_
  rintro _ h9 ⟨rfl, e9⟩
  have M9 := M8.mono e9
  simp only [go_sem, Nat.reduceBEq]
  refine regionD_intro (lb := [35, 36]) (by kernel_rfl) ?_
  simp only [go_sem, Nat.reduceBEq, Nat.reduceAdd, Nat.reduceLeDiff]
  refine (toV_c v hb0 _ _ (r0.mono M9.ext)).mono ?_
  rintro _ h10 ⟨a10, c10, rfl, m10⟩
  have M10 := M9.add m10
  simp only [go_sem, Nat.reduceBEq]
  (refine (eqValue_c v (by omega) _ _ _ (M10.drop.drop).rd M10.rd).mono ?_; rintro _ _ ⟨rfl, rfl⟩; simp only [go_sem, Nat.reduceBEq])
  have M11 := M10.drop
  refine regionD_intro (lb := [40, 41]) (by kernel_rfl) ?_
  simp only [go_sem, Nat.reduceBEq, Nat.reduceAdd, Nat.reduceLeDiff]
  refine (toV_c u hb1 _ _ (r1.mono M11.ext)).mono ?_
  rintro _ h12 ⟨a12, c12, rfl, m12⟩
  have M12 := M11.add m12
  simp only [go_sem, Nat.reduceBEq]
  (refine (eqValue_c u (by omega) _ _ _ (M12.drop).rd M12.rd).mono ?_; rintro _ _ ⟨rfl, rfl⟩; simp only [go_sem, Nat.reduceBEq])
  have M13 := M12.drop
  exact ⟨rfl, M13.ext⟩
theorem FnExactLooseEqual_met (os : Os) (args : Array Value) : laidMetH Tryd.prog Rows.fnExactLooseEqualRow.laid ((World.doorLaid Tryd.prog 400 os).forCall (fun _ _ => 0) ⟨#[], args, []⟩).memory :=
  laidMetH_of_parts3 (fuel := 8) (laidMet_of_run' 8 (by kernel_rfl) (by kernel_rfl)) (by kernel_rfl) (by kernel_rfl)
set_option maxRecDepth 100000 in
theorem FnExactLooseEqual_lifted (os : Os) (started : os.Started) (H : Type) (enc : TypeId × Value → H) :
    ReturnsInHanded {} Tryd.checked os 5 .any (fun w args => (Rows.fnExactLooseEqualSpec.pre enc Tryd.prog Tryd.f5 Rows.fnExactLooseEqualRow.domain false w args ∧ laidMetH Tryd.prog Rows.fnExactLooseEqualRow.laid w) ∧ sizedMet enc Tryd.prog Tryd.f5 (OpenSpec.ofChange Rows.fnExactLooseEqualSpec) false w args) (Rows.fnExactLooseEqualSpec.post enc Tryd.prog Tryd.f5 false true false false) := by
  refine returnsInHanded_of_change_and (C := Tryd.checked) (X := fun w _ => laidMetH Tryd.prog Rows.fnExactLooseEqualRow.laid w) (fun _ _ _ hh h => h.of_heap hh) own started (by kernel_rfl) Tryd.func5
    (ChangeSpec.witness_shaped (enc := enc) (C := Tryd.checked) (os := os) (X := fun w _ => laidMetH Tryd.prog Rows.fnExactLooseEqualRow.laid w) false (World.doorLaid Tryd.prog 400 os) #[.agg #[.int .i64 0, .int .i64 0, .string ⟨#[]⟩, .int .i64 0, .slice none 0 0], .agg #[.int .i64 0, .int .i64 0, .string ⟨#[]⟩, .int .i64 0, .slice none 0 0]] 8 rfl (World.shaped_of_RefB (by kernel_rfl) (by kernel_rfl)) (by kernel_rfl) (by kernel_rfl) (by kernel_rfl) (FnExactLooseEqual_met os _)) ?_
  intro W base args ds gs before hval0 hW _ _ hL _
  have hT : Pow (vis W) := pow_of (by kernel_rfl) (by rw [MakeChecks.laidMetH_plain _ _ _ (by kernel_rfl)] at hL; exact hL)
  have hval : ∀ (j : Nat) t v, Tryd.f5.params[j]? = some t → args[j]? = some v → Value.okWide Tryd.prog W .any base t v := hval0
  have hW' := hW
  obtain ⟨p, q, hA0, hV, rfl, _, _⟩ := hW
  have hA : DataW.TrodAll enc Tryd.prog W 0 (fun _ => true) true Tryd.f5.params.toList args.toList ds p := hA0
  rw [Tryd.params5] at hA hval
  obtain ⟨v0, vs0, d0, ds0, p0, q0, hargs, rfl, rfl, h0, r0⟩ := trodAll_cons hA
  obtain ⟨v1, vs1, d1, ds1, p1, q1, rfl, rfl, rfl, h1, r1⟩ := trodAll_cons r0
  obtain ⟨rfl, rfl, rfl⟩ := trodAll_nil r1
  obtain rfl : args = #[v0, v1] := by cases args; simp_all
  obtain ⟨rfl, rfl⟩ := trodVars_none hV
  obtain ⟨a0, s0, rfl, w0, e0⟩ := openV (hval 0 24 v0 rfl rfl) h0
  obtain ⟨a1, s1, rfl, w1, e1⟩ := openV (hval 1 24 v1 rfl rfl) h1
  clear hA0 hval0
  simp only [List.append_nil] at hW'
  exact (to_below (FnExactLooseEqual_law a0 w0 s0 a1 w1 s1 _ e0 e1 hT)).mono fun e W' ⟨he, hb⟩ => ⟨_, he, law_post laidOut (by kernel_rfl) rfl Tryd.underlying4 rfl hW' rfl rfl rfl hb⟩
theorem FnExactLooseEqual_proved : Rows.FnExactLooseEqualSaid :=
  OpenClaim.holds_of_wide 5 Tryd.f5 rfl rfl rfl rfl rfl rfl rfl ⟨rfl, rfl, rfl, rfl, rfl⟩ rfl rfl rfl rfl rfl (by kernel_rfl) Tryd.func5 (by kernel_rfl)
    (of_decide_eq_true (by kernel_rfl)) (by unfold Func.isWrapper; first | (rw [if_pos (by decide +kernel)]; kernel_rfl) | (rw [if_neg (by decide +kernel)]; exact ⟨rfl, rfl⟩))
    (fun os started H enc _ => FnExactLooseEqual_lifted os started H enc)
theorem FnExactLooseEqual_card : Rows.FnExactLooseEqualCardSaid :=
  Claim7.holds_tied_plain_at .later [] Rows.fnExactLooseEqualCard.laidKinds true Rows.fnExactLooseEqualCard.stood.harness Rows.fnExactLooseEqualCard.stood.looks
    FnExactLooseEqual_proved (fun _ h => by cases h) (by kernel_rfl) (fun _ h => by cases h) fnExactLooseEqual_row_tie rfl ⟨rfl, rfl⟩ (by kernel_rfl) rfl
    (fun f fn hf hfn => by
      obtain rfl : f = 5 := Option.some.inj ((show Tryd.prog.funcNamed Rows.fnExactLooseEqualRow.func = some 5 by kernel_rfl).symm.trans hf) |>.symm
      obtain rfl : fn = Tryd.f5 := (Option.some.inj (Tryd.func5.symm.trans hfn)).symm
      exact ⟨by kernel_rfl, fun j t ht => by
        rw [Tryd.params5] at ht
        have hm : t ∈ [24, 24] := by simpa using Array.mem_of_getElem? ht
        have hall : ([24, 24].all fun u => !Tryd.prog.wantsStandIn u) = true := by kernel_rfl
        exact (show Tryd.prog.wantsStandIn t = false by simpa using List.all_eq_true.1 hall t hm)⟩)
    (by kernel_rfl)
end Go.Proofs.YtjbcokpkbfnpiaaDoor
