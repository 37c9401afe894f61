/-
  The statement FnConversions is proved: for each argument the law returns true; nothing is assumed.
-/
import Derived.Test.YtconhonjkfpfmaaDoorNum
import Derived.Test.YtconhonjkfpfmaaDoorSxOwn
import Derived.Test.YtconhonjkfpfmaaDoorConvL
import Derived.Test.YtconhonjkfpfmaaDoorDraw2
import Derived.Test.YtconhonjkfpfmaaDoorOpenB
import Derived.Test.YtconhonjkfpfmaaDoorRows
import Derived.Test.YtconhonjkfpfmaaDoorTie
import Derived.Test.YtconhonjkfpfmaaDoorCards
import Derived.ProofKit
import Derived.LaidMore
import Derived.OpenShut
import Derived.Stop.Joined
import Derived.SevenTiedAt
namespace Go.Proofs.YtconhonjkfpfmaaDoor
set_option maxRecDepth 8000
open Go Go.Sx
theorem big_c (l : List UInt8) (sl : Value) (h : Hp) (rd : RdS h 1 sl (bcells l)) : ACalls Tryd.prog 7 #[sl] h (Pu (.bool (decide (1048576 < l.length))) h) := by
  have hbl : (bcells l).length = l.length * 1 := by simp [bcells]
  obtain ⟨a, c, rfl, _⟩ := rd.slice l.length (by decide) hbl
  (refine enter Tryd.func7 rfl rfl (by kernel_rfl) [] ?_; simp only [go_sem, Nat.reduceBEq])
  exact ⟨by rw [show decide ((1048576 : Int) < (l.length : Nat)) = decide (1048576 < l.length) from decide_eq_decide.2 (by omega)], rfl⟩
end Go.Proofs.YtconhonjkfpfmaaDoor
namespace Go.Proofs.YtconhonjkfpfmaaDoor
set_option maxRecDepth 8000
open Go Go.Sx Go.ChangeShapes Go.WideShapes Go.ChangeAt Go.RowKit Go.ChangeMaps
theorem own : ownKnob Tryd.prog.godebug = none := by kernel_rfl
theorem laidOut : laidOutB Tryd.prog = true := by kernel_rfl
theorem FnConversions_law (l : List UInt8) (sl : Value) (h : Hp) (rd : RdS h 1 sl (bcells l)) (hE : Env h) : ACalls Tryd.prog 4 #[sl] h (Is (.bool true) h) := by
  have hbl : (bcells l).length = l.length * 1 := by simp [bcells]
  obtain ⟨a, c, rfl, _⟩ := rd.slice l.length (by decide) hbl
  (refine enter Tryd.func4 rfl rfl (by kernel_rfl) [] ?_; simp only [go_sem, Nat.reduceBEq])
  (refine (big_c l _ _ rd).mono ?_; rintro _ _ ⟨rfl, rfl⟩; simp only [go_sem, Nat.reduceBEq])
  by_cases hl : 1048576 < l.length
  · simp only [decide_eq_true hl, go_sem, Nat.reduceBEq]
    exact ⟨rfl, Ext.refl _⟩
  simp only [decide_eq_false hl, go_sem, Nat.reduceBEq]
  refine (drawToNumber_c (by omega) rd (My.nil (Ext.refl h))).mono ?_
  rintro _ h1 ⟨p, v, av, cv, rfl, hv, hb, m1⟩
  have e1 := m1.my.ext
  have hn := V.ok_num hv
  have lo := i64_lo
  have hi := i64_hi
  have hfl : flO Tryd.prog 26 1 = some 1 := by kernel_rfl
  simp only [hfl, go_sem, Nat.reduceBEq]
  generalize v.num = n at hn
  have hlen := (itoa_len (n := n) (k := 19) (by omega)).1
  by_cases c1 : n < -1000000000
  · simp only [decide_eq_true c1, go_sem, Nat.reduceBEq]
    refine (sFormatInt n hn _).mono ?_
    rintro _ h2 ⟨rfl, e2⟩
    simp only [go_sem, Nat.reduceBEq]
    (refine (iLeadingInt _ (by show (Lib.itoa n).length ≤ _; omega) _).mono ?_; rintro _ _ ⟨rfl, rfl⟩; simp only [go_sem, Nat.reduceBEq])
    (refine (sMin _ _ _).mono ?_; rintro _ _ ⟨rfl, rfl⟩; simp only [go_sem, Nat.reduceBEq])
    (refine (sMax _ _ _).mono ?_; rintro _ _ ⟨rfl, rfl⟩; simp only [go_sem, Nat.reduceBEq])
    rw [lead_itoa0, decide_eq_true rfl]
    exact ⟨rfl, e1.trans e2⟩
  simp only [decide_eq_false c1, go_sem, Nat.reduceBEq]
  by_cases c2 : 1000000000 < n
  · simp only [decide_eq_true c2, go_sem, Nat.reduceBEq]
    refine (sFormatInt n hn _).mono ?_
    rintro _ h2 ⟨rfl, e2⟩
    simp only [go_sem, Nat.reduceBEq]
    (refine (iLeadingInt _ (by show (Lib.itoa n).length ≤ _; omega) _).mono ?_; rintro _ _ ⟨rfl, rfl⟩; simp only [go_sem, Nat.reduceBEq])
    (refine (sMin _ _ _).mono ?_; rintro _ _ ⟨rfl, rfl⟩; simp only [go_sem, Nat.reduceBEq])
    (refine (sMax _ _ _).mono ?_; rintro _ _ ⟨rfl, rfl⟩; simp only [go_sem, Nat.reduceBEq])
    rw [lead_itoa0, decide_eq_true rfl]
    exact ⟨rfl, e1.trans e2⟩
  simp only [decide_eq_false c2, go_sem, Nat.reduceBEq]
  (refine (cIntV n _).mono ?_; rintro _ _ ⟨rfl, rfl⟩; simp only [go_sem, Nat.reduceBEq])
  try simp only [go_sem, Nat.reduceBEq, Nat.reduceAdd, Nat.reduceLeDiff, Nat.reduceEqDiff, Int.reduceEq, not_false_eq_true, Int.reduceToNat]
  refine (iToText (V.mk 2 n ⟨#[]⟩ 0 []) hn _ _ (rd_nil _) (hE.pow.ext e1)).mono ?_
  rintro _ h2 ⟨rfl, e2⟩
  have ht : V.toText (V.mk 2 n ⟨#[]⟩ 0 []) = (⟨(Lib.itoa n).toArray⟩, 0) := rfl
  rw [ht]
  have q1 := lead_itoa n (r := [120]) (fun c hc => by cases hc; rfl)
  have q2 := lead_itoa0 n
  have q3 := numer_itoa (n := n) (by omega) (by omega)
  have q4 := itoa_naught n
  have q5 := itoa_some n
  have q6 : (⟨(Lib.itoa n).toArray⟩ : ByteArray).data.toList = Lib.itoa n := rfl
  have q7 : (⟨(Lib.itoa n).toArray⟩ : ByteArray) ++ ⟨#[120]⟩ = ⟨(Lib.itoa n ++ [120]).toArray⟩ := by
    apply ByteArray.ext
    simp
  rw [← q7] at q1
  have q8 : (⟨(Lib.itoa n).toArray⟩ : ByteArray).size ≤ 30 := by show (Lib.itoa n).length ≤ 30; omega
  generalize (⟨(Lib.itoa n).toArray⟩ : ByteArray) = s at *
  have q0 : max (-1000000000) (min 1000000000 n) = n := by omega
  rw [q0] at q1 q2
  have E2 := hE.ext (e1.trans e2)
  simp only [go_sem, Nat.reduceBEq]
  (refine (cTextV s _).mono ?_; rintro _ _ ⟨rfl, rfl⟩; simp only [go_sem, Nat.reduceBEq])
  try simp only [go_sem, Nat.reduceBEq, Nat.reduceAdd, Nat.reduceLeDiff, Nat.reduceEqDiff, Int.reduceEq, not_false_eq_true, Int.reduceToNat]
  refine (iKeyOfItoa (n := n) (by omega) (by omega) s q6 _ E2).mono ?_
  rintro _ h3 ⟨rfl, e3⟩
  simp only [go_sem, Nat.reduceBEq, Nat.reduceAdd, Nat.reduceLeDiff]
  (refine (cTextV s _).mono ?_; rintro _ _ ⟨rfl, rfl⟩; simp only [go_sem, Nat.reduceBEq])
  try simp only [go_sem, Nat.reduceBEq, Nat.reduceAdd, Nat.reduceLeDiff, Nat.reduceEqDiff, Int.reduceEq, not_false_eq_true, Int.reduceToNat]
  (refine (iToNumber (V.mk 3 0 s 0 []) (by show s.size ≤ _; omega) _ _ (rd_nil _)).mono ?_; rintro _ _ ⟨rfl, rfl⟩; simp only [go_sem, Nat.reduceBEq, Nat.reduceAdd, Nat.reduceLeDiff])
  have tn : toNum (V.mk 3 0 s 0 []) = (n, 0) := by
    unfold toNum
    simp only [V.kind_mk, V.str_mk, q3, q2]
    rfl
  rw [tn]
  simp only [decide_true, go_sem, Nat.reduceBEq]
  try simp only [go_sem, Nat.reduceBEq, Nat.reduceAdd, Nat.reduceLeDiff, Nat.reduceEqDiff, Int.reduceEq, not_false_eq_true, Int.reduceToNat]
  (refine (iIsNumeric s (by omega) _).mono ?_; rintro _ _ ⟨rfl, rfl⟩; simp only [go_sem, Nat.reduceBEq])
  rw [q3]
  simp only [go_sem, Nat.reduceBEq]
  refine ⟨by rw [i64max]; show ((s.size + 1 : Nat) : Int) ≤ _; omega, ?_⟩
  try simp only [go_sem, Nat.reduceBEq, Nat.reduceAdd, Nat.reduceLeDiff, Nat.reduceEqDiff, Int.reduceEq, not_false_eq_true, Int.reduceToNat]
  (refine (iLeadingInt _ (by rw [ByteArray.size_append]; show s.size + 1 ≤ _; omega) _).mono ?_; rintro _ _ ⟨rfl, rfl⟩; simp only [go_sem, Nat.reduceBEq])
  rw [q1]
  simp only [decide_true, go_sem, Nat.reduceBEq]
  try simp only [go_sem, Nat.reduceBEq, Nat.reduceAdd, Nat.reduceLeDiff, Nat.reduceEqDiff, Int.reduceEq, not_false_eq_true, Int.reduceToNat]
  (refine (cTextV s _).mono ?_; rintro _ _ ⟨rfl, rfl⟩; simp only [go_sem, Nat.reduceBEq])
  try simp only [go_sem, Nat.reduceBEq, Nat.reduceAdd, Nat.reduceLeDiff, Nat.reduceEqDiff, Int.reduceEq, not_false_eq_true, Int.reduceToNat]
  (refine (iToBool (V.mk 3 0 s 0 []) _ _ (rd_nil _)).mono ?_; rintro _ _ ⟨rfl, rfl⟩; simp only [go_sem, Nat.reduceBEq])
  have tb : toBool (V.mk 3 0 s 0 []) = decide (n ≠ 0) := by
    unfold toBool
    simp only [V.kind_mk, V.str_mk]
    rw [if_neg (by decide), if_neg (by decide), if_neg (by decide), if_pos trivial]
    by_cases hz : n = 0
    · rw [decide_eq_false (p := s ≠ ⟨#[48]⟩) (fun k => k (q4.2 hz)), Bool.and_false, decide_eq_false (fun k => k hz)]
    · rw [decide_eq_true (p := s ≠ ⟨#[48]⟩) (fun k => hz (q4.1 k)), decide_eq_true (p := s ≠ ⟨#[]⟩) q5, decide_eq_true hz]
      rfl
  rw [tb]
  exact ⟨by by_cases hz : n = 0 <;> simp [hz], e1.trans (e2.trans e3)⟩
theorem FnConversions_met (os : Os) (args : Array Value) : laidMetH Tryd.prog Rows.fnConversionsRow.laid ((World.doorLaid Tryd.prog 400 os).forCall (fun _ _ => 0) ⟨#[], args, []⟩).memory :=
  laidMetH_of_parts3 (fuel := 8) (laidMet_of_run' 8 (by kernel_rfl) (by kernel_rfl)) (by kernel_rfl) (by kernel_rfl)
set_option maxRecDepth 100000 in
theorem FnConversions_lifted (os : Os) (started : os.Started) (H : Type) (enc : TypeId × Value → H) :
    ReturnsInHanded {} Tryd.checked os 4 .any (fun w args => (Rows.fnConversionsSpec.pre enc Tryd.prog Tryd.f4 Rows.fnConversionsRow.domain false w args ∧ laidMetH Tryd.prog Rows.fnConversionsRow.laid w) ∧ sizedMet enc Tryd.prog Tryd.f4 (OpenSpec.ofChange Rows.fnConversionsSpec) false w args) (Rows.fnConversionsSpec.post enc Tryd.prog Tryd.f4 false true false false) := by
  refine returnsInHanded_of_change_and (C := Tryd.checked) (X := fun w _ => laidMetH Tryd.prog Rows.fnConversionsRow.laid w) (fun _ _ _ hh h => h.of_heap hh) own started (by kernel_rfl) Tryd.func4
    (ChangeSpec.witness_shaped (enc := enc) (C := Tryd.checked) (os := os) (X := fun w _ => laidMetH Tryd.prog Rows.fnConversionsRow.laid w) false (World.doorLaid Tryd.prog 400 os) #[.slice none 0 0] 8 rfl (World.shaped_of_RefB (by kernel_rfl) (by kernel_rfl)) (by kernel_rfl) (by kernel_rfl) (by kernel_rfl) (FnConversions_met os _)) ?_
  intro W base args ds gs before hval0 hW _ _ hL _
  have hT : Pow (vis W) := pow_of (by kernel_rfl) (by rw [MakeChecks.laidMetH_plain _ _ _ (by kernel_rfl)] at hL; exact hL)
  have hE : Env (vis W) := env_of hT (by kernel_rfl) (by kernel_rfl) (by rw [MakeChecks.laidMetH_plain _ _ _ (by kernel_rfl)] at hL; exact hL)
  have hval : ∀ (j : Nat) t v, Tryd.f4.params[j]? = some t → args[j]? = some v → Value.okWide Tryd.prog W .any base t v := hval0
  have hW' := hW
  obtain ⟨p, q, hA0, hV, rfl, _, _⟩ := hW
  have hA : DataW.TrodAll enc Tryd.prog W 0 (fun _ => true) true Tryd.f4.params.toList args.toList ds p := hA0
  rw [Tryd.params4] at hA hval
  obtain ⟨v0, vs0, d0, ds0, p0, q0, hargs, rfl, rfl, h0, r0⟩ := trodAll_cons hA
  obtain ⟨rfl, rfl, rfl⟩ := trodAll_nil r0
  obtain rfl : args = #[v0] := by cases args; simp_all
  obtain ⟨rfl, rfl⟩ := trodVars_none hV
  obtain ⟨_, _, _, rfl⟩ := okWide_slice Tryd.underlying22 (hval 0 22 v0 rfl rfl)
  obtain ⟨a0, e0⟩ := openB h0 rfl
  clear hA0 hval0
  simp only [List.append_nil] at hW'
  exact (to_below (FnConversions_law a0 _ _ e0 hE)).mono fun e W' ⟨he, hb⟩ => ⟨_, he, law_post laidOut (by kernel_rfl) rfl Tryd.underlying4 rfl hW' rfl rfl rfl hb⟩
theorem FnConversions_proved : Rows.FnConversionsSaid :=
  OpenClaim.holds_of_wide 4 Tryd.f4 rfl rfl rfl rfl rfl rfl rfl ⟨rfl, rfl, rfl, rfl, rfl⟩ rfl rfl rfl rfl rfl (by kernel_rfl) Tryd.func4 (by kernel_rfl)
    (of_decide_eq_true (by kernel_rfl)) (by unfold Func.isWrapper; first | (rw [if_pos (by decide +kernel)]; kernel_rfl) | (rw [if_neg (by decide +kernel)]; exact ⟨rfl, rfl⟩))
    (fun os started H enc _ => FnConversions_lifted os started H enc)
theorem FnConversions_card : Rows.FnConversionsCardSaid :=
  Claim7.holds_tied_plain_at .later [] Rows.fnConversionsCard.laidKinds true Rows.fnConversionsCard.stood.harness Rows.fnConversionsCard.stood.looks
    FnConversions_proved (fun _ h => by cases h) (by kernel_rfl) (fun _ h => by cases h) fnConversions_row_tie rfl ⟨rfl, rfl⟩ (by kernel_rfl) rfl
    (fun f fn hf hfn => by
      obtain rfl : f = 4 := Option.some.inj ((show Tryd.prog.funcNamed Rows.fnConversionsRow.func = some 4 by kernel_rfl).symm.trans hf) |>.symm
      obtain rfl : fn = Tryd.f4 := (Option.some.inj (Tryd.func4.symm.trans hfn)).symm
      exact ⟨by kernel_rfl, fun j t ht => by
        rw [Tryd.params4] at ht
        have hm : t ∈ [22] := by simpa using Array.mem_of_getElem? ht
        have hall : ([22].all fun u => !Tryd.prog.wantsStandIn u) = true := by kernel_rfl
        exact (show Tryd.prog.wantsStandIn t = false by simpa using List.all_eq_true.1 hall t hm)⟩)
    (by kernel_rfl)
end Go.Proofs.YtconhonjkfpfmaaDoor
